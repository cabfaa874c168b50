/-
  The contract of calm's Next; conditions: the windows from 0 to 60, at most 61 numbers kept.
-/
import Derived.Test.YtojiighogjfgjaaObj
import Derived.Deep.DeepCutAuto
namespace Go.Proofs.Ytojiighogjfgjaa
open Go.RowKit

theorem int_val {k : IntKind} {a b : Int} (h : a = b) : Value.int k a = Value.int k b := by rw [h]
def clamp (x : Int) : Int := min (max x 0) 1000000
/-- What is kept behind Next. -/
def keptL (u d : Int) (l : List Int) (want : Int) : List Int := lastN (max u d) (l ++ [clamp want])
/-- What Next answers, of what is kept behind it. -/
def outF (u d : Int) (l : List Int) (count : Int) : Int := min (maxL (lastN d l)) (max (clamp count) (minL (lastN u l)))

theorem keptL_length (u d : Int) (l : List Int) (want : Int) (h1 : 0 ≤ u) (h2 : u ≤ 60) (h3 : 0 ≤ d) (h4 : d ≤ 60) : 0 < (keptL u d l want).length ∧ (keptL u d l want).length ≤ 61 := by
  unfold keptL lastN
  rw [List.length_drop, List.length_append]
  simp
  omega

theorem maxs_any (v : Value) (l : List Int) (w : World) (h : Ints w v l) (h0 : 0 < l.length) (hl : l.length ≤ 100000) :
    Calls Try.prog 21 #[v] w fun e w' => e = .returned (.int .i64 (maxL l)) ∧ w' = w := by
  match l, h, h0, hl with
  | x :: l, h, _, hl => exact max_any v x l w h (by simp at hl; omega)
theorem mins_any (v : Value) (l : List Int) (w : World) (h : Ints w v l) (h0 : 0 < l.length) (hl : l.length ≤ 100000) :
    Calls Try.prog 22 #[v] w fun e w' => e = .returned (.int .i64 (minL l)) ∧ w' = w := by
  match l, h, h0, hl with
  | x :: l, h, _, hl => exact min_any v x l w h (by simp at hl; omega)

theorem lastN_le (n : Int) (l : List Int) : (lastN n l).length ≤ l.length := by
  unfold lastN
  rw [List.length_drop]
  omega

/-- Behind the append. -/
theorem behind_append {w1 w2 : World} {b f : Nat} {u d x R : Int} {l : List Int} {v v' o : Value} {t : TypeId} (hv : w1.heap[b]? = some (.cells #[.int .i64 u, .int .i64 d, v, .int .i64 R] 44 (0, 0))) (ho : w1.ownsRow (b + 1) 3 1 v l.length (l.map (Value.int .i64))) (hf : v.ownBlock.getD b = f)
    (hown : w2.ownsRow (b + 1) 3 1 v' (l.length + 1) (l.map (Value.int .i64) ++ [.int .i64 x])) (hgrow : (w1.alloc (.cells #[o] t)).grownBy w2 v.ownBlock) :
    ∃ g cap, v' = .slice (some ⟨g, 0, none⟩) (l.length + 1) cap ∧ w2.heap[b]? = some (.cells #[.int .i64 u, .int .i64 d, v, .int .i64 R] 44 (0, 0)) ∧ Fr b f w1 w2 ∧
      w2.cell? ⟨b, 2, none⟩ = some v ∧ w2.frozen? ⟨b, 2, none⟩ = false ∧ w2.ownsRow (b + 1) 3 1 v' (l ++ [x]).length ((l ++ [x]).map (Value.int .i64)) := by
  have hlt := lt_of_block hv
  have hm2 : w2.heap[b]? = some (.cells #[.int .i64 u, .int .i64 d, v, .int .i64 R] 44 (0, 0)) := by
    rw [hgrow.block b (by simp; omega) (fun e => by have := ho.lt b e.symm; omega), Below.heap_alloc _ _ _ hlt]
    exact hv
  have hb : Fr b f w1 w2 := ⟨hgrow.os, hgrow.tape, hgrow.output, by have := hgrow.size; simp at this; omega, fun k hk h1 h2 => by
    rw [hgrow.block k (by simp; omega) (fun e => by rw [← e] at hf; simp at hf; exact h2 hf), Below.heap_alloc _ _ _ hk]⟩
  have e : w2.ownsRow (b + 1) 3 1 v' (l ++ [x]).length ((l ++ [x]).map (Value.int .i64)) := by
    rw [show (l ++ [x]).length = l.length + 1 from by simp, show (l ++ [x]).map (Value.int .i64) = l.map (Value.int .i64) ++ [.int .i64 x] from by simp]
    exact hown
  rcases hown.2 with ⟨_, hn⟩ | ⟨g, cap, cur, rfl, hg, _⟩
  · omega
  · exact ⟨g, cap, rfl, hm2, hb, by simp [World.cell?, hm2], by simp [World.frozen?, hm2], e⟩

theorem ownsRow_less {w : World} {base base' : Nat} {e : TypeId} {size : Nat} {v : Value} {n : Nat} {xs : List Value} (h : w.ownsRow base e size v n xs) (hb : base' ≤ base) : w.ownsRow base' e size v n xs := by
  refine ⟨h.1, ?_⟩
  rcases h.2 with h2 | ⟨g, cap, cur, rfl, hg, rest⟩
  · exact .inl h2
  · exact .inr ⟨g, cap, cur, rfl, by omega, rest⟩

theorem _root_.Go.RowKit.Below.of_drewN {B : Nat} {a w : World} {n : Nat} (h : Below B (a.drewN n) w) : Below B a w := ⟨h.os, h.tape, h.output, h.size, h.block⟩

theorem new_block {w : World} {base : Nat} {e : TypeId} {size : Nat} {v : Value} {n : Nat} {xs : List Value} (b : Nat) (h : w.ownsRow base e size v n xs) : v.ownBlock.getD b = b ∨ base ≤ v.ownBlock.getD b := by
  rcases h.2 with ⟨rfl, _⟩ | ⟨g, cap, cur, rfl, hg, _⟩
  · exact .inl rfl
  · exact .inr hg

theorem ownsRow_shape {w : World} {base : Nat} {e : TypeId} {size : Nat} {v : Value} {n : Nat} {xs : List Value} (h : w.ownsRow base e size v n xs) : ∃ a n c, v = .slice a n c := by
  rcases h.2 with ⟨rfl, _⟩ | ⟨g, cap, cur, rfl, _⟩
  · exact ⟨_, _, _, rfl⟩
  · exact ⟨_, _, _, rfl⟩

set_option maxHeartbeats 1000000 in
theorem next_any (b f : Nat) (u d count want : Int) (l : List Int) (w : World) (h : Rep w b u d l f) (h1 : 0 ≤ u) (h2 : u ≤ 60) (h3 : 0 ≤ d) (h4 : d ≤ 60) (hl : l.length ≤ 61) :
    Calls Try.prog 9 #[.pointer (some ⟨b, 0, none⟩), .int .i64 count, .int .i64 want] w fun e w' => e = .returned (.int .i64 (outF u d (keptL u d l want) count)) ∧ Went w b f u d (keptL u d l want) w' := by
  have H := Lib.hid h
  clear h
  obtain ⟨i0, hi, hz0, hz1, hz2⟩ := info_parts Try.info3
  go_enter Try.func9, Try.ntmps9
  go_wp2_with fail
  refine (add_any b f u d l _ H.out).mono ?_
  rintro e w1 ⟨⟨v1, rfl⟩, r1, b1⟩
  have HB1 := Lib.hid b1
  obtain ⟨v, R, c0, c1, c2, c3, f2, f3, hv, ho, hf⟩ := r1.cells
  have HV := Lib.hid hv
  have HO := Lib.hid ho
  have HF := Lib.hid hf
  clear r1 b1 H hv c0 c1 c3 f3 hf
  go_upto_region 4 with fail
  go_cut [1, 2] (fun s1 s2 wx => s1 = .int .i64 (clamp count) ∧ s2 = .int .i64 (clamp want) ∧ wx = w1)
  case first =>
    go_wp2
    all_goals
      go_meet
      refine ⟨int_val ?_, int_val ?_, rfl⟩
      · unfold clamp
        rename_i p q r t
        first | omega | (split at p <;> first | omega | (split at q <;> first | omega | (split at r <;> first | omega | (split at t <;> omega))))
      · unfold clamp
        rename_i p q r t
        first | omega | (split at p <;> first | omega | (split at q <;> first | omega | (split at r <;> first | omega | (split at t <;> omega))))
  case rest =>
    obtain ⟨rfl, rfl, hw⟩ := hcut
    rw [hw]
    clear hw
    have HL := keptL_length u d l want h1 h2 h3 h4
    have HK := Lib.hid (show keptL u d l want = lastN (max u d) (l ++ [clamp want]) from rfl)
    generalize clamp want = y at *
    go_wp2_with (at_builtin; refine wpList_append_own _ rfl _ _ 22 rfl (b + 1) 3 i0 (.int .i64 0) 1 8 Try.underlying22 hi hz0 hz1 hz2 rfl (by decide) _ _ _ rfl (HO.out.alloc _) ⟨w1.heap.size, 0, none⟩ 1 1 [.int .i64 y] rfl rfl (cell_one_new _ _ _) (fun x hx => by simp at hx; subst hx; rfl) (by unfold maxLen; omega) (by omega) (by have := lt_of_block HV.out; simp; omega) ?_; intro v' w2 hown' hgrow _; obtain ⟨g, cap, hv', hm2, hb2, d2, e2, ho2⟩ := behind_append HV.out HO.out HF.out hown' hgrow; rw [hv'] at ho2 ⊢; have HR2 := Lib.hid (Rep.stored hm2 ho2); have HB2 := Lib.hid ((HB1.out.trans hb2 (.inr (.inl rfl))).setCell 2 (Value.slice (some ⟨g, 0, none⟩) (l.length + 1) cap)); clear hv' hm2 hown' hgrow hb2 ho2 ho c2 f2)
    obtain ⟨w3, hw3⟩ : ∃ w3, w2.setCell ⟨b, 2, none⟩ (Value.slice (some ⟨g, 0, none⟩) (l.length + 1) cap) = w3 := ⟨_, rfl⟩
    rw [hw3] at HR2 HB2 ⊢
    clear hw3 d2 e2
    refine (kept_any b _ u d (l ++ [y]) _ HR2.out h1 h2 h3 h4).mono ?_
    rintro e w4 ⟨rfl, n4, rfl⟩
    have hm0 : 0 ≤ max u d := by omega
    have hm1 : max u d ≤ 60 := by omega
    obtain ⟨v5, hI5, hB5, hC5⟩ := last_any b _ u d (max u d) (l ++ [y]) w3 HR2.out hm0 hm1 (by simp) (by simp; omega)
    have HI5 := Lib.hid hI5
    have HB5 := Lib.hid hB5
    have HC5 := Lib.hid hC5
    clear hI5 hB5 hC5
    go_wp2_with fail
    refine (HC5.out (w3.drewN n4) rfl).mono ?_
    rintro e w5 ⟨rfl, n5, rfl⟩
    go_wp2_with fail
    rw [← HK.out] at HI5
    refine (clone_any v5 (keptL u d l want) (w3.drewN (n4 + n5)) (HI5.out.keep (Nat.le_refl _) fun _ _ => rfl) (by omega)).mono ?_
    rintro e w6 ⟨⟨v6, rfl, ho6⟩, b6⟩
    obtain ⟨v3, R3, _, _, _, _, _, _, hv3, _, _⟩ := HR2.out.cells
    have hlt3 := HR2.out.lt
    have hv6 : w6.heap[b]? = some (.cells #[.int .i64 u, .int .i64 d, v3, .int .i64 R3] 44 (0, 0)) := (b6.block b hlt3).trans hv3
    have c6 : w6.cell? ⟨b, 2, none⟩ = some v3 := by simp [World.cell?, hv6]
    have f6 : w6.frozen? ⟨b, 2, none⟩ = false := by simp [World.frozen?, hv6]
    obtain ⟨a6, k6, p6, hs6⟩ := ownsRow_shape ho6
    rw [hs6] at ho6 ⊢
    have HR7 := Lib.hid (Rep.stored hv6 (ownsRow_less ho6 hlt3))
    have HN7 := Lib.hid (new_block b ho6)
    have HB7 := Lib.hid ((HB2.out.trans (f' := f) (Fr.of_below b6).of_drewN (.inr (.inl rfl))).setCell 2 (.slice a6 k6 p6))
    clear hs6 ho6 hv6 hv3 b6 HR2 HI5 HC5 HB5
    go_wp2_with fail
    obtain ⟨w7, hw7⟩ : ∃ w7, w6.setCell ⟨b, 2, none⟩ (.slice a6 k6 p6) = w7 := ⟨_, rfl⟩
    rw [hw7] at HR7 HB7 ⊢
    clear hw7 c6 f6
    obtain ⟨v8, R8, c80, c81, c82, _, _, _, _, _, _⟩ := HR7.out.cells
    obtain ⟨vd, hId, hBd, hCd⟩ := last_any b _ u d d (keptL u d l want) w7 HR7.out h3 h4 HL.1 (by omega)
    obtain ⟨vu, hIu, hBu, hCu⟩ := last_any b _ u d u (keptL u d l want) w7 HR7.out h1 h2 HL.1 (by omega)
    have hld := lastN_pos (n := d) HL.1
    have hlu := lastN_pos (n := u) HL.1
    have HO := Lib.hid (show outF u d (keptL u d l want) count = min (maxL (lastN d (keptL u d l want))) (max (clamp count) (minL (lastN u (keptL u d l want)))) from rfl)
    have HCd := Lib.hid hCd
    have HCu := Lib.hid hCu
    have hd2 : (lastN d (keptL u d l want)).length ≤ 100000 := Nat.le_trans (lastN_le _ _) (by omega)
    have hu2 : (lastN u (keptL u d l want)).length ≤ 100000 := Nat.le_trans (lastN_le _ _) (by omega)
    have HId := Lib.hid hId
    have HIu := Lib.hid hIu
    clear c82 hBd hBu hCd hCu hId hIu
    go_quiet (first
      | (go_at_call_of 19 (Value.int .i64 d); refine Calls.quiet_of (HCd.out _ ?_); rfl)
      | (go_at_call_of 19 (Value.int .i64 u); refine Calls.quiet_of (HCu.out _ ?_); rfl)
      | (go_at_call 21; refine Calls.quiet_of_same (maxs_any vd (lastN d (keptL u d l want)) _ ?_ hld hd2); exact HId.out.keep (Nat.le_refl _) fun _ _ => rfl)
      | (go_at_call 22; refine Calls.quiet_of_same (mins_any vu (lastN u (keptL u d l want)) _ ?_ hlu hu2); exact HIu.out.keep (Nat.le_refl _) fun _ _ => rfl))
    have HIF := show (if (if clamp count < minL (lastN u (keptL u d l want)) then minL (lastN u (keptL u d l want)) else clamp count) < maxL (lastN d (keptL u d l want)) then (if clamp count < minL (lastN u (keptL u d l want)) then minL (lastN u (keptL u d l want)) else clamp count) else maxL (lastN d (keptL u d l want))) = outF u d (keptL u d l want) count from by
      rw [HO.out]
      omega
    rw [HIF]
    clear HIF
    go_wp2
    all_goals
      go_ret
      refine ⟨rfl, _, HR7.out.drewN _, ?_, HB7.out.drewN _⟩
      rcases HN7.out with h | h
      · exact .inl h
      · have := HB2.out.size
        exact .inr (.inr (Nat.le_trans this h))

end Go.Proofs.Ytojiighogjfgjaa
