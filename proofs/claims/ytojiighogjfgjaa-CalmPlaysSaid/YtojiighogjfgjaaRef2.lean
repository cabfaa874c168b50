/-
  The contract of the reference's Next; conditions: windows from 0 to 60, at most 999 numbers kept.
-/
import Derived.Test.YtojiighogjfgjaaRef
namespace Go.Proofs.Ytojiighogjfgjaa
open Go.RowKit

def RWent (w : World) (b f : Nat) (u d : Int) (l' : List Int) (w' : World) : Prop := ∃ f', RRep w' b u d l' f' ∧ (f' = b ∨ f' = f ∨ w.heap.size ≤ f') ∧ Fr b f w w'

theorem RRep.below {w w' : World} {b f : Nat} {u d : Int} {l : List Int} (h : RRep w b u d l f) (hb : Below w.heap.size w w') : RRep w' b u d l f :=
  h.keep hb.size (hb.block b h.lt) (hb.block f h.le.2)

theorem minL_fold (l : List Int) (h : 0 < l.length) : l.foldl min (l.getD 0 0) = minL l := by
  cases l with
  | nil => simp at h
  | cons x l => unfold minL; simp
theorem maxL_fold (l : List Int) (h : 0 < l.length) : l.foldl max (l.getD 0 0) = maxL l := by
  cases l with
  | nil => simp at h
  | cons x l => unfold maxL; simp

theorem Ints.some {w : World} {v : Value} {l : List Int} (h : Ints w v l) (h0 : 0 < l.length) : ∃ g o cap, v = .slice (some ⟨g, o, none⟩) l.length cap ∧ l.length ≤ cap ∧ ∀ k, k < l.length → w.cell? ⟨g, o + k, none⟩ = some (.int .i64 (l.getD k 0)) := by
  rcases h with ⟨_, rfl⟩ | ⟨g, o, cap, hv, hc, _, h⟩
  · simp at h0
  · exact ⟨g, o, cap, hv, hc, h⟩

theorem own_above {w : World} {base : Nat} {e : TypeId} {size : Nat} {v : Value} {n : Nat} {xs : List Value} (h : w.ownsRow base e size v n xs) : ∀ g, v.ownBlock = some g → base ≤ g := fun g hg => (h.lt g hg).1

def RelA (A : List Int) (a0 : Int) (w5 : World) (v9 v11 : Value) (wr : World) : Prop := ∃ k : Nat, k ≤ A.length ∧ v9 = .int .i64 ((A.take k).foldl min a0) ∧ v11 = .int .i64 (k : Int) ∧ wr = w5
def RelB (A : List Int) (a0 : Int) (w5 : World) (v9 v11 : Value) (wr : World) : Prop := ∃ k : Nat, k ≤ A.length ∧ v9 = .int .i64 ((A.take k).foldl max a0) ∧ v11 = .int .i64 (k : Int) ∧ wr = w5

set_option maxRecDepth 100000 in
set_option maxHeartbeats 2000000 in
theorem rnext_any (b f : Nat) (u d count want : Int) (l : List Int) (w : World) (h : RRep w b u d l f) (h1 : 0 ≤ u) (h2 : u ≤ 60) (h3 : 0 ≤ d) (h4 : d ≤ 60) (hl : l.length ≤ 900) :
    Calls Try.prog 15 #[.pointer (some ⟨b, 0, none⟩), .int .i64 count, .int .i64 want] w fun e w' => e = .returned (.int .i64 (outF u d (keptL u d l want) count)) ∧ RWent w b f u d (keptL u d l want) w' := by
  have H := Lib.hid h
  obtain ⟨v, _, _, c2, f2, hv, hi, hf, hle⟩ := h.cells
  have hlt := h.lt
  have c2A : (w.alloc (.cells #[] 3)).cell? ⟨b, 2, none⟩ = some v := (World.cell?_alloc_lt _ _ _ hlt).trans c2
  have HI := Lib.hid (show Ints (w.alloc (.cells #[] 3)) v l from hi.keep (by simp) fun g hg => Below.heap_alloc _ _ _ (hi.block g hg))
  have HO := Lib.hid (World.ownsRow_made (base := w.heap.size) (e := 3) (size := 1) w #[] 0 (Nat.le_refl _) (by unfold maxLen; omega) rfl)
  have HB1 := Lib.hid ((Below.refl w.heap.size w).alloc (Nat.le_refl _) (.cells #[] 3))
  clear h hi hv c2 f2 hf hle
  go_enter Try.func15, Try.ntmps15
  go_wp2_with (at_builtin; refine wpList_append_ints rfl _ _ rfl w.heap.size _ 0 [] rfl HO.out _ l rfl HI.out (by omega) (by omega) (by simp) ?_; intro v2 w2 hown hgrow; simp only [Nat.zero_add, List.nil_append] at hown; have HO2 := Lib.hid hown; have HB2 := Lib.hid (HB1.out.grown hgrow (by simp) (fun k hk => (HO.out.lt k hk).1)); clear hown hgrow)
  refine (rmillion_any want w2).mono ?_
  rintro e w' ⟨rfl, rfl⟩
  have HK := Lib.hid (show keptL u d l want = lastN (max u d) (l ++ [clamp want]) from rfl)
  have HL := keptL_length u d l want h1 h2 h3 h4
  generalize clamp want = y at *
  have HI3 := Lib.hid (ints_lit w' [y] _ rfl)
  have hs2 := HB2.out.size
  go_wp2_with (at_builtin; refine wpList_append_ints rfl _ _ rfl w.heap.size _ l.length _ rfl (HO2.out.alloc _) _ [y] rfl HI3.out (by omega) (by simp) (by simp; omega) ?_; intro v3 w3 hown hgrow; have HO3 := Lib.hid (show w3.ownsRow w.heap.size 3 1 v3 (l ++ [y]).length ((l ++ [y]).map (Value.int .i64)) from by rw [List.map_append, List.length_append]; exact hown); have HB3 := Lib.hid ((HB2.out.alloc (by omega) (.cells #[.int .i64 y] 3)).grown hgrow (by simp; omega) (fun k hk => (HO2.out.lt k hk).1)); clear hown hgrow)
  have HR3 := Lib.hid (H.out.below HB3.out)
  refine (rmost_any b f u d l w3 HR3.out h1 h2 h3 h4).mono ?_
  rintro e w4 ⟨rfl, n4, rfl⟩
  have hI3 := Ints.of_row HO3.out
  have hlenY : (l ++ [y]).length = l.length + 1 := by simp
  obtain ⟨v5, hI5, hB5, hC5⟩ := rlast_any v3 (l ++ [y]) (max u d) w3 hI3 (by omega) (by omega) (by omega) (by omega)
  rw [← HK.out] at hI5
  obtain ⟨g5, o5, cap5, rfl, _, _⟩ := hI5.some HL.1
  have hab := own_above HO3.out
  rw [← hB5] at hab
  have HI5 := Lib.hid hI5
  have HAB := Lib.hid hab
  have HC5 := Lib.hid hC5
  clear hI5 hB5 hC5 hI3 hab
  obtain ⟨vv, _, _, cc2, ff2, hvv, _, _, _⟩ := HR3.out.cells
  go_wp2_with fail
  refine (HC5.out (w3.drewN n4)).mono ?_
  rintro e w5 ⟨rfl, rfl⟩
  have HR7 := Lib.hid (RRep.stored (w := w3.drewN n4) hvv (HI5.out.keep (Nat.le_refl _) fun _ _ => rfl) (fun g hg => Nat.lt_of_lt_of_le hlt (HAB.out g hg)))
  have HB7 := Lib.hid ((Fr.of_below (b := b) (f := f) (belowDrewN HB3.out n4)).setCell 2 (.slice (some ⟨g5, o5, none⟩) (keptL u d l want).length cap5))
  clear hvv
  go_wp2_with fail
  obtain ⟨w7, hw7⟩ : ∃ w7, (w3.drewN n4).setCell ⟨b, 2, none⟩ (.slice (some ⟨g5, o5, none⟩) (keptL u d l want).length cap5) = w7 := ⟨_, rfl⟩
  rw [hw7] at HR7 HB7 ⊢
  clear hw7 cc2 ff2 c2A HI HO HB1 HO2 HB2 HI3 HO3 HB3 HR3 HI5 HC5 HK
  obtain ⟨v8, c80, c81, c82, _, _, hI8, _, _⟩ := HR7.out.cells
  obtain ⟨vu, hIu, _, hCu⟩ := rlast_any v8 (keptL u d l want) u w7 hI8 h1 h2 HL.1 (by omega)
  obtain ⟨vd, hId, _, hCd⟩ := rlast_any v8 (keptL u d l want) d w7 hI8 h3 h4 HL.1 (by omega)
  have hlu := lastN_pos (n := u) HL.1
  have hld := lastN_pos (n := d) HL.1
  have HO := Lib.hid (show outF u d (keptL u d l want) count = min (maxL (lastN d (keptL u d l want))) (max (clamp count) (minL (lastN u (keptL u d l want)))) from rfl)
  have hlu2 : (lastN u (keptL u d l want)).length ≤ 61 := Nat.le_trans (lastN_le _ _) (by omega)
  have hld2 : (lastN d (keptL u d l want)).length ≤ 61 := Nat.le_trans (lastN_le _ _) (by omega)
  generalize lastN u (keptL u d l want) = A at *
  generalize lastN d (keptL u d l want) = B at *
  obtain ⟨gu, ou, capu, rfl, hcapu, hcu⟩ := hIu.some hlu
  obtain ⟨gd, od, capd, rfl, hcapd, hcd⟩ := hId.some hld
  have HCu := Lib.hid hCu
  have HCd := Lib.hid hCd
  have hcu0 := hcu 0 hlu
  have hcd0 := hcd 0 hld
  have HU := Lib.hid hcu
  have HD := Lib.hid hcd
  rw [Nat.add_zero] at hcu0 hcd0
  obtain ⟨a0, ha0⟩ : ∃ a0, A.getD 0 0 = a0 := ⟨_, rfl⟩
  obtain ⟨b0, hb0⟩ : ∃ b0, B.getD 0 0 = b0 := ⟨_, rfl⟩
  rw [ha0] at hcu0
  rw [hb0] at hcd0
  have HA0 := (show Hid (A.getD 0 0 = a0) from ha0)
  have HB0 := (show Hid (B.getD 0 0 = b0) from hb0)
  clear ha0 hb0
  clear hIu hId hCu hCd hI8 hcu hcd
  go_quiet (first
      | (go_at_call_of 26 u; exact Calls.quiet_of_same (HCu.out _))
      | (go_at_call_of 26 d; exact Calls.quiet_of_same (HCd.out _)))
  have HR8 := Lib.hid (HR7.out.drewN nq)
  have HB8 := Lib.hid (HB7.out.drewN nq)
  have HU8 := Lib.hid (show ∀ k, k < A.length → (w7.drewN nq).cell? ⟨gu, ou + k, none⟩ = some (.int .i64 (A.getD k 0)) from HU.out)
  have HD8 := Lib.hid (show ∀ k, k < B.length → (w7.drewN nq).cell? ⟨gd, od + k, none⟩ = some (.int .i64 (B.getD k 0)) from HD.out)
  have hcu8 : (w7.drewN nq).cell? ⟨gu, ou, none⟩ = some (.int .i64 a0) := hcu0
  have hcd8 : (w7.drewN nq).cell? ⟨gd, od, none⟩ = some (.int .i64 b0) := hcd0
  clear hcu0 hcd0 HU HD HR7 c80 c81 c82 HCu HCd
  generalize w7.drewN nq = w8 at *
  clear HB7
  go_wp2_with fail
  go_quiet (fail)
  have HR9 := Lib.hid (HR8.out.drewN nq)
  have HB9 := Lib.hid (HB8.out.drewN nq)
  have HU9 := Lib.hid (show ∀ k, k < A.length → (w8.drewN nq).cell? ⟨gu, ou + k, none⟩ = some (.int .i64 (A.getD k 0)) from HU8.out)
  have HD9 := Lib.hid (show ∀ k, k < B.length → (w8.drewN nq).cell? ⟨gd, od + k, none⟩ = some (.int .i64 (B.getD k 0)) from HD8.out)
  clear hcu8 hcd8 HU8 HD8 HR8
  generalize w8.drewN nq = w9 at *
  clear HB8
  have R1 := Lib.hid (show RelA A a0 w9 (.int .i64 a0) (.int .i64 0) w9 from ⟨0, Nat.zero_le _, rfl, rfl, rfl⟩)
  go_wp2_with fail
  go_loopw [9, 11] (fun v9 v11 wr => RelA A a0 w9 v9 v11 wr) (fun _ i _ => A.length - (intOf i).toNat)
  case atStart => exact R1.out
  case round =>
    clear R1
    obtain ⟨k, hk, rfl, rfl, rfl⟩ := hrel
    by_cases hlt' : k < A.length
    · have hcell := HU9.out k hlt'
      have HF := Lib.hid (foldl_take min a0 A k hlt')
      generalize (A.take k).foldl min a0 = acc at *
      generalize A.getD k 0 = z at *
      go_wp2_with fail
      all_goals
        go_roundw
        case rel =>
          first
            | exact ⟨k + 1, hlt', int_val (by rw [HF.out]; omega), by go_num, rfl⟩
            | ((repeat apply Exists.intro); exact ⟨⟨k + 1, hlt', int_val (by rw [HF.out]; omega), by go_num, rfl⟩, rfl⟩)
        case measure => simp [intOf]; omega
    · have hke : k = A.length := by omega
      subst hke
      rw [List.take_length, ← HA0.out, minL_fold A hlu]
      have R2 := Lib.hid (show RelB B b0 wr (.int .i64 b0) (.int .i64 0) wr from ⟨0, Nat.zero_le _, rfl, rfl, rfl⟩)
      go_wp2_with fail
      go_loopw [10, 12] (fun v9 v11 wx => RelB B b0 wr v9 v11 wx) (fun _ i _ => B.length - (intOf i).toNat)
      case atStart => exact R2.out
      case round =>
        clear R2
        obtain ⟨k, hk, rfl, rfl, rfl⟩ := hrel
        by_cases hlt' : k < B.length
        · have hcell := HD9.out k hlt'
          have HF := Lib.hid (foldl_take max b0 B k hlt')
          generalize (B.take k).foldl max b0 = acc at *
          generalize B.getD k 0 = z at *
          go_wp2_with fail
          all_goals
            go_roundw
            case rel =>
              first
                | exact ⟨k + 1, hlt', int_val (by rw [HF.out]; omega), by go_num, rfl⟩
                | ((repeat apply Exists.intro); exact ⟨⟨k + 1, hlt', int_val (by rw [HF.out]; omega), by go_num, rfl⟩, rfl⟩)
            case measure => simp [intOf]; omega
        · have hke : k = B.length := by omega
          subst hke
          rw [List.take_length, ← HB0.out, maxL_fold B hld]
          go_wp2_with fail
          refine (rmillion_any count _).mono ?_
          rintro e w10 ⟨rfl, rfl⟩
          go_wp2_with fail
          all_goals
            go_ret
            refine ⟨ret_i64 (by rw [HO.out]; omega), _, HR9.out, .inr (.inr (HAB.out g5 rfl)), HB9.out⟩

end Go.Proofs.Ytojiighogjfgjaa
