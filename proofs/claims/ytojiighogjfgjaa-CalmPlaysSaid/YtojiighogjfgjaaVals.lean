/-
  Slices that came in, empty ones that are not nil too: Set of both objects over them; conditions: at most 1000 numbers, windows from 0 to 60.
-/
import Derived.Test.YtojiighogjfgjaaRef2
namespace Go.Proofs.Ytojiighogjfgjaa
open Go.RowKit

def Vals (w : World) (v : Value) (zs : List Int) : Prop := Ints w v zs ∨ ∃ x cap, v = .slice (some x) 0 cap ∧ zs = []

theorem Vals.below {w w' : World} {v : Value} {zs : List Int} (h : Vals w v zs) (hb : Below w.heap.size w w') : Vals w' v zs := by
  rcases h with h | h
  · exact .inl (h.below hb h.block)
  · exact .inr h
theorem Vals.drewN {w : World} {v : Value} {zs : List Int} (h : Vals w v zs) (n : Nat) : Vals (w.drewN n) v zs := by
  rcases h with h | h
  · exact .inl (h.keep (Nat.le_refl _) fun _ _ => rfl)
  · exact .inr h

theorem IsRow.vals {w : World} {a : Option Addr} {len cap : Nat} {zs : List Int} (h : IsRow .i64 w a len cap zs) : Vals w (.slice a len cap) (zs.take len) ∧ (zs.take len).length = len := by
  have hlen : (zs.take len).length = len := by
    rcases h with ⟨rfl, rfl, rfl, rfl⟩ | ⟨x, rfl, hl, hm, hz, _⟩
    · rfl
    · rw [List.length_take]; omega
  refine ⟨?_, hlen⟩
  by_cases h0 : len = 0
  · rcases h with ⟨rfl, rfl, rfl, rfl⟩ | ⟨x, rfl, _⟩
    · exact .inl (.inl ⟨rfl, rfl⟩)
    · subst h0
      exact .inr ⟨x, cap, rfl, rfl⟩
  · have hlc : len ≤ cap := by
      rcases h with ⟨_, h, _, _⟩ | ⟨_, _, h, _⟩ <;> omega
    rcases h.cases with h | ⟨xb, xo, rfl, _, hb, hc, _⟩
    · exact absurd h h0
    · refine .inl (.inr ⟨xb, xo, cap, by rw [hlen], by rw [hlen]; exact hlc, hb, fun k hk => ?_⟩)
      rw [hlen] at hk
      rw [hc k hk, List.getD_eq_getElem?_getD, List.getD_eq_getElem?_getD, List.getElem?_take_of_lt hk]

theorem Vals.shape {w : World} {v : Value} {zs : List Int} (h : Vals w v zs) : ∃ a c, v = .slice a zs.length c := by
  rcases h with (⟨rfl, rfl⟩ | ⟨g, o, cap, rfl, _⟩) | ⟨x, cap, rfl, rfl⟩
  · exact ⟨_, _, rfl⟩
  · exact ⟨_, _, rfl⟩
  · exact ⟨_, _, rfl⟩

set_option maxHeartbeats 400000 in
theorem clone_vals (v : Value) (zs : List Int) (w : World) (h : Vals w v zs) (hl : zs.length ≤ 100000) :
    Calls Try.prog 18 #[v] w fun e w' => (∃ v', e = .returned v' ∧ w'.ownsRow w.heap.size 3 1 v' zs.length (zs.map (Value.int .i64))) ∧ Below w.heap.size w w' := by
  rcases h with h | ⟨x, cap, rfl, rfl⟩
  · exact clone_any v zs w h hl
  · have heq := fun w a l c => Lib.run_eql_slice_nil (P := Try.prog) w 22 3 a l c 0 0 Try.underlying22
    obtain ⟨i0, hi, hz0, hz1, hz2⟩ := info_parts Try.info3
    have hown := World.ownsRow_made (base := w.heap.size) (e := 3) (size := 1) w #[] 0 (Nat.le_refl _) (by unfold maxLen; omega) rfl
    have HO := Lib.hid hown
    have hb1 := Lib.hid ((Below.refl w.heap.size w).alloc (Nat.le_refl _) (.cells #[] 3))
    clear hown
    go_enter Try.func18, Try.ntmps18
    go_wp2_with (at_builtin; refine wpList_append_own _ rfl _ _ 22 rfl w.heap.size 3 i0 (.int .i64 0) 1 8 Try.underlying22 hi hz0 hz1 hz2 rfl (by decide) _ _ _ rfl HO.out x 0 cap [] rfl (by simp) (fun j u hu => by simp at hu) (fun x hx => by simp at hx) (by unfold maxLen; omega) (by omega) (by simp) ?_; intro v' w2 hown' hgrow _; simp only [Nat.zero_add, List.nil_append] at hown'; have HO2 := Lib.hid hown'; have HB2 := Lib.hid (hb1.out.grown hgrow (by simp) (fun k hk => (HO.out.lt k hk).1)); clear hown' hgrow)
    go_ret
    exact ⟨⟨_, rfl, HO2.out⟩, HB2.out⟩

set_option maxHeartbeats 400000 in
theorem contains_vals (v : Value) (l : List Int) (w : World) (h : Vals w v l) (hl : l.length ≤ 100000) :
    Calls Try.prog 23 #[v, .func (.func 24) #[] #[]] w fun e w' => e = .returned (.bool (badL l)) ∧ w = w' := by
  rcases h with h | ⟨x, cap, rfl, rfl⟩
  · exact contains_any v l w h hl
  · have hidx : Calls Try.prog 29 #[.slice (some x) 0 cap, .func (.func 24) #[] #[]] w (IdxPost [] w) := by
      go_enter Try.func29, Try.ntmps29
      go_wp2
      refine wp_loop_rounds 1 ?_
      rw [rounds_succ]
      go_wp2
      go_ret
      exact ⟨-1, rfl, rfl, rfl⟩
    have HX := Lib.hid hidx
    clear hidx
    go_enter Try.func23, Try.ntmps23
    go_wp2_with fail
    refine HX.out.mono ?_
    rintro e w' ⟨i, rfl, hi, rfl⟩
    have HI := Lib.hid hi
    clear hi
    go_wp2_with fail
    go_ret
    exact ⟨ret_bool HI.out, rfl⟩

set_option maxHeartbeats 400000 in
theorem set_vals (b f : Nat) (u d : Int) (l x : List Int) (v : Value) (w : World) (h : Rep w b u d l f) (h1 : 0 ≤ u) (h2 : u ≤ 60) (h3 : 0 ≤ d) (h4 : d ≤ 60) (hv : Vals w v x) (hlen : (x.length : Int) ≤ max u d + 1) :
    Calls Try.prog 10 #[.pointer (some ⟨b, 0, none⟩), v] w fun e w' => e = .returned (.int .i64 (codeS (badL x))) ∧ Went w b f u d (setL (badL x) l x) w' := by
  have H := Lib.hid h
  have HX := Lib.hid hv
  have hlx : x.length ≤ 61 := by omega
  have hd : decide (max u d + 1 < (x.length : Int)) = false := by simp; omega
  obtain ⟨va, vc, rfl⟩ := hv.shape
  clear h hv
  go_enter Try.func10, Try.ntmps10
  go_wp2_with fail
  refine (kept_any b f u d l _ H.out h1 h2 h3 h4).mono ?_
  rintro e w' ⟨rfl, n1, rfl⟩
  go_wp2_with fail
  refine (contains_vals _ x (w.drewN n1) (HX.out.drewN n1) (by omega)).mono ?_
  rintro e w' ⟨rfl, rfl⟩
  cases hb : badL x
  · go_wp2_with fail
    refine (clone_vals _ x (w.drewN n1) (HX.out.drewN n1) (by omega)).mono ?_
    rintro e w6 ⟨⟨v6, rfl, ho6⟩, b6⟩
    obtain ⟨v3, R3, _, _, _, _, _, _, hv3, _, _⟩ := H.out.cells
    have hlt3 := H.out.lt
    have hv6 : w6.heap[b]? = some (.cells #[.int .i64 u, .int .i64 d, v3, .int .i64 R3] 44 (0, 0)) := (b6.block b hlt3).trans hv3
    have c6 : w6.cell? ⟨b, 2, none⟩ = some v3 := by simp [World.cell?, hv6]
    have f6 : w6.frozen? ⟨b, 2, none⟩ = false := by simp [World.frozen?, hv6]
    obtain ⟨a6, k6, p6, hs6⟩ := ownsRow_shape ho6
    rw [hs6] at ho6 ⊢
    have HR7 := Lib.hid (Rep.stored hv6 (ownsRow_less ho6 hlt3))
    have HN7 := Lib.hid (new_block b ho6)
    have HB7 := Lib.hid ((Fr.of_below (b := b) (f := f) b6).of_drewN.setCell 2 (.slice a6 k6 p6))
    clear hs6 ho6 hv6 hv3 b6
    go_wp2_with fail
    go_ret
    rw [hb]
    refine ⟨rfl, _, HR7.out, ?_, HB7.out⟩
    rcases HN7.out with h | h
    · exact .inl h
    · exact .inr (.inr h)
  · go_wp2_with fail
    go_ret
    rw [hb]
    exact ⟨rfl, f, H.out.drewN _, .inr (.inl rfl), (Fr.refl _ _ _).drewN _⟩

/-- What both Sets answer and leave. -/
theorem set_all (b f : Nat) (u d : Int) (l x : List Int) (v : Value) (w : World) (h : Rep w b u d l f) (h1 : 0 ≤ u) (h2 : u ≤ 60) (h3 : 0 ≤ d) (h4 : d ≤ 60) (hv : Vals w v x) (hm : x.length ≤ 100) :
    Calls Try.prog 10 #[.pointer (some ⟨b, 0, none⟩), v] w fun e w' => e = .returned (.int .i64 (codeS (setBad u d x))) ∧ Went w b f u d (setL (setBad u d x) l x) w' := by
  by_cases hlen : (x.length : Int) ≤ max u d + 1
  · have e : setBad u d x = badL x := by unfold setBad; rw [decide_eq_false (by omega)]; rfl
    rw [e]
    exact set_vals b f u d l x v w h h1 h2 h3 h4 hv hlen
  · have e : setBad u d x = true := by unfold setBad; rw [decide_eq_true (by omega)]; rfl
    rw [e]
    obtain ⟨va, vc, rfl⟩ := hv.shape
    exact set_long b f u d l va x.length vc w h h1 h2 h3 h4 (by omega) (by unfold maxLen; omega)

end Go.Proofs.Ytojiighogjfgjaa
