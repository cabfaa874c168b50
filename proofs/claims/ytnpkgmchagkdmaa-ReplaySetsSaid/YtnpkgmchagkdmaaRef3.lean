/-
  The document's Set, in one contract; conditions: the window from 1 to 64, the bits below 2^64.
-/
import Derived.Test.YtnpkgmchagkdmaaRef2
import Derived.Test.YtnpkgmchagkdmaaPlain
namespace Go.Proofs.Ytnpkgmchagkdmaa
open Go.RowKit

/-- The numbers of the first k bits. -/
def setList (t : Int) (X : Nat) : Nat → List Int
  | 0 => []
  | k + 1 => if X.testBit k = true then setList t X k ++ [t - (k : Int)] else setList t X k

theorem setList_length (t : Int) (X : Nat) : ∀ k, (setList t X k).length ≤ k
  | 0 => by simp [setList]
  | k + 1 => by
    have := setList_length t X k
    unfold setList
    split
    · simp; omega
    · omega

theorem setList_mem (t : Int) (X : Nat) (s : Int) : ∀ k, s ∈ setList t X k ↔ ∃ i : Nat, i < k ∧ X.testBit i = true ∧ s = t - (i : Int)
  | 0 => by simp [setList]
  | k + 1 => by
    have ih := setList_mem t X s k
    unfold setList
    split
    · rename_i hb
      rw [List.mem_append, ih]
      constructor
      · rintro (⟨i, h1, h2, h3⟩ | h)
        · exact ⟨i, by omega, h2, h3⟩
        · simp at h
          exact ⟨k, by omega, hb, h⟩
      · rintro ⟨i, h1, h2, h3⟩
        by_cases e : i = k
        · subst e; right; simp [h3]
        · exact .inl ⟨i, by omega, h2, h3⟩
    · rename_i hb
      rw [ih]
      constructor
      · rintro ⟨i, h1, h2, h3⟩; exact ⟨i, by omega, h2, h3⟩
      · rintro ⟨i, h1, h2, h3⟩
        by_cases e : i = k
        · subst e; exact absurd h2 hb
        · exact ⟨i, by omega, h2, h3⟩

theorem ownsRow_less {w : World} {base base' : Nat} {e : TypeId} {size : Nat} {v : Value} {n : Nat} {xs : List Value} (h : w.ownsRow base e size v n xs) (hb : base' ≤ base) : w.ownsRow base' e size v n xs := by
  refine ⟨h.1, ?_⟩
  rcases h.2 with h2 | ⟨g, cap, cur, rfl, hg, rest⟩
  · exact .inl h2
  · exact .inr ⟨g, cap, cur, rfl, by omega, rest⟩

theorem ownsRow_shape {w : World} {base : Nat} {e : TypeId} {size : Nat} {v : Value} {n : Nat} {xs : List Value} (h : w.ownsRow base e size v n xs) : ∃ a n c, v = .slice a n c := by
  rcases h.2 with ⟨rfl, _⟩ | ⟨g, cap, cur, rfl, _⟩
  · exact ⟨_, _, _, rfl⟩
  · exact ⟨_, _, _, rfl⟩

/-- What Set leaves. -/
def SetPost (m : Nat) (W T : Int) (l : List Int) (t : Int) (X : Nat) (w : World) (e : Ending) (w' : World) : Prop :=
  ((setBad W t X = true ∧ e = .returned (.int .i64 1) ∧ RefRep w' m W T l) ∨ (setBad W t X = false ∧ e = .returned (.int .i64 0) ∧ RefRep w' m W t (setList t X 64))) ∧ Below m w w'

/-- At each round's head. -/
def SetRel (W t : Int) (X : Nat) (w : World) (v i : Value) (wr : World) : Prop :=
  ∃ (k : Nat) (a : Option Addr) (n c : Nat), k ≤ 64 ∧ i = .int .i64 (k : Int) ∧ v = .slice a n c ∧ wr.ownsRow w.heap.size 2 1 v (setList t X k).length ((setList t X k).map (Value.int .i64)) ∧ (∀ j : Nat, j < k → X.testBit j = true → (j : Int) < W ∧ (j : Int) < t) ∧ Below w.heap.size w wr

theorem bad_of (W t : Int) (X : Nat) (hX : X < 18446744073709551616) (hW1 : 1 ≤ W) (hW2 : W ≤ 64) (h : ¬ (0 ≤ t ∧ t ≤ 1099511627776 ∧ (∀ i : Nat, X.testBit i = true → (i : Int) < W ∧ (i : Int) < t) ∧ (X.testBit 0 = true ↔ 0 < t))) : setBad W t X = true := by
  cases hb : setBad W t X with
  | true => rfl
  | false => exact absurd ((setBad_iff W t X hX hW1 hW2).1 hb) h

set_option maxHeartbeats 400000 in
theorem refSet_first (m : Nat) (W T : Int) (l : List Int) (t : Int) (X : Nat) (w : World) (h : RefRep w m W T l) (hW1 : 1 ≤ W) (hW2 : W ≤ 64) (hX : X < 18446744073709551616) (hb : t < 0 ∨ 0 ≤ t ∧ 1099511627776 < t ∨ 0 ≤ t ∧ t ≤ 1099511627776 ∧ (X.testBit 0 = true ∧ ¬ 0 < t ∨ X.testBit 0 = false ∧ 0 < t)) :
    Calls Try.prog 19 #[.pointer (some ⟨m, 0, none⟩), .int .i64 t, .int .u64 X] w (SetPost m W T l t X w) := by
  have hbad : setBad W t X = true := bad_of W t X hX hW1 hW2 (by
    rintro ⟨a, b, c, d⟩
    rcases hb with hb | hb | ⟨_, _, ⟨hb, hb2⟩ | ⟨hb, hb2⟩⟩
    · omega
    · omega
    · exact hb2 (d.1 hb)
    · rw [d.2 hb2] at hb; cases hb)
  have hq := and_mod X hX
  have HH := Lib.hid (And.intro h hbad)
  clear h hbad
  have HX := Lib.hid hX
  clear hX
  rcases hb with hb | ⟨hb0, hb⟩ | ⟨hb0, hb1, ⟨hb, hb2⟩ | ⟨hb, hb2⟩⟩
  · have d1 : decide (t < 0) = true := by simpa using hb
    clear hq
    go_enter Try.func19, Try.ntmps19
    go_wp2_with fail
    go_ret
    exact ⟨.inl ⟨HH.out.2, rfl, HH.out.1⟩, Below.refl _ _⟩
  · have d2 : decide (1099511627776 < t) = true := by simpa using hb
    clear hq
    go_enter Try.func19, Try.ntmps19
    go_wp2_with fail
    go_ret
    exact ⟨.inl ⟨HH.out.2, rfl, HH.out.1⟩, Below.refl _ _⟩
  all_goals
    rw [hb] at hq
    clear hb
    go_enter Try.func19, Try.ntmps19
    go_wp2_with fail
    go_ret
    exact ⟨.inl ⟨HH.out.2, rfl, HH.out.1⟩, Below.refl _ _⟩

set_option maxHeartbeats 1000000 in
theorem refSet_loop (m : Nat) (W T : Int) (l : List Int) (t : Int) (X : Nat) (w : World) (h : RefRep w m W T l) (hW1 : 1 ≤ W) (hW2 : W ≤ 64) (hX : X < 18446744073709551616) (h0 : 0 ≤ t) (h1 : t ≤ 1099511627776) (hb : X.testBit 0 = true ∧ 0 < t ∨ X.testBit 0 = false ∧ ¬ 0 < t) :
    Calls Try.prog 19 #[.pointer (some ⟨m, 0, none⟩), .int .i64 t, .int .u64 X] w (SetPost m W T l t X w) := by
  have hq := and_mod X hX
  have HX := Lib.hid hX
  obtain ⟨v, hv, ho⟩ := h
  have H := Lib.hid (show RefRep w m W T l from ⟨v, hv, ho⟩)
  have hlt := lt_of_block hv
  have HV := Lib.hid hv
  clear ho hv hX
  have h00 : X.testBit 0 = true ↔ 0 < t := by
    rcases hb with ⟨a, b⟩ | ⟨a, b⟩
    · simp [a, b]
    · simp [a, b]
  have H00 := Lib.hid h00
  clear h00
  obtain ⟨i0, hi, hz0, hz1, hz2⟩ := info_parts Try.info2
  have R0 := Lib.hid (show SetRel W t X w (.slice none 0 0) (.int .i64 0) w from ⟨0, _, _, _, by omega, rfl, rfl, World.ownsRow_nil _ _ _ _, fun j hj => absurd hj (Nat.not_lt_zero _), Below.refl _ _⟩)
  rcases hb with ⟨hb, hb2⟩ | ⟨hb, hb2⟩
  all_goals
    rw [hb] at hq
    clear hb
    go_enter Try.func19, Try.ntmps19
    go_wp2_with fail
    go_loopw [7, 8] (fun v i wr => SetRel W t X w v i wr) (fun _ i _ => 64 - (intOf i).toNat)
    case atStart => exact R0.out
    case round =>
      clear R0 hq
      obtain ⟨k, sa, sn, sc, hk, rfl, rfl, hown, hall, hbel⟩ := hrel
      by_cases hlt64 : k < 64
      · have hbit := and_one X k HX.out
        have hlen := setList_length t X k
        have HA := Lib.hid hall
        have HBEL := Lib.hid hbel
        have hm0 : wr.cell? ⟨m, 0, none⟩ = some (.int .i64 W) := by
          rw [hbel.cell (p := ⟨m, 0, none⟩) hlt]
          simp [World.cell?, HV.out]
        have HLS := Lib.hid (show setList t X (k + 1) = if X.testBit k = true then setList t X k ++ [t - (k : Int)] else setList t X k from rfl)
        clear hall hbel
        cases hbk : X.testBit k
        · rw [hbk] at hbit
          have HBK := Lib.hid hbk
          clear hbk
          go_wp2_with fail
          go_roundw
          case rel =>
            refine ⟨k + 1, sa, sn, sc, by omega, by go_num, rfl, ?_, fun j hj hjb => ?_, HBEL.out⟩
            · rw [HLS.out, if_neg (by rw [HBK.out]; simp)]; exact hown
            · by_cases e : j = k
              · subst e; rw [HBK.out] at hjb; cases hjb
              · exact HA.out j (by omega) hjb
          case measure => simp [intOf]; omega
        · rw [hbk] at hbit
          have HBK := Lib.hid hbk
          clear hbk
          by_cases hkW : W ≤ (k : Int)
          · have hbad : setBad W t X = true := bad_of W t X HX.out hW1 hW2 (fun ⟨_, _, c, _⟩ => by have := (c k HBK.out).1; omega)
            have HBAD := Lib.hid hbad
            clear hbad
            go_wp2_with fail
            go_ret
            exact ⟨.inl ⟨HBAD.out, rfl, H.out.keep fun k _ hk => HBEL.out.block k hk⟩, HBEL.out.mono (Nat.le_of_lt hlt)⟩
          · have hkW2 : (k : Int) < W := by omega
            by_cases hkt : t - (k : Int) < 1
            · have hbad : setBad W t X = true := bad_of W t X HX.out hW1 hW2 (fun ⟨_, _, c, _⟩ => by have := (c k HBK.out).2; omega)
              have HBAD := Lib.hid hbad
              clear hbad
              go_wp2_with fail
              go_ret
              exact ⟨.inl ⟨HBAD.out, rfl, H.out.keep fun k _ hk => HBEL.out.block k hk⟩, HBEL.out.mono (Nat.le_of_lt hlt)⟩
            · have hkt2 : 1 ≤ t - (k : Int) := by omega
              have hsz := HBEL.out.size
              have HOWN := Lib.hid hown
              go_wp2_with (at_builtin; refine wpList_append_own _ rfl _ _ 22 rfl w.heap.size 2 i0 (.int .i64 0) 1 8 Try.underlying22 hi hz0 hz1 hz2 rfl (by decide) _ _ _ rfl (hown.alloc _) ⟨wr.heap.size, 0, none⟩ 1 1 [.int .i64 (t - (k : Int))] rfl rfl (cell_one_new _ _ _) (fun x hx => by simp at hx; subst hx; rfl) (by unfold maxLen; omega) (by omega) (by simp; omega) ?_; intro v' w2 hown' hgrow _; have HOWN2 := Lib.hid hown'; have HB2 := Lib.hid ((HBEL.out.alloc hsz _).grown hgrow (by simp; omega) (fun k hk => (HOWN.out.lt k hk).1)); clear hown' hgrow hm0 hown)
              all_goals
                go_roundw
                case rel =>
                  obtain ⟨ta, tn, tc, htv⟩ := ownsRow_shape HOWN2.out
                  refine ⟨k + 1, ta, tn, tc, by omega, by go_num, htv, ?_, fun j hj hjb => ?_, HB2.out⟩
                  · rw [HLS.out, if_pos HBK.out, show (setList t X k ++ [t - (k : Int)]).length = (setList t X k).length + 1 from by simp, show (setList t X k ++ [t - (k : Int)]).map (Value.int .i64) = (setList t X k).map (Value.int .i64) ++ [.int .i64 (t - (k : Int))] from by simp]
                    exact HOWN2.out
                  · by_cases e : j = k
                    · subst e; omega
                    · exact HA.out j (by omega) hjb
                case measure => simp [intOf]; omega
      · obtain rfl : k = 64 := by omega
        have hok : setBad W t X = false := (setBad_iff W t X HX.out hW1 hW2).2 ⟨h0, h1, fun i hi => hall i (by
          apply Nat.lt_of_not_le
          intro h64
          have : X.testBit i = false := Nat.testBit_lt_two_pow (Nat.lt_of_lt_of_le HX.out (by
            have : 2 ^ 64 ≤ 2 ^ i := Nat.pow_le_pow_right (by omega) h64
            simpa using this))
          rw [this] at hi
          cases hi) hi, H00.out⟩
        have HOK := Lib.hid hok
        have hm1 : wr.heap[m]? = some (.cells #[.int .i64 W, .int .i64 T, v] 29 (0, 0)) := (hbel.block m hlt).trans HV.out
        have c1 : wr.cell? ⟨m, 1, none⟩ = some (.int .i64 T) := by simp [World.cell?, hm1]
        have c2 : wr.cell? ⟨m, 2, none⟩ = some v := by simp [World.cell?, hm1]
        have f1 : wr.frozen? ⟨m, 1, none⟩ = false := by simp [World.frozen?, hm1]
        have f2 : wr.frozen? ⟨m, 2, none⟩ = false := by simp [World.frozen?, hm1]
        have HM := Lib.hid hm1
        have HOWN := Lib.hid hown
        have HBEL := Lib.hid hbel
        clear hm1 hown hall hbel hok
        go_wp2_with fail
        go_ret
        refine ⟨.inr ⟨HOK.out, rfl, ?_⟩, ((HBEL.out.mono (Nat.le_of_lt hlt)).setCell (p := ⟨m, 1, none⟩) (Nat.le_refl _) _).setCell (p := ⟨m, 2, none⟩) (Nat.le_refl _) _⟩
        exact ⟨.slice sa sn sc, by rw [heap_store _ (heap_store _ HM.out)]; rfl, ownsRow_setCell_below (ownsRow_setCell_below (ownsRow_less HOWN.out hlt) (a := ⟨m, 1, none⟩) (Nat.lt_succ_self _) _) (a := ⟨m, 2, none⟩) (Nat.lt_succ_self _) _⟩

/-- The document's Set. -/
theorem refSet_any (m : Nat) (W T : Int) (l : List Int) (t : Int) (X : Nat) (w : World) (h : RefRep w m W T l) (hW1 : 1 ≤ W) (hW2 : W ≤ 64) (hX : X < 18446744073709551616) :
    Calls Try.prog 19 #[.pointer (some ⟨m, 0, none⟩), .int .i64 t, .int .u64 X] w (SetPost m W T l t X w) := by
  by_cases h0 : 0 ≤ t
  · by_cases h1 : t ≤ 1099511627776
    · cases hb : X.testBit 0 <;> by_cases h2 : 0 < t
      · exact refSet_first m W T l t X w h hW1 hW2 hX (.inr (.inr ⟨h0, h1, .inr ⟨hb, h2⟩⟩))
      · exact refSet_loop m W T l t X w h hW1 hW2 hX h0 h1 (.inr ⟨hb, h2⟩)
      · exact refSet_loop m W T l t X w h hW1 hW2 hX h0 h1 (.inl ⟨hb, h2⟩)
      · exact refSet_first m W T l t X w h hW1 hW2 hX (.inr (.inr ⟨h0, h1, .inl ⟨hb, h2⟩⟩))
    · exact refSet_first m W T l t X w h hW1 hW2 hX (.inr (.inl ⟨h0, by omega⟩))
  · exact refSet_first m W T l t X w h hW1 hW2 hX (.inl (by omega))

end Go.Proofs.Ytnpkgmchagkdmaa
