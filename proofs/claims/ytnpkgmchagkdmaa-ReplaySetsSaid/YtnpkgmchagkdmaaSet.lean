import Derived.Test.YtnpkgmchagkdmaaRep
namespace Go.Proofs.Ytnpkgmchagkdmaa
open Go.RowKit

/-- Set's test, as the code has it. -/
def setBad (W t : Int) (X : Nat) : Bool :=
  decide (t < 0) || decide (1099511627776 < t) || (bits BinOp.andNot IntKind.u64 (X : Int) (maskF W : Int) != 0) || (decide (0 < t) != (bits BinOp.and IntKind.u64 (X : Int) 1 == 1)) || (decide (t < 64) && ((X : Int) / 2 ^ t.toNat != 0))

set_option maxHeartbeats 400000 in
theorem set_bad (b : Nat) (W T : Int) (B : Nat) (t : Int) (X : Nat) (w : World) (h : Rep w b W T B) (hW1 : 1 ≤ W) (hW2 : W ≤ 64) (hX : X < 18446744073709551616) (hbad : setBad W t X = true) :
    Calls Try.prog 18 #[.pointer (some ⟨b, 0, none⟩), .int .i64 t, .int .u64 X] w fun e w' => e = .returned (.int .i64 1) ∧ w = w' := by
  have hm := fun w' (h : Rep w' b W T B) => mask_any b W T B w' h hW1 hW2
  have HM := Lib.hid hm
  have H := (show Hid (Rep w b W T B) from h)
  clear h hm
  have HX := (show Hid (X < 18446744073709551616) from hX)
  clear hX
  have HB := Lib.hid hbad
  clear hbad
  by_cases h1 : t < 0
  · have d1 : decide (t < 0) = true := by simpa using h1
    go_enter Try.func18, Try.ntmps18
    go_wp2_with fail
    go_ret
    exact ⟨rfl, rfl⟩
  have d1 : decide (t < 0) = false := by simpa using h1
  by_cases h2 : 1099511627776 < t
  · have d2 : decide (1099511627776 < t) = true := by simpa using h2
    go_enter Try.func18, Try.ntmps18
    go_wp2_with fail
    go_ret
    exact ⟨rfl, rfl⟩
  have d2 : decide (1099511627776 < t) = false := by simpa using h2
  cases q3 : (bits BinOp.andNot IntKind.u64 (X : Int) (maskF W : Int) != 0)
  case true =>
    go_enter Try.func18, Try.ntmps18
    go_wp2_with fail
    refine (HM.out _ H.out).mono ?_
    rintro e w' ⟨rfl, rfl⟩
    go_wp2_with fail
    go_ret
    exact ⟨rfl, rfl⟩
  cases q4a : decide (0 < t) <;> cases q4b : (bits BinOp.and IntKind.u64 (X : Int) 1 == 1)
  case false.true | true.false =>
    go_enter Try.func18, Try.ntmps18
    go_wp2_with fail
    refine (HM.out _ H.out).mono ?_
    rintro e w' ⟨rfl, rfl⟩
    go_wp2_with fail
    go_ret
    exact ⟨rfl, rfl⟩
  all_goals
    by_cases h5 : t < 64
    case neg => exact absurd HB.out (by unfold setBad; simp [d1, d2, q3, q4a, q4b, h5])
    have d5 : decide (t < 64) = true := by simpa using h5
    cases q6 : ((X : Int) / 2 ^ t.toNat != 0)
    case false => exact absurd HB.out (by unfold setBad; simp [d1, d2, q3, q4a, q4b, h5, q6])
    have ht0 : 0 ≤ t := by omega
    go_enter Try.func18, Try.ntmps18
    go_wp2_with fail
    refine (HM.out _ H.out).mono ?_
    rintro e w' ⟨rfl, rfl⟩
    go_wp2_with fail
    go_ret
    exact ⟨rfl, rfl⟩

set_option maxHeartbeats 400000 in
theorem set_ok (b : Nat) (W T : Int) (B : Nat) (t : Int) (X : Nat) (w : World) (h : Rep w b W T B) (hW1 : 1 ≤ W) (hW2 : W ≤ 64) (hX : X < 18446744073709551616) (hbad : setBad W t X = false) :
    Calls Try.prog 18 #[.pointer (some ⟨b, 0, none⟩), .int .i64 t, .int .u64 X] w fun e w' => e = .returned (.int .i64 0) ∧ Rep w' b W t X ∧ Touch b w w' := by
  have HM := Lib.hid (fun w' (h : Rep w' b W T B) => mask_any b W T B w' h hW1 hW2)
  have H := (show Hid (Rep w b W T B) from h)
  obtain ⟨R, c0, c1, c2, c3⟩ := h.cells
  have f2 := h.free 2
  have f1 := h.free 1
  clear h
  have HX := (show Hid (X < 18446744073709551616) from hX)
  clear hX
  unfold setBad at hbad
  simp only [Bool.or_eq_false_iff] at hbad
  obtain ⟨⟨⟨⟨d1, d2⟩, q3⟩, q4⟩, q5⟩ := hbad
  have ht0 : 0 ≤ t := by simpa using d1
  have ht1 : t ≤ 1099511627776 := by simpa using d2
  have HQ := (show Hid ((decide (t < 64) && ((X : Int) / 2 ^ t.toNat != 0)) = false) from q5)
  clear q5
  cases q4a : decide (0 < t) <;> cases q4b : (bits BinOp.and IntKind.u64 (X : Int) 1 == 1)
  case false.true => rw [q4a, q4b] at q4; cases q4
  case true.false => rw [q4a, q4b] at q4; cases q4
  all_goals
    clear q4
    by_cases h5 : t < 64
    · have d5 : decide (t < 64) = true := by simpa using h5
      have q6 : ((X : Int) / 2 ^ t.toNat != 0) = false := by simpa [d5] using HQ.out
      go_enter Try.func18, Try.ntmps18
      go_wp2_with fail
      refine (HM.out _ H.out).mono ?_
      rintro e w' ⟨rfl, rfl⟩
      go_wp2_with fail
      go_ret
      exact ⟨rfl, (H.out.set1 t).set2 X, ((Touch.refl _ _).setCell _).setCell _⟩
    · have d5 : decide (t < 64) = false := by simpa using h5
      go_enter Try.func18, Try.ntmps18
      go_wp2_with fail
      refine (HM.out _ H.out).mono ?_
      rintro e w' ⟨rfl, rfl⟩
      go_wp2_with fail
      go_ret
      exact ⟨rfl, (H.out.set1 t).set2 X, ((Touch.refl _ _).setCell _).setCell _⟩

end Go.Proofs.Ytnpkgmchagkdmaa
