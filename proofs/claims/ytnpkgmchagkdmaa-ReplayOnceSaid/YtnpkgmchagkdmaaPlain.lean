/-
  Plain laws of the replay window: its bits are the numbers taken; conditions: the window from 1 to 64, the top from 0 to MaxSeq.
-/
import Derived.Test.YtnpkgmchagkdmaaRep
namespace Go.Proofs.Ytnpkgmchagkdmaa

/-- The window says which numbers were taken. -/
structure Inv (W T : Int) (B : Nat) (tk : Int → Bool) : Prop where
  w1 : 1 ≤ W
  w2 : W ≤ 64
  t0 : 0 ≤ T
  t1 : T ≤ 1099511627776
  bit : ∀ i : Nat, B.testBit i = (decide ((i : Int) < W) && tk (T - i))
  pos : ∀ s, tk s = true → 1 ≤ s ∧ s ≤ T

theorem Inv.lt {W T : Int} {B : Nat} {tk : Int → Bool} (h : Inv W T B tk) : B < 18446744073709551616 := by
  have : B < 2 ^ 64 := Nat.lt_pow_two_of_testBit B fun i hi => by
    rw [h.bit i]
    have := h.w2
    simp
    omega
  simpa using this

theorem Inv.new {W : Int} (h1 : 1 ≤ W) (h2 : W ≤ 64) : Inv W 0 0 (fun _ => false) :=
  ⟨h1, h2, by omega, by omega, fun i => by simp, fun s h => by simp at h⟩

theorem Inv.may {W T : Int} {B : Nat} {tk : Int → Bool} (h : Inv W T B tk) (s : Int) :
    mayF W T B s = decide (1 ≤ s ∧ s ≤ 1099511627776 ∧ T - W < s ∧ tk s = false) := by
  unfold mayF
  by_cases h1 : 1 ≤ s ∧ s ≤ 1099511627776 ∧ T - W < s
  · by_cases h2 : T < s
    · have : tk s = false := by
        cases ht : tk s with
        | false => rfl
        | true => have := h.pos s ht; omega
      simp [h1, h2, this]
    · have hb := h.bit (T - s).toNat
      rw [show T - ((T - s).toNat : Int) = s from by omega] at hb
      have hlt : (((T - s).toNat : Nat) : Int) < W := by omega
      rw [hb]
      simp [h1, h2]
      omega
  · by_cases h2 : 1 ≤ s ∧ s ≤ 1099511627776 ∧ T - W < s ∧ tk s = false
    · exact absurd ⟨h2.1, h2.2.1, h2.2.2.1⟩ h1
    · simp only [h1, h2, decide_false, Bool.false_and]

theorem newB_bit (W : Int) (B1 i : Nat) : (newB W B1).testBit i = ((B1.testBit i && decide (i < W.toNat)) || decide (i = 0)) := by
  unfold newB maskF
  rw [Nat.testBit_or, Nat.testBit_and, Nat.testBit_two_pow_sub_one]
  congr 1
  have := @Nat.testBit_two_pow 0 i
  simp only [Nat.pow_zero] at this
  rw [this]
  by_cases h : i = 0
  · simp [h]
  · simp [h, Ne.symm h]

theorem Inv.take {W T : Int} {B : Nat} {tk : Int → Bool} (h : Inv W T B tk) {s : Int} (hm : mayF W T B s = true) :
    Inv W (max T s) (takeB W T B s) (fun x => x == s || tk x) := by
  rw [h.may s] at hm
  obtain ⟨m1, m2, m3, m4⟩ := of_decide_eq_true hm
  have hw1 := h.w1
  have hw2 := h.w2
  have ht0 := h.t0
  have ht1 := h.t1
  refine ⟨h.w1, h.w2, by omega, by omega, fun i => ?_, fun x hx => ?_⟩
  · unfold takeB
    by_cases h1 : s ≤ T
    · rw [if_pos h1, Nat.testBit_or, Nat.testBit_two_pow, h.bit i, show max T s = T from by omega]
      by_cases h2 : (T - s).toNat = i
      · have e : T - (i : Int) = s := by omega
        have hlt : (i : Int) < W := by omega
        simp [h2, e, hlt]
      · have e : ¬ T - (i : Int) = s := by omega
        rw [show (T - (i : Int) == s) = false from beq_eq_false_iff_ne.2 e]
        simp [h2]
    · rw [if_neg h1, show max T s = s from by omega]
      by_cases h2 : s - T < 64
      · rw [if_pos h2, newB_bit, show (18446744073709551616 : Nat) = 2 ^ 64 from rfl, Nat.testBit_mod_two_pow, Nat.testBit_mul_two_pow, h.bit]
        by_cases h3 : i = 0
        · subst h3
          simp
          omega
        · by_cases h4 : (s - T).toNat ≤ i
          · have e1 : T - ((i - (s - T).toNat : Nat) : Int) = s - i := by omega
            have e2 : ¬ (s - (i : Int) = s) := by omega
            rw [e1]
            by_cases h5 : (i : Int) < W
            · have a1 : i < W.toNat := by omega
              have a2 : i < 64 := by omega
              have a3 : ((i - (s - T).toNat : Nat) : Int) < W := by omega
              simp [h3, h4, e2, h5, a1, a2, a3]
            · have a1 : ¬ i < W.toNat := by omega
              simp [h3, h5, a1]
          · have e2 : ¬ (s - (i : Int) = s) := by omega
            have e3 : tk (s - (i : Int)) = false := by
              cases ht : tk (s - (i : Int)) with
              | false => rfl
              | true => have := h.pos _ ht; omega
            simp [h3, h4, e2, e3]
      · rw [if_neg h2, newB_bit]
        by_cases h3 : i = 0
        · subst h3
          simp
          omega
        · have e2 : ¬ (s - (i : Int) = s) := by omega
          by_cases h5 : (i : Int) < W
          · have e3 : tk (s - (i : Int)) = false := by
              cases ht : tk (s - (i : Int)) with
              | false => rfl
              | true => have := h.pos _ ht; omega
            simp [h3, e2, e3]
          · simp [h3, h5]
  · simp at hx
    rcases hx with hx | hx
    · omega
    · have := h.pos x hx
      omega

end Go.Proofs.Ytnpkgmchagkdmaa
