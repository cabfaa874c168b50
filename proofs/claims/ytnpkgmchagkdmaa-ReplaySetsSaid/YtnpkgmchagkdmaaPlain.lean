/-
  Plain laws of the replay window: its bits are the numbers taken; conditions: the window from 1 to 64, the top from 0 to MaxSeq.
-/
import Derived.Test.YtnpkgmchagkdmaaSet
namespace Go.Proofs.Ytnpkgmchagkdmaa

/-- The window says which numbers were taken. -/
structure Inv (W T : Int) (B : Nat) (tk : Int → Bool) : Prop where
  w1 : 1 ≤ W
  w2 : W ≤ 64
  t0 : 0 ≤ T
  t1 : T ≤ 1099511627776
  bit : ∀ i : Nat, B.testBit i = (decide ((i : Int) < W) && tk (T - i))
  pos : ∀ s, tk s = true → 1 ≤ s ∧ s ≤ T
  top : 0 < T → tk T = true

theorem Inv.lt {W T : Int} {B : Nat} {tk : Int → Bool} (h : Inv W T B tk) : B < 18446744073709551616 := by
  have : B < 2 ^ 64 := Nat.lt_pow_two_of_testBit B fun i hi => by
    rw [h.bit i]
    have := h.w2
    simp
    omega
  simpa using this

theorem Inv.new {W : Int} (h1 : 1 ≤ W) (h2 : W ≤ 64) : Inv W 0 0 (fun _ => false) :=
  ⟨h1, h2, by omega, by omega, fun i => by simp, fun s h => by simp at h, fun h => by omega⟩

theorem Inv.may {W T : Int} {B : Nat} {tk : Int → Bool} (h : Inv W T B tk) (s : Int) :
    mayF W T B s = decide (1 ≤ s ∧ s ≤ 1099511627776 ∧ T - W < s ∧ tk s = false) := by
  unfold mayF
  by_cases h1 : 1 ≤ s ∧ s ≤ 1099511627776 ∧ T - W < s
  · by_cases h2 : T < s
    · have : tk s = false := by
        cases ht : tk s with
        | false => rfl
        | true => have := h.pos s ht; omega
      simp [h1, h2, this]
    · have hb := h.bit (T - s).toNat
      rw [show T - ((T - s).toNat : Int) = s from by omega] at hb
      have hlt : (((T - s).toNat : Nat) : Int) < W := by omega
      rw [hb]
      simp [h1, h2]
      omega
  · by_cases h2 : 1 ≤ s ∧ s ≤ 1099511627776 ∧ T - W < s ∧ tk s = false
    · exact absurd ⟨h2.1, h2.2.1, h2.2.2.1⟩ h1
    · simp only [h1, h2, decide_false, Bool.false_and]

theorem newB_bit (W : Int) (B1 i : Nat) : (newB W B1).testBit i = ((B1.testBit i && decide (i < W.toNat)) || decide (i = 0)) := by
  unfold newB maskF
  rw [Nat.testBit_or, Nat.testBit_and, Nat.testBit_two_pow_sub_one]
  congr 1
  have := @Nat.testBit_two_pow 0 i
  simp only [Nat.pow_zero] at this
  rw [this]
  by_cases h : i = 0
  · simp [h]
  · simp [h, Ne.symm h]

theorem Inv.take {W T : Int} {B : Nat} {tk : Int → Bool} (h : Inv W T B tk) {s : Int} (hm : mayF W T B s = true) :
    Inv W (max T s) (takeB W T B s) (fun x => x == s || tk x) := by
  rw [h.may s] at hm
  obtain ⟨m1, m2, m3, m4⟩ := of_decide_eq_true hm
  have hw1 := h.w1
  have hw2 := h.w2
  have ht0 := h.t0
  have ht1 := h.t1
  refine ⟨h.w1, h.w2, by omega, by omega, fun i => ?_, fun x hx => ?_, fun h0 => ?_⟩
  · unfold takeB
    by_cases h1 : s ≤ T
    · rw [if_pos h1, Nat.testBit_or, Nat.testBit_two_pow, h.bit i, show max T s = T from by omega]
      by_cases h2 : (T - s).toNat = i
      · have e : T - (i : Int) = s := by omega
        have hlt : (i : Int) < W := by omega
        simp [h2, e, hlt]
      · have e : ¬ T - (i : Int) = s := by omega
        rw [show (T - (i : Int) == s) = false from beq_eq_false_iff_ne.2 e]
        simp [h2]
    · rw [if_neg h1, show max T s = s from by omega]
      by_cases h2 : s - T < 64
      · rw [if_pos h2, newB_bit, show (18446744073709551616 : Nat) = 2 ^ 64 from rfl, Nat.testBit_mod_two_pow, Nat.testBit_mul_two_pow, h.bit]
        by_cases h3 : i = 0
        · subst h3
          simp
          omega
        · by_cases h4 : (s - T).toNat ≤ i
          · have e1 : T - ((i - (s - T).toNat : Nat) : Int) = s - i := by omega
            have e2 : ¬ (s - (i : Int) = s) := by omega
            rw [e1]
            by_cases h5 : (i : Int) < W
            · have a1 : i < W.toNat := by omega
              have a2 : i < 64 := by omega
              have a3 : ((i - (s - T).toNat : Nat) : Int) < W := by omega
              simp [h3, h4, e2, h5, a1, a2, a3]
            · have a1 : ¬ i < W.toNat := by omega
              simp [h3, h5, a1]
          · have e2 : ¬ (s - (i : Int) = s) := by omega
            have e3 : tk (s - (i : Int)) = false := by
              cases ht : tk (s - (i : Int)) with
              | false => rfl
              | true => have := h.pos _ ht; omega
            simp [h3, h4, e2, e3]
      · rw [if_neg h2, newB_bit]
        by_cases h3 : i = 0
        · subst h3
          simp
          omega
        · have e2 : ¬ (s - (i : Int) = s) := by omega
          by_cases h5 : (i : Int) < W
          · have e3 : tk (s - (i : Int)) = false := by
              cases ht : tk (s - (i : Int)) with
              | false => rfl
              | true => have := h.pos _ ht; omega
            simp [h3, e2, e3]
          · simp [h3, h5]
  · simp at hx
    rcases hx with hx | hx
    · omega
    · have := h.pos x hx
      omega
  · by_cases h1 : s ≤ T
    · rw [show max T s = T from by omega, h.top (by omega)]
      simp
    · rw [show max T s = s from by omega]
      simp

theorem and_mod (X : Nat) (h : X < 18446744073709551616) : (bits BinOp.and IntKind.u64 (X : Int) 1 == 1) = X.testBit 0 := by
  have := u64_and_nat X 1 h (by omega)
  rw [show (1 : Int) = ((1 : Nat) : Int) from rfl, this, Nat.testBit_zero, Nat.and_one_is_mod]
  rcases Nat.mod_two_eq_zero_or_one X with h | h <;> simp [h]

theorem andNot_mask (W : Int) (X : Nat) (h : X < 18446744073709551616) (hW1 : 1 ≤ W) (hW2 : W ≤ 64) :
    (bits BinOp.andNot IntKind.u64 (X : Int) (maskF W : Int) != 0) = false ↔ ∀ i : Nat, X.testBit i = true → (i : Int) < W := by
  rw [u64_andNot_nat X (maskF W) h (maskF_lt W hW2)]
  have hm : maskF W < 18446744073709551616 := maskF_lt W hW2
  have hb : ∀ i : Nat, (18446744073709551615 - maskF W).testBit i = (decide (i < 64) && !decide (i < W.toNat)) := fun i => by
    have := @Nat.testBit_two_pow_sub_succ (maskF W) 64 hm i
    rw [show 2 ^ 64 - (maskF W + 1) = 18446744073709551615 - maskF W from by omega] at this
    rw [this]
    unfold maskF
    rw [Nat.testBit_two_pow_sub_one]
  have hX : ∀ i : Nat, 64 ≤ i → X.testBit i = false := fun i hi => Nat.testBit_lt_two_pow (Nat.lt_of_lt_of_le h (by
    have : 2 ^ 64 ≤ 2 ^ i := Nat.pow_le_pow_right (by omega) hi
    simpa using this))
  constructor
  · intro h0 i hi
    have e : X &&& (18446744073709551615 - maskF W) = 0 := by
      simp only [bne_eq_false_iff_eq] at h0
      exact_mod_cast h0
    have := congrArg (fun n => n.testBit i) e
    simp only [Nat.testBit_and, hb, hi, Nat.zero_testBit] at this
    by_cases h64 : i < 64
    · simp [h64] at this
      omega
    · rw [hX i (by omega)] at hi
      cases hi
  · intro hall
    have e : X &&& (18446744073709551615 - maskF W) = 0 := by
      apply Nat.eq_of_testBit_eq
      intro i
      rw [Nat.testBit_and, hb, Nat.zero_testBit]
      cases hi : X.testBit i with
      | false => simp
      | true =>
        have := hall i hi
        have a1 : i < W.toNat := by omega
        simp [a1]
    rw [e]
    rfl

/-- Set's test, said of bits. -/
theorem setBad_iff (W t : Int) (X : Nat) (h : X < 18446744073709551616) (hW1 : 1 ≤ W) (hW2 : W ≤ 64) :
    setBad W t X = false ↔ 0 ≤ t ∧ t ≤ 1099511627776 ∧ (∀ i : Nat, X.testBit i = true → (i : Int) < W ∧ (i : Int) < t) ∧ (X.testBit 0 = true ↔ 0 < t) := by
  unfold setBad
  simp only [Bool.or_eq_false_iff, andNot_mask W X h hW1 hW2, and_mod X h]
  have hX : ∀ i : Nat, 64 ≤ i → X.testBit i = false := fun i hi => Nat.testBit_lt_two_pow (Nat.lt_of_lt_of_le h (by
    have : 2 ^ 64 ≤ 2 ^ i := Nat.pow_le_pow_right (by omega) hi
    simpa using this))
  have q5 : 0 ≤ t → ((decide (t < 64) && ((X : Int) / 2 ^ t.toNat != 0)) = false ↔ ∀ i : Nat, X.testBit i = true → (i : Int) < t) := fun ht => by
    by_cases h64 : t < 64
    · have e : ((X : Int) / 2 ^ t.toNat) = ((X / 2 ^ t.toNat : Nat) : Int) := by simp
      rw [e]
      simp only [h64, decide_true, Bool.true_and, bne_eq_false_iff_eq]
      constructor
      · intro h0 i hi
        apply Int.not_le.1
        intro hle
        have h1 : X / 2 ^ t.toNat = 0 := by exact_mod_cast h0
        have := congrArg (fun n => n.testBit (i - t.toNat)) h1
        simp only [Nat.testBit_div_two_pow, Nat.zero_testBit] at this
        rw [show i - t.toNat + t.toNat = i from by omega, hi] at this
        cases this
      · intro hall
        have h1 : X / 2 ^ t.toNat = 0 := by
          apply Nat.eq_of_testBit_eq
          intro i
          rw [Nat.testBit_div_two_pow, Nat.zero_testBit]
          cases hi : X.testBit (i + t.toNat) with
          | false => rfl
          | true => have := hall _ hi; omega
        exact_mod_cast h1
    · simp only [h64, decide_false, Bool.false_and, true_iff]
      intro i hi
      apply Int.not_le.1
      intro hle
      rw [hX i (by omega)] at hi
      cases hi
  constructor
  · rintro ⟨⟨⟨⟨a, b⟩, c⟩, d⟩, e⟩
    have ha : 0 ≤ t := by simpa using a
    refine ⟨ha, by simpa using b, fun i hi => ⟨c i hi, (q5 ha).1 e i hi⟩, ?_⟩
    cases hx : X.testBit 0 <;> simp [hx] at d <;> simp <;> omega
  · rintro ⟨a, b, c, d⟩
    refine ⟨⟨⟨⟨by simpa using a, by simpa using b⟩, fun i hi => (c i hi).1⟩, ?_⟩, (q5 a).2 fun i hi => (c i hi).2⟩
    by_cases h0 : 0 < t
    · simp [h0, d.2 h0]
    · have : X.testBit 0 = false := by
        cases hx : X.testBit 0 with
        | false => rfl
        | true => exact absurd (d.1 hx) h0
      simp [h0, this]

/-- What the window is may be set. -/
theorem Inv.setOk {W T : Int} {B : Nat} {tk : Int → Bool} (h : Inv W T B tk) : setBad W T B = false := by
  rw [setBad_iff W T B h.lt h.w1 h.w2]
  refine ⟨h.t0, h.t1, fun i hi => ?_, ?_⟩
  · rw [h.bit i] at hi
    simp at hi
    have := h.pos _ hi.2
    omega
  · rw [h.bit 0]
    simp
    constructor
    · rintro ⟨_, h2⟩
      have := h.pos _ h2
      omega
    · intro h0
      have := h.w1
      exact ⟨by omega, h.top h0⟩

/-- What has been set: the numbers taken are those whose bits are set. -/
theorem Inv.ofSet {W t : Int} {X : Nat} (hW1 : 1 ≤ W) (hW2 : W ≤ 64) (hX : X < 18446744073709551616) (h : setBad W t X = false) :
    Inv W t X (fun s => decide (s ≤ t) && X.testBit (t - s).toNat) := by
  obtain ⟨a, b, c, d⟩ := (setBad_iff W t X hX hW1 hW2).1 h
  refine ⟨hW1, hW2, a, b, fun i => ?_, fun s hs => ?_, fun h0 => ?_⟩
  · rw [show (t - (t - (i : Int))).toNat = i from by omega]
    cases hi : X.testBit i with
    | false => simp
    | true =>
      have := c i hi
      simp
      omega
  · simp at hs
    have := c _ hs.2
    omega
  · simp [d.2 h0]

end Go.Proofs.Ytnpkgmchagkdmaa
