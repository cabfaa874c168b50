/-
  The window and the document's list go together: plain laws, and the document's contracts said of the window; conditions: the window is in order ('Inv') over what the list has.
-/
import Derived.Test.YtnpkgmchagkdmaaNext
import Derived.Test.YtnpkgmchagkdmaaRef3
namespace Go.Proofs.Ytnpkgmchagkdmaa
open Go.RowKit

theorem Inv.congr {W T : Int} {B : Nat} {tk tk' : Int → Bool} (h : Inv W T B tk) (e : ∀ s, tk s = tk' s) : Inv W T B tk' :=
  (funext e : tk = tk') ▸ h

theorem may_same {W T : Int} {B : Nat} {l : List Int} (h : Inv W T B (hasF l)) (s : Int) : mayR W T l s = mayF W T B s := by
  rw [h.may s]
  unfold mayR
  cases hasF l s <;> simp

theorem bitsTo_bit (T : Int) (l : List Int) (i : Nat) : ∀ k, (bitsTo T l k).testBit i = (decide (i < k) && decide (1 ≤ T - (i : Int)) && hasF l (T - (i : Int)))
  | 0 => by simp [bitsTo]
  | k + 1 => by
    have ih := bitsTo_bit T l i k
    unfold bitsTo
    by_cases e : i = k
    · subst e
      have hlt : (bitsTo T l i).testBit i = false := Nat.testBit_lt_two_pow (bitsTo_lt T l i)
      split
      · rename_i h
        rw [Nat.testBit_or, Nat.testBit_two_pow_self]
        simp [h.1, h.2]
      · rename_i h
        rw [hlt]
        cases hh : hasF l (T - (i : Int)) with
        | false => simp
        | true =>
          have : ¬ 1 ≤ T - (i : Int) := fun h1 => h ⟨h1, hh⟩
          simp [this]
    · have e1 : decide (i < k + 1) = decide (i < k) := by
        by_cases h : i < k
        · have : i < k + 1 := by omega
          simp [h, this]
        · have : ¬ i < k + 1 := by omega
          simp [h, this]
      rw [e1, ← ih]
      split
      · rw [Nat.testBit_or, Nat.testBit_two_pow]
        simp [Ne.symm e]
      · rfl

theorem bits_same {W T : Int} {B : Nat} {l : List Int} (h : Inv W T B (hasF l)) : bitsTo T l W.toNat = B := by
  apply Nat.eq_of_testBit_eq
  intro i
  rw [bitsTo_bit, h.bit i]
  have e : decide (i < W.toNat) = decide ((i : Int) < W) := by
    by_cases h1 : (i : Int) < W
    · have : i < W.toNat := by omega
      simp [h1, this]
    · have : ¬ i < W.toNat := by omega
      simp [h1, this]
  rw [e]
  cases hh : hasF l (T - (i : Int)) with
  | false => simp
  | true =>
    have := h.pos _ hh
    simp
    omega

def nextL (W T : Int) (B : Nat) (l : List Int) (s : Int) : List Int := if mayF W T B s = true then l ++ [s] else l

theorem hasF_snoc (l : List Int) (s x : Int) : hasF (l ++ [s]) x = (x == s || hasF l x) := by
  unfold hasF
  rw [Bool.eq_iff_iff]
  simp [or_comm]

theorem Inv.nextL {W T : Int} {B : Nat} {l : List Int} (h : Inv W T B (hasF l)) (s : Int) : Inv W (nextT W T B s) (nextB W T B s) (hasF (nextL W T B l s)) := by
  refine (h.next s).congr fun x => ?_
  unfold nextTk Ytnpkgmchagkdmaa.nextL
  by_cases hm : mayF W T B s = true
  · rw [if_pos hm, if_pos hm, hasF_snoc]
  · rw [if_neg hm, if_neg hm]

theorem nextL_length (W T : Int) (B : Nat) (l : List Int) (s : Int) : (nextL W T B l s).length ≤ l.length + 1 := by
  unfold nextL
  split
  · simp
  · omega

theorem Inv.ofSetList {W t : Int} {X : Nat} (hW1 : 1 ≤ W) (hW2 : W ≤ 64) (hX : X < 18446744073709551616) (h : setBad W t X = false) : Inv W t X (hasF (setList t X 64)) := by
  refine (Inv.ofSet hW1 hW2 hX h).congr fun s => ?_
  unfold hasF
  rw [Bool.eq_iff_iff, List.contains_iff_mem, setList_mem]
  simp only [Bool.and_eq_true, decide_eq_true_eq]
  constructor
  · rintro ⟨h1, h2⟩
    refine ⟨(t - s).toNat, ?_, h2, by omega⟩
    apply Nat.lt_of_not_le
    intro h64
    have : X.testBit (t - s).toNat = false := Nat.testBit_lt_two_pow (Nat.lt_of_lt_of_le hX (by
      have : 2 ^ 64 ≤ 2 ^ (t - s).toNat := Nat.pow_le_pow_right (by omega) h64
      simpa using this))
    rw [this] at h2
    cases h2
  · rintro ⟨i, h1, h2, rfl⟩
    refine ⟨by omega, ?_⟩
    rw [show (t - (t - (i : Int))).toNat = i from by omega]
    exact h2

theorem refMay_inv (m : Nat) (W T : Int) (B : Nat) (l : List Int) (s : Int) (w : World) (h : RefRep w m W T l) (hi : Inv W T B (hasF l)) :
    Calls Try.prog 12 #[.pointer (some ⟨m, 0, none⟩), .int .i64 s] w fun e w' => e = .returned (.bool (mayF W T B s)) ∧ ∃ n, w' = w.drewN n := by
  rw [← may_same hi]
  exact refMay_any m W T s l w h hi.w1 hi.w2 hi.t0 hi.t1

theorem refTake_inv (m : Nat) (W T : Int) (B : Nat) (l : List Int) (s : Int) (w : World) (h : RefRep w m W T l) (hi : Inv W T B (hasF l)) (hl : l.length ≤ 1000) :
    Calls Try.prog 14 #[.pointer (some ⟨m, 0, none⟩), .int .i64 s] w fun e w' => e = .returned (.int .i64 (codeOf (mayF W T B s))) ∧ RefRep w' m W (nextT W T B s) (nextL W T B l s) ∧ Below m w w' := by
  unfold nextT nextL codeOf
  by_cases hm : mayF W T B s = true
  · rw [if_pos hm, if_pos hm, if_pos hm]
    exact refTake_yes m W T s l w h hi.w1 hi.w2 hi.t0 hi.t1 hl (by rw [may_same hi]; exact hm)
  · rw [if_neg hm, if_neg hm, if_neg hm]
    exact refTake_no m W T s l w h hi.w1 hi.w2 hi.t0 hi.t1 (by rw [may_same hi]; simpa using hm)

theorem refBits_inv (m : Nat) (W T : Int) (B : Nat) (l : List Int) (w : World) (h : RefRep w m W T l) (hi : Inv W T B (hasF l)) :
    Calls Try.prog 17 #[.pointer (some ⟨m, 0, none⟩)] w fun e w' => e = .returned (.int .u64 (B : Nat)) ∧ w = w' := by
  have := refBits_any m W T l w h hi.w1 hi.w2 hi.t0 hi.t1
  rwa [bits_same hi] at this

/-- Both objects, the program's ahead of the document's. -/
structure Two (w : World) (b m : Nat) (W T : Int) (B : Nat) (l : List Int) : Prop where
  rep : Rep w b W T B
  ref : RefRep w m W T l
  inv : Inv W T B (hasF l)
  lt : b < m

theorem Touch.ref {b m : Nat} {W T : Int} {l : List Int} {w w' : World} (h : Touch b w w') (hr : RefRep w m W T l) (hb : b < m) : RefRep w' m W T l :=
  hr.keep fun k hk _ => h.block k (by omega)

end Go.Proofs.Ytnpkgmchagkdmaa
