/-
  Take in one contract, and what it makes of the window; conditions: the window is in order ('Inv').
-/
import Derived.Test.YtnpkgmchagkdmaaPlain
namespace Go.Proofs.Ytnpkgmchagkdmaa
open Go.RowKit

def nextT (W T : Int) (B : Nat) (s : Int) : Int := if mayF W T B s = true then max T s else T
def nextB (W T : Int) (B : Nat) (s : Int) : Nat := if mayF W T B s = true then takeB W T B s else B
def nextTk (W T : Int) (B : Nat) (tk : Int → Bool) (s : Int) : Int → Bool := if mayF W T B s = true then (fun x => x == s || tk x) else tk
def codeOf (m : Bool) : Int := if m = true then 0 else 6

theorem Inv.next {W T : Int} {B : Nat} {tk : Int → Bool} (h : Inv W T B tk) (s : Int) : Inv W (nextT W T B s) (nextB W T B s) (nextTk W T B tk s) := by
  unfold nextT nextB nextTk
  by_cases hm : mayF W T B s = true
  · rw [if_pos hm, if_pos hm, if_pos hm]; exact h.take hm
  · rw [if_neg hm, if_neg hm, if_neg hm]; exact h

theorem take_any (b : Nat) (W T : Int) (B : Nat) (tk : Int → Bool) (s : Int) (w : World) (h : Rep w b W T B) (hi : Inv W T B tk) :
    Calls Try.prog 13 #[.pointer (some ⟨b, 0, none⟩), .int .i64 s] w fun e w' => e = .returned (.int .i64 (codeOf (mayF W T B s))) ∧ Rep w' b W (nextT W T B s) (nextB W T B s) ∧ Touch b w w' := by
  unfold nextT nextB codeOf
  by_cases hm : mayF W T B s = true
  · rw [if_pos hm, if_pos hm, if_pos hm]
    exact take_yes b W T B s w h hi.lt hi.w1 hi.w2 hi.t0 hi.t1 hm
  · rw [if_neg hm, if_neg hm, if_neg hm]
    exact take_no b W T B s w h hi.lt hi.w1 hi.w2 hi.t0 hi.t1 (by simpa using hm)

theorem may_inv (b : Nat) (W T : Int) (B : Nat) (tk : Int → Bool) (s : Int) (w : World) (h : Rep w b W T B) (hi : Inv W T B tk) :
    Calls Try.prog 11 #[.pointer (some ⟨b, 0, none⟩), .int .i64 s] w fun e w' => e = .returned (.bool (mayF W T B s)) ∧ ∃ n, w' = w.drewN n :=
  may_any b W T B s w h hi.lt hi.w1 hi.w2 hi.t0 hi.t1

end Go.Proofs.Ytnpkgmchagkdmaa
