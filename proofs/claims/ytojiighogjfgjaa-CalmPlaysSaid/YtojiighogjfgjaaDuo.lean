/-
  The program's object and the reference's, side by side: what each method leaves of both; conditions: windows from 0 to 60, at most 61 numbers kept.
-/
import Derived.Test.YtojiighogjfgjaaRef3
namespace Go.Proofs.Ytojiighogjfgjaa
open Go.RowKit

def Duo (w : World) (a c : Nat) (u d : Int) (l m : List Int) : Prop :=
  (∃ f g, Rep w a u d l f ∧ RRep w c u d m g ∧ a ≠ c ∧ f ≠ c ∧ a ≠ g ∧ f ≠ g) ∧ 0 ≤ u ∧ u ≤ 60 ∧ 0 ≤ d ∧ d ≤ 60 ∧ l.length ≤ 61 ∧ m.length ≤ 61

theorem Duo.below {w w' : World} {a c : Nat} {u d : Int} {l m : List Int} (h : Duo w a c u d l m) (hb : Below w.heap.size w w') : Duo w' a c u d l m := by
  obtain ⟨⟨f, g, r1, r2, ns⟩, pq⟩ := h
  exact ⟨⟨f, g, r1.keep (hb.block a r1.lt) (hb.block f r1.le.2), r2.below hb, ns⟩, pq⟩
theorem Duo.one {w : World} {a c : Nat} {u d : Int} {l m : List Int} (h : Duo w a c u d l m) : One w a u d l := by
  obtain ⟨⟨f, g, r1, r2, ns⟩, h1, h2, h3, h4, h5, h6⟩ := h
  exact ⟨⟨f, r1⟩, h1, h2, h3, h4, h5⟩

theorem duo_next (a c N : Nat) (u d count want : Int) (l m : List Int) (w : World) (h : Duo w a c u d l m) (hN : N ≤ a) :
    Calls Try.prog 9 #[.pointer (some ⟨a, 0, none⟩), .int .i64 count, .int .i64 want] w fun e w' => e = .returned (.int .i64 (outF u d (keptL u d l want) count)) ∧ Duo w' a c u d (keptL u d l want) m ∧ Below N w w' := by
  obtain ⟨⟨f, g, r1, r2, n1, n2, n3, n4⟩, h1, h2, h3, h4, h5, h6⟩ := h
  refine (next_any a f u d count want l w r1 h1 h2 h3 h4 h5).mono fun e w' ⟨he, f', hr', hf', hfr⟩ => ⟨he, ⟨⟨f', g, hr', r2.keep hfr.size (hfr.block c r2.lt n1.symm n2.symm) (hfr.block g r2.le.2 n3.symm n4.symm), n1, ?_, n3, ?_⟩, h1, h2, h3, h4, (keptL_length u d l want h1 h2 h3 h4).2, h6⟩, hfr.below hN (Nat.le_trans hN r1.le.1) r1.lt⟩
  · have := r2.lt
    rcases hf' with h | h | h <;> omega
  · have := r2.le
    rcases hf' with h | h | h <;> omega

theorem duo_rnext (a c N : Nat) (u d count want : Int) (l m : List Int) (w : World) (h : Duo w a c u d l m) (hN : N ≤ c) :
    Calls Try.prog 15 #[.pointer (some ⟨c, 0, none⟩), .int .i64 count, .int .i64 want] w fun e w' => e = .returned (.int .i64 (outF u d (keptL u d m want) count)) ∧ Duo w' a c u d l (keptL u d m want) ∧ Below N w w' := by
  obtain ⟨⟨f, g, r1, r2, n1, n2, n3, n4⟩, h1, h2, h3, h4, h5, h6⟩ := h
  refine (rnext_any c g u d count want m w r2 h1 h2 h3 h4 (by omega)).mono fun e w' ⟨he, g', hr', hg', hfr⟩ => ⟨he, ⟨⟨f, g', r1.keep (hfr.block a r1.lt n1 n3) (hfr.block f r1.le.2 n2 n4), hr', n1, n2, ?_, ?_⟩, h1, h2, h3, h4, h5, (keptL_length u d m want h1 h2 h3 h4).2⟩, hfr.below hN (Nat.le_trans hN r2.le.1) r2.lt⟩
  · have := r1.lt
    rcases hg' with h | h | h <;> omega
  · have := r1.le
    rcases hg' with h | h | h <;> omega

theorem setL_length {u d : Int} {l x : List Int} (h1 : 0 ≤ u) (h2 : u ≤ 60) (h3 : 0 ≤ d) (h4 : d ≤ 60) (hl : l.length ≤ 61) : (setL (setBad u d x) l x).length ≤ 61 := by
  unfold setL
  split
  · exact hl
  · rename_i h
    unfold setBad at h
    simp at h
    omega

theorem duo_set (a c N : Nat) (u d : Int) (l m x : List Int) (v : Value) (w : World) (h : Duo w a c u d l m) (hv : Vals w v x) (hm : x.length ≤ 100) (hN : N ≤ a) :
    Calls Try.prog 10 #[.pointer (some ⟨a, 0, none⟩), v] w fun e w' => e = .returned (.int .i64 (codeS (setBad u d x))) ∧ Duo w' a c u d (setL (setBad u d x) l x) m ∧ Below N w w' := by
  obtain ⟨⟨f, g, r1, r2, n1, n2, n3, n4⟩, h1, h2, h3, h4, h5, h6⟩ := h
  refine (set_all a f u d l x v w r1 h1 h2 h3 h4 hv hm).mono fun e w' ⟨he, f', hr', hf', hfr⟩ => ⟨he, ⟨⟨f', g, hr', r2.keep hfr.size (hfr.block c r2.lt n1.symm n2.symm) (hfr.block g r2.le.2 n3.symm n4.symm), n1, ?_, n3, ?_⟩, h1, h2, h3, h4, setL_length h1 h2 h3 h4 h5, h6⟩, hfr.below hN (Nat.le_trans hN r1.le.1) r1.lt⟩
  · have := r2.lt
    rcases hf' with h | h | h <;> omega
  · have := r2.le
    rcases hf' with h | h | h <;> omega

theorem duo_rset (a c N : Nat) (u d : Int) (l m x : List Int) (v : Value) (w : World) (h : Duo w a c u d l m) (hv : Vals w v x) (hm : x.length ≤ 100) (hN : N ≤ c) :
    Calls Try.prog 14 #[.pointer (some ⟨c, 0, none⟩), v] w fun e w' => e = .returned (.int .i64 (codeS (setBad u d x))) ∧ Duo w' a c u d l (setL (setBad u d x) m x) ∧ Below N w w' := by
  obtain ⟨⟨f, g, r1, r2, n1, n2, n3, n4⟩, h1, h2, h3, h4, h5, h6⟩ := h
  refine (rset_all c g u d m x v w r2 h1 h2 h3 h4 hv hm).mono fun e w' ⟨he, g', hr', hg', hfr⟩ => ⟨he, ⟨⟨f, g', r1.keep (hfr.block a r1.lt n1 n3) (hfr.block f r1.le.2 n2 n4), hr', n1, n2, ?_, ?_⟩, h1, h2, h3, h4, h5, setL_length h1 h2 h3 h4 h6⟩, hfr.below hN (Nat.le_trans hN r2.le.1) r2.lt⟩
  · have := r1.lt
    rcases hg' with h | h | h <;> omega
  · have := r1.le
    rcases hg' with h | h | h <;> omega

theorem Duo.new (w : World) {u d : Int} (h1 : 0 ≤ u) (h2 : u ≤ 60) (h3 : 0 ≤ d) (h4 : d ≤ 60) :
    Duo ((w.alloc (.cells #[.int .i64 u, .int .i64 d, .slice none 0 0, .int .i64 0] 44)).alloc (.cells #[.int .i64 u, .int .i64 d, .slice none 0 0] 35)) w.heap.size (w.heap.size + 1) u d [] [] := by
  have r1 := Rep.new w u d
  have r2 := RRep.new (w.alloc (.cells #[.int .i64 u, .int .i64 d, .slice none 0 0, .int .i64 0] 44)) u d
  rw [World.size_alloc] at r2
  have e := Below.heap_alloc (w.alloc (.cells #[.int .i64 u, .int .i64 d, .slice none 0 0, .int .i64 0] 44)) (.cells #[.int .i64 u, .int .i64 d, .slice none 0 0] 35) w.heap.size (by simp)
  exact ⟨⟨_, _, r1.keep e e, r2, by omega, by omega, by omega, by omega⟩, h1, h2, h3, h4, by simp, by simp⟩

/-- The reference's list, as it is loaded. -/
theorem Duo.kept {w : World} {a c : Nat} {u d : Int} {l m : List Int} (h : Duo w a c u d l m) : c < w.heap.size ∧ ∃ v, w.cell? ⟨c, 2, none⟩ = some v ∧ Ints w v m := by
  obtain ⟨⟨f, g, r1, r2, _⟩, _⟩ := h
  obtain ⟨v, _, _, c2, _, _, hi, _, _⟩ := r2.cells
  exact ⟨r2.lt, v, c2, hi⟩

end Go.Proofs.Ytojiighogjfgjaa
