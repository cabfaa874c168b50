/-
  One object, and two at once: what calm's methods leave of them; conditions: the windows from 0 to 60, at most 61 numbers kept.
-/
import Derived.Test.YtojiighogjfgjaaSet
namespace Go.Proofs.Ytojiighogjfgjaa
open Go.RowKit

/-- One object. -/
def One (w : World) (b : Nat) (u d : Int) (l : List Int) : Prop := (∃ f, Rep w b u d l f) ∧ 0 ≤ u ∧ u ≤ 60 ∧ 0 ≤ d ∧ d ≤ 60 ∧ l.length ≤ 61

theorem One.lt {w : World} {b : Nat} {u d : Int} {l : List Int} (h : One w b u d l) : b < w.heap.size := by
  obtain ⟨⟨f, hr⟩, _⟩ := h
  exact hr.lt
theorem One.below {w w' : World} {b : Nat} {u d : Int} {l : List Int} (h : One w b u d l) (hb : Below w.heap.size w w') : One w' b u d l := by
  obtain ⟨⟨f, hr⟩, rest⟩ := h
  exact ⟨⟨f, hr.keep (hb.block b hr.lt) (hb.block f hr.le.2)⟩, rest⟩
theorem One.drewN {w : World} {b : Nat} {u d : Int} {l : List Int} (h : One w b u d l) (n : Nat) : One (w.drewN n) b u d l := by
  obtain ⟨⟨f, hr⟩, rest⟩ := h
  exact ⟨⟨f, hr.drewN n⟩, rest⟩
theorem One.new (w : World) {u d : Int} (h1 : 0 ≤ u) (h2 : u ≤ 60) (h3 : 0 ≤ d) (h4 : d ≤ 60) : One (w.alloc (.cells #[.int .i64 u, .int .i64 d, .slice none 0 0, .int .i64 0] 44)) w.heap.size u d [] :=
  ⟨⟨_, Rep.new w u d⟩, h1, h2, h3, h4, by simp⟩

theorem one_next (b : Nat) (u d count want : Int) (l : List Int) (w : World) (h : One w b u d l) :
    Calls Try.prog 9 #[.pointer (some ⟨b, 0, none⟩), .int .i64 count, .int .i64 want] w fun e w' => e = .returned (.int .i64 (outF u d (keptL u d l want) count)) ∧ One w' b u d (keptL u d l want) ∧ Below b w w' := by
  obtain ⟨⟨f, hr⟩, h1, h2, h3, h4, hl⟩ := h
  refine (next_any b f u d count want l w hr h1 h2 h3 h4 hl).mono fun e w' ⟨he, f', hr', _, hfr⟩ => ⟨he, ⟨⟨f', hr'⟩, h1, h2, h3, h4, (keptL_length u d l want h1 h2 h3 h4).2⟩, hfr.below (Nat.le_refl _) hr.le.1 hr.lt⟩

theorem one_all (b : Nat) (u d : Int) (l : List Int) (w : World) (h : One w b u d l) :
    Calls Try.prog 11 #[.pointer (some ⟨b, 0, none⟩)] w fun e w' => (∃ v', e = .returned v' ∧ w'.ownsRow w.heap.size 3 1 v' l.length (l.map (Value.int .i64))) ∧ Below w.heap.size w w' := by
  obtain ⟨⟨f, hr⟩, h1, h2, h3, h4, hl⟩ := h
  exact all_any b f u d l w hr hl

theorem one_set_long (b : Nat) (u d : Int) (l : List Int) (a : Option Addr) (n c : Nat) (w : World) (h : One w b u d l) (hlen : max u d + 1 < (n : Int)) (hn : n ≤ maxLen) :
    Calls Try.prog 10 #[.pointer (some ⟨b, 0, none⟩), .slice a n c] w fun e w' => e = .returned (.int .i64 1) ∧ One w' b u d l ∧ Below b w w' := by
  obtain ⟨⟨f, hr⟩, h1, h2, h3, h4, hl⟩ := h
  refine (set_long b f u d l a n c w hr h1 h2 h3 h4 hlen hn).mono fun e w' ⟨he, f', hr', _, hfr⟩ => ⟨he, ⟨⟨f', hr'⟩, h1, h2, h3, h4, hl⟩, hfr.below (Nat.le_refl _) hr.le.1 hr.lt⟩

theorem one_set (b : Nat) (u d : Int) (l x : List Int) (v : Value) (w : World) (h : One w b u d l) (hv : Ints w v x) (hlen : (x.length : Int) ≤ max u d + 1) :
    Calls Try.prog 10 #[.pointer (some ⟨b, 0, none⟩), v] w fun e w' => e = .returned (.int .i64 (codeS (badL x))) ∧ One w' b u d (setL (badL x) l x) ∧ Below b w w' := by
  obtain ⟨⟨f, hr⟩, h1, h2, h3, h4, hl⟩ := h
  refine (set_short b f u d l x v w hr h1 h2 h3 h4 hv hlen).mono fun e w' ⟨he, f', hr', _, hfr⟩ => ⟨he, ⟨⟨f', hr'⟩, h1, h2, h3, h4, ?_⟩, hfr.below (Nat.le_refl _) hr.le.1 hr.lt⟩
  unfold setL
  split
  · exact hl
  · omega

/-- Two objects that share nothing. -/
def Two (w : World) (b1 : Nat) (u1 d1 : Int) (l1 : List Int) (b2 : Nat) (u2 d2 : Int) (l2 : List Int) : Prop :=
  (∃ f1 f2, Rep w b1 u1 d1 l1 f1 ∧ Rep w b2 u2 d2 l2 f2 ∧ b1 ≠ b2 ∧ f1 ≠ b2 ∧ b1 ≠ f2 ∧ f1 ≠ f2) ∧ (0 ≤ u1 ∧ u1 ≤ 60 ∧ 0 ≤ d1 ∧ d1 ≤ 60 ∧ l1.length ≤ 61) ∧ (0 ≤ u2 ∧ u2 ≤ 60 ∧ 0 ≤ d2 ∧ d2 ≤ 60 ∧ l2.length ≤ 61)

theorem Two.swap {w : World} {b1 b2 : Nat} {u1 d1 u2 d2 : Int} {l1 l2 : List Int} (h : Two w b1 u1 d1 l1 b2 u2 d2 l2) : Two w b2 u2 d2 l2 b1 u1 d1 l1 := by
  obtain ⟨⟨f1, f2, r1, r2, n1, n2, n3, n4⟩, p, q⟩ := h
  exact ⟨⟨f2, f1, r2, r1, n1.symm, n3.symm, n2.symm, n4.symm⟩, q, p⟩
theorem Two.fst {w : World} {b1 b2 : Nat} {u1 d1 u2 d2 : Int} {l1 l2 : List Int} (h : Two w b1 u1 d1 l1 b2 u2 d2 l2) : One w b1 u1 d1 l1 := by
  obtain ⟨⟨f1, f2, r1, r2, n1, n2, n3, n4⟩, p, q⟩ := h
  exact ⟨⟨f1, r1⟩, p⟩
theorem Two.snd {w : World} {b1 b2 : Nat} {u1 d1 u2 d2 : Int} {l1 l2 : List Int} (h : Two w b1 u1 d1 l1 b2 u2 d2 l2) : One w b2 u2 d2 l2 := h.swap.fst
theorem Two.below {w w' : World} {b1 b2 : Nat} {u1 d1 u2 d2 : Int} {l1 l2 : List Int} (h : Two w b1 u1 d1 l1 b2 u2 d2 l2) (hb : Below w.heap.size w w') : Two w' b1 u1 d1 l1 b2 u2 d2 l2 := by
  obtain ⟨⟨f1, f2, r1, r2, ns⟩, pq⟩ := h
  exact ⟨⟨f1, f2, r1.keep (hb.block b1 r1.lt) (hb.block f1 r1.le.2), r2.keep (hb.block b2 r2.lt) (hb.block f2 r2.le.2), ns⟩, pq⟩

/-- What comes of a method of the first. -/
theorem two_went {w w' : World} {b1 b2 f1 f2 : Nat} {u1 d1 u2 d2 : Int} {l1 l1' l2 : List Int} (_r1 : Rep w b1 u1 d1 l1 f1) (r2 : Rep w b2 u2 d2 l2 f2) (n1 : b1 ≠ b2) (n2 : f1 ≠ b2) (n3 : b1 ≠ f2) (n4 : f1 ≠ f2)
    (hw : Went w b1 f1 u1 d1 l1' w') : ∃ f1' f2', Rep w' b1 u1 d1 l1' f1' ∧ Rep w' b2 u2 d2 l2 f2' ∧ b1 ≠ b2 ∧ f1' ≠ b2 ∧ b1 ≠ f2' ∧ f1' ≠ f2' := by
  obtain ⟨f', hr', hf', hfr⟩ := hw
  have h1 := r2.lt
  have h2 := r2.le
  refine ⟨f', f2, hr', r2.keep (hfr.block b2 h1 n1.symm n2.symm) (hfr.block f2 h2.2 n3.symm n4.symm), n1, ?_, n3, ?_⟩
  · rcases hf' with h | h | h <;> omega
  · rcases hf' with h | h | h <;> omega

theorem two_next (b1 b2 N : Nat) (u1 d1 u2 d2 count want : Int) (l1 l2 : List Int) (w : World) (h : Two w b1 u1 d1 l1 b2 u2 d2 l2) (hN : N ≤ b1) :
    Calls Try.prog 9 #[.pointer (some ⟨b1, 0, none⟩), .int .i64 count, .int .i64 want] w fun e w' => e = .returned (.int .i64 (outF u1 d1 (keptL u1 d1 l1 want) count)) ∧ Two w' b1 u1 d1 (keptL u1 d1 l1 want) b2 u2 d2 l2 ∧ Below N w w' := by
  obtain ⟨⟨f1, f2, r1, r2, n1, n2, n3, n4⟩, ⟨h1, h2, h3, h4, hl⟩, q⟩ := h
  refine (next_any b1 f1 u1 d1 count want l1 w r1 h1 h2 h3 h4 hl).mono fun e w' ⟨he, hw⟩ => ⟨he, ⟨two_went r1 r2 n1 n2 n3 n4 hw, ⟨h1, h2, h3, h4, (keptL_length u1 d1 l1 want h1 h2 h3 h4).2⟩, q⟩, ?_⟩
  obtain ⟨f', hr', hf', hfr⟩ := hw
  exact hfr.below hN (Nat.le_trans hN r1.le.1) r1.lt

theorem two_set (b1 b2 N : Nat) (u1 d1 u2 d2 : Int) (l1 l2 x : List Int) (v : Value) (w : World) (h : Two w b1 u1 d1 l1 b2 u2 d2 l2) (hv : Ints w v x) (hlen : (x.length : Int) ≤ max u1 d1 + 1) (hN : N ≤ b1) :
    Calls Try.prog 10 #[.pointer (some ⟨b1, 0, none⟩), v] w fun e w' => e = .returned (.int .i64 (codeS (badL x))) ∧ Two w' b1 u1 d1 (setL (badL x) l1 x) b2 u2 d2 l2 ∧ Below N w w' := by
  obtain ⟨⟨f1, f2, r1, r2, n1, n2, n3, n4⟩, ⟨h1, h2, h3, h4, hl⟩, q⟩ := h
  refine (set_short b1 f1 u1 d1 l1 x v w r1 h1 h2 h3 h4 hv hlen).mono fun e w' ⟨he, hw⟩ => ⟨he, ⟨two_went r1 r2 n1 n2 n3 n4 hw, ⟨h1, h2, h3, h4, ?_⟩, q⟩, ?_⟩
  · unfold setL
    split
    · exact hl
    · omega
  · obtain ⟨f', hr', hf', hfr⟩ := hw
    exact hfr.below hN (Nat.le_trans hN r1.le.1) r1.lt

theorem Two.new (w : World) {u d u2 d2 : Int} (h1 : 0 ≤ u) (h2 : u ≤ 60) (h3 : 0 ≤ d) (h4 : d ≤ 60) (k1 : 0 ≤ u2) (k2 : u2 ≤ 60) (k3 : 0 ≤ d2) (k4 : d2 ≤ 60) :
    Two ((w.alloc (.cells #[.int .i64 u, .int .i64 d, .slice none 0 0, .int .i64 0] 44)).alloc (.cells #[.int .i64 u2, .int .i64 d2, .slice none 0 0, .int .i64 0] 44)) w.heap.size u d [] (w.heap.size + 1) u2 d2 [] := by
  have r1 := Rep.new w u d
  have r2 := Rep.new (w.alloc (.cells #[.int .i64 u, .int .i64 d, .slice none 0 0, .int .i64 0] 44)) u2 d2
  rw [World.size_alloc] at r2
  have e := Below.heap_alloc (w.alloc (.cells #[.int .i64 u, .int .i64 d, .slice none 0 0, .int .i64 0] 44)) (.cells #[.int .i64 u2, .int .i64 d2, .slice none 0 0, .int .i64 0] 44) w.heap.size (by simp)
  exact ⟨⟨_, _, r1.keep e e, r2, by omega, by omega, by omega, by omega⟩, ⟨h1, h2, h3, h4, by simp⟩, ⟨k1, k2, k3, k4, by simp⟩⟩

end Go.Proofs.Ytojiighogjfgjaa
