/-
  Plain laws: what is wanted for longer than both windows is what comes; greater wants give no lesser. Conditions stand at each.
-/
import Derived.Test.YtojiighogjfgjaaPlain
namespace Go.Proofs.Ytojiighogjfgjaa

/-- The last k are x. -/
def Tail (k : Nat) (x : Int) (l : List Int) : Prop := ∃ p, l = p ++ List.replicate k x

theorem Tail.step {k : Nat} {x u d : Int} {l : List Int} (h : Tail k x l) (hx : 0 ≤ x) (hx2 : x ≤ 1000000) (_h1 : 0 ≤ u) (hk : (k : Int) ≤ max u d) : Tail (k + 1) x (keptL u d l x) := by
  obtain ⟨p, rfl⟩ := h
  have hc : clamp x = x := by unfold clamp; omega
  refine ⟨p.drop ((p ++ List.replicate k x ++ [x]).length - (max u d).toNat - 1), ?_⟩
  unfold keptL lastN
  rw [hc, List.append_assoc, show List.replicate k x ++ [x] = List.replicate (k + 1) x from by rw [List.replicate_succ'], List.drop_append_of_le_length]
  rw [List.length_append, List.length_replicate]
  omega

theorem maxL_replicate (n : Nat) (x : Int) (h : 0 < n) : maxL (List.replicate n x) = x := by
  match n, h with
  | n + 1, _ =>
    rw [List.replicate_succ]
    show (List.replicate n x).foldl max x = x
    induction n with
    | zero => rfl
    | succ n ih => rw [List.replicate_succ, List.foldl_cons, Int.max_self]; exact ih (Nat.succ_pos _)

theorem minL_replicate (n : Nat) (x : Int) (h : 0 < n) : minL (List.replicate n x) = x := by
  match n, h with
  | n + 1, _ =>
    rw [List.replicate_succ]
    show (List.replicate n x).foldl min x = x
    induction n with
    | zero => rfl
    | succ n ih => rw [List.replicate_succ, List.foldl_cons, Int.min_self]; exact ih (Nat.succ_pos _)

theorem Tail.done {x u d : Int} {l : List Int} {k : Nat} (h : Tail k x l) (hl : (l.length : Int) ≤ max u d + 1) (h1 : 0 ≤ u) (h3 : 0 ≤ d) (hk : (k : Int) = max u d + 1) (count : Int) : outF u d l count = x ∧ (l.length : Int) = max u d + 1 := by
  obtain ⟨p, rfl⟩ := h
  rw [List.length_append, List.length_replicate] at hl
  have hp : p = [] := List.length_eq_zero_iff.1 (by omega)
  subst hp
  rw [List.nil_append, List.length_replicate]
  refine ⟨?_, by omega⟩
  unfold outF lastN
  rw [List.length_replicate, List.drop_replicate, List.drop_replicate, maxL_replicate _ _ (by omega), minL_replicate _ _ (by omega)]
  omega

/-- One by one no greater. -/
def Les (l m : List Int) : Prop := l.length = m.length ∧ ∀ i, i < l.length → l.getD i 0 ≤ m.getD i 0

theorem Les.nil : Les [] [] := ⟨rfl, fun _ hi => absurd hi (Nat.not_lt_zero _)⟩

theorem Les.snoc {l m : List Int} (h : Les l m) {x y : Int} (hx : x ≤ y) : Les (l ++ [x]) (m ++ [y]) := by
  refine ⟨by simp [h.1], fun i hi => ?_⟩
  simp only [List.getD_eq_getElem?_getD]
  by_cases e : i < l.length
  · rw [List.getElem?_append_left e, List.getElem?_append_left (by rw [← h.1]; exact e)]
    have := h.2 i e
    simpa only [List.getD_eq_getElem?_getD] using this
  · simp at hi
    have e1 : i = l.length := by omega
    have e2 : i = m.length := by rw [← h.1]; exact e1
    rw [List.getElem?_append_right (by omega), List.getElem?_append_right (by omega)]
    rw [show i - l.length = 0 from by omega, show i - m.length = 0 from by omega]
    simpa using hx

theorem Les.drop {l m : List Int} (h : Les l m) (n : Nat) : Les (l.drop n) (m.drop n) := by
  refine ⟨by simp [h.1], fun i hi => ?_⟩
  simp only [List.getD_eq_getElem?_getD, List.getElem?_drop]
  rw [List.length_drop] at hi
  have := h.2 (n + i) (by omega)
  simpa only [List.getD_eq_getElem?_getD] using this

theorem Les.lastN {l m : List Int} (h : Les l m) (n : Int) : Les (lastN n l) (lastN n m) := by
  unfold Ytojiighogjfgjaa.lastN
  rw [← h.1]
  exact h.drop _

theorem Les.keptL {l m : List Int} (h : Les l m) (u d : Int) {x y : Int} (hx : x ≤ y) : Les (keptL u d l x) (keptL u d m y) :=
  (h.snoc (show clamp x ≤ clamp y by unfold clamp; omega)).lastN _

theorem foldl_max_le : ∀ (l m : List Int) (a b : Int), l.length = m.length → a ≤ b → (∀ i, i < l.length → l.getD i 0 ≤ m.getD i 0) → l.foldl max a ≤ m.foldl max b
  | [], [], _, _, _, h, _ => h
  | x :: l, y :: m, a, b, hl, h, hp => by
    have h0 : x ≤ y := hp 0 (by simp)
    exact foldl_max_le l m (max a x) (max b y) (by simpa using hl) (by omega) fun i hi => hp (i + 1) (by simp; omega)
  | [], _ :: _, _, _, hl, _, _ => by simp at hl
  | _ :: _, [], _, _, hl, _, _ => by simp at hl

theorem foldl_min_le : ∀ (l m : List Int) (a b : Int), l.length = m.length → a ≤ b → (∀ i, i < l.length → l.getD i 0 ≤ m.getD i 0) → l.foldl min a ≤ m.foldl min b
  | [], [], _, _, _, h, _ => h
  | x :: l, y :: m, a, b, hl, h, hp => by
    have h0 : x ≤ y := hp 0 (by simp)
    exact foldl_min_le l m (min a x) (min b y) (by simpa using hl) (by omega) fun i hi => hp (i + 1) (by simp; omega)
  | [], _ :: _, _, _, hl, _, _ => by simp at hl
  | _ :: _, [], _, _, hl, _, _ => by simp at hl

theorem Les.maxL {l m : List Int} (h : Les l m) : maxL l ≤ maxL m := by
  match l, m, h with
  | [], [], _ => exact Int.le_refl _
  | x :: l, y :: m, h => exact foldl_max_le l m x y (by simpa using h.1) (h.2 0 (by simp)) fun i hi => h.2 (i + 1) (by simp; omega)
  | [], _ :: _, h => exact absurd h.1 (by simp)
  | _ :: _, [], h => exact absurd h.1 (by simp)

theorem Les.minL {l m : List Int} (h : Les l m) : minL l ≤ minL m := by
  match l, m, h with
  | [], [], _ => exact Int.le_refl _
  | x :: l, y :: m, h => exact foldl_min_le l m x y (by simpa using h.1) (h.2 0 (by simp)) fun i hi => h.2 (i + 1) (by simp; omega)
  | [], _ :: _, h => exact absurd h.1 (by simp)
  | _ :: _, [], h => exact absurd h.1 (by simp)

theorem Les.outF {l m : List Int} (h : Les l m) (u d : Int) {a b : Int} (hab : a ≤ b) : outF u d l a ≤ outF u d m b := by
  have h1 := (h.lastN d).maxL
  have h2 := (h.lastN u).minL
  have h3 : clamp a ≤ clamp b := by unfold clamp; omega
  unfold Ytojiighogjfgjaa.outF
  omega

end Go.Proofs.Ytojiighogjfgjaa
