/-
  The contract of the law's SameInts over two slices that read as the same numbers, and plain laws of the greatest and least of the last ones, reckoned one by one; conditions: at most 100000 numbers.
-/
import Derived.Test.YtojiighogjfgjaaPlain2
namespace Go.Proofs.Ytojiighogjfgjaa
open Go.RowKit

set_option maxHeartbeats 1000000 in
theorem same_any (v1 v2 : Value) (l : List Int) (w : World) (h1 : Ints w v1 l) (h2 : Ints w v2 l) (hl : l.length ≤ 100000) :
    Calls Try.prog 16 #[v1, v2] w fun e w' => e = .returned (.bool true) ∧ ∃ n, w' = w.drewN n := by
  rcases h1 with ⟨rfl, rfl⟩ | ⟨g, o, cap, rfl, hcap, hg, hc⟩
  · rcases h2 with ⟨rfl, _⟩ | ⟨g2, o2, cap2, rfl, hcap2, hg2, hc2⟩
    all_goals
      go_enter Try.func16, Try.ntmps16
      go_wp2
      refine wp_loop_rounds 1 ?_
      rw [rounds_succ]
      go_wp2
      go_ret
      exact ⟨rfl, 0, rfl⟩
  · rcases h2 with ⟨rfl, rfl⟩ | ⟨g2, o2, cap2, rfl, hcap2, hg2, hc2⟩
    · go_enter Try.func16, Try.ntmps16
      go_wp2
      refine wp_loop_rounds 1 ?_
      rw [rounds_succ]
      go_wp2
      go_ret
      exact ⟨rfl, 0, rfl⟩
    · have HC := Lib.hid hc
      have HC2 := Lib.hid hc2
      clear hc hc2
      go_enter Try.func16, Try.ntmps16
      go_wp2
      go_loopw [5] (fun i wr => ∃ k n : Nat, k ≤ l.length ∧ i = .int .i64 (k : Int) ∧ wr = w.drewN n) (fun i _ => l.length - (intOf i).toNat)
      case atStart => exact ⟨0, 0, Nat.zero_le _, rfl, rfl⟩
      case round =>
        obtain ⟨k, n, hk, rfl, rfl⟩ := hrel
        by_cases hlt : k < l.length
        · have hcell := HC.out k hlt
          have hcell2 := HC2.out k hlt
          generalize l.getD k 0 = y at *
          go_wp2_with fail
          go_quiet (fail)
          go_wp2_with fail
          go_roundw
          case rel =>
            first
              | exact ⟨k + 1, _, by omega, by go_num, rfl⟩
              | ((repeat apply Exists.intro); exact ⟨⟨k + 1, _, by omega, by go_num, rfl⟩, rfl⟩)
          case measure => simp [intOf]; omega
        · go_wp2_with fail
          go_ret
          exact ⟨rfl, _, rfl⟩

/-- The numbers from place m on, of the first j. -/
def cut (l : List Int) (m j : Nat) : List Int := (l.take j).drop m

theorem cut_step {l : List Int} {m j : Nat} (h : j < l.length) : cut l m (j + 1) = if m ≤ j then cut l m j ++ [l.getD j 0] else cut l m j := by
  unfold cut
  rw [List.take_succ_eq_append_getElem h, List.drop_append]
  have e : l.getD j 0 = l[j] := by rw [List.getD_eq_getElem?_getD, List.getElem?_eq_getElem h]; rfl
  have hlen : (l.take j).length = j := by rw [List.length_take]; omega
  split
  · rw [e, hlen, show m - j = 0 by omega]; rfl
  · rw [hlen, (List.drop_eq_nil_of_le (show [l[j]].length ≤ m - j by show 1 ≤ m - j; omega))]
    simp

theorem foldl_max_nonneg : ∀ (l : List Int) (a : Int), 0 ≤ a → (∀ x ∈ l, 0 ≤ x) → l ≠ [] → l.foldl max 0 = maxL l := by
  intro l a _ h hne
  cases l with
  | nil => exact absurd rfl hne
  | cons x l =>
    unfold maxL
    rw [List.foldl_cons, Int.max_eq_right (h x (by simp))]
theorem foldl_min_most (l : List Int) (h : ∀ x ∈ l, x ≤ 1000000) (hne : l ≠ []) : l.foldl min 1000000 = minL l := by
  cases l with
  | nil => exact absurd rfl hne
  | cons x l =>
    unfold minL
    rw [List.foldl_cons, Int.min_eq_right (h x (by simp))]

def hiAt (l : List Int) (m j : Nat) : Int := (cut l m j).foldl max 0
def loAt (l : List Int) (m j : Nat) : Int := (cut l m j).foldl min 1000000

theorem hiAt_zero (l : List Int) (m : Nat) : hiAt l m 0 = 0 := by simp [hiAt, cut]
theorem loAt_zero (l : List Int) (m : Nat) : loAt l m 0 = 1000000 := by simp [loAt, cut]
theorem hiAt_step {l : List Int} {m j : Nat} (h : j < l.length) : hiAt l m (j + 1) = if m ≤ j then max (hiAt l m j) (l.getD j 0) else hiAt l m j := by
  unfold hiAt
  rw [cut_step h]
  split
  · rw [List.foldl_append]; rfl
  · rfl
theorem loAt_step {l : List Int} {m j : Nat} (h : j < l.length) : loAt l m (j + 1) = if m ≤ j then min (loAt l m j) (l.getD j 0) else loAt l m j := by
  unfold loAt
  rw [cut_step h]
  split
  · rw [List.foldl_append]; rfl
  · rfl
theorem cut_all (l : List Int) (n : Int) : cut l (l.length - n.toNat - 1) l.length = lastN n l := by
  unfold cut lastN
  rw [List.take_length]
theorem lastN_ne {l : List Int} (n : Int) (h : 0 < l.length) : lastN n l ≠ [] := by
  intro hn
  have := congrArg List.length hn
  unfold lastN at this
  rw [List.length_drop] at this
  simp at this
  omega
theorem hiAt_all {l : List Int} (n : Int) (hf : Fine l) (h : 0 < l.length) : hiAt l (l.length - n.toNat - 1) l.length = maxL (lastN n l) := by
  unfold hiAt
  rw [cut_all, foldl_max_nonneg _ 0 (Int.le_refl _) (fun x hx => (hf x (lastN_mem hx)).1) (lastN_ne n h)]
theorem loAt_all {l : List Int} (n : Int) (hf : Fine l) (h : 0 < l.length) : loAt l (l.length - n.toNat - 1) l.length = minL (lastN n l) := by
  unfold loAt
  rw [cut_all, foldl_min_most _ (fun x hx => (hf x (lastN_mem hx)).2) (lastN_ne n h)]

theorem keptL_grows {u d : Int} {l : List Int} {k : Nat} (want : Int) (h1 : 0 ≤ u) (hl : (l.length : Int) = min (k : Int) (max u d + 1)) : ((keptL u d l want).length : Int) = min ((k : Int) + 1) (max u d + 1) := by
  unfold keptL lastN
  rw [List.length_drop, List.length_append]
  simp
  omega
theorem keptL_end {u d : Int} {l : List Int} {want : Int} (_h1 : 0 ≤ u) (hw : 0 ≤ want) (hw2 : want ≤ 1000000) : (keptL u d l want).getD ((keptL u d l want).length - 1) 0 = want := by
  have e : clamp want = want := by unfold clamp; omega
  unfold keptL lastN
  rw [e, List.drop_append_of_le_length (by simp)]
  simp

theorem outF_between (u d c : Int) (l : List Int) (h0 : 0 ≤ c) (h1 : c ≤ 1000000) : ∃ g, outF u d l c = g ∧ g ≤ maxL (lastN d l) ∧ min (minL (lastN u l)) (maxL (lastN d l)) ≤ g ∧ (g = c ∨ g = minL (lastN u l) ∨ g = maxL (lastN d l)) := by
  have e : clamp c = c := by unfold clamp; omega
  refine ⟨_, rfl, ?_⟩
  unfold outF
  rw [e]
  omega

end Go.Proofs.Ytojiighogjfgjaa
