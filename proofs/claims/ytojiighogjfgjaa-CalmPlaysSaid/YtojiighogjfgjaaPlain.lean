/-
  Plain laws of what calm keeps. No condition.
-/
import Derived.Test.YtojiighogjfgjaaTold
namespace Go.Proofs.Ytojiighogjfgjaa

/-- All from 0 to 1,000,000. -/
def Fine (l : List Int) : Prop := ∀ x ∈ l, 0 ≤ x ∧ x ≤ 1000000

theorem lastN_mem {n : Int} {l : List Int} {x : Int} (h : x ∈ lastN n l) : x ∈ l := List.mem_of_mem_drop h

theorem clamp_fine (x : Int) : 0 ≤ clamp x ∧ clamp x ≤ 1000000 := by unfold clamp; omega

theorem keptL_fine {u d : Int} {l : List Int} (want : Int) (h : Fine l) : Fine (keptL u d l want) := by
  intro x hx
  have := lastN_mem hx
  rw [List.mem_append] at this
  rcases this with h1 | h1
  · exact h x h1
  · simp at h1
    rw [h1]
    exact clamp_fine want

theorem keptL_len (u d : Int) (l : List Int) (want : Int) (h1 : 0 ≤ u) : ((keptL u d l want).length : Int) ≤ max u d + 1 := by
  unfold keptL lastN
  rw [List.length_drop, List.length_append]
  simp
  omega

theorem badL_fine {l : List Int} (h : Fine l) : badL l = false := by
  unfold badL
  rw [List.any_eq_false]
  intro x hx
  have := h x hx
  unfold bad1
  simp
  omega

theorem fine_nil : Fine [] := fun x hx => by cases hx

end Go.Proofs.Ytojiighogjfgjaa
