/-
  Contracts of the document's replay (quorumiteref5.Replay): its block, and the list of what was taken in a row of its own; conditions: the list holds at most 1000 numbers where one is appended.
-/
import Derived.Test.YtnpkgmchagkdmaaHelp
import Derived.WalkLawsBesides
import Derived.BigQuiet
import Derived.Deep.QuietTactic
import Derived.Deep.RegionWith
import Derived.Lib.Hide
namespace Go.Proofs.Ytnpkgmchagkdmaa
open Go.RowKit

/-- The object's block m; the list of numbers in a row of its own, behind m. -/
def RefRep (w : World) (m : Nat) (W T : Int) (l : List Int) : Prop :=
  ∃ v, w.heap[m]? = some (.cells #[.int .i64 W, .int .i64 T, v] 29 (0, 0)) ∧ w.ownsRow (m + 1) 2 1 v l.length (l.map (Value.int .i64))

theorem RefRep.lt {w : World} {m : Nat} {W T : Int} {l : List Int} (h : RefRep w m W T l) : m < w.heap.size := by
  obtain ⟨v, h, _⟩ := h
  exact lt_of_block h

/-- It stays where no block from m on turns. -/
theorem RefRep.keep {w w' : World} {m : Nat} {W T : Int} {l : List Int} (h : RefRep w m W T l) (hk : ∀ k, m ≤ k → k < w.heap.size → w'.heap[k]? = w.heap[k]?) : RefRep w' m W T l := by
  obtain ⟨v, hv, ho⟩ := h
  refine ⟨v, (hk m (Nat.le_refl _) (lt_of_block hv)).trans hv, ho.1, ?_⟩
  rcases ho.2 with hn | ⟨g, cap, cur, rfl, hb, hg, rest⟩
  · exact .inl hn
  · exact .inr ⟨g, cap, cur, rfl, hb, (hk g (by omega) (lt_of_block hg)).trans hg, rest⟩

theorem RefRep.cells {w : World} {m : Nat} {W T : Int} {l : List Int} (h : RefRep w m W T l) :
    ∃ v, w.cell? ⟨m, 0, none⟩ = some (.int .i64 W) ∧ w.cell? ⟨m, 1, none⟩ = some (.int .i64 T) ∧ w.cell? ⟨m, 2, none⟩ = some v ∧ w.frozen? ⟨m, 1, none⟩ = false ∧ w.frozen? ⟨m, 2, none⟩ = false ∧
      w.ownsRow (m + 1) 2 1 v l.length (l.map (Value.int .i64)) ∧
      ((v = .slice none 0 0 ∧ l = []) ∨ ∃ g cap, v = .slice (some ⟨g, 0, none⟩) l.length cap ∧ m < g ∧ l.length ≤ maxLen ∧ ∀ k, k < l.length → w.cell? ⟨g, k, none⟩ = some (.int .i64 (l.getD k 0))) := by
  obtain ⟨v, hv, ho⟩ := h
  refine ⟨v, by simp [World.cell?, hv], by simp [World.cell?, hv], by simp [World.cell?, hv], by simp [World.frozen?, hv], by simp [World.frozen?, hv], ho, ?_⟩
  rcases ho.2 with ⟨rfl, hn⟩ | ⟨g, cap, cur, rfl, hb, hg, hle, hcap, hsz, htake⟩
  · exact .inl ⟨rfl, List.length_eq_zero_iff.1 hn⟩
  · refine .inr ⟨g, cap, rfl, by omega, by omega, fun k hk => ?_⟩
    have hcell := ho.cells (g := g) rfl k (.int .i64 (l.getD k 0)) (by
      rw [List.getElem?_map, List.getElem?_eq_getElem hk, List.getD_eq_getElem?_getD, List.getElem?_eq_getElem hk]; rfl)
    rwa [show (⟨g, 0, none⟩ : Addr).add k = ⟨g, k, none⟩ from by unfold Addr.add; split <;> simp_all] at hcell

theorem RefRep.new (w : World) (a : Int) : RefRep (w.alloc (.cells #[.int .i64 a, .int .i64 0, .slice none 0 0] 29)) w.heap.size a 0 [] :=
  ⟨.slice none 0 0, heap_alloc_new w _, World.ownsRow_nil _ _ _ _⟩

set_option maxHeartbeats 400000 in
theorem refNew_some (a : Int) (w : World) (h1 : 1 ≤ a) (h2 : a ≤ 64) :
    Calls Try.prog 9 #[.int .i64 a] w fun e w' => e = .returned (.pointer (some ⟨w.heap.size, 0, none⟩)) ∧ w' = w.alloc (.cells #[.int .i64 a, .int .i64 0, .slice none 0 0] 29) := by
  go_enter Try.func9, Try.ntmps9
  go_wp2
  go_ret
  exact ⟨rfl, rfl⟩
set_option maxHeartbeats 400000 in
theorem refNew_none (a : Int) (w : World) (h : a < 1 ∨ 64 < a) :
    Calls Try.prog 9 #[.int .i64 a] w fun e w' => e = .returned (.pointer none) ∧ w = w' := by
  rcases h with h | h
  all_goals
    go_enter Try.func9, Try.ntmps9
    go_wp2
    go_ret
    exact ⟨rfl, rfl⟩

theorem ret_bool2 {a b : Bool} (h : a = b) : Ending.returned (.bool a) = .returned (.bool b) := by rw [h]

/-- Is a number in the list? -/
def hasF (l : List Int) (s : Int) : Bool := l.contains s

set_option maxHeartbeats 400000 in
theorem has_any (m : Nat) (W T s : Int) (l : List Int) (w : World) (h : RefRep w m W T l) :
    Calls Try.prog 20 #[.pointer (some ⟨m, 0, none⟩), .int .i64 s] w fun e w' => e = .returned (.bool (hasF l s)) ∧ w' = w := by
  obtain ⟨v, c0, c1, c2, f1, f2, ho, hc⟩ := h.cells
  clear h ho f1 f2
  rcases hc with ⟨rfl, rfl⟩ | ⟨g, cap, rfl, hg, hl, hc⟩
  · go_enter Try.func20, Try.ntmps20
    go_wp2
    refine wp_loop_rounds 1 ?_
    rw [rounds_succ]
    go_wp2
    go_ret
    exact ⟨rfl, rfl⟩
  · unfold maxLen at hl
    have HC := Lib.hid hc
    clear hc
    go_enter Try.func20, Try.ntmps20
    go_wp2
    go_loop [5] (fun i => ∃ k : Nat, k ≤ l.length ∧ i = .int .i64 k ∧ Hid (∀ j, j < k → l.getD j 0 ≠ s)) (fun i => l.length - (intOf i).toNat)
    case atStart => exact ⟨0, Nat.zero_le _, rfl, fun j hj => absurd hj (Nat.not_lt_zero _)⟩
    case round =>
      obtain ⟨k, hk, rfl, hno⟩ := hrel
      by_cases hlt : k < l.length
      · have hcell := HC.out k hlt
        by_cases heq : l.getD k 0 = s
        · have hmem : hasF l s = true := by
            unfold hasF
            rw [List.contains_iff_mem, ← heq, List.getD_eq_getElem?_getD, List.getElem?_eq_getElem hlt]
            exact List.getElem_mem hlt
          rw [heq] at hcell
          have HM := Lib.hid hmem
          clear hmem heq
          go_wp2
          go_ret
          exact ⟨ret_bool2 HM.out.symm, rfl⟩
        · generalize hy : l.getD k 0 = y at *
          have hne : (y == s) = false := beq_eq_false_iff_ne.2 heq
          have HY := Lib.hid hy
          clear hy heq
          go_wp2
          go_round
          case rel => exact ⟨k + 1, by omega, by go_num, fun j hj => by
            by_cases e : j = k
            · subst e; rw [HY.out]; exact fun h => by simp [h] at hne
            · exact hno.out j (by omega)⟩
          case measure => simp [intOf]; omega
      · have hmem : hasF l s = false := by
          unfold hasF
          cases hh : l.contains s with
          | false => rfl
          | true =>
            rw [List.contains_iff_mem] at hh
            obtain ⟨j, hj, he⟩ := List.getElem_of_mem hh
            exact absurd (by rw [List.getD_eq_getElem?_getD, List.getElem?_eq_getElem hj]; exact he) (hno.out j (by omega))
        have HM := Lib.hid hmem
        clear hmem
        go_wp2
        go_ret
        exact ⟨ret_bool2 HM.out.symm, rfl⟩

def mayR (W T : Int) (l : List Int) (s : Int) : Bool := decide (1 ≤ s ∧ s ≤ 1099511627776 ∧ T - W < s) && !hasF l s

set_option maxHeartbeats 400000 in
theorem refMay_any (m : Nat) (W T s : Int) (l : List Int) (w : World) (h : RefRep w m W T l) (hW1 : 1 ≤ W) (hW2 : W ≤ 64) (hT1 : 0 ≤ T) (hT2 : T ≤ 1099511627776) :
    Calls Try.prog 12 #[.pointer (some ⟨m, 0, none⟩), .int .i64 s] w fun e w' => e = .returned (.bool (mayR W T l s)) ∧ ∃ n, w' = w.drewN n := by
  obtain ⟨v, c0, c1, c2, f1, f2, ho, hc⟩ := h.cells
  have H := Lib.hid h
  clear h ho hc f1 f2 c2
  by_cases h1 : s < 1
  · have d1 : decide (1 ≤ s) = false := by simp; omega
    go_enter Try.func12, Try.ntmps12
    go_wp2
    go_quiet (fail)
    go_wp2
    go_ret
    exact ⟨ret_bool2 (by unfold mayR; simp; omega), _, rfl⟩
  have h1' : 1 ≤ s := by omega
  have d1 : decide (1 ≤ s) = true := by simpa using h1'
  by_cases h2 : 1099511627776 < s
  · have d2 : decide (s ≤ 1099511627776) = false := by simp; omega
    go_enter Try.func12, Try.ntmps12
    go_wp2
    go_quiet (fail)
    go_wp2
    go_ret
    exact ⟨ret_bool2 (by unfold mayR; simp; omega), _, rfl⟩
  have h2' : s ≤ 1099511627776 := by omega
  have d2 : decide (s ≤ 1099511627776) = true := by simpa using h2'
  by_cases h3 : s ≤ T - W
  · have d3 : decide (T - W < s) = false := by simp; omega
    go_enter Try.func12, Try.ntmps12
    go_wp2
    go_quiet (fail)
    go_wp2
    go_ret
    exact ⟨ret_bool2 (by unfold mayR; simp; omega), _, rfl⟩
  have h3' : T - W < s := by omega
  have d3 : decide (T - W < s) = true := by simpa using h3'
  go_enter Try.func12, Try.ntmps12
  go_wp2
  go_quiet ((go_at_call 20; refine Calls.quiet_of_same (has_any m W T s l _ ?_); exact H.out.keep (fun _ _ _ => rfl)))
  go_wp2
  go_ret
  exact ⟨ret_bool2 (by unfold mayR; rw [show decide (1 ≤ s ∧ s ≤ 1099511627776 ∧ T - W < s) = true from by simp; omega]; simp), _, rfl⟩

end Go.Proofs.Ytnpkgmchagkdmaa
