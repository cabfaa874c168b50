/-
  The reference's NewDisk; condition: 1 to 4096 sectors.
-/
import Derived.Test.YtggdaepflcjmfaaRef
namespace Go.Proofs.Ytggdaepflcjmfaa
open Go.RowKit

/-- While the strings are stored. -/
def RelM (w : World) (m : Nat) (S : Value) (v : Value) (wr : World) : Prop :=
  ∃ (k : Nat) (cs : Array Value), k ≤ m ∧ v = .int .i64 (k : Int) ∧ wr.heap[w.heap.size]? = some (.cells cs 9 (0, 0)) ∧ cs.size = m ∧ (∀ j, j < k → cs[j]? = some S) ∧ Below w.heap.size w wr

set_option maxRecDepth 100000 in
set_option maxHeartbeats 4000000 in
theorem rnew_some (m : Nat) (w : World) (h1 : 1 ≤ m) (h2 : m ≤ 4096) :
    Calls Try.prog 17 #[.int .i64 (m : Int)] w fun x w' => ∃ c h, x = .returned (.pointer (some ⟨c, 0, none⟩)) ∧ w.heap.size ≤ c ∧ w.heap.size ≤ h ∧ RD w' c h false false 0 0 (List.replicate m (full 0)) ∧ Below w.heap.size w w' := by
  obtain ⟨i0, hi, hz0, hz1, hz2⟩ := info_parts Try.info9
  obtain ⟨C, hC, hCs⟩ : ∃ C : Array Value, (∀ w : World, (Instr.makeSlice 41 (.int .i64 (m : Int)) (.int .i64 (m : Int))).run Try.prog w = .ok (.slice (some ⟨w.heap.size, 0, none⟩) m m) (w.alloc (.cells C 9))) ∧ C.size = m := by
    refine ⟨madeCells (Value.string ⟨#[]⟩).cells (m * i0.size), fun w => ?_, by rw [size_madeCells, hz1, Nat.mul_one]⟩
    have h := run_make (P := Try.prog) w 41 9 i0 (.string ⟨#[]⟩) Try.underlying41 hi hz0 .i64 .i64 (m : Int) (m : Int) (by omega) (by omega) (by rw [hz2]; omega) (by omega)
    simpa using h
  have hm64 := make64
  obtain ⟨Z, hZ⟩ : ∃ Z, (bv (full 0)).toArray = Z := ⟨_, rfl⟩
  have hm' : ∀ w : World, (Instr.makeSlice 27 (.int .i64 64) (.int .i64 64)).run Try.prog w = .ok (.slice (some ⟨w.heap.size, 0, none⟩) 64 64) (w.alloc (.cells Z 5)) := fun w => by rw [hm64 w, hZ]
  have hrow : RowAt ((w.alloc (.cells C 9)).alloc (.cells Z 5)) (w.heap.size + 1) (full 0) := by
    have h := heap_alloc_new (w.alloc (.cells C 9)) (.cells Z 5)
    rw [World.size_alloc, ← hZ] at h
    unfold RowAt
    rw [← hZ]
    exact h
  have kz := bvals_str (hrow.bvals 64 (by simp [full]))
  rw [full_length] at kz
  obtain ⟨S, hS⟩ : ∃ S, strOfNums (full 0) = S := ⟨_, rfl⟩
  rw [hS] at kz
  have HS := Lib.hid hS
  have hb0 : Below w.heap.size w ((w.alloc (.cells C 9)).alloc (.cells Z 5)) := ((Below.refl _ _).alloc (Nat.le_refl _) _).alloc (by simp) _
  have R1 := Lib.hid (show RelM w m (.string S) (.int .i64 0) ((w.alloc (.cells C 9)).alloc (.cells Z 5)) from ⟨0, C, Nat.zero_le _, rfl, by rw [Below.heap_alloc _ _ _ (by simp)]; exact heap_alloc_new w _, hCs, fun j hj => by omega, hb0⟩)
  clear hm64 hZ hS hrow hb0 hCs hi hz0 hz1 hz2
  go_enter Try.func17, Try.ntmps17
  go_wp2_with fail
  go_loopw [5] (fun v wr => RelM w m (.string S) v wr) (fun v _ => m - (intOf v).toNat)
  case atStart => exact R1.out
  case round =>
    clear R1
    obtain ⟨k, cs, hk, rfl, hcs, hsz, hall, hbel⟩ := hrel
    have HC := Lib.hid hcs
    have HA := Lib.hid hall
    have HB := Lib.hid hbel
    have HZ := Lib.hid hsz
    by_cases hlt : k < m
    · have c1 : wr.cell? ⟨w.heap.size, k, none⟩ = some (cs[k]'(by omega)) := by
        simp [World.cell?, hcs]
      have f1 : wr.frozen? ⟨w.heap.size, k, none⟩ = false := by simp [World.frozen?, hcs]
      generalize cs[k] = v0 at *
      have HREL := Lib.hid (show RelM w m (.string S) (.int .i64 ((k + 1 : Nat) : Int)) (wr.setCell ⟨w.heap.size, k, none⟩ (.string S)) from ⟨k + 1, cs.setIfInBounds k (.string S), by omega, rfl, heap_store _ hcs, by simpa using hsz, fun j hj => by
        by_cases hjk : k = j
        · subst hjk
          rw [Array.getElem?_setIfInBounds_self_of_lt (by omega)]
        · rw [Array.getElem?_setIfInBounds_ne hjk]
          exact hall j (by omega), Below.setCell hbel (p := ⟨w.heap.size, k, none⟩) (Nat.le_refl _) _⟩)
      clear hcs hall hbel hsz
      go_wp2_with fail
      go_roundw
      case rel =>
        first
          | exact HREL.out
          | ((repeat apply Exists.intro); exact ⟨HREL.out, rfl⟩)
      case measure => simp [intOf]; omega
    · obtain rfl : k = m := by omega
      clear hcs hall hbel hsz hlt
      go_wp2_with fail
      go_ret
      have hlt := lt_of_block HC.out
      refine ⟨_, w.heap.size, rfl, HB.out.size, Nat.le_refl _, ⟨?_, ?_, fun i hi => ?_⟩, HB.out.alloc HB.out.size _⟩
      · rw [List.length_replicate]
        exact heap_alloc_new wr _
      · rw [Below.heap_alloc _ _ _ hlt, HC.out]
        congr 2
        apply Array.ext_getElem?
        intro j
        by_cases hj : j < k
        · rw [HA.out j hj, ← HS.out]
          simp [hj, sv]
        · have := HZ.out
          rw [Array.getElem?_eq_none (by omega), Array.getElem?_eq_none (by simp; omega)]
      · rw [List.length_replicate] at hi
        rw [List.getD_eq_getElem?_getD, List.getElem?_replicate, if_pos hi]
        exact Sec.full (by omega) (by omega)

end Go.Proofs.Ytggdaepflcjmfaa
