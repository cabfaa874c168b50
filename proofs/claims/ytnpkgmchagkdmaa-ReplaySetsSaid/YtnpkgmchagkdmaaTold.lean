/-
  'told' answers true, in whatever world, and touches nothing that was there; no condition.
-/
import Derived.Test.YtnpkgmchagkdmaaSet
namespace Go.Proofs.Ytnpkgmchagkdmaa
open Go.RowKit

theorem Rep.new (w : World) (a : Int) : Rep (w.alloc (.cells #[.int .i64 a, .int .i64 0, .int .u64 0, .int .i64 0] 48)) w.heap.size a 0 0 :=
  ⟨0, heap_alloc_new w _⟩

set_option maxHeartbeats 400000 in
theorem told_any (w : World) :
    Calls Try.prog 10 #[] w fun e w' => e = .returned (.bool true) ∧ Below w.heap.size w w' := by
  have hb0 : Below w.heap.size w (w.alloc (.cells #[.int .i64 3, .int .i64 0, .int .u64 0, .int .i64 0] 48)) := (Below.refl _ _).alloc (Nat.le_refl _) _
  have r0 := Rep.new w 3
  go_enter Try.func10, Try.ntmps10
  go_wp2_with fail
  refine (new_some 3 _ (by omega) (by omega)).mono ?_
  rintro e w' ⟨rfl, rfl⟩
  generalize hb : w.heap.size = b at *
  have HB := (show Hid (w.heap.size = b) from hb)
  clear hb
  generalize w.alloc (.cells #[.int .i64 3, .int .i64 0, .int .u64 0, .int .i64 0] 48) = w0 at *
  go_wp2_with fail
  refine (take_yes b 3 0 0 5 _ r0 (by omega) (by omega) (by omega) (by omega) (by omega) (by decide +kernel)).mono ?_
  rintro e w1 ⟨rfl, r1, t1⟩
  rw [show takeB 3 0 0 5 = 1 from by decide +kernel, show max (0 : Int) 5 = 5 from rfl] at r1
  go_wp2_with fail
  refine (take_yes b 3 5 1 3 _ r1 (by omega) (by omega) (by omega) (by omega) (by omega) (by decide +kernel)).mono ?_
  rintro e w2 ⟨rfl, r2, t2⟩
  rw [show takeB 3 5 1 3 = 5 from by decide +kernel, show max (5 : Int) 3 = 5 from rfl] at r2
  go_wp2_with fail
  refine (take_no b 3 5 5 5 _ r2 (by omega) (by omega) (by omega) (by omega) (by omega) (by decide +kernel)).mono ?_
  rintro e w3 ⟨rfl, r3, t3⟩
  go_wp2_with fail
  refine (may_any b 3 5 5 2 _ r3 (by omega) (by omega) (by omega) (by omega) (by omega)).mono ?_
  rw [show mayF 3 5 5 2 = false from by decide +kernel]
  rintro e w4 ⟨rfl, n4, rfl⟩
  go_wp2_with fail
  refine (may_any b 3 5 5 4 _ (r3.drewN _) (by omega) (by omega) (by omega) (by omega) (by omega)).mono ?_
  rw [show mayF 3 5 5 4 = true from by decide +kernel]
  rintro e w5 ⟨rfl, n5, rfl⟩
  go_wp2_with fail
  refine (bits_any b 3 5 5 _ (r3.drewN _)).mono ?_
  rintro e w6 ⟨rfl, rfl⟩
  go_wp2_with fail
  refine (set_ok b 3 5 5 7 5 _ (r3.drewN _) (by omega) (by omega) (by omega) (by decide +kernel)).mono ?_
  rintro e w7 ⟨rfl, r7, t7⟩
  go_wp2_with fail
  refine (set_bad b 3 7 5 7 8 _ r7 (by omega) (by omega) (by omega) (by decide +kernel)).mono ?_
  rintro e w8 ⟨rfl, rfl⟩
  go_wp2_with fail
  refine (set_bad b 3 7 5 0 1 _ r7 (by omega) (by omega) (by omega) (by decide +kernel)).mono ?_
  rintro e w9 ⟨rfl, rfl⟩
  go_wp2_with fail
  refine (set_bad b 3 7 5 1 3 _ r7 (by omega) (by omega) (by omega) (by decide +kernel)).mono ?_
  rintro e w10 ⟨rfl, rfl⟩
  go_wp2_with fail
  refine (top_any b 3 7 5 _ r7).mono ?_
  rintro e w11 ⟨rfl, rfl⟩
  go_wp2_with fail
  refine (may_any b 3 7 5 5 _ r7 (by omega) (by omega) (by omega) (by omega) (by omega)).mono ?_
  rw [show mayF 3 7 5 5 = false from by decide +kernel]
  rintro e w12 ⟨rfl, n12, rfl⟩
  go_wp2_with fail
  refine (may_any b 3 7 5 6 _ (r7.drewN _) (by omega) (by omega) (by omega) (by omega) (by omega)).mono ?_
  rw [show mayF 3 7 5 6 = true from by decide +kernel]
  rintro e w13 ⟨rfl, n13, rfl⟩
  go_wp2_with fail
  refine (new_none 65 _ (by omega)).mono ?_
  rintro e w14 ⟨rfl, rfl⟩
  go_wp2_with fail
  refine (take_nil 1 _).mono ?_
  rintro e w15 ⟨rfl, rfl⟩
  go_wp2_with fail
  refine (may_nil 1 _).mono ?_
  rintro e w16 ⟨rfl, n16, rfl⟩
  go_wp2_with fail
  go_ret
  refine ⟨rfl, ?_⟩
  rw [HB.out]
  exact hb0.trans (Touch.below (((((t1.trans t2).trans t3).drewN _).trans t7).drewN _) (Nat.le_refl _))

end Go.Proofs.Ytnpkgmchagkdmaa
