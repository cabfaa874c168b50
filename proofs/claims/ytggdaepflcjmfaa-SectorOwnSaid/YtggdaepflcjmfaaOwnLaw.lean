/-
  The law SectorOwn answers true at every input and leaves what was there as it was; no condition.
-/
import Derived.Test.YtggdaepflcjmfaaDisk
import Derived.WalkKit
import Derived.Deep.DeepCutAuto
import Derived.Deep.CutBlock
import Derived.Deep.OwnRows
import Derived.ProofKit
import Derived.OpenShut
import Derived.ShutString
namespace Go.Proofs.Ytggdaepflcjmfaa.sectorOwn
open Go.ChangeShapes Go.WideShapes Go.ChangeAt Go.RowKit
open Go.ChangeMaps (open_string shut_string)
set_option linter.unusedVariables false

theorem own : ownKnob Try.prog.godebug = none := by kernel_rfl

set_option maxRecDepth 100000 in
set_option maxHeartbeats 4000000 in
theorem walk (a0 : Int) (a1 : Int) (w0 : (Lit.int .u8 a0).wf = true) (w1 : (Lit.int .i64 a1).wf = true) (w : World) :
    Calls Try.prog 6 #[.int .u8 a0, .int .i64 a1] w fun e w' => e = .returned (.bool true) ∧ Below w.heap.size w w' := by
  have k0 : 0 ≤ IntKind.u64.wrap a1 := wrap_nonneg _
  clear w0 w1
  obtain ⟨k, hk, hk64⟩ : ∃ k : Nat, IntKind.u64.wrap a1 % 64 = (k : Int) ∧ k < 64 := ⟨(IntKind.u64.wrap a1 % 64).toNat, by omega, by omega⟩
  have HK := Lib.hid hk
  clear hk
  go_enter Try.func6, Try.ntmps6
  go_wp2_with fail
  refine (d_new 1 w (by omega) (by omega)).mono ?_
  rintro y w1 ⟨rfl, e, r1⟩
  rw [show List.replicate (Int.toNat 1) (full 0) = [full 0] from rfl] at r1
  generalize hb : w.heap.size = b at *
  have HB := (show Hid (w.heap.size = b) from hb)
  clear hb
  have R1 := Lib.hid r1
  clear r1
  go_wp2_with fail
  refine (d_filled a0 R1.out).mono ?_
  rintro y w2 ⟨s2, rfl, r2, g2, _⟩
  have R2 := Lib.hid r2
  have G2 := Lib.hid g2
  clear r2 g2 R1
  go_wp2_with fail
  refine (d_ok 0 s2 64 _ R2.out (by omega) (by omega) (by simp) G2.out).mono ?_
  rintro y w3 ⟨rfl, r3, k3⟩
  rw [show ([full 0] : List (List Int)).set 0 (full a0) = [full a0] from rfl] at r3
  have g3 := G2.out.kept k3
  have c3 := g3.cell hk64
  have f3 := g3.frozen k
  have R3 := Lib.hid r3
  have HSG := Lib.hid g3.1
  clear r3 k3 g3 R2 G2
  have hk := HK.out
  have R3' := Lib.hid (D.setCell (o := k) R3.out HSG.out (.int .u8 (bits .xor .u8 IntKind.u8.max a0)))
  clear R3
  go_wp2_with fail
  clear hk k0
  refine (d_read 0 R3'.out (by simp)).mono ?_
  rintro y w4 ⟨g4, q4, rfl, r4, G4, _⟩
  have c4 := G4.cell hk64
  have f4 := G4.frozen k
  have hq4 : (64 : Int) ≤ (q4 : Int) := by have := G4.2.1; omega
  have R4 := Lib.hid (D.setCell (o := k) r4 G4.1 (.int .u8 (bits .xor .u8 IntKind.u8.max a0)))
  clear r4 G4 R3' c3 f3
  go_wp2_with fail
  refine (d_read 0 R4.out (by simp)).mono ?_
  rintro y w5 ⟨g5, q5, rfl, r5, G5, _⟩
  have R5 := Lib.hid r5
  have G5' := Lib.hid G5
  clear r5 G5 R4 c4 f4
  go_wp2_with fail
  refine (d_told R5.out).mono ?_
  rintro y w6 ⟨rfl, r6, b6⟩
  have c6 := (G5'.out.below b6).cell hk64
  rw [show (([full a0] : List (List Int)).getD 0 []).getD k 0 = a0 from full_get a0 hk64] at c6
  have R6 := Lib.hid r6
  clear r6 b6 G5' R5
  go_wp2_with fail
  go_ret
  refine ⟨rfl, ?_⟩
  rw [HB.out]
  exact R6.out.2.1

/-! The row's step. -/
set_option maxRecDepth 100000 in
theorem lifted (os : Os) (started : os.Started) (H : Type) (enc : TypeId × Value → H) :
    ReturnsInHanded {} Try.checked os 6 .any (Rows.sectorOwnSpec.pre6 enc Try.prog Try.f6 Rows.sectorOwnRow.domain false) (Rows.sectorOwnSpec.post enc Try.prog Try.f6 false true false false) := by
  refine returnsInHanded_of_change (C := Try.checked) own started (by kernel_rfl) Try.func6
    (ChangeSpec.witness6 (enc := enc) (C := Try.checked) false ⟨#[], #[.int .u8 0, .int .i64 0], []⟩ 8 (by kernel_rfl) (by kernel_rfl) (by kernel_rfl) (by kernel_rfl)) ?_
  intro W base args ds gs before hval0 hW hcnd _
  have hval : ∀ (j : Nat) t v, Try.f6.params[j]? = some t → args[j]? = some v → Value.okWide Try.prog W .any base t v := hval0
  have hW' := hW
  obtain ⟨p, q, hA0, hV, rfl, hfz, hnd⟩ := hW
  have hA : DataW.TrodAll enc Try.prog W 0 (fun _ => true) true Try.f6.params.toList args.toList ds p := hA0
  rw [Try.params6] at hA hval
  obtain ⟨v0, vs0, d0, ds0, p0, q0, hargs, rfl, rfl, h0, r0⟩ := trodAll_cons hA
  obtain ⟨v1, vs1, d1, ds1, p1, q1, rfl, rfl, rfl, h1, r1⟩ := trodAll_cons r0
  obtain ⟨rfl, rfl, rfl⟩ := trodAll_nil r1
  obtain rfl : args = #[v0, v1] := by cases args; simp_all
  obtain ⟨rfl, rfl⟩ := trodVars_none hV
  obtain ⟨a0, rfl, rfl, rfl, w0⟩ := open_int Try.underlying5 (hval 0 5 v0 rfl rfl) h0
  obtain ⟨a1, rfl, rfl, rfl, w1⟩ := open_int Try.underlying3 (hval 1 3 v1 rfl rfl) h1
  clear hA0 hval0
  simp only [List.append_nil] at hW'
  refine (walk a0 a1 w0 w1 W).mono fun e W' ⟨he, bel⟩ => ?_
  subst he
  exact ⟨_, rfl, _, _, _, [], [], [], hW', (trodAll_cons_mk (shut_bool Try.underlying4 _) trodAll_mk0), (trodAll_cons_mk (shut_int Try.underlying5 w0) (trodAll_cons_mk (shut_int Try.underlying3 w1) trodAll_mk0)), rfl, bel.frame _, fun h => by cases h⟩

theorem over : Rows.sectorOwnRow.holds Try.pinned (OpenSpec.ofChange Rows.sectorOwnSpec) :=
  OpenClaim.holds_of_wide 6 Try.f6 rfl rfl rfl rfl rfl rfl rfl ⟨rfl, rfl, rfl, rfl, rfl⟩ rfl rfl rfl rfl rfl (by kernel_rfl) Try.func6 (by kernel_rfl)
    (of_decide_eq_true (by kernel_rfl)) (by unfold Func.isWrapper; first | (rw [if_pos (by decide +kernel)]; kernel_rfl) | (rw [if_neg (by decide +kernel)]; exact ⟨rfl, rfl⟩))
    (fun os started H enc _ => lifted os started H enc)

theorem proved : Rows.SectorOwnSaid :=
  over
#print axioms proved
end Go.Proofs.Ytggdaepflcjmfaa.sectorOwn
