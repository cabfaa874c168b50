/-
  The law ReplayWindow answers true at every input and leaves what was there as it was; no condition.
-/
import Derived.Test.YtnpkgmchagkdmaaTold
import Derived.Test.YtnpkgmchagkdmaaPlain
import Derived.WalkKit
import Derived.ProofKit
import Derived.OpenShut
import Derived.ShutString
namespace Go.Proofs.Ytnpkgmchagkdmaa.replayWindow
open Go.ChangeShapes Go.WideShapes Go.ChangeAt Go.RowKit
open Go.ChangeMaps (open_string shut_string)
set_option linter.unusedVariables false

theorem own : ownKnob Try.prog.godebug = none := by kernel_rfl

theorem wrap_nonneg (a : Int) : 0 ≤ IntKind.u64.wrap a := by rw [IntKind.wrap_u64]; omega

set_option maxHeartbeats 400000 in
theorem walk (a0 : Int) (a1 : Int) (a2 : Int) (w0 : (Lit.int .i64 a0).wf = true) (w1 : (Lit.int .i64 a1).wf = true) (w2 : (Lit.int .i64 a2).wf = true) (w : World) :
    Calls Try.prog 7 #[.int .i64 a0, .int .i64 a1, .int .i64 a2] w fun e w' => e = .returned (.bool true) ∧ Below w.heap.size w w' := by
  have k0 : 0 ≤ IntKind.u64.wrap a0 := wrap_nonneg _
  have k1 : 0 ≤ IntKind.u64.wrap a1 := wrap_nonneg _
  have k2 : 0 ≤ IntKind.u64.wrap a2 := wrap_nonneg _
  go_enter Try.func7, Try.ntmps7
  go_wp2_with fail
  generalize hx0 : IntKind.u64.wrap a0 % 64 = x0 at *
  generalize hx1 : IntKind.u64.wrap a1 % 1000000 = x1 at *
  generalize hx2 : IntKind.u64.wrap a2 % 140 = x2 at *
  have b0 : 0 ≤ x0 ∧ x0 < 64 := by omega
  have b1 : 0 ≤ x1 ∧ x1 < 1000000 := by omega
  have b2 : 0 ≤ x2 ∧ x2 < 140 := by omega
  clear hx0 hx1 hx2 k0 k1 k2 w0 w1 w2
  generalize hW : 1 + x0 = W at *
  generalize ht : 100 + x1 = t at *
  generalize hn : t - 70 + x2 = n at *
  have bW1 : 1 ≤ W := by omega
  have bW2 : W ≤ 64 := by omega
  have bt1 : 100 ≤ t := by omega
  have bt2 : t ≤ 1000100 := by omega
  have bn1 : 30 ≤ n := by omega
  have bn2 : n ≤ 2000000 := by omega
  clear hW ht hn b0 b1 b2
  have r0 := Rep.new w W
  have hb0 : Below w.heap.size w (w.alloc (.cells #[.int .i64 W, .int .i64 0, .int .u64 0, .int .i64 0] 48)) := (Below.refl _ _).alloc (Nat.le_refl _) _
  refine (new_some W _ bW1 bW2).mono ?_
  rintro e w' ⟨rfl, rfl⟩
  generalize hb : w.heap.size = b at *
  have HB := (show Hid (w.heap.size = b) from hb)
  clear hb
  generalize w.alloc (.cells #[.int .i64 W, .int .i64 0, .int .u64 0, .int .i64 0] 48) = w0 at *
  have i0 : Inv W 0 0 (fun _ => false) := Inv.new bW1 bW2
  have m0 : mayF W 0 0 t = true := by rw [i0.may]; simp; omega
  have I1 := i0.take m0
  rw [show max 0 t = t from by omega] at I1
  have TT := Lib.hid (take_yes b W 0 0 t w0 r0 (by omega) bW1 bW2 (by omega) (by omega) m0)
  clear m0
  go_wp2_with fail
  refine TT.out.mono ?_
  rintro e w1 ⟨rfl, r1, t1⟩
  clear TT
  rw [show max 0 t = t from by omega] at r1
  generalize takeB W 0 0 t = B1 at *
  have m1 := I1.may n
  have hB1 := I1.lt
  have below1 := hb0.trans (t1.below (Nat.le_refl _))
  clear I1 hb0 t1 r0 i0
  have H := Lib.hid below1
  clear below1
  by_cases c1 : t - W < n
  · by_cases c2 : n = t
    · subst c2
      have mm : mayF W n B1 n = false := by rw [m1]; simp
      clear m1
      go_wp2_with fail
      refine (told_any _).mono ?_
      rintro e w2 ⟨rfl, t2⟩
      have r2 := r1.of_heap (t2.block b r1.lt)
      go_wp2_with fail
      refine (may_any b W n B1 n _ r2 hB1 bW1 bW2 (by omega) (by omega)).mono ?_
      rintro e w3 ⟨rfl, n3, rfl⟩
      go_wp2_with fail
      refine (take_no b W n B1 n _ (r2.drewN _) hB1 bW1 bW2 (by omega) (by omega) mm).mono ?_
      rintro e w4 ⟨rfl, r4, t4⟩
      go_wp2_with fail
      refine (top_any b W n B1 _ r4).mono ?_
      rintro e w5 ⟨rfl, rfl⟩
      go_wp2_with fail
      go_ret
      refine ⟨rfl, ?_⟩
      rw [HB.out]
      exact (H.out.trans (t2.mono (Nat.le_of_lt r1.lt))).trans (Touch.below ((Touch.drewN (Touch.refl _ _) n3).trans t4) (Nat.le_refl _))
    · have mm : mayF W t B1 n = true := by rw [m1]; simp [c2]; omega
      have d2 : (n != t) = true := by simpa using c2
      clear m1
      by_cases c3 : t ≤ n
      · have c4 : t < n := by omega
        go_wp2_with fail
        refine (told_any _).mono ?_
        rintro e w2 ⟨rfl, t2⟩
        have r2 := r1.of_heap (t2.block b r1.lt)
        go_wp2_with fail
        refine (may_any b W t B1 n _ r2 hB1 bW1 bW2 (by omega) (by omega)).mono ?_
        rintro e w3 ⟨rfl, n3, rfl⟩
        go_wp2_with fail
        refine (take_yes b W t B1 n _ (r2.drewN _) hB1 bW1 bW2 (by omega) (by omega) mm).mono ?_
        rintro e w4 ⟨rfl, r4, t4⟩
        rw [show max t n = n from by omega] at r4
        go_wp2_with fail
        refine (top_any b W n _ _ r4).mono ?_
        rintro e w5 ⟨rfl, rfl⟩
        go_wp2_with fail
        go_ret
        refine ⟨rfl, ?_⟩
        rw [HB.out]
        exact (H.out.trans (t2.mono (Nat.le_of_lt r1.lt))).trans (Touch.below ((Touch.drewN (Touch.refl _ _) n3).trans t4) (Nat.le_refl _))
      · have c4 : n < t := by omega
        go_wp2_with fail
        refine (told_any _).mono ?_
        rintro e w2 ⟨rfl, t2⟩
        have r2 := r1.of_heap (t2.block b r1.lt)
        go_wp2_with fail
        refine (may_any b W t B1 n _ r2 hB1 bW1 bW2 (by omega) (by omega)).mono ?_
        rintro e w3 ⟨rfl, n3, rfl⟩
        go_wp2_with fail
        refine (take_yes b W t B1 n _ (r2.drewN _) hB1 bW1 bW2 (by omega) (by omega) mm).mono ?_
        rintro e w4 ⟨rfl, r4, t4⟩
        rw [show max t n = t from by omega] at r4
        go_wp2_with fail
        refine (top_any b W t _ _ r4).mono ?_
        rintro e w5 ⟨rfl, rfl⟩
        go_wp2_with fail
        go_ret
        refine ⟨rfl, ?_⟩
        rw [HB.out]
        exact (H.out.trans (t2.mono (Nat.le_of_lt r1.lt))).trans (Touch.below ((Touch.drewN (Touch.refl _ _) n3).trans t4) (Nat.le_refl _))
  · have mm : mayF W t B1 n = false := by rw [m1]; simp; omega
    clear m1
    go_wp2_with fail
    refine (told_any _).mono ?_
    rintro e w2 ⟨rfl, t2⟩
    have r2 := r1.of_heap (t2.block b r1.lt)
    go_wp2_with fail
    refine (may_any b W t B1 n _ r2 hB1 bW1 bW2 (by omega) (by omega)).mono ?_
    rintro e w3 ⟨rfl, n3, rfl⟩
    go_wp2_with fail
    refine (take_no b W t B1 n _ (r2.drewN _) hB1 bW1 bW2 (by omega) (by omega) mm).mono ?_
    rintro e w4 ⟨rfl, r4, t4⟩
    go_wp2_with fail
    refine (top_any b W t B1 _ r4).mono ?_
    rintro e w5 ⟨rfl, rfl⟩
    go_wp2_with fail
    go_ret
    refine ⟨rfl, ?_⟩
    rw [HB.out]
    exact (H.out.trans (t2.mono (Nat.le_of_lt r1.lt))).trans (Touch.below ((Touch.drewN (Touch.refl _ _) n3).trans t4) (Nat.le_refl _))

/-! The row's step. -/
set_option maxRecDepth 100000 in
theorem lifted (os : Os) (started : os.Started) (H : Type) (enc : TypeId × Value → H) :
    ReturnsInHanded {} Try.checked os 7 .any (Rows.replayWindowSpec.pre6 enc Try.prog Try.f7 Rows.replayWindowRow.domain false) (Rows.replayWindowSpec.post enc Try.prog Try.f7 false true false false) := by
  refine returnsInHanded_of_change (C := Try.checked) own started (by kernel_rfl) Try.func7
    (ChangeSpec.witness6 (enc := enc) (C := Try.checked) false ⟨#[], #[.int .i64 0, .int .i64 0, .int .i64 0], []⟩ 8 (by kernel_rfl) (by kernel_rfl) (by kernel_rfl) (by kernel_rfl)) ?_
  intro W base args ds gs before hval0 hW hcnd _
  have hval : ∀ (j : Nat) t v, Try.f7.params[j]? = some t → args[j]? = some v → Value.okWide Try.prog W .any base t v := hval0
  have hW' := hW
  obtain ⟨p, q, hA0, hV, rfl, hfz, hnd⟩ := hW
  have hA : DataW.TrodAll enc Try.prog W 0 (fun _ => true) true Try.f7.params.toList args.toList ds p := hA0
  rw [Try.params7] at hA hval
  obtain ⟨v0, vs0, d0, ds0, p0, q0, hargs, rfl, rfl, h0, r0⟩ := trodAll_cons hA
  obtain ⟨v1, vs1, d1, ds1, p1, q1, rfl, rfl, rfl, h1, r1⟩ := trodAll_cons r0
  obtain ⟨v2, vs2, d2, ds2, p2, q2, rfl, rfl, rfl, h2, r2⟩ := trodAll_cons r1
  obtain ⟨rfl, rfl, rfl⟩ := trodAll_nil r2
  obtain rfl : args = #[v0, v1, v2] := by cases args; simp_all
  obtain ⟨rfl, rfl⟩ := trodVars_none hV
  obtain ⟨a0, rfl, rfl, rfl, w0⟩ := open_int Try.underlying3 (hval 0 3 v0 rfl rfl) h0
  obtain ⟨a1, rfl, rfl, rfl, w1⟩ := open_int Try.underlying2 (hval 1 2 v1 rfl rfl) h1
  obtain ⟨a2, rfl, rfl, rfl, w2⟩ := open_int Try.underlying3 (hval 2 3 v2 rfl rfl) h2
  clear hA0 hval0
  simp only [List.append_nil] at hW'
  refine (walk a0 a1 a2 w0 w1 w2 W).mono fun e W' ⟨he, bel⟩ => ?_
  subst he
  exact ⟨_, rfl, _, _, _, [], [], [], hW', (trodAll_cons_mk (shut_bool Try.underlying4 _) trodAll_mk0), (trodAll_cons_mk (shut_int Try.underlying3 w0) (trodAll_cons_mk (shut_int Try.underlying2 w1) (trodAll_cons_mk (shut_int Try.underlying3 w2) trodAll_mk0))), rfl, bel.frame _, fun h => by cases h⟩

theorem over : Rows.replayWindowRow.holds Try.pinned (OpenSpec.ofChange Rows.replayWindowSpec) :=
  OpenClaim.holds_of_wide 7 Try.f7 rfl rfl rfl rfl rfl rfl rfl ⟨rfl, rfl, rfl, rfl, rfl⟩ rfl rfl rfl rfl rfl (by kernel_rfl) Try.func7 (by kernel_rfl)
    (of_decide_eq_true (by kernel_rfl)) (by unfold Func.isWrapper; first | (rw [if_pos (by decide +kernel)]; kernel_rfl) | (rw [if_neg (by decide +kernel)]; exact ⟨rfl, rfl⟩))
    (fun os started H enc _ => lifted os started H enc)

theorem proved : Rows.ReplayWindowSaid :=
  over
#print axioms proved
end Go.Proofs.Ytnpkgmchagkdmaa.replayWindow
