/-
  The law ReplayPlays answers true at every input and leaves what was there as it was; no condition.
-/
import Derived.Test.YtnpkgmchagkdmaaTold
import Derived.Test.YtnpkgmchagkdmaaBoth
import Derived.Test.YtnpkgmchagkdmaaHelp
import Derived.WalkKit
import Derived.Deep.DeepCutAuto
import Derived.Deep.OwnRows
import Derived.ProofKit
import Derived.OpenShut
import Derived.ShutString
import Derived.ChangeOld
import Derived.Below
namespace Go.Proofs.Ytnpkgmchagkdmaa.replayPlays
open Go.ChangeShapes Go.WideShapes Go.ChangeAt Go.RowKit
open Go.ChangeMaps (open_string shut_string)
set_option linter.unusedVariables false

theorem own : ownKnob Try.prog.godebug = none := by kernel_rfl
theorem laidOut : laidOutB Try.prog = true := by kernel_rfl

/-- At each round's head. -/
def Rel (w : World) (b : Nat) (W : Int) (len : Nat) (v : Value) (wr : World) : Prop :=
  ∃ (k : Nat) (T : Int) (B : Nat) (l : List Int), k ≤ len ∧ v = .int .i64 (k : Int) ∧ Two wr b (b + 1) W T B l ∧ l.length ≤ k ∧ Below b w wr

theorem two_new (w : World) (W : Int) (h1 : 1 ≤ W) (h2 : W ≤ 64) : Two ((w.alloc (.cells #[.int .i64 W, .int .i64 0, .int .u64 0, .int .i64 0] 48)).alloc (.cells #[.int .i64 W, .int .i64 0, .slice none 0 0] 29)) w.heap.size (w.heap.size + 1) W 0 0 [] := by
  have r0 := Rep.new w W
  refine ⟨r0.of_heap (Below.heap_alloc _ _ _ r0.lt), ?_, (Inv.new h1 h2).congr fun s => by simp [hasF], by omega⟩
  have := RefRep.new (w.alloc (.cells #[.int .i64 W, .int .i64 0, .int .u64 0, .int .i64 0] 48)) W
  rwa [World.size_alloc] at this

set_option maxHeartbeats 400000 in
theorem walk_nil (W : Int) (a1 : Option Addr) (len1 cap1 : Nat) (w : World) (h : W < 1 ∨ 64 < W) :
    Calls Try.prog 3 #[.int .i64 W, .slice a1 len1 cap1] w fun e w' => e = .returned (.bool true) ∧ Below w.heap.size w w' := by
  have HW := Lib.hid h
  clear h
  go_enter Try.func3, Try.ntmps3
  go_wp2_with fail
  refine (new_none W _ HW.out).mono ?_
  rintro e w' ⟨rfl, rfl⟩
  go_wp2_with fail
  refine (refNew_none W _ HW.out).mono ?_
  rintro e w' ⟨rfl, rfl⟩
  go_wp2_with fail
  refine (told_any _).mono ?_
  rintro e w3 ⟨rfl, t3⟩
  go_wp2_with fail
  go_ret
  exact ⟨rfl, t3⟩

set_option maxHeartbeats 400000 in
theorem walk_long (W : Int) (a1 : Option Addr) (len1 cap1 : Nat) (w : World) (bW1 : 1 ≤ W) (bW2 : W ≤ 64) (h : 60 < len1) :
    Calls Try.prog 3 #[.int .i64 W, .slice a1 len1 cap1] w fun e w' => e = .returned (.bool true) ∧ Below w.heap.size w w' := by
  have hb0 := ((Below.refl w.heap.size w).alloc (Nat.le_refl _) (.cells #[.int .i64 W, .int .i64 0, .int .u64 0, .int .i64 0] 48)).alloc (by simp) (.cells #[.int .i64 W, .int .i64 0, .slice none 0 0] 29)
  go_enter Try.func3, Try.ntmps3
  go_wp2_with fail
  refine (new_some W _ bW1 bW2).mono ?_
  rintro e w' ⟨rfl, rfl⟩
  go_wp2_with fail
  refine (refNew_some W _ bW1 bW2).mono ?_
  rintro e w' ⟨rfl, rfl⟩
  have hs := hb0.size
  generalize (w.alloc (.cells #[.int .i64 W, .int .i64 0, .int .u64 0, .int .i64 0] 48)).alloc (.cells #[.int .i64 W, .int .i64 0, .slice none 0 0] 29) = w0 at *
  go_wp2_with fail
  refine (told_any _).mono ?_
  rintro e w3 ⟨rfl, t3⟩
  go_wp2_with fail
  go_ret
  exact ⟨rfl, hb0.trans (t3.mono hs)⟩

set_option maxHeartbeats 2000000 in
theorem walk_some (W : Int) (a1 : Option Addr) (len1 cap1 : Nat) (z1 : List Int) (w : World) (w1 : IsRow .i64 w a1 len1 cap1 z1) (bW1 : 1 ≤ W) (bW2 : W ≤ 64) (hl1 : len1 ≤ 60) :
    Calls Try.prog 3 #[.int .i64 W, .slice a1 len1 cap1] w fun e w' => e = .returned (.bool true) ∧ Below w.heap.size w w' := by
  have hl1' : len1 ≤ 9223372036854775807 := by omega
  have hb0 := ((Below.refl w.heap.size w).alloc (Nat.le_refl _) (.cells #[.int .i64 W, .int .i64 0, .int .u64 0, .int .i64 0] 48)).alloc (by simp) (.cells #[.int .i64 W, .int .i64 0, .slice none 0 0] 29)
  have rr := two_new w W bW1 bW2
  rcases w1.cases with hz1 | ⟨xb, xo, rfl, _, hxb, hc, _⟩
  all_goals
    first | (have HC := Lib.hid hc; clear hc) | (have HC := Nat.le_of_eq hz1; clear hz1)
    clear w1
    go_enter Try.func3, Try.ntmps3
    go_wp2_with fail
    refine (new_some W _ bW1 bW2).mono ?_
    rintro e w' ⟨rfl, rfl⟩
    go_wp2_with fail
    refine (refNew_some W _ bW1 bW2).mono ?_
    rintro e w' ⟨rfl, rfl⟩
    rw [World.size_alloc]
    generalize hb : w.heap.size = b at *
    have HB := (show Hid (w.heap.size = b) from hb)
    clear hb
    generalize (w.alloc (.cells #[.int .i64 W, .int .i64 0, .int .u64 0, .int .i64 0] 48)).alloc (.cells #[.int .i64 W, .int .i64 0, .slice none 0 0] 29) = w0 at *
    have R1 := Lib.hid (show Rel w b W len1 (.int .i64 0) w0 from ⟨0, 0, 0, [], Nat.zero_le _, rfl, rr, Nat.le_refl _, hb0⟩)
    clear rr hb0
    go_wp2_with fail
    go_loopw [7] (fun v wr => Rel w b W len1 v wr) (fun i _ => len1 - (intOf i).toNat)
    case atStart => exact R1.out
    case round =>
      clear R1
      obtain ⟨k, T, B, l, hk, rfl, htwo, hll, hbel⟩ := hrel
      by_cases hlt : k < len1
      · first
          | exact absurd hlt (by omega)
          | (have hcell : wr.cell? ⟨xb, xo + k, none⟩ = some (.int .i64 (z1.getD k 0)) := (hbel.cell (p := ⟨xb, xo + k, none⟩) hxb).trans (HC.out k hlt)
             have HT := Lib.hid htwo
             have HBEL := Lib.hid hbel
             obtain ⟨v, c0, ct, c2, f1, f2, ho, hc2⟩ := htwo.ref.cells
             clear c0 c2 f1 f2 ho hc2 htwo hbel
             have hT1 := HT.out.inv.t0
             have hT2 := HT.out.inv.t1
             have kz : 0 ≤ IntKind.u64.wrap (z1.getD k 0) := wrap_nonneg _
             go_upto_if 38 with fail
             go_cut [8] (fun v8 wx => ∃ n : Int, v8 = .int .i64 n ∧ wx = wr)
             case first =>
               by_cases h5 : (k : Int) % 5 < 4
               all_goals
                 go_wp2_with fail
                 go_meet
                 exact ⟨_, rfl, rfl⟩
             case rest =>
               obtain ⟨n, rfl, hw⟩ := hcut
               rw [hw]
               clear hw
               go_wp2_with fail
               have HRA := Lib.hid HT.out.rep
               have HRM := Lib.hid HT.out.ref
               have HI := Lib.hid HT.out.inv
               clear hcell kz ct
               go_region_with (first
                 | (go_at_call 11; refine (may_inv b W T B (hasF l) n _ ?_ HI.out).mono ?_; exact HRA.out.of_heap rfl; rintro e w3 ⟨rfl, n3, rfl⟩)
                 | (go_at_call 12; refine (refMay_inv (b + 1) W T B l n _ ?_ HI.out).mono ?_; exact HRM.out.keep fun _ _ _ => rfl; rintro e w4 ⟨rfl, n4, rfl⟩)
                 | (go_at_call 13; refine (take_any b W T B (hasF l) n _ ?_ HI.out).mono ?_; exact HRA.out.of_heap rfl; rintro e w5 ⟨rfl, r5, t5⟩; have RA5 := Lib.hid r5; have T5 := Lib.hid (show Touch b wr w5 from ⟨t5.os, t5.tape, t5.output, t5.size, t5.block⟩); clear r5 t5)
                 | (go_at_call 14; refine (refTake_inv (b + 1) W T B l n _ ?_ HI.out (by omega)).mono ?_; exact T5.out.ref HRM.out (Nat.lt_succ_self _); rintro e w6 ⟨rfl, r6, b6⟩; have RM6 := Lib.hid r6; have RA6 := Lib.hid (RA5.out.of_heap (w' := w6) (b6.block b (Nat.lt_succ_self _))); have HB6 := Lib.hid (HBEL.out.trans ((T5.out.below (Nat.le_refl _)).trans (b6.mono (Nat.le_succ _)))); obtain ⟨v, cc0, cct, cc2, cf1, cf2, cho, chc⟩ := r6.cells; clear cc0 cc2 cf1 cf2 cho chc r6 b6)
                 | (go_at_call 15; refine (top_any b W (nextT W T B n) (nextB W T B n) _ ?_).mono ?_; exact RA6.out; rintro e w7 ⟨rfl, rfl⟩)
                 | (go_at_call 16; refine (bits_any b W (nextT W T B n) (nextB W T B n) _ ?_).mono ?_; exact RA6.out; rintro e w7 ⟨rfl, rfl⟩)
                 | (go_at_call 17; refine (refBits_inv (b + 1) W (nextT W T B n) (nextB W T B n) (nextL W T B l n) _ ?_ (HI.out.nextL n)).mono ?_; exact RM6.out; rintro e w7 ⟨rfl, rfl⟩))
               all_goals
                 go_wp2_with fail
                 go_roundw
                 case rel => exact ⟨k + 1, _, _, _, by omega, by go_num, ⟨RA6.out, RM6.out, HI.out.nextL n, Nat.lt_succ_self _⟩, Nat.le_trans (nextL_length W T B l n) (by omega), HB6.out⟩
                 case measure => simp [intOf]; omega)
      · go_wp2_with fail
        refine (told_any _).mono ?_
        rintro e w3 ⟨rfl, t3⟩
        go_wp2_with fail
        go_ret
        refine ⟨rfl, ?_⟩
        rw [HB.out]
        exact hbel.trans (t3.mono (Nat.le_of_lt htwo.rep.lt))

theorem walk (a0 : Int) (a1 : Option Addr) (len1 cap1 : Nat) (z1 : List Int) (w : World) (w0 : (Lit.int .i64 a0).wf = true) (w1 : IsRow .i64 w a1 len1 cap1 z1) :
    Calls Try.prog 3 #[.int .i64 a0, .slice a1 len1 cap1] w fun e w' => e = .returned (.bool true) ∧ Below w.heap.size w w' := by
  by_cases h : a0 < 1 ∨ 64 < a0
  · exact walk_nil a0 a1 len1 cap1 w h
  by_cases h2 : 60 < len1
  · exact walk_long a0 a1 len1 cap1 w (by omega) (by omega) h2
  · exact walk_some a0 a1 len1 cap1 z1 w w1 (by omega) (by omega) (by omega)

/-! The row's step. -/
set_option maxRecDepth 100000 in
theorem lifted (os : Os) (started : os.Started) (H : Type) (enc : TypeId × Value → H) :
    ReturnsInHanded {} Try.checked os 3 .any (Rows.replayPlaysSpec.pre6 enc Try.prog Try.f3 Rows.replayPlaysRow.domain false) (Rows.replayPlaysSpec.post enc Try.prog Try.f3 false true false false) := by
  refine returnsInHanded_of_change (C := Try.checked) own started (by kernel_rfl) Try.func3
    (ChangeSpec.witness6 (enc := enc) (C := Try.checked) false ⟨#[], #[.int .i64 0, .slice none 0 0], []⟩ 8 (by kernel_rfl) (by kernel_rfl) (by kernel_rfl) (by kernel_rfl)) ?_
  intro W base args ds gs before hval0 hW hcnd _
  have hval : ∀ (j : Nat) t v, Try.f3.params[j]? = some t → args[j]? = some v → Value.okWide Try.prog W .any base t v := hval0
  have hW' := hW
  obtain ⟨p, q, hA0, hV, rfl, hfz, hnd⟩ := hW
  have hA : DataW.TrodAll enc Try.prog W 0 (fun _ => true) true Try.f3.params.toList args.toList ds p := hA0
  rw [Try.params3] at hA hval
  obtain ⟨v0, vs0, d0, ds0, p0, q0, hargs, rfl, rfl, h0, r0⟩ := trodAll_cons hA
  obtain ⟨v1, vs1, d1, ds1, p1, q1, rfl, rfl, rfl, h1, r1⟩ := trodAll_cons r0
  obtain ⟨rfl, rfl, rfl⟩ := trodAll_nil r1
  obtain rfl : args = #[v0, v1] := by cases args; simp_all
  obtain ⟨rfl, rfl⟩ := trodVars_none hV
  obtain ⟨a0, rfl, rfl, rfl, w0⟩ := open_int Try.underlying3 (hval 0 3 v0 rfl rfl) h0
  obtain ⟨a1, len1, cap1, rfl⟩ := okWide_slice Try.underlying22 (hval 1 22 v1 rfl rfl)
  have k1 := h1
  have lt1 : ∀ x ∈ p1, x.block < W.heap.size := by obtain ⟨m, hm⟩ := k1; exact DataW.trod_lt m _ _ _ hm
  obtain ⟨z1, w1⟩ : ∃ zs, IsRow .i64 W a1 len1 cap1 zs := by
    obtain ⟨fuel, hf⟩ := h1
    rcases open_ints Try.underlying22 Try.underlying2 (by kernel_rfl) hf with ⟨hcs, _⟩ | ⟨x, l, c, zs, hcs, _, hl, hm, hz, _, hcell, hwz⟩
    · simp [Value.cells] at hcs
      obtain ⟨rfl, rfl, rfl⟩ := hcs
      exact ⟨[], .inl ⟨rfl, rfl, rfl, rfl⟩⟩
    · simp [Value.cells] at hcs
      obtain ⟨rfl, rfl, rfl⟩ := hcs
      exact ⟨zs, .inr ⟨_, rfl, hl, hm, by simpa using hz, hcell, hwz⟩⟩
  clear hA0 hval0
  refine (walk a0 a1 len1 cap1 z1 W w0 w1).mono fun e W' ⟨he, bel⟩ => ?_
  subst he
  exact ⟨_, rfl, _, _, _, [], _, [], hW', trodAll_mk1 (shut_bool Try.underlying4 _), (trodAll_cons_mk (shut_int Try.underlying3 w0) (trodAll_cons_mk (Below.trod laidOut (by kernel_rfl) (of_decide_eq_true (by kernel_rfl)) k1 bel lt1) trodAll_mk0)), rfl, bel.frame _, fun h => by cases h⟩

theorem over : Rows.replayPlaysRow.holds Try.pinned (OpenSpec.ofChange Rows.replayPlaysSpec) :=
  OpenClaim.holds_of_wide 3 Try.f3 rfl rfl rfl rfl rfl rfl rfl ⟨rfl, rfl, rfl, rfl, rfl⟩ rfl rfl rfl rfl rfl (by kernel_rfl) Try.func3 (by kernel_rfl)
    (of_decide_eq_true (by kernel_rfl)) (by unfold Func.isWrapper; first | (rw [if_pos (by decide +kernel)]; kernel_rfl) | (rw [if_neg (by decide +kernel)]; exact ⟨rfl, rfl⟩))
    (fun os started H enc _ => lifted os started H enc)

theorem proved : Rows.ReplayPlaysSaid := over
#print axioms proved
end Go.Proofs.Ytnpkgmchagkdmaa.replayPlays
