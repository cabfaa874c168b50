/-
  The law ReplaySets answers true at every input and leaves what was there as it was; no condition.
-/
import Derived.Test.YtnpkgmchagkdmaaTold
import Derived.Test.YtnpkgmchagkdmaaBoth
import Derived.Test.YtnpkgmchagkdmaaHelp
import Derived.WalkKit
import Derived.Deep.DeepCutAuto
import Derived.Deep.OwnRows
import Derived.ProofKit
import Derived.OpenShut
import Derived.ShutString
import Derived.ChangeOld
import Derived.Below
namespace Go.Proofs.Ytnpkgmchagkdmaa.replaySets
open Go.ChangeShapes Go.WideShapes Go.ChangeAt Go.RowKit
open Go.ChangeMaps (open_string shut_string)
set_option linter.unusedVariables false

theorem own : ownKnob Try.prog.godebug = none := by kernel_rfl
theorem laidOut : laidOutB Try.prog = true := by kernel_rfl

/-- At each round's head. -/
def Rel (w : World) (b : Nat) (W : Int) (len : Nat) (v : Value) (wr : World) : Prop :=
  ∃ (k : Nat) (T : Int) (B : Nat) (l : List Int), k ≤ len ∧ v = .int .i64 (k : Int) ∧ Two wr b (b + 1) W T B l ∧ l.length ≤ 64 + k ∧ Below b w wr

theorem two_new (w : World) (W : Int) (h1 : 1 ≤ W) (h2 : W ≤ 64) : Two ((w.alloc (.cells #[.int .i64 W, .int .i64 0, .int .u64 0, .int .i64 0] 48)).alloc (.cells #[.int .i64 W, .int .i64 0, .slice none 0 0] 29)) w.heap.size (w.heap.size + 1) W 0 0 [] := by
  have r0 := Rep.new w W
  refine ⟨r0.of_heap (Below.heap_alloc _ _ _ r0.lt), ?_, (Inv.new h1 h2).congr fun s => by simp [hasF], by omega⟩
  have := RefRep.new (w.alloc (.cells #[.int .i64 W, .int .i64 0, .int .u64 0, .int .i64 0] 48)) W
  rwa [World.size_alloc] at this

theorem bits_same' (b : Nat) (W T : Int) (B : Nat) (w : World) (h : Rep w b W T B) : Calls Try.prog 16 #[.pointer (some ⟨b, 0, none⟩)] w fun e w' => e = .returned (.int .u64 (B : Nat)) ∧ w' = w :=
  (bits_any b W T B w h).mono fun _ _ ⟨h1, h2⟩ => ⟨h1, h2.symm⟩
theorem top_same' (b : Nat) (W T : Int) (B : Nat) (w : World) (h : Rep w b W T B) : Calls Try.prog 15 #[.pointer (some ⟨b, 0, none⟩)] w fun e w' => e = .returned (.int .i64 T) ∧ w' = w :=
  (top_any b W T B w h).mono fun _ _ ⟨h1, h2⟩ => ⟨h1, h2.symm⟩
theorem refBits_same' (m : Nat) (W T : Int) (B : Nat) (l : List Int) (w : World) (h : RefRep w m W T l) (hi : Inv W T B (hasF l)) : Calls Try.prog 17 #[.pointer (some ⟨m, 0, none⟩)] w fun e w' => e = .returned (.int .u64 (B : Nat)) ∧ w' = w :=
  (refBits_inv m W T B l w h hi).mono fun _ _ ⟨h1, h2⟩ => ⟨h1, h2.symm⟩

def codeS (bad : Bool) : Int := if bad = true then 1 else 0
def setT (bad : Bool) (T t : Int) : Int := if bad = true then T else t
def setB (bad : Bool) (B X : Nat) : Nat := if bad = true then B else X
def setL (bad : Bool) (l : List Int) (t : Int) (X : Nat) : List Int := if bad = true then l else setList t X 64

theorem set_any (b : Nat) (W T : Int) (B : Nat) (t : Int) (X : Nat) (w : World) (h : Rep w b W T B) (hW1 : 1 ≤ W) (hW2 : W ≤ 64) (hX : X < 18446744073709551616) :
    Calls Try.prog 18 #[.pointer (some ⟨b, 0, none⟩), .int .i64 t, .int .u64 X] w fun e w' => e = .returned (.int .i64 (codeS (setBad W t X))) ∧ Rep w' b W (setT (setBad W t X) T t) (setB (setBad W t X) B X) ∧ Touch b w w' := by
  cases hb : setBad W t X
  · exact set_ok b W T B t X w h hW1 hW2 hX hb
  · exact (set_bad b W T B t X w h hW1 hW2 hX hb).mono fun e w' ⟨h1, h2⟩ => ⟨h1, h2 ▸ h, h2 ▸ Touch.refl _ _⟩

theorem refSet_one (m : Nat) (W T : Int) (l : List Int) (t : Int) (X : Nat) (w : World) (h : RefRep w m W T l) (hW1 : 1 ≤ W) (hW2 : W ≤ 64) (hX : X < 18446744073709551616) :
    Calls Try.prog 19 #[.pointer (some ⟨m, 0, none⟩), .int .i64 t, .int .u64 X] w fun e w' => e = .returned (.int .i64 (codeS (setBad W t X))) ∧ RefRep w' m W (setT (setBad W t X) T t) (setL (setBad W t X) l t X) ∧ Below m w w' := by
  refine (refSet_any m W T l t X w h hW1 hW2 hX).mono fun e w' hp => ?_
  obtain ⟨⟨hb, he, hr⟩ | ⟨hb, he, hr⟩, hbel⟩ := hp
  · rw [hb]; exact ⟨he, hr, hbel⟩
  · rw [hb]; exact ⟨he, hr, hbel⟩

theorem set_inv {W t : Int} {X : Nat} (hW1 : 1 ≤ W) (hW2 : W ≤ 64) (hX : X < 18446744073709551616) : Inv W (setT (setBad W t X) 0 t) (setB (setBad W t X) 0 X) (hasF (setL (setBad W t X) [] t X)) := by
  cases hb : setBad W t X
  · exact Inv.ofSetList hW1 hW2 hX hb
  · exact (Inv.new hW1 hW2).congr fun s => by simp [hasF, setL]

theorem setL_length (bad : Bool) (t : Int) (X : Nat) : (setL bad [] t X).length ≤ 64 := by
  cases bad
  · exact setList_length t X 64
  · simp [setL]

set_option maxHeartbeats 400000 in
theorem walk_long (a0 t : Int) (X : Nat) (a3 : Option Addr) (len3 cap3 : Nat) (w : World) (h : 20 < len3) :
    Calls Try.prog 4 #[.int .i64 a0, .int .i64 t, .int .u64 X, .slice a3 len3 cap3] w fun e w' => e = .returned (.bool true) ∧ Below w.heap.size w w' := by
  have k0 : 0 ≤ IntKind.u64.wrap a0 := wrap_nonneg _
  go_enter Try.func4, Try.ntmps4
  go_wp2_with fail
  generalize hx0 : IntKind.u64.wrap a0 % 64 = x0 at *
  have b0 : 0 ≤ x0 ∧ x0 < 64 := by omega
  clear hx0 k0
  generalize hW : 1 + x0 = W at *
  have bW1 : 1 ≤ W := by omega
  have bW2 : W ≤ 64 := by omega
  clear hW b0
  have hb0 := ((Below.refl w.heap.size w).alloc (Nat.le_refl _) (.cells #[.int .i64 W, .int .i64 0, .int .u64 0, .int .i64 0] 48)).alloc (by simp) (.cells #[.int .i64 W, .int .i64 0, .slice none 0 0] 29)
  refine (new_some W _ bW1 bW2).mono ?_
  rintro e w' ⟨rfl, rfl⟩
  go_wp2_with fail
  refine (refNew_some W _ bW1 bW2).mono ?_
  rintro e w' ⟨rfl, rfl⟩
  have hs := hb0.size
  generalize (w.alloc (.cells #[.int .i64 W, .int .i64 0, .int .u64 0, .int .i64 0] 48)).alloc (.cells #[.int .i64 W, .int .i64 0, .slice none 0 0] 29) = w0 at *
  go_wp2_with fail
  refine (told_any _).mono ?_
  rintro e w3 ⟨rfl, t3⟩
  go_wp2_with fail
  go_ret
  exact ⟨rfl, hb0.trans (t3.mono hs)⟩

set_option maxHeartbeats 2000000 in
theorem walk_some (a0 t : Int) (X : Nat) (a3 : Option Addr) (len3 cap3 : Nat) (z3 : List Int) (w : World) (w3 : IsRow .i64 w a3 len3 cap3 z3) (hX : X < 18446744073709551616) (hl3 : len3 ≤ 20) :
    Calls Try.prog 4 #[.int .i64 a0, .int .i64 t, .int .u64 X, .slice a3 len3 cap3] w fun e w' => e = .returned (.bool true) ∧ Below w.heap.size w w' := by
  have k0 : 0 ≤ IntKind.u64.wrap a0 := wrap_nonneg _
  have HX := Lib.hid hX
  clear hX
  have hl3' : len3 ≤ 9223372036854775807 := by omega
  rcases w3.cases with hz3 | ⟨xb, xo, rfl, _, hxb, hc, _⟩
  all_goals
    first | (have HC := Lib.hid hc; clear hc) | (have HC := Nat.le_of_eq hz3; clear hz3)
    clear w3
    go_enter Try.func4, Try.ntmps4
    go_wp2_with fail
    generalize hx0 : IntKind.u64.wrap a0 % 64 = x0 at *
    have b0 : 0 ≤ x0 ∧ x0 < 64 := by omega
    clear hx0 k0
    generalize hW : 1 + x0 = W at *
    have bW1 : 1 ≤ W := by omega
    have bW2 : W ≤ 64 := by omega
    clear hW b0
    have hb0 := ((Below.refl w.heap.size w).alloc (Nat.le_refl _) (.cells #[.int .i64 W, .int .i64 0, .int .u64 0, .int .i64 0] 48)).alloc (by simp) (.cells #[.int .i64 W, .int .i64 0, .slice none 0 0] 29)
    have rr := two_new w W bW1 bW2
    refine (new_some W _ bW1 bW2).mono ?_
    rintro e w' ⟨rfl, rfl⟩
    go_wp2_with fail
    refine (refNew_some W _ bW1 bW2).mono ?_
    rintro e w' ⟨rfl, rfl⟩
    rw [World.size_alloc]
    generalize hb : w.heap.size = b at *
    have HB := (show Hid (w.heap.size = b) from hb)
    clear hb
    generalize (w.alloc (.cells #[.int .i64 W, .int .i64 0, .int .u64 0, .int .i64 0] 48)).alloc (.cells #[.int .i64 W, .int .i64 0, .slice none 0 0] 29) = w0 at *
    have HR := Lib.hid (And.intro rr hb0)
    clear rr hb0
    go_wp2_with fail
    refine (set_any b W 0 0 t X _ HR.out.1.rep bW1 bW2 HX.out).mono ?_
    rintro e w1 ⟨rfl, r1, t1⟩
    have RM1 := Lib.hid (t1.ref HR.out.1.ref (Nat.lt_succ_self _))
    have RA1 := Lib.hid r1
    have HB1 := Lib.hid (HR.out.2.trans (t1.below (Nat.le_refl _)))
    clear r1 t1 HR
    go_wp2_with fail
    refine (refSet_one (b + 1) W 0 [] t X _ RM1.out bW1 bW2 HX.out).mono ?_
    rintro e w2 ⟨rfl, r2, b2⟩
    have I2 := set_inv (t := t) bW1 bW2 HX.out
    have L2 := setL_length (setBad W t X) t X
    have hcode : codeS (setBad W t X) = 0 ∨ codeS (setBad W t X) = 1 := by cases setBad W t X <;> simp [codeS]
    generalize codeS (setBad W t X) = c at *
    generalize setT (setBad W t X) 0 t = T at *
    generalize setB (setBad W t X) 0 X = B at *
    generalize setL (setBad W t X) [] t X = l at *
    have RA2 := Lib.hid (RA1.out.of_heap (w' := w2) (b2.block b (Nat.lt_succ_self _)))
    have HB2 := Lib.hid (HB1.out.trans (b2.mono (Nat.le_succ _)))
    have RM2 := Lib.hid r2
    have HI := Lib.hid I2
    have HCODE := Lib.hid hcode
    obtain ⟨v, c0, ct, c2, f1, f2, ho, hc2⟩ := r2.cells
    clear RM1 RA1 HB1 c0 c2 f1 f2 ho hc2 r2 b2 I2 hcode
    go_wp2_with fail
    go_quiet (first
      | (go_at_call 15; refine Calls.quiet_of_same (top_same' b W T B _ ?_); exact RA2.out.of_heap rfl)
      | (go_at_call 16; refine Calls.quiet_of_same (bits_same' b W T B _ ?_); exact RA2.out.of_heap rfl)
      | (go_at_call 17; refine Calls.quiet_of_same (refBits_same' (b + 1) W T B l _ ?_ HI.out); exact RM2.out.keep fun _ _ _ => rfl))
    have R3 := Lib.hid (show Rel w b W len3 (.int .i64 0) (w2.drewN nq) from ⟨0, T, B, l, Nat.zero_le _, rfl, ⟨RA2.out.drewN _, RM2.out.keep fun _ _ _ => rfl, HI.out, Nat.lt_succ_self _⟩, L2, belowDrewN HB2.out _⟩)
    clear RA2 RM2 HI HB2 ct L2
    go_wp2_with fail
    go_loopw [14] (fun v wr => Rel w b W len3 v wr) (fun i _ => len3 - (intOf i).toNat)
    case atStart => exact R3.out
    case round =>
      clear R3
      obtain ⟨k, T, B, l, hk, rfl, htwo, hll, hbel⟩ := hrel
      by_cases hlt : k < len3
      · first
          | exact absurd hlt (by omega)
          | (have hcell : wr.cell? ⟨xb, xo + k, none⟩ = some (.int .i64 (z3.getD k 0)) := (hbel.cell (p := ⟨xb, xo + k, none⟩) hxb).trans (HC.out k hlt)
             have HT := Lib.hid htwo
             have HBEL := Lib.hid hbel
             obtain ⟨v, c0, ct, c2, f1, f2, ho, hc2⟩ := htwo.ref.cells
             clear c0 c2 f1 f2 ho hc2 htwo hbel
             go_wp2_with fail
             go_quiet (fail)
             go_wp2_with fail
             generalize wrap64 (wrap64 (T + wrap64 ((IntKind.u64.wrap (z3[k]?.getD 0)).tmod 100)) - 70) = n at *
             refine (take_any b W T B (hasF l) n _ (HT.out.rep.drewN _) HT.out.inv).mono ?_
             rintro e w5 ⟨rfl, r5, t5⟩
             have T5 := Lib.hid (show Touch b wr w5 from ⟨t5.os, t5.tape, t5.output, t5.size, t5.block⟩)
             have RA5 := Lib.hid r5
             clear r5 t5 hcell ct
             go_wp2_with fail
             refine (refTake_inv (b + 1) W T B l n _ (T5.out.ref HT.out.ref (Nat.lt_succ_self _)) HT.out.inv (by omega)).mono ?_
             rintro e w6 ⟨rfl, r6, b6⟩
             have RA6 := Lib.hid (RA5.out.of_heap (w' := w6) (b6.block b (Nat.lt_succ_self _)))
             have HB6 := Lib.hid (HBEL.out.trans ((T5.out.below (Nat.le_refl _)).trans (b6.mono (Nat.le_succ _))))
             have RM6 := Lib.hid r6
             clear r6 b6 RA5 T5 HBEL
             go_wp2_with fail
             refine (bits_any b W (nextT W T B n) (nextB W T B n) _ RA6.out).mono ?_
             rintro e w7 ⟨rfl, rfl⟩
             go_wp2_with fail
             refine (refBits_inv (b + 1) W (nextT W T B n) (nextB W T B n) (nextL W T B l n) _ RM6.out (HT.out.inv.nextL n)).mono ?_
             rintro e w7 ⟨rfl, rfl⟩
             go_wp2_with fail
             go_roundw
             case rel => exact ⟨k + 1, _, _, _, by omega, by go_num, ⟨RA6.out, RM6.out, HT.out.inv.nextL n, Nat.lt_succ_self _⟩, Nat.le_trans (nextL_length W T B l n) (by omega), HB6.out⟩
             case measure => simp [intOf]; omega)
      · have HT := Lib.hid htwo
        have HBEL := Lib.hid hbel
        clear htwo hbel
        have hcode := HCODE.out
        rcases hcode with hc0 | hc0
        all_goals
          go_wp2_with fail
          refine (told_any _).mono ?_
          rintro e w3 ⟨rfl, t3⟩
          go_wp2_with fail
          go_ret
          refine ⟨rfl, ?_⟩
          rw [HB.out]
          exact HBEL.out.trans (t3.mono (Nat.le_of_lt HT.out.rep.lt))

theorem walk (a0 : Int) (a1 : Int) (a2 : Int) (a3 : Option Addr) (len3 cap3 : Nat) (z3 : List Int) (w : World) (w0 : (Lit.int .i64 a0).wf = true) (w1 : (Lit.int .i64 a1).wf = true) (w2 : (Lit.int .u64 a2).wf = true) (w3 : IsRow .i64 w a3 len3 cap3 z3) :
    Calls Try.prog 4 #[.int .i64 a0, .int .i64 a1, .int .u64 a2, .slice a3 len3 cap3] w fun e w' => e = .returned (.bool true) ∧ Below w.heap.size w w' := by
  have hx : 0 ≤ a2 ∧ a2 < 18446744073709551616 := by
    simp [Lit.wf, IntKind.min, IntKind.max, IntKind.signed, IntKind.bits] at w2
    omega
  obtain ⟨X, rfl⟩ := Int.eq_ofNat_of_zero_le hx.1
  by_cases h2 : 20 < len3
  · exact walk_long a0 a1 X a3 len3 cap3 w h2
  · exact walk_some a0 a1 X a3 len3 cap3 z3 w w3 (by omega) (by omega)

/-! The row's step. -/
set_option maxRecDepth 100000 in
theorem lifted (os : Os) (started : os.Started) (H : Type) (enc : TypeId × Value → H) :
    ReturnsInHanded {} Try.checked os 4 .any (Rows.replaySetsSpec.pre6 enc Try.prog Try.f4 Rows.replaySetsRow.domain false) (Rows.replaySetsSpec.post enc Try.prog Try.f4 false true false false) := by
  refine returnsInHanded_of_change (C := Try.checked) own started (by kernel_rfl) Try.func4
    (ChangeSpec.witness6 (enc := enc) (C := Try.checked) false ⟨#[], #[.int .i64 0, .int .i64 0, .int .u64 0, .slice none 0 0], []⟩ 8 (by kernel_rfl) (by kernel_rfl) (by kernel_rfl) (by kernel_rfl)) ?_
  intro W base args ds gs before hval0 hW hcnd _
  have hval : ∀ (j : Nat) t v, Try.f4.params[j]? = some t → args[j]? = some v → Value.okWide Try.prog W .any base t v := hval0
  have hW' := hW
  obtain ⟨p, q, hA0, hV, rfl, hfz, hnd⟩ := hW
  have hA : DataW.TrodAll enc Try.prog W 0 (fun _ => true) true Try.f4.params.toList args.toList ds p := hA0
  rw [Try.params4] at hA hval
  obtain ⟨v0, vs0, d0, ds0, p0, q0, hargs, rfl, rfl, h0, r0⟩ := trodAll_cons hA
  obtain ⟨v1, vs1, d1, ds1, p1, q1, rfl, rfl, rfl, h1, r1⟩ := trodAll_cons r0
  obtain ⟨v2, vs2, d2, ds2, p2, q2, rfl, rfl, rfl, h2, r2⟩ := trodAll_cons r1
  obtain ⟨v3, vs3, d3, ds3, p3, q3, rfl, rfl, rfl, h3, r3⟩ := trodAll_cons r2
  obtain ⟨rfl, rfl, rfl⟩ := trodAll_nil r3
  obtain rfl : args = #[v0, v1, v2, v3] := by cases args; simp_all
  obtain ⟨rfl, rfl⟩ := trodVars_none hV
  obtain ⟨a0, rfl, rfl, rfl, w0⟩ := open_int Try.underlying3 (hval 0 3 v0 rfl rfl) h0
  obtain ⟨a1, rfl, rfl, rfl, w1⟩ := open_int Try.underlying2 (hval 1 2 v1 rfl rfl) h1
  obtain ⟨a2, rfl, rfl, rfl, w2⟩ := open_int Try.underlying30 (hval 2 30 v2 rfl rfl) h2
  obtain ⟨a3, len3, cap3, rfl⟩ := okWide_slice Try.underlying22 (hval 3 22 v3 rfl rfl)
  have k3 := h3
  have lt3 : ∀ x ∈ p3, x.block < W.heap.size := by obtain ⟨m, hm⟩ := k3; exact DataW.trod_lt m _ _ _ hm
  obtain ⟨z3, w3⟩ : ∃ zs, IsRow .i64 W a3 len3 cap3 zs := by
    obtain ⟨fuel, hf⟩ := h3
    rcases open_ints Try.underlying22 Try.underlying2 (by kernel_rfl) hf with ⟨hcs, _⟩ | ⟨x, l, c, zs, hcs, _, hl, hm, hz, _, hcell, hwz⟩
    · simp [Value.cells] at hcs
      obtain ⟨rfl, rfl, rfl⟩ := hcs
      exact ⟨[], .inl ⟨rfl, rfl, rfl, rfl⟩⟩
    · simp [Value.cells] at hcs
      obtain ⟨rfl, rfl, rfl⟩ := hcs
      exact ⟨zs, .inr ⟨_, rfl, hl, hm, by simpa using hz, hcell, hwz⟩⟩
  clear hA0 hval0
  refine (walk a0 a1 a2 a3 len3 cap3 z3 W w0 w1 w2 w3).mono fun e W' ⟨he, bel⟩ => ?_
  subst he
  exact ⟨_, rfl, _, _, _, [], _, [], hW', trodAll_mk1 (shut_bool Try.underlying4 _), (trodAll_cons_mk (shut_int Try.underlying3 w0) (trodAll_cons_mk (shut_int Try.underlying2 w1) (trodAll_cons_mk (shut_int Try.underlying30 w2) (trodAll_cons_mk (Below.trod laidOut (by kernel_rfl) (of_decide_eq_true (by kernel_rfl)) k3 bel lt3) trodAll_mk0)))), rfl, bel.frame _, fun h => by cases h⟩

theorem over : Rows.replaySetsRow.holds Try.pinned (OpenSpec.ofChange Rows.replaySetsSpec) :=
  OpenClaim.holds_of_wide 4 Try.f4 rfl rfl rfl rfl rfl rfl rfl ⟨rfl, rfl, rfl, rfl, rfl⟩ rfl rfl rfl rfl rfl (by kernel_rfl) Try.func4 (by kernel_rfl)
    (of_decide_eq_true (by kernel_rfl)) (by unfold Func.isWrapper; first | (rw [if_pos (by decide +kernel)]; kernel_rfl) | (rw [if_neg (by decide +kernel)]; exact ⟨rfl, rfl⟩))
    (fun os started H enc _ => lifted os started H enc)

theorem proved : Rows.ReplaySetsSaid := over
#print axioms proved
end Go.Proofs.Ytnpkgmchagkdmaa.replaySets
