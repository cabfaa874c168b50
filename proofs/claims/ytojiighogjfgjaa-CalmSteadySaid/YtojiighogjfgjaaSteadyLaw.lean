/-
  The law CalmSteady answers true at every input and leaves what was there as it was; no condition.
-/
import Derived.Test.YtojiighogjfgjaaPlain2
import Derived.WalkKit
import Derived.Deep.CutBlock
import Derived.Deep.DeepCutAuto
import Derived.Deep.OwnRows
import Derived.ProofKit
import Derived.OpenShut
import Derived.ShutString
import Derived.ChangeOld
import Derived.Below
namespace Go.Proofs.Ytojiighogjfgjaa.calmSteady
open Go.ChangeShapes Go.WideShapes Go.ChangeAt Go.RowKit
open Go.ChangeMaps (open_string shut_string)
set_option linter.unusedVariables false

theorem own : ownKnob Try.prog.godebug = none := by kernel_rfl
theorem laidOut : laidOutB Try.prog = true := by kernel_rfl

/-- At each round's head of the first loop. -/
def Rel1 (w : World) (b : Nat) (u d : Int) (len : Nat) (v : Value) (wr : World) : Prop :=
  ∃ (k : Nat) (l : List Int), k ≤ len ∧ k ≤ 20 ∧ v = .int .i64 (k : Int) ∧ One wr b u d l ∧ Below b w wr
/-- At each round's head of the second. -/
def Rel2 (w : World) (b : Nat) (u d x : Int) (v14 v15 : Value) (wr : World) : Prop :=
  ∃ (k : Nat) (y : Int) (l : List Int), (k : Int) ≤ max u d + 1 ∧ v15 = .int .i64 (k : Int) ∧ v14 = .int .i64 y ∧ One wr b u d l ∧ Tail k x l ∧ ((k : Int) = max u d + 1 → y = x ∧ (l.length : Int) = max u d + 1) ∧ Below b w wr

theorem tail_zero (x : Int) (l : List Int) : Tail 0 x l := ⟨l, by simp⟩

set_option maxHeartbeats 2000000 in
theorem walk (a0 : Int) (a1 : Int) (a2 : Option Addr) (len2 cap2 : Nat) (z2 : List Int) (a3 : Int) (w : World) (w0 : (Lit.int .i64 a0).wf = true) (w1 : (Lit.int .i64 a1).wf = true) (w2 : IsRow .i64 w a2 len2 cap2 z2) (w3 : (Lit.int .i64 a3).wf = true) :
    Calls Try.prog 6 #[.int .i64 a0, .int .i64 a1, .slice a2 len2 cap2, .int .i64 a3] w fun e w' => e = .returned (.bool true) ∧ Below w.heap.size w w' := by
  have k0 : 0 ≤ IntKind.u64.wrap a0 := wrap_nonneg _
  have k1 : 0 ≤ IntKind.u64.wrap a1 := wrap_nonneg _
  have k3 : 0 ≤ IntKind.u64.wrap a3 := wrap_nonneg _
  have m2 := w2.len_le
  clear w0 w1 w3
  obtain ⟨xb, xo, hX⟩ := w2.any
  have HX := Lib.hid hX
  clear w2 hX
  go_enter Try.func6, Try.ntmps6
  go_wp2_with fail
  generalize hx0 : IntKind.u64.wrap a0 % 7 = u at *
  generalize hx1 : IntKind.u64.wrap a1 % 7 = d at *
  have b0 : 0 ≤ u ∧ u < 7 := by omega
  have b1 : 0 ≤ d ∧ d < 7 := by omega
  clear hx0 hx1 k0 k1
  have bu1 : 0 ≤ u := b0.1
  have bu2 : u ≤ 60 := by omega
  have bd1 : 0 ≤ d := b1.1
  have bd2 : d ≤ 60 := by omega
  have hb0 := (Below.refl w.heap.size w).alloc (Nat.le_refl _) (.cells #[.int .i64 u, .int .i64 d, .slice none 0 0, .int .i64 0] 44)
  have p0 := One.new w bu1 bu2 bd1 bd2
  refine (new_some u d _ bu1 bu2 bd1 bd2).mono ?_
  rintro e w' ⟨rfl, rfl⟩
  generalize hb : w.heap.size = b at *
  have HB := (show Hid (w.heap.size = b) from hb)
  clear hb
  generalize w.alloc (.cells #[.int .i64 u, .int .i64 d, .slice none 0 0, .int .i64 0] 44) = w0 at *
  have R1 := Lib.hid (show Rel1 w b u d len2 (.int .i64 0) w0 from ⟨0, [], Nat.zero_le _, by omega, rfl, p0, hb0⟩)
  clear p0 hb0
  go_upto_block 0 with fail
  go_cut [12] (fun _ wx => ∃ l, One wx b u d l ∧ Below b w wx)
  case first =>
    go_wp2_with fail
    go_loopw [12] (fun v wr => Rel1 w b u d len2 v wr) (fun i _ => len2 - (intOf i).toNat)
    case atStart => exact R1.out
    case round =>
      clear R1
      obtain ⟨k, l, hk, hk20, rfl, htwo, hbel⟩ := hrel
      have HT := Lib.hid htwo
      have HBEL := Lib.hid hbel
      clear htwo hbel
      by_cases hlt : k < len2
      · by_cases hlt20 : k < 20
        · obtain ⟨ha, hxb, hc, _⟩ := HX.out k hlt
          have hcell : wr.cell? ⟨xb, xo + k, none⟩ = some (.int .i64 (z2.getD k 0)) := (HBEL.out.cell (p := ⟨xb, xo + k, none⟩) hxb).trans hc
          rw [ha]
          clear hc
          have kz := wrap_nonneg (z2.getD k 0)
          generalize z2.getD k 0 = n at *
          clear ha
          go_wp2_with fail
          refine (one_next b u d 50 _ l _ HT.out).mono ?_
          rintro e w2 ⟨rfl, t2, b2⟩
          have HT2 := Lib.hid t2
          have HB2 := Lib.hid (HBEL.out.trans b2)
          clear t2 b2 hcell
          go_wp2_with fail
          go_roundw
          case rel =>
            first
              | exact ⟨k + 1, _, by omega, by omega, by go_num, HT2.out, HB2.out⟩
              | ((repeat apply Exists.intro); exact ⟨⟨k + 1, _, by omega, by omega, by go_num, HT2.out, HB2.out⟩, rfl⟩)
          case measure => simp [intOf]; omega
        · have hlt20' : 20 ≤ (k : Int) := by omega
          go_wp2_with fail
          go_meet
          exact ⟨l, HT.out, HBEL.out⟩
      · go_wp2_with fail
        go_meet
        exact ⟨l, HT.out, HBEL.out⟩
  case rest =>
    clear R1
    obtain ⟨l, ht, hbel⟩ := hcut
    have hx : 0 ≤ IntKind.u64.wrap a3 % 100 ∧ IntKind.u64.wrap a3 % 100 < 100 := by omega
    have R2 := Lib.hid (show Rel2 w b u d (IntKind.u64.wrap a3 % 100) (.int .i64 0) (.int .i64 0) wc from ⟨0, 0, l, by omega, rfl, rfl, ht, tail_zero _ _, fun h => by omega, hbel⟩)
    clear ht hbel
    rcases Int.lt_or_le u d with hud | hud
    all_goals
      go_wp2_with fail
      generalize IntKind.u64.wrap a3 % 100 = x at *
      go_loopw [14, 15] (fun v14 v15 wr => Rel2 w b u d x v14 v15 wr) (fun _ i _ => (max u d + 1).toNat - (intOf i).toNat)
      case atStart => exact R2.out
      case round =>
        clear R2
        obtain ⟨k, y, l, hk, rfl, rfl, ht, htail, hdone, hbel⟩ := hrel
        have HT := Lib.hid ht
        have HTAIL := Lib.hid htail
        have HDONE := Lib.hid hdone
        have HBEL := Lib.hid hbel
        clear ht htail hdone hbel
        by_cases hle : (k : Int) ≤ max u d
        · go_wp2_with fail
          refine (one_next b u d 50 x l _ HT.out).mono ?_
          rintro e w2 ⟨rfl, t2, b2⟩
          have HT2 := Lib.hid t2
          have HB2 := Lib.hid (HBEL.out.trans b2)
          have HS2 := Lib.hid (HTAIL.out.step hx.1 (by omega) bu1 hle)
          have HL2 := Lib.hid (keptL_len u d l x bu1)
          clear t2 b2
          go_wp2_with fail
          go_roundw
          case rel =>
            first
              | exact ⟨k + 1, _, _, by omega, by go_num, rfl, HT2.out, HS2.out, fun hk => HS2.out.done HL2.out bu1 bd1 hk 50, HB2.out⟩
              | ((repeat apply Exists.intro); exact ⟨⟨k + 1, _, _, by omega, by go_num, rfl, HT2.out, HS2.out, fun hk => HS2.out.done HL2.out bu1 bd1 hk 50, HB2.out⟩, rfl⟩)
          case measure => simp [intOf]; omega
        · obtain ⟨hy, hlen⟩ := HDONE.out (by omega)
          have hyb : (y == x) = true := beq_iff_eq.2 hy
          have hlb : ((l.length : Int) == max u d + 1) = true := beq_iff_eq.2 hlen
          first
            | (rw [show max u d = d from by omega] at hlb)
            | (rw [show max u d = u from by omega] at hlb)
          clear hy hlen
          go_wp2_with fail
          refine (told_any _).mono ?_
          rintro e w6 ⟨rfl, b6⟩
          have HT6 := Lib.hid (HT.out.below b6)
          have HB6 := Lib.hid (HBEL.out.trans (b6.mono (Nat.le_of_lt HT.out.lt)))
          clear b6
          go_wp2_with fail
          refine (one_all b u d l _ HT6.out).mono ?_
          rintro e w7 ⟨⟨v7, rfl, o7⟩, b7⟩
          obtain ⟨q7, c7, hv7⟩ := own_len o7
          rw [hv7]
          have HB7 := Lib.hid (HB6.out.trans (b7.mono (Nat.le_of_lt HT6.out.lt)))
          clear hv7 o7 b7
          go_wp2_with fail
          go_ret
          refine ⟨rfl, ?_⟩
          rw [HB.out]
          exact HB7.out

/-! The row's step. -/
set_option maxRecDepth 100000 in
theorem lifted (os : Os) (started : os.Started) (H : Type) (enc : TypeId × Value → H) :
    ReturnsInHanded {} Try.checked os 6 .any (Rows.calmSteadySpec.pre6 enc Try.prog Try.f6 Rows.calmSteadyRow.domain false) (Rows.calmSteadySpec.post enc Try.prog Try.f6 false true false false) := by
  refine returnsInHanded_of_change (C := Try.checked) own started (by kernel_rfl) Try.func6
    (ChangeSpec.witness6 (enc := enc) (C := Try.checked) false ⟨#[], #[.int .i64 0, .int .i64 0, .slice none 0 0, .int .i64 0], []⟩ 8 (by kernel_rfl) (by kernel_rfl) (by kernel_rfl) (by kernel_rfl)) ?_
  intro W base args ds gs before hval0 hW hcnd _
  have hval : ∀ (j : Nat) t v, Try.f6.params[j]? = some t → args[j]? = some v → Value.okWide Try.prog W .any base t v := hval0
  have hW' := hW
  obtain ⟨p, q, hA0, hV, rfl, hfz, hnd⟩ := hW
  have hA : DataW.TrodAll enc Try.prog W 0 (fun _ => true) true Try.f6.params.toList args.toList ds p := hA0
  rw [Try.params6] at hA hval
  obtain ⟨v0, vs0, d0, ds0, p0, q0, hargs, rfl, rfl, h0, r0⟩ := trodAll_cons hA
  obtain ⟨v1, vs1, d1, ds1, p1, q1, rfl, rfl, rfl, h1, r1⟩ := trodAll_cons r0
  obtain ⟨v2, vs2, d2, ds2, p2, q2, rfl, rfl, rfl, h2, r2⟩ := trodAll_cons r1
  obtain ⟨v3, vs3, d3, ds3, p3, q3, rfl, rfl, rfl, h3, r3⟩ := trodAll_cons r2
  obtain ⟨rfl, rfl, rfl⟩ := trodAll_nil r3
  obtain rfl : args = #[v0, v1, v2, v3] := by cases args; simp_all
  obtain ⟨rfl, rfl⟩ := trodVars_none hV
  obtain ⟨a0, rfl, rfl, rfl, w0⟩ := open_int Try.underlying3 (hval 0 3 v0 rfl rfl) h0
  obtain ⟨a1, rfl, rfl, rfl, w1⟩ := open_int Try.underlying3 (hval 1 3 v1 rfl rfl) h1
  obtain ⟨a2, len2, cap2, rfl⟩ := okWide_slice Try.underlying22 (hval 2 22 v2 rfl rfl)
  have k2 := h2
  have lt2 : ∀ x ∈ p2, x.block < W.heap.size := by obtain ⟨m, hm⟩ := k2; exact DataW.trod_lt m _ _ _ hm
  obtain ⟨z2, w2⟩ : ∃ zs, IsRow .i64 W a2 len2 cap2 zs := by
    obtain ⟨fuel, hf⟩ := h2
    rcases open_ints Try.underlying22 Try.underlying3 (by kernel_rfl) hf with ⟨hcs, _⟩ | ⟨x, l, c, zs, hcs, _, hl, hm, hz, _, hcell, hwz⟩
    · simp [Value.cells] at hcs
      obtain ⟨rfl, rfl, rfl⟩ := hcs
      exact ⟨[], .inl ⟨rfl, rfl, rfl, rfl⟩⟩
    · simp [Value.cells] at hcs
      obtain ⟨rfl, rfl, rfl⟩ := hcs
      exact ⟨zs, .inr ⟨_, rfl, hl, hm, by simpa using hz, hcell, hwz⟩⟩
  obtain ⟨a3, rfl, rfl, rfl, w3⟩ := open_int Try.underlying3 (hval 3 3 v3 rfl rfl) h3
  clear hA0 hval0
  refine (walk a0 a1 a2 len2 cap2 z2 a3 W w0 w1 w2 w3).mono fun e W' ⟨he, bel⟩ => ?_
  subst he
  exact ⟨_, rfl, _, _, _, [], _, [], hW', trodAll_mk1 (shut_bool Try.underlying4 _), (trodAll_cons_mk (shut_int Try.underlying3 w0) (trodAll_cons_mk (shut_int Try.underlying3 w1) (trodAll_cons_mk (Below.trod laidOut (by kernel_rfl) (of_decide_eq_true (by kernel_rfl)) k2 bel lt2) (trodAll_cons_mk (shut_int Try.underlying3 w3) trodAll_mk0)))), rfl, bel.frame _, fun h => by cases h⟩

theorem over : Rows.calmSteadyRow.holds Try.pinned (OpenSpec.ofChange Rows.calmSteadySpec) :=
  OpenClaim.holds_of_wide 6 Try.f6 rfl rfl rfl rfl rfl rfl rfl ⟨rfl, rfl, rfl, rfl, rfl⟩ rfl rfl rfl rfl rfl (by kernel_rfl) Try.func6 (by kernel_rfl)
    (of_decide_eq_true (by kernel_rfl)) (by unfold Func.isWrapper; first | (rw [if_pos (by decide +kernel)]; kernel_rfl) | (rw [if_neg (by decide +kernel)]; exact ⟨rfl, rfl⟩))
    (fun os started H enc _ => lifted os started H enc)

theorem proved : Rows.CalmSteadySaid := over
#print axioms proved
end Go.Proofs.Ytojiighogjfgjaa.calmSteady
