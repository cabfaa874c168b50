/-
  The law CalmRises answers true at every input and leaves what was there as it was; no condition.
-/
import Derived.Test.YtojiighogjfgjaaPlain2
import Derived.WalkKit
import Derived.Deep.CutBlock
import Derived.Deep.DeepCutAuto
import Derived.Deep.OwnRows
import Derived.ProofKit
import Derived.OpenShut
import Derived.ShutString
import Derived.ChangeOld
import Derived.Below
namespace Go.Proofs.Ytojiighogjfgjaa.calmRises
open Go.ChangeShapes Go.WideShapes Go.ChangeAt Go.RowKit
open Go.ChangeMaps (open_string shut_string)
set_option linter.unusedVariables false

theorem own : ownKnob Try.prog.godebug = none := by kernel_rfl
theorem laidOut : laidOutB Try.prog = true := by kernel_rfl

/-- At each round's head. -/
def Rel1 (w : World) (b : Nat) (u d : Int) (len : Nat) (v : Value) (wr : World) : Prop :=
  ∃ (k : Nat) (l m : List Int), k ≤ len ∧ k ≤ 30 ∧ v = .int .i64 (k : Int) ∧ Two wr b u d l (b + 1) u d m ∧ Les l m ∧ Below b w wr

theorem tm_bound (a m : Int) (h : 0 ≤ a) (hm : 0 < m) : 0 ≤ a.tmod m ∧ a.tmod m < m := ⟨Int.tmod_nonneg m h, Int.tmod_lt_of_pos a hm⟩
theorem wrap_small (a : Int) (h : 0 ≤ a) (h2 : a < 1000) : wrap64 a = a := by unfold wrap64; omega
theorem small_tm (a : Int) (m : Int) (h : 0 ≤ a) (hm : 0 < m) (hm2 : m ≤ 100) : 0 ≤ wrap64 (a.tmod m) ∧ wrap64 (a.tmod m) < 100 := by
  have := tm_bound a m h hm
  rw [wrap_small _ this.1 (by omega)]
  omega

theorem below_drewN (n : Nat) (w : World) (k : Nat) : Below n w (w.drewN k) := belowDrewN (Below.refl n w) k

set_option maxRecDepth 100000 in
set_option maxHeartbeats 2000000 in
theorem walk (a0 : Int) (a1 : Int) (a2 : Option Addr) (len2 cap2 : Nat) (z2 : List Int) (a3 : Option Addr) (len3 cap3 : Nat) (z3 : List Int) (a4 : Option Addr) (len4 cap4 : Nat) (z4 : List Int) (w : World) (w0 : (Lit.int .i64 a0).wf = true) (w1 : (Lit.int .i64 a1).wf = true) (w2 : IsRow .i64 w a2 len2 cap2 z2) (w3 : IsRow .i64 w a3 len3 cap3 z3) (w4 : IsRow .i64 w a4 len4 cap4 z4) :
    Calls Try.prog 5 #[.int .i64 a0, .int .i64 a1, .slice a2 len2 cap2, .slice a3 len3 cap3, .slice a4 len4 cap4] w fun e w' => e = .returned (.bool true) ∧ Below w.heap.size w w' := by
  have k0 : 0 ≤ IntKind.u64.wrap a0 := wrap_nonneg _
  have k1 : 0 ≤ IntKind.u64.wrap a1 := wrap_nonneg _
  have m2 := w2.len_le
  have m3 := w3.len_le
  have m4 := w4.len_le
  clear w0 w1
  obtain ⟨xb, xo, hX⟩ := w2.any
  obtain ⟨yb, yo, hY⟩ := w3.any
  obtain ⟨qb, qo, hQ⟩ := w4.any
  have HX := Lib.hid hX
  have HY := Lib.hid hY
  have HQ := Lib.hid hQ
  clear w2 w3 w4 hX hY hQ
  go_enter Try.func5, Try.ntmps5
  go_wp2_with fail
  generalize hx0 : IntKind.u64.wrap a0 % 7 = u at *
  generalize hx1 : IntKind.u64.wrap a1 % 7 = d at *
  have b0 : 0 ≤ u ∧ u < 7 := by omega
  have b1 : 0 ≤ d ∧ d < 7 := by omega
  clear hx0 hx1 k0 k1
  have bu1 : 0 ≤ u := b0.1
  have bu2 : u ≤ 60 := by omega
  have bd1 : 0 ≤ d := b1.1
  have bd2 : d ≤ 60 := by omega
  have hb0 := ((Below.refl w.heap.size w).alloc (Nat.le_refl _) (.cells #[.int .i64 u, .int .i64 d, .slice none 0 0, .int .i64 0] 44)).alloc (by simp) (.cells #[.int .i64 u, .int .i64 d, .slice none 0 0, .int .i64 0] 44)
  have p0 := Two.new w bu1 bu2 bd1 bd2 bu1 bu2 bd1 bd2
  refine (new_some u d _ bu1 bu2 bd1 bd2).mono ?_
  rintro e w' ⟨rfl, rfl⟩
  go_wp2_with fail
  refine (new_some u d _ bu1 bu2 bd1 bd2).mono ?_
  rintro e w' ⟨rfl, rfl⟩
  rw [World.size_alloc]
  generalize hb : w.heap.size = b at *
  have HB := (show Hid (w.heap.size = b) from hb)
  clear hb
  generalize (w.alloc (.cells #[.int .i64 u, .int .i64 d, .slice none 0 0, .int .i64 0] 44)).alloc (.cells #[.int .i64 u, .int .i64 d, .slice none 0 0, .int .i64 0] 44) = w0 at *
  have R1 := Lib.hid (show Rel1 w b u d len3 (.int .i64 0) w0 from ⟨0, [], [], Nat.zero_le _, by omega, rfl, p0, Les.nil, hb0⟩)
  clear p0 hb0
  go_upto_block 0 with fail
  go_cut [15] (fun _ wx => (∃ l m, Two wx b u d l (b + 1) u d m) ∧ Below b w wx)
  case first =>
    go_wp2_with fail
    go_loopw [15] (fun v wr => Rel1 w b u d len3 v wr) (fun i _ => len3 - (intOf i).toNat)
    case atStart => exact R1.out
    case round =>
      clear R1
      obtain ⟨k, l, m, hk, hk20, rfl, htwo, hles, hbel⟩ := hrel
      have HT := Lib.hid htwo
      have HLES := Lib.hid hles
      have HBEL := Lib.hid hbel
      clear htwo hbel hles
      by_cases hlt : k < len3
      · by_cases hlt20 : k < 30
        · obtain ⟨ha, hyb, hc, _⟩ := HY.out k hlt
          have hcell : wr.cell? ⟨yb, yo + k, none⟩ = some (.int .i64 (z3.getD k 0)) := (HBEL.out.cell (p := ⟨yb, yo + k, none⟩) hyb).trans hc
          rw [ha]
          clear hc
          have kz := wrap_nonneg (z3.getD k 0)
          generalize z3.getD k 0 = n at *
          clear ha
          go_wp2_with fail
          go_quiet (fail)
          have bw : 0 ≤ IntKind.u64.wrap n % 100 ∧ IntKind.u64.wrap n % 100 < 100 := ⟨Int.emod_nonneg _ (by omega), Int.emod_lt_of_pos _ (by omega)⟩
          generalize IntKind.u64.wrap n % 100 = want at *
          clear hcell kz
          go_upto_if 60 with fail
          go_cut [16] (fun s wx => ∃ c : Int, 0 ≤ c ∧ c < 100 ∧ s = .int .i64 c ∧ wx = wr.drewN nq)
          case first =>
            by_cases hlt2 : k < len2
            · obtain ⟨ha, hxb, hc, _⟩ := HX.out k hlt2
              have hcell : wr.cell? ⟨xb, xo + k, none⟩ = some (.int .i64 (z2.getD k 0)) := (HBEL.out.cell (p := ⟨xb, xo + k, none⟩) hxb).trans hc
              have HA2 := (show Hid (a2 = _) from ha)
              rw [ha]
              clear hc
              have kz := wrap_nonneg (z2.getD k 0)
              generalize z2.getD k 0 = n2 at *
              clear ha
              go_wp2_with fail
              rw [← HA2.out]
              go_meet
              exact ⟨IntKind.u64.wrap n2 % 100, Int.emod_nonneg _ (by omega), Int.emod_lt_of_pos _ (by omega), rfl, rfl⟩
            · go_wp2_with fail
              go_meet
              exact ⟨5, by omega, by omega, rfl, rfl⟩
          case rest =>
            obtain ⟨c, hc0, hc1, rfl, rfl⟩ := hcut
            go_upto_if 71 with fail
            go_cut [18, 19] (fun s t wx => ∃ x y : Int, 0 ≤ x ∧ x < 20 ∧ 0 ≤ y ∧ y < 100 ∧ s = .int .i64 x ∧ t = .int .i64 y ∧ Below b w wx ∧ Two wx b u d l (b + 1) u d m)
            case first =>
              by_cases hlt4 : k < len4
              · obtain ⟨ha, hqb, hc, _⟩ := HQ.out k hlt4
                have hcell : wr.cell? ⟨qb, qo + k, none⟩ = some (.int .i64 (z4.getD k 0)) := (HBEL.out.cell (p := ⟨qb, qo + k, none⟩) hqb).trans hc
                have HA4 := (show Hid (a4 = _) from ha)
                rw [ha]
                clear hc
                have kz := wrap_nonneg (z4.getD k 0)
                generalize z4.getD k 0 = n4 at *
                clear ha
                go_wp2_with fail
                go_quiet (fail)
                go_wp2_with fail
                rw [← HA4.out]
                go_meet
                have kd := wrap_nonneg ((IntKind.u64.wrap n4).tdiv 20)
                exact ⟨IntKind.u64.wrap n4 % 20, _, Int.emod_nonneg _ (by omega), Int.emod_lt_of_pos _ (by omega), (small_tm _ 20 kd (by omega) (by omega)).1, (small_tm _ 20 kd (by omega) (by omega)).2, rfl, rfl, (HBEL.out.trans (below_drewN _ _ _)).trans (below_drewN _ _ _), (HT.out.below (below_drewN _ _ _)).below (below_drewN _ _ _)⟩
              · go_wp2_with fail
                go_meet
                exact ⟨0, 0, by omega, by omega, by omega, by omega, rfl, rfl, HBEL.out.trans (below_drewN _ _ _), HT.out.below (below_drewN _ _ _)⟩
            case rest =>
              clear HT HBEL
              obtain ⟨x, y, hx0, hx1, hy0, hy1, rfl, rfl, hbel, htwo⟩ := hcut
              have HT := Lib.hid htwo
              have HBEL := Lib.hid hbel
              clear htwo hbel
              generalize hA : keptL u d l want = l2 at *
              generalize hB2 : keptL u d m (want + y) = mm at *
              have hl2 : Les l2 mm := by subst hA; subst hB2; exact HLES.out.keptL u d (by omega)
              have hle := hl2.outF u d (show c ≤ c + x by omega)
              have hnot : ¬ (outF u d l2 c > outF u d mm (c + x)) := by omega
              have HA := (show Hid (keptL u d l want = l2) from hA)
              have HB2 := (show Hid (keptL u d m (want + y) = mm) from hB2)
              have HL2 := Lib.hid hl2
              clear hA hB2 hle hl2
              go_wp2_with fail
              refine (two_next b (b + 1) b u d u d c want l m wc HT.out (Nat.le_refl _)).mono ?_
              rintro e w3 ⟨rfl, t3, b3⟩
              rw [HA.out] at *
              have HT3 := Lib.hid t3
              have HB3 := Lib.hid (HBEL.out.trans b3)
              clear t3 b3 HT HBEL
              go_wp2_with fail
              refine (two_next (b + 1) b b u d u d (c + x) (want + y) m l2 w3 HT3.out.swap (by omega)).mono ?_
              rintro e w4 ⟨rfl, t4, b4⟩
              rw [HB2.out] at *
              have HT4 := Lib.hid t4
              have HB4 := Lib.hid (HB3.out.trans b4)
              clear t4 b4 HT3 HB3
              generalize outF u d l2 c = oa at *
              generalize outF u d mm (c + x) = ob at *
              go_wp2_with fail
              go_roundw
              case rel => exact ⟨k + 1, l2, mm, hlt, by omega, by simp, HT4.out.swap, HL2.out, HB4.out⟩
              case measure => simp [intOf]; omega
        · have hlt20' : 30 ≤ (k : Int) := by omega
          go_wp2_with fail
          go_meet
          exact ⟨⟨l, m, HT.out⟩, HBEL.out⟩
      · go_wp2_with fail
        go_meet
        exact ⟨⟨l, m, HT.out⟩, HBEL.out⟩
  case rest =>
    clear R1
    obtain ⟨⟨l, m, ht⟩, hbel⟩ := hcut
    have HT := Lib.hid ht
    have HBEL := Lib.hid hbel
    clear ht hbel
    go_wp2_with fail
    refine (told_any _).mono ?_
    rintro e w6 ⟨rfl, b6⟩
    have HB6 := Lib.hid (HBEL.out.trans (b6.mono (Nat.le_of_lt HT.out.fst.lt)))
    clear b6
    go_wp2_with fail
    go_ret
    refine ⟨rfl, ?_⟩
    rw [HB.out]
    exact HB6.out

/-! The row's step. -/
set_option maxRecDepth 100000 in
theorem lifted (os : Os) (started : os.Started) (H : Type) (enc : TypeId × Value → H) :
    ReturnsInHanded {} Try.checked os 5 .any (Rows.calmRisesSpec.pre6 enc Try.prog Try.f5 Rows.calmRisesRow.domain false) (Rows.calmRisesSpec.post enc Try.prog Try.f5 false true false false) := by
  refine returnsInHanded_of_change (C := Try.checked) own started (by kernel_rfl) Try.func5
    (ChangeSpec.witness6 (enc := enc) (C := Try.checked) false ⟨#[], #[.int .i64 0, .int .i64 0, .slice none 0 0, .slice none 0 0, .slice none 0 0], []⟩ 8 (by kernel_rfl) (by kernel_rfl) (by kernel_rfl) (by kernel_rfl)) ?_
  intro W base args ds gs before hval0 hW hcnd _
  have hval : ∀ (j : Nat) t v, Try.f5.params[j]? = some t → args[j]? = some v → Value.okWide Try.prog W .any base t v := hval0
  have hW' := hW
  obtain ⟨p, q, hA0, hV, rfl, hfz, hnd⟩ := hW
  have hA : DataW.TrodAll enc Try.prog W 0 (fun _ => true) true Try.f5.params.toList args.toList ds p := hA0
  rw [Try.params5] at hA hval
  obtain ⟨v0, vs0, d0, ds0, p0, q0, hargs, rfl, rfl, h0, r0⟩ := trodAll_cons hA
  obtain ⟨v1, vs1, d1, ds1, p1, q1, rfl, rfl, rfl, h1, r1⟩ := trodAll_cons r0
  obtain ⟨v2, vs2, d2, ds2, p2, q2, rfl, rfl, rfl, h2, r2⟩ := trodAll_cons r1
  obtain ⟨v3, vs3, d3, ds3, p3, q3, rfl, rfl, rfl, h3, r3⟩ := trodAll_cons r2
  obtain ⟨v4, vs4, d4, ds4, p4, q4, rfl, rfl, rfl, h4, r4⟩ := trodAll_cons r3
  obtain ⟨rfl, rfl, rfl⟩ := trodAll_nil r4
  obtain rfl : args = #[v0, v1, v2, v3, v4] := by cases args; simp_all
  obtain ⟨rfl, rfl⟩ := trodVars_none hV
  obtain ⟨a0, rfl, rfl, rfl, w0⟩ := open_int Try.underlying3 (hval 0 3 v0 rfl rfl) h0
  obtain ⟨a1, rfl, rfl, rfl, w1⟩ := open_int Try.underlying3 (hval 1 3 v1 rfl rfl) h1
  obtain ⟨a2, len2, cap2, rfl⟩ := okWide_slice Try.underlying22 (hval 2 22 v2 rfl rfl)
  have k2 := h2
  have lt2 : ∀ x ∈ p2, x.block < W.heap.size := by obtain ⟨m, hm⟩ := k2; exact DataW.trod_lt m _ _ _ hm
  obtain ⟨z2, w2⟩ : ∃ zs, IsRow .i64 W a2 len2 cap2 zs := by
    obtain ⟨fuel, hf⟩ := h2
    rcases open_ints Try.underlying22 Try.underlying3 (by kernel_rfl) hf with ⟨hcs, _⟩ | ⟨x, l, c, zs, hcs, _, hl, hm, hz, _, hcell, hwz⟩
    · simp [Value.cells] at hcs
      obtain ⟨rfl, rfl, rfl⟩ := hcs
      exact ⟨[], .inl ⟨rfl, rfl, rfl, rfl⟩⟩
    · simp [Value.cells] at hcs
      obtain ⟨rfl, rfl, rfl⟩ := hcs
      exact ⟨zs, .inr ⟨_, rfl, hl, hm, by simpa using hz, hcell, hwz⟩⟩
  obtain ⟨a3, len3, cap3, rfl⟩ := okWide_slice Try.underlying22 (hval 3 22 v3 rfl rfl)
  have k3 := h3
  have lt3 : ∀ x ∈ p3, x.block < W.heap.size := by obtain ⟨m, hm⟩ := k3; exact DataW.trod_lt m _ _ _ hm
  obtain ⟨z3, w3⟩ : ∃ zs, IsRow .i64 W a3 len3 cap3 zs := by
    obtain ⟨fuel, hf⟩ := h3
    rcases open_ints Try.underlying22 Try.underlying3 (by kernel_rfl) hf with ⟨hcs, _⟩ | ⟨x, l, c, zs, hcs, _, hl, hm, hz, _, hcell, hwz⟩
    · simp [Value.cells] at hcs
      obtain ⟨rfl, rfl, rfl⟩ := hcs
      exact ⟨[], .inl ⟨rfl, rfl, rfl, rfl⟩⟩
    · simp [Value.cells] at hcs
      obtain ⟨rfl, rfl, rfl⟩ := hcs
      exact ⟨zs, .inr ⟨_, rfl, hl, hm, by simpa using hz, hcell, hwz⟩⟩
  obtain ⟨a4, len4, cap4, rfl⟩ := okWide_slice Try.underlying22 (hval 4 22 v4 rfl rfl)
  have k4 := h4
  have lt4 : ∀ x ∈ p4, x.block < W.heap.size := by obtain ⟨m, hm⟩ := k4; exact DataW.trod_lt m _ _ _ hm
  obtain ⟨z4, w4⟩ : ∃ zs, IsRow .i64 W a4 len4 cap4 zs := by
    obtain ⟨fuel, hf⟩ := h4
    rcases open_ints Try.underlying22 Try.underlying3 (by kernel_rfl) hf with ⟨hcs, _⟩ | ⟨x, l, c, zs, hcs, _, hl, hm, hz, _, hcell, hwz⟩
    · simp [Value.cells] at hcs
      obtain ⟨rfl, rfl, rfl⟩ := hcs
      exact ⟨[], .inl ⟨rfl, rfl, rfl, rfl⟩⟩
    · simp [Value.cells] at hcs
      obtain ⟨rfl, rfl, rfl⟩ := hcs
      exact ⟨zs, .inr ⟨_, rfl, hl, hm, by simpa using hz, hcell, hwz⟩⟩
  clear hA0 hval0
  refine (walk a0 a1 a2 len2 cap2 z2 a3 len3 cap3 z3 a4 len4 cap4 z4 W w0 w1 w2 w3 w4).mono fun e W' ⟨he, bel⟩ => ?_
  subst he
  exact ⟨_, rfl, _, _, _, [], _, [], hW', trodAll_mk1 (shut_bool Try.underlying4 _), (trodAll_cons_mk (shut_int Try.underlying3 w0) (trodAll_cons_mk (shut_int Try.underlying3 w1) (trodAll_cons_mk (Below.trod laidOut (by kernel_rfl) (of_decide_eq_true (by kernel_rfl)) k2 bel lt2) (trodAll_cons_mk (Below.trod laidOut (by kernel_rfl) (of_decide_eq_true (by kernel_rfl)) k3 bel lt3) (trodAll_cons_mk (Below.trod laidOut (by kernel_rfl) (of_decide_eq_true (by kernel_rfl)) k4 bel lt4) trodAll_mk0))))), rfl, bel.frame _, fun h => by cases h⟩

theorem over : Rows.calmRisesRow.holds Try.pinned (OpenSpec.ofChange Rows.calmRisesSpec) :=
  OpenClaim.holds_of_wide 5 Try.f5 rfl rfl rfl rfl rfl rfl rfl ⟨rfl, rfl, rfl, rfl, rfl⟩ rfl rfl rfl rfl rfl (by kernel_rfl) Try.func5 (by kernel_rfl)
    (of_decide_eq_true (by kernel_rfl)) (by unfold Func.isWrapper; first | (rw [if_pos (by decide +kernel)]; kernel_rfl) | (rw [if_neg (by decide +kernel)]; exact ⟨rfl, rfl⟩))
    (fun os started H enc _ => lifted os started H enc)

theorem proved : Rows.CalmRisesSaid := over
#print axioms proved
end Go.Proofs.Ytojiighogjfgjaa.calmRises
