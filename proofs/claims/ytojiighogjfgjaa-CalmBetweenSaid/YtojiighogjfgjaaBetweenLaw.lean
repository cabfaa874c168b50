/-
  The law CalmBetween answers true at every input and leaves what was there as it was; no condition.
-/
import Derived.Test.YtojiighogjfgjaaSame
import Derived.WalkKit
import Derived.Deep.CutBlock
import Derived.Deep.DeepCutAuto
import Derived.Deep.OwnRows
import Derived.ProofKit
import Derived.OpenShut
import Derived.ShutString
import Derived.ChangeOld
import Derived.Below
namespace Go.Proofs.Ytojiighogjfgjaa.calmBetween
open Go.ChangeShapes Go.WideShapes Go.ChangeAt Go.RowKit
open Go.ChangeMaps (open_string shut_string)
set_option linter.unusedVariables false

theorem own : ownKnob Try.prog.godebug = none := by kernel_rfl
theorem laidOut : laidOutB Try.prog = true := by kernel_rfl

/-- At each round's head of the outer loop. -/
def Rel1 (w : World) (b : Nat) (u d : Int) (len : Nat) (v : Value) (wr : World) : Prop :=
  ∃ (k : Nat) (l : List Int), k ≤ len ∧ k ≤ 30 ∧ v = .int .i64 (k : Int) ∧ One wr b u d l ∧ Fine l ∧ (l.length : Int) = min (k : Int) (max u d + 1) ∧ Below b w wr
/-- At each round's head of the inner loop. -/
def Rel2 (w3 : World) (l : List Int) (m1 m2 : Nat) (v17 v18 v19 : Value) (wr : World) : Prop :=
  ∃ (j : Nat), j ≤ l.length ∧ v17 = .int .i64 (hiAt l m1 j) ∧ v18 = .int .i64 (loAt l m2 j) ∧ v19 = .int .i64 (j : Int) ∧ wr = w3

theorem below_drewN (n : Nat) (w : World) (k : Nat) : Below n w (w.drewN k) := belowDrewN (Below.refl n w) k

set_option maxRecDepth 100000 in
set_option maxHeartbeats 4000000 in
theorem walk (a0 : Int) (a1 : Int) (a2 : Option Addr) (len2 cap2 : Nat) (z2 : List Int) (a3 : Option Addr) (len3 cap3 : Nat) (z3 : List Int) (w : World) (w0 : (Lit.int .i64 a0).wf = true) (w1 : (Lit.int .i64 a1).wf = true) (w2 : IsRow .i64 w a2 len2 cap2 z2) (w3 : IsRow .i64 w a3 len3 cap3 z3) :
    Calls Try.prog 7 #[.int .i64 a0, .int .i64 a1, .slice a2 len2 cap2, .slice a3 len3 cap3] w fun e w' => e = .returned (.bool true) ∧ Below w.heap.size w w' := by
  have k0 : 0 ≤ IntKind.u64.wrap a0 := wrap_nonneg _
  have k1 : 0 ≤ IntKind.u64.wrap a1 := wrap_nonneg _
  have m2 := w2.len_le
  have m3 := w3.len_le
  clear w0 w1
  obtain ⟨xb, xo, hX⟩ := w2.any
  obtain ⟨yb, yo, hY⟩ := w3.any
  have HX := Lib.hid hX
  have HY := Lib.hid hY
  clear w2 w3 hX hY
  go_enter Try.func7, Try.ntmps7
  go_wp2_with fail
  generalize hx0 : IntKind.u64.wrap a0 % 7 = u at *
  generalize hx1 : IntKind.u64.wrap a1 % 7 = d at *
  have b0 : 0 ≤ u ∧ u < 7 := by omega
  have b1 : 0 ≤ d ∧ d < 7 := by omega
  clear hx0 hx1 k0 k1
  have bu1 : 0 ≤ u := b0.1
  have bu2 : u ≤ 60 := by omega
  have bd1 : 0 ≤ d := b1.1
  have bd2 : d ≤ 60 := by omega
  have hb0 := (Below.refl w.heap.size w).alloc (Nat.le_refl _) (.cells #[.int .i64 u, .int .i64 d, .slice none 0 0, .int .i64 0] 44)
  have p0 := One.new w bu1 bu2 bd1 bd2
  refine (new_some u d _ bu1 bu2 bd1 bd2).mono ?_
  rintro e w' ⟨rfl, rfl⟩
  generalize hb : w.heap.size = b at *
  have HB := (show Hid (w.heap.size = b) from hb)
  clear hb
  generalize w.alloc (.cells #[.int .i64 u, .int .i64 d, .slice none 0 0, .int .i64 0] 44) = w0 at *
  have R1 := Lib.hid (show Rel1 w b u d len3 (.int .i64 0) w0 from ⟨0, [], Nat.zero_le _, by omega, rfl, p0, fine_nil, by simp; omega, hb0⟩)
  clear p0 hb0
  go_upto_block 0 with fail
  go_cut [12] (fun _ wx => (∃ l, One wx b u d l) ∧ Below b w wx)
  case first =>
    go_wp2_with fail
    go_loopw [12] (fun v wr => Rel1 w b u d len3 v wr) (fun i _ => len3 - (intOf i).toNat)
    case atStart => exact R1.out
    case round =>
      clear R1
      obtain ⟨k, l, hk, hk20, rfl, hone, hfine, hlen, hbel⟩ := hrel
      have HT := Lib.hid hone
      have HF := Lib.hid hfine
      have HLEN := Lib.hid hlen
      have HBEL := Lib.hid hbel
      clear hone hbel hfine hlen
      by_cases hlt : k < len3
      · by_cases hlt20 : k < 30
        · obtain ⟨ha, hyb, hc, _⟩ := HY.out k hlt
          have hcell : wr.cell? ⟨yb, yo + k, none⟩ = some (.int .i64 (z3.getD k 0)) := (HBEL.out.cell (p := ⟨yb, yo + k, none⟩) hyb).trans hc
          rw [ha]
          clear hc
          have kz := wrap_nonneg (z3.getD k 0)
          generalize z3.getD k 0 = n at *
          clear ha
          go_wp2_with fail
          go_quiet (fail)
          have bw : 0 ≤ IntKind.u64.wrap n % 100 ∧ IntKind.u64.wrap n % 100 < 100 := ⟨Int.emod_nonneg _ (by omega), Int.emod_lt_of_pos _ (by omega)⟩
          generalize IntKind.u64.wrap n % 100 = want at *
          clear hcell kz
          go_upto_if 53 with fail
          go_cut [13] (fun s wx => ∃ c : Int, 0 ≤ c ∧ c < 100 ∧ s = .int .i64 c ∧ wx = wr.drewN nq)
          case first =>
            by_cases hlt2 : k < len2
            · obtain ⟨ha, hxb, hc, _⟩ := HX.out k hlt2
              have hcell : wr.cell? ⟨xb, xo + k, none⟩ = some (.int .i64 (z2.getD k 0)) := (HBEL.out.cell (p := ⟨xb, xo + k, none⟩) hxb).trans hc
              have HA2 := (show Hid (a2 = _) from ha)
              rw [ha]
              clear hc
              have kz := wrap_nonneg (z2.getD k 0)
              generalize z2.getD k 0 = n2 at *
              clear ha
              go_wp2_with fail
              rw [← HA2.out]
              go_meet
              exact ⟨IntKind.u64.wrap n2 % 100, Int.emod_nonneg _ (by omega), Int.emod_lt_of_pos _ (by omega), rfl, rfl⟩
            · go_wp2_with fail
              go_meet
              exact ⟨5, by omega, by omega, rfl, rfl⟩
          case rest =>
            obtain ⟨c, hc0, hc1, rfl, rfl⟩ := hcut
            have HG := Lib.hid (keptL_grows (d := d) want bu1 HLEN.out)
            have HE := Lib.hid (keptL_end (u := u) (d := d) (l := l) bu1 bw.1 (show want ≤ 1000000 by omega))
            have HF2 := Lib.hid (keptL_fine (u := u) (d := d) want HF.out)
            obtain ⟨g, hg, hg1, hg2, hg3⟩ := outF_between u d c (keptL u d l want) hc0 (by omega)
            have HG0 := (show Hid (_ = g) from hg)
            have HG1 := Lib.hid hg1
            have HG2 := Lib.hid hg2
            have HG3 := Lib.hid hg3
            clear hg hg1 hg2 hg3
            go_wp2_with fail
            refine (one_next b u d c want l (wr.drewN nq) (HT.out.drewN nq)).mono ?_
            rw [HG0.out]
            rintro e w3 ⟨rfl, t3, b3⟩
            have HT3 := Lib.hid t3
            have HB3 := Lib.hid ((HBEL.out.trans (below_drewN _ _ _)).trans b3)
            clear t3 b3 HT HBEL HF HLEN HG0
            generalize keptL u d l want = l2 at *
            go_wp2_with fail
            refine (one_all b u d l2 w3 HT3.out).mono ?_
            rintro e w4 ⟨⟨v4, rfl, o4⟩, b4⟩
            have HT4 := Lib.hid (HT3.out.below b4)
            have HB4 := Lib.hid (HB3.out.trans (b4.mono (Nat.le_of_lt HT3.out.lt)))
            have hpos : 0 < l2.length := by have := HG.out; omega
            obtain ⟨q4, o4', cap4, hv4, hcap4, hq4, hcells⟩ : ∃ g o cap, v4 = .slice (some ⟨g, o, none⟩) l2.length cap ∧ l2.length ≤ cap ∧ g < w4.heap.size ∧ ∀ k, k < l2.length → w4.cell? ⟨g, o + k, none⟩ = some (.int .i64 (l2.getD k 0)) := by
              rcases Ints.of_row o4 with ⟨_, rfl⟩ | h
              · simp at hpos
              · exact h
            have hlen61 : l2.length ≤ 61 := HT4.out.2.2.2.2.2
            have HC4 := Lib.hid hcells
            have hlast := hcells (l2.length - 1) (by omega)
            rw [HE.out] at hlast
            rw [hv4]
            clear hv4 o4 b4 HT3 HB3 hcells hq4
            go_upto_region 13 with fail
            go_cut [86] (fun s wx => s = .bool false ∧ wx = w4)
            case first =>
              have hgr := HG.out
              rcases Int.lt_or_le u d with hud | hud
              all_goals rcases Int.lt_or_le (max u d) k with hkd | hkd
              all_goals
                first
                  | (rw [show l2.length - 1 = k by omega] at hlast)
                  | (rw [show l2.length - 1 = d.toNat by omega] at hlast)
                  | (rw [show l2.length - 1 = u.toNat by omega] at hlast)
                go_wp2_with fail
                go_meet
                exact ⟨rfl, rfl⟩
            case rest =>
              obtain ⟨rfl, rfl⟩ := hcut
              have HH := Lib.hid (hiAt_all d HF2.out hpos)
              have HL := Lib.hid (loAt_all u HF2.out hpos)
              obtain ⟨m1, hm1⟩ : ∃ m, m = l2.length - d.toNat - 1 := ⟨_, rfl⟩
              obtain ⟨m2, hm2⟩ : ∃ m, m = l2.length - u.toNat - 1 := ⟨_, rfl⟩
              have HM1 := (show Hid (m1 = _) from hm1)
              have HM2 := (show Hid (m2 = _) from hm2)
              rw [← hm1] at HH
              rw [← hm2] at HL
              have R2 := Lib.hid (show Rel2 wc l2 m1 m2 (.int .i64 0) (.int .i64 1000000) (.int .i64 0) wc from ⟨0, Nat.zero_le _, by rw [hiAt_zero], by rw [loAt_zero], rfl, rfl⟩)
              clear hlast hm1 hm2 HE
              go_wp2_with fail
              go_loopw [17, 18, 19] (fun v17 v18 v19 wr => Rel2 wc l2 m1 m2 v17 v18 v19 wr) (fun _ _ i _ => l2.length - (intOf i).toNat)
              case atStart => exact R2.out
              case round =>
                clear R2
                obtain ⟨j, hj, rfl, rfl, rfl, rfl⟩ := hrel
                by_cases hjl : j < l2.length
                · have hcell := HC4.out j hjl
                  have HS1 := Lib.hid (hiAt_step (m := m1) hjl)
                  have HS2 := Lib.hid (loAt_step (m := m2) hjl)
                  generalize l2.getD j 0 = y at *
                  obtain ⟨h0, hh0⟩ : ∃ h0, h0 = hiAt l2 m1 j := ⟨_, rfl⟩
                  obtain ⟨g0, hg0⟩ : ∃ g0, g0 = loAt l2 m2 j := ⟨_, rfl⟩
                  rw [← hh0] at HS1 ⊢
                  rw [← hg0] at HS2 ⊢
                  clear hh0 hg0
                  have hM1 := HM1.out
                  have hM2 := HM2.out
                  by_cases hmd : (l2.length : Int) - (j : Int) ≤ d + 1
                  all_goals by_cases hmu : (l2.length : Int) - (j : Int) ≤ u + 1
                  all_goals
                    first
                      | (have hs1 : m1 ≤ j := by omega)
                      | (have hs1 : ¬ m1 ≤ j := by omega)
                    first
                      | (have hs2 : m2 ≤ j := by omega)
                      | (have hs2 : ¬ m2 ≤ j := by omega)
                    first
                      | (rw [if_pos hs1] at HS1)
                      | (rw [if_neg hs1] at HS1)
                    first
                      | (rw [if_pos hs2] at HS2)
                      | (rw [if_neg hs2] at HS2)
                    clear hM1 hM2 hs1 hs2
                    go_wp2_with fail
                    all_goals
                      go_roundw
                      case rel =>
                        first
                          | exact ⟨j + 1, hjl, int_val (by have := HS1.out; first | exact this.symm | (rw [this]; omega)), int_val (by have := HS2.out; first | exact this.symm | (rw [this]; omega)), by go_num, rfl⟩
                          | ((repeat apply Exists.intro); exact ⟨⟨j + 1, hjl, int_val (by have := HS1.out; first | exact this.symm | (rw [this]; omega)), int_val (by have := HS2.out; first | exact this.symm | (rw [this]; omega)), by go_num, rfl⟩, rfl⟩)
                      case measure => simp [intOf]; omega
                · have hje : j = l2.length := by omega
                  subst hje
                  rw [HH.out, HL.out]
                  generalize maxL (lastN d l2) = hi at *
                  generalize minL (lastN u l2) = lo at *
                  have h1 := HG1.out
                  have h2 := HG2.out
                  rcases HG3.out with h3 | h3 | h3
                  all_goals
                    clear HC4 HM1 HM2 HH HL HG1 HG2 HG3
                    go_wp2_with fail
                    all_goals
                      go_roundw
                      case rel =>
                        first
                          | exact ⟨k + 1, l2, hlt, hlt20, by go_num, HT4.out, HF2.out, by have := HG.out; omega, HB4.out⟩
                          | ((repeat apply Exists.intro); exact ⟨⟨k + 1, l2, hlt, hlt20, by go_num, HT4.out, HF2.out, by have := HG.out; omega, HB4.out⟩, rfl⟩)
                      case measure => simp [intOf]; omega
        · have hlt20' : 30 ≤ (k : Int) := by omega
          go_wp2_with fail
          go_meet
          exact ⟨⟨l, HT.out⟩, HBEL.out⟩
      · go_wp2_with fail
        go_meet
        exact ⟨⟨l, HT.out⟩, HBEL.out⟩
  case rest =>
    clear R1
    obtain ⟨⟨l, ht⟩, hbel⟩ := hcut
    have HT := Lib.hid ht
    have HBEL := Lib.hid hbel
    clear ht hbel
    go_wp2_with fail
    refine (told_any _).mono ?_
    rintro e w6 ⟨rfl, b6⟩
    have HT6 := Lib.hid (HT.out.below b6)
    have HB6 := Lib.hid (HBEL.out.trans (b6.mono (Nat.le_of_lt HT.out.lt)))
    clear b6
    go_wp2_with fail
    refine (one_all b u d l _ HT6.out).mono ?_
    rintro e w7 ⟨⟨v7, rfl, o7⟩, b7⟩
    have HT7 := Lib.hid (HT6.out.below b7)
    have HB7 := Lib.hid (HB6.out.trans (b7.mono (Nat.le_of_lt HT6.out.lt)))
    have HI7 := Lib.hid (Ints.of_row o7)
    have HO7 := Lib.hid (fun g hg => (o7.lt g hg).2)
    clear b7
    obtain ⟨q7, c7, hv7⟩ := own_len o7
    rw [hv7] at HI7 HO7 ⊢
    clear o7 hv7
    go_wp2_with fail
    refine (one_all b u d l _ HT7.out).mono ?_
    rintro e w8 ⟨⟨v8, rfl, o8⟩, b8⟩
    have HB8 := Lib.hid (HB7.out.trans (b8.mono (Nat.le_of_lt HT7.out.lt)))
    have HI8 := Lib.hid (Ints.of_row o8)
    have HI78 := Lib.hid (HI7.out.below b8 HO7.out)
    have hl61 : l.length ≤ 61 := HT7.out.2.2.2.2.2
    obtain ⟨q8, c8, hv8⟩ := own_len o8
    rw [hv8] at HI8 ⊢
    clear o8 hv8 b8
    go_wp2_with fail
    refine (same_any _ _ l _ HI78.out HI8.out (by omega)).mono ?_
    rintro e w9 ⟨rfl, n9, rfl⟩
    go_wp2_with fail
    go_ret
    refine ⟨rfl, ?_⟩
    rw [HB.out]
    exact HB8.out.trans (below_drewN _ _ _)

/-! The row's step. -/
set_option maxRecDepth 100000 in
theorem lifted (os : Os) (started : os.Started) (H : Type) (enc : TypeId × Value → H) :
    ReturnsInHanded {} Try.checked os 7 .any (Rows.calmBetweenSpec.pre6 enc Try.prog Try.f7 Rows.calmBetweenRow.domain false) (Rows.calmBetweenSpec.post enc Try.prog Try.f7 false true false false) := by
  refine returnsInHanded_of_change (C := Try.checked) own started (by kernel_rfl) Try.func7
    (ChangeSpec.witness6 (enc := enc) (C := Try.checked) false ⟨#[], #[.int .i64 0, .int .i64 0, .slice none 0 0, .slice none 0 0], []⟩ 8 (by kernel_rfl) (by kernel_rfl) (by kernel_rfl) (by kernel_rfl)) ?_
  intro W base args ds gs before hval0 hW hcnd _
  have hval : ∀ (j : Nat) t v, Try.f7.params[j]? = some t → args[j]? = some v → Value.okWide Try.prog W .any base t v := hval0
  have hW' := hW
  obtain ⟨p, q, hA0, hV, rfl, hfz, hnd⟩ := hW
  have hA : DataW.TrodAll enc Try.prog W 0 (fun _ => true) true Try.f7.params.toList args.toList ds p := hA0
  rw [Try.params7] at hA hval
  obtain ⟨v0, vs0, d0, ds0, p0, q0, hargs, rfl, rfl, h0, r0⟩ := trodAll_cons hA
  obtain ⟨v1, vs1, d1, ds1, p1, q1, rfl, rfl, rfl, h1, r1⟩ := trodAll_cons r0
  obtain ⟨v2, vs2, d2, ds2, p2, q2, rfl, rfl, rfl, h2, r2⟩ := trodAll_cons r1
  obtain ⟨v3, vs3, d3, ds3, p3, q3, rfl, rfl, rfl, h3, r3⟩ := trodAll_cons r2
  obtain ⟨rfl, rfl, rfl⟩ := trodAll_nil r3
  obtain rfl : args = #[v0, v1, v2, v3] := by cases args; simp_all
  obtain ⟨rfl, rfl⟩ := trodVars_none hV
  obtain ⟨a0, rfl, rfl, rfl, w0⟩ := open_int Try.underlying3 (hval 0 3 v0 rfl rfl) h0
  obtain ⟨a1, rfl, rfl, rfl, w1⟩ := open_int Try.underlying3 (hval 1 3 v1 rfl rfl) h1
  obtain ⟨a2, len2, cap2, rfl⟩ := okWide_slice Try.underlying22 (hval 2 22 v2 rfl rfl)
  have k2 := h2
  have lt2 : ∀ x ∈ p2, x.block < W.heap.size := by obtain ⟨m, hm⟩ := k2; exact DataW.trod_lt m _ _ _ hm
  obtain ⟨z2, w2⟩ : ∃ zs, IsRow .i64 W a2 len2 cap2 zs := by
    obtain ⟨fuel, hf⟩ := h2
    rcases open_ints Try.underlying22 Try.underlying3 (by kernel_rfl) hf with ⟨hcs, _⟩ | ⟨x, l, c, zs, hcs, _, hl, hm, hz, _, hcell, hwz⟩
    · simp [Value.cells] at hcs
      obtain ⟨rfl, rfl, rfl⟩ := hcs
      exact ⟨[], .inl ⟨rfl, rfl, rfl, rfl⟩⟩
    · simp [Value.cells] at hcs
      obtain ⟨rfl, rfl, rfl⟩ := hcs
      exact ⟨zs, .inr ⟨_, rfl, hl, hm, by simpa using hz, hcell, hwz⟩⟩
  obtain ⟨a3, len3, cap3, rfl⟩ := okWide_slice Try.underlying22 (hval 3 22 v3 rfl rfl)
  have k3 := h3
  have lt3 : ∀ x ∈ p3, x.block < W.heap.size := by obtain ⟨m, hm⟩ := k3; exact DataW.trod_lt m _ _ _ hm
  obtain ⟨z3, w3⟩ : ∃ zs, IsRow .i64 W a3 len3 cap3 zs := by
    obtain ⟨fuel, hf⟩ := h3
    rcases open_ints Try.underlying22 Try.underlying3 (by kernel_rfl) hf with ⟨hcs, _⟩ | ⟨x, l, c, zs, hcs, _, hl, hm, hz, _, hcell, hwz⟩
    · simp [Value.cells] at hcs
      obtain ⟨rfl, rfl, rfl⟩ := hcs
      exact ⟨[], .inl ⟨rfl, rfl, rfl, rfl⟩⟩
    · simp [Value.cells] at hcs
      obtain ⟨rfl, rfl, rfl⟩ := hcs
      exact ⟨zs, .inr ⟨_, rfl, hl, hm, by simpa using hz, hcell, hwz⟩⟩
  clear hA0 hval0
  refine (walk a0 a1 a2 len2 cap2 z2 a3 len3 cap3 z3 W w0 w1 w2 w3).mono fun e W' ⟨he, bel⟩ => ?_
  subst he
  exact ⟨_, rfl, _, _, _, [], _, [], hW', trodAll_mk1 (shut_bool Try.underlying4 _), (trodAll_cons_mk (shut_int Try.underlying3 w0) (trodAll_cons_mk (shut_int Try.underlying3 w1) (trodAll_cons_mk (Below.trod laidOut (by kernel_rfl) (of_decide_eq_true (by kernel_rfl)) k2 bel lt2) (trodAll_cons_mk (Below.trod laidOut (by kernel_rfl) (of_decide_eq_true (by kernel_rfl)) k3 bel lt3) trodAll_mk0)))), rfl, bel.frame _, fun h => by cases h⟩

theorem over : Rows.calmBetweenRow.holds Try.pinned (OpenSpec.ofChange Rows.calmBetweenSpec) :=
  OpenClaim.holds_of_wide 7 Try.f7 rfl rfl rfl rfl rfl rfl rfl ⟨rfl, rfl, rfl, rfl, rfl⟩ rfl rfl rfl rfl rfl (by kernel_rfl) Try.func7 (by kernel_rfl)
    (of_decide_eq_true (by kernel_rfl)) (by unfold Func.isWrapper; first | (rw [if_pos (by decide +kernel)]; kernel_rfl) | (rw [if_neg (by decide +kernel)]; exact ⟨rfl, rfl⟩))
    (fun os started H enc _ => lifted os started H enc)

theorem proved : Rows.CalmBetweenSaid := over
#print axioms proved
end Go.Proofs.Ytojiighogjfgjaa.calmBetween
