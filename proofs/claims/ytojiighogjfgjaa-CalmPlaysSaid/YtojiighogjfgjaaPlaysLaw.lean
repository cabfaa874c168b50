/-
  The law CalmPlays answers true at every input and leaves what was there as it was; no condition.
-/
import Derived.Test.YtojiighogjfgjaaDuo
import Derived.WalkKit
import Derived.Deep.CutBlock
import Derived.Deep.DeepCutAuto
import Derived.Deep.OwnRows
import Derived.ProofKit
import Derived.OpenShut
import Derived.ShutString
import Derived.ChangeOld
import Derived.Below
namespace Go.Proofs.Ytojiighogjfgjaa.calmPlays
open Go.ChangeShapes Go.WideShapes Go.ChangeAt Go.RowKit
open Go.ChangeMaps (open_string shut_string)
set_option linter.unusedVariables false

theorem own : ownKnob Try.prog.godebug = none := by kernel_rfl
theorem laidOut : laidOutB Try.prog = true := by kernel_rfl

/-- At each round's head. -/
def Rel1 (w : World) (b : Nat) (u d : Int) (len : Nat) (v : Value) (wr : World) : Prop :=
  ∃ (k : Nat) (l : List Int), k ≤ len ∧ v = .int .i64 (k : Int) ∧ Duo wr b (b + 1) u d l l ∧ Below b w wr

theorem below_drewN (n : Nat) (w : World) (k : Nat) : Below n w (w.drewN k) := belowDrewN (Below.refl n w) k
theorem duo_drew {w : World} {a c : Nat} {u d : Int} {l m : List Int} (h : Duo w a c u d l m) : Duo w.drew a c u d l m := h.below (Below.refl _ _).drew

set_option maxRecDepth 100000 in
set_option maxHeartbeats 4000000 in
theorem walk (a0 : Int) (a1 : Int) (a2 : Option Addr) (len2 cap2 : Nat) (z2 : List Int) (a3 : Option Addr) (len3 cap3 : Nat) (z3 : List Int) (a4 : Option Addr) (len4 cap4 : Nat) (z4 : List Int) (w : World) (w0 : (Lit.int .i64 a0).wf = true) (w1 : (Lit.int .i64 a1).wf = true) (w2 : IsRow .i64 w a2 len2 cap2 z2) (w3 : IsRow .i64 w a3 len3 cap3 z3) (w4 : IsRow .i64 w a4 len4 cap4 z4) :
    Calls Try.prog 4 #[.int .i64 a0, .int .i64 a1, .slice a2 len2 cap2, .slice a3 len3 cap3, .slice a4 len4 cap4] w fun e w' => e = .returned (.bool true) ∧ Below w.heap.size w w' := by
  have m2 := w2.len_le
  have m3 := w3.len_le
  have m4 := w4.len_le
  clear w0 w1
  obtain ⟨xb, xo, hX⟩ := w2.any
  obtain ⟨yb, yo, hY⟩ := w3.any
  obtain ⟨hVals, hxl⟩ := w4.vals
  have HX := Lib.hid hX
  have HY := Lib.hid hY
  have HV := Lib.hid hVals
  have HXL := Lib.hid hxl
  clear w2 w3 w4 hX hY hVals hxl
  generalize List.take len4 z4 = x at *
  by_cases hval : 0 ≤ a0 ∧ a0 ≤ 60 ∧ 0 ≤ a1 ∧ a1 ≤ 60
  · obtain ⟨bu1, bu2, bd1, bd2⟩ := hval
    generalize a0 = u at *
    generalize a1 = d at *
    have hb0 := ((Below.refl w.heap.size w).alloc (Nat.le_refl _) (.cells #[.int .i64 u, .int .i64 d, .slice none 0 0, .int .i64 0] 44)).alloc (by simp) (.cells #[.int .i64 u, .int .i64 d, .slice none 0 0] 35)
    have p0 := Duo.new w bu1 bu2 bd1 bd2
    go_enter Try.func4, Try.ntmps4
    go_wp2_with fail
    refine (new_some u d _ bu1 bu2 bd1 bd2).mono ?_
    rintro e w' ⟨rfl, rfl⟩
    go_wp2_with fail
    refine (rnew_some u d _ bu1 bu2 bd1 bd2).mono ?_
    rintro e w' ⟨rfl, rfl⟩
    rw [World.size_alloc]
    have HV0 := Lib.hid (HV.out.below hb0)
    generalize hb : w.heap.size = b at *
    have HB := (show Hid (w.heap.size = b) from hb)
    clear hb
    generalize (w.alloc (.cells #[.int .i64 u, .int .i64 d, .slice none 0 0, .int .i64 0] 44)).alloc (.cells #[.int .i64 u, .int .i64 d, .slice none 0 0] 35) = w0 at *
    have HD0 := Lib.hid p0
    have HB0 := Lib.hid hb0
    clear p0 hb0
    by_cases h40 : len3 > 40 ∨ len4 > 70
    · have h40' : 40 < len3 ∨ len3 ≤ 40 ∧ 70 < len4 := by omega
      clear h40
      rcases h40' with h40 | ⟨h40, h70⟩
      all_goals
        go_wp2_with fail
        refine (told_any _).mono ?_
        rintro e w6 ⟨rfl, b6⟩
        have HB6 := Lib.hid (HB0.out.trans (b6.mono (Nat.le_of_lt HD0.out.one.lt)))
        clear b6
        go_wp2_with fail
        go_ret
        refine ⟨rfl, ?_⟩
        rw [HB.out]
        exact HB6.out
    · have h40' : len3 ≤ 40 := by omega
      have h70' : len4 ≤ 70 := by omega
      clear h40
      have hx100 : x.length ≤ 100 := by have := HXL.out; omega
      go_wp2_with fail
      refine (duo_set b (b + 1) b u d [] [] x _ w0 HD0.out HV0.out hx100 (Nat.le_refl _)).mono ?_
      rintro e w1 ⟨rfl, t1, b1⟩
      have HD1 := Lib.hid t1
      have HB1 := Lib.hid (HB0.out.trans b1)
      have HV1 := Lib.hid (HV.out.below (by rw [HB.out]; exact HB1.out))
      clear t1 b1 HD0 HB0 HV0
      go_wp2_with fail
      refine (duo_rset b (b + 1) b u d _ [] x _ w1 HD1.out HV1.out hx100 (by omega)).mono ?_
      rintro e w2 ⟨rfl, t2, b2⟩
      have R1 := Lib.hid (show Rel1 w b u d len3 (.int .i64 0) w2 from ⟨0, _, Nat.zero_le _, rfl, t2, HB1.out.trans b2⟩)
      clear t2 b2 HD1 HB1 HV1
      generalize codeS (setBad u d x) = cs at *
      go_wp2_with fail
      go_loopw [13] (fun v wr => Rel1 w b u d len3 v wr) (fun i _ => len3 - (intOf i).toNat)
      case atStart => exact R1.out
      case round =>
        clear R1
        obtain ⟨k, l, hk, rfl, hduo, hbel⟩ := hrel
        have HT := Lib.hid hduo
        have HBEL := Lib.hid hbel
        clear hduo hbel
        by_cases hlt : k < len3
        · obtain ⟨ha, hyb, hc, _⟩ := HY.out k hlt
          have hcell : wr.cell? ⟨yb, yo + k, none⟩ = some (.int .i64 (z3.getD k 0)) := (HBEL.out.cell (p := ⟨yb, yo + k, none⟩) hyb).trans hc
          rw [ha]
          clear hc
          generalize z3.getD k 0 = want at *
          clear ha
          go_upto_if 55 with fail
          go_cut [14] (fun s wx => ∃ c : Int, s = .int .i64 c ∧ wx = wr)
          case first =>
            by_cases hlt2 : k < len2
            · obtain ⟨ha, hxb, hc, _⟩ := HX.out k hlt2
              have hcell2 : wr.cell? ⟨xb, xo + k, none⟩ = some (.int .i64 (z2.getD k 0)) := (HBEL.out.cell (p := ⟨xb, xo + k, none⟩) hxb).trans hc
              have HA2 := (show Hid (a2 = _) from ha)
              rw [ha]
              clear hc
              generalize z2.getD k 0 = n2 at *
              clear ha
              go_wp2_with fail
              rw [← HA2.out]
              go_meet
              exact ⟨n2, rfl, rfl⟩
            · go_wp2_with fail
              go_meet
              exact ⟨5, rfl, rfl⟩
          case rest =>
            obtain ⟨c, rfl, rfl⟩ := hcut
            have hlk := (keptL_length u d l want bu1 bu2 bd1 bd2).2
            go_wp2_with fail
            go_region_with (first
                | (go_at_call 9; refine (duo_next b (b + 1) b u d c want l l _ ?_ (Nat.le_refl _)).mono ?_; exact duo_drew HT.out; rintro e w4 ⟨rfl, t4, b4⟩; have HT4 := Lib.hid t4; have HB4 := Lib.hid (HBEL.out.drew.trans b4); have hcell2 := (b4.cell (p := ⟨yb, yo + k, none⟩) hyb).trans hcell; clear t4 b4)
                | (go_at_call 15; refine (duo_rnext b (b + 1) b u d c want (keptL u d l want) l _ ?_ (Nat.le_succ _)).mono ?_; exact HT4.out; rintro e w5 ⟨rfl, t5, b5⟩; have HT5 := Lib.hid t5; have HB5 := Lib.hid (HB4.out.trans b5); obtain ⟨hlc, v5, c5, hI5⟩ := t5.kept; have HI5 := Lib.hid hI5; clear t5 b5 hI5)
                | (go_at_call 11; refine (one_all b u d (keptL u d l want) _ ?_).mono ?_; exact HT5.out.one; rintro e w6 ⟨⟨v6, rfl, o6⟩, b6⟩; have HT6 := Lib.hid (HT5.out.below b6); have HB6 := Lib.hid (HB5.out.trans (b6.mono (Nat.le_of_lt HT5.out.one.lt))); have HI6 := Lib.hid (Ints.of_row o6); have HI56 := Lib.hid (HI5.out.below b6 HI5.out.block); have c6 := (b6.cell (p := ⟨b + 1, 2, none⟩) hlc).trans c5; clear o6 b6)
                | (go_at_call 16; refine (same_any v6 v5 (keptL u d l want) _ ?_ ?_ (by omega)).mono ?_; exact HI6.out; exact HI56.out; rintro e w7 ⟨rfl, n7, rfl⟩))
            all_goals
              go_wp2_with fail
              go_roundw
              case rel =>
                first
                  | exact ⟨k + 1, _, by omega, by go_num, HT6.out.below (below_drewN _ _ _), HB6.out.trans (below_drewN _ _ _)⟩
                  | ((repeat apply Exists.intro); exact ⟨⟨k + 1, _, by omega, by go_num, HT6.out.below (below_drewN _ _ _), HB6.out.trans (below_drewN _ _ _)⟩, rfl⟩)
              case measure => simp [intOf]; omega
        · go_wp2_with fail
          refine (told_any _).mono ?_
          rintro e w6 ⟨rfl, b6⟩
          have HB6 := Lib.hid (HBEL.out.trans (b6.mono (Nat.le_of_lt HT.out.one.lt)))
          clear b6
          go_wp2_with fail
          go_ret
          refine ⟨rfl, ?_⟩
          rw [HB.out]
          exact HB6.out
  · have hval' : a0 < 0 ∨ 0 ≤ a0 ∧ 60 < a0 ∨ 0 ≤ a0 ∧ a0 ≤ 60 ∧ a1 < 0 ∨ 0 ≤ a0 ∧ a0 ≤ 60 ∧ 0 ≤ a1 ∧ 60 < a1 := by omega
    go_enter Try.func4, Try.ntmps4
    go_wp2_with fail
    refine (new_none a0 a1 _ hval').mono ?_
    rintro e w' ⟨rfl, rfl⟩
    go_wp2_with fail
    refine (rnew_none a0 a1 _ hval').mono ?_
    rintro e w' ⟨rfl, rfl⟩
    clear hval hval'
    go_wp2_with fail
    refine (told_any _).mono ?_
    rintro e w6 ⟨rfl, b6⟩
    have HB6 := Lib.hid b6
    clear b6
    go_wp2_with fail
    go_ret
    exact ⟨rfl, HB6.out⟩

/-! The row's step. -/
set_option maxRecDepth 100000 in
theorem lifted (os : Os) (started : os.Started) (H : Type) (enc : TypeId × Value → H) :
    ReturnsInHanded {} Try.checked os 4 .any (Rows.calmPlaysSpec.pre6 enc Try.prog Try.f4 Rows.calmPlaysRow.domain false) (Rows.calmPlaysSpec.post enc Try.prog Try.f4 false true false false) := by
  refine returnsInHanded_of_change (C := Try.checked) own started (by kernel_rfl) Try.func4
    (ChangeSpec.witness6 (enc := enc) (C := Try.checked) false ⟨#[], #[.int .i64 0, .int .i64 0, .slice none 0 0, .slice none 0 0, .slice none 0 0], []⟩ 8 (by kernel_rfl) (by kernel_rfl) (by kernel_rfl) (by kernel_rfl)) ?_
  intro W base args ds gs before hval0 hW hcnd _
  have hval : ∀ (j : Nat) t v, Try.f4.params[j]? = some t → args[j]? = some v → Value.okWide Try.prog W .any base t v := hval0
  have hW' := hW
  obtain ⟨p, q, hA0, hV, rfl, hfz, hnd⟩ := hW
  have hA : DataW.TrodAll enc Try.prog W 0 (fun _ => true) true Try.f4.params.toList args.toList ds p := hA0
  rw [Try.params4] at hA hval
  obtain ⟨v0, vs0, d0, ds0, p0, q0, hargs, rfl, rfl, h0, r0⟩ := trodAll_cons hA
  obtain ⟨v1, vs1, d1, ds1, p1, q1, rfl, rfl, rfl, h1, r1⟩ := trodAll_cons r0
  obtain ⟨v2, vs2, d2, ds2, p2, q2, rfl, rfl, rfl, h2, r2⟩ := trodAll_cons r1
  obtain ⟨v3, vs3, d3, ds3, p3, q3, rfl, rfl, rfl, h3, r3⟩ := trodAll_cons r2
  obtain ⟨v4, vs4, d4, ds4, p4, q4, rfl, rfl, rfl, h4, r4⟩ := trodAll_cons r3
  obtain ⟨rfl, rfl, rfl⟩ := trodAll_nil r4
  obtain rfl : args = #[v0, v1, v2, v3, v4] := by cases args; simp_all
  obtain ⟨rfl, rfl⟩ := trodVars_none hV
  obtain ⟨a0, rfl, rfl, rfl, w0⟩ := open_int Try.underlying3 (hval 0 3 v0 rfl rfl) h0
  obtain ⟨a1, rfl, rfl, rfl, w1⟩ := open_int Try.underlying3 (hval 1 3 v1 rfl rfl) h1
  obtain ⟨a2, len2, cap2, rfl⟩ := okWide_slice Try.underlying22 (hval 2 22 v2 rfl rfl)
  have k2 := h2
  have lt2 : ∀ x ∈ p2, x.block < W.heap.size := by obtain ⟨m, hm⟩ := k2; exact DataW.trod_lt m _ _ _ hm
  obtain ⟨z2, w2⟩ : ∃ zs, IsRow .i64 W a2 len2 cap2 zs := by
    obtain ⟨fuel, hf⟩ := h2
    rcases open_ints Try.underlying22 Try.underlying3 (by kernel_rfl) hf with ⟨hcs, _⟩ | ⟨x, l, c, zs, hcs, _, hl, hm, hz, _, hcell, hwz⟩
    · simp [Value.cells] at hcs
      obtain ⟨rfl, rfl, rfl⟩ := hcs
      exact ⟨[], .inl ⟨rfl, rfl, rfl, rfl⟩⟩
    · simp [Value.cells] at hcs
      obtain ⟨rfl, rfl, rfl⟩ := hcs
      exact ⟨zs, .inr ⟨_, rfl, hl, hm, by simpa using hz, hcell, hwz⟩⟩
  obtain ⟨a3, len3, cap3, rfl⟩ := okWide_slice Try.underlying22 (hval 3 22 v3 rfl rfl)
  have k3 := h3
  have lt3 : ∀ x ∈ p3, x.block < W.heap.size := by obtain ⟨m, hm⟩ := k3; exact DataW.trod_lt m _ _ _ hm
  obtain ⟨z3, w3⟩ : ∃ zs, IsRow .i64 W a3 len3 cap3 zs := by
    obtain ⟨fuel, hf⟩ := h3
    rcases open_ints Try.underlying22 Try.underlying3 (by kernel_rfl) hf with ⟨hcs, _⟩ | ⟨x, l, c, zs, hcs, _, hl, hm, hz, _, hcell, hwz⟩
    · simp [Value.cells] at hcs
      obtain ⟨rfl, rfl, rfl⟩ := hcs
      exact ⟨[], .inl ⟨rfl, rfl, rfl, rfl⟩⟩
    · simp [Value.cells] at hcs
      obtain ⟨rfl, rfl, rfl⟩ := hcs
      exact ⟨zs, .inr ⟨_, rfl, hl, hm, by simpa using hz, hcell, hwz⟩⟩
  obtain ⟨a4, len4, cap4, rfl⟩ := okWide_slice Try.underlying22 (hval 4 22 v4 rfl rfl)
  have k4 := h4
  have lt4 : ∀ x ∈ p4, x.block < W.heap.size := by obtain ⟨m, hm⟩ := k4; exact DataW.trod_lt m _ _ _ hm
  obtain ⟨z4, w4⟩ : ∃ zs, IsRow .i64 W a4 len4 cap4 zs := by
    obtain ⟨fuel, hf⟩ := h4
    rcases open_ints Try.underlying22 Try.underlying3 (by kernel_rfl) hf with ⟨hcs, _⟩ | ⟨x, l, c, zs, hcs, _, hl, hm, hz, _, hcell, hwz⟩
    · simp [Value.cells] at hcs
      obtain ⟨rfl, rfl, rfl⟩ := hcs
      exact ⟨[], .inl ⟨rfl, rfl, rfl, rfl⟩⟩
    · simp [Value.cells] at hcs
      obtain ⟨rfl, rfl, rfl⟩ := hcs
      exact ⟨zs, .inr ⟨_, rfl, hl, hm, by simpa using hz, hcell, hwz⟩⟩
  clear hA0 hval0
  refine (walk a0 a1 a2 len2 cap2 z2 a3 len3 cap3 z3 a4 len4 cap4 z4 W w0 w1 w2 w3 w4).mono fun e W' ⟨he, bel⟩ => ?_
  subst he
  exact ⟨_, rfl, _, _, _, [], _, [], hW', trodAll_mk1 (shut_bool Try.underlying4 _), (trodAll_cons_mk (shut_int Try.underlying3 w0) (trodAll_cons_mk (shut_int Try.underlying3 w1) (trodAll_cons_mk (Below.trod laidOut (by kernel_rfl) (of_decide_eq_true (by kernel_rfl)) k2 bel lt2) (trodAll_cons_mk (Below.trod laidOut (by kernel_rfl) (of_decide_eq_true (by kernel_rfl)) k3 bel lt3) (trodAll_cons_mk (Below.trod laidOut (by kernel_rfl) (of_decide_eq_true (by kernel_rfl)) k4 bel lt4) trodAll_mk0))))), rfl, bel.frame _, fun h => by cases h⟩

theorem over : Rows.calmPlaysRow.holds Try.pinned (OpenSpec.ofChange Rows.calmPlaysSpec) :=
  OpenClaim.holds_of_wide 4 Try.f4 rfl rfl rfl rfl rfl rfl rfl ⟨rfl, rfl, rfl, rfl, rfl⟩ rfl rfl rfl rfl rfl (by kernel_rfl) Try.func4 (by kernel_rfl)
    (of_decide_eq_true (by kernel_rfl)) (by unfold Func.isWrapper; first | (rw [if_pos (by decide +kernel)]; kernel_rfl) | (rw [if_neg (by decide +kernel)]; exact ⟨rfl, rfl⟩))
    (fun os started H enc _ => lifted os started H enc)

theorem proved : Rows.CalmPlaysSaid := over
#print axioms proved
end Go.Proofs.Ytojiighogjfgjaa.calmPlays
