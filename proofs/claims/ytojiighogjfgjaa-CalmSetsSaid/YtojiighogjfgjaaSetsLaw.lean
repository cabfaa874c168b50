/-
  The law CalmSets answers true at every input and leaves what was there as it was; no condition.
-/
import Derived.Test.YtojiighogjfgjaaPlain
import Derived.WalkKit
import Derived.Deep.CutBlock
import Derived.Deep.DeepCutAuto
import Derived.Deep.RegionHeld3
import Derived.Deep.OwnRows
import Derived.ProofKit
import Derived.OpenShut
import Derived.ShutString
import Derived.ChangeOld
import Derived.Below
namespace Go.Proofs.Ytojiighogjfgjaa.calmSets
open Go.ChangeShapes Go.WideShapes Go.ChangeAt Go.RowKit
open Go.ChangeMaps (open_string shut_string)
set_option linter.unusedVariables false

theorem own : ownKnob Try.prog.godebug = none := by kernel_rfl
theorem laidOut : laidOutB Try.prog = true := by kernel_rfl

/-- At each round's head of the first loop. -/
def Rel1 (w : World) (b : Nat) (u d : Int) (len : Nat) (v : Value) (wr : World) : Prop :=
  ∃ (k : Nat) (l : List Int), k ≤ len ∧ k ≤ 20 ∧ v = .int .i64 (k : Int) ∧ Two wr b u d l (b + 1) u d [] ∧ Fine l ∧ (l.length : Int) ≤ max u d + 1 ∧ Below b w wr
/-- At each round's head of the second. -/
def Rel2 (w : World) (b : Nat) (u d : Int) (len : Nat) (v : Value) (wr : World) : Prop :=
  ∃ (k : Nat) (l : List Int), k ≤ len ∧ k ≤ 10 ∧ v = .int .i64 (k : Int) ∧ Two wr b u d l (b + 1) u d l ∧ Below b w wr

theorem two_drew {w : World} {b1 b2 : Nat} {u1 d1 u2 d2 : Int} {l1 l2 : List Int} (h : Two w b1 u1 d1 l1 b2 u2 d2 l2) : Two w.drew b1 u1 d1 l1 b2 u2 d2 l2 := h.below (Below.refl _ _).drew

set_option maxHeartbeats 2000000 in
theorem walk (a0 : Int) (a1 : Int) (a2 : Option Addr) (len2 cap2 : Nat) (z2 : List Int) (a3 : Option Addr) (len3 cap3 : Nat) (z3 : List Int) (w : World) (w0 : (Lit.int .i64 a0).wf = true) (w1 : (Lit.int .i64 a1).wf = true) (w2 : IsRow .i64 w a2 len2 cap2 z2) (w3 : IsRow .i64 w a3 len3 cap3 z3) :
    Calls Try.prog 3 #[.int .i64 a0, .int .i64 a1, .slice a2 len2 cap2, .slice a3 len3 cap3] w fun e w' => e = .returned (.bool true) ∧ Below w.heap.size w w' := by
  have k0 : 0 ≤ IntKind.u64.wrap a0 := wrap_nonneg _
  have k1 : 0 ≤ IntKind.u64.wrap a1 := wrap_nonneg _
  have m2 := w2.len_le
  have m3 := w3.len_le
  clear w0 w1
  obtain ⟨xb, xo, hX⟩ := w2.any
  obtain ⟨yb, yo, hY⟩ := w3.any
  have HX := Lib.hid hX
  have HY := Lib.hid hY
  clear w2 w3 hX hY
  go_enter Try.func3, Try.ntmps3
  go_wp2_with fail
  generalize hx0 : IntKind.u64.wrap a0 % 7 = u at *
  generalize hx1 : IntKind.u64.wrap a1 % 7 = d at *
  have b0 : 0 ≤ u ∧ u < 7 := by omega
  have b1 : 0 ≤ d ∧ d < 7 := by omega
  clear hx0 hx1 k0 k1
  have bu1 : 0 ≤ u := b0.1
  have bu2 : u ≤ 60 := by omega
  have bd1 : 0 ≤ d := b1.1
  have bd2 : d ≤ 60 := by omega
  have hb0 := ((Below.refl w.heap.size w).alloc (Nat.le_refl _) (.cells #[.int .i64 u, .int .i64 d, .slice none 0 0, .int .i64 0] 44)).alloc (by simp) (.cells #[.int .i64 u, .int .i64 d, .slice none 0 0, .int .i64 0] 44)
  have p0 := Two.new w bu1 bu2 bd1 bd2 bu1 bu2 bd1 bd2
  refine (new_some u d _ bu1 bu2 bd1 bd2).mono ?_
  rintro e w' ⟨rfl, rfl⟩
  go_wp2_with fail
  refine (new_some u d _ bu1 bu2 bd1 bd2).mono ?_
  rintro e w' ⟨rfl, rfl⟩
  rw [World.size_alloc]
  generalize hb : w.heap.size = b at *
  have HB := (show Hid (w.heap.size = b) from hb)
  clear hb
  generalize (w.alloc (.cells #[.int .i64 u, .int .i64 d, .slice none 0 0, .int .i64 0] 44)).alloc (.cells #[.int .i64 u, .int .i64 d, .slice none 0 0, .int .i64 0] 44) = w0 at *
  have R1 := Lib.hid (show Rel1 w b u d len2 (.int .i64 0) w0 from ⟨0, [], Nat.zero_le _, by omega, rfl, p0, fine_nil, by simp; omega, hb0⟩)
  clear p0 hb0
  go_upto_block 0 with fail
  go_cut [13] (fun _ wx => ∃ l, Two wx b u d l (b + 1) u d [] ∧ Fine l ∧ (l.length : Int) ≤ max u d + 1 ∧ Below b w wx)
  case first =>
    go_wp2_with fail
    go_loopw [13] (fun v wr => Rel1 w b u d len2 v wr) (fun i _ => len2 - (intOf i).toNat)
    case atStart => exact R1.out
    case round =>
      clear R1
      obtain ⟨k, l, hk, hk20, rfl, htwo, hfine, hlen, hbel⟩ := hrel
      have HT := Lib.hid htwo
      have HF := Lib.hid hfine
      have HBEL := Lib.hid hbel
      have HLEN := Lib.hid hlen
      clear htwo hfine hbel hlen
      by_cases hlt : k < len2
      · by_cases hlt20 : k < 20
        · obtain ⟨ha, hxb, hc, _⟩ := HX.out k hlt
          have hcell : wr.cell? ⟨xb, xo + k, none⟩ = some (.int .i64 (z2.getD k 0)) := (HBEL.out.cell (p := ⟨xb, xo + k, none⟩) hxb).trans hc
          rw [ha]
          clear hc
          generalize z2.getD k 0 = n at *
          clear ha
          go_wp2_with fail
          refine (two_next b (b + 1) b u d u d 5 n l [] _ HT.out (Nat.le_refl _)).mono ?_
          rintro e w2 ⟨rfl, t2, b2⟩
          have HT2 := Lib.hid t2
          have HB2 := Lib.hid (HBEL.out.trans b2)
          clear t2 b2 hcell
          go_wp2_with fail
          go_roundw
          case rel =>
            first
              | exact ⟨k + 1, _, by omega, by omega, by go_num, HT2.out, keptL_fine n HF.out, keptL_len u d l n bu1, HB2.out⟩
              | ((repeat apply Exists.intro); exact ⟨⟨k + 1, _, by omega, by omega, by go_num, HT2.out, keptL_fine n HF.out, keptL_len u d l n bu1, HB2.out⟩, rfl⟩)
          case measure => simp [intOf]; omega
        · have hlt20' : 20 ≤ (k : Int) := by omega
          go_wp2_with fail
          go_meet
          exact ⟨l, HT.out, HF.out, HLEN.out, HBEL.out⟩
      · go_wp2_with fail
        go_meet
        exact ⟨l, HT.out, HF.out, HLEN.out, HBEL.out⟩
  case rest =>
    clear R1
    obtain ⟨l, ht, hf, hl, hbel⟩ := hcut
    have HT := Lib.hid ht
    have HF := Lib.hid hf
    have HLEN := Lib.hid hl
    have HBEL := Lib.hid hbel
    clear ht hf hl hbel
    go_wp2_with fail
    refine (one_all b u d l _ HT.out.fst).mono ?_
    rintro e w2 ⟨⟨v2, rfl, o2⟩, b2⟩
    obtain ⟨q2, c2, hv2⟩ := own_len o2
    rw [hv2] at o2 ⊢
    have HI2 := Lib.hid (Ints.of_row o2)
    have HT2 := Lib.hid (HT.out.below b2)
    have HB2 := Lib.hid (HBEL.out.trans (b2.mono (Nat.le_of_lt HT.out.fst.lt)))
    clear hv2 o2 b2
    go_wp2_with fail
    refine (two_set (b + 1) b b u d u d [] l l _ _ HT2.out.swap HI2.out HLEN.out (Nat.le_succ _)).mono ?_
    rw [badL_fine HF.out]
    rintro e w3 ⟨rfl, t3, b3⟩
    have R2 := Lib.hid (show Rel2 w b u d len3 (.int .i64 0) w3 from ⟨0, l, Nat.zero_le _, by omega, rfl, t3.swap, HB2.out.trans b3⟩)
    clear t3 b3 HT HF HBEL HLEN HI2 HT2 HB2
    go_upto_block 2 with fail
    go_cut [14] (fun _ wx => ∃ l, Two wx b u d l (b + 1) u d l ∧ Below b w wx)
    case first =>
      go_wp2_with fail
      go_loopw [14] (fun v wr => Rel2 w b u d len3 v wr) (fun i _ => len3 - (intOf i).toNat)
      case atStart => exact R2.out
      case round =>
        clear R2
        obtain ⟨k, l, hk, hk20, rfl, htwo, hbel⟩ := hrel
        have HT := Lib.hid htwo
        have HBEL := Lib.hid hbel
        clear htwo hbel
        by_cases hlt : k < len3
        · by_cases hlt20 : k < 10
          · obtain ⟨ha, hxb, hc, _⟩ := HY.out k hlt
            have hcell : wr.cell? ⟨yb, yo + k, none⟩ = some (.int .i64 (z3.getD k 0)) := (HBEL.out.cell (p := ⟨yb, yo + k, none⟩) hxb).trans hc
            rw [ha]
            clear hc
            generalize z3.getD k 0 = n at *
            clear ha
            go_wp2_with fail
            go_region_with (first
                | (go_at_call_of 9 (Value.pointer (some ⟨b, 0, none⟩)); refine (two_next b (b + 1) b u d u d 7 n l l _ ?_ (Nat.le_refl _)).mono ?_; exact two_drew HT.out; rintro e w4 ⟨rfl, t4, b4⟩; have HT4 := Lib.hid t4; have HB4 := Lib.hid (HBEL.out.drew.trans b4); have hcell2 := (b4.cell (p := ⟨yb, yo + k, none⟩) hxb).trans hcell; clear t4 b4)
                | (go_at_call 9; (refine (two_next (b + 1) b b u d u d 7 n l (keptL u d l n) _ ?_ (Nat.le_succ _)).mono ?_; exact HT4.out.swap; rintro e w5 ⟨rfl, t5, b5⟩; have HT5 := Lib.hid t5.swap; have HB5 := Lib.hid (HB4.out.trans b5); have hcell3 := (b5.cell (p := ⟨yb, yo + k, none⟩) hxb).trans hcell2; clear t5 b5)))
            all_goals
              go_wp2_with fail
              go_roundw
              case rel =>
                first
                  | exact ⟨k + 1, _, by omega, by omega, by go_num, HT5.out, HB5.out⟩
                  | ((repeat apply Exists.intro); exact ⟨⟨k + 1, _, by omega, by omega, by go_num, HT5.out, HB5.out⟩, rfl⟩)
              case measure => simp [intOf]; omega
          · have hlt20' : 10 ≤ (k : Int) := by omega
            go_wp2_with fail
            go_meet
            exact ⟨l, HT.out, HBEL.out⟩
        · go_wp2_with fail
          go_meet
          exact ⟨l, HT.out, HBEL.out⟩
    case rest =>
      clear R2
      obtain ⟨l, ht, hbel⟩ := hcut
      have HT := Lib.hid ht
      have HBEL := Lib.hid hbel
      clear ht hbel
      go_wp2_with fail
      refine (told_any _).mono ?_
      rintro e w6 ⟨rfl, b6⟩
      have HT6 := Lib.hid (HT.out.below b6)
      have HB6 := Lib.hid (HBEL.out.trans (b6.mono (Nat.le_of_lt HT.out.fst.lt)))
      clear b6
      go_wp2_with fail
      refine (one_all b u d l _ HT6.out.fst).mono ?_
      rintro e w7 ⟨⟨v7, rfl, o7⟩, b7⟩
      obtain ⟨q7, c7, hv7⟩ := own_len o7
      rw [hv7]
      have HT7 := Lib.hid (HT6.out.below b7)
      have HB7 := Lib.hid (HB6.out.trans (b7.mono (Nat.le_of_lt HT6.out.fst.lt)))
      clear hv7 o7 b7
      go_wp2_with fail
      refine (one_all (b + 1) u d l _ HT7.out.snd).mono ?_
      rintro e w8 ⟨⟨v8, rfl, o8⟩, b8⟩
      obtain ⟨q8, c8, hv8⟩ := own_len o8
      rw [hv8]
      have HB8 := Lib.hid (HB7.out.trans (b8.mono (Nat.le_of_lt HT7.out.fst.lt)))
      clear hv8 o8 b8
      go_wp2_with fail
      go_ret
      refine ⟨rfl, ?_⟩
      rw [HB.out]
      exact HB8.out

/-! The row's step. -/
set_option maxRecDepth 100000 in
theorem lifted (os : Os) (started : os.Started) (H : Type) (enc : TypeId × Value → H) :
    ReturnsInHanded {} Try.checked os 3 .any (Rows.calmSetsSpec.pre6 enc Try.prog Try.f3 Rows.calmSetsRow.domain false) (Rows.calmSetsSpec.post enc Try.prog Try.f3 false true false false) := by
  refine returnsInHanded_of_change (C := Try.checked) own started (by kernel_rfl) Try.func3
    (ChangeSpec.witness6 (enc := enc) (C := Try.checked) false ⟨#[], #[.int .i64 0, .int .i64 0, .slice none 0 0, .slice none 0 0], []⟩ 8 (by kernel_rfl) (by kernel_rfl) (by kernel_rfl) (by kernel_rfl)) ?_
  intro W base args ds gs before hval0 hW hcnd _
  have hval : ∀ (j : Nat) t v, Try.f3.params[j]? = some t → args[j]? = some v → Value.okWide Try.prog W .any base t v := hval0
  have hW' := hW
  obtain ⟨p, q, hA0, hV, rfl, hfz, hnd⟩ := hW
  have hA : DataW.TrodAll enc Try.prog W 0 (fun _ => true) true Try.f3.params.toList args.toList ds p := hA0
  rw [Try.params3] at hA hval
  obtain ⟨v0, vs0, d0, ds0, p0, q0, hargs, rfl, rfl, h0, r0⟩ := trodAll_cons hA
  obtain ⟨v1, vs1, d1, ds1, p1, q1, rfl, rfl, rfl, h1, r1⟩ := trodAll_cons r0
  obtain ⟨v2, vs2, d2, ds2, p2, q2, rfl, rfl, rfl, h2, r2⟩ := trodAll_cons r1
  obtain ⟨v3, vs3, d3, ds3, p3, q3, rfl, rfl, rfl, h3, r3⟩ := trodAll_cons r2
  obtain ⟨rfl, rfl, rfl⟩ := trodAll_nil r3
  obtain rfl : args = #[v0, v1, v2, v3] := by cases args; simp_all
  obtain ⟨rfl, rfl⟩ := trodVars_none hV
  obtain ⟨a0, rfl, rfl, rfl, w0⟩ := open_int Try.underlying3 (hval 0 3 v0 rfl rfl) h0
  obtain ⟨a1, rfl, rfl, rfl, w1⟩ := open_int Try.underlying3 (hval 1 3 v1 rfl rfl) h1
  obtain ⟨a2, len2, cap2, rfl⟩ := okWide_slice Try.underlying22 (hval 2 22 v2 rfl rfl)
  have k2 := h2
  have lt2 : ∀ x ∈ p2, x.block < W.heap.size := by obtain ⟨m, hm⟩ := k2; exact DataW.trod_lt m _ _ _ hm
  obtain ⟨z2, w2⟩ : ∃ zs, IsRow .i64 W a2 len2 cap2 zs := by
    obtain ⟨fuel, hf⟩ := h2
    rcases open_ints Try.underlying22 Try.underlying3 (by kernel_rfl) hf with ⟨hcs, _⟩ | ⟨x, l, c, zs, hcs, _, hl, hm, hz, _, hcell, hwz⟩
    · simp [Value.cells] at hcs
      obtain ⟨rfl, rfl, rfl⟩ := hcs
      exact ⟨[], .inl ⟨rfl, rfl, rfl, rfl⟩⟩
    · simp [Value.cells] at hcs
      obtain ⟨rfl, rfl, rfl⟩ := hcs
      exact ⟨zs, .inr ⟨_, rfl, hl, hm, by simpa using hz, hcell, hwz⟩⟩
  obtain ⟨a3, len3, cap3, rfl⟩ := okWide_slice Try.underlying22 (hval 3 22 v3 rfl rfl)
  have k3 := h3
  have lt3 : ∀ x ∈ p3, x.block < W.heap.size := by obtain ⟨m, hm⟩ := k3; exact DataW.trod_lt m _ _ _ hm
  obtain ⟨z3, w3⟩ : ∃ zs, IsRow .i64 W a3 len3 cap3 zs := by
    obtain ⟨fuel, hf⟩ := h3
    rcases open_ints Try.underlying22 Try.underlying3 (by kernel_rfl) hf with ⟨hcs, _⟩ | ⟨x, l, c, zs, hcs, _, hl, hm, hz, _, hcell, hwz⟩
    · simp [Value.cells] at hcs
      obtain ⟨rfl, rfl, rfl⟩ := hcs
      exact ⟨[], .inl ⟨rfl, rfl, rfl, rfl⟩⟩
    · simp [Value.cells] at hcs
      obtain ⟨rfl, rfl, rfl⟩ := hcs
      exact ⟨zs, .inr ⟨_, rfl, hl, hm, by simpa using hz, hcell, hwz⟩⟩
  clear hA0 hval0
  refine (walk a0 a1 a2 len2 cap2 z2 a3 len3 cap3 z3 W w0 w1 w2 w3).mono fun e W' ⟨he, bel⟩ => ?_
  subst he
  exact ⟨_, rfl, _, _, _, [], _, [], hW', trodAll_mk1 (shut_bool Try.underlying4 _), (trodAll_cons_mk (shut_int Try.underlying3 w0) (trodAll_cons_mk (shut_int Try.underlying3 w1) (trodAll_cons_mk (Below.trod laidOut (by kernel_rfl) (of_decide_eq_true (by kernel_rfl)) k2 bel lt2) (trodAll_cons_mk (Below.trod laidOut (by kernel_rfl) (of_decide_eq_true (by kernel_rfl)) k3 bel lt3) trodAll_mk0)))), rfl, bel.frame _, fun h => by cases h⟩

theorem over : Rows.calmSetsRow.holds Try.pinned (OpenSpec.ofChange Rows.calmSetsSpec) :=
  OpenClaim.holds_of_wide 3 Try.f3 rfl rfl rfl rfl rfl rfl rfl ⟨rfl, rfl, rfl, rfl, rfl⟩ rfl rfl rfl rfl rfl (by kernel_rfl) Try.func3 (by kernel_rfl)
    (of_decide_eq_true (by kernel_rfl)) (by unfold Func.isWrapper; first | (rw [if_pos (by decide +kernel)]; kernel_rfl) | (rw [if_neg (by decide +kernel)]; exact ⟨rfl, rfl⟩))
    (fun os started H enc _ => lifted os started H enc)

theorem proved : Rows.CalmSetsSaid := over
#print axioms proved
end Go.Proofs.Ytojiighogjfgjaa.calmSets
