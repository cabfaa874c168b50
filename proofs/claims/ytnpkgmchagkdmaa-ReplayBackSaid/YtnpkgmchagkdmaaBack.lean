/-
  The law ReplayBack answers true at every input and leaves what was there as it was; no condition.
-/
import Derived.Test.YtnpkgmchagkdmaaTold
import Derived.Test.YtnpkgmchagkdmaaNext
import Derived.Test.YtnpkgmchagkdmaaHelp
import Derived.WalkKit
import Derived.Deep.OwnRows
import Derived.ProofKit
import Derived.OpenShut
import Derived.ShutString
import Derived.ChangeOld
import Derived.Below
namespace Go.Proofs.Ytnpkgmchagkdmaa.replayBack
open Go.ChangeShapes Go.WideShapes Go.ChangeAt Go.RowKit
open Go.ChangeMaps (open_string shut_string)
set_option linter.unusedVariables false

theorem own : ownKnob Try.prog.godebug = none := by kernel_rfl
theorem laidOut : laidOutB Try.prog = true := by kernel_rfl

/-- At each round's head of the first loop. -/
def Rel1 (w : World) (b : Nat) (W : Int) (len : Nat) (v : Value) (wr : World) : Prop :=
  ∃ (k : Nat) (T : Int) (B : Nat) (tk : Int → Bool), k ≤ len ∧ v = .int .i64 (k : Int) ∧ Rep wr b W T B ∧ Inv W T B tk ∧ Rep wr (b + 1) W 0 0 ∧ Below b w wr

/-- At each round's head of the second loop. -/
def Rel2 (w : World) (b : Nat) (W : Int) (len : Nat) (v : Value) (wr : World) : Prop :=
  ∃ (k : Nat) (T : Int) (B : Nat) (tk : Int → Bool), k ≤ len ∧ v = .int .i64 (k : Int) ∧ Rep wr b W T B ∧ Inv W T B tk ∧ Rep wr (b + 1) W T B ∧ Below b w wr

theorem rep_two (w : World) (W : Int) : Rep ((w.alloc (.cells #[.int .i64 W, .int .i64 0, .int .u64 0, .int .i64 0] 48)).alloc (.cells #[.int .i64 W, .int .i64 0, .int .u64 0, .int .i64 0] 48)) w.heap.size W 0 0 ∧
    Rep ((w.alloc (.cells #[.int .i64 W, .int .i64 0, .int .u64 0, .int .i64 0] 48)).alloc (.cells #[.int .i64 W, .int .i64 0, .int .u64 0, .int .i64 0] 48)) (w.heap.size + 1) W 0 0 := by
  have r0 := Rep.new w W
  refine ⟨r0.of_heap (Below.heap_alloc _ _ _ r0.lt), ?_⟩
  have := Rep.new (w.alloc (.cells #[.int .i64 W, .int .i64 0, .int .u64 0, .int .i64 0] 48)) W
  rwa [World.size_alloc] at this

theorem top_same (b : Nat) (W T : Int) (B : Nat) (w : World) (h : Rep w b W T B) :
    Calls Try.prog 15 #[.pointer (some ⟨b, 0, none⟩)] w fun e w' => e = .returned (.int .i64 T) ∧ w' = w :=
  (top_any b W T B w h).mono fun _ _ ⟨h1, h2⟩ => ⟨h1, h2.symm⟩

set_option maxHeartbeats 2000000 in
theorem walk_some (a0 : Int) (a1 a2 : Option Addr) (len1 cap1 len2 cap2 : Nat) (z1 z2 : List Int) (w : World) (w1 : IsRow .i64 w a1 len1 cap1 z1) (w2 : IsRow .i64 w a2 len2 cap2 z2) (hl1 : len1 ≤ 40) (hl2 : len2 ≤ 20) :
    Calls Try.prog 6 #[.int .i64 a0, .slice a1 len1 cap1, .slice a2 len2 cap2] w fun e w' => e = .returned (.bool true) ∧ Below w.heap.size w w' := by
  have k0 : 0 ≤ IntKind.u64.wrap a0 := wrap_nonneg _
  have hl1' : len1 ≤ 9223372036854775807 := by omega
  rcases w1.cases with hz1 | ⟨xb, xo, rfl, _, hxb, hc, _⟩ <;> rcases w2.cases with hz2 | ⟨yb, yo, rfl, _, hyb, hd, _⟩
  all_goals
    first | (have HC := Lib.hid hc; clear hc) | (have HC := Nat.le_of_eq hz1; clear hz1)
    first | (have HD := Lib.hid hd; clear hd) | (have HD := Nat.le_of_eq hz2; clear hz2)
    clear w1 w2
    go_enter Try.func6, Try.ntmps6
    go_wp2_with fail
    generalize hx0 : IntKind.u64.wrap a0 % 64 = x0 at *
    have b0 : 0 ≤ x0 ∧ x0 < 64 := by omega
    clear hx0 k0
    generalize hW : 1 + x0 = W at *
    have bW1 : 1 ≤ W := by omega
    have bW2 : W ≤ 64 := by omega
    clear hW b0
    have rr := rep_two w W
    have hb0 := ((Below.refl w.heap.size w).alloc (Nat.le_refl _) (.cells #[.int .i64 W, .int .i64 0, .int .u64 0, .int .i64 0] 48)).alloc (by simp) (.cells #[.int .i64 W, .int .i64 0, .int .u64 0, .int .i64 0] 48)
    refine (new_some W _ bW1 bW2).mono ?_
    rintro e w' ⟨rfl, rfl⟩
    go_wp2_with fail
    refine (new_some W _ bW1 bW2).mono ?_
    rintro e w' ⟨rfl, rfl⟩
    rw [World.size_alloc]
    generalize hb : w.heap.size = b at *
    have HB := (show Hid (w.heap.size = b) from hb)
    clear hb
    generalize (w.alloc (.cells #[.int .i64 W, .int .i64 0, .int .u64 0, .int .i64 0] 48)).alloc (.cells #[.int .i64 W, .int .i64 0, .int .u64 0, .int .i64 0] 48) = w0 at *
    obtain ⟨ra, rb⟩ := rr
    have R1 := Lib.hid (show Rel1 w b W len1 (.int .i64 0) w0 from ⟨0, 0, 0, fun _ => false, Nat.zero_le _, rfl, ra, Inv.new bW1 bW2, rb, hb0⟩)
    clear ra rb hb0
    go_wp2_with fail
    go_loopw [10] (fun v wr => Rel1 w b W len1 v wr) (fun i _ => len1 - (intOf i).toNat)
    case atStart => exact R1.out
    case round =>
      clear R1
      obtain ⟨k, T, B, tk, hk, rfl, hra, hi, hrb, hbel⟩ := hrel
      by_cases hlt : k < len1
      · first
          | exact absurd hlt (by omega)
          | (have hcell : wr.cell? ⟨xb, xo + k, none⟩ = some (.int .i64 (z1.getD k 0)) := (hbel.cell (p := ⟨xb, xo + k, none⟩) hxb).trans (HC.out k hlt)
             have HRA := Lib.hid hra
             have HI := Lib.hid hi
             have HRB := Lib.hid hrb
             have HBEL := Lib.hid hbel
             clear hra hi hrb hbel
             go_wp2_with fail
             go_region_with (first
               | (go_at_call 15; refine (top_any b W T B _ ?_).mono ?_; exact HRA.out.of_heap rfl; rintro e w2 ⟨rfl, rfl⟩)
               | (go_at_call 13; refine (take_any b W T B tk _ _ ?_ HI.out).mono ?_; exact HRA.out.of_heap rfl; rintro e w2 ⟨rfl, r2, t2⟩))
             all_goals
               have R2 := Lib.hid (HRB.out.of_heap (w' := w2) (t2.block (b + 1) (by omega)))
               have HB2 := Lib.hid (HBEL.out.trans (Touch.below (b := b) (w := wr) ((Touch.drew (Touch.refl b wr)).trans t2) (Nat.le_refl _)))
               have RA2 := Lib.hid r2
               clear r2 t2 hcell
               go_wp2_with fail
               go_roundw
               case rel => exact ⟨k + 1, _, _, _, by omega, by go_num, RA2.out, HI.out.next _, R2.out, HB2.out⟩
               case measure => simp [intOf]; omega)
      · have HRA := Lib.hid hra
        have HI := Lib.hid hi
        have HRB := Lib.hid hrb
        have HBEL := Lib.hid hbel
        clear hra hi hrb hbel
        go_wp2_with fail
        refine (top_any b W T B _ HRA.out).mono ?_
        rintro e w2 ⟨rfl, rfl⟩
        go_wp2_with fail
        refine (bits_any b W T B _ HRA.out).mono ?_
        rintro e w2 ⟨rfl, rfl⟩
        go_wp2_with fail
        refine (set_ok (b + 1) W 0 0 T B _ HRB.out bW1 bW2 HI.out.lt HI.out.setOk).mono ?_
        rintro e w2 ⟨rfl, r2, t2⟩
        have ra2 := HRA.out.of_heap (w' := w2) (t2.block b (by omega))
        have hbel2 := HBEL.out.trans (t2.below (B := b) (by omega))
        have S0 := Lib.hid (show Rel2 w b W len2 (.int .i64 0) w2 from ⟨0, T, B, tk, Nat.zero_le _, rfl, ra2, HI.out, r2, hbel2⟩)
        clear ra2 r2 t2 hbel2 HRA HRB HBEL HI hk hlt
        go_wp2_with fail
        go_loopw [11] (fun v wr => Rel2 w b W len2 v wr) (fun i _ => len2 - (intOf i).toNat)
        case atStart => exact S0.out
        case round =>
          clear S0
          obtain ⟨k, T, B, tk, hk, rfl, hra, hi, hrb, hbel⟩ := hrel
          by_cases hlt : k < len2
          · first
              | exact absurd hlt (by omega)
              | (have hcell : wr.cell? ⟨yb, yo + k, none⟩ = some (.int .i64 (z2.getD k 0)) := (hbel.cell (p := ⟨yb, yo + k, none⟩) hyb).trans (HD.out k hlt)
                 have HRA := Lib.hid hra
                 have HI := Lib.hid hi
                 have HRB := Lib.hid hrb
                 have HBEL := Lib.hid hbel
                 clear hra hi hrb hbel
                 go_wp2_with fail
                 go_quiet ((go_at_call 15; refine Calls.quiet_of_same (top_same b W T B _ ?_); exact HRA.out.of_heap rfl))
                 go_wp2_with fail
                 generalize wrap64 (wrap64 (T + wrap64 ((IntKind.u64.wrap (z2[k]?.getD 0)).tmod 80)) - 50) = n at *
                 refine (may_inv b W T B tk n _ (HRA.out.drewN _) HI.out).mono ?_
                 rintro e w3 ⟨rfl, n3, rfl⟩
                 go_wp2_with fail
                 refine (may_inv (b + 1) W T B tk n _ (HRB.out.drewN _) HI.out).mono ?_
                 rintro e w4 ⟨rfl, n4, rfl⟩
                 go_wp2_with fail
                 refine (take_any b W T B tk n _ (HRA.out.drewN _) HI.out).mono ?_
                 rintro e w5 ⟨rfl, r5, t5⟩
                 have RB5 := Lib.hid ((HRB.out.drewN (nq + n3 + n4)).of_heap (w' := w5) (t5.block (b + 1) (by omega)))
                 have HB5 := Lib.hid (HBEL.out.trans (Touch.below ((Touch.drewN (Touch.refl b wr) (nq + n3 + n4)).trans t5) (Nat.le_refl _)))
                 have RA5 := Lib.hid r5
                 clear r5 t5 hcell
                 go_wp2_with fail
                 refine (take_any (b + 1) W T B tk n _ RB5.out HI.out).mono ?_
                 rintro e w6 ⟨rfl, r6, t6⟩
                 have RA6 := Lib.hid (RA5.out.of_heap (w' := w6) (t6.block b (by omega)))
                 have HB6 := Lib.hid (HB5.out.trans (t6.below (B := b) (by omega)))
                 have RB6 := Lib.hid r6
                 clear r6 t6 HB5 RB5 RA5
                 go_wp2_with fail
                 refine (bits_any b W _ _ _ RA6.out).mono ?_
                 rintro e w7 ⟨rfl, rfl⟩
                 go_wp2_with fail
                 refine (bits_any (b + 1) W _ _ _ RB6.out).mono ?_
                 rintro e w7 ⟨rfl, rfl⟩
                 go_wp2_with fail
                 refine (top_any b W _ _ _ RA6.out).mono ?_
                 rintro e w7 ⟨rfl, rfl⟩
                 go_wp2_with fail
                 refine (top_any (b + 1) W _ _ _ RB6.out).mono ?_
                 rintro e w7 ⟨rfl, rfl⟩
                 go_wp2_with fail
                 go_roundw
                 case rel => exact ⟨k + 1, _, _, _, by omega, by go_num, RA6.out, HI.out.next _, RB6.out, HB6.out⟩
                 case measure => simp [intOf]; omega)
          · go_wp2_with fail
            refine (told_any _).mono ?_
            rintro e w3 ⟨rfl, t3⟩
            go_wp2_with fail
            go_ret
            refine ⟨rfl, ?_⟩
            rw [HB.out]
            exact hbel.trans (t3.mono (Nat.le_of_lt hra.lt))

set_option maxHeartbeats 1000000 in
theorem walk_long (a0 : Int) (a1 a2 : Option Addr) (len1 cap1 len2 cap2 : Nat) (w : World) (h : 40 < len1 ∨ len1 ≤ 40 ∧ 20 < len2) :
    Calls Try.prog 6 #[.int .i64 a0, .slice a1 len1 cap1, .slice a2 len2 cap2] w fun e w' => e = .returned (.bool true) ∧ Below w.heap.size w w' := by
  have k0 : 0 ≤ IntKind.u64.wrap a0 := wrap_nonneg _
  rcases h with h | ⟨h1, h2⟩
  all_goals
    go_enter Try.func6, Try.ntmps6
    go_wp2_with fail
    generalize hx0 : IntKind.u64.wrap a0 % 64 = x0 at *
    have b0 : 0 ≤ x0 ∧ x0 < 64 := by omega
    clear hx0 k0
    generalize hW : 1 + x0 = W at *
    have bW1 : 1 ≤ W := by omega
    have bW2 : W ≤ 64 := by omega
    clear hW b0
    have hb0 := ((Below.refl w.heap.size w).alloc (Nat.le_refl _) (.cells #[.int .i64 W, .int .i64 0, .int .u64 0, .int .i64 0] 48)).alloc (by simp) (.cells #[.int .i64 W, .int .i64 0, .int .u64 0, .int .i64 0] 48)
    refine (new_some W _ bW1 bW2).mono ?_
    rintro e w' ⟨rfl, rfl⟩
    go_wp2_with fail
    refine (new_some W _ bW1 bW2).mono ?_
    rintro e w' ⟨rfl, rfl⟩
    rw [World.size_alloc]
    have hs := hb0.size
    generalize hb : w.heap.size = b at *
    have HB := (show Hid (w.heap.size = b) from hb)
    clear hb
    generalize (w.alloc (.cells #[.int .i64 W, .int .i64 0, .int .u64 0, .int .i64 0] 48)).alloc (.cells #[.int .i64 W, .int .i64 0, .int .u64 0, .int .i64 0] 48) = w0 at *
    go_wp2_with fail
    refine (told_any _).mono ?_
    rintro e w3 ⟨rfl, t3⟩
    go_wp2_with fail
    go_ret
    refine ⟨rfl, ?_⟩
    rw [HB.out]
    exact hb0.trans (t3.mono hs)

theorem walk (a0 : Int) (a1 : Option Addr) (len1 cap1 : Nat) (z1 : List Int) (a2 : Option Addr) (len2 cap2 : Nat) (z2 : List Int) (w : World) (w0 : (Lit.int .i64 a0).wf = true) (w1 : IsRow .i64 w a1 len1 cap1 z1) (w2 : IsRow .i64 w a2 len2 cap2 z2) :
    Calls Try.prog 6 #[.int .i64 a0, .slice a1 len1 cap1, .slice a2 len2 cap2] w fun e w' => e = .returned (.bool true) ∧ Below w.heap.size w w' := by
  by_cases h : 40 < len1 ∨ len1 ≤ 40 ∧ 20 < len2
  · exact walk_long a0 a1 a2 len1 cap1 len2 cap2 w h
  · exact walk_some a0 a1 a2 len1 cap1 len2 cap2 z1 z2 w w1 w2 (by omega) (by omega)

/-! The row's step. -/
set_option maxRecDepth 100000 in
theorem lifted (os : Os) (started : os.Started) (H : Type) (enc : TypeId × Value → H) :
    ReturnsInHanded {} Try.checked os 6 .any (Rows.replayBackSpec.pre6 enc Try.prog Try.f6 Rows.replayBackRow.domain false) (Rows.replayBackSpec.post enc Try.prog Try.f6 false true false false) := by
  refine returnsInHanded_of_change (C := Try.checked) own started (by kernel_rfl) Try.func6
    (ChangeSpec.witness6 (enc := enc) (C := Try.checked) false ⟨#[], #[.int .i64 0, .slice none 0 0, .slice none 0 0], []⟩ 8 (by kernel_rfl) (by kernel_rfl) (by kernel_rfl) (by kernel_rfl)) ?_
  intro W base args ds gs before hval0 hW hcnd _
  have hval : ∀ (j : Nat) t v, Try.f6.params[j]? = some t → args[j]? = some v → Value.okWide Try.prog W .any base t v := hval0
  have hW' := hW
  obtain ⟨p, q, hA0, hV, rfl, hfz, hnd⟩ := hW
  have hA : DataW.TrodAll enc Try.prog W 0 (fun _ => true) true Try.f6.params.toList args.toList ds p := hA0
  rw [Try.params6] at hA hval
  obtain ⟨v0, vs0, d0, ds0, p0, q0, hargs, rfl, rfl, h0, r0⟩ := trodAll_cons hA
  obtain ⟨v1, vs1, d1, ds1, p1, q1, rfl, rfl, rfl, h1, r1⟩ := trodAll_cons r0
  obtain ⟨v2, vs2, d2, ds2, p2, q2, rfl, rfl, rfl, h2, r2⟩ := trodAll_cons r1
  obtain ⟨rfl, rfl, rfl⟩ := trodAll_nil r2
  obtain rfl : args = #[v0, v1, v2] := by cases args; simp_all
  obtain ⟨rfl, rfl⟩ := trodVars_none hV
  obtain ⟨a0, rfl, rfl, rfl, w0⟩ := open_int Try.underlying3 (hval 0 3 v0 rfl rfl) h0
  obtain ⟨a1, len1, cap1, rfl⟩ := okWide_slice Try.underlying22 (hval 1 22 v1 rfl rfl)
  have k1 := h1
  have lt1 : ∀ x ∈ p1, x.block < W.heap.size := by obtain ⟨m, hm⟩ := k1; exact DataW.trod_lt m _ _ _ hm
  obtain ⟨z1, w1⟩ : ∃ zs, IsRow .i64 W a1 len1 cap1 zs := by
    obtain ⟨fuel, hf⟩ := h1
    rcases open_ints Try.underlying22 Try.underlying2 (by kernel_rfl) hf with ⟨hcs, _⟩ | ⟨x, l, c, zs, hcs, _, hl, hm, hz, _, hcell, hwz⟩
    · simp [Value.cells] at hcs
      obtain ⟨rfl, rfl, rfl⟩ := hcs
      exact ⟨[], .inl ⟨rfl, rfl, rfl, rfl⟩⟩
    · simp [Value.cells] at hcs
      obtain ⟨rfl, rfl, rfl⟩ := hcs
      exact ⟨zs, .inr ⟨_, rfl, hl, hm, by simpa using hz, hcell, hwz⟩⟩
  obtain ⟨a2, len2, cap2, rfl⟩ := okWide_slice Try.underlying22 (hval 2 22 v2 rfl rfl)
  have k2 := h2
  have lt2 : ∀ x ∈ p2, x.block < W.heap.size := by obtain ⟨m, hm⟩ := k2; exact DataW.trod_lt m _ _ _ hm
  obtain ⟨z2, w2⟩ : ∃ zs, IsRow .i64 W a2 len2 cap2 zs := by
    obtain ⟨fuel, hf⟩ := h2
    rcases open_ints Try.underlying22 Try.underlying2 (by kernel_rfl) hf with ⟨hcs, _⟩ | ⟨x, l, c, zs, hcs, _, hl, hm, hz, _, hcell, hwz⟩
    · simp [Value.cells] at hcs
      obtain ⟨rfl, rfl, rfl⟩ := hcs
      exact ⟨[], .inl ⟨rfl, rfl, rfl, rfl⟩⟩
    · simp [Value.cells] at hcs
      obtain ⟨rfl, rfl, rfl⟩ := hcs
      exact ⟨zs, .inr ⟨_, rfl, hl, hm, by simpa using hz, hcell, hwz⟩⟩
  clear hA0 hval0
  refine (walk a0 a1 len1 cap1 z1 a2 len2 cap2 z2 W w0 w1 w2).mono fun e W' ⟨he, bel⟩ => ?_
  subst he
  exact ⟨_, rfl, _, _, _, [], _, [], hW', trodAll_mk1 (shut_bool Try.underlying4 _), (trodAll_cons_mk (shut_int Try.underlying3 w0) (trodAll_cons_mk (Below.trod laidOut (by kernel_rfl) (of_decide_eq_true (by kernel_rfl)) k1 bel lt1) (trodAll_cons_mk (Below.trod laidOut (by kernel_rfl) (of_decide_eq_true (by kernel_rfl)) k2 bel lt2) trodAll_mk0))), rfl, bel.frame _, fun h => by cases h⟩

theorem over : Rows.replayBackRow.holds Try.pinned (OpenSpec.ofChange Rows.replayBackSpec) :=
  OpenClaim.holds_of_wide 6 Try.f6 rfl rfl rfl rfl rfl rfl rfl ⟨rfl, rfl, rfl, rfl, rfl⟩ rfl rfl rfl rfl rfl (by kernel_rfl) Try.func6 (by kernel_rfl)
    (of_decide_eq_true (by kernel_rfl)) (by unfold Func.isWrapper; first | (rw [if_pos (by decide +kernel)]; kernel_rfl) | (rw [if_neg (by decide +kernel)]; exact ⟨rfl, rfl⟩))
    (fun os started H enc _ => lifted os started H enc)

theorem proved : Rows.ReplayBackSaid := over
#print axioms proved
end Go.Proofs.Ytnpkgmchagkdmaa.replayBack
