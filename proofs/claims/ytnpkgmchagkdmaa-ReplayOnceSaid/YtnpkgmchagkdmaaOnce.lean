/-
  The law ReplayOnce answers true at every input and leaves what was there as it was; no condition.
-/
import Derived.Test.YtnpkgmchagkdmaaTold
import Derived.Test.YtnpkgmchagkdmaaPlain
import Derived.Test.YtnpkgmchagkdmaaHelp
import Derived.WalkKit
import Derived.Deep.OwnRows
import Derived.ProofKit
import Derived.OpenShut
import Derived.ShutString
import Derived.ChangeOld
import Derived.Below
namespace Go.Proofs.Ytnpkgmchagkdmaa.replayOnce
open Go.ChangeShapes Go.WideShapes Go.ChangeAt Go.RowKit
open Go.ChangeMaps (open_string shut_string)
set_option linter.unusedVariables false

theorem own : ownKnob Try.prog.godebug = none := by kernel_rfl
theorem laidOut : laidOutB Try.prog = true := by kernel_rfl

def zeros201 : Array Value := Array.replicate 201 (.bool false)
theorem zero39 (w : World) : (zeroValue 39).run Try.prog w = .ok (.agg zeros201) w := by kernel_rfl
theorem zeros_row (w : World) : (w.alloc (.cells zeros201 39)).rowIs w.heap.size 39 201 (fun _ => .bool false) :=
  ⟨zeros201, heap_alloc_new w _, by simp [zeros201], fun i hi => by simp [zeros201, hi]⟩

theorem rowTook {w : World} {bt : Nat} {tk : Int → Bool} {n : Int} (h : w.rowIs bt 39 201 (fun j => if j = n.toNat then .bool true else .bool (tk (j : Int)))) (hn : 1 ≤ n) :
    w.rowIs bt 39 201 (fun i => .bool ((i : Int) == n || tk (i : Int))) :=
  h.congr fun i _ => by
    by_cases e : i = n.toNat
    · rw [if_pos e, show (i : Int) = n from by omega]; simp
    · rw [if_neg e, show ((i : Int) == n) = false from beq_eq_false_iff_ne.2 (by omega)]; simp

/-- At each round's head. -/
def Rel (w : World) (b bt : Nat) (W : Int) (len : Nat) (v8 v9 : Value) (wr : World) : Prop :=
  ∃ (k : Nat) (T : Int) (B : Nat) (tk : Int → Bool), k ≤ len ∧ v9 = .int .i64 (k : Int) ∧ v8 = .int .i64 T ∧ Rep wr b W T B ∧ Inv W T B tk ∧ wr.rowIs bt 39 201 (fun i => .bool (tk (i : Int))) ∧ Below b w wr

set_option maxHeartbeats 1000000 in
theorem walk_some (a0 : Int) (xb xo : Nat) (len1 cap1 : Nat) (z : Nat → Int) (w : World) (hl : len1 ≤ maxLen) (hxb : xb < w.heap.size) (hc : ∀ k, k < len1 → w.cell? ⟨xb, xo + k, none⟩ = some (.int .i64 (z k))) :
    Calls Try.prog 5 #[.int .i64 a0, .slice (some ⟨xb, xo, none⟩) len1 cap1] w fun e w' => e = .returned (.bool true) ∧ Below w.heap.size w w' := by
  unfold maxLen at hl
  have k0 : 0 ≤ IntKind.u64.wrap a0 := wrap_nonneg _
  have HC := Lib.hid hc
  clear hc
  go_enter Try.func5, Try.ntmps5
  go_wp2_with fail
  generalize hx0 : IntKind.u64.wrap a0 % 64 = x0 at *
  have b0 : 0 ≤ x0 ∧ x0 < 64 := by omega
  clear hx0 k0
  generalize hW : 1 + x0 = W at *
  have bW1 : 1 ≤ W := by omega
  have bW2 : W ≤ 64 := by omega
  clear hW b0
  have r0 := Rep.new w W
  have hb0 : Below w.heap.size w (w.alloc (.cells #[.int .i64 W, .int .i64 0, .int .u64 0, .int .i64 0] 48)) := (Below.refl _ _).alloc (Nat.le_refl _) _
  refine (new_some W _ bW1 bW2).mono ?_
  rintro e w' ⟨rfl, rfl⟩
  generalize hb : w.heap.size = b at *
  have HB := (show Hid (w.heap.size = b) from hb)
  clear hb
  generalize w.alloc (.cells #[.int .i64 W, .int .i64 0, .int .u64 0, .int .i64 0] 48) = w0 at *
  by_cases h60 : 60 < len1
  · go_wp2_with fail
    refine (told_any _).mono ?_
    rintro e w2 ⟨rfl, t2⟩
    go_wp2_with fail
    go_ret
    refine ⟨rfl, ?_⟩
    rw [HB.out]
    exact hb0.trans (t2.mono (Nat.le_of_lt r0.lt))
  have hz := zero39
  go_wp2_with fail
  clear hz
  have hbt : b ≠ w0.heap.size := Nat.ne_of_lt r0.lt
  have hbt2 : b ≤ w0.heap.size := Nat.le_of_lt r0.lt
  have r1 := r0.of_heap (Below.heap_alloc w0 (.cells zeros201 39) b r0.lt)
  have row1 := zeros_row w0
  have hb1 := hb0.alloc (Nat.le_of_lt r0.lt) (.cells zeros201 39)
  generalize w0.alloc (.cells zeros201 39) = w1 at *
  generalize w0.heap.size = bt at *
  clear hb0 r0 w0
  have R1 := Lib.hid (show Rel w b bt W len1 (.int .i64 0) (.int .i64 0) w1 from ⟨0, 0, 0, fun _ => false, Nat.zero_le _, rfl, rfl, r1, Inv.new bW1 bW2, row1, hb1⟩)
  clear r1 row1 hb1
  have h60' : len1 ≤ 60 := by omega
  clear h60
  go_loopw [8, 9] (fun v8 v9 wr => Rel w b bt W len1 v8 v9 wr) (fun _ i _ => len1 - (intOf i).toNat)
  case atStart => exact R1.out
  case round =>
    clear R1
    obtain ⟨k, T, B, tk, hk, rfl, rfl, hr, hi, hrow, hbel⟩ := hrel
    by_cases hlt : k < len1
    · have hcell : wr.cell? ⟨xb, xo + k, none⟩ = some (.int .i64 (z k)) := (hbel.cell (p := ⟨xb, xo + k, none⟩) hxb).trans (HC.out k hlt)
      have kz : 0 ≤ IntKind.u64.wrap (z k) := wrap_nonneg _
      have HR := Lib.hid hr
      have HI := Lib.hid hi
      have HROW := Lib.hid hrow
      have HBEL := Lib.hid hbel
      clear hr hi hrow hbel
      go_wp2_with fail
      generalize hx : IntKind.u64.wrap (z k) % 200 = x at *
      have bx : 0 ≤ x ∧ x < 200 := by omega
      clear hx kz hcell
      generalize hn : 1 + x = n at *
      have bn1 : 1 ≤ n := by omega
      have bn2 : n ≤ 200 := by omega
      clear hn bx
      have hT1 := HI.out.t0
      have hT2 := HI.out.t1
      have hB := HI.out.lt
      have MM := Lib.hid (HI.out.may n)
      have c0 : wr.cell? ⟨bt, n.toNat, none⟩ = some (.bool (tk n)) := by
        have := HROW.out.cell (i := n.toNat) (by omega)
        rwa [show ((n.toNat : Nat) : Int) = n from by omega] at this
      have f0 := HROW.out.frozen n.toNat
      have HC0 := Lib.hid c0
      clear c0
      have HF0 := Lib.hid f0
      clear f0
      cases hm : mayF W T B n
      case false =>
        have hq : tk n = true ∨ tk n = false ∧ n ≤ T - W := by
          have := MM.out
          rw [hm] at this
          have := of_decide_eq_false this.symm
          cases ht : tk n with
          | true => exact .inl rfl
          | false => exact .inr ⟨rfl, Int.not_lt.1 fun hl2 => this ⟨bn1, by omega, hl2, ht⟩⟩
        have HM := Lib.hid hm
        clear hm
        refine (take_no b W T B n _ HR.out hB bW1 bW2 hT1 hT2 HM.out).mono ?_
        rintro e w2 ⟨rfl, r2, t2⟩
        have c1 : w2.cell? ⟨bt, n.toNat, none⟩ = some (.bool (tk n)) := (World.cell?_of_block (t2.block bt (Ne.symm hbt))).trans HC0.out
        have row2 := HROW.out.of_block (t2.block bt (Ne.symm hbt))
        have HROW2 := Lib.hid row2
        have HR2 := Lib.hid r2
        have HB2 := Lib.hid (HBEL.out.trans (t2.below (Nat.le_refl _)))
        clear row2 r2 t2
        rcases hq with ht | ⟨ht, hle⟩
        all_goals
          rw [ht] at c1
          have HT := Lib.hid ht
          clear ht
          go_wp2_with fail
          refine (may_any b W T B n _ HR2.out hB bW1 bW2 hT1 hT2).mono ?_
          rw [HM.out]
          rintro e w3 ⟨rfl, n3, rfl⟩
          go_wp2_with fail
          refine (top_any b W T B _ (HR2.out.drewN _)).mono ?_
          rintro e w4 ⟨rfl, rfl⟩
          go_wp2_with fail
          go_roundw
          case rel => exact ⟨k + 1, T, B, tk, by omega, by go_num, rfl, HR2.out.drewN _, HI.out, HROW2.out, belowDrewN HB2.out _⟩
          case measure => simp [intOf]; omega
      case true =>
        have hq : tk n = false ∧ T - W < n := by
          have := MM.out
          rw [hm] at this
          have := of_decide_eq_true this.symm
          exact ⟨this.2.2.2, this.2.2.1⟩
        obtain ⟨ht, hlo⟩ := hq
        have HI2 := Lib.hid (HI.out.take hm)
        have HM := Lib.hid hm
        clear hm
        refine (take_yes b W T B n _ HR.out hB bW1 bW2 hT1 hT2 HM.out).mono ?_
        rintro e w2 ⟨rfl, r2, t2⟩
        have c1 : w2.cell? ⟨bt, n.toNat, none⟩ = some (.bool false) := by rw [← ht]; exact (World.cell?_of_block (t2.block bt (Ne.symm hbt))).trans HC0.out
        have f1 : w2.frozen? ⟨bt, n.toNat, none⟩ = false := (World.frozen?_of_block (t2.block bt (Ne.symm hbt))).trans HF0.out
        have row2 := (HROW.out.of_block (t2.block bt (Ne.symm hbt))).set n.toNat (.bool true)
        have HROW2 := Lib.hid row2
        have HR2 := Lib.hid (r2.of_heap (w' := w2.setCell ⟨bt, n.toNat, none⟩ (.bool true)) (Below.heap_setCell _ _ _ _ hbt))
        have HB2 := Lib.hid ((HBEL.out.trans (t2.below (Nat.le_refl _))).setCell (p := ⟨bt, n.toNat, none⟩) hbt2 (.bool true))
        have HT := Lib.hid ht
        have hB2 := HI2.out.lt
        have hT3 := HI2.out.t0
        have hT4 := HI2.out.t1
        have HM2 := Lib.hid (show mayF W (max T n) (takeB W T B n) n = false from by rw [HI2.out.may n]; simp)
        clear row2 r2 t2 ht
        by_cases hgt : T < n
        · rw [show max T n = n from by omega] at HR2 HI2 HM2 hT3 hT4
          go_wp2_with fail
          refine (may_any b W n _ n _ HR2.out hB2 bW1 bW2 hT3 hT4).mono ?_
          rw [HM2.out]
          rintro e w3 ⟨rfl, n3, rfl⟩
          go_wp2_with fail
          refine (top_any b W n _ _ (HR2.out.drewN _)).mono ?_
          rintro e w4 ⟨rfl, rfl⟩
          go_wp2_with fail
          go_roundw
          case rel => exact ⟨k + 1, n, _, _, by omega, by go_num, rfl, HR2.out.drewN _, HI2.out, rowTook HROW2.out bn1, belowDrewN HB2.out _⟩
          case measure => simp [intOf]; omega
        · have hle : n ≤ T := by omega
          rw [show max T n = T from by omega] at HR2 HI2 HM2 hT3 hT4
          go_wp2_with fail
          refine (may_any b W T _ n _ HR2.out hB2 bW1 bW2 hT3 hT4).mono ?_
          rw [HM2.out]
          rintro e w3 ⟨rfl, n3, rfl⟩
          go_wp2_with fail
          refine (top_any b W T _ _ (HR2.out.drewN _)).mono ?_
          rintro e w4 ⟨rfl, rfl⟩
          go_wp2_with fail
          go_roundw
          case rel => exact ⟨k + 1, T, _, _, by omega, by go_num, rfl, HR2.out.drewN _, HI2.out, rowTook HROW2.out bn1, belowDrewN HB2.out _⟩
          case measure => simp [intOf]; omega
    · go_wp2_with fail
      refine (told_any _).mono ?_
      rintro e w2 ⟨rfl, t2⟩
      go_wp2_with fail
      go_ret
      refine ⟨rfl, ?_⟩
      rw [HB.out]
      exact hbel.trans (t2.mono (Nat.le_of_lt hr.lt))

set_option maxHeartbeats 400000 in
theorem walk_none (a0 : Int) (a1 : Option Addr) (cap1 : Nat) (w : World) :
    Calls Try.prog 5 #[.int .i64 a0, .slice a1 0 cap1] w fun e w' => e = .returned (.bool true) ∧ Below w.heap.size w w' := by
  have k0 : 0 ≤ IntKind.u64.wrap a0 := wrap_nonneg _
  go_enter Try.func5, Try.ntmps5
  go_wp2_with fail
  generalize hx0 : IntKind.u64.wrap a0 % 64 = x0 at *
  have b0 : 0 ≤ x0 ∧ x0 < 64 := by omega
  clear hx0 k0
  generalize hW : 1 + x0 = W at *
  have bW1 : 1 ≤ W := by omega
  have bW2 : W ≤ 64 := by omega
  clear hW b0
  have r0 := Rep.new w W
  have hb0 : Below w.heap.size w (w.alloc (.cells #[.int .i64 W, .int .i64 0, .int .u64 0, .int .i64 0] 48)) := (Below.refl _ _).alloc (Nat.le_refl _) _
  refine (new_some W _ bW1 bW2).mono ?_
  rintro e w' ⟨rfl, rfl⟩
  generalize hb : w.heap.size = b at *
  have HB := (show Hid (w.heap.size = b) from hb)
  clear hb
  generalize w.alloc (.cells #[.int .i64 W, .int .i64 0, .int .u64 0, .int .i64 0] 48) = w0 at *
  have hz := zero39
  go_wp2_with fail
  clear hz
  refine wp_loop_rounds 1 ?_
  rw [rounds_succ]
  have hb1 := hb0.alloc (Nat.le_of_lt r0.lt) (.cells zeros201 39)
  have hs : b ≤ (w0.alloc (.cells zeros201 39)).heap.size := by have := r0.lt; simp; omega
  generalize w0.alloc (.cells zeros201 39) = w1 at *
  clear hb0 r0
  go_wp2_with fail
  refine (told_any _).mono ?_
  rintro e w2 ⟨rfl, t2⟩
  go_wp2_with fail
  go_ret
  refine ⟨rfl, ?_⟩
  rw [HB.out]
  exact hb1.trans (t2.mono hs)

theorem walk (a0 : Int) (a1 : Option Addr) (len1 cap1 : Nat) (z1 : List Int) (w : World) (w0 : (Lit.int .i64 a0).wf = true) (w1 : IsRow .i64 w a1 len1 cap1 z1) :
    Calls Try.prog 5 #[.int .i64 a0, .slice a1 len1 cap1] w fun e w' => e = .returned (.bool true) ∧ Below w.heap.size w w' := by
  rcases w1.cases with rfl | ⟨xb, xo, rfl, hl, hxb, hc, _⟩
  · exact walk_none a0 a1 cap1 w
  · exact walk_some a0 xb xo len1 cap1 (fun i => z1.getD i 0) w hl hxb hc

/-! The row's step. -/
set_option maxRecDepth 100000 in
theorem lifted (os : Os) (started : os.Started) (H : Type) (enc : TypeId × Value → H) :
    ReturnsInHanded {} Try.checked os 5 .any (Rows.replayOnceSpec.pre6 enc Try.prog Try.f5 Rows.replayOnceRow.domain false) (Rows.replayOnceSpec.post enc Try.prog Try.f5 false true false false) := by
  refine returnsInHanded_of_change (C := Try.checked) own started (by kernel_rfl) Try.func5
    (ChangeSpec.witness6 (enc := enc) (C := Try.checked) false ⟨#[], #[.int .i64 0, .slice none 0 0], []⟩ 8 (by kernel_rfl) (by kernel_rfl) (by kernel_rfl) (by kernel_rfl)) ?_
  intro W base args ds gs before hval0 hW hcnd _
  have hval : ∀ (j : Nat) t v, Try.f5.params[j]? = some t → args[j]? = some v → Value.okWide Try.prog W .any base t v := hval0
  have hW' := hW
  obtain ⟨p, q, hA0, hV, rfl, hfz, hnd⟩ := hW
  have hA : DataW.TrodAll enc Try.prog W 0 (fun _ => true) true Try.f5.params.toList args.toList ds p := hA0
  rw [Try.params5] at hA hval
  obtain ⟨v0, vs0, d0, ds0, p0, q0, hargs, rfl, rfl, h0, r0⟩ := trodAll_cons hA
  obtain ⟨v1, vs1, d1, ds1, p1, q1, rfl, rfl, rfl, h1, r1⟩ := trodAll_cons r0
  obtain ⟨rfl, rfl, rfl⟩ := trodAll_nil r1
  obtain rfl : args = #[v0, v1] := by cases args; simp_all
  obtain ⟨rfl, rfl⟩ := trodVars_none hV
  obtain ⟨a0, rfl, rfl, rfl, w0⟩ := open_int Try.underlying3 (hval 0 3 v0 rfl rfl) h0
  obtain ⟨a1, len1, cap1, rfl⟩ := okWide_slice Try.underlying22 (hval 1 22 v1 rfl rfl)
  have k1 := h1
  have lt1 : ∀ x ∈ p1, x.block < W.heap.size := by obtain ⟨m, hm⟩ := k1; exact DataW.trod_lt m _ _ _ hm
  obtain ⟨z1, w1⟩ : ∃ zs, IsRow .i64 W a1 len1 cap1 zs := by
    obtain ⟨fuel, hf⟩ := h1
    rcases open_ints Try.underlying22 Try.underlying2 (by kernel_rfl) hf with ⟨hcs, _⟩ | ⟨x, l, c, zs, hcs, _, hl, hm, hz, _, hcell, hwz⟩
    · simp [Value.cells] at hcs
      obtain ⟨rfl, rfl, rfl⟩ := hcs
      exact ⟨[], .inl ⟨rfl, rfl, rfl, rfl⟩⟩
    · simp [Value.cells] at hcs
      obtain ⟨rfl, rfl, rfl⟩ := hcs
      exact ⟨zs, .inr ⟨_, rfl, hl, hm, by simpa using hz, hcell, hwz⟩⟩
  clear hA0 hval0
  refine (walk a0 a1 len1 cap1 z1 W w0 w1).mono fun e W' ⟨he, bel⟩ => ?_
  subst he
  exact ⟨_, rfl, _, _, _, [], _, [], hW', trodAll_mk1 (shut_bool Try.underlying4 _), (trodAll_cons_mk (shut_int Try.underlying3 w0) (trodAll_cons_mk (Below.trod laidOut (by kernel_rfl) (of_decide_eq_true (by kernel_rfl)) k1 bel lt1) trodAll_mk0)), rfl, bel.frame _, fun h => by cases h⟩

theorem over : Rows.replayOnceRow.holds Try.pinned (OpenSpec.ofChange Rows.replayOnceSpec) :=
  OpenClaim.holds_of_wide 5 Try.f5 rfl rfl rfl rfl rfl rfl rfl ⟨rfl, rfl, rfl, rfl, rfl⟩ rfl rfl rfl rfl rfl (by kernel_rfl) Try.func5 (by kernel_rfl)
    (of_decide_eq_true (by kernel_rfl)) (by unfold Func.isWrapper; first | (rw [if_pos (by decide +kernel)]; kernel_rfl) | (rw [if_neg (by decide +kernel)]; exact ⟨rfl, rfl⟩))
    (fun os started H enc _ => lifted os started H enc)

theorem proved : Rows.ReplayOnceSaid := over
#print axioms proved
end Go.Proofs.Ytnpkgmchagkdmaa.replayOnce
