/-
  The law PoolFull answers true at every input and leaves what was there as it was; no condition.
-/
import Derived.Test.YtajafcbnhcncoaaTold
import Derived.WalkKit
import Derived.Deep.CutBlock
import Derived.Deep.DeepCutAuto
import Derived.Deep.OwnRows
import Derived.ProofKit
import Derived.OpenShut
import Derived.ShutString
namespace Go.Proofs.Ytajafcbnhcncoaa.poolFull
open Go.ChangeShapes Go.WideShapes Go.ChangeAt Go.RowKit
open Go.ChangeMaps (open_string shut_string)
set_option linter.unusedVariables false

theorem own : ownKnob Try.prog.godebug = none := by kernel_rfl

/-- At each round's head. -/
def Rel1 (w : World) (b : Nat) (n : Int) (v : Value) (wr : World) : Prop :=
  ∃ (k : Nat) (L : List (List Int)), (k : Int) ≤ n ∧ v = .int .i64 (k : Int) ∧ One wr b n L ∧ L.length = k ∧ Below b w wr

set_option maxRecDepth 100000 in
set_option maxHeartbeats 4000000 in
theorem walk (a0 : Int) (w0 : (Lit.int .i64 a0).wf = true) (w : World) :
    Calls Try.prog 6 #[.int .i64 a0] w fun e w' => e = .returned (.bool true) ∧ Below w.heap.size w w' := by
  have k0 : 0 ≤ IntKind.u64.wrap a0 := wrap_nonneg _
  clear w0
  go_enter Try.func6, Try.ntmps6
  go_wp2_with fail
  generalize hn : 1 + IntKind.u64.wrap a0 % 40 = n at *
  have hn1 : 1 ≤ n := by omega
  have hn2 : n ≤ 40 := by omega
  clear hn k0
  have hb0 := (Below.refl w.heap.size w).alloc (Nat.le_refl _) (.cells #[.int .i64 n, .slice none 0 0, .int .i64 0] 56)
  have p0 := One.new w (lim := n) (by omega)
  refine (new_some n _ hn1 (by omega)).mono ?_
  rintro e w' ⟨rfl, rfl⟩
  generalize hb : w.heap.size = b at *
  have HB := (show Hid (w.heap.size = b) from hb)
  clear hb
  generalize w.alloc (.cells #[.int .i64 n, .slice none 0 0, .int .i64 0] 56) = w0 at *
  have R1 := Lib.hid (show Rel1 w b n (.int .i64 0) w0 from ⟨0, [], by omega, rfl, p0, rfl, hb0⟩)
  clear p0 hb0
  go_wp2_with fail
  go_loopw [5] (fun v wr => Rel1 w b n v wr) (fun i _ => n.toNat - (intOf i).toNat)
  case atStart => exact R1.out
  case round =>
    clear R1
    obtain ⟨k, L, hk, rfl, hone, hlen, hbel⟩ := hrel
    have HT := Lib.hid hone
    have HLEN := Lib.hid hlen
    have HBEL := Lib.hid hbel
    clear hone hbel hlen
    by_cases hlt : (k : Int) < n
    · have hc : putCode n L = 0 := if_neg (by rw [HLEN.out]; omega)
      have hp : putL n L [1] = L ++ [[1]] := if_neg (by rw [HLEN.out]; omega)
      have HC := Lib.hid hc
      have HP := Lib.hid hp
      clear hc hp
      go_wp2_with fail
      refine (one_put_lit b n L [1] _ _ wr HT.out rfl (by simp)).mono ?_
      rw [HC.out, HP.out]
      rintro e w2 ⟨rfl, t2, b2, _⟩
      have HT2 := Lib.hid t2
      have HB2 := Lib.hid (HBEL.out.trans b2)
      clear t2 b2
      go_wp2_with fail
      go_roundw
      case rel =>
        first
          | exact ⟨k + 1, _, by omega, by go_num, HT2.out, by simp [HLEN.out], HB2.out⟩
          | ((repeat apply Exists.intro); exact ⟨⟨k + 1, _, by omega, by go_num, HT2.out, by simp [HLEN.out], HB2.out⟩, rfl⟩)
      case measure => simp [intOf]; omega
    · have hkn : (k : Int) = n := by omega
      have hc : putCode n L = 9 := if_pos (by rw [HLEN.out]; omega)
      have hp : ∀ x, putL n L x = L := fun x => if_pos (by rw [HLEN.out]; omega)
      have hne : L ≠ [] := fun e => by have := HLEN.out; rw [e] at this; simp at this; omega
      have hat := at_lt (i := 0) hne
      have hl2 : (L.eraseIdx (at_ L 0)).length + 1 = k := by rw [List.length_eraseIdx_of_lt hat, HLEN.out]; have := HLEN.out; omega
      have HC := Lib.hid hc
      have HP := Lib.hid hp
      have HL2 := Lib.hid hl2
      have hc3 : putCode n (L.eraseIdx (at_ L 0)) = 0 := if_neg (by omega)
      have hp3 : ((putL n (L.eraseIdx (at_ L 0)) [3]).length : Int) = n := by
        unfold putL
        rw [if_neg (by omega)]
        simp
        omega
      have HC3 := Lib.hid hc3
      have HP3 := Lib.hid hp3
      have HNE := Lib.hid hne
      clear hc hp hc3 hp3 hl2 hne hat
      go_wp2_with fail
      refine (one_put_lit b n L [2] _ _ wr HT.out rfl (by simp)).mono ?_
      rw [HC.out, HP.out]
      rintro e w2 ⟨rfl, t2, b2, _⟩
      have HT2 := Lib.hid t2
      have HB2 := Lib.hid (HBEL.out.trans b2)
      clear t2 b2 HT HBEL
      go_wp2_with fail
      refine (one_copy b b n L 0 w2 HT2.out HNE.out (by omega) (Nat.le_refl _)).mono ?_
      rw [HC.out, HP.out]
      rintro e w3 ⟨rfl, t3, b3, _⟩
      have HT3 := Lib.hid t3
      have HB3 := Lib.hid (HB2.out.trans b3)
      clear t3 b3 HT2 HB2
      go_wp2_with fail
      refine (one_take b b n L 0 w3 HT3.out HNE.out (by omega) (Nat.le_refl _)).mono ?_
      rintro e w4 ⟨⟨v4, rfl, o4⟩, t4, b4, _⟩
      have HT4 := Lib.hid t4
      have HB4 := Lib.hid (HB3.out.trans b4)
      clear t4 b4 o4 HT3 HB3
      go_wp2_with fail
      refine (told_any w4).mono ?_
      rintro e w5 ⟨rfl, b5⟩
      have HT5 := Lib.hid (HT4.out.below b5)
      have HB5 := Lib.hid (HB4.out.trans (b5.mono (Nat.le_of_lt HT4.out.lt)))
      clear b5 HT4 HB4
      go_wp2_with fail
      refine (one_put_lit b n (L.eraseIdx (at_ L 0)) [3] _ _ w5 HT5.out rfl (by simp)).mono ?_
      rw [HC3.out]
      rintro e w6 ⟨rfl, t6, b6, _⟩
      have HT6 := Lib.hid t6
      have HB6 := Lib.hid (HB5.out.trans b6)
      clear t6 b6 HT5 HB5
      go_wp2_with fail
      refine (one_len b n _ w6 HT6.out).mono ?_
      rw [HP3.out]
      rintro e w7 ⟨rfl, rfl⟩
      go_wp2_with fail
      go_ret
      refine ⟨rfl, ?_⟩
      rw [HB.out]
      exact HB6.out

/-! The row's step. -/
set_option maxRecDepth 100000 in
theorem lifted (os : Os) (started : os.Started) (H : Type) (enc : TypeId × Value → H) :
    ReturnsInHanded {} Try.checked os 6 .any (Rows.poolFullSpec.pre6 enc Try.prog Try.f6 Rows.poolFullRow.domain false) (Rows.poolFullSpec.post enc Try.prog Try.f6 false true false false) := by
  refine returnsInHanded_of_change (C := Try.checked) own started (by kernel_rfl) Try.func6
    (ChangeSpec.witness6 (enc := enc) (C := Try.checked) false ⟨#[], #[.int .i64 0], []⟩ 8 (by kernel_rfl) (by kernel_rfl) (by kernel_rfl) (by kernel_rfl)) ?_
  intro W base args ds gs before hval0 hW hcnd _
  have hval : ∀ (j : Nat) t v, Try.f6.params[j]? = some t → args[j]? = some v → Value.okWide Try.prog W .any base t v := hval0
  have hW' := hW
  obtain ⟨p, q, hA0, hV, rfl, hfz, hnd⟩ := hW
  have hA : DataW.TrodAll enc Try.prog W 0 (fun _ => true) true Try.f6.params.toList args.toList ds p := hA0
  rw [Try.params6] at hA hval
  obtain ⟨v0, vs0, d0, ds0, p0, q0, hargs, rfl, rfl, h0, r0⟩ := trodAll_cons hA
  obtain ⟨rfl, rfl, rfl⟩ := trodAll_nil r0
  obtain rfl : args = #[v0] := by cases args; simp_all
  obtain ⟨rfl, rfl⟩ := trodVars_none hV
  obtain ⟨a0, rfl, rfl, rfl, w0⟩ := open_int Try.underlying3 (hval 0 3 v0 rfl rfl) h0
  clear hA0 hval0
  simp only [List.append_nil] at hW'
  refine (walk a0 w0 W).mono fun e W' ⟨he, bel⟩ => ?_
  subst he
  exact ⟨_, rfl, _, _, _, [], [], [], hW', (trodAll_cons_mk (shut_bool Try.underlying4 _) trodAll_mk0), (trodAll_cons_mk (shut_int Try.underlying3 w0) trodAll_mk0), rfl, bel.frame _, fun h => by cases h⟩

theorem over : Rows.poolFullRow.holds Try.pinned (OpenSpec.ofChange Rows.poolFullSpec) :=
  OpenClaim.holds_of_wide 6 Try.f6 rfl rfl rfl rfl rfl rfl rfl ⟨rfl, rfl, rfl, rfl, rfl⟩ rfl rfl rfl rfl rfl (by kernel_rfl) Try.func6 (by kernel_rfl)
    (of_decide_eq_true (by kernel_rfl)) (by unfold Func.isWrapper; first | (rw [if_pos (by decide +kernel)]; kernel_rfl) | (rw [if_neg (by decide +kernel)]; exact ⟨rfl, rfl⟩))
    (fun os started H enc _ => lifted os started H enc)

theorem proved : Rows.PoolFullSaid :=
  over
#print axioms proved
end Go.Proofs.Ytajafcbnhcncoaa.poolFull
