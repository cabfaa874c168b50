/-
  The law SectorTorn answers true at every input and leaves what was there as it was; no condition.
-/
import Derived.Test.YtggdaepflcjmfaaDisk
import Derived.WalkKit
import Derived.Deep.DeepCutAuto
import Derived.Deep.CutBlock
import Derived.Deep.OwnRows
import Derived.ProofKit
import Derived.OpenShut
import Derived.ShutString
namespace Go.Proofs.Ytggdaepflcjmfaa.sectorTorn
open Go.ChangeShapes Go.WideShapes Go.ChangeAt Go.RowKit
open Go.ChangeMaps (open_string shut_string)
set_option linter.unusedVariables false

theorem own : ownKnob Try.prog.godebug = none := by kernel_rfl

theorem torn_get (c d : Int) {n j : Nat} (hj : j < 64) (hn : n ≤ 64) : ((full c).take n ++ (full d).drop n).getD j 0 = if j < n then c else d := by
  have hl : ((full c).take n).length = n := by simp [full]; omega
  rw [List.getD_eq_getElem?_getD]
  by_cases h : j < n
  · rw [if_pos h, List.getElem?_append_left (by omega), List.getElem?_take_of_lt h, ← List.getD_eq_getElem?_getD]
    exact full_get c hj
  · rw [if_neg h, List.getElem?_append_right (by omega), hl, List.getElem?_drop, show n + (j - n) = j by omega, ← List.getD_eq_getElem?_getD]
    exact full_get d hj

/-- While the sectors are filled. -/
def fiveL (a : Int) (k : Nat) : List (List Int) := List.replicate k (full a) ++ List.replicate (5 - k) (full 0)
theorem fiveL_length (a : Int) {k : Nat} (h : k ≤ 5) : (fiveL a k).length = 5 := by simp [fiveL]; omega
theorem fiveL_set (a : Int) {k : Nat} (h : k < 5) : (fiveL a k).set k (full a) = fiveL a (k + 1) := by
  apply List.ext_getElem?
  intro i
  unfold fiveL
  rw [List.getElem?_set]
  by_cases hi : k = i
  · subst hi
    rw [if_pos rfl, if_pos (by simp; omega), List.getElem?_append_left (by simp)]
    simp
  · rw [if_neg hi]
    simp only [List.getElem?_append, List.length_replicate, List.getElem?_replicate]
    by_cases h1 : i < k
    · rw [if_pos h1, if_pos h1, if_pos (by omega), if_pos (by omega)]
    · rw [if_neg h1, if_neg (by omega : ¬ i < k + 1)]
      by_cases h2 : i < 5
      · rw [if_pos (by omega), if_pos (by omega)]
      · rw [if_neg (by omega), if_neg (by omega)]
theorem fiveL_get (a : Int) {i : Nat} (h : i < 5) : (fiveL a 5).getD i [] = full a := by
  unfold fiveL
  rw [List.getD_eq_getElem?_getD, List.getElem?_append_left (by simpa using h), List.getElem?_replicate, if_pos h]
  rfl

def Rel1 (w : World) (b e : Nat) (a : Int) (v : Value) (wr : World) : Prop := ∃ i : Nat, i ≤ 5 ∧ v = .int .i64 (i : Int) ∧ D w wr b e (-1) false (i : Int) (fiveL a i)
def Rel2 (w : World) (b e : Nat) (L : List (List Int)) (v : Value) (wr : World) : Prop := ∃ i : Nat, i ≤ 5 ∧ v = .int .i64 (i : Int) ∧ D w wr b e (-1) true 6 L

set_option maxRecDepth 100000 in
set_option maxHeartbeats 4000000 in
theorem walk (a0 : Int) (a1 : Int) (a2 : Int) (a3 : Int) (w0 : (Lit.int .u8 a0).wf = true) (w1 : (Lit.int .u8 a1).wf = true) (w2 : (Lit.int .i64 a2).wf = true) (w3 : (Lit.int .i64 a3).wf = true) (w : World) :
    Calls Try.prog 5 #[.int .u8 a0, .int .u8 a1, .int .i64 a2, .int .i64 a3] w fun e w' => e = .returned (.bool true) ∧ Below w.heap.size w w' := by
  have k0 : 0 ≤ IntKind.u64.wrap a3 := wrap_nonneg _
  clear w0 w1 w2 w3
  go_enter Try.func5, Try.ntmps5
  go_wp2_with fail
  refine (d_new 5 w (by omega) (by omega)).mono ?_
  rintro y w1 ⟨rfl, e, r1⟩
  rw [show List.replicate (Int.toNat 5) (full 0) = fiveL a0 0 from rfl] at r1
  generalize hb : w.heap.size = b at *
  have HB := (show Hid (w.heap.size = b) from hb)
  clear hb
  have R1 := Lib.hid (show Rel1 w b e a0 (.int .i64 0) w1 from ⟨0, by omega, rfl, r1⟩)
  clear r1
  go_wp2_with fail
  obtain ⟨k, hk, hk5⟩ : ∃ k : Nat, IntKind.u64.wrap a3 % 5 = (k : Int) ∧ k < 5 := ⟨(IntKind.u64.wrap a3 % 5).toNat, by omega, by omega⟩
  rw [hk]
  clear k0
  have HK := Lib.hid hk
  clear hk
  go_loopw [11] (fun v wr => Rel1 w b e a0 v wr) (fun v _ => 5 - (intOf v).toNat)
  case atStart => exact R1.out
  case round =>
    clear R1
    obtain ⟨i, hi, rfl, hd⟩ := hrel
    have HD := Lib.hid hd
    clear hd
    by_cases hlt : i < 5
    · go_wp2_with fail
      refine (d_filled a0 HD.out).mono ?_
      rintro y w2 ⟨s2, rfl, r2, g2, _⟩
      have R2 := Lib.hid r2
      have G2 := Lib.hid g2
      clear r2 g2 HD
      go_wp2_with fail
      refine (d_ok i s2 64 _ R2.out (by omega) (by omega) (by rw [fiveL_length a0 (by omega)]; exact hlt) G2.out).mono ?_
      rintro y w3 ⟨rfl, r3, _⟩
      rw [fiveL_set a0 hlt, show ((i : Int) + 1) = ((i + 1 : Nat) : Int) from by omega] at r3
      have R3 := Lib.hid r3
      clear r3 R2 G2
      go_wp2_with fail
      go_roundw
      case rel =>
        first
          | exact ⟨i + 1, by omega, by go_num, R3.out⟩
          | ((repeat apply Exists.intro); exact ⟨⟨i + 1, by omega, by go_num, R3.out⟩, rfl⟩)
      case measure => simp [intOf]; omega
    · obtain rfl : i = 5 := by omega
      clear hlt hi
      obtain ⟨tn, htn⟩ : ∃ tn : Nat, (tn : Int) = clampT a2 := ⟨(clampT a2).toNat, by have := clampT_le a2; omega⟩
      have ht64 : tn ≤ 64 := by have := clampT_le a2; omega
      have HTN := Lib.hid (show ∀ j : Nat, j < 64 → (j < tn ↔ (j : Int) < a2) from fun j hj => by unfold clampT at htn; split at htn <;> (try split at htn) <;> omega)
      go_wp2_with fail
      refine (d_tear a2 HD.out).mono ?_
      rintro y w4 ⟨rfl, r4, _⟩
      rw [← htn] at r4
      have R4 := Lib.hid r4
      clear r4 HD htn
      go_wp2_with fail
      refine (d_filled a1 R4.out).mono ?_
      rintro y w5 ⟨s5, rfl, r5, g5, _⟩
      have R5 := Lib.hid r5
      have G5 := Lib.hid g5
      clear r5 g5 R4
      go_wp2_with fail
      refine (d_torn k s5 64 tn _ R5.out ht64 (by omega) (by omega) (by rw [fiveL_length a0 (by omega)]; exact hk5) G5.out).mono ?_
      rintro y w6 ⟨rfl, r6, _⟩
      rw [fiveL_get a0 hk5] at r6
      obtain ⟨L, hL⟩ : ∃ L, (fiveL a0 5).set k ((full a1).take tn ++ (full a0).drop tn) = L := ⟨_, rfl⟩
      rw [hL] at r6
      have HLL := Lib.hid (show L.length = 5 from by rw [← hL, List.length_set, fiveL_length a0 (by omega)])
      have HLG := Lib.hid (show ∀ i, i < 5 → ∀ j, j < 64 → (L.getD i []).getD j 0 = if i = k ∧ j < tn then a1 else a0 from fun i hi j hj => by
        rw [← hL, List.getD_eq_getElem?_getD (l := (fiveL a0 5).set k _), List.getElem?_set]
        by_cases hik : k = i
        · subst hik
          rw [if_pos rfl, if_pos (by rw [fiveL_length a0 (by omega)]; exact hi)]
          show ((full a1).take tn ++ (full a0).drop tn).getD j 0 = _
          rw [torn_get a1 a0 hj ht64]
          simp
        · rw [if_neg hik, ← List.getD_eq_getElem?_getD, fiveL_get a0 hi, full_get a0 hj, if_neg (fun h => hik h.1.symm)])
      have R6 := Lib.hid (show Rel2 w b e L (.int .i64 0) w6 from ⟨0, by omega, rfl, r6⟩)
      clear r6 R5 G5 hL
      go_wp2_with fail
      go_loopw [13] (fun v wr => Rel2 w b e L v wr) (fun v _ => 5 - (intOf v).toNat)
      case atStart => exact R6.out
      case round =>
        clear R6
        obtain ⟨i, hi, rfl, hd⟩ := hrel
        have HD := Lib.hid hd
        clear hd
        by_cases hlt : i < 5
        · go_wp2_with fail
          refine (d_read i HD.out (by rw [HLL.out]; exact hlt)).mono ?_
          rintro y w7 ⟨g, c, rfl, r7, g7, _⟩
          have R7 := Lib.hid r7
          have HC := Lib.hid (show ∀ j, j < 64 → w7.cell? ⟨g, j, none⟩ = some (.int .u8 (if i = k ∧ j < tn then a1 else a0)) from fun j hj => by rw [g7.cell hj, HLG.out i hlt j hj])
          clear r7 g7 HD
          go_wp2_with fail
          go_loop [16] (fun v => ∃ j : Nat, j ≤ 64 ∧ v = .int .i64 (j : Int)) (fun v => 64 - (intOf v).toNat)
          case atStart => exact ⟨0, by omega, rfl⟩
          case round =>
            obtain ⟨j, hj, rfl⟩ := hrel
            by_cases hltj : j < 64
            · have hc := HC.out j hltj
              by_cases hik : i = k
              · subst hik
                by_cases hjt : j < tn
                · have hja := (HTN.out j hltj).1 hjt
                  rw [if_pos ⟨rfl, hjt⟩] at hc
                  go_wp2_with fail
                  go_round
                  case rel => exact ⟨j + 1, by omega, by go_num⟩
                  case measure => simp [intOf]; omega
                · have hja : a2 ≤ (j : Int) := by have := mt (HTN.out j hltj).2 hjt; omega
                  rw [if_neg (fun h => hjt h.2)] at hc
                  go_wp2_with fail
                  go_round
                  case rel => exact ⟨j + 1, by omega, by go_num⟩
                  case measure => simp [intOf]; omega
              · have hne : ((i : Int) == (k : Int)) = false := beq_eq_false_iff_ne.2 (by omega)
                rw [if_neg (fun h => hik h.1)] at hc
                clear hik
                go_wp2_with fail
                go_round
                case rel => exact ⟨j + 1, by omega, by go_num⟩
                case measure => simp [intOf]; omega
            · clear HC
              go_wp2_with fail
              go_roundw
              case rel =>
                first
                  | exact ⟨i + 1, by omega, by go_num, R7.out⟩
                  | ((repeat apply Exists.intro); exact ⟨⟨i + 1, by omega, by go_num, R7.out⟩, rfl⟩)
              case measure => simp [intOf]; omega
        · obtain rfl : i = 5 := by omega
          clear hlt hi
          go_wp2_with fail
          refine (d_told HD.out).mono ?_
          rintro y w8 ⟨rfl, r8, _⟩
          have R8 := Lib.hid r8
          clear r8 HD
          go_wp2_with fail
          refine (down_any b e _ _ _ _ w8 R8.out.1).mono ?_
          rintro y w9 ⟨rfl, rfl⟩
          go_wp2_with fail
          refine (d_filled 1 R8.out).mono ?_
          rintro y wA ⟨sA, rfl, rA, gA, _⟩
          have RA := Lib.hid rA
          clear rA gA R8
          go_wp2_with fail
          refine (write_down b e _ _ _ 0 _ wA RA.out.1).mono ?_
          rintro y wB ⟨rfl, rfl⟩
          go_wp2_with fail
          go_ret
          refine ⟨rfl, ?_⟩
          rw [HB.out]
          exact RA.out.2.1

/-! The row's step. -/
set_option maxRecDepth 100000 in
theorem lifted (os : Os) (started : os.Started) (H : Type) (enc : TypeId × Value → H) :
    ReturnsInHanded {} Try.checked os 5 .any (Rows.sectorTornSpec.pre6 enc Try.prog Try.f5 Rows.sectorTornRow.domain false) (Rows.sectorTornSpec.post enc Try.prog Try.f5 false true false false) := by
  refine returnsInHanded_of_change (C := Try.checked) own started (by kernel_rfl) Try.func5
    (ChangeSpec.witness6 (enc := enc) (C := Try.checked) false ⟨#[], #[.int .u8 0, .int .u8 0, .int .i64 0, .int .i64 0], []⟩ 8 (by kernel_rfl) (by kernel_rfl) (by kernel_rfl) (by kernel_rfl)) ?_
  intro W base args ds gs before hval0 hW hcnd _
  have hval : ∀ (j : Nat) t v, Try.f5.params[j]? = some t → args[j]? = some v → Value.okWide Try.prog W .any base t v := hval0
  have hW' := hW
  obtain ⟨p, q, hA0, hV, rfl, hfz, hnd⟩ := hW
  have hA : DataW.TrodAll enc Try.prog W 0 (fun _ => true) true Try.f5.params.toList args.toList ds p := hA0
  rw [Try.params5] at hA hval
  obtain ⟨v0, vs0, d0, ds0, p0, q0, hargs, rfl, rfl, h0, r0⟩ := trodAll_cons hA
  obtain ⟨v1, vs1, d1, ds1, p1, q1, rfl, rfl, rfl, h1, r1⟩ := trodAll_cons r0
  obtain ⟨v2, vs2, d2, ds2, p2, q2, rfl, rfl, rfl, h2, r2⟩ := trodAll_cons r1
  obtain ⟨v3, vs3, d3, ds3, p3, q3, rfl, rfl, rfl, h3, r3⟩ := trodAll_cons r2
  obtain ⟨rfl, rfl, rfl⟩ := trodAll_nil r3
  obtain rfl : args = #[v0, v1, v2, v3] := by cases args; simp_all
  obtain ⟨rfl, rfl⟩ := trodVars_none hV
  obtain ⟨a0, rfl, rfl, rfl, w0⟩ := open_int Try.underlying5 (hval 0 5 v0 rfl rfl) h0
  obtain ⟨a1, rfl, rfl, rfl, w1⟩ := open_int Try.underlying5 (hval 1 5 v1 rfl rfl) h1
  obtain ⟨a2, rfl, rfl, rfl, w2⟩ := open_int Try.underlying3 (hval 2 3 v2 rfl rfl) h2
  obtain ⟨a3, rfl, rfl, rfl, w3⟩ := open_int Try.underlying3 (hval 3 3 v3 rfl rfl) h3
  clear hA0 hval0
  simp only [List.append_nil] at hW'
  refine (walk a0 a1 a2 a3 w0 w1 w2 w3 W).mono fun e W' ⟨he, bel⟩ => ?_
  subst he
  exact ⟨_, rfl, _, _, _, [], [], [], hW', (trodAll_cons_mk (shut_bool Try.underlying4 _) trodAll_mk0), (trodAll_cons_mk (shut_int Try.underlying5 w0) (trodAll_cons_mk (shut_int Try.underlying5 w1) (trodAll_cons_mk (shut_int Try.underlying3 w2) (trodAll_cons_mk (shut_int Try.underlying3 w3) trodAll_mk0)))), rfl, bel.frame _, fun h => by cases h⟩

theorem over : Rows.sectorTornRow.holds Try.pinned (OpenSpec.ofChange Rows.sectorTornSpec) :=
  OpenClaim.holds_of_wide 5 Try.f5 rfl rfl rfl rfl rfl rfl rfl ⟨rfl, rfl, rfl, rfl, rfl⟩ rfl rfl rfl rfl rfl (by kernel_rfl) Try.func5 (by kernel_rfl)
    (of_decide_eq_true (by kernel_rfl)) (by unfold Func.isWrapper; first | (rw [if_pos (by decide +kernel)]; kernel_rfl) | (rw [if_neg (by decide +kernel)]; exact ⟨rfl, rfl⟩))
    (fun os started H enc _ => lifted os started H enc)

theorem proved : Rows.SectorTornSaid :=
  over
#print axioms proved
end Go.Proofs.Ytggdaepflcjmfaa.sectorTorn
