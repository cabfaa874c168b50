/-
  The law SectorTears answers true at every input and leaves what was there as it was; no condition.
-/
import Derived.Test.YtggdaepflcjmfaaDisk
import Derived.WalkKit
import Derived.Deep.DeepCutAuto
import Derived.Deep.CutBlock
import Derived.Deep.OwnRows
import Derived.ProofKit
import Derived.OpenShut
import Derived.ShutString
namespace Go.Proofs.Ytggdaepflcjmfaa.sectorTears
open Go.ChangeShapes Go.WideShapes Go.ChangeAt Go.RowKit
open Go.ChangeMaps (open_string shut_string)
set_option linter.unusedVariables false

theorem own : ownKnob Try.prog.godebug = none := by kernel_rfl

theorem torn_get (c d : Int) {n j : Nat} (hj : j < 64) (hn : n ≤ 64) : ((full c).take n ++ (full d).drop n).getD j 0 = if j < n then c else d := by
  have hl : ((full c).take n).length = n := by simp [full]; omega
  rw [List.getD_eq_getElem?_getD]
  by_cases h : j < n
  · rw [if_pos h, List.getElem?_append_left (by omega), List.getElem?_take_of_lt h, ← List.getD_eq_getElem?_getD]
    exact full_get c hj
  · rw [if_neg h, List.getElem?_append_right (by omega), hl, List.getElem?_drop, show n + (j - n) = j by omega, ← List.getD_eq_getElem?_getD]
    exact full_get d hj

set_option maxRecDepth 100000 in
set_option maxHeartbeats 4000000 in
theorem walk (a0 : Int) (a1 : Int) (a2 : Bool) (w0 : (Lit.int .i64 a0).wf = true) (w1 : (Lit.int .i64 a1).wf = true) (w : World) :
    Calls Try.prog 3 #[.int .i64 a0, .int .i64 a1, .bool a2] w fun e w' => e = .returned (.bool true) ∧ Below w.heap.size w w' := by
  have k0 : 0 ≤ IntKind.u64.wrap a0 := wrap_nonneg _
  have k1 : 0 ≤ IntKind.u64.wrap a1 := wrap_nonneg _
  clear w0 w1
  cases a2
  · go_enter Try.func3, Try.ntmps3
    go_wp2_with fail
    refine (d_new 2 w (by omega) (by omega)).mono ?_
    rintro y w1 ⟨rfl, e, r1⟩
    rw [show List.replicate (Int.toNat 2) (full 0) = [full 0, full 0] from rfl] at r1
    generalize hb : w.heap.size = b at *
    have HB := (show Hid (w.heap.size = b) from hb)
    clear hb
    have R1 := Lib.hid r1
    clear r1
    go_wp2_with fail
    generalize hm : IntKind.u64.wrap a0 % 65 = m at *
    obtain ⟨n, hn, hn64⟩ : ∃ n : Nat, IntKind.u64.wrap a1 % 65 = (n : Int) ∧ n ≤ 64 := ⟨(IntKind.u64.wrap a1 % 65).toNat, by omega, by omega⟩
    rw [hn]
    clear hn hm k0 k1
    refine (d_tear m R1.out).mono ?_
    rintro y w2 ⟨rfl, r2, _⟩
    have R2 := Lib.hid r2
    clear r2 R1
    go_wp2_with fail
    refine (d_tear (n : Int) R2.out).mono ?_
    rintro y w3 ⟨rfl, r3, _⟩
    rw [show clampT (n : Int) = (n : Int) by unfold clampT; rw [if_neg (by omega), if_neg (by omega)]] at r3
    have R3 := Lib.hid r3
    clear r3 R2
    go_wp2_with fail
    refine (d_filled 1 R3.out).mono ?_
    rintro y w4 ⟨s4, rfl, r4, g4, b4⟩
    have R4 := Lib.hid r4
    clear r4 R3 g4 b4
    go_wp2_with fail
    refine (write_bad b e n 0 _ 2 _ 64 64 w4 R4.out.1 (by simp)).mono ?_
    rintro y w5 ⟨rfl, rfl⟩
    go_wp2_with fail
    refine (write_bad b e n 0 _ 0 none 0 0 w5 R4.out.1 (by simp)).mono ?_
    rintro y w6 ⟨rfl, rfl⟩
    go_wp2_with fail
    refine (d_filled 9 R4.out).mono ?_
    rintro y w8 ⟨s8, rfl, r8, g8, _⟩
    have R8 := Lib.hid r8
    have G8 := Lib.hid g8
    clear r8 g8 R4
    go_wp2_with fail
    refine (d_torn 1 s8 64 n _ R8.out hn64 (by omega) (by omega) (by simp) G8.out).mono ?_
    rintro y w9 ⟨rfl, r9, _⟩
    obtain ⟨L9, hL9⟩ : ∃ L, ([full 0, full 0] : List (List Int)).set 1 ((full 9).take n ++ (([full 0, full 0] : List (List Int)).getD 1 []).drop n) = L := ⟨_, rfl⟩
    rw [hL9] at r9
    have HL9 := Lib.hid (show L9.length = 2 from by rw [← hL9]; rfl)
    obtain ⟨N, hN⟩ : ∃ N : Nat, N = n := ⟨_, rfl⟩
    have HG9 := Lib.hid (show ∀ j, j < 64 → (L9.getD 1 []).getD j 0 = if j < N then 9 else 0 from fun j hj => by
      rw [← hL9, hN]
      show ((full 9).take n ++ (full 0).drop n).getD j 0 = _
      exact torn_get 9 0 hj hn64)
    have HN := Lib.hid hN
    have hN64 : N ≤ 64 := by omega
    clear hL9 hN
    have R9 := Lib.hid r9
    clear r9 R8 G8
    go_wp2_with fail
    refine (d_read 1 R9.out (by rw [HL9.out]; omega)).mono ?_
    rintro y wA ⟨g, c, rfl, rA, gA, _⟩
    have RA := Lib.hid rA
    have HC := Lib.hid (show ∀ j, j < 64 → wA.cell? ⟨g, j, none⟩ = some (.int .u8 (if j < N then 9 else 0)) from fun j hj => by rw [gA.cell hj, HG9.out j hj])
    clear rA gA R9
    go_wp2_with fail
    go_loop [15, 16] (fun v v' => ∃ i : Nat, i ≤ 64 ∧ v' = .int .i64 (i : Int) ∧ v = .int .i64 ((min i N : Nat) : Int)) (fun _ v' => 64 - (intOf v').toNat)
    case atStart => exact ⟨0, by omega, rfl, by simp⟩
    case round =>
      obtain ⟨i, hi, rfl, rfl⟩ := hrel
      by_cases hlt : i < 64
      · have hc := HC.out i hlt
        by_cases hN9 : i < N
        · rw [if_pos hN9] at hc
          have HE := Lib.hid (show ((min (i + 1) N : Nat) : Int) = ((min i N : Nat) : Int) + 1 by omega)
          have hmin : ((min i N : Nat) : Int) ≤ 64 := by omega
          have hmin0 : 0 ≤ ((min i N : Nat) : Int) := by omega
          generalize min i N = mi at *
          go_wp2_with fail
          go_round
          case rel => exact ⟨i + 1, by omega, by go_num, by rw [HE.out]⟩
          case measure => simp [intOf]; omega
        · rw [if_neg hN9] at hc
          have HE := Lib.hid (show min (i + 1) N = min i N by omega)
          generalize min i N = mi at *
          go_wp2_with fail
          go_round
          case rel => exact ⟨i + 1, by omega, by go_num, by rw [HE.out]⟩
          case measure => simp [intOf]; omega
      · have hmn : min i N = N := by omega
        rw [hmn]
        have hi64 : i = 64 := by omega
        clear hmn HC
        go_wp2_with fail
        refine (d_told RA.out).mono ?_
        rintro y wB ⟨rfl, rB, _⟩
        have RB := Lib.hid rB
        clear rB RA
        rw [HN.out]
        go_wp2_with fail
        refine (down_any b e _ _ _ _ wB RB.out.1).mono ?_
        rintro y wC ⟨rfl, rfl⟩
        go_wp2_with fail
        refine (writes_any b e _ _ _ _ wC RB.out.1).mono ?_
        rintro y wD ⟨rfl, rfl⟩
        go_wp2_with fail
        go_ret
        refine ⟨rfl, ?_⟩
        rw [HB.out]
        exact RB.out.2.1
  · go_enter Try.func3, Try.ntmps3
    go_wp2_with fail
    refine (d_new 2 w (by omega) (by omega)).mono ?_
    rintro y w1 ⟨rfl, e, r1⟩
    rw [show List.replicate (Int.toNat 2) (full 0) = [full 0, full 0] from rfl] at r1
    generalize hb : w.heap.size = b at *
    have HB := (show Hid (w.heap.size = b) from hb)
    clear hb
    have R1 := Lib.hid r1
    clear r1
    go_wp2_with fail
    generalize hm : IntKind.u64.wrap a0 % 65 = m at *
    obtain ⟨n, hn, hn64⟩ : ∃ n : Nat, IntKind.u64.wrap a1 % 65 = (n : Int) ∧ n ≤ 64 := ⟨(IntKind.u64.wrap a1 % 65).toNat, by omega, by omega⟩
    rw [hn]
    clear hn hm k0 k1
    refine (d_tear m R1.out).mono ?_
    rintro y w2 ⟨rfl, r2, _⟩
    have R2 := Lib.hid r2
    clear r2 R1
    go_wp2_with fail
    refine (d_tear (n : Int) R2.out).mono ?_
    rintro y w3 ⟨rfl, r3, _⟩
    rw [show clampT (n : Int) = (n : Int) by unfold clampT; rw [if_neg (by omega), if_neg (by omega)]] at r3
    have R3 := Lib.hid r3
    clear r3 R2
    go_wp2_with fail
    refine (d_filled 1 R3.out).mono ?_
    rintro y w4 ⟨s4, rfl, r4, g4, b4⟩
    have R4 := Lib.hid r4
    clear r4 R3 g4 b4
    go_wp2_with fail
    refine (write_bad b e n 0 _ 2 _ 64 64 w4 R4.out.1 (by simp)).mono ?_
    rintro y w5 ⟨rfl, rfl⟩
    go_wp2_with fail
    refine (write_bad b e n 0 _ 0 none 0 0 w5 R4.out.1 (by simp)).mono ?_
    rintro y w6 ⟨rfl, rfl⟩
    go_wp2_with fail
    refine (d_up R4.out).mono ?_
    rintro y w7 ⟨rfl, r7, _⟩
    have R7 := Lib.hid r7
    clear r7 R4
    go_wp2_with fail
    refine (d_filled 9 R7.out).mono ?_
    rintro y w8 ⟨s8, rfl, r8, g8, _⟩
    have R8 := Lib.hid r8
    have G8 := Lib.hid g8
    clear r8 g8 R7
    go_wp2_with fail
    refine (d_ok 1 s8 64 _ R8.out (by omega) (by omega) (by simp) G8.out).mono ?_
    rintro y w9 ⟨rfl, r9, _⟩
    obtain ⟨L9, hL9⟩ : ∃ L, ([full 0, full 0] : List (List Int)).set 1 (full 9) = L := ⟨_, rfl⟩
    rw [hL9] at r9
    have HL9 := Lib.hid (show L9.length = 2 from by rw [← hL9]; rfl)
    obtain ⟨N, hN⟩ : ∃ N : Nat, N = 64 := ⟨_, rfl⟩
    have HG9 := Lib.hid (show ∀ j, j < 64 → (L9.getD 1 []).getD j 0 = if j < N then 9 else 0 from fun j hj => by
      rw [← hL9, if_pos (by omega)]
      show (full 9).getD j 0 = 9
      exact full_get 9 hj)
    have HN := Lib.hid hN
    have hN64 : N ≤ 64 := by omega
    clear hL9 hN
    have R9 := Lib.hid r9
    clear r9 R8 G8
    go_wp2_with fail
    refine (d_read 1 R9.out (by rw [HL9.out]; omega)).mono ?_
    rintro y wA ⟨g, c, rfl, rA, gA, _⟩
    have RA := Lib.hid rA
    have HC := Lib.hid (show ∀ j, j < 64 → wA.cell? ⟨g, j, none⟩ = some (.int .u8 (if j < N then 9 else 0)) from fun j hj => by rw [gA.cell hj, HG9.out j hj])
    clear rA gA R9
    go_wp2_with fail
    go_loop [15, 16] (fun v v' => ∃ i : Nat, i ≤ 64 ∧ v' = .int .i64 (i : Int) ∧ v = .int .i64 ((min i N : Nat) : Int)) (fun _ v' => 64 - (intOf v').toNat)
    case atStart => exact ⟨0, by omega, rfl, by simp⟩
    case round =>
      obtain ⟨i, hi, rfl, rfl⟩ := hrel
      by_cases hlt : i < 64
      · have hc := HC.out i hlt
        by_cases hN9 : i < N
        · rw [if_pos hN9] at hc
          have HE := Lib.hid (show ((min (i + 1) N : Nat) : Int) = ((min i N : Nat) : Int) + 1 by omega)
          have hmin : ((min i N : Nat) : Int) ≤ 64 := by omega
          have hmin0 : 0 ≤ ((min i N : Nat) : Int) := by omega
          generalize min i N = mi at *
          go_wp2_with fail
          go_round
          case rel => exact ⟨i + 1, by omega, by go_num, by rw [HE.out]⟩
          case measure => simp [intOf]; omega
        · rw [if_neg hN9] at hc
          have HE := Lib.hid (show min (i + 1) N = min i N by omega)
          generalize min i N = mi at *
          go_wp2_with fail
          go_round
          case rel => exact ⟨i + 1, by omega, by go_num, by rw [HE.out]⟩
          case measure => simp [intOf]; omega
      · have hmn : min i N = N := by omega
        rw [hmn]
        have hi64 : i = 64 := by omega
        clear hmn HC
        go_wp2_with fail
        refine (d_told RA.out).mono ?_
        rintro y wB ⟨rfl, rB, _⟩
        have RB := Lib.hid rB
        clear rB RA
        rw [HN.out]
        go_wp2_with fail
        refine (down_any b e _ _ _ _ wB RB.out.1).mono ?_
        rintro y wC ⟨rfl, rfl⟩
        go_wp2_with fail
        go_ret
        refine ⟨rfl, ?_⟩
        rw [HB.out]
        exact RB.out.2.1

/-! The row's step. -/
set_option maxRecDepth 100000 in
theorem lifted (os : Os) (started : os.Started) (H : Type) (enc : TypeId × Value → H) :
    ReturnsInHanded {} Try.checked os 3 .any (Rows.sectorTearsSpec.pre6 enc Try.prog Try.f3 Rows.sectorTearsRow.domain false) (Rows.sectorTearsSpec.post enc Try.prog Try.f3 false true false false) := by
  refine returnsInHanded_of_change (C := Try.checked) own started (by kernel_rfl) Try.func3
    (ChangeSpec.witness6 (enc := enc) (C := Try.checked) false ⟨#[], #[.int .i64 0, .int .i64 0, .bool false], []⟩ 8 (by kernel_rfl) (by kernel_rfl) (by kernel_rfl) (by kernel_rfl)) ?_
  intro W base args ds gs before hval0 hW hcnd _
  have hval : ∀ (j : Nat) t v, Try.f3.params[j]? = some t → args[j]? = some v → Value.okWide Try.prog W .any base t v := hval0
  have hW' := hW
  obtain ⟨p, q, hA0, hV, rfl, hfz, hnd⟩ := hW
  have hA : DataW.TrodAll enc Try.prog W 0 (fun _ => true) true Try.f3.params.toList args.toList ds p := hA0
  rw [Try.params3] at hA hval
  obtain ⟨v0, vs0, d0, ds0, p0, q0, hargs, rfl, rfl, h0, r0⟩ := trodAll_cons hA
  obtain ⟨v1, vs1, d1, ds1, p1, q1, rfl, rfl, rfl, h1, r1⟩ := trodAll_cons r0
  obtain ⟨v2, vs2, d2, ds2, p2, q2, rfl, rfl, rfl, h2, r2⟩ := trodAll_cons r1
  obtain ⟨rfl, rfl, rfl⟩ := trodAll_nil r2
  obtain rfl : args = #[v0, v1, v2] := by cases args; simp_all
  obtain ⟨rfl, rfl⟩ := trodVars_none hV
  obtain ⟨a0, rfl, rfl, rfl, w0⟩ := open_int Try.underlying3 (hval 0 3 v0 rfl rfl) h0
  obtain ⟨a1, rfl, rfl, rfl, w1⟩ := open_int Try.underlying3 (hval 1 3 v1 rfl rfl) h1
  obtain ⟨a2, rfl, rfl, rfl⟩ := open_bool Try.underlying4 (hval 2 4 v2 rfl rfl) h2
  clear hA0 hval0
  simp only [List.append_nil] at hW'
  refine (walk a0 a1 a2 w0 w1 W).mono fun e W' ⟨he, bel⟩ => ?_
  subst he
  exact ⟨_, rfl, _, _, _, [], [], [], hW', (trodAll_cons_mk (shut_bool Try.underlying4 _) trodAll_mk0), (trodAll_cons_mk (shut_int Try.underlying3 w0) (trodAll_cons_mk (shut_int Try.underlying3 w1) (trodAll_cons_mk (shut_bool Try.underlying4 _) trodAll_mk0))), rfl, bel.frame _, fun h => by cases h⟩

theorem over : Rows.sectorTearsRow.holds Try.pinned (OpenSpec.ofChange Rows.sectorTearsSpec) :=
  OpenClaim.holds_of_wide 3 Try.f3 rfl rfl rfl rfl rfl rfl rfl ⟨rfl, rfl, rfl, rfl, rfl⟩ rfl rfl rfl rfl rfl (by kernel_rfl) Try.func3 (by kernel_rfl)
    (of_decide_eq_true (by kernel_rfl)) (by unfold Func.isWrapper; first | (rw [if_pos (by decide +kernel)]; kernel_rfl) | (rw [if_neg (by decide +kernel)]; exact ⟨rfl, rfl⟩))
    (fun os started H enc _ => lifted os started H enc)

theorem proved : Rows.SectorTearsSaid :=
  over
#print axioms proved
end Go.Proofs.Ytggdaepflcjmfaa.sectorTears
