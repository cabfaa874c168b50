/-
  The law SectorReads answers true at every input and leaves what was there as it was; no condition.
-/
import Derived.Test.YtggdaepflcjmfaaDisk
import Derived.WalkKit
import Derived.Laws.BytesArg
import Derived.Deep.DeepCutAuto
import Derived.Deep.CutBlock
import Derived.Deep.OwnRows
import Derived.ProofKit
import Derived.OpenShut
import Derived.ShutString
namespace Go.Proofs.Ytggdaepflcjmfaa.sectorReads
open Go.ChangeShapes Go.WideShapes Go.ChangeAt Go.RowKit
open Go.ChangeMaps (open_string shut_string)
set_option linter.unusedVariables false

theorem own : ownKnob Try.prog.godebug = none := by kernel_rfl

/-- Bytes as a string, whatever they lie in. -/
theorem bvals_str {w : World} {v : Value} {x : List Int} (h : BVals w v x) : (convert 27 9 v).run Try.prog w = .ok (.string (strOfNums x)) w := by
  rcases h with ⟨rfl, rfl⟩ | ⟨ad, cap, rfl, rfl⟩ | ⟨g, o, cap, rfl, _, _, hc⟩
  · exact run_convert_bytes_nil (P := Try.prog) w 27 5 Try.underlying27 Try.underlying5 0 0 9 Try.underlying9
  · rw [run_convert_bytes_string w 27 9 5 _ _ _ Try.underlying27 Try.underlying5 Try.underlying9]
    simp [Conv.bytesToString, loadCells, loadCellsFrom, strOfNums]
    rfl
  · exact run_convert_bytes_arg (P := Try.prog) w 27 5 Try.underlying27 Try.underlying5 g o x.length cap x rfl hc 9 Try.underlying9

theorem xor_back {a t : Int} (h1 : 0 ≤ a) (h2 : a < 256) (h3 : 0 ≤ t) (h4 : t < 256) : xorB (xorB a t) t = a := by
  obtain ⟨x, rfl⟩ := Int.eq_ofNat_of_zero_le h1
  obtain ⟨y, rfl⟩ := Int.eq_ofNat_of_zero_le h3
  unfold xorB
  rw [u8_xor_nat x y (by omega) (by omega), u8_xor_nat (x ^^^ y) y (Nat.xor_lt_two_pow (n := 8) (by omega) (by omega)) (by omega), Nat.xor_assoc, Nat.xor_self, Nat.xor_zero]

theorem u8_of_wf {a : Int} (h : (Lit.int .u8 a).wf = true) : 0 ≤ a ∧ a < 256 := by
  simp only [Lit.wf, Bool.and_eq_true, decide_eq_true_eq] at h
  have h1 : IntKind.min .u8 = 0 := by decide +kernel
  have h2 : IntKind.max .u8 = 255 := by decide +kernel
  omega

def Rel1 (w : World) (b e k : Nat) (a n : Int) (v : Value) (wr : World) : Prop := ∃ (i : Nat) (R : Int) (L : List (List Int)), (i : Int) ≤ n ∧ v = .int .i64 (i : Int) ∧ D w wr b e (-1) false R L ∧ 0 ≤ R ∧ R ≤ (i : Int) + 1 ∧ L.length = 8 ∧ L.getD k [] = full a

set_option maxRecDepth 100000 in
set_option maxHeartbeats 4000000 in
theorem walk (a0 : Int) (a1 : Int) (a2 : Int) (a3 : Int) (a4 : Int) (w0 : (Lit.int .u8 a0).wf = true) (w1 : (Lit.int .i64 a1).wf = true) (w2 : (Lit.int .i64 a2).wf = true) (w3 : (Lit.int .u8 a3).wf = true) (w4 : (Lit.int .i64 a4).wf = true) (w : World) :
    Calls Try.prog 7 #[.int .u8 a0, .int .i64 a1, .int .i64 a2, .int .u8 a3, .int .i64 a4] w fun e w' => e = .returned (.bool true) ∧ Below w.heap.size w w' := by
  have k1 : 0 ≤ IntKind.u64.wrap a1 := wrap_nonneg _
  have k2 : 0 ≤ IntKind.u64.wrap a2 := wrap_nonneg _
  have k4 : 0 ≤ IntKind.u64.wrap a4 := wrap_nonneg _
  have HX := Lib.hid (xor_back (u8_of_wf w0).1 (u8_of_wf w0).2 (u8_of_wf w3).1 (u8_of_wf w3).2)
  clear w0 w1 w2 w3 w4
  obtain ⟨k, hk, hk8⟩ : ∃ k : Nat, IntKind.u64.wrap a1 % 8 = (k : Int) ∧ k < 8 := ⟨(IntKind.u64.wrap a1 % 8).toNat, by omega, by omega⟩
  obtain ⟨p, hp, hp64⟩ : ∃ p : Nat, IntKind.u64.wrap a2 % 64 = (p : Int) ∧ p < 64 := ⟨(IntKind.u64.wrap a2 % 64).toNat, by omega, by omega⟩
  have HP := Lib.hid hp
  clear hp
  go_enter Try.func7, Try.ntmps7
  go_wp2_with fail
  refine (d_new 8 w (by omega) (by omega)).mono ?_
  rintro y w1 ⟨rfl, e, r1⟩
  generalize hb : w.heap.size = b at *
  have HB := (show Hid (w.heap.size = b) from hb)
  clear hb
  have R1 := Lib.hid r1
  clear r1
  go_wp2_with fail
  clear hk k1
  refine (d_filled a0 R1.out).mono ?_
  rintro y w2 ⟨s2, rfl, r2, g2, _⟩
  have R2 := Lib.hid r2
  have G2 := Lib.hid g2
  clear r2 g2 R1
  go_wp2_with fail
  refine (d_ok k s2 64 _ R2.out (by omega) (by omega) (by simpa using hk8) G2.out).mono ?_
  rintro y w3 ⟨rfl, r3, _⟩
  obtain ⟨n, hn, hn0, hn20⟩ : ∃ n : Int, IntKind.u64.wrap a4 % 20 = n ∧ 0 ≤ n ∧ n < 20 := ⟨_, rfl, by omega, by omega⟩
  have R3 := Lib.hid (show Rel1 w b e k a0 n (.int .i64 0) w3 from ⟨0, _, _, by omega, rfl, r3, by omega, by omega, by simp, by
    rw [List.getD_eq_getElem?_getD, List.getElem?_set, if_pos rfl, if_pos (by simpa using hk8)]; rfl⟩)
  clear r3 R2 G2
  go_wp2_with fail
  go_loopw [13] (fun v wr => Rel1 w b e k a0 n v wr) (fun v _ => n.toNat - (intOf v).toNat)
  case atStart => exact R3.out
  case round =>
    clear R3
    obtain ⟨i, R, L, hi, rfl, hd, hR0, hR1, hlen, hget⟩ := hrel
    have HD := Lib.hid hd
    have HLEN := Lib.hid hlen
    have HGET := Lib.hid hget
    clear hd hlen hget
    by_cases hlt : (i : Int) < n
    · obtain ⟨m, hm, hm8⟩ : ∃ m : Nat, (i : Int) % 8 = (m : Int) ∧ m < 8 := ⟨i % 8, by omega, by omega⟩
      by_cases hmk : m = k
      · have hne : ((m : Int) != (k : Int)) = false := by rw [hmk]; simp
        have HREL := Lib.hid (show Rel1 w b e k a0 n (.int .i64 ((i + 1 : Nat) : Int)) wr from ⟨i + 1, R, L, by omega, rfl, HD.out, hR0, by omega, HLEN.out, HGET.out⟩)
        clear hmk
        go_wp2_with fail
        go_roundw
        case rel =>
          first
            | exact HREL.out
            | ((repeat apply Exists.intro); exact ⟨HREL.out, rfl⟩)
        case measure => simp [intOf]; omega
      · have hne : ((m : Int) == (k : Int)) = false := beq_eq_false_iff_ne.2 (by omega)
        have hne' : ((m : Int) != (k : Int)) = true := bne_iff_ne.2 (by omega)
        have HMK := Lib.hid (show (L.set m (full (i : Int))).getD k [] = full a0 from by
          rw [List.getD_eq_getElem?_getD, List.getElem?_set, if_neg hmk, ← List.getD_eq_getElem?_getD]
          exact HGET.out)
        clear hmk
        go_wp2_with fail
        refine (d_filled (i : Int) HD.out).mono ?_
        rintro y w4 ⟨s4, rfl, r4, g4, _⟩
        have R4 := Lib.hid r4
        have G4 := Lib.hid g4
        clear r4 g4 HD
        go_wp2_with fail
        refine (d_ok m s4 64 _ R4.out hR0 (by omega) (by rw [HLEN.out]; exact hm8) G4.out).mono ?_
        rintro y w5 ⟨rfl, r5, _⟩
        have HREL := Lib.hid (show Rel1 w b e k a0 n (.int .i64 ((i + 1 : Nat) : Int)) w5 from ⟨i + 1, R + 1, _, by omega, rfl, r5, by omega, by omega, by rw [List.length_set]; exact HLEN.out, HMK.out⟩)
        clear r5 R4 G4
        go_wp2_with fail
        go_roundw
        case rel =>
          first
            | exact HREL.out
            | ((repeat apply Exists.intro); exact ⟨HREL.out, rfl⟩)
        case measure => simp [intOf]; omega
    · have hp := HP.out
      go_wp2_with fail
      clear hp hn
      refine (d_spoil k p a3 HD.out (by rw [HLEN.out]; exact hk8) hp64).mono ?_
      rintro y w4 ⟨rfl, r4, _⟩
      rw [HGET.out, full_get a0 hp64] at r4
      obtain ⟨L4, hL4⟩ : ∃ L', L.set k ((full a0).set p (xorB a0 a3)) = L' := ⟨_, rfl⟩
      rw [hL4] at r4
      have HL4 := Lib.hid (show L4.length = 8 from by rw [← hL4, List.length_set, HLEN.out])
      have HG4 := Lib.hid (show L4.getD k [] = (full a0).set p (xorB a0 a3) from by rw [← hL4, List.getD_eq_getElem?_getD, List.getElem?_set, if_pos rfl, if_pos (by rw [HLEN.out]; exact hk8)]; rfl)
      have HP4 := Lib.hid (show ((full a0).set p (xorB a0 a3)).getD p 0 = xorB a0 a3 from by rw [List.getD_eq_getElem?_getD, List.getElem?_set, if_pos rfl, if_pos (by rw [full_length]; exact hp64)]; rfl)
      have HB4 := Lib.hid (show ((full a0).set p (xorB a0 a3)).set p a0 = full a0 from by
        rw [List.set_set]
        apply List.ext_getElem?
        intro j
        rw [List.getElem?_set]
        by_cases hj : p = j
        · subst hj
          rw [if_pos rfl, if_pos (by rw [full_length]; exact hp64)]
          unfold full
          rw [List.getElem?_replicate, if_pos hp64]
        · rw [if_neg hj])
      have R4 := Lib.hid r4
      clear r4 hL4 HD HGET HLEN
      go_wp2_with fail
      refine (d_read k R4.out (by rw [HL4.out]; exact hk8)).mono ?_
      rintro y w5 ⟨g5, c5, rfl, r5, G5, _⟩
      rw [HG4.out] at G5
      have hc5 := G5.cell hp64
      rw [HP4.out] at hc5
      unfold xorB at hc5
      have hq5 : (64 : Int) ≤ (c5 : Int) := by have := G5.2.1; omega
      have R5 := Lib.hid r5
      clear r5 G5 R4
      go_wp2_with fail
      refine (d_spoil k p a3 R5.out (by rw [HL4.out]; exact hk8) hp64).mono ?_
      rintro y w6 ⟨rfl, r6, _⟩
      rw [HG4.out, HP4.out, HX.out, HB4.out] at r6
      obtain ⟨L6, hL6⟩ : ∃ L', L4.set k (full a0) = L' := ⟨_, rfl⟩
      rw [hL6] at r6
      have HL6 := Lib.hid (show L6.length = 8 from by rw [← hL6, List.length_set, HL4.out])
      have HG6 := Lib.hid (show L6.getD k [] = full a0 from by rw [← hL6, List.getD_eq_getElem?_getD, List.getElem?_set, if_pos rfl, if_pos (by rw [HL4.out]; exact hk8)]; rfl)
      have R6 := Lib.hid r6
      clear r6 hL6 R5 hc5
      go_wp2_with fail
      refine (d_read k R6.out (by rw [HL6.out]; exact hk8)).mono ?_
      rintro y w7 ⟨g7, c7, rfl, r7, G7, _⟩
      rw [HG6.out] at G7
      have R7 := Lib.hid r7
      have G7' := Lib.hid G7
      clear r7 G7 R6
      go_wp2_with fail
      obtain ⟨X, hX⟩ : ∃ X, strOfNums (full a0) = X := ⟨_, rfl⟩
      have HXX := Lib.hid hX
      clear hX
      refine wp_region_any (by kernel_rfl) ?_
      try (change wpAny _ _ _ _ _ _ _ (World.drew _))
      refine wpAny_ready (rs := [0]) (by kernel_rfl) (by simp) ?_
      refine AllReady.cons rfl (fun K hK => ?_) AllReady.nil
      go_simp
      refine (d_told (w := w) (b := b) (e := e) (t := -1) (dn := false) (R := R) (L := L6) (R7.out.below (Below.refl _ _).drew)).mono ?_
      rintro y wB ⟨rfl, rB, bB⟩
      have RB := Lib.hid rB
      have GB := Lib.hid ((G7'.out.below (Below.refl _ _).drew).below bB)
      have kB := bvals_str GB.out.bvals
      rw [HXX.out] at kB
      clear rB bB
      refine hK _ _ ?_
      clear hK K
      try simp only [Act.put, List.setIfInBounds_toArray, List.set_cons_zero, List.set_cons_succ]
      refine wpAny_take (i := 1) (oi := ?_) (v := ?_) ?_ (by kernel_rfl) (by kernel_rfl) (by kernel_rfl) ?_ (Or.inl ⟨?_, ?_⟩) ?_
      rotate_left 2
      · simp only [List.getElem?_toArray, List.getElem?_cons_succ, List.getElem?_cons_zero]
        rfl
      · exact fun _ _ _ h => h
      · rfl
      · intro wq
        go_simp
        try with_reducible rfl
      simp only [Act.put, List.setIfInBounds_toArray, List.set_cons_zero, List.set_cons_succ]
      refine wpAny_take (i := 2) (oi := ?_) (v := ?_) ?_ (by kernel_rfl) (by kernel_rfl) (by kernel_rfl) ?_ (Or.inl ⟨?_, ?_⟩) ?_
      rotate_left 2
      · simp only [List.getElem?_toArray, List.getElem?_cons_succ, List.getElem?_cons_zero]
        rfl
      · exact fun _ _ _ h => h
      · rfl
      · intro wq
        go_simp
        try with_reducible rfl
      simp only [Act.put, List.setIfInBounds_toArray, List.set_cons_zero, List.set_cons_succ]
      refine wpAny_take (i := 3) (oi := ?_) (v := ?_) ?_ (by kernel_rfl) (by kernel_rfl) (by kernel_rfl) ?_ (Or.inl ⟨?_, ?_⟩) ?_
      rotate_left 2
      · simp only [List.getElem?_toArray, List.getElem?_cons_succ, List.getElem?_cons_zero]
        rfl
      · exact fun _ _ _ h => h
      · rfl
      · intro wq
        go_simp
        try with_reducible rfl
      simp only [Act.put, List.setIfInBounds_toArray, List.set_cons_zero, List.set_cons_succ]
      refine wpAny_take (i := 4) (oi := ?_) (v := ?_) ?_ (by kernel_rfl) (by kernel_rfl) (by kernel_rfl) ?_ (Or.inl ⟨?_, ?_⟩) ?_
      rotate_left 2
      · simp only [List.getElem?_toArray, List.getElem?_cons_succ, List.getElem?_cons_zero]
        rfl
      · exact fun _ _ _ h => h
      · rfl
      · intro wq
        go_simp
        try with_reducible rfl
      simp only [Act.put, List.setIfInBounds_toArray, List.set_cons_zero, List.set_cons_succ]
      refine wpAny_take (i := 5) (oi := ?_) (v := ?_) ?_ (by kernel_rfl) (by kernel_rfl) (by kernel_rfl) ?_ (Or.inl ⟨?_, ?_⟩) ?_
      rotate_left 2
      · simp only [List.getElem?_toArray, List.getElem?_cons_succ, List.getElem?_cons_zero]
        rfl
      · exact fun _ _ _ h => h
      · rfl
      · intro wq
        go_simp
        try with_reducible rfl
      simp only [Act.put, List.setIfInBounds_toArray, List.set_cons_zero, List.set_cons_succ]
      refine wpAny_take (i := 6) (oi := ?_) (v := ?_) ?_ (by kernel_rfl) (by kernel_rfl) (by kernel_rfl) ?_ (Or.inl ⟨?_, ?_⟩) ?_
      rotate_left 2
      · simp only [List.getElem?_toArray, List.getElem?_cons_succ, List.getElem?_cons_zero]
        rfl
      · exact fun _ _ _ h => h
      · rfl
      · intro wq
        go_simp
        try with_reducible rfl
      simp only [Act.put, List.setIfInBounds_toArray, List.set_cons_zero, List.set_cons_succ]
      refine wpAny_take (i := 7) (oi := ?_) (v := ?_) ?_ (by kernel_rfl) (by kernel_rfl) (by kernel_rfl) ?_ (Or.inl ⟨?_, ?_⟩) ?_
      rotate_left 2
      · simp only [List.getElem?_toArray, List.getElem?_cons_succ, List.getElem?_cons_zero]
        rfl
      · exact fun _ _ _ h => h
      · rfl
      · intro wq
        go_simp
        try with_reducible rfl
      simp only [Act.put, List.setIfInBounds_toArray, List.set_cons_zero, List.set_cons_succ]
      refine wpAny_take (i := 8) (oi := ?_) (v := ?_) ?_ (by kernel_rfl) (by kernel_rfl) (by kernel_rfl) ?_ (Or.inl ⟨?_, ?_⟩) ?_
      rotate_left 2
      · simp only [List.getElem?_toArray, List.getElem?_cons_succ, List.getElem?_cons_zero]
        rfl
      · exact fun _ _ _ h => h
      · rfl
      · intro wq
        go_simp
        try with_reducible rfl
      simp only [Act.put, List.setIfInBounds_toArray, List.set_cons_zero, List.set_cons_succ]
      refine wpAny_take (i := 9) (oi := ?_) (v := ?_) ?_ (by kernel_rfl) (by kernel_rfl) (by kernel_rfl) ?_ (Or.inl ⟨?_, ?_⟩) ?_
      rotate_left 2
      · simp only [List.getElem?_toArray, List.getElem?_cons_succ, List.getElem?_cons_zero]
        rfl
      · exact fun _ _ _ h => h
      · rfl
      · intro wq
        go_simp
        try with_reducible rfl
      simp only [Act.put, List.setIfInBounds_toArray, List.set_cons_zero, List.set_cons_succ]
      refine wpAny_take (i := 10) (oi := ?_) (v := ?_) ?_ (by kernel_rfl) (by kernel_rfl) (by kernel_rfl) ?_ (Or.inl ⟨?_, ?_⟩) ?_
      rotate_left 2
      · simp only [List.getElem?_toArray, List.getElem?_cons_succ, List.getElem?_cons_zero]
        rfl
      · exact fun _ _ _ h => h
      · rfl
      · intro wq
        go_simp
        try with_reducible rfl
      simp only [Act.put, List.setIfInBounds_toArray, List.set_cons_zero, List.set_cons_succ]
      refine wpAny_take (i := 11) (oi := ?_) (v := ?_) ?_ (by kernel_rfl) (by kernel_rfl) (by kernel_rfl) ?_ (Or.inl ⟨?_, ?_⟩) ?_
      rotate_left 2
      · simp only [List.getElem?_toArray, List.getElem?_cons_succ, List.getElem?_cons_zero]
        rfl
      · exact fun _ _ _ h => h
      · rfl
      · intro wq
        go_simp
        try with_reducible rfl
      simp only [Act.put, List.setIfInBounds_toArray, List.set_cons_zero, List.set_cons_succ]
      refine wpAny_take (i := 12) (oi := ?_) (v := ?_) ?_ (by kernel_rfl) (by kernel_rfl) (by kernel_rfl) ?_ (Or.inl ⟨?_, ?_⟩) ?_
      rotate_left 2
      · simp only [List.getElem?_toArray, List.getElem?_cons_succ, List.getElem?_cons_zero]
        rfl
      · exact fun _ _ _ h => h
      · rfl
      · intro wq
        go_simp
        try with_reducible rfl
      simp only [Act.put, List.setIfInBounds_toArray, List.set_cons_zero, List.set_cons_succ]
      refine wpAny_take (i := 13) (oi := ?_) (v := ?_) ?_ (by kernel_rfl) (by kernel_rfl) (by kernel_rfl) ?_ (Or.inl ⟨?_, ?_⟩) ?_
      rotate_left 2
      · simp only [List.getElem?_toArray, List.getElem?_cons_succ, List.getElem?_cons_zero]
        rfl
      · exact fun _ _ _ h => h
      · rfl
      · intro wq
        go_simp
        try with_reducible rfl
      simp only [Act.put, List.setIfInBounds_toArray, List.set_cons_zero, List.set_cons_succ]
      refine wpAny_take (i := 14) (oi := ?_) (v := ?_) ?_ (by kernel_rfl) (by kernel_rfl) (by kernel_rfl) ?_ (Or.inl ⟨?_, ?_⟩) ?_
      rotate_left 2
      · simp only [List.getElem?_toArray, List.getElem?_cons_succ, List.getElem?_cons_zero]
        rfl
      · exact fun _ _ _ h => h
      · rfl
      · intro wq
        go_simp
        try with_reducible rfl
      simp only [Act.put, List.setIfInBounds_toArray, List.set_cons_zero, List.set_cons_succ]
      refine wpAny_take (i := 16) (oi := ?_) (v := ?_) ?_ (by kernel_rfl) (by kernel_rfl) (by kernel_rfl) ?_ (Or.inl ⟨?_, ?_⟩) ?_
      rotate_left 2
      · simp only [List.getElem?_toArray, List.getElem?_cons_succ, List.getElem?_cons_zero]
        rfl
      · exact fun _ _ _ h => h
      · rfl
      · intro wq
        go_simp
        try with_reducible rfl
      simp only [Act.put, List.setIfInBounds_toArray, List.set_cons_zero, List.set_cons_succ]
      refine wpAny_ready (rs := [15, 17]) (by kernel_rfl) (by simp) ?_
      refine AllReady.cons rfl (fun K hK => ?_) (AllReady.cons rfl (fun K hK => ?_) AllReady.nil)
      · go_simp
        refine hK _ _ ?_
        clear hK K
        try simp only [Act.put, List.setIfInBounds_toArray, List.set_cons_zero, List.set_cons_succ]
        refine wpAny_ready (rs := [17]) (by kernel_rfl) (by simp) ?_
        refine AllReady.cons rfl (fun K hK => ?_) AllReady.nil
        go_simp
        refine (d_filled a0 RB.out).mono ?_
        rintro y wC ⟨sC, rfl, rC, gC, bC⟩
        have RC := Lib.hid rC
        have kC := bvals_str (GB.out.below bC).bvals
        have kC' := bvals_str gC.bvals
        rw [HXX.out] at kC kC'
        clear rC gC bC
        refine hK _ _ ?_
        clear hK K
        try simp only [Act.put, List.setIfInBounds_toArray, List.set_cons_zero, List.set_cons_succ]
        refine wpAny_ready (rs := [18]) (by kernel_rfl) (by simp) ?_
        refine AllReady.cons rfl (fun K hK => ?_) AllReady.nil
        go_simp
        refine hK _ _ ?_
        clear hK K
        try simp only [Act.put, List.setIfInBounds_toArray, List.set_cons_zero, List.set_cons_succ]
        refine wpAny_take (i := 19) (oi := ?_) (v := ?_) ?_ (by kernel_rfl) (by kernel_rfl) (by kernel_rfl) ?_ (Or.inl ⟨?_, ?_⟩) ?_
        rotate_left 2
        · simp only [List.getElem?_toArray, List.getElem?_cons_succ, List.getElem?_cons_zero]
          rfl
        · exact fun _ _ _ h => h
        · rfl
        · intro wq
          go_simp
          try with_reducible rfl
        simp only [Act.put, List.setIfInBounds_toArray, List.set_cons_zero, List.set_cons_succ]
        refine wpAny_take (i := 20) (oi := ?_) (v := ?_) ?_ (by kernel_rfl) (by kernel_rfl) (by kernel_rfl) ?_ (Or.inl ⟨?_, ?_⟩) ?_
        rotate_left 2
        · simp only [List.getElem?_toArray, List.getElem?_cons_succ, List.getElem?_cons_zero]
          rfl
        · exact fun _ _ _ h => h
        · rfl
        · intro wq
          go_simp
          try with_reducible rfl
        simp only [Act.put, List.setIfInBounds_toArray, List.set_cons_zero, List.set_cons_succ]
        refine wpAny_take (i := 21) (oi := ?_) (v := ?_) ?_ (by kernel_rfl) (by kernel_rfl) (by kernel_rfl) ?_ (Or.inl ⟨?_, ?_⟩) ?_
        rotate_left 2
        · simp only [List.getElem?_toArray, List.getElem?_cons_succ, List.getElem?_cons_zero]
          rfl
        · exact fun _ _ _ h => h
        · rfl
        · intro wq
          go_simp
          try with_reducible rfl
        simp only [Act.put, List.setIfInBounds_toArray, List.set_cons_zero, List.set_cons_succ]
        refine wpAny_done (by kernel_rfl) ?_ _
        go_wp2_with fail
        go_ret
        refine ⟨rfl, ?_⟩
        rw [HB.out]
        exact RC.out.2.1
      · go_simp
        refine (d_filled a0 RB.out).mono ?_
        rintro y wC ⟨sC, rfl, rC, gC, bC⟩
        have RC := Lib.hid rC
        have kC := bvals_str (GB.out.below bC).bvals
        have kC' := bvals_str gC.bvals
        rw [HXX.out] at kC kC'
        clear rC gC bC
        refine hK _ _ ?_
        clear hK K
        try simp only [Act.put, List.setIfInBounds_toArray, List.set_cons_zero, List.set_cons_succ]
        refine wpAny_ready (rs := [15, 18]) (by kernel_rfl) (by simp) ?_
        refine AllReady.cons rfl (fun K hK => ?_) (AllReady.cons rfl (fun K hK => ?_) AllReady.nil)
        · go_simp
          refine hK _ _ ?_
          clear hK K
          try simp only [Act.put, List.setIfInBounds_toArray, List.set_cons_zero, List.set_cons_succ]
          refine wpAny_ready (rs := [18]) (by kernel_rfl) (by simp) ?_
          refine AllReady.cons rfl (fun K hK => ?_) AllReady.nil
          go_simp
          refine hK _ _ ?_
          clear hK K
          try simp only [Act.put, List.setIfInBounds_toArray, List.set_cons_zero, List.set_cons_succ]
          refine wpAny_take (i := 19) (oi := ?_) (v := ?_) ?_ (by kernel_rfl) (by kernel_rfl) (by kernel_rfl) ?_ (Or.inl ⟨?_, ?_⟩) ?_
          rotate_left 2
          · simp only [List.getElem?_toArray, List.getElem?_cons_succ, List.getElem?_cons_zero]
            rfl
          · exact fun _ _ _ h => h
          · rfl
          · intro wq
            go_simp
            try with_reducible rfl
          simp only [Act.put, List.setIfInBounds_toArray, List.set_cons_zero, List.set_cons_succ]
          refine wpAny_take (i := 20) (oi := ?_) (v := ?_) ?_ (by kernel_rfl) (by kernel_rfl) (by kernel_rfl) ?_ (Or.inl ⟨?_, ?_⟩) ?_
          rotate_left 2
          · simp only [List.getElem?_toArray, List.getElem?_cons_succ, List.getElem?_cons_zero]
            rfl
          · exact fun _ _ _ h => h
          · rfl
          · intro wq
            go_simp
            try with_reducible rfl
          simp only [Act.put, List.setIfInBounds_toArray, List.set_cons_zero, List.set_cons_succ]
          refine wpAny_take (i := 21) (oi := ?_) (v := ?_) ?_ (by kernel_rfl) (by kernel_rfl) (by kernel_rfl) ?_ (Or.inl ⟨?_, ?_⟩) ?_
          rotate_left 2
          · simp only [List.getElem?_toArray, List.getElem?_cons_succ, List.getElem?_cons_zero]
            rfl
          · exact fun _ _ _ h => h
          · rfl
          · intro wq
            go_simp
            try with_reducible rfl
          simp only [Act.put, List.setIfInBounds_toArray, List.set_cons_zero, List.set_cons_succ]
          refine wpAny_done (by kernel_rfl) ?_ _
          go_wp2_with fail
          go_ret
          refine ⟨rfl, ?_⟩
          rw [HB.out]
          exact RC.out.2.1
        · go_simp
          refine hK _ _ ?_
          clear hK K
          try simp only [Act.put, List.setIfInBounds_toArray, List.set_cons_zero, List.set_cons_succ]
          refine wpAny_ready (rs := [15]) (by kernel_rfl) (by simp) ?_
          refine AllReady.cons rfl (fun K hK => ?_) AllReady.nil
          go_simp
          refine hK _ _ ?_
          clear hK K
          try simp only [Act.put, List.setIfInBounds_toArray, List.set_cons_zero, List.set_cons_succ]
          refine wpAny_take (i := 19) (oi := ?_) (v := ?_) ?_ (by kernel_rfl) (by kernel_rfl) (by kernel_rfl) ?_ (Or.inl ⟨?_, ?_⟩) ?_
          rotate_left 2
          · simp only [List.getElem?_toArray, List.getElem?_cons_succ, List.getElem?_cons_zero]
            rfl
          · exact fun _ _ _ h => h
          · rfl
          · intro wq
            go_simp
            try with_reducible rfl
          simp only [Act.put, List.setIfInBounds_toArray, List.set_cons_zero, List.set_cons_succ]
          refine wpAny_take (i := 20) (oi := ?_) (v := ?_) ?_ (by kernel_rfl) (by kernel_rfl) (by kernel_rfl) ?_ (Or.inl ⟨?_, ?_⟩) ?_
          rotate_left 2
          · simp only [List.getElem?_toArray, List.getElem?_cons_succ, List.getElem?_cons_zero]
            rfl
          · exact fun _ _ _ h => h
          · rfl
          · intro wq
            go_simp
            try with_reducible rfl
          simp only [Act.put, List.setIfInBounds_toArray, List.set_cons_zero, List.set_cons_succ]
          refine wpAny_take (i := 21) (oi := ?_) (v := ?_) ?_ (by kernel_rfl) (by kernel_rfl) (by kernel_rfl) ?_ (Or.inl ⟨?_, ?_⟩) ?_
          rotate_left 2
          · simp only [List.getElem?_toArray, List.getElem?_cons_succ, List.getElem?_cons_zero]
            rfl
          · exact fun _ _ _ h => h
          · rfl
          · intro wq
            go_simp
            try with_reducible rfl
          simp only [Act.put, List.setIfInBounds_toArray, List.set_cons_zero, List.set_cons_succ]
          refine wpAny_done (by kernel_rfl) ?_ _
          go_wp2_with fail
          go_ret
          refine ⟨rfl, ?_⟩
          rw [HB.out]
          exact RC.out.2.1

/-! The row's step. -/
set_option maxRecDepth 100000 in
theorem lifted (os : Os) (started : os.Started) (H : Type) (enc : TypeId × Value → H) :
    ReturnsInHanded {} Try.checked os 7 .any (Rows.sectorReadsSpec.pre6 enc Try.prog Try.f7 Rows.sectorReadsRow.domain false) (Rows.sectorReadsSpec.post enc Try.prog Try.f7 false true false false) := by
  refine returnsInHanded_of_change (C := Try.checked) own started (by kernel_rfl) Try.func7
    (ChangeSpec.witness6 (enc := enc) (C := Try.checked) false ⟨#[], #[.int .u8 0, .int .i64 0, .int .i64 0, .int .u8 0, .int .i64 0], []⟩ 8 (by kernel_rfl) (by kernel_rfl) (by kernel_rfl) (by kernel_rfl)) ?_
  intro W base args ds gs before hval0 hW hcnd _
  have hval : ∀ (j : Nat) t v, Try.f7.params[j]? = some t → args[j]? = some v → Value.okWide Try.prog W .any base t v := hval0
  have hW' := hW
  obtain ⟨p, q, hA0, hV, rfl, hfz, hnd⟩ := hW
  have hA : DataW.TrodAll enc Try.prog W 0 (fun _ => true) true Try.f7.params.toList args.toList ds p := hA0
  rw [Try.params7] at hA hval
  obtain ⟨v0, vs0, d0, ds0, p0, q0, hargs, rfl, rfl, h0, r0⟩ := trodAll_cons hA
  obtain ⟨v1, vs1, d1, ds1, p1, q1, rfl, rfl, rfl, h1, r1⟩ := trodAll_cons r0
  obtain ⟨v2, vs2, d2, ds2, p2, q2, rfl, rfl, rfl, h2, r2⟩ := trodAll_cons r1
  obtain ⟨v3, vs3, d3, ds3, p3, q3, rfl, rfl, rfl, h3, r3⟩ := trodAll_cons r2
  obtain ⟨v4, vs4, d4, ds4, p4, q4, rfl, rfl, rfl, h4, r4⟩ := trodAll_cons r3
  obtain ⟨rfl, rfl, rfl⟩ := trodAll_nil r4
  obtain rfl : args = #[v0, v1, v2, v3, v4] := by cases args; simp_all
  obtain ⟨rfl, rfl⟩ := trodVars_none hV
  obtain ⟨a0, rfl, rfl, rfl, w0⟩ := open_int Try.underlying5 (hval 0 5 v0 rfl rfl) h0
  obtain ⟨a1, rfl, rfl, rfl, w1⟩ := open_int Try.underlying3 (hval 1 3 v1 rfl rfl) h1
  obtain ⟨a2, rfl, rfl, rfl, w2⟩ := open_int Try.underlying3 (hval 2 3 v2 rfl rfl) h2
  obtain ⟨a3, rfl, rfl, rfl, w3⟩ := open_int Try.underlying5 (hval 3 5 v3 rfl rfl) h3
  obtain ⟨a4, rfl, rfl, rfl, w4⟩ := open_int Try.underlying3 (hval 4 3 v4 rfl rfl) h4
  clear hA0 hval0
  simp only [List.append_nil] at hW'
  refine (walk a0 a1 a2 a3 a4 w0 w1 w2 w3 w4 W).mono fun e W' ⟨he, bel⟩ => ?_
  subst he
  exact ⟨_, rfl, _, _, _, [], [], [], hW', (trodAll_cons_mk (shut_bool Try.underlying4 _) trodAll_mk0), (trodAll_cons_mk (shut_int Try.underlying5 w0) (trodAll_cons_mk (shut_int Try.underlying3 w1) (trodAll_cons_mk (shut_int Try.underlying3 w2) (trodAll_cons_mk (shut_int Try.underlying5 w3) (trodAll_cons_mk (shut_int Try.underlying3 w4) trodAll_mk0))))), rfl, bel.frame _, fun h => by cases h⟩

theorem over : Rows.sectorReadsRow.holds Try.pinned (OpenSpec.ofChange Rows.sectorReadsSpec) :=
  OpenClaim.holds_of_wide 7 Try.f7 rfl rfl rfl rfl rfl rfl rfl ⟨rfl, rfl, rfl, rfl, rfl⟩ rfl rfl rfl rfl rfl (by kernel_rfl) Try.func7 (by kernel_rfl)
    (of_decide_eq_true (by kernel_rfl)) (by unfold Func.isWrapper; first | (rw [if_pos (by decide +kernel)]; kernel_rfl) | (rw [if_neg (by decide +kernel)]; exact ⟨rfl, rfl⟩))
    (fun os started H enc _ => lifted os started H enc)

theorem proved : Rows.SectorReadsSaid :=
  over
#print axioms proved
end Go.Proofs.Ytggdaepflcjmfaa.sectorReads
