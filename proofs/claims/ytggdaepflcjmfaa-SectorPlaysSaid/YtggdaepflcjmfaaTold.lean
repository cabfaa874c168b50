/-
  'told' of chapter 17's laws answers true, in whatever world, and touches nothing that was there; no condition.
-/
import Derived.Test.YtggdaepflcjmfaaMeth
namespace Go.Proofs.Ytggdaepflcjmfaa
open Go.RowKit

theorem own_kept {w w' : World} {b e base : Nat} {v : Value} {n : Nat} {xs : List Value} (h : w.ownsRow base 5 1 v n xs) (hk : Kept b e w w') (he : e ≤ base) : w'.ownsRow base 5 1 v n xs :=
  own_keep h fun g _ _ hg hb => hk.block g (lt_of_block hg) (.inr (by omega))
theorem own_below {w w' : World} {base : Nat} {v : Value} {n : Nat} {xs : List Value} (h : w.ownsRow base 5 1 v n xs) (hb : Below w.heap.size w w') : w'.ownsRow base 5 1 v n xs :=
  own_keep h fun g _ _ hg _ => hb.block g (lt_of_block hg)
/-- An own row of bytes, spelled. -/
theorem own_cells {w : World} {base : Nat} {v : Value} {x : List Int} {n : Nat} (h : w.ownsRow base 5 1 v n (bv x)) (hx : x.length = n) (hn : 0 < n) : ∃ g c, v = .slice (some ⟨g, 0, none⟩) n c ∧ n ≤ c ∧ base ≤ g ∧ g < w.heap.size ∧ ∃ cur, w.heap[g]? = some (.cells cur 5 (0, 0)) ∧ ∀ k, k < n → w.cell? ⟨g, k, none⟩ = some (.int .u8 (x.getD k 0)) := by
  rcases h.2 with ⟨_, h0⟩ | ⟨g, cap, cur, rfl, hb, hg, hle, hcap, hsz, htake⟩
  · omega
  · refine ⟨g, cap, rfl, hle, hb, lt_of_block hg, cur, hg, fun k hk => ?_⟩
    have hcell := h.cells (g := g) rfl k _ (bv_get x k (by omega))
    rwa [show (⟨g, 0, none⟩ : Addr).add k = ⟨g, k, none⟩ from by unfold Addr.add; split <;> simp_all] at hcell

/-- 'filled' handed to Write, for each of its ways. -/
theorem wfull_ok (b e : Nat) (R : Int) (L : List (List Int)) (i : Nat) (c : Int) (s : Nat) (w : World) (h : Rep w b e (-1) false R L) (h0 : 0 ≤ R) (h1 : R ≤ 1000000) (hi : i < L.length) (hr : RowAt w s (full c)) (hs : e ≤ s) :
    Calls Try.prog 10 #[.pointer (some ⟨b, 0, none⟩), .int .i64 (i : Int), .slice (some ⟨s, 0, none⟩) 64 64] w fun y w' => y = .returned (.int .i64 0) ∧ Rep w' b e (-1) false (R + 1) (L.set i (full c)) ∧ Kept b e w w' :=
  write_ok b e R L i _ 64 (full c) w h h0 h1 hi (full_length c) (by have := hr.bvals 64 (by simp [full]); rwa [full_length] at this) fun u hu => by cases hu; exact .inr hs
theorem wfull_torn (b e : Nat) (R : Int) (L : List (List Int)) (i tn : Nat) (c : Int) (s : Nat) (w : World) (h : Rep w b e (tn : Int) false R L) (ht : tn ≤ 64) (h0 : 0 ≤ R) (h1 : R ≤ 1000000) (hi : i < L.length) (hr : RowAt w s (full c)) (hs : e ≤ s) :
    Calls Try.prog 10 #[.pointer (some ⟨b, 0, none⟩), .int .i64 (i : Int), .slice (some ⟨s, 0, none⟩) 64 64] w fun y w' => y = .returned (.int .i64 10) ∧ Rep w' b e (-1) true (R + 1) (L.set i ((full c).take tn ++ (L.getD i []).drop tn)) ∧ Kept b e w w' :=
  write_torn b e R L i tn _ 64 (full c) w h ht h0 h1 hi (full_length c) (by have := hr.bvals 64 (by simp [full]); rwa [full_length] at this) fun u hu => by cases hu; exact .inr hs

set_option maxRecDepth 100000 in
set_option maxHeartbeats 2000000 in
theorem told_any (w : World) :
    Calls Try.prog 14 #[] w fun x w' => x = .returned (.bool true) ∧ Below w.heap.size w w' := by
  go_enter Try.func14, Try.ntmps14
  go_wp2_with fail
  refine (new_some 3 w (by omega) (by omega)).mono ?_
  rintro y w0 ⟨rfl, r0, b0⟩
  rw [show List.replicate (Int.toNat 3) (full 0) = [full 0, full 0, full 0] from rfl] at r0
  generalize hb : w.heap.size = b at *
  have HB := (show Hid (w.heap.size = b) from hb)
  clear hb
  generalize he : w0.heap.size = e at *
  have HE := Lib.hid (Nat.le_of_eq he.symm)
  have hle := r0.lt
  have B0 := Lib.hid b0
  clear he b0
  go_wp2_with fail
  refine (filled_any 7 w0).mono ?_
  rintro y w1 ⟨rfl, s1, b1⟩
  have r1 := r0.below b1
  have hs1 := HE.out
  have B1 := Lib.hid (B0.out.trans (b1.mono (Nat.le_trans (Nat.le_of_lt hle.1) HE.out)))
  clear r0 b1 B0
  go_wp2_with fail
  refine (wfull_ok b e 0 _ 1 7 _ w1 r1 (by omega) (by omega) (by simp) s1 hs1).mono ?_
  rintro y w2 ⟨rfl, r2, k2⟩
  rw [show ([full 0, full 0, full 0] : List (List Int)).set 1 (full 7) = [full 0, full 7, full 0] from rfl, show (0 : Int) + 1 = 1 from rfl] at r2
  have B2 := Lib.hid (B1.out.trans (k2.below (Nat.le_refl _) (Nat.le_of_lt (Nat.lt_of_lt_of_le r1.lt.1 r1.lt.2))))
  clear r1 s1 k2 B1
  go_wp2_with fail
  refine (tear_any b e _ 1 false _ 3 w2 r2).mono ?_
  rintro y w3 ⟨rfl, r3, k3⟩
  rw [show clampT 3 = ((3 : Nat) : Int) from rfl] at r3
  have B3 := Lib.hid (B2.out.trans (k3.below (Nat.le_refl _) (Nat.le_of_lt (Nat.lt_of_lt_of_le r2.lt.1 r2.lt.2))))
  clear r2 k3 B2
  go_wp2_with fail
  refine (filled_any 8 w3).mono ?_
  rintro y w4 ⟨rfl, s4, b4⟩
  have r4 := r3.below b4
  have B4 := Lib.hid (B3.out.trans (b4.mono (Nat.le_of_lt (Nat.lt_of_lt_of_le r3.lt.1 r3.lt.2))))
  clear r3 b4 B3 s4
  go_wp2_with fail
  refine (write_bad b e _ 1 _ 9 _ 64 64 w4 r4 (by simp)).mono ?_
  rintro y w5 ⟨rfl, rfl⟩
  go_wp2_with fail
  refine (filled_any 8 w5).mono ?_
  rintro y w6 ⟨rfl, s6, b6⟩
  have r6 := r4.below b6
  have hs6 := r4.lt.2
  have B6 := Lib.hid (B4.out.trans (b6.mono (Nat.le_of_lt (Nat.lt_of_lt_of_le r4.lt.1 r4.lt.2))))
  clear r4 b6 B4
  go_wp2_with fail
  refine (wfull_torn b e 1 _ 1 3 8 _ w6 r6 (by omega) (by omega) (by omega) (by simp) s6 hs6).mono ?_
  rintro y w7 ⟨rfl, r7, k7⟩
  rw [show (1 : Int) + 1 = 2 from rfl] at r7
  obtain ⟨L7, hL7⟩ : ∃ L, ([full 0, full 7, full 0] : List (List Int)).set 1 ((full 8).take 3 ++ (([full 0, full 7, full 0] : List (List Int)).getD 1 []).drop 3) = L := ⟨_, rfl⟩
  rw [hL7] at r7
  have hl7 : L7.length = 3 := by rw [← hL7]; rfl
  have hg7 : L7.getD 1 [] = (full 8).take 3 ++ (full 7).drop 3 := by rw [← hL7]; rfl
  have HL7 := Lib.hid hl7
  have HG7 := Lib.hid hg7
  have B7 := Lib.hid (B6.out.trans (k7.below (Nat.le_refl _) (Nat.le_of_lt (Nat.lt_of_lt_of_le r6.lt.1 r6.lt.2))))
  clear r6 s6 k7 B6 hL7 hl7 hg7
  go_wp2_with fail
  refine (filled_any 9 w7).mono ?_
  rintro y w8 ⟨rfl, s8, b8⟩
  have r8 := r7.below b8
  have B8 := Lib.hid (B7.out.trans (b8.mono (Nat.le_of_lt (Nat.lt_of_lt_of_le r7.lt.1 r7.lt.2))))
  clear r7 b8 B7 s8
  go_wp2_with fail
  refine (write_down b e _ 2 _ 1 _ w8 r8).mono ?_
  rintro y w9 ⟨rfl, rfl⟩
  go_wp2_with fail
  refine (read_any b e _ 2 _ _ 1 w9 r8 (by rw [HL7.out]; omega)).mono ?_
  rintro y wA ⟨⟨vA, rfl, oA⟩, bA⟩
  have rA := r8.below bA
  have BA := Lib.hid (B8.out.trans (bA.mono (Nat.le_of_lt (Nat.lt_of_lt_of_le r8.lt.1 r8.lt.2))))
  have OA := Lib.hid oA
  have hsA := Lib.hid r8.lt.2
  clear r8 bA B8 oA
  go_wp2_with fail
  refine (read_bad b e _ 2 _ _ 3 wA rA (by rw [HL7.out]; omega)).mono ?_
  rintro y wB ⟨rfl, rfl⟩
  go_wp2_with fail
  refine (down_any b e _ 2 _ _ wB rA).mono ?_
  rintro y wC ⟨rfl, rfl⟩
  go_wp2_with fail
  refine (up_any b e _ 2 _ _ wC rA).mono ?_
  rintro y wD ⟨rfl, rD, kD⟩
  have BD := Lib.hid (BA.out.trans (kD.below (Nat.le_refl _) (Nat.le_of_lt (Nat.lt_of_lt_of_le rA.lt.1 rA.lt.2))))
  have OD := Lib.hid (own_kept OA.out kD hsA.out)
  clear rA kD BA OA
  go_wp2_with fail
  refine (spoil_any b e _ 2 _ _ 1 0 1 wD rD (by rw [HL7.out]; omega) (by omega)).mono ?_
  rintro y wE ⟨rfl, rE, kE⟩
  rw [HG7.out, show ((full 8).take 3 ++ (full 7).drop 3).getD 0 0 = 8 from rfl, show xorB 8 1 = 9 from by decide +kernel] at rE
  obtain ⟨LE, hLE⟩ : ∃ L, L7.set 1 (((full 8).take 3 ++ (full 7).drop 3).set 0 9) = L := ⟨_, rfl⟩
  rw [hLE] at rE
  have hlE : LE.length = 3 := by rw [← hLE, List.length_set, HL7.out]
  have hgE : LE.getD 1 [] = ((full 8).take 3 ++ (full 7).drop 3).set 0 9 := by rw [← hLE, List.getD_eq_getElem?_getD, List.getElem?_set, if_pos rfl, if_pos (by rw [HL7.out]; omega)]; rfl
  have HLE := Lib.hid hlE
  have HGE := Lib.hid hgE
  have BE := Lib.hid (BD.out.trans (kE.below (Nat.le_refl _) (Nat.le_of_lt (Nat.lt_of_lt_of_le rD.lt.1 rD.lt.2))))
  have OE := Lib.hid (own_kept OD.out kE hsA.out)
  clear rD kE BD OD hLE hlE hgE
  go_wp2_with fail
  refine (read_any b e _ 2 _ _ 1 wE rE (by rw [HLE.out]; omega)).mono ?_
  rintro y wF ⟨⟨vF, rfl, oF⟩, bF⟩
  have rF := rE.below bF
  have BF := Lib.hid (BE.out.trans (bF.mono (Nat.le_of_lt (Nat.lt_of_lt_of_le rE.lt.1 rE.lt.2))))
  rw [HG7.out] at OE
  rw [HGE.out] at oF
  obtain ⟨g1, c1, rfl, _, _, _, _, _, x1⟩ := own_cells (own_below OE.out bF) rfl (by omega)
  obtain ⟨g2, c2, rfl, _, _, _, _, _, x2⟩ := own_cells oF rfl (by omega)
  have x12 := x1 2 (by omega)
  have x13 := x1 3 (by omega)
  have x20 := x2 0 (by omega)
  rw [show ((full 8).take 3 ++ (full 7).drop 3).getD 2 0 = 8 from rfl] at x12
  rw [show ((full 8).take 3 ++ (full 7).drop 3).getD 3 0 = 7 from rfl] at x13
  rw [show (((full 8).take 3 ++ (full 7).drop 3).set 0 9).getD 0 0 = 9 from rfl] at x20
  clear rE bF BE OE oF x1 x2
  go_wp2_with fail
  refine (down_any b e _ 2 _ _ wF rF).mono ?_
  rintro y wG ⟨rfl, rfl⟩
  go_wp2_with fail
  refine (writes_any b e _ 2 _ _ wG rF).mono ?_
  rintro y wH ⟨rfl, rfl⟩
  go_wp2_with fail
  refine (spoil_bad b e _ 2 _ _ 1 64 1 wH rF (by omega)).mono ?_
  rintro y wI ⟨rfl, rfl⟩
  go_wp2_with fail
  refine (len_any b e _ 2 _ _ wI rF).mono ?_
  rw [HLE.out]
  rintro y wJ ⟨rfl, rfl⟩
  go_wp2_with fail
  refine (new_none 0 wJ (by omega)).mono ?_
  rintro y wK ⟨rfl, rfl⟩
  go_wp2_with fail
  refine (write_nil 0 _ _).mono ?_
  rintro y wL ⟨rfl, rfl⟩
  go_wp2_with fail
  refine (len_nil _).mono ?_
  rintro y wM ⟨rfl, rfl⟩
  go_wp2_with fail
  go_ret
  refine ⟨rfl, ?_⟩
  rw [HB.out]
  exact BF.out

end Go.Proofs.Ytggdaepflcjmfaa
