/-
  Contracts of the document's Take, Bits and Set; conditions: the list holds at most 1000 numbers.
-/
import Derived.Test.YtnpkgmchagkdmaaRef
import Derived.Laws.AppendOwn
namespace Go.Proofs.Ytnpkgmchagkdmaa
open Go.RowKit

theorem Try.info2 : (Try.prog.info? 2).map (fun i => (i.zero, i.size, i.bytes)) = some (some (.int .i64 0), 1, 8) := by kernel_rfl

set_option maxHeartbeats 400000 in
theorem refTake_no (m : Nat) (W T s : Int) (l : List Int) (w : World) (h : RefRep w m W T l) (hW1 : 1 ≤ W) (hW2 : W ≤ 64) (hT1 : 0 ≤ T) (hT2 : T ≤ 1099511627776) (hm : mayR W T l s = false) :
    Calls Try.prog 14 #[.pointer (some ⟨m, 0, none⟩), .int .i64 s] w fun e w' => e = .returned (.int .i64 6) ∧ RefRep w' m W T l ∧ Below m w w' := by
  have H := Lib.hid h
  clear h
  go_enter Try.func14, Try.ntmps14
  go_wp2_with fail
  refine (refMay_any m W T s l _ H.out hW1 hW2 hT1 hT2).mono ?_
  rintro e w' ⟨rfl, n, rfl⟩
  go_wp2_with fail
  go_ret
  exact ⟨rfl, H.out.keep (fun _ _ _ => rfl), belowDrewN (Below.refl _ _) _⟩

theorem heap_store {w : World} {b o : Nat} {c : Array Value} {t : TypeId} {f : Nat × Nat} (v : Value) (h : w.heap[b]? = some (.cells c t f)) :
    (w.setCell ⟨b, o, none⟩ v).heap[b]? = some (.cells (c.setIfInBounds o v) t f) := by
  have hlt := lt_of_block h
  have h' : w.heap[b] = .cells c t f := by simpa [Array.getElem?_eq_getElem hlt] using h
  show (w.heap.modify b _)[b]? = _
  rw [Array.getElem?_eq_getElem (by simpa using hlt), Array.getElem_modify_self, h']
  rfl

/-- The list and the top are stored. -/
theorem RefRep.stored {w2 : World} {m : Nat} {W T T' s : Int} {l : List Int} {v v' : Value} (hm : w2.heap[m]? = some (.cells #[.int .i64 W, .int .i64 T, v] 29 (0, 0)))
    (ho : w2.ownsRow (m + 1) 2 1 v' (l.length + 1) (l.map (Value.int .i64) ++ [.int .i64 s])) :
    RefRep ((w2.setCell ⟨m, 2, none⟩ v').setCell ⟨m, 1, none⟩ (.int .i64 T')) m W T' (l ++ [s]) := by
  refine ⟨v', by rw [heap_store _ (heap_store _ hm)]; rfl, ?_⟩
  rw [show (l ++ [s]).length = l.length + 1 from by simp, show (l ++ [s]).map (Value.int .i64) = l.map (Value.int .i64) ++ [.int .i64 s] from by simp]
  exact ownsRow_setCell_below (ownsRow_setCell_below ho (a := ⟨m, 2, none⟩) (Nat.lt_succ_self _) _) (a := ⟨m, 1, none⟩) (Nat.lt_succ_self _) _

/-- Behind the append: what the new value is, and what the object's block holds. -/
theorem behind_append {w1 w2 : World} {m : Nat} {W T x : Int} {l : List Int} {v v' o : Value} {t : TypeId} (hv : w1.heap[m]? = some (.cells #[.int .i64 W, .int .i64 T, v] 29 (0, 0))) (ho : w1.ownsRow (m + 1) 2 1 v l.length (l.map (Value.int .i64)))
    (hown : w2.ownsRow (m + 1) 2 1 v' (l.length + 1) (l.map (Value.int .i64) ++ [.int .i64 x])) (hgrow : (w1.alloc (.cells #[o] t)).grownBy w2 v.ownBlock) :
    ∃ g cap, v' = .slice (some ⟨g, 0, none⟩) (l.length + 1) cap ∧ m < g ∧ w2.heap[m]? = some (.cells #[.int .i64 W, .int .i64 T, v] 29 (0, 0)) ∧ Below m w1 w2 ∧
      w2.cell? ⟨m, 1, none⟩ = some (.int .i64 T) ∧ w2.cell? ⟨m, 2, none⟩ = some v ∧ w2.frozen? ⟨m, 1, none⟩ = false ∧ w2.frozen? ⟨m, 2, none⟩ = false := by
  have hlt := lt_of_block hv
  have hm2 : w2.heap[m]? = some (.cells #[.int .i64 W, .int .i64 T, v] 29 (0, 0)) := by
    rw [hgrow.block m (by simp; omega) (fun e => by have := ho.lt m e.symm; omega), Below.heap_alloc _ _ _ hlt]
    exact hv
  have hb : Below m w1 w2 := ((Below.refl m w1).alloc (Nat.le_of_lt hlt) _).grown hgrow (by simp; omega) (fun k hk => by have := ho.lt k hk; omega)
  rcases hown.2 with ⟨_, hn⟩ | ⟨g, cap, cur, rfl, hg, _⟩
  · omega
  · exact ⟨g, cap, rfl, by omega, hm2, hb, by simp [World.cell?, hm2], by simp [World.cell?, hm2], by simp [World.frozen?, hm2], by simp [World.frozen?, hm2]⟩

set_option maxHeartbeats 400000 in
theorem refTake_yes (m : Nat) (W T s : Int) (l : List Int) (w : World) (h : RefRep w m W T l) (hW1 : 1 ≤ W) (hW2 : W ≤ 64) (hT1 : 0 ≤ T) (hT2 : T ≤ 1099511627776) (hl : l.length ≤ 1000) (hm : mayR W T l s = true) :
    Calls Try.prog 14 #[.pointer (some ⟨m, 0, none⟩), .int .i64 s] w fun e w' => e = .returned (.int .i64 0) ∧ RefRep w' m W (max T s) (l ++ [s]) ∧ Below m w w' := by
  have H := Lib.hid h
  clear h
  obtain ⟨i0, hi, hz0, hz1, hz2⟩ := info_parts Try.info2
  go_enter Try.func14, Try.ntmps14
  go_wp2_with fail
  refine (refMay_any m W T s l _ H.out hW1 hW2 hT1 hT2).mono ?_
  rintro e w1 ⟨rfl, n, hw1⟩
  have H1 : RefRep w1 m W T l := by rw [hw1]; exact H.out.keep (fun _ _ _ => rfl)
  have HB := Lib.hid (show Below m w w1 from by rw [hw1]; exact belowDrewN (Below.refl _ _) _)
  clear hw1 H
  obtain ⟨v, hv, ho⟩ := H1
  have hlt := lt_of_block hv
  have c1 : w1.cell? ⟨m, 1, none⟩ = some (.int .i64 T) := by simp [World.cell?, hv]
  have c2 : w1.cell? ⟨m, 2, none⟩ = some v := by simp [World.cell?, hv]
  have HV := Lib.hid hv
  clear hv
  have HO := Lib.hid ho
  have hmax : max T s ≤ 1099511627776 := by unfold mayR at hm; simp at hm; omega
  go_wp2_with (at_builtin; refine wpList_append_own _ rfl _ _ 22 rfl (m + 1) 2 i0 (.int .i64 0) 1 8 Try.underlying22 hi hz0 hz1 hz2 rfl (by decide) _ _ _ rfl (ho.alloc _) ⟨w1.heap.size, 0, none⟩ 1 1 [.int .i64 s] rfl rfl (cell_one_new _ _ _) (fun x hx => by simp at hx; subst hx; rfl) (by unfold maxLen; omega) (by omega) (by simp; omega) ?_; intro v' w2 hown' hgrow _; obtain ⟨g, cap, hv', hg, hm2, hb2, d1, d2, f1, f2⟩ := behind_append HV.out HO.out hown' hgrow; rw [hv'] at hown' ⊢; have HM2 := Lib.hid hm2; have HO2 := Lib.hid hown'; have HB2 := Lib.hid hb2; clear hv' hm2 hown' hgrow hb2 c1 c2 ho)
  all_goals
    go_ret
    refine ⟨rfl, ?_, ?_⟩
    · first
        | (rw [show max T s = s from by omega]; exact RefRep.stored HM2.out HO2.out)
        | (rw [show max T s = T from by omega]; exact RefRep.stored HM2.out HO2.out)
    · exact ((HB.out.trans HB2.out).setCell (p := ⟨m, 2, none⟩) (Nat.le_refl _) _).setCell (p := ⟨m, 1, none⟩) (Nat.le_refl _) _

/-- The first k bits that the document's Bits sets. -/
def bitsTo (T : Int) (l : List Int) : Nat → Nat
  | 0 => 0
  | k + 1 => if 1 ≤ T - (k : Int) ∧ hasF l (T - (k : Int)) = true then bitsTo T l k ||| 2 ^ k else bitsTo T l k

theorem bitsTo_lt (T : Int) (l : List Int) : ∀ k, bitsTo T l k < 2 ^ k
  | 0 => by simp [bitsTo]
  | k + 1 => by
    have h := bitsTo_lt T l k
    have h1 : 2 ^ k < 2 ^ (k + 1) := Nat.pow_lt_pow_right (by omega) (by omega)
    unfold bitsTo
    split
    · exact Nat.or_lt_two_pow (by omega) h1
    · omega

theorem bitsTo_lt64 (T : Int) (l : List Int) (k : Nat) (hk : k ≤ 64) : bitsTo T l k < 18446744073709551616 := by
  have h1 : 2 ^ k ≤ 2 ^ 64 := Nat.pow_le_pow_right (by omega) hk
  have := bitsTo_lt T l k
  omega

theorem or_bit (B n : Nat) (hB : B < 18446744073709551616) (h : n < 64) : bits BinOp.or IntKind.u64 (B : Int) (IntKind.u64.wrap (2 ^ n)) = ((B ||| 2 ^ n : Nat) : Int) := by
  have h1 : 2 ^ n < 2 ^ 64 := Nat.pow_lt_pow_right (by omega) h
  have e : ((2 : Int) ^ n) = ((2 ^ n : Nat) : Int) := by simp
  rw [e]
  generalize 2 ^ n = x at *
  rw [IntKind.wrap_u64, show ((x : Int) % 18446744073709551616) = (x : Int) from by omega]
  exact u64_or_nat B x hB (by omega)

theorem ret_u64 {a b : Int} (h : a = b) : Ending.returned (.int .u64 a) = .returned (.int .u64 b) := by rw [h]

set_option maxHeartbeats 400000 in
theorem refBits_any (m : Nat) (W T : Int) (l : List Int) (w : World) (h : RefRep w m W T l) (hW1 : 1 ≤ W) (hW2 : W ≤ 64) (hT1 : 0 ≤ T) (hT2 : T ≤ 1099511627776) :
    Calls Try.prog 17 #[.pointer (some ⟨m, 0, none⟩)] w fun e w' => e = .returned (.int .u64 (bitsTo T l W.toNat : Nat)) ∧ w = w' := by
  obtain ⟨v, c0, c1, c2, f1, f2, ho, hc⟩ := h.cells
  have H := Lib.hid h
  clear h ho hc f1 f2 c2
  go_enter Try.func17, Try.ntmps17
  go_wp2_with fail
  go_loop [3, 4] (fun b i => ∃ k : Nat, (k : Int) ≤ W ∧ i = .int .i64 k ∧ b = .int .u64 (bitsTo T l k : Nat)) (fun _ i => W.toNat - (intOf i).toNat)
  case atStart => exact ⟨0, by omega, rfl, rfl⟩
  case round =>
    obtain ⟨k, hk, rfl, rfl⟩ := hrel
    by_cases hlt : (k : Int) < W
    · have hk64 : k < 64 := by omega
      have HB := bitsTo_lt64 T l k (by omega)
      have HS := Lib.hid (show bitsTo T l (k + 1) = if 1 ≤ T - (k : Int) ∧ hasF l (T - (k : Int)) = true then bitsTo T l k ||| 2 ^ k else bitsTo T l k from rfl)
      by_cases hpos : 1 ≤ T - (k : Int)
      · have dp : decide (1 ≤ T - (k : Int)) = true := by simpa using hpos
        go_wp2_with fail
        refine (has_any m W T (T - (k : Int)) l _ H.out).mono ?_
        rintro e w' ⟨rfl, hw⟩
        rw [hw]
        clear hw
        cases hh : hasF l (T - (k : Int))
        · go_wp2_with fail
          go_round
          case rel => exact ⟨k + 1, by omega, by go_num, by rw [HS.out, if_neg (fun h => by simp [hh] at h)]⟩
          case measure => simp [intOf]; omega
        · go_wp2_with fail
          rw [or_bit _ _ HB hk64]
          go_round
          case rel => exact ⟨k + 1, by omega, by go_num, by rw [HS.out, if_pos ⟨hpos, hh⟩]⟩
          case measure => simp [intOf]; omega
      · have dp : decide (1 ≤ T - (k : Int)) = false := by simpa using hpos
        go_wp2_with fail
        go_round
        case rel => exact ⟨k + 1, by omega, by go_num, by rw [HS.out, if_neg (fun h => hpos h.1)]⟩
        case measure => simp [intOf]; omega
    · go_wp2_with fail
      go_ret
      exact ⟨ret_u64 (by rw [show W.toNat = k from by omega]), rfl⟩

end Go.Proofs.Ytnpkgmchagkdmaa
