/-
  Package sector's Len, Down, Writes, Up, Tear, Read, and the law's 'filled'; conditions: at most 4096 sectors.
-/
import Derived.Test.YtggdaepflcjmfaaNew
namespace Go.Proofs.Ytggdaepflcjmfaa
open Go.RowKit

def part (c : Int) (k : Nat) : List Int := List.replicate k c ++ List.replicate (64 - k) 0
theorem part_zero (c : Int) : part c 0 = full 0 := rfl
theorem part_full (c : Int) : part c 64 = full c := by simp [part, full]
theorem part_set (c : Int) {k : Nat} (h : k < 64) : (bv (part c k)).toArray.setIfInBounds k (.int .u8 c) = (bv (part c (k + 1))).toArray := by
  have h1 : (part c k).set k c = part c (k + 1) := by
    apply List.ext_getElem?
    intro i
    unfold part
    rw [List.getElem?_set]
    by_cases hi : k = i
    · subst hi
      rw [if_pos rfl, if_pos (by simp; omega), List.getElem?_append_left (by simp)]
      simp
    · rw [if_neg hi]
      simp only [List.getElem?_append, List.length_replicate, List.getElem?_replicate]
      by_cases h1 : i < k
      · rw [if_pos h1, if_pos h1, if_pos (by omega), if_pos (by omega)]
      · rw [if_neg h1, if_neg (by omega : ¬ i < k + 1)]
        by_cases h2 : i < 64
        · rw [if_pos (by omega), if_pos (by omega)]
        · rw [if_neg (by omega), if_neg (by omega)]
  rw [← h1]
  simp [bv, List.map_set]

theorem RowAt.set {w : World} {g k : Nat} {c : Int} (h : RowAt w g (part c k)) (hk : k < 64) : RowAt (w.setCell ⟨g, k, none⟩ (.int .u8 c)) g (part c (k + 1)) := by
  unfold RowAt at h ⊢
  rw [heap_store _ h, part_set c hk]

def RelF (w : World) (c : Int) (v : Value) (wr : World) : Prop := ∃ k : Nat, k ≤ 64 ∧ v = .int .i64 (k : Int) ∧ RowAt wr w.heap.size (part c k) ∧ Below w.heap.size w wr

set_option maxHeartbeats 1000000 in
theorem filled_any (c : Int) (w : World) :
    Calls Try.prog 11 #[.int .u8 c] w fun e w' => e = .returned (.slice (some ⟨w.heap.size, 0, none⟩) 64 64) ∧ RowAt w' w.heap.size (full c) ∧ Below w.heap.size w w' := by
  have hm := make64
  obtain ⟨C, hC⟩ : ∃ C, (bv (full 0)).toArray = C := ⟨_, rfl⟩
  have R1 := Lib.hid (show RelF w c (.int .i64 0) (w.alloc (.cells C 5)) from ⟨0, by omega, rfl, by rw [part_zero]; unfold RowAt; rw [hC]; exact heap_alloc_new w _, (Below.refl _ _).alloc (Nat.le_refl _) _⟩)
  have hm' : ∀ w : World, (Instr.makeSlice 27 (.int .i64 64) (.int .i64 64)).run Try.prog w = .ok (.slice (some ⟨w.heap.size, 0, none⟩) 64 64) (w.alloc (.cells C 5)) := fun w => by rw [hm w, hC]
  clear hC hm
  go_enter Try.func11, Try.ntmps11
  go_wp2_with fail
  go_loopw [4] (fun v wr => RelF w c v wr) (fun i _ => 64 - (intOf i).toNat)
  case atStart => exact R1.out
  case round =>
    clear R1
    obtain ⟨k, hk, rfl, hrow, hbel⟩ := hrel
    by_cases hlt : k < 64
    · have HR := Lib.hid (hrow.set hlt)
      have HB := Lib.hid (hbel.setCell (p := ⟨w.heap.size, k, none⟩) (Nat.le_refl _) (.int .u8 c))
      have hz := hrow.frozen k
      have hc := hrow.cell (k := k) (by simp [part]; omega)
      clear hrow hbel hm'
      go_wp2_with fail
      go_roundw
      case rel =>
        first
          | exact ⟨k + 1, by omega, by go_num, HR.out, HB.out⟩
          | ((repeat apply Exists.intro); exact ⟨⟨k + 1, by omega, by go_num, HR.out, HB.out⟩, rfl⟩)
      case measure => simp [intOf]; omega
    · obtain rfl : k = 64 := by omega
      rw [part_full] at hrow
      have HR := Lib.hid (And.intro hrow hbel)
      clear hrow hbel hm' hlt hk
      go_wp2_with fail
      go_ret
      exact ⟨rfl, HR.out.1, HR.out.2⟩

theorem ret_i64 {a b : Int} (h : a = b) : Ending.returned (.int .i64 a) = .returned (.int .i64 b) := by rw [h]

set_option maxHeartbeats 400000 in
theorem len_any (b e : Nat) (t R : Int) (dn : Bool) (L : List (List Int)) (w : World) (h : Rep w b e t dn R L) :
    Calls Try.prog 25 #[.pointer (some ⟨b, 0, none⟩)] w fun x w' => x = .returned (.int .i64 (L.length : Int)) ∧ w' = w := by
  obtain ⟨g, cap, c0, _⟩ := h.cells
  clear h
  go_enter Try.func25, Try.ntmps25
  go_wp2
  go_ret
  exact ⟨rfl, rfl⟩
set_option maxHeartbeats 400000 in
theorem len_nil (w : World) : Calls Try.prog 25 #[.pointer none] w fun x w' => x = .returned (.int .i64 0) ∧ w' = w := by
  go_enter Try.func25, Try.ntmps25
  go_wp2
  go_ret
  exact ⟨rfl, rfl⟩
set_option maxHeartbeats 400000 in
theorem down_any (b e : Nat) (t R : Int) (dn : Bool) (L : List (List Int)) (w : World) (h : Rep w b e t dn R L) :
    Calls Try.prog 15 #[.pointer (some ⟨b, 0, none⟩)] w fun x w' => x = .returned (.bool dn) ∧ w' = w := by
  obtain ⟨g, cap, c0, c1, c2, _⟩ := h.cells
  clear h
  go_enter Try.func15, Try.ntmps15
  go_wp2
  go_ret
  exact ⟨rfl, rfl⟩

theorem load64_run (a : Addr) (x : Int) (w : World) (hc : w.cell? a = some (.int .i64 x)) :
    (callFunc 28 #[.pointer (some a)]).run Try.prog w = .ok (.value (.int .i64 x)) w := by
  exact run_call_load (P := Try.prog) Try.func28 (by kernel_rfl) (by kernel_rfl) (by kernel_rfl) .i64 (by kernel_rfl) hc

set_option maxHeartbeats 400000 in
theorem writes_any (b e : Nat) (t R : Int) (dn : Bool) (L : List (List Int)) (w : World) (h : Rep w b e t dn R L) :
    Calls Try.prog 16 #[.pointer (some ⟨b, 0, none⟩)] w fun x w' => x = .returned (.int .i64 R) ∧ w' = w := by
  obtain ⟨g, cap, c0, c1, c2, c3, _⟩ := h.cells
  have hl := load64_run _ _ _ c3
  have hl26 : Calls Try.prog 26 #[.pointer (some ⟨b, 3, none⟩)] w fun x w' => x = .returned (.int .i64 R) ∧ w' = w := by
    clear h
    go_enter Try.func26, Try.ntmps26
    go_wp2
    go_ret
    exact ⟨rfl, rfl⟩
  clear h hl
  have H26 := Lib.hid hl26
  clear hl26
  go_enter Try.func16, Try.ntmps16
  go_wp2_with fail
  refine H26.out.mono ?_
  rintro e w1 ⟨rfl, rfl⟩
  go_wp2_with fail
  go_ret
  exact ⟨rfl, rfl⟩
set_option maxHeartbeats 400000 in
theorem up_any (b e : Nat) (t R : Int) (dn : Bool) (L : List (List Int)) (w : World) (h : Rep w b e t dn R L) :
    Calls Try.prog 12 #[.pointer (some ⟨b, 0, none⟩)] w fun x w' => x = .returned (.tuple #[]) ∧ Rep w' b e (-1) false R L ∧ Kept b e w w' := by
  obtain ⟨g, cap, c0, c1, c2, c3, f1, f2, f3⟩ := h.cells
  have H := Lib.hid h
  clear h
  go_enter Try.func12, Try.ntmps12
  go_wp2
  go_end0
  exact ⟨rfl, (H.out.tear (-1)).down false, ((Kept.refl _ _ _).setCell ⟨Nat.le_refl _, H.out.lt.1⟩ _ _).setCell ⟨Nat.le_refl _, H.out.lt.1⟩ _ _⟩

/-- How much of a write will stay. -/
def clampT (n : Int) : Int := if n < 0 then 0 else if 64 < n then 64 else n
theorem clampT_le (n : Int) : 0 ≤ clampT n ∧ clampT n ≤ 64 := by unfold clampT; split <;> (try split) <;> omega

set_option maxHeartbeats 400000 in
theorem tear_any (b e : Nat) (t R : Int) (dn : Bool) (L : List (List Int)) (n : Int) (w : World) (h : Rep w b e t dn R L) :
    Calls Try.prog 9 #[.pointer (some ⟨b, 0, none⟩), .int .i64 n] w fun x w' => x = .returned (.tuple #[]) ∧ Rep w' b e (clampT n) dn R L ∧ Kept b e w w' := by
  obtain ⟨g, cap, c0, c1, c2, c3, f1, f2, f3⟩ := h.cells
  have H := Lib.hid h
  clear h
  rcases (by omega : n < 0 ∨ 0 ≤ n ∧ n ≤ 64 ∨ 64 < n) with hn | ⟨hn, hn2⟩ | hn
  · have HC := Lib.hid (show clampT n = 0 from if_pos hn)
    go_enter Try.func9, Try.ntmps9
    go_wp2
    go_end0
    rw [HC.out]
    exact ⟨rfl, H.out.tear _, H.out.kept (Kept.refl _ _ _) _ _⟩
  · have HC := Lib.hid (show clampT n = n by unfold clampT; rw [if_neg (by omega), if_neg (by omega)])
    go_enter Try.func9, Try.ntmps9
    go_wp2
    go_end0
    rw [HC.out]
    exact ⟨rfl, H.out.tear _, H.out.kept (Kept.refl _ _ _) _ _⟩
  · have HC := Lib.hid (show clampT n = 64 by unfold clampT; rw [if_neg (by omega), if_pos (by omega)])
    go_enter Try.func9, Try.ntmps9
    go_wp2
    go_end0
    rw [HC.out]
    exact ⟨rfl, H.out.tear _, H.out.kept (Kept.refl _ _ _) _ _⟩

set_option maxHeartbeats 1000000 in
theorem read_any (b e : Nat) (t R : Int) (dn : Bool) (L : List (List Int)) (i : Nat) (w : World) (h : Rep w b e t dn R L) (hi : i < L.length) :
    Calls Try.prog 13 #[.pointer (some ⟨b, 0, none⟩), .int .i64 (i : Int)] w fun x w' => (∃ v', x = .returned (.tuple #[v', .int .i64 0]) ∧ w'.ownsRow w.heap.size 5 1 v' 64 (bv (L.getD i []))) ∧ Below w.heap.size w w' := by
  obtain ⟨g, cap, gi, c0, ci, _, _, hx, hrow, _⟩ := h.row hi
  have HX := Lib.hid hx
  have HV := Lib.hid (show BVals w (.slice (some ⟨gi, 0, none⟩) 64 64) (L.getD i []) from by have := hrow.bvals 64 (by omega); rwa [hx] at this)
  clear h hrow hx
  generalize L.getD i [] = x at *
  generalize L.length = n at *
  go_enter Try.func13, Try.ntmps13
  go_wp2_with fail
  refine (clone_any _ x w HV.out (by have := HX.out; omega)).mono ?_
  rintro y w1 ⟨⟨v', rfl, o1⟩, b1⟩
  rw [HX.out] at o1
  have HO := Lib.hid o1
  have HB := Lib.hid b1
  clear o1 b1
  go_wp2_with fail
  go_ret2
  exact ⟨⟨_, rfl, HO.out⟩, HB.out⟩
theorem read_bad (b e : Nat) (t R : Int) (dn : Bool) (L : List (List Int)) (i : Int) (w : World) (h : Rep w b e t dn R L) (hi : i < 0 ∨ (L.length : Int) ≤ i) :
    Calls Try.prog 13 #[.pointer (some ⟨b, 0, none⟩), .int .i64 i] w fun x w' => x = .returned (.tuple #[.slice none 0 0, .int .i64 1]) ∧ w' = w := by
  obtain ⟨g, cap, c0, _⟩ := h.cells
  clear h
  generalize L.length = n at *
  rcases (by omega : i < 0 ∨ 0 ≤ i ∧ (n : Int) ≤ i) with hi | ⟨hi, hi2⟩
  all_goals
    go_enter Try.func13, Try.ntmps13
    go_wp2
    go_ret2
    exact ⟨rfl, rfl⟩
theorem write_nil (i : Int) (v : Value) (w : World) : Calls Try.prog 10 #[.pointer none, .int .i64 i, v] w fun x w' => x = .returned (.int .i64 1) ∧ w' = w := by
  go_enter Try.func10, Try.ntmps10
  go_wp2
  go_ret
  exact ⟨rfl, rfl⟩
set_option maxHeartbeats 400000 in
theorem write_down (b e : Nat) (t R : Int) (L : List (List Int)) (i : Int) (v : Value) (w : World) (h : Rep w b e t true R L) : Calls Try.prog 10 #[.pointer (some ⟨b, 0, none⟩), .int .i64 i, v] w fun x w' => x = .returned (.int .i64 10) ∧ w' = w := by
  obtain ⟨g, cap, c0, c1, c2, _⟩ := h.cells
  clear h
  go_enter Try.func10, Try.ntmps10
  go_wp2
  go_ret
  exact ⟨rfl, rfl⟩
set_option maxHeartbeats 1000000 in
theorem write_bad (b e : Nat) (t R : Int) (L : List (List Int)) (i : Int) (a : Option Addr) (m c : Nat) (w : World) (h : Rep w b e t false R L) (hi : i < 0 ∨ (L.length : Int) ≤ i ∨ m ≠ 64) :
    Calls Try.prog 10 #[.pointer (some ⟨b, 0, none⟩), .int .i64 i, .slice a m c] w fun x w' => x = .returned (.int .i64 1) ∧ w' = w := by
  obtain ⟨g, cap, c0, c1, c2, _⟩ := h.cells
  clear h
  generalize L.length = n at *
  rcases (by omega : i < 0 ∨ 0 ≤ i ∧ (n : Int) ≤ i ∨ 0 ≤ i ∧ i < (n : Int) ∧ m ≠ 64) with hi | ⟨hi, hi2⟩ | ⟨hi, hi2, hm64⟩
  · go_enter Try.func10, Try.ntmps10
    go_wp2
    go_ret
    exact ⟨rfl, rfl⟩
  · go_enter Try.func10, Try.ntmps10
    go_wp2
    go_ret
    exact ⟨rfl, rfl⟩
  · have hb : ((m : Int) == 64) = false := beq_eq_false_iff_ne.2 (by omega)
    have hb' : ((m : Int) != 64) = true := bne_iff_ne.2 (by omega)
    clear hm64
    go_enter Try.func10, Try.ntmps10
    go_wp2
    go_ret
    exact ⟨rfl, rfl⟩

theorem add64_run (a : Addr) (x : Int) (w : World) (hc : w.cell? a = some (.int .i64 x)) (hz : w.frozen? a = false) :
    (callFunc 27 #[.pointer (some a), .int .i64 1]).run Try.prog w = .ok (.value (.int .i64 (wrap64 (x + 1)))) (w.setCell a (.int .i64 (wrap64 (x + 1)))) :=
  run_call_add (P := Try.prog) Try.func27 (by kernel_rfl) (by kernel_rfl) (by kernel_rfl) .i64 (by kernel_rfl) (y := 1) (s := wrap64 (x + 1)) hc hz (by simp [go_sem, wrap64, IntKind.wrap_i64])

set_option maxHeartbeats 400000 in
theorem add_any (b e : Nat) (t R : Int) (dn : Bool) (L : List (List Int)) (w : World) (h : Rep w b e t dn R L) (h0 : 0 ≤ R) (h1 : R ≤ 1000000) :
    Calls Try.prog 23 #[.pointer (some ⟨b, 3, none⟩), .int .i64 1] w fun x w' => (∃ v, x = .returned v) ∧ Rep w' b e t dn (R + 1) L ∧ Kept b e w w' := by
  obtain ⟨g, cap, c0, c1, c2, c3, f1, f2, f3⟩ := h.cells
  have hadd := add64_run _ _ _ c3 f3
  have hw : wrap64 (R + 1) = R + 1 := by unfold wrap64; omega
  rw [hw] at hadd
  have H := Lib.hid h
  clear h hw
  go_enter Try.func23, Try.ntmps23
  go_wp2
  go_ret
  exact ⟨⟨_, rfl⟩, H.out.count _, H.out.kept (Kept.refl _ _ _) _ _⟩

/-- Two worlds, one row between them. -/
theorem Wrote.rw {w w' : World} {g : Nat} {cs cs' : Array Value} (h : Wrote w w' g cs) (e : cs = cs') : Wrote w w' g cs' := e ▸ h

theorem wpList_copy_bytes {w : World} {ops : Array Oper} {rest : List Oper} {o : Oper} {a : Act} {Q : Exit → Act → World → Prop} (hgd : o.guard = none) (d s : Operand)
    (ho : o.op = .call { callee := .builtin .copy, args := #[d, s], argTypes := #[27, 27] })
    (g c : Nat) (n : Nat) (hd : a.eval d = .slice (some ⟨g, 0, none⟩) n c) (y : List Int) (hy : RowAt w g y) (hn : y.length = n) (sp : Option Addr) (sc m : Nat) (z : List Int) (hs : a.eval s = .slice sp m sc) (hm : z.length = m) (hz : BVals w (.slice sp m sc) z) (hl : m ≤ n)
    (h : ∀ w', Wrote w w' g (bv (z ++ y.drop m)).toArray → wpList Try.prog ops Q rest (a.put o.dst (goInt m)) w') : wpList Try.prog ops Q (o :: rest) a w := by
  subst hm hn
  refine wpList_plain hgd fun K hK => ?_
  obtain ⟨w', hrun, hw⟩ := run_copy_bytes (w := w) o.type g c y hy sp sc z hz hl
  unfold Oper.wp
  simp [execOp, ho, resolve, invoke, builtin, hd, hs, hrun, Result.andThen]
  exact hK _ _ (h w' hw)

theorem step_copy_bytes {w : World} {ops : Array Oper} {o : Oper} {a : Act} {K : Act → World → Prop} {Q : Exit → Act → World → Prop} {E : Prop} (hgd : o.guard = none) (d s : Operand)
    (ho : o.op = .call { callee := .builtin .copy, args := #[d, s], argTypes := #[27, 27] })
    (g c : Nat) (n : Nat) (hd : a.eval d = .slice (some ⟨g, 0, none⟩) n c) (y : List Int) (hy : RowAt w g y) (hn : y.length = n) (sp : Option Addr) (sc m : Nat) (z : List Int) (hs : a.eval s = .slice sp m sc) (hm : z.length = m) (hz : BVals w (.slice sp m sc) z) (hl : m ≤ n)
    (h : ∀ w', Wrote w w' g (bv (z ++ y.drop m)).toArray → K (a.put o.dst (goInt m)) w') :
    if Region.wanted o (yielded ops a.tmps) = true then Oper.wp Try.prog o a w K Q else E := by
  have hw : Region.wanted o (yielded ops a.tmps) = true := by simp [Region.wanted, hgd]
  rw [if_pos hw]
  subst hm hn
  obtain ⟨w', hrun, hw⟩ := run_copy_bytes (w := w) o.type g c y hy sp sc z hz hl
  unfold Oper.wp
  simp [execOp, ho, resolve, invoke, builtin, hd, hs, hrun, Result.andThen]
  exact h w' hw

theorem BVals.kept {w w' : World} {b e : Nat} {v : Value} {x : List Int} (h : BVals w v x) (hk : Kept b e w w') (hv : x ≠ [] → ∀ g, v.ownBlock = some g → g < b ∨ e ≤ g) : BVals w' v x := by
  rcases h with h | h | ⟨g, o, cap, rfl, hc, hg, hcell⟩
  · exact .inl h
  · exact .inr (.inl h)
  · refine .inr (.inr ⟨g, o, cap, rfl, hc, Nat.lt_of_lt_of_le hg hk.size, fun k hk' => ?_⟩)
    have hne : x ≠ [] := fun e => by rw [e] at hk'; simp at hk'
    exact (World.cell?_of_block (hk.block g hg (hv hne g rfl))).trans (hcell k hk')

set_option maxHeartbeats 2000000 in
theorem write_ok (b e : Nat) (R : Int) (L : List (List Int)) (i : Nat) (a : Option Addr) (c : Nat) (x : List Int) (w : World) (h : Rep w b e (-1) false R L) (h0 : 0 ≤ R) (h1 : R ≤ 1000000) (hi : i < L.length) (hx : x.length = 64) (hv : BVals w (.slice a 64 c) x) (hg : ∀ u, a = some u → u.block < b ∨ e ≤ u.block) :
    Calls Try.prog 10 #[.pointer (some ⟨b, 0, none⟩), .int .i64 (i : Int), .slice a 64 c] w fun y w' => y = .returned (.int .i64 0) ∧ Rep w' b e (-1) false (R + 1) (L.set i x) ∧ Kept b e w w' := by
  obtain ⟨g0, cap0, c0, c1, c2, c3, _⟩ := h.cells
  have HV := Lib.hid hv
  have HG := Lib.hid hg
  have H := Lib.hid h
  have HX := Lib.hid hx
  have HL := Lib.hid hi
  clear h hv hg hx
  have hi' : (i : Int) < (L.length : Int) := by omega
  go_enter Try.func10, Try.ntmps10
  go_wp2_with fail
  refine (add_any b e (-1) R false L w H.out h0 h1).mono ?_
  rintro y w1 ⟨⟨v1, rfl⟩, r1, k1⟩
  obtain ⟨g1, cap1, d0, d1, d2, d3, _⟩ := r1.cells
  obtain ⟨g, cap, gi, e0, ei, hbi, hie, hlen, hrow, hset⟩ := r1.row HL.out
  have HR1 := Lib.hid r1
  have HK1 := Lib.hid k1
  have HROW := Lib.hid hrow
  have HSET := Lib.hid hset
  have HLEN := Lib.hid hlen
  have HV1 := Lib.hid (BVals.kept HV.out k1 fun _ g hg' => by
    cases a with
    | none => simp [Value.ownBlock] at hg'
    | some u =>
      simp [Value.ownBlock] at hg'
      subst hg'
      exact HG.out u rfl)
  clear r1 k1 hrow hset hlen d0 c0 c1 c2 c3 d2 d3
  go_wp2_with (refine wpList_copy_bytes rfl _ _ rfl gi 64 64 rfl (L.getD i []) HROW.out HLEN.out a c 64 x rfl HX.out HV1.out (by omega) ?_; intro w2 hw2; have HW2 := Lib.hid hw2; clear hw2)
  go_ret
  have hq := HSET.out w2 x HX.out (HW2.out.rw (by rw [List.drop_of_length_le (by rw [HLEN.out]; omega), List.append_nil]))
  exact ⟨rfl, hq.1, HK1.out.trans hq.2⟩

theorem BVals.prefix_ {w : World} {a : Option Addr} {n c m : Nat} {x : List Int} (h : BVals w (.slice a n c) x) (hx : x.length = n) (hm : m ≤ n) (hn : 0 < n) : BVals w (.slice a m c) (x.take m) ∧ n ≤ c := by
  have hl : (x.take m).length = m := by simp; omega
  rcases h with ⟨_, h⟩ | ⟨_, _, _, h⟩ | ⟨g, o, cap, hv, hc, hg, hcell⟩
  · subst h; simp at hx; omega
  · subst h; simp at hx; omega
  · simp at hv
    obtain ⟨rfl, _, rfl⟩ := hv
    refine ⟨.inr (.inr ⟨g, o, c, by rw [hl], by omega, hg, fun k hk => ?_⟩), by omega⟩
    rw [hl] at hk
    rw [hcell k (by omega), List.getD_eq_getElem?_getD, List.getD_eq_getElem?_getD, List.getElem?_take_of_lt hk]

set_option maxHeartbeats 4000000 in
theorem write_torn (b e : Nat) (R : Int) (L : List (List Int)) (i tn : Nat) (a : Option Addr) (c : Nat) (x : List Int) (w : World) (h : Rep w b e (tn : Int) false R L) (ht : tn ≤ 64) (h0 : 0 ≤ R) (h1 : R ≤ 1000000) (hi : i < L.length) (hx : x.length = 64) (hv : BVals w (.slice a 64 c) x) (hg : ∀ u, a = some u → u.block < b ∨ e ≤ u.block) :
    Calls Try.prog 10 #[.pointer (some ⟨b, 0, none⟩), .int .i64 (i : Int), .slice a 64 c] w fun y w' => y = .returned (.int .i64 10) ∧ Rep w' b e (-1) true (R + 1) (L.set i (x.take tn ++ (L.getD i []).drop tn)) ∧ Kept b e w w' := by
  obtain ⟨g0, cap0, c0, c1, c2, c3, _⟩ := h.cells
  obtain ⟨hvp, hc64⟩ := hv.prefix_ hx ht (by omega)
  have hxt : (x.take tn).length = tn := by simp; omega
  have HV := Lib.hid hvp
  have HG := Lib.hid hg
  have H := Lib.hid h
  have HX := Lib.hid hxt
  have HL := Lib.hid hi
  clear h hv hvp hg hx hxt
  have hi' : (i : Int) < (L.length : Int) := by omega
  have ht0 : (0 : Int) ≤ (tn : Int) := by omega
  have htc : (tn : Int) ≤ (c : Int) := by omega
  have htn : ((tn : Int) == -1) = false := beq_eq_false_iff_ne.2 (by omega)
  generalize x.take tn = xt at *
  go_enter Try.func10, Try.ntmps10
  go_wp2_with fail
  refine (add_any b e tn R false L w H.out h0 h1).mono ?_
  rintro y w1 ⟨⟨v1, rfl⟩, r1, k1⟩
  obtain ⟨g1, cap1, d0, d1, d2, d3, _⟩ := r1.cells
  obtain ⟨g, cap, gi, e0, ei, hbi, hie, hlen, hrow, hset⟩ := r1.row HL.out
  have HR1 := Lib.hid r1
  have HK1 := Lib.hid k1
  have HROW := Lib.hid (show RowAt w1.drew gi (L.getD i []) from hrow)
  have HLEN := Lib.hid hlen
  have HV1 := Lib.hid (show BVals w1.drew (.slice a tn c) xt from (BVals.kept HV.out k1 fun _ g hg' => by
    cases a with
    | none => simp [Value.ownBlock] at hg'
    | some u =>
      simp [Value.ownBlock] at hg'
      subst hg'
      exact HG.out u rfl).below (Below.refl _ _).drew)
  have hset' : ∀ w2, Wrote w1.drew w2 gi (bv (xt ++ (L.getD i []).drop tn)).toArray → Rep w2 b e tn false (R + 1) (L.set i (xt ++ (L.getD i []).drop tn)) ∧ Kept b e w1 w2 := fun w2 hw => hset w2 _ (by rw [List.length_append, HX.out, List.length_drop, HLEN.out]; omega) ⟨hw.os, hw.tape, hw.output, hw.size, hw.row, hw.block⟩
  have HSET := Lib.hid hset'
  have e0' : w1.drew.cell? ⟨b, 0, none⟩ = some (.slice (some ⟨g, 0, none⟩) L.length cap) := e0
  have ei' : w1.drew.cell? ⟨g, i, none⟩ = some (.slice (some ⟨gi, 0, none⟩) 64 64) := ei
  have d1' : w1.drew.cell? ⟨b, 1, none⟩ = some (.int .i64 (tn : Int)) := d1
  clear r1 k1 hrow hset hset' hlen d0 c0 c1 c2 c3 d2 d3
  go_wp2_with fail
  go_region_law (refine step_copy_bytes (by rfl) _ _ (by rfl) gi 64 64 (by rfl) (L.getD i []) HROW.out HLEN.out a c tn xt (by rfl) HX.out HV1.out (by omega) ?_; intro w2 hw2; have HW2 := Lib.hid (HSET.out w2 hw2); have hcz := HW2.out.1.cells; obtain ⟨q0, q1, p0, p1, p2, p3, f1, f2, _⟩ := hcz; clear hw2 p0 p3)
  all_goals
    go_wp2_with fail
    go_ret
    exact ⟨rfl, (HW2.out.1.tear (-1)).down true, ((HK1.out.trans HW2.out.2).setCell ⟨Nat.le_refl _, H.out.lt.1⟩ _ _).setCell ⟨Nat.le_refl _, H.out.lt.1⟩ _ _⟩

def xorB (x y : Int) : Int := bits .xor .u8 x y

set_option maxHeartbeats 1000000 in
theorem spoil_any (b e : Nat) (t R : Int) (dn : Bool) (L : List (List Int)) (i p : Nat) (c : Int) (w : World) (h : Rep w b e t dn R L) (hi : i < L.length) (hp : p < 64) :
    Calls Try.prog 21 #[.pointer (some ⟨b, 0, none⟩), .int .i64 (i : Int), .int .i64 (p : Int), .int .u8 c] w fun y w' => y = .returned (.int .i64 0) ∧ Rep w' b e t dn R (L.set i ((L.getD i []).set p (xorB ((L.getD i []).getD p 0) c))) ∧ Kept b e w w' := by
  obtain ⟨g, cap, gi, e0, ei, hbi, hie, hlen, hrow, hset⟩ := h.row hi
  have hcp := hrow.cell (k := p) (by omega)
  have hfz := hrow.frozen p
  generalize hX : L.getD i [] = X at *
  have HS := Lib.hid (hset (w.setCell ⟨gi, p, none⟩ (.int .u8 (xorB (X.getD p 0) c))) (X.set p (xorB (X.getD p 0) c)) (by simpa using hlen) ⟨rfl, rfl, rfl, by simp [World.setCell], by
    unfold RowAt at hrow
    rw [heap_store _ hrow]
    simp [bv, List.map_set], fun k hk => Below.heap_setCell _ _ _ _ hk⟩)
  clear h hset hrow hlen hX
  have hi' : (i : Int) < (L.length : Int) := by omega
  go_enter Try.func21, Try.ntmps21
  go_wp2_with fail
  go_ret
  exact ⟨rfl, HS.out⟩
set_option maxHeartbeats 1000000 in
theorem spoil_bad (b e : Nat) (t R : Int) (dn : Bool) (L : List (List Int)) (i p : Int) (c : Int) (w : World) (h : Rep w b e t dn R L) (hi : i < 0 ∨ (L.length : Int) ≤ i ∨ p < 0 ∨ 64 ≤ p) :
    Calls Try.prog 21 #[.pointer (some ⟨b, 0, none⟩), .int .i64 i, .int .i64 p, .int .u8 c] w fun y w' => y = .returned (.int .i64 1) ∧ w' = w := by
  obtain ⟨g, cap, c0, _⟩ := h.cells
  clear h
  generalize L.length = n at *
  rcases (by omega : i < 0 ∨ 0 ≤ i ∧ (n : Int) ≤ i ∨ 0 ≤ i ∧ i < (n : Int) ∧ p < 0 ∨ 0 ≤ i ∧ i < (n : Int) ∧ 0 ≤ p ∧ 64 ≤ p) with hi | ⟨hi, hi2⟩ | ⟨hi, hi2, hi3⟩ | ⟨hi, hi2, hi3, hi4⟩
  all_goals
    go_enter Try.func21, Try.ntmps21
    go_wp2
    go_ret
    exact ⟨rfl, rfl⟩
end Go.Proofs.Ytggdaepflcjmfaa
