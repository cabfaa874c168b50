/-
  What a slice of numbers reads as, and the contracts of slices.Clone, Max, Min over it; conditions: the slice holds at most 100000 numbers, Max and Min of at least one.
-/
import Derived.Test.YtojiighogjfgjaaHelp
import Derived.WalkLawsBesides
import Derived.Laws.LoneSync
import Derived.BigQuiet
import Derived.Deep.QuietTactic
import Derived.Deep.RegionWith
import Derived.Lib.Hide
import Derived.ArgAppend
import Derived.Laws.AppendOwn
namespace Go.Proofs.Ytojiighogjfgjaa
open Go.RowKit

/-- A slice value reads as these numbers. -/
def Ints (w : World) (v : Value) (zs : List Int) : Prop :=
  (v = .slice none 0 0 ∧ zs = []) ∨ ∃ g o cap, v = .slice (some ⟨g, o, none⟩) zs.length cap ∧ zs.length ≤ cap ∧ g < w.heap.size ∧ ∀ k, k < zs.length → w.cell? ⟨g, o + k, none⟩ = some (.int .i64 (zs.getD k 0))

theorem getD_map_int (zs : List Int) (k : Nat) (h : k < zs.length) : (zs.map (Value.int .i64))[k]? = some (.int .i64 (zs.getD k 0)) := by
  rw [List.getElem?_map, List.getElem?_eq_getElem h, List.getD_eq_getElem?_getD, List.getElem?_eq_getElem h]; rfl

theorem Ints.of_row {w : World} {base : Nat} {v : Value} {zs : List Int} (h : w.ownsRow base 3 1 v zs.length (zs.map (Value.int .i64))) : Ints w v zs := by
  rcases h.2 with ⟨rfl, hn⟩ | ⟨g, cap, cur, rfl, hb, hg, hle, hcap, hsz, htake⟩
  · exact .inl ⟨rfl, List.length_eq_zero_iff.1 hn⟩
  · refine .inr ⟨g, 0, cap, rfl, hle, lt_of_block hg, fun k hk => ?_⟩
    have hcell := h.cells (g := g) rfl k _ (getD_map_int zs k hk)
    rw [Nat.zero_add]
    rwa [show (⟨g, 0, none⟩ : Addr).add k = ⟨g, k, none⟩ from by unfold Addr.add; split <;> simp_all] at hcell

theorem Ints.keep {w w' : World} {v : Value} {zs : List Int} (h : Ints w v zs) (hs : w.heap.size ≤ w'.heap.size) (hk : ∀ g, v.ownBlock = some g → w'.heap[g]? = w.heap[g]?) : Ints w' v zs := by
  rcases h with h | ⟨g, o, cap, rfl, hc, hg, hcell⟩
  · exact .inl h
  · exact .inr ⟨g, o, cap, rfl, hc, by omega, fun k hk' => (World.cell?_of_block (hk g rfl)).trans (hcell k hk')⟩

theorem Ints.below {B : Nat} {w w' : World} {v : Value} {zs : List Int} (h : Ints w v zs) (hb : Below B w w') (hB : ∀ g, v.ownBlock = some g → g < B) : Ints w' v zs :=
  h.keep hb.size fun g hg => hb.block g (hB g hg)

theorem ret_i64 {a b : Int} (h : a = b) : Ending.returned (.int .i64 a) = .returned (.int .i64 b) := by rw [h]

theorem Try.info3 : (Try.prog.info? 3).map (fun i => (i.zero, i.size, i.bytes)) = some (some (.int .i64 0), 1, 8) := by kernel_rfl

set_option maxHeartbeats 400000 in
theorem clone_any (v : Value) (zs : List Int) (w : World) (h : Ints w v zs) (hl : zs.length ≤ 100000) :
    Calls Try.prog 18 #[v] w fun e w' => (∃ v', e = .returned v' ∧ w'.ownsRow w.heap.size 3 1 v' zs.length (zs.map (Value.int .i64))) ∧ Below w.heap.size w w' := by
  have heq := fun w a l c => Lib.run_eql_slice_nil (P := Try.prog) w 22 3 a l c 0 0 Try.underlying22
  rcases h with ⟨rfl, rfl⟩ | ⟨g, o, cap, rfl, hcap, hg, hc⟩
  · go_enter Try.func18, Try.ntmps18
    go_wp2
    go_ret
    exact ⟨⟨_, rfl, World.ownsRow_nil _ _ _ _⟩, Below.refl _ _⟩
  · obtain ⟨i0, hi, hz0, hz1, hz2⟩ := info_parts Try.info3
    have hnews : ∀ j u, (zs.map (Value.int .i64))[j]? = some u → (w.alloc (.cells #[] 3)).cell? ((⟨g, o, none⟩ : Addr).add j) = some u := fun j u hu => by
      have hj : j < zs.length := by
        have := (List.getElem?_eq_some_iff.1 hu).1
        simpa using this
      rw [getD_map_int zs j hj] at hu
      rw [show (⟨g, o, none⟩ : Addr).add j = ⟨g, o + j, none⟩ from by unfold Addr.add; split <;> simp_all, World.cell?_alloc_lt _ _ _ hg, hc j hj]
      exact hu
    have HN := Lib.hid hnews
    have hown := World.ownsRow_made (base := w.heap.size) (e := 3) (size := 1) w #[] 0 (Nat.le_refl _) (by unfold maxLen; omega) rfl
    have HO := Lib.hid hown
    have hb1 := Lib.hid ((Below.refl w.heap.size w).alloc (Nat.le_refl _) (.cells #[] 3))
    clear hnews hc hown
    go_enter Try.func18, Try.ntmps18
    go_wp2_with (at_builtin; refine wpList_append_own _ rfl _ _ 22 rfl w.heap.size 3 i0 (.int .i64 0) 1 8 Try.underlying22 hi hz0 hz1 hz2 rfl (by decide) _ _ _ rfl HO.out ⟨g, o, none⟩ zs.length cap (zs.map (Value.int .i64)) rfl (by simp) HN.out (fun x hx => by simp at hx; obtain ⟨y, _, rfl⟩ := hx; rfl) (by unfold maxLen; omega) (by omega) (by simp) ?_; intro v' w2 hown' hgrow _; simp only [Nat.zero_add, List.nil_append] at hown'; have HO2 := Lib.hid hown'; have HB2 := Lib.hid (hb1.out.grown hgrow (by simp) (fun k hk => (HO.out.lt k hk).1)); clear hown' hgrow)
    go_ret
    exact ⟨⟨_, rfl, HO2.out⟩, HB2.out⟩

/-- The greatest; the least. -/
def maxL : List Int → Int
  | [] => 0
  | x :: l => l.foldl max x
def minL : List Int → Int
  | [] => 0
  | x :: l => l.foldl min x

theorem foldl_take (f : Int → Int → Int) (x : Int) (l : List Int) (k : Nat) (h : k < l.length) : (l.take (k + 1)).foldl f x = f ((l.take k).foldl f x) (l.getD k 0) := by
  rw [List.take_succ_eq_append_getElem h, List.foldl_append, List.getD_eq_getElem?_getD, List.getElem?_eq_getElem h]
  rfl

set_option maxHeartbeats 400000 in
theorem max_any (v : Value) (x : Int) (l : List Int) (w : World) (h : Ints w v (x :: l)) (hl : l.length ≤ 100000) :
    Calls Try.prog 21 #[v] w fun e w' => e = .returned (.int .i64 (maxL (x :: l))) ∧ w' = w := by
  rcases h with ⟨_, h⟩ | ⟨g, o, cap, rfl, hcap, hg, hc⟩
  · cases h
  have c0 : w.cell? ⟨g, o, none⟩ = some (.int .i64 x) := hc 0 (by simp)
  have HC := Lib.hid (fun k (hk : k < l.length) => hc (k + 1) (by simp; omega))
  have hlen : (x :: l).length = l.length + 1 := rfl
  rw [hlen]
  clear hc hcap hlen
  have HS := Lib.hid (fun k (hk : k < l.length) => foldl_take max x l k hk)
  have HE := Lib.hid (show maxL (x :: l) = (l.take l.length).foldl max x from by rw [List.take_length]; rfl)
  go_enter Try.func21, Try.ntmps21
  go_wp2
  go_loop [3, 4] (fun m i => ∃ k : Nat, k ≤ l.length ∧ i = .int .i64 ((k + 1 : Nat) : Int) ∧ m = .int .i64 ((l.take k).foldl max x)) (fun _ i => l.length + 1 - (intOf i).toNat)
  case atStart => exact ⟨0, Nat.zero_le _, rfl, rfl⟩
  case round =>
    obtain ⟨k, hk, rfl, rfl⟩ := hrel
    by_cases hlt : k < l.length
    · have hcell : w.cell? ⟨g, o + (k + 1), none⟩ = some (.int .i64 (l.getD k 0)) := HC.out k hlt
      have hs := HS.out k hlt
      have HS2 := Lib.hid hs
      clear hs
      generalize hy : l.getD k 0 = y at *
      generalize hm : (l.take k).foldl max x = m at *
      have HY := Lib.hid hy
      have HM := Lib.hid hm
      clear hy hm
      have HIF := Lib.hid (show (if m < y then y else m) = max m y from by split <;> omega)
      go_wp2
      refine ⟨⟨k + 1, by omega, by go_num, ?_⟩, ?_⟩
      · rw [HS2.out, HIF.out]
      · simp [intOf]; omega
    · go_wp2
      go_ret
      exact ⟨ret_i64 (by rw [HE.out, show l.length = k from by omega]), rfl⟩

set_option maxHeartbeats 400000 in
theorem min_any (v : Value) (x : Int) (l : List Int) (w : World) (h : Ints w v (x :: l)) (hl : l.length ≤ 100000) :
    Calls Try.prog 22 #[v] w fun e w' => e = .returned (.int .i64 (minL (x :: l))) ∧ w' = w := by
  rcases h with ⟨_, h⟩ | ⟨g, o, cap, rfl, hcap, hg, hc⟩
  · cases h
  have c0 : w.cell? ⟨g, o, none⟩ = some (.int .i64 x) := hc 0 (by simp)
  have HC := Lib.hid (fun k (hk : k < l.length) => hc (k + 1) (by simp; omega))
  have hlen : (x :: l).length = l.length + 1 := rfl
  rw [hlen]
  clear hc hcap hlen
  have HS := Lib.hid (fun k (hk : k < l.length) => foldl_take min x l k hk)
  have HE := Lib.hid (show minL (x :: l) = (l.take l.length).foldl min x from by rw [List.take_length]; rfl)
  go_enter Try.func22, Try.ntmps22
  go_wp2
  go_loop [3, 4] (fun m i => ∃ k : Nat, k ≤ l.length ∧ i = .int .i64 ((k + 1 : Nat) : Int) ∧ m = .int .i64 ((l.take k).foldl min x)) (fun _ i => l.length + 1 - (intOf i).toNat)
  case atStart => exact ⟨0, Nat.zero_le _, rfl, rfl⟩
  case round =>
    obtain ⟨k, hk, rfl, rfl⟩ := hrel
    by_cases hlt : k < l.length
    · have hcell : w.cell? ⟨g, o + (k + 1), none⟩ = some (.int .i64 (l.getD k 0)) := HC.out k hlt
      have hs := HS.out k hlt
      have HS2 := Lib.hid hs
      clear hs
      generalize hy : l.getD k 0 = y at *
      generalize hm : (l.take k).foldl min x = m at *
      have HY := Lib.hid hy
      have HM := Lib.hid hm
      clear hy hm
      have HIF := Lib.hid (show (if y < m then y else m) = min m y from by split <;> omega)
      go_wp2
      refine ⟨⟨k + 1, by omega, by go_num, ?_⟩, ?_⟩
      · rw [HS2.out, HIF.out]
      · simp [intOf]; omega
    · go_wp2
      go_ret
      exact ⟨ret_i64 (by rw [HE.out, show l.length = k from by omega]), rfl⟩

end Go.Proofs.Ytojiighogjfgjaa
