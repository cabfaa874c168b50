/-
  What a slice of bytes reads as, and slices.Clone over it; conditions: at most 100000 bytes.
-/
import Derived.Test.YtggdaepflcjmfaaHelp
import Derived.WalkLawsBesides
import Derived.Laws.LoneSync
import Derived.BigQuiet
import Derived.Deep.QuietTactic
import Derived.Deep.RegionWith
import Derived.Lib.Hide
import Derived.ArgAppend
import Derived.Laws.AppendOwn
import Derived.Laws.AppendOwnNone
namespace Go.Proofs.Ytggdaepflcjmfaa
open Go.RowKit

def bv (x : List Int) : List Value := x.map (Value.int .u8)
theorem bv_length (x : List Int) : (bv x).length = x.length := by simp [bv]
theorem bv_get (zs : List Int) (k : Nat) (h : k < zs.length) : (bv zs)[k]? = some (.int .u8 (zs.getD k 0)) := by
  unfold bv
  rw [List.getElem?_map, List.getElem?_eq_getElem h, List.getD_eq_getElem?_getD, List.getElem?_eq_getElem h]; rfl

/-- A slice value reads as these bytes. -/
def BVals (w : World) (v : Value) (zs : List Int) : Prop :=
  (v = .slice none 0 0 ∧ zs = []) ∨ (∃ x cap, v = .slice (some x) 0 cap ∧ zs = []) ∨ ∃ g o cap, v = .slice (some ⟨g, o, none⟩) zs.length cap ∧ zs.length ≤ cap ∧ g < w.heap.size ∧ ∀ k, k < zs.length → w.cell? ⟨g, o + k, none⟩ = some (.int .u8 (zs.getD k 0))

theorem BVals.of_row {w : World} {base : Nat} {v : Value} {zs : List Int} (h : w.ownsRow base 5 1 v zs.length (bv zs)) : BVals w v zs := by
  rcases h.2 with ⟨rfl, hn⟩ | ⟨g, cap, cur, rfl, hb, hg, hle, hcap, hsz, htake⟩
  · exact .inl ⟨rfl, List.length_eq_zero_iff.1 hn⟩
  · refine .inr (.inr ⟨g, 0, cap, rfl, hle, lt_of_block hg, fun k hk => ?_⟩)
    have hcell := h.cells (g := g) rfl k _ (bv_get zs k hk)
    rw [Nat.zero_add]
    rwa [show (⟨g, 0, none⟩ : Addr).add k = ⟨g, k, none⟩ from by unfold Addr.add; split <;> simp_all] at hcell

theorem BVals.keep {w w' : World} {v : Value} {zs : List Int} (h : BVals w v zs) (hs : w.heap.size ≤ w'.heap.size) (hk : ∀ g, v.ownBlock = some g → g < w.heap.size → w'.heap[g]? = w.heap[g]?) : BVals w' v zs := by
  rcases h with h | h | ⟨g, o, cap, rfl, hc, hg, hcell⟩
  · exact .inl h
  · exact .inr (.inl h)
  · exact .inr (.inr ⟨g, o, cap, rfl, hc, by omega, fun k hk' => (World.cell?_of_block (hk g rfl hg)).trans (hcell k hk')⟩)
theorem BVals.below {w w' : World} {v : Value} {zs : List Int} (h : BVals w v zs) (hb : Below w.heap.size w w') : BVals w' v zs :=
  h.keep hb.size fun g _ hg => hb.block g hg
theorem BVals.shape {w : World} {v : Value} {zs : List Int} (h : BVals w v zs) : ∃ a c, v = .slice a zs.length c := by
  rcases h with ⟨rfl, rfl⟩ | ⟨x, cap, rfl, rfl⟩ | ⟨g, o, cap, rfl, _⟩
  · exact ⟨_, _, rfl⟩
  · exact ⟨_, _, rfl⟩
  · exact ⟨_, _, rfl⟩
theorem BVals.lit (w : World) (l : List Int) (c : Array Value) (fr : Nat × Nat) (hc : c = (bv l).toArray) : BVals (w.alloc (.cells c 5 fr)) (.slice (some ⟨w.heap.size, 0, none⟩) l.length l.length) l := by
  refine .inr (.inr ⟨w.heap.size, 0, l.length, rfl, Nat.le_refl _, by simp, fun k hk => ?_⟩)
  have hh : (w.alloc (.cells c 5 fr)).heap[w.heap.size]? = some (.cells c 5 fr) := heap_alloc_new w _
  rw [Nat.zero_add]
  subst hc
  simp only [World.cell?, hh]
  simpa using bv_get l k hk

theorem Try.info5 : (Try.prog.info? 5).map (fun i => (i.zero, i.size, i.bytes)) = some (some (.int .u8 0), 1, 1) := by kernel_rfl

set_option maxHeartbeats 400000 in
theorem clone_any (v : Value) (zs : List Int) (w : World) (h : BVals w v zs) (hl : zs.length ≤ 100000) :
    Calls Try.prog 24 #[v] w fun e w' => (∃ v', e = .returned v' ∧ w'.ownsRow w.heap.size 5 1 v' zs.length (bv zs)) ∧ Below w.heap.size w w' := by
  have heq := fun w a l c => Lib.run_eql_slice_nil (P := Try.prog) w 27 5 a l c 0 0 Try.underlying27
  have hany : (v = .slice none 0 0 ∧ zs = []) ∨ ∃ ad cap, v = .slice (some ad) zs.length cap ∧ ∀ j u, (bv zs)[j]? = some u → (w.alloc (.cells #[] 5)).cell? (ad.add j) = some u := by
    rcases h with h | ⟨x, cap, rfl, rfl⟩ | ⟨g, o, cap, rfl, hcap, hg, hc⟩
    · exact .inl h
    · exact .inr ⟨x, cap, rfl, fun j u hu => by simp [bv] at hu⟩
    · refine .inr ⟨_, cap, rfl, fun j u hu => ?_⟩
      have hj : j < zs.length := by
        have := (List.getElem?_eq_some_iff.1 hu).1
        simpa [bv] using this
      rw [bv_get zs j hj] at hu
      rw [show (⟨g, o, none⟩ : Addr).add j = ⟨g, o + j, none⟩ from by unfold Addr.add; split <;> simp_all, World.cell?_alloc_lt _ _ _ hg, hc j hj]
      exact hu
  rcases hany with ⟨rfl, rfl⟩ | ⟨ad, cap, rfl, hnews⟩
  · go_enter Try.func24, Try.ntmps24
    go_wp2
    go_ret
    exact ⟨⟨_, rfl, World.ownsRow_nil _ _ _ _⟩, Below.refl _ _⟩
  · obtain ⟨i0, hi, hz0, hz1, hz2⟩ := info_parts Try.info5
    have HN := Lib.hid hnews
    have hown := World.ownsRow_made (base := w.heap.size) (e := 5) (size := 1) w #[] 0 (Nat.le_refl _) (by unfold maxLen; omega) rfl
    have HO := Lib.hid hown
    have hb1 := Lib.hid ((Below.refl w.heap.size w).alloc (Nat.le_refl _) (.cells #[] 5))
    clear hnews hown h
    go_enter Try.func24, Try.ntmps24
    go_wp2_with (at_builtin; refine wpList_append_own _ rfl _ _ 27 rfl w.heap.size 5 i0 (.int .u8 0) 1 1 Try.underlying27 hi hz0 hz1 hz2 rfl (by decide) _ _ _ rfl HO.out ad zs.length cap (bv zs) rfl (by simp [bv]) HN.out (fun x hx => by simp [bv] at hx; obtain ⟨y, _, rfl⟩ := hx; rfl) (by unfold maxLen; omega) (by omega) (by simp) ?_; intro v' w2 hown' hgrow _; simp only [Nat.zero_add, List.nil_append] at hown'; have HO2 := Lib.hid hown'; have HB2 := Lib.hid (hb1.out.grown hgrow (by simp) (fun k hk => (HO.out.lt k hk).1)); clear hown' hgrow)
    go_ret
    exact ⟨⟨_, rfl, HO2.out⟩, HB2.out⟩

end Go.Proofs.Ytggdaepflcjmfaa
