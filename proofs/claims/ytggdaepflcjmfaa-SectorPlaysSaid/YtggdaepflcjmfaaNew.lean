/-
  Package sector's New, and the law's 'filled'; conditions: at most 4096 sectors.
-/
import Derived.Test.YtggdaepflcjmfaaObj
namespace Go.Proofs.Ytggdaepflcjmfaa
open Go.RowKit

def full (c : Int) : List Int := List.replicate 64 c
theorem full_length (c : Int) : (full c).length = 64 := by simp [full]
theorem full_get (c : Int) {k : Nat} (h : k < 64) : (full c).getD k 0 = c := by
  unfold full
  rw [List.getD_eq_getElem?_getD, List.getElem?_replicate, if_pos h]; rfl

/-- While New makes its sectors. -/
def Mid (w : World) (b k : Nat) (wr : World) : Prop :=
  Below b w wr ∧ ∃ (v : Value) (vs : List Value) (gs : Nat → Nat),
    wr.heap[b]? = some (.cells #[v, .int .i64 (-1), .bool false, .int .i64 0] 55 (0, 0)) ∧ wr.ownsRow (b + 1) 27 1 v k vs ∧
    (∀ i, i < k → vs[i]? = some (.slice (some ⟨gs i, 0, none⟩) 64 64)) ∧ (∀ i, i < k → b < gs i ∧ gs i < wr.heap.size ∧ RowAt wr (gs i) (full 0)) ∧ ∀ i j, i < k → j < k → gs i = gs j → i = j

theorem Mid.start (w : World) : Mid w w.heap.size 0 (w.alloc (.cells #[.slice none 0 0, .int .i64 (-1), .bool false, .int .i64 0] 55)) :=
  ⟨(Below.refl _ _).alloc (Nat.le_refl _) _, .slice none 0 0, [], fun _ => 0, heap_alloc_new w _, World.ownsRow_nil _ _ _ _, fun i hi => by omega, fun i hi => by omega, fun i j hi => by omega⟩

theorem Mid.rep {w wr : World} {b k : Nat} (h : Mid w b k wr) (hk : 0 < k) : Rep wr b wr.heap.size (-1) false 0 (List.replicate k (full 0)) := by
  obtain ⟨hbel, v, vs, gs, hb, ho, hvs, hrow, hinj⟩ := h
  rcases ho.2 with ⟨_, hn⟩ | ⟨g, cap, cur, rfl, hbg, hg, hle, hcap, hsz, htake⟩
  · omega
  · refine ⟨Nat.le_refl _, g, cap, cur, gs, by rw [List.length_replicate]; exact hb, by omega, lt_of_block hg, hg, fun i hi => ?_, fun i hi => ?_, fun i j hi hj => hinj i j (by simpa using hi) (by simpa using hj)⟩
    · rw [List.length_replicate] at hi
      have hc := ho.cells (g := g) rfl i _ (hvs i hi)
      rw [show (⟨g, 0, none⟩ : Addr).add i = ⟨g, i, none⟩ from by unfold Addr.add; split <;> simp_all] at hc
      simpa [World.cell?, hg] using hc
    · rw [List.length_replicate] at hi
      have e : (List.replicate k (full 0)).getD i [] = full 0 := by rw [List.getD_eq_getElem?_getD, List.getElem?_replicate, if_pos hi]; rfl
      rw [e]
      exact ⟨(hrow i hi).1, (hrow i hi).2.1, full_length 0, (hrow i hi).2.2⟩

/-- Behind the make and the append. -/
theorem Mid.next {w wr w5 : World} {b k gg cap : Nat} {v : Value} {vs : List Value} {gs : Nat → Nat} (hbel : Below b w wr)
    (hb : wr.heap[b]? = some (.cells #[v, .int .i64 (-1), .bool false, .int .i64 0] 55 (0, 0))) (ho : wr.ownsRow (b + 1) 27 1 v k vs)
    (hvs : ∀ i, i < k → vs[i]? = some (.slice (some ⟨gs i, 0, none⟩) 64 64)) (hrow : ∀ i, i < k → b < gs i ∧ gs i < wr.heap.size ∧ RowAt wr (gs i) (full 0)) (hinj : ∀ i j, i < k → j < k → gs i = gs j → i = j)
    {c : Array Value} (hc : c = (bv (full 0)).toArray)
    (hown : w5.ownsRow (b + 1) 27 1 (.slice (some ⟨gg, 0, none⟩) (k + 1) cap) (k + 1) (vs ++ [.slice (some ⟨wr.heap.size, 0, none⟩) 64 64]))
    (hgrow : ((wr.alloc (.cells c 5)).alloc (.cells #[.slice (some ⟨wr.heap.size, 0, none⟩) 64 64] 27)).grownBy w5 v.ownBlock) :
    w5.cell? ⟨b, 0, none⟩ = some v ∧ w5.frozen? ⟨b, 0, none⟩ = false ∧ Mid w b (k + 1) (w5.setCell ⟨b, 0, none⟩ (.slice (some ⟨gg, 0, none⟩) (k + 1) cap)) := by
  have hlt := lt_of_block hb
  have hvb : ∀ g, v.ownBlock = some g → b < g ∧ ∃ cu, wr.heap[g]? = some (.cells cu 27 (0, 0)) := fun g hg => by
    rcases ho.2 with ⟨e, _⟩ | ⟨g', cap', cur, e, hb', hg', _⟩
    · rw [e] at hg; simp [Value.ownBlock] at hg
    · rw [e] at hg; simp [Value.ownBlock] at hg; subst hg; exact ⟨hb', cur, hg'⟩
  have old : ∀ j, j < wr.heap.size → v.ownBlock ≠ some j → w5.heap[j]? = wr.heap[j]? := fun j hj hne => by
    rw [hgrow.block j (by simp; omega) (fun e => hne e.symm), Below.heap_alloc _ _ _ (by simp; omega), Below.heap_alloc _ _ _ hj]
  have hb5 : w5.heap[b]? = some (.cells #[v, .int .i64 (-1), .bool false, .int .i64 0] 55 (0, 0)) := (old b hlt fun e => by have := (hvb b e).1; omega).trans hb
  have hsz : wr.heap.size < w5.heap.size := by have := hgrow.size; simp at this; omega
  have hnew : RowAt w5 wr.heap.size (full 0) := by
    unfold RowAt
    rw [hgrow.block wr.heap.size (by simp; omega) (fun e => by
      obtain ⟨_, cu, hcu⟩ := hvb _ e.symm
      have := lt_of_block hcu
      omega), Below.heap_alloc _ _ _ (by simp), ← hc]
    exact heap_alloc_new wr _
  have hl : vs.length = k := by have := ho.1; omega
  have hs5 : ∀ j, j ≠ b → (w5.setCell ⟨b, 0, none⟩ (.slice (some ⟨gg, 0, none⟩) (k + 1) cap)).heap[j]? = w5.heap[j]? := fun j hj => Below.heap_setCell _ _ _ _ hj
  refine ⟨by simp [World.cell?, hb5], by simp [World.frozen?, hb5], ⟨hbel.os ▸ hgrow.os, hbel.tape ▸ hgrow.tape, hbel.output ▸ hgrow.output, ?_, fun j hj => ?_⟩, _, _, fun i => if i < k then gs i else wr.heap.size, by rw [heap_store _ hb5]; rfl, ownsRow_setCell_below hown (a := ⟨b, 0, none⟩) (Nat.lt_succ_self _) _, fun i hi => ?_, fun i hi => ?_, fun i j hi hj => ?_⟩
  · have := hbel.size
    simp only [World.setCell, Array.size_modify]
    omega
  · rw [hs5 j (by omega), old j (by omega) fun e => by have := (hvb j e).1; omega]
    exact hbel.block j hj
  · dsimp only
    by_cases h : i < k
    · rw [if_pos h, List.getElem?_append_left (by omega)]
      exact hvs i h
    · rw [if_neg h, List.getElem?_append_right (by omega), show i - vs.length = 0 by omega]
      rfl
  · dsimp only
    by_cases h : i < k
    · rw [if_pos h]
      obtain ⟨h1, h2, h3⟩ := hrow i h
      refine ⟨h1, by simp only [World.setCell, Array.size_modify]; omega, (hs5 _ (by omega)).trans ((old _ h2 fun e => ?_).trans h3)⟩
      obtain ⟨_, cu, hcu⟩ := hvb _ e
      unfold RowAt at h3
      rw [hcu] at h3
      injection h3 with h3
      injection h3 with _ h3
      exact absurd h3 (by decide)
    · rw [if_neg h]
      exact ⟨hlt, by simp only [World.setCell, Array.size_modify]; omega, (hs5 _ (by omega)).trans hnew⟩
  · dsimp only
    by_cases h : i < k <;> by_cases h' : j < k
    · rw [if_pos h, if_pos h']; exact hinj i j h h'
    · rw [if_pos h, if_neg h']; intro e; have := (hrow i h).2.1; omega
    · rw [if_neg h, if_pos h']; intro e; have := (hrow j h').2.1; omega
    · intro _; omega

theorem make64 (w : World) : (Instr.makeSlice 27 (.int .i64 64) (.int .i64 64)).run Try.prog w = .ok (.slice (some ⟨w.heap.size, 0, none⟩) 64 64) (w.alloc (.cells (bv (full 0)).toArray 5)) := by
  obtain ⟨i0, hi, hz0, hz1, hz2⟩ := info_parts Try.info5
  have h := run_make (P := Try.prog) w 27 5 i0 (.int .u8 0) Try.underlying27 hi hz0 .i64 .i64 64 64 (by omega) (by omega) (by rw [hz2]; omega) (by omega)
  rw [hz1, show madeCells (Value.int .u8 0).cells (Int.toNat 64 * 1) = (bv (full 0)).toArray from by kernel_rfl] at h
  exact h

/-- At each round's head. -/
def Rel0 (w : World) (b : Nat) (n : Int) (v : Value) (wr : World) : Prop := ∃ k : Nat, (k : Int) ≤ n ∧ v = .int .i64 (k : Int) ∧ Mid w b k wr

set_option maxRecDepth 100000 in
set_option maxHeartbeats 2000000 in
theorem new_some (n : Int) (w : World) (h1 : 1 ≤ n) (h2 : n ≤ 4096) :
    Calls Try.prog 8 #[.int .i64 n] w fun e w' => e = .returned (.pointer (some ⟨w.heap.size, 0, none⟩)) ∧ Rep w' w.heap.size w'.heap.size (-1) false 0 (List.replicate n.toNat (full 0)) ∧ Below w.heap.size w w' := by
  have hm := make64
  have p0 := Mid.start w
  generalize hb : w.heap.size = b at *
  have HB := (show Hid (w.heap.size = b) from hb)
  have R1 := Lib.hid (show Rel0 w b n (.int .i64 0) _ from ⟨0, by omega, rfl, p0⟩)
  clear p0
  go_enter Try.func8, Try.ntmps8
  go_wp2_with fail
  clear hb
  generalize w.alloc (.cells #[.slice none 0 0, .int .i64 (-1), .bool false, .int .i64 0] 55) = w0 at *
  go_loopw [13] (fun v wr => Rel0 w b n v wr) (fun i _ => n.toNat - (intOf i).toNat)
  case atStart => exact R1.out
  case round =>
    clear R1
    obtain ⟨k, hk, rfl, hmid⟩ := hrel
    obtain ⟨hbel, v, vs, gs, hhb, ho, hvs, hrow, hinj⟩ := hmid
    have hlb := lt_of_block hhb
    have HBEL := Lib.hid hbel
    have HH := Lib.hid hhb
    have HO := Lib.hid ho
    have HVS := Lib.hid hvs
    have HROW := Lib.hid hrow
    have HINJ := Lib.hid hinj
    obtain ⟨va, vc, rfl⟩ := ownsRow_shape ho
    have c0 : wr.drew.cell? ⟨b, 0, none⟩ = some (.slice va k vc) := by
      show wr.cell? _ = _
      simp [World.cell?, hhb]
    clear hbel hhb ho hvs hrow hinj
    by_cases hlt : (k : Int) < n
    · obtain ⟨i0, hi, hz0, hz1, hz2⟩ := info_parts Try.info27
      obtain ⟨C, hC⟩ : ∃ C, (bv (full 0)).toArray = C := ⟨_, rfl⟩
      have HC := Lib.hid hC
      have c1 : (wr.alloc (.cells C 5)).drew.cell? ⟨b, 0, none⟩ = some (.slice va k vc) := (World.cell?_alloc_lt _ _ _ hlb).trans c0
      have c2 : ((wr.alloc (.cells C 5)).alloc (.cells #[.slice (some ⟨wr.heap.size, 0, none⟩) 64 64] 27)).drew.cell? ⟨b, 0, none⟩ = some (.slice va k vc) := (World.cell?_alloc_lt _ _ _ (Nat.lt_of_lt_of_le hlb (by simp))).trans c1
      have HOW := Lib.hid (show ((wr.alloc (.cells C 5)).alloc (.cells #[.slice (some ⟨wr.heap.size, 0, none⟩) 64 64] 27)).drew.ownsRow (b + 1) 27 1 (.slice va k vc) k vs from (HO.out.alloc (.cells C 5)).alloc (.cells #[.slice (some ⟨wr.heap.size, 0, none⟩) 64 64] 27))
      have HNB := Lib.hid (show ((wr.alloc (.cells C 5)).alloc (.cells #[.slice (some ⟨wr.heap.size, 0, none⟩) 64 64] 27)).drew.heap[wr.heap.size + 1]? = some (.cells #[.slice (some ⟨wr.heap.size, 0, none⟩) 64 64] 27 (0, 0)) from by
        have h := heap_alloc_new (wr.alloc (.cells C 5)) (.cells #[.slice (some ⟨wr.heap.size, 0, none⟩) 64 64] 27)
        rw [World.size_alloc] at h
        exact h)
      have hm' : ∀ w : World, (Instr.makeSlice 27 (.int .i64 64) (.int .i64 64)).run Try.prog w = .ok (.slice (some ⟨w.heap.size, 0, none⟩) 64 64) (w.alloc (.cells C 5)) := fun w => by rw [hm w, hC]
      clear hC hm
      go_wp2_with fail
      go_region_law (refine step_append_lies _ (by rfl) _ _ _ (by rfl) (b + 1) 27 i0 (.slice none 0 0) 1 24 Try.underlying48 hi hz0 hz1 hz2 rfl (by decide) (.slice va k vc) k vs (by rfl) HOW.out ⟨wr.heap.size + 1, 0, none⟩ 1 1 [.slice (some ⟨wr.heap.size, 0, none⟩) 64 64] (by rfl) (by rfl) (World.news_of_block (cs := #[.slice (some ⟨wr.heap.size, 0, none⟩) 64 64]) (t := 27) (fr := (0, 0)) HNB.out) (by simp [Value.oneCell']) (by omega) (by unfold maxLen; omega) (by omega) (by simp; omega) (wr.heap.size + 1 + 1) (by simp) ?_; intro gg cap w5 hown hgrow hat hltg; obtain ⟨d6, e6, hmid⟩ := Mid.next HBEL.out HH.out HO.out HVS.out HROW.out HINJ.out HC.out.symm hown ⟨hgrow.os, hgrow.tape, hgrow.output, hgrow.size, hgrow.block⟩; have HW := Lib.hid hmid; clear hown hgrow hat hltg hmid)
      all_goals
        go_wp2_with fail
        go_roundw
        case rel =>
          first
            | exact ⟨k + 1, by omega, by go_num, HW.out⟩
            | ((repeat apply Exists.intro); exact ⟨⟨k + 1, by omega, by go_num, HW.out⟩, rfl⟩)
        case measure => simp [intOf]; omega
    · have hkn : n.toNat = k := by omega
      have HR := Lib.hid (show Rep wr b wr.heap.size (-1) false 0 (List.replicate n.toNat (full 0)) from by rw [hkn]; exact Mid.rep (w := w) (b := b) (wr := wr) ⟨HBEL.out, _, _, _, HH.out, HO.out, HVS.out, HROW.out, HINJ.out⟩ (by omega))
      clear hkn
      go_wp2_with fail
      go_ret
      exact ⟨rfl, HR.out, HBEL.out⟩

set_option maxHeartbeats 400000 in
theorem new_none (n : Int) (w : World) (h : n < 1 ∨ 1 ≤ n ∧ 4096 < n) :
    Calls Try.prog 8 #[.int .i64 n] w fun e w' => e = .returned (.pointer none) ∧ w = w' := by
  rcases h with h | ⟨h, h1⟩
  all_goals
    go_enter Try.func8, Try.ntmps8
    go_wp2
    go_ret
    exact ⟨rfl, rfl⟩

end Go.Proofs.Ytggdaepflcjmfaa
