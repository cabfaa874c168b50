/-
  Package pool's Put; conditions: at most 1000 messages, the bound from 1 to 1000.
-/
import Derived.Test.YtajafcbnhcncoaaObj
import Derived.Deep.RegionLaw
import Derived.Deep.AppendLies
namespace Go.Proofs.Ytajafcbnhcncoaa
open Go.RowKit
variable {S : Nat → Prop}

theorem Try.info28 : (Try.prog.info? 28).map (fun i => (i.zero, i.size, i.bytes)) = some (some (.slice none 0 0), 1, 24) := by kernel_rfl

def putCode (lim : Int) (L : List (List Int)) : Int := if lim ≤ (L.length : Int) then 9 else 0
def putL (lim : Int) (L : List (List Int)) (x : List Int) : List (List Int) := if lim ≤ (L.length : Int) then L else L ++ [x]

theorem Msgs.snoc {w : World} {b : Nat} {vs : List Value} {L : List (List Int)} {v : Value} {x : List Int} (h : Msgs S w b vs L) (hv : w.ownsRow (b + 1) 5 1 v x.length (bv x)) (hs : ∀ g, v.ownBlock = some g → S g) : Msgs S w b (vs ++ [v]) (L ++ [x]) := by
  refine ⟨by simp [h.1], fun u hu => ?_, fun i hi => ?_⟩
  · rw [List.mem_append] at hu
    rcases hu with hu | hu
    · exact h.2.1 u hu
    · simp at hu; rw [hu]; exact hs
  by_cases hl : i < L.length
  · have h1 := h.2.2 i hl
    rw [List.getD_eq_getElem?_getD, List.getD_eq_getElem?_getD] at h1 ⊢
    rw [List.getElem?_append_left (by rw [h.1]; exact hl), List.getElem?_append_left hl]
    exact h1
  · have hi' : i = L.length := by simp at hi; omega
    subst hi'
    rw [List.getD_eq_getElem?_getD, List.getD_eq_getElem?_getD, List.getElem?_append_right (by rw [h.1]; omega), List.getElem?_append_right (by omega), h.1]
    simpa using hv

set_option maxHeartbeats 400000 in
theorem put_nil (v : Value) (w : World) : Calls Try.prog 10 #[.pointer none, v] w fun e w' => e = .returned (.int .i64 1) ∧ w' = w := by
  go_enter Try.func10, Try.ntmps10
  go_wp2
  go_ret
  exact ⟨rfl, rfl⟩
set_option maxHeartbeats 400000 in
theorem put_long (b : Nat) (a : Option Addr) (n c : Nat) (w : World) (h : 1000 < n) (hm : n ≤ maxLen) : Calls Try.prog 10 #[.pointer (some ⟨b, 0, none⟩), .slice a n c] w fun e w' => e = .returned (.int .i64 1) ∧ w' = w := by
  unfold maxLen at hm
  go_enter Try.func10, Try.ntmps10
  go_wp2
  go_ret
  exact ⟨rfl, rfl⟩

theorem BVals.fr {w w' : World} {b f : Nat} {v : Value} {zs : List Int} (h : BVals w v zs) (hfr : Fr b f w w') (hg : zs ≠ [] → ∀ g, v.ownBlock = some g → g ≠ b ∧ g ≠ f) : BVals w' v zs := by
  rcases h with h | h | ⟨g, o, cap, rfl, hc, hl, hcell⟩
  · exact .inl h
  · exact .inr (.inl h)
  · refine .inr (.inr ⟨g, o, cap, rfl, hc, Nat.lt_of_lt_of_le hl hfr.size, fun k hk => ?_⟩)
    have hne : zs ≠ [] := by intro e; rw [e] at hk; simp at hk
    have := hg hne g rfl
    exact (World.cell?_of_block (hfr.block g hl this.1 this.2)).trans (hcell k hk)

/-- Behind the clone and the append. -/
theorem behind_put {w1 w4 w5 : World} {b f : Nat} {lim R : Int} {vs : List Value} {L : List (List Int)} {x : List Int} {qa a4 : Option Addr} {qc k4 gg cap : Nat}
    (hb : w1.heap[b]? = some (.cells #[.int .i64 lim, .slice qa L.length qc, .int .i64 R] 56 (0, 0))) (ho : w1.ownsRow (b + 1) 28 1 (.slice qa L.length qc) L.length vs) (hf : (Value.slice qa L.length qc).ownBlock.getD b = f) (hm : Msgs S w1 b vs L)
    (hS : ∀ g, w1.heap.size ≤ g → S g) (b4 : Below w1.heap.size w1 w4) (o4 : w4.ownsRow w1.heap.size 5 1 (.slice a4 x.length k4) x.length (bv x))
    (hown : w5.ownsRow (b + 1) 28 1 (.slice (some ⟨gg, 0, none⟩) (L.length + 1) cap) (L.length + 1) (vs ++ [.slice a4 x.length k4])) (hgrow : (w4.alloc (.cells #[.slice a4 x.length k4] 28)).grownBy w5 (Value.slice qa L.length qc).ownBlock)
    (hat : (Value.slice qa L.length qc).ownBlock = some gg ∨ gg = w4.heap.size + 1) :
    w5.cell? ⟨b, 1, none⟩ = some (.slice qa L.length qc) ∧ w5.frozen? ⟨b, 1, none⟩ = false ∧ Went S w1 b f lim (L ++ [x]) (w5.setCell ⟨b, 1, none⟩ (.slice (some ⟨gg, 0, none⟩) (L.length + 1) cap)) := by
  have hlt := lt_of_block hb
  have hrow : ∀ g, (Value.slice qa L.length qc).ownBlock = some g → b < g ∧ ∃ c, w1.heap[g]? = some (.cells c 28 (0, 0)) := fun g hg => by
    rcases ho.2 with ⟨e, _⟩ | ⟨g', cap', cur, e, hb', hg', _⟩
    · rw [e] at hg; simp [Value.ownBlock] at hg
    · rw [e] at hg; simp [Value.ownBlock] at hg; subst hg; exact ⟨hb', cur, hg'⟩
  have old : ∀ k, k < w1.heap.size → (Value.slice qa L.length qc).ownBlock ≠ some k → w5.heap[k]? = w1.heap[k]? := fun k hk hne => by
    have h4 := b4.size
    rw [hgrow.block k (by simp; omega) (fun e => hne e.symm), Below.heap_alloc _ _ _ (by omega)]
    exact b4.block k hk
  have hb5 : w5.heap[b]? = some (.cells #[.int .i64 lim, .slice qa L.length qc, .int .i64 R] 56 (0, 0)) := by
    rw [old b hlt (fun e => by have := (hrow b e).1; omega)]
    exact hb
  have hsz : w1.heap.size ≤ w5.heap.size := by have := hgrow.size; have := b4.size; simp at *; omega
  have hm5 : Msgs S w5 b vs L := hm.keep fun g c _ hg => old g (lt_of_block hg) fun e => by
    obtain ⟨_, c', hc'⟩ := hrow g e
    rw [hg] at hc'
    cases hc'
  have ho4 : w4.ownsRow w1.heap.size 5 1 (.slice a4 x.length k4) x.length (bv x) := o4
  have ho5 : w5.ownsRow (b + 1) 5 1 (.slice a4 x.length k4) x.length (bv x) := ownsRow_less (own_keep ho4 fun g c hg hc hbase => by
    rw [hgrow.block g (by have := lt_of_block hc; simp; omega) (fun e => by
      obtain ⟨_, c', hc'⟩ := hrow g e.symm
      have := lt_of_block hc'
      omega), Below.heap_alloc _ _ _ (lt_of_block hc)]) (by omega)
  have hlen : (vs ++ [Value.slice a4 x.length k4]).length = L.length + 1 := by simp [hm.1]
  rw [← hlen] at hown ⊢
  refine ⟨by simp [World.cell?, hb5], by simp [World.frozen?, hb5], gg, Rep.stored hb5 hown (hm5.snoc ho5 fun g hg => hS g (o4.lt g hg).1), ?_, ⟨hgrow.os.trans b4.os, hgrow.tape.trans b4.tape, hgrow.output.trans b4.output, by simpa [World.setCell] using hsz, fun k hk h1 h2 => ?_⟩⟩
  · rcases hat with h | h
    · rw [h] at hf
      exact .inr (.inl hf)
    · have := b4.size
      exact .inr (.inr (by omega))
  · rw [Below.heap_setCell _ _ _ _ h1]
    exact old k hk fun e => by rw [e] at hf; exact h2 hf

set_option maxRecDepth 100000 in
set_option maxHeartbeats 2000000 in
theorem put_any (b f : Nat) (lim : Int) (L : List (List Int)) (x : List Int) (v : Value) (w : World) (h : Rep S w b lim L f) (hv : BVals w v x) (hx : x.length ≤ 1000) (hL : L.length ≤ 1000) (hS : ∀ g, w.heap.size ≤ g → S g) (hg : x ≠ [] → ∀ g, v.ownBlock = some g → g ≠ b ∧ g ≠ f) :
    Calls Try.prog 10 #[.pointer (some ⟨b, 0, none⟩), v] w fun e w' => e = .returned (.int .i64 (putCode lim L)) ∧ Went S w b f lim (putL lim L x) w' := by
  have H := Lib.hid h
  have HX := Lib.hid hv
  obtain ⟨va, vc, rfl⟩ := hv.shape
  obtain ⟨q, R, vs, c0, c1, c2, f1, f2, hb, ho, hf, hm⟩ := h.cells
  have hlen := hm.1
  obtain ⟨qa, qc, rfl⟩ := ownsRow_shape ho
  rw [hlen] at c1
  have HS := Lib.hid hS
  clear h hv hb ho hf hm f1 f2 c2 hS
  by_cases hfull : lim ≤ (L.length : Int)
  · have HC := Lib.hid (show putCode lim L = 9 from if_pos hfull)
    have HP := Lib.hid (show putL lim L x = L from if_pos hfull)
    have hd : decide (lim ≤ (L.length : Int)) = true := decide_eq_true hfull
    go_enter Try.func10, Try.ntmps10
    go_wp2_with fail
    go_quiet (fail)
    go_wp2_with fail
    go_ret
    rw [HC.out, HP.out]
    exact ⟨rfl, f, H.out.drewN _, .inr (.inl rfl), (Fr.refl _ _ _).drewN _⟩
  · have HC := Lib.hid (show putCode lim L = 0 from if_neg hfull)
    have HP := Lib.hid (show putL lim L x = L ++ [x] from if_neg hfull)
    have hd : decide (lim ≤ (L.length : Int)) = false := decide_eq_false hfull
    obtain ⟨i0, hi, hz0, hz1, hz2⟩ := info_parts Try.info28
    go_enter Try.func10, Try.ntmps10
    go_wp2_with fail
    go_quiet (fail)
    go_wp2_with fail
    refine (add_any b f lim L (w.drewN nq) (H.out.drewN nq)).mono ?_
    rintro e w1 ⟨⟨v1, rfl⟩, r1, b1⟩
    have HB1 := Lib.hid (show Fr b f w w1 from ⟨b1.os, b1.tape, b1.output, b1.size, b1.block⟩)
    have HS1 := Lib.hid (show ∀ g, w1.heap.size ≤ g → S g from fun g hg => HS.out g (Nat.le_trans b1.size hg))
    have HX1 := Lib.hid (HX.out.fr (w' := w1) ⟨b1.os, b1.tape, b1.output, b1.size, b1.block⟩ hg)
    obtain ⟨q1, R1, vs1, d0, d1, d2, e1, e2, hb1, ho1, hf1, hm1⟩ := r1.cells
    obtain ⟨qa1, qc1, hq1⟩ := ownsRow_shape ho1
    rw [hq1] at d1 ho1 hf1 hb1
    have hl1 := hm1.1
    rw [hl1] at d1 ho1 hf1 hb1
    have HB := Lib.hid hb1
    have HO := Lib.hid ho1
    have HF := Lib.hid hf1
    have HM := Lib.hid hm1
    have hlt := r1.lt
    clear b1 r1 hb1 ho1 hf1 hm1 d0 d2 e2 hq1
    have d1' : w1.drew.cell? ⟨b, 1, none⟩ = some (.slice qa1 L.length qc1) := d1
    go_wp2_with fail
    go_region_law (first
        | (rw [if_pos (by rfl)]; go_simp; go_at_call 20; refine (clone_any _ x _ ?_ (by omega)).mono ?_; exact HX1.out.keep (Nat.le_refl _) (fun _ _ _ => rfl); rintro e w4 ⟨⟨v4, rfl, o4⟩, b4⟩; obtain ⟨a4, k4, rfl⟩ := ownsRow_shape o4; have d4 : w4.cell? ⟨b, 1, none⟩ = some (.slice qa1 L.length qc1) := (b4.cell (p := ⟨b, 1, none⟩) hlt).trans d1; have d5 : (w4.alloc (.cells #[.slice a4 x.length k4] 28)).cell? ⟨b, 1, none⟩ = some (.slice qa1 L.length qc1) := (World.cell?_alloc_lt _ _ _ (Nat.lt_of_lt_of_le hlt b4.size)).trans d4; have hs4 := b4.size; have HOW := Lib.hid ((own_keep HO.out (w' := w4) (fun g _ _ hg _ => b4.block g (lt_of_block hg))).alloc (.cells #[.slice a4 x.length k4] 28)); have HO4 := Lib.hid o4; have HB4 := Lib.hid (show Below w1.heap.size w1 w4 from ⟨b4.os, b4.tape, b4.output, b4.size, b4.block⟩); clear o4 b4; go_simp)
        | (refine step_append_lies _ (by rfl) _ _ _ (by rfl) (b + 1) 28 i0 (.slice none 0 0) 1 24 Try.underlying49 hi hz0 hz1 hz2 rfl (by decide) (.slice qa1 L.length qc1) L.length vs1 (by rfl) HOW.out ⟨w4.heap.size, 0, none⟩ 1 1 [.slice a4 x.length k4] (by rfl) (by rfl) (World.news_of_block (cs := #[.slice a4 x.length k4]) (t := 28) (fr := (0, 0)) (heap_alloc_new w4 _)) (by simp [Value.oneCell']) (by omega) (by unfold maxLen; omega) (by omega) (by rw [World.size_alloc]; exact Nat.succ_le_succ (Nat.le_trans (Nat.le_of_lt hlt) hs4)) (w4.heap.size + 1) (by simp) ?_; intro gg cap w5 hown hgrow hat hltg; obtain ⟨d6, e6, hwent⟩ := behind_put HB.out HO.out HF.out HM.out HS1.out HB4.out HO4.out hown hgrow hat; have HW := Lib.hid hwent; clear hown hgrow hat hltg hwent))
    all_goals
      go_wp2_with fail
      go_ret
      rw [HC.out, HP.out]
      obtain ⟨f', hr', hf', hfr'⟩ := HW.out
      refine ⟨rfl, f', hr', ?_, (HB1.out.trans hfr' (.inr (.inl rfl)))⟩
      have := HB1.out.size
      rcases hf' with h | h | h
      · exact .inl h
      · exact .inr (.inl h)
      · exact .inr (.inr (Nat.le_trans this h))

end Go.Proofs.Ytajafcbnhcncoaa
