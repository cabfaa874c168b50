/-
  Package pool's object: its block, its row of messages, each in a row of its own; New, Len, Add, Put, Get; conditions: at most 1000 messages, the bound from 1 to 1000.
-/
import Derived.Test.YtajafcbnhcncoaaBytes
namespace Go.Proofs.Ytajafcbnhcncoaa
open Go.RowKit
variable {S : Nat → Prop}

theorem ownsRow_less {w : World} {base base' : Nat} {e : TypeId} {size : Nat} {v : Value} {n : Nat} {xs : List Value} (h : w.ownsRow base e size v n xs) (hb : base' ≤ base) : w.ownsRow base' e size v n xs := by
  refine ⟨h.1, ?_⟩
  rcases h.2 with h2 | ⟨g, cap, cur, rfl, hg, rest⟩
  · exact .inl h2
  · exact .inr ⟨g, cap, cur, rfl, by omega, rest⟩
theorem ownsRow_shape {w : World} {base : Nat} {e : TypeId} {size : Nat} {v : Value} {n : Nat} {xs : List Value} (h : w.ownsRow base e size v n xs) : ∃ a c, v = .slice a n c := by
  rcases h.2 with ⟨rfl, rfl⟩ | ⟨g, cap, cur, rfl, _⟩
  · exact ⟨_, _, rfl⟩
  · exact ⟨_, _, rfl⟩
theorem new_block {w : World} {base : Nat} {e : TypeId} {size : Nat} {v : Value} {n : Nat} {xs : List Value} (b : Nat) (h : w.ownsRow base e size v n xs) : v.ownBlock.getD b = b ∨ base ≤ v.ownBlock.getD b := by
  rcases h.2 with ⟨rfl, _⟩ | ⟨g, cap, cur, rfl, hg, _⟩
  · exact .inl rfl
  · exact .inr hg
theorem own_keep {w w' : World} {base : Nat} {e : TypeId} {size : Nat} {v : Value} {n : Nat} {xs : List Value} (h : w.ownsRow base e size v n xs) (hk : ∀ g c, v.ownBlock = some g → w.heap[g]? = some (.cells c e (0, 0)) → base ≤ g → w'.heap[g]? = w.heap[g]?) : w'.ownsRow base e size v n xs := by
  refine ⟨h.1, ?_⟩
  rcases h.2 with h2 | ⟨g, cap, cur, rfl, hb, hg, rest⟩
  · exact .inl h2
  · exact .inr ⟨g, cap, cur, rfl, hb, (hk g cur rfl hg hb).trans hg, rest⟩

/-- Of what there was, blocks b and f alone may have turned. -/
structure Fr (b f : Nat) (w w' : World) : Prop where
  os : w'.os = w.os
  tape : w'.tape = w.tape
  output : w'.output = w.output
  size : w.heap.size ≤ w'.heap.size
  block : ∀ k, k < w.heap.size → k ≠ b → k ≠ f → w'.heap[k]? = w.heap[k]?

theorem Fr.refl (b f : Nat) (w : World) : Fr b f w w := ⟨rfl, rfl, rfl, Nat.le_refl _, fun _ _ _ _ => rfl⟩
theorem Fr.trans {b f f' : Nat} {w w1 w2 : World} (h : Fr b f w w1) (k : Fr b f' w1 w2) (hf : f' = b ∨ f' = f ∨ w.heap.size ≤ f') : Fr b f w w2 :=
  ⟨k.os.trans h.os, k.tape.trans h.tape, k.output.trans h.output, Nat.le_trans h.size k.size, fun i hi h1 h2 => (k.block i (Nat.lt_of_lt_of_le hi h.size) h1 (by omega)).trans (h.block i hi h1 h2)⟩
theorem Fr.drewN {b f : Nat} {w w1 : World} (h : Fr b f w w1) (n : Nat) : Fr b f w (w1.drewN n) := ⟨h.os, h.tape, h.output, h.size, h.block⟩
theorem Fr.setCell {b f : Nat} {w w1 : World} (h : Fr b f w w1) (o : Nat) (v : Value) : Fr b f w (w1.setCell ⟨b, o, none⟩ v) :=
  ⟨h.os, h.tape, h.output, by simpa [World.setCell] using h.size, fun k hk h1 h2 => (Below.heap_setCell _ _ _ _ h1).trans (h.block k hk h1 h2)⟩
theorem Fr.of_below {b f : Nat} {w w1 : World} (h : Below w.heap.size w w1) : Fr b f w w1 := ⟨h.os, h.tape, h.output, h.size, fun k hk _ _ => h.block k hk⟩
theorem Fr.below {b f B : Nat} {w w1 : World} (h : Fr b f w w1) (hb : B ≤ b) (hf : B ≤ f) (hs : b < w.heap.size) : Below B w w1 := ⟨h.os, h.tape, h.output, h.size, fun k hk => h.block k (by omega) (by omega) (by omega)⟩

/-- The messages: each value owns its bytes, in a block of S. -/
def Msgs (S : Nat → Prop) (w : World) (b : Nat) (vs : List Value) (L : List (List Int)) : Prop :=
  vs.length = L.length ∧ (∀ v ∈ vs, ∀ g, v.ownBlock = some g → S g) ∧ ∀ i, i < L.length → w.ownsRow (b + 1) 5 1 (vs.getD i (.slice none 0 0)) (L.getD i []).length (bv (L.getD i []))

/-- The object's block b; its messages in the row of block f (of b, where it is nil). -/
def Rep (S : Nat → Prop) (w : World) (b : Nat) (lim : Int) (L : List (List Int)) (f : Nat) : Prop :=
  ∃ v R vs, w.heap[b]? = some (.cells #[.int .i64 lim, v, .int .i64 R] 56 (0, 0)) ∧ w.ownsRow (b + 1) 28 1 v vs.length vs ∧ v.ownBlock.getD b = f ∧ Msgs S w b vs L

theorem Msgs.keep {w w' : World} {b : Nat} {vs : List Value} {L : List (List Int)} (h : Msgs S w b vs L) (hk : ∀ g c, b < g → w.heap[g]? = some (.cells c 5 (0, 0)) → w'.heap[g]? = w.heap[g]?) : Msgs S w' b vs L :=
  ⟨h.1, h.2.1, fun i hi => own_keep (h.2.2 i hi) fun g c _ hc hb => hk g c hb hc⟩

theorem Msgs.keepS {w w' : World} {b : Nat} {vs : List Value} {L : List (List Int)} (h : Msgs S w b vs L) (hk : ∀ g c, b < g → S g → w.heap[g]? = some (.cells c 5 (0, 0)) → w'.heap[g]? = w.heap[g]?) : Msgs S w' b vs L :=
  ⟨h.1, h.2.1, fun i hi => own_keep (h.2.2 i hi) fun g c hg hc hb => hk g c hb (h.2.1 _ (by rw [List.getD_eq_getElem?_getD, List.getElem?_eq_getElem (by rw [h.1]; exact hi)]; exact List.getElem_mem _) g hg) hc⟩
theorem Msgs.mono {S' : Nat → Prop} {w : World} {b : Nat} {vs : List Value} {L : List (List Int)} (h : Msgs S w b vs L) (hs : ∀ g, g < w.heap.size → S g → S' g) : Msgs S' w b vs L := by
  refine ⟨h.1, fun v hv g hg => ?_, h.2.2⟩
  obtain ⟨i, hi, rfl⟩ := List.getElem_of_mem hv
  have := h.2.2 i (by rw [← h.1]; exact hi)
  rw [List.getD_eq_getElem?_getD, List.getElem?_eq_getElem hi] at this
  exact hs g (this.lt g hg).2 (h.2.1 _ hv g hg)
theorem Rep.keepS {w w' : World} {b f : Nat} {lim : Int} {L : List (List Int)} (h : Rep S w b lim L f) (hb : w'.heap[b]? = w.heap[b]?) (hf : w'.heap[f]? = w.heap[f]?) (hk : ∀ g c, b < g → S g → w.heap[g]? = some (.cells c 5 (0, 0)) → w'.heap[g]? = w.heap[g]?) : Rep S w' b lim L f := by
  obtain ⟨v, R, vs, hv, ho, rfl, hm⟩ := h
  exact ⟨v, R, vs, hb.trans hv, own_keep ho fun g _ hg _ _ => by rw [hg] at hf; exact hf, rfl, hm.keepS hk⟩
theorem Rep.mono {S' : Nat → Prop} {w : World} {b f : Nat} {lim : Int} {L : List (List Int)} (h : Rep S w b lim L f) (hs : ∀ g, g < w.heap.size → S g → S' g) : Rep S' w b lim L f := by
  obtain ⟨v, R, vs, hv, ho, hf, hm⟩ := h
  exact ⟨v, R, vs, hv, ho, hf, hm.mono hs⟩
theorem Rep.lt {w : World} {b f : Nat} {lim : Int} {L : List (List Int)} (h : Rep S w b lim L f) : b < w.heap.size := by
  obtain ⟨v, R, vs, h, _⟩ := h
  exact lt_of_block h
theorem Rep.le {w : World} {b f : Nat} {lim : Int} {L : List (List Int)} (h : Rep S w b lim L f) : b ≤ f ∧ f < w.heap.size := by
  obtain ⟨v, R, vs, hv, ho, rfl, _⟩ := h
  cases hg : v.ownBlock with
  | none => exact ⟨Nat.le_refl _, lt_of_block hv⟩
  | some g =>
    have := ho.lt g hg
    exact ⟨by simp; omega, by simp; omega⟩
/-- Where b and f, and all rows of bytes, are as they were. -/
theorem Rep.keep {w w' : World} {b f : Nat} {lim : Int} {L : List (List Int)} (h : Rep S w b lim L f) (hb : w'.heap[b]? = w.heap[b]?) (hf : w'.heap[f]? = w.heap[f]?) (hk : ∀ g c, b < g → w.heap[g]? = some (.cells c 5 (0, 0)) → w'.heap[g]? = w.heap[g]?) : Rep S w' b lim L f := by
  obtain ⟨v, R, vs, hv, ho, rfl, hm⟩ := h
  exact ⟨v, R, vs, hb.trans hv, own_keep ho fun g _ hg _ _ => by rw [hg] at hf; exact hf, rfl, hm.keep hk⟩
theorem Rep.below {w w' : World} {b f : Nat} {lim : Int} {L : List (List Int)} (h : Rep S w b lim L f) (hb : Below w.heap.size w w') : Rep S w' b lim L f :=
  h.keep (hb.block b h.lt) (hb.block f h.le.2) fun g _ _ hg => hb.block g (lt_of_block hg)
theorem Rep.drewN {w : World} {b f : Nat} {lim : Int} {L : List (List Int)} (h : Rep S w b lim L f) (n : Nat) : Rep S (w.drewN n) b lim L f := h.keep rfl rfl fun _ _ _ _ => rfl

/-- What a method leaves of its object. -/
def Went (S : Nat → Prop) (w : World) (b f : Nat) (lim : Int) (L' : List (List Int)) (w' : World) : Prop := ∃ f', Rep S w' b lim L' f' ∧ (f' = b ∨ f' = f ∨ w.heap.size ≤ f') ∧ Fr b f w w'

theorem heap_store {w : World} {b o : Nat} {c : Array Value} {t : TypeId} {f : Nat × Nat} (v : Value) (h : w.heap[b]? = some (.cells c t f)) :
    (w.setCell ⟨b, o, none⟩ v).heap[b]? = some (.cells (c.setIfInBounds o v) t f) := by
  have hlt := lt_of_block h
  have h' : w.heap[b] = .cells c t f := by simpa [Array.getElem?_eq_getElem hlt] using h
  show (w.heap.modify b _)[b]? = _
  rw [Array.getElem?_eq_getElem (by simpa using hlt), Array.getElem_modify_self, h']
  rfl

theorem Rep.cells {w : World} {b f : Nat} {lim : Int} {L : List (List Int)} (h : Rep S w b lim L f) :
    ∃ v R vs, w.cell? ⟨b, 0, none⟩ = some (.int .i64 lim) ∧ w.cell? ⟨b, 1, none⟩ = some v ∧ w.cell? ⟨b, 2, none⟩ = some (.int .i64 R) ∧
      w.frozen? ⟨b, 1, none⟩ = false ∧ w.frozen? ⟨b, 2, none⟩ = false ∧ w.heap[b]? = some (.cells #[.int .i64 lim, v, .int .i64 R] 56 (0, 0)) ∧ w.ownsRow (b + 1) 28 1 v vs.length vs ∧ v.ownBlock.getD b = f ∧ Msgs S w b vs L := by
  obtain ⟨v, R, vs, hv, ho, hf, hm⟩ := h
  exact ⟨v, R, vs, by simp [World.cell?, hv], by simp [World.cell?, hv], by simp [World.cell?, hv], by simp [World.frozen?, hv], by simp [World.frozen?, hv], hv, ho, hf, hm⟩

/-- The row is stored anew. -/
theorem Rep.stored {w : World} {b : Nat} {lim R : Int} {v v' : Value} {vs : List Value} {L : List (List Int)} (hv : w.heap[b]? = some (.cells #[.int .i64 lim, v, .int .i64 R] 56 (0, 0)))
    (ho : w.ownsRow (b + 1) 28 1 v' vs.length vs) (hm : Msgs S w b vs L) : Rep S (w.setCell ⟨b, 1, none⟩ v') b lim L (v'.ownBlock.getD b) :=
  ⟨v', R, vs, by rw [heap_store _ hv]; rfl, ownsRow_setCell_below ho (a := ⟨b, 1, none⟩) (Nat.lt_succ_self _) _, rfl, hm.keep fun g c hg _ => Below.heap_setCell _ _ _ _ (by show g ≠ b; omega)⟩

theorem Rep.new (w : World) (lim : Int) : Rep S (w.alloc (.cells #[.int .i64 lim, .slice none 0 0, .int .i64 0] 56)) w.heap.size lim [] w.heap.size :=
  ⟨.slice none 0 0, 0, [], heap_alloc_new w _, World.ownsRow_nil _ _ _ _, rfl, rfl, fun v hv => by simp at hv, fun i hi => by simp at hi⟩

set_option maxHeartbeats 400000 in
theorem new_some (n : Int) (w : World) (h1 : 1 ≤ n) (h2 : n ≤ 1000) :
    Calls Try.prog 7 #[.int .i64 n] w fun e w' => e = .returned (.pointer (some ⟨w.heap.size, 0, none⟩)) ∧ w' = w.alloc (.cells #[.int .i64 n, .slice none 0 0, .int .i64 0] 56) := by
  go_enter Try.func7, Try.ntmps7
  go_wp2
  go_ret
  exact ⟨rfl, rfl⟩
set_option maxHeartbeats 400000 in
theorem new_none (n : Int) (w : World) (h : n < 1 ∨ 1 ≤ n ∧ 1000 < n) :
    Calls Try.prog 7 #[.int .i64 n] w fun e w' => e = .returned (.pointer none) ∧ w = w' := by
  rcases h with h | ⟨h, h1⟩
  all_goals
    go_enter Try.func7, Try.ntmps7
    go_wp2
    go_ret
    exact ⟨rfl, rfl⟩

theorem ret_i64 {a b : Int} (h : a = b) : Ending.returned (.int .i64 a) = .returned (.int .i64 b) := by rw [h]

set_option maxHeartbeats 400000 in
theorem len_any (b f : Nat) (lim : Int) (L : List (List Int)) (w : World) (h : Rep S w b lim L f) :
    Calls Try.prog 18 #[.pointer (some ⟨b, 0, none⟩)] w fun e w' => e = .returned (.int .i64 (L.length : Int)) ∧ w' = w := by
  obtain ⟨v, R, vs, c0, c1, c2, f1, f2, hv, ho, hf, hm⟩ := h.cells
  have hl := hm.1
  obtain ⟨a, c, rfl⟩ := ownsRow_shape ho
  rw [hl] at c1
  clear h hv ho f1 f2 c2 hf hm hl
  go_enter Try.func18, Try.ntmps18
  go_wp2
  go_ret
  exact ⟨rfl, rfl⟩
set_option maxHeartbeats 400000 in
theorem len_nil (w : World) : Calls Try.prog 18 #[.pointer none] w fun e w' => e = .returned (.int .i64 0) ∧ w' = w := by
  go_enter Try.func18, Try.ntmps18
  go_wp2
  go_ret
  exact ⟨rfl, rfl⟩

theorem add64_run (a : Addr) (x : Int) (w : World) (hc : w.cell? a = some (.int .i64 x)) (hz : w.frozen? a = false) :
    (callFunc 22 #[.pointer (some a), .int .i64 1]).run Try.prog w = .ok (.value (.int .i64 (wrap64 (x + 1)))) (w.setCell a (.int .i64 (wrap64 (x + 1)))) :=
  run_call_add (P := Try.prog) Try.func22 (by kernel_rfl) (by kernel_rfl) (by kernel_rfl) .i64 (by kernel_rfl) (y := 1) (s := wrap64 (x + 1)) hc hz (by simp [go_sem, wrap64, IntKind.wrap_i64])

set_option maxHeartbeats 400000 in
theorem add_any (b f : Nat) (lim : Int) (L : List (List Int)) (w : World) (h : Rep S w b lim L f) :
    Calls Try.prog 19 #[.pointer (some ⟨b, 2, none⟩), .int .i64 1] w fun e w' => (∃ v, e = .returned v) ∧ Rep S w' b lim L f ∧ Fr b f w w' := by
  obtain ⟨v, R, vs, c0, c1, c2, f1, f2, hv, ho, hf, hm⟩ := h.cells
  have hadd := add64_run _ _ _ c2 f2
  have HV := Lib.hid hv
  have HO := Lib.hid ho
  have HF := Lib.hid hf
  have HM := Lib.hid hm
  clear h hv ho hf hm
  go_enter Try.func19, Try.ntmps19
  go_wp2
  go_ret
  exact ⟨⟨_, rfl⟩, ⟨v, _, vs, by rw [heap_store _ HV.out]; rfl, ownsRow_setCell_below HO.out (a := ⟨b, 2, none⟩) (Nat.lt_succ_self _) _, HF.out, HM.out.keep fun g c hg _ => Below.heap_setCell _ _ _ _ (by show g ≠ b; omega)⟩, (Fr.refl _ _ _).setCell _ _⟩

end Go.Proofs.Ytajafcbnhcncoaa
