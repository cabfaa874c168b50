/-
  Contracts of package calm's methods over the object's block and its list in a row of its own; conditions: the list holds at most 61 numbers, the windows from 0 to 60.
-/
import Derived.Test.YtojiighogjfgjaaRows2
namespace Go.Proofs.Ytojiighogjfgjaa
open Go.RowKit

/-- The object's block b; its list in the row of block f (of b, where it is nil). -/
def Rep (w : World) (b : Nat) (up down : Int) (l : List Int) (f : Nat) : Prop :=
  ∃ v R, w.heap[b]? = some (.cells #[.int .i64 up, .int .i64 down, v, .int .i64 R] 44 (0, 0)) ∧ w.ownsRow (b + 1) 3 1 v l.length (l.map (Value.int .i64)) ∧ v.ownBlock.getD b = f

theorem Rep.lt {w : World} {b f : Nat} {up down : Int} {l : List Int} (h : Rep w b up down l f) : b < w.heap.size := by
  obtain ⟨v, R, h, _⟩ := h
  exact lt_of_block h

theorem Rep.le {w : World} {b f : Nat} {up down : Int} {l : List Int} (h : Rep w b up down l f) : b ≤ f ∧ f < w.heap.size := by
  obtain ⟨v, R, hv, ho, rfl⟩ := h
  cases hg : v.ownBlock with
  | none => exact ⟨Nat.le_refl _, lt_of_block hv⟩
  | some g =>
    have := ho.lt g hg
    exact ⟨by simp; omega, by simp; omega⟩

theorem Rep.keep {w w' : World} {b f : Nat} {up down : Int} {l : List Int} (h : Rep w b up down l f) (hb : w'.heap[b]? = w.heap[b]?) (hf : w'.heap[f]? = w.heap[f]?) : Rep w' b up down l f := by
  obtain ⟨v, R, hv, ho, rfl⟩ := h
  refine ⟨v, R, hb.trans hv, ⟨ho.1, ?_⟩, rfl⟩
  rcases ho.2 with hn | ⟨g, cap, cur, rfl, hb, hg, rest⟩
  · exact .inl hn
  · exact .inr ⟨g, cap, cur, rfl, hb, hf.trans hg, rest⟩

theorem Rep.drewN {w : World} {b f : Nat} {up down : Int} {l : List Int} (h : Rep w b up down l f) (n : Nat) : Rep (w.drewN n) b up down l f := h.keep rfl rfl

/-- Of what there was, blocks b and f alone may have turned. -/
structure Fr (b f : Nat) (w w' : World) : Prop where
  os : w'.os = w.os
  tape : w'.tape = w.tape
  output : w'.output = w.output
  size : w.heap.size ≤ w'.heap.size
  block : ∀ k, k < w.heap.size → k ≠ b → k ≠ f → w'.heap[k]? = w.heap[k]?

theorem Fr.refl (b f : Nat) (w : World) : Fr b f w w := ⟨rfl, rfl, rfl, Nat.le_refl _, fun _ _ _ _ => rfl⟩
theorem Fr.trans {b f f' : Nat} {w w1 w2 : World} (h : Fr b f w w1) (k : Fr b f' w1 w2) (hf : f' = b ∨ f' = f ∨ w.heap.size ≤ f') : Fr b f w w2 :=
  ⟨k.os.trans h.os, k.tape.trans h.tape, k.output.trans h.output, Nat.le_trans h.size k.size, fun i hi h1 h2 => (k.block i (Nat.lt_of_lt_of_le hi h.size) h1 (by omega)).trans (h.block i hi h1 h2)⟩
theorem Fr.drewN {b f : Nat} {w w1 : World} (h : Fr b f w w1) (n : Nat) : Fr b f w (w1.drewN n) := ⟨h.os, h.tape, h.output, h.size, h.block⟩
theorem Fr.of_drewN {b f : Nat} {w w1 : World} {n : Nat} (h : Fr b f (w.drewN n) w1) : Fr b f w w1 := ⟨h.os, h.tape, h.output, h.size, h.block⟩
theorem Fr.setCell {b f : Nat} {w w1 : World} (h : Fr b f w w1) (o : Nat) (v : Value) : Fr b f w (w1.setCell ⟨b, o, none⟩ v) :=
  ⟨h.os, h.tape, h.output, by simpa [World.setCell] using h.size, fun k hk h1 h2 => (Below.heap_setCell _ _ _ _ h1).trans (h.block k hk h1 h2)⟩
theorem Fr.of_below {b f : Nat} {w w1 : World} (h : Below w.heap.size w w1) : Fr b f w w1 := ⟨h.os, h.tape, h.output, h.size, fun k hk _ _ => h.block k hk⟩
theorem Fr.below {b f B : Nat} {w w1 : World} (h : Fr b f w w1) (hb : B ≤ b) (hf : B ≤ f) (hs : b < w.heap.size) : Below B w w1 := ⟨h.os, h.tape, h.output, h.size, fun k hk => h.block k (by omega) (by omega) (by omega)⟩

/-- What a method leaves of its object. -/
def Went (w : World) (b f : Nat) (u d : Int) (l' : List Int) (w' : World) : Prop := ∃ f', Rep w' b u d l' f' ∧ (f' = b ∨ f' = f ∨ w.heap.size ≤ f') ∧ Fr b f w w'

theorem heap_store {w : World} {b o : Nat} {c : Array Value} {t : TypeId} {f : Nat × Nat} (v : Value) (h : w.heap[b]? = some (.cells c t f)) :
    (w.setCell ⟨b, o, none⟩ v).heap[b]? = some (.cells (c.setIfInBounds o v) t f) := by
  have hlt := lt_of_block h
  have h' : w.heap[b] = .cells c t f := by simpa [Array.getElem?_eq_getElem hlt] using h
  show (w.heap.modify b _)[b]? = _
  rw [Array.getElem?_eq_getElem (by simpa using hlt), Array.getElem_modify_self, h']
  rfl

theorem Rep.cells {w : World} {b f : Nat} {up down : Int} {l : List Int} (h : Rep w b up down l f) :
    ∃ v R, w.cell? ⟨b, 0, none⟩ = some (.int .i64 up) ∧ w.cell? ⟨b, 1, none⟩ = some (.int .i64 down) ∧ w.cell? ⟨b, 2, none⟩ = some v ∧ w.cell? ⟨b, 3, none⟩ = some (.int .i64 R) ∧
      w.frozen? ⟨b, 2, none⟩ = false ∧ w.frozen? ⟨b, 3, none⟩ = false ∧ w.heap[b]? = some (.cells #[.int .i64 up, .int .i64 down, v, .int .i64 R] 44 (0, 0)) ∧ w.ownsRow (b + 1) 3 1 v l.length (l.map (Value.int .i64)) ∧ v.ownBlock.getD b = f := by
  obtain ⟨v, R, hv, ho, hf⟩ := h
  exact ⟨v, R, by simp [World.cell?, hv], by simp [World.cell?, hv], by simp [World.cell?, hv], by simp [World.cell?, hv], by simp [World.frozen?, hv], by simp [World.frozen?, hv], hv, ho, hf⟩

/-- The list is stored anew. -/
theorem Rep.stored {w : World} {b : Nat} {up down R : Int} {v v' : Value} {l : List Int} (hv : w.heap[b]? = some (.cells #[.int .i64 up, .int .i64 down, v, .int .i64 R] 44 (0, 0)))
    (ho : w.ownsRow (b + 1) 3 1 v' l.length (l.map (Value.int .i64))) : Rep (w.setCell ⟨b, 2, none⟩ v') b up down l (v'.ownBlock.getD b) :=
  ⟨v', R, by rw [heap_store _ hv]; rfl, ownsRow_setCell_below ho (a := ⟨b, 2, none⟩) (Nat.lt_succ_self _) _, rfl⟩

theorem Rep.new (w : World) (u d : Int) : Rep (w.alloc (.cells #[.int .i64 u, .int .i64 d, .slice none 0 0, .int .i64 0] 44)) w.heap.size u d [] w.heap.size :=
  ⟨.slice none 0 0, 0, heap_alloc_new w _, World.ownsRow_nil _ _ _ _, rfl⟩

set_option maxHeartbeats 400000 in
theorem new_some (u d : Int) (w : World) (h1 : 0 ≤ u) (h2 : u ≤ 60) (h3 : 0 ≤ d) (h4 : d ≤ 60) :
    Calls Try.prog 8 #[.int .i64 u, .int .i64 d] w fun e w' => e = .returned (.pointer (some ⟨w.heap.size, 0, none⟩)) ∧ w' = w.alloc (.cells #[.int .i64 u, .int .i64 d, .slice none 0 0, .int .i64 0] 44) := by
  go_enter Try.func8, Try.ntmps8
  go_wp2
  go_ret
  exact ⟨rfl, rfl⟩
set_option maxHeartbeats 400000 in
theorem new_none (u d : Int) (w : World) (h : u < 0 ∨ 0 ≤ u ∧ 60 < u ∨ 0 ≤ u ∧ u ≤ 60 ∧ d < 0 ∨ 0 ≤ u ∧ u ≤ 60 ∧ 0 ≤ d ∧ 60 < d) :
    Calls Try.prog 8 #[.int .i64 u, .int .i64 d] w fun e w' => e = .returned (.pointer none) ∧ w = w' := by
  rcases h with h | ⟨h, h1⟩ | ⟨h, h1, h2⟩ | ⟨h, h1, h2, h3⟩
  all_goals
    go_enter Try.func8, Try.ntmps8
    go_wp2
    go_ret
    exact ⟨rfl, rfl⟩

set_option maxHeartbeats 400000 in
theorem kept_any (b f : Nat) (u d : Int) (l : List Int) (w : World) (h : Rep w b u d l f) (h1 : 0 ≤ u) (h2 : u ≤ 60) (h3 : 0 ≤ d) (h4 : d ≤ 60) :
    Calls Try.prog 20 #[.pointer (some ⟨b, 0, none⟩)] w fun e w' => e = .returned (.int .i64 (max u d + 1)) ∧ ∃ n, w' = w.drewN n := by
  obtain ⟨v, R, c0, c1, c2, c3, f2, f3, hv, ho, hf⟩ := h.cells
  clear h hv ho f2 f3 c2 c3 hf
  rcases Int.lt_or_le u d with hle | hle
  all_goals
    go_enter Try.func20, Try.ntmps20
    go_wp2
    go_quiet (fail)
    go_wp2
    go_ret
    exact ⟨ret_i64 (by omega), _, rfl⟩

theorem add64_run (a : Addr) (x : Int) (w : World) (hc : w.cell? a = some (.int .i64 x)) (hz : w.frozen? a = false) :
    (callFunc 28 #[.pointer (some a), .int .i64 1]).run Try.prog w = .ok (.value (.int .i64 (wrap64 (x + 1)))) (w.setCell a (.int .i64 (wrap64 (x + 1)))) :=
  run_call_add (P := Try.prog) Try.func28 (by kernel_rfl) (by kernel_rfl) (by kernel_rfl) .i64 (by kernel_rfl) (y := 1) (s := wrap64 (x + 1)) hc hz (by simp [go_sem, wrap64, IntKind.wrap_i64])

set_option maxHeartbeats 400000 in
theorem add_any (b f : Nat) (u d : Int) (l : List Int) (w : World) (h : Rep w b u d l f) :
    Calls Try.prog 17 #[.pointer (some ⟨b, 3, none⟩), .int .i64 1] w fun e w' => (∃ v, e = .returned v) ∧ Rep w' b u d l f ∧ Fr b f w w' := by
  obtain ⟨v, R, c0, c1, c2, c3, f2, f3, hv, ho, hf⟩ := h.cells
  have hadd := add64_run _ _ _ c3 f3
  have HV := Lib.hid hv
  have HO := Lib.hid ho
  have HF := Lib.hid hf
  clear h hv ho hf
  go_enter Try.func17, Try.ntmps17
  go_wp2
  go_ret
  exact ⟨⟨_, rfl⟩, ⟨v, _, by rw [heap_store _ HV.out]; rfl, ownsRow_setCell_below HO.out (a := ⟨b, 3, none⟩) (Nat.lt_succ_self _) _, HF.out⟩, (Fr.refl _ _ _).setCell _ _⟩

/-- The last n and one. -/
def lastN (n : Int) (l : List Int) : List Int := l.drop (l.length - n.toNat - 1)

set_option maxHeartbeats 400000 in
theorem last_run (b g len cap : Nat) (n : Int) (w : World) (c2 : w.cell? ⟨b, 2, none⟩ = some (.slice (some ⟨g, 0, none⟩) len cap)) (h1 : 0 ≤ n) (h2 : n ≤ 60) (hl : 0 < len) (hl2 : len ≤ 1000) (hle : len ≤ cap) (_hcap : cap ≤ 9223372036854775807) :
    Calls Try.prog 19 #[.pointer (some ⟨b, 0, none⟩), .int .i64 n] w fun e w' => e = .returned (.slice (some ⟨g, len - n.toNat - 1, none⟩) (len - (len - n.toNat - 1)) (cap - (len - n.toNat - 1))) ∧ ∃ n, w' = w.drewN n := by
  have e1 := Lib.hid (show ((len : Int) - n).toNat - 1 = len - n.toNat - 1 from by omega)
  by_cases hbig : 0 ≤ (len : Int) - n - 1
  · go_enter Try.func19, Try.ntmps19
    go_wp2
    go_quiet (fail)
    go_wp2
    rw [e1.out]
    go_ret
    exact ⟨rfl, _, rfl⟩
  · have e2 : len - n.toNat - 1 = 0 := by omega
    have hsm : (len : Int) - n - 1 < 0 := by omega
    rw [e2]
    clear e1 e2 hbig
    go_enter Try.func19, Try.ntmps19
    go_wp2
    go_quiet (fail)
    go_wp2
    go_ret
    exact ⟨rfl, _, rfl⟩

theorem lastN_pos {n : Int} {l : List Int} (h : 0 < l.length) : 0 < (lastN n l).length := by
  unfold lastN
  rw [List.length_drop]
  omega

/-- 'last': a value that reads as the last ones, in every world that differs in draws alone. -/
theorem last_any (b f : Nat) (u d n : Int) (l : List Int) (w : World) (h : Rep w b u d l f) (h1 : 0 ≤ n) (h2 : n ≤ 60) (hl : 0 < l.length) (hl2 : l.length ≤ 1000) :
    ∃ v, Ints w v (lastN n l) ∧ (∀ g, v.ownBlock = some g → b < g ∧ g < w.heap.size) ∧ ∀ w2 : World, w2.heap = w.heap → Calls Try.prog 19 #[.pointer (some ⟨b, 0, none⟩), .int .i64 n] w2 fun e w' => e = .returned v ∧ ∃ n, w' = w2.drewN n := by
  obtain ⟨v, R, c0, c1, c2, c3, f2, f3, hv, ho, hf⟩ := h.cells
  rcases ho.2 with ⟨_, hn⟩ | ⟨g, cap, cur, rfl, hb, hg, hle, hcap, hsz, htake⟩
  · omega
  have hcell : ∀ k, k < l.length → w.cell? ⟨g, k, none⟩ = some (.int .i64 (l.getD k 0)) := fun k hk => by
    have hcell := ho.cells (g := g) rfl k _ (getD_map_int l k hk)
    rwa [show (⟨g, 0, none⟩ : Addr).add k = ⟨g, k, none⟩ from by unfold Addr.add; split <;> simp_all] at hcell
  have hgs := lt_of_block hg
  unfold maxLen at hcap
  have hlen : (lastN n l).length = l.length - (l.length - n.toNat - 1) := by unfold lastN; rw [List.length_drop]
  refine ⟨.slice (some ⟨g, l.length - n.toNat - 1, none⟩) (l.length - (l.length - n.toNat - 1)) (cap - (l.length - n.toNat - 1)), .inr ⟨g, l.length - n.toNat - 1, cap - (l.length - n.toNat - 1), by rw [hlen], by rw [hlen]; omega, hgs, fun k hk => ?_⟩, fun g' hg' => ?_, fun w2 hw2 => ?_⟩
  · rw [hlen] at hk
    rw [hcell _ (by omega)]
    unfold lastN
    rw [List.getD_eq_getElem?_getD, List.getD_eq_getElem?_getD, List.getElem?_drop]
  · simp [Value.ownBlock] at hg'
    omega
  · exact last_run b g l.length cap n w2 ((World.cell?_of_block (by rw [hw2])).trans c2) h1 h2 hl hl2 hle hcap

end Go.Proofs.Ytojiighogjfgjaa
