/-
  Package sector's object: its block, its row of sectors, each in a row of its own; New, Len, Down, Writes, Tear, Up; conditions: 1 to 4096 sectors.
-/
import Derived.Test.YtggdaepflcjmfaaBytes
import Derived.Deep.RegionLaw
import Derived.Deep.AppendLies
import Derived.Laws.CopyOwn
import Derived.Laws.MakeOwn
namespace Go.Proofs.Ytggdaepflcjmfaa
open Go.RowKit

theorem Try.info27 : (Try.prog.info? 27).map (fun i => (i.zero, i.size, i.bytes)) = some (some (.slice none 0 0), 1, 24) := by kernel_rfl

theorem ownsRow_shape {w : World} {base : Nat} {e : TypeId} {size : Nat} {v : Value} {n : Nat} {xs : List Value} (h : w.ownsRow base e size v n xs) : ∃ a c, v = .slice a n c := by
  rcases h.2 with ⟨rfl, rfl⟩ | ⟨g, cap, cur, rfl, _⟩
  · exact ⟨_, _, rfl⟩
  · exact ⟨_, _, rfl⟩
theorem own_keep {w w' : World} {base : Nat} {e : TypeId} {size : Nat} {v : Value} {n : Nat} {xs : List Value} (h : w.ownsRow base e size v n xs) (hk : ∀ g c, v.ownBlock = some g → w.heap[g]? = some (.cells c e (0, 0)) → base ≤ g → w'.heap[g]? = w.heap[g]?) : w'.ownsRow base e size v n xs := by
  refine ⟨h.1, ?_⟩
  rcases h.2 with h2 | ⟨g, cap, cur, rfl, hb, hg, rest⟩
  · exact .inl h2
  · exact .inr ⟨g, cap, cur, rfl, hb, (hk g cur rfl hg hb).trans hg, rest⟩
theorem heap_store {w : World} {b o : Nat} {c : Array Value} {t : TypeId} {f : Nat × Nat} (v : Value) (h : w.heap[b]? = some (.cells c t f)) :
    (w.setCell ⟨b, o, none⟩ v).heap[b]? = some (.cells (c.setIfInBounds o v) t f) := by
  have hlt := lt_of_block h
  have h' : w.heap[b] = .cells c t f := by simpa [Array.getElem?_eq_getElem hlt] using h
  show (w.heap.modify b _)[b]? = _
  rw [Array.getElem?_eq_getElem (by simpa using hlt), Array.getElem_modify_self, h']
  rfl

/-- A block that is just these bytes. -/
def RowAt (w : World) (g : Nat) (x : List Int) : Prop := w.heap[g]? = some (.cells (bv x).toArray 5 (0, 0))
theorem RowAt.cell {w : World} {g : Nat} {x : List Int} (h : RowAt w g x) {k : Nat} (hk : k < x.length) : w.cell? ⟨g, k, none⟩ = some (.int .u8 (x.getD k 0)) := by
  unfold RowAt at h
  simp only [World.cell?, h]
  simpa using bv_get x k hk
theorem RowAt.frozen {w : World} {g : Nat} {x : List Int} (h : RowAt w g x) (k : Nat) : w.frozen? ⟨g, k, none⟩ = false := by
  unfold RowAt at h
  simp [World.frozen?, h]
theorem RowAt.bvals {w : World} {g : Nat} {x : List Int} (h : RowAt w g x) (c : Nat) (hc : x.length ≤ c) : BVals w (.slice (some ⟨g, 0, none⟩) x.length c) x :=
  .inr (.inr ⟨g, 0, c, rfl, hc, lt_of_block h, fun k hk => by rw [Nat.zero_add]; exact h.cell hk⟩)

/-- Of what there was, the blocks from b up to e alone may have turned. -/
structure Kept (b e : Nat) (w w' : World) : Prop where
  os : w'.os = w.os
  tape : w'.tape = w.tape
  output : w'.output = w.output
  size : w.heap.size ≤ w'.heap.size
  block : ∀ k, k < w.heap.size → (k < b ∨ e ≤ k) → w'.heap[k]? = w.heap[k]?

theorem Kept.refl (b e : Nat) (w : World) : Kept b e w w := ⟨rfl, rfl, rfl, Nat.le_refl _, fun _ _ _ => rfl⟩
theorem Kept.trans {b e : Nat} {w w1 w2 : World} (h : Kept b e w w1) (k : Kept b e w1 w2) : Kept b e w w2 :=
  ⟨k.os.trans h.os, k.tape.trans h.tape, k.output.trans h.output, Nat.le_trans h.size k.size, fun i hi h1 => (k.block i (Nat.lt_of_lt_of_le hi h.size) h1).trans (h.block i hi h1)⟩
theorem Kept.drewN {b e : Nat} {w w1 : World} (h : Kept b e w w1) (n : Nat) : Kept b e w (w1.drewN n) := ⟨h.os, h.tape, h.output, h.size, h.block⟩
theorem Kept.setCell {b e : Nat} {w w1 : World} (h : Kept b e w w1) {g : Nat} (hg : b ≤ g ∧ g < e) (o : Nat) (v : Value) : Kept b e w (w1.setCell ⟨g, o, none⟩ v) :=
  ⟨h.os, h.tape, h.output, by simpa [World.setCell] using h.size, fun k hk h1 => (Below.heap_setCell _ _ _ _ (by show k ≠ g; omega)).trans (h.block k hk h1)⟩
theorem Kept.of_below {b e : Nat} {w w1 : World} (h : Below w.heap.size w w1) : Kept b e w w1 := ⟨h.os, h.tape, h.output, h.size, fun k hk _ => h.block k hk⟩
theorem Kept.below {b e B : Nat} {w w1 : World} (h : Kept b e w w1) (hb : B ≤ b) (hB : B ≤ w.heap.size) : Below B w w1 := ⟨h.os, h.tape, h.output, h.size, fun k hk => h.block k (by omega) (.inl (by omega))⟩

/-- Block g alone was written, whole. -/
structure Wrote (w w' : World) (g : Nat) (cs : Array Value) : Prop where
  os : w'.os = w.os
  tape : w'.tape = w.tape
  output : w'.output = w.output
  size : w'.heap.size = w.heap.size
  row : w'.heap[g]? = some (.cells cs 5 (0, 0))
  block : ∀ k, k ≠ g → w'.heap[k]? = w.heap[k]?

/-- The object: block b; all that is its own lies from b up to e. -/
def Rep (w : World) (b e : Nat) (t : Int) (dn : Bool) (R : Int) (L : List (List Int)) : Prop :=
  e ≤ w.heap.size ∧ ∃ (g cap : Nat) (cur : Array Value) (gs : Nat → Nat),
    w.heap[b]? = some (.cells #[.slice (some ⟨g, 0, none⟩) L.length cap, .int .i64 t, .bool dn, .int .i64 R] 55 (0, 0)) ∧ b < g ∧ g < e ∧ w.heap[g]? = some (.cells cur 27 (0, 0)) ∧
    (∀ i, i < L.length → cur[i]? = some (.slice (some ⟨gs i, 0, none⟩) 64 64)) ∧
    (∀ i, i < L.length → b < gs i ∧ gs i < e ∧ (L.getD i []).length = 64 ∧ RowAt w (gs i) (L.getD i [])) ∧
    ∀ i j, i < L.length → j < L.length → gs i = gs j → i = j

theorem Rep.lt {w : World} {b e : Nat} {t R : Int} {dn : Bool} {L : List (List Int)} (h : Rep w b e t dn R L) : b < e ∧ e ≤ w.heap.size := by
  obtain ⟨he, g, cap, cur, gs, _, h1, h2, _⟩ := h
  exact ⟨by omega, he⟩
theorem Rep.keep {w w' : World} {b e : Nat} {t R : Int} {dn : Bool} {L : List (List Int)} (h : Rep w b e t dn R L) (hs : w.heap.size ≤ w'.heap.size) (hk : ∀ k, b ≤ k → k < e → w'.heap[k]? = w.heap[k]?) : Rep w' b e t dn R L := by
  obtain ⟨he, g, cap, cur, gs, hb, h1, h2, hg, hcur, hrow, hinj⟩ := h
  exact ⟨by omega, g, cap, cur, gs, (hk b (Nat.le_refl _) (by omega)).trans hb, h1, h2, (hk g (by omega) h2).trans hg, hcur, fun i hi => ⟨(hrow i hi).1, (hrow i hi).2.1, (hrow i hi).2.2.1, (hk _ (by have := (hrow i hi).1; omega) (hrow i hi).2.1).trans (hrow i hi).2.2.2⟩, hinj⟩
theorem Rep.below {w w' : World} {b e : Nat} {t R : Int} {dn : Bool} {L : List (List Int)} (h : Rep w b e t dn R L) (hb : Below w.heap.size w w') : Rep w' b e t dn R L :=
  h.keep hb.size fun k _ hk => hb.block k (by have := h.lt.2; omega)
theorem Rep.drewN {w : World} {b e : Nat} {t R : Int} {dn : Bool} {L : List (List Int)} (h : Rep w b e t dn R L) (n : Nat) : Rep (w.drewN n) b e t dn R L := h.keep (Nat.le_refl _) fun _ _ _ => rfl

/-- What the walk reads of the object. -/
theorem Rep.cells {w : World} {b e : Nat} {t R : Int} {dn : Bool} {L : List (List Int)} (h : Rep w b e t dn R L) :
    ∃ g cap, w.cell? ⟨b, 0, none⟩ = some (.slice (some ⟨g, 0, none⟩) L.length cap) ∧ w.cell? ⟨b, 1, none⟩ = some (.int .i64 t) ∧ w.cell? ⟨b, 2, none⟩ = some (.bool dn) ∧ w.cell? ⟨b, 3, none⟩ = some (.int .i64 R) ∧
      w.frozen? ⟨b, 1, none⟩ = false ∧ w.frozen? ⟨b, 2, none⟩ = false ∧ w.frozen? ⟨b, 3, none⟩ = false := by
  obtain ⟨_, g, cap, cur, gs, hb, _⟩ := h
  exact ⟨g, cap, by simp [World.cell?, hb], by simp [World.cell?, hb], by simp [World.cell?, hb], by simp [World.cell?, hb], by simp [World.frozen?, hb], by simp [World.frozen?, hb], by simp [World.frozen?, hb]⟩

theorem Rep.store {w : World} {b e : Nat} {t t' R R' : Int} {dn dn' : Bool} {L : List (List Int)} (h : Rep w b e t dn R L) (o : Nat) (v : Value)
    (ho : ∀ a : Value, (#[a, .int .i64 t, .bool dn, .int .i64 R] : Array Value).setIfInBounds o v = #[a, .int .i64 t', .bool dn', .int .i64 R']) : Rep (w.setCell ⟨b, o, none⟩ v) b e t' dn' R' L := by
  obtain ⟨he, g, cap, cur, gs, hb, h1, h2, hg, hcur, hrow, hinj⟩ := h
  have ne : ∀ k, b < k → (w.setCell ⟨b, o, none⟩ v).heap[k]? = w.heap[k]? := fun k hk => Below.heap_setCell _ _ _ _ (by show k ≠ b; omega)
  exact ⟨by simpa [World.setCell] using he, g, cap, cur, gs, by rw [heap_store _ hb, ho], h1, h2, (ne g h1).trans hg, hcur, fun i hi => ⟨(hrow i hi).1, (hrow i hi).2.1, (hrow i hi).2.2.1, (ne _ (hrow i hi).1).trans (hrow i hi).2.2.2⟩, hinj⟩
theorem Rep.tear {w : World} {b e : Nat} {t R : Int} {dn : Bool} {L : List (List Int)} (h : Rep w b e t dn R L) (t' : Int) : Rep (w.setCell ⟨b, 1, none⟩ (.int .i64 t')) b e t' dn R L := h.store 1 _ fun _ => rfl
theorem Rep.down {w : World} {b e : Nat} {t R : Int} {dn : Bool} {L : List (List Int)} (h : Rep w b e t dn R L) (dn' : Bool) : Rep (w.setCell ⟨b, 2, none⟩ (.bool dn')) b e t dn' R L := h.store 2 _ fun _ => rfl
theorem Rep.count {w : World} {b e : Nat} {t R : Int} {dn : Bool} {L : List (List Int)} (h : Rep w b e t dn R L) (R' : Int) : Rep (w.setCell ⟨b, 3, none⟩ (.int .i64 R')) b e t dn R' L := h.store 3 _ fun _ => rfl
theorem Rep.kept {w w' : World} {b e : Nat} {t R : Int} {dn : Bool} {L : List (List Int)} (h : Rep w b e t dn R L) (hk : Kept b e w w') (o : Nat) (v : Value) : Kept b e w (w'.setCell ⟨b, o, none⟩ v) := hk.setCell ⟨Nat.le_refl _, h.lt.1⟩ o v

/-- One sector: where it lies, and what comes of writing it. -/
theorem Rep.row {w : World} {b e : Nat} {t R : Int} {dn : Bool} {L : List (List Int)} (h : Rep w b e t dn R L) {i : Nat} (hi : i < L.length) :
    ∃ g cap gi, w.cell? ⟨b, 0, none⟩ = some (.slice (some ⟨g, 0, none⟩) L.length cap) ∧ w.cell? ⟨g, i, none⟩ = some (.slice (some ⟨gi, 0, none⟩) 64 64) ∧ b < gi ∧ gi < e ∧ (L.getD i []).length = 64 ∧ RowAt w gi (L.getD i []) ∧
      ∀ w' x, List.length x = 64 → Wrote w w' gi (bv x).toArray → Rep w' b e t dn R (L.set i x) ∧ Kept b e w w' := by
  obtain ⟨he, g, cap, cur, gs, hb, h1, h2, hg, hcur, hrow, hinj⟩ := h
  obtain ⟨r1, r2, r3, r4⟩ := hrow i hi
  refine ⟨g, cap, gs i, by simp [World.cell?, hb], ?_, r1, r2, r3, r4, fun w' x hx hw => ⟨?_, ⟨hw.os, hw.tape, hw.output, Nat.le_of_eq hw.size.symm, fun k _ hk => hw.block k (by omega)⟩⟩⟩
  · simp only [World.cell?, hg]
    simpa using hcur i hi
  · have hne : g ≠ gs i := fun e => by
      unfold RowAt at r4
      rw [← e, hg] at r4
      injection r4 with r4
      injection r4 with _ r4
      exact absurd r4 (by decide)
    refine ⟨by rw [hw.size]; exact he, g, cap, cur, gs, ?_, h1, h2, (hw.block g hne).trans hg, fun j hj => hcur j (by simpa using hj), fun j hj => ?_, fun j k hj hk => hinj j k (by simpa using hj) (by simpa using hk)⟩
    · rw [hw.block b (by omega), hb, List.length_set]
    · rw [List.length_set] at hj
      obtain ⟨q1, q2, q3, q4⟩ := hrow j hj
      refine ⟨q1, q2, ?_, ?_⟩
      all_goals
        rw [List.getD_eq_getElem?_getD, List.getElem?_set]
        by_cases hij : i = j
        · subst hij
          simp only [if_true, hi]
          first | exact hx | exact hw.row
        · simp only [hij, if_false]
          rw [← List.getD_eq_getElem?_getD]
          first | exact q3 | exact (hw.block _ fun e => hij (hinj j i hj hi e).symm).trans q4

/-- A row of bytes is written from its head on. -/
theorem run_copy_bytes {w : World} (ty : TypeId) (g c : Nat) (y : List Int) (hy : RowAt w g y) (sp : Option Addr) (sc : Nat) (z : List Int) (hz : BVals w (.slice sp z.length sc) z) (hl : z.length ≤ y.length) :
    ∃ w', (Builtin.copy_ #[27, 27] ty #[.slice (some ⟨g, 0, none⟩) y.length c, .slice sp z.length sc]).run Try.prog w = .ok (goInt z.length) w' ∧ Wrote w w' g (bv (z ++ y.drop z.length)).toArray := by
  have hs : (Try.prog.info? 5).map (·.size) = some 1 := by kernel_rfl
  by_cases h0 : z = []
  · subst h0
    exact ⟨w, run_copy_none (P := Try.prog) w 27 27 ty 5 _ _ _ _ _ _ Try.underlying27 hs (by simp), ⟨rfl, rfl, rfl, rfl, by unfold RowAt at hy; simpa using hy, fun _ _ => rfl⟩⟩
  · rcases hz with ⟨_, h⟩ | ⟨_, _, _, h⟩ | ⟨g', o', c', hv, _, _, hc⟩
    · exact absurd h h0
    · exact absurd h h0
    · simp at hv
      obtain ⟨rfl, rfl⟩ := hv
      have hsrc : ∀ j v, (bv z)[j]? = some v → w.cell? ((⟨g', o', none⟩ : Addr).add j) = some v := fun j v hu => by
        have hj : j < z.length := by
          have := (List.getElem?_eq_some_iff.1 hu).1
          simpa [bv] using this
        rw [bv_get z j hj] at hu
        rw [show (⟨g', o', none⟩ : Addr).add j = ⟨g', o' + j, none⟩ from by unfold Addr.add; split <;> simp_all, hc j hj]
        exact hu
      have hrun := run_copy_row (P := Try.prog) w 27 27 ty 5 g 0 y.length c ⟨g', o', none⟩ z.length sc (bv y).toArray 5 (bv z) Try.underlying27 hs hy (by rw [bv_length]; exact (Nat.min_eq_left hl).symm) hsrc (by simp [bv_length]; exact hl) (fun x hx => by simp [bv] at hx; obtain ⟨y, _, rfl⟩ := hx; rfl)
      rw [bv_length] at hrun
      refine ⟨_, hrun, ⟨rfl, rfl, rfl, by simp [World.setRow], ?_, fun k hk => setRow_other w g k _ hk⟩⟩
      rw [setRow_heap w g _ _ 5 _ hy]
      simp [bv, List.map_drop]

end Go.Proofs.Ytggdaepflcjmfaa
