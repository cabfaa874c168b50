/-
  The disk's methods once more, each with what it leaves of a whole walk: the object, the slices that were handed out, what was there at the start; conditions: 1 to 4096 sectors, fewer than 1000000 writes.
-/
import Derived.Test.YtggdaepflcjmfaaTold
namespace Go.Proofs.Ytggdaepflcjmfaa
open Go.RowKit

theorem wrap_nonneg' (a : Int) : 0 ≤ IntKind.u64.wrap a := wrap_nonneg a

/-- The disk, in a walk that began in w. -/
def D (w w1 : World) (b e : Nat) (t : Int) (dn : Bool) (R : Int) (L : List (List Int)) : Prop := Rep w1 b e t dn R L ∧ Below b w w1 ∧ b ≤ w1.heap.size
/-- A slice of 64 bytes that was handed out. -/
def Got (e : Nat) (w : World) (g c : Nat) (x : List Int) : Prop := e ≤ g ∧ 64 ≤ c ∧ x.length = 64 ∧ ∃ cur, w.heap[g]? = some (.cells cur 5 (0, 0)) ∧ ∀ k, k < 64 → w.cell? ⟨g, k, none⟩ = some (.int .u8 (x.getD k 0))

theorem Got.lt {e g c : Nat} {w : World} {x : List Int} (h : Got e w g c x) : g < w.heap.size := by
  obtain ⟨_, _, _, cur, hg, _⟩ := h
  exact lt_of_block hg
theorem Got.keep {e g c : Nat} {w w' : World} {x : List Int} (h : Got e w g c x) (hk : w'.heap[g]? = w.heap[g]?) : Got e w' g c x := by
  obtain ⟨h1, h2, h3, cur, hg, hc⟩ := h
  exact ⟨h1, h2, h3, cur, hk.trans hg, fun k hk' => (World.cell?_of_block hk).trans (hc k hk')⟩
theorem Got.kept {b e g c : Nat} {w w' : World} {x : List Int} (h : Got e w g c x) (hk : Kept b e w w') : Got e w' g c x := h.keep (hk.block g h.lt (.inr h.1))
theorem Got.below {e g c : Nat} {w w' : World} {x : List Int} (h : Got e w g c x) (hb : Below w.heap.size w w') : Got e w' g c x := h.keep (hb.block g h.lt)
theorem Got.cell {e g c : Nat} {w : World} {x : List Int} (h : Got e w g c x) {k : Nat} (hk : k < 64) : w.cell? ⟨g, k, none⟩ = some (.int .u8 (x.getD k 0)) := by
  obtain ⟨_, _, _, cur, hg, hc⟩ := h
  exact hc k hk
theorem Got.frozen {e g c : Nat} {w : World} {x : List Int} (h : Got e w g c x) (k : Nat) : w.frozen? ⟨g, k, none⟩ = false := by
  obtain ⟨_, _, _, cur, hg, hc⟩ := h
  simp [World.frozen?, hg]
theorem Got.bvals {e g c : Nat} {w : World} {x : List Int} (h : Got e w g c x) : BVals w (.slice (some ⟨g, 0, none⟩) 64 c) x := by
  have hx := h.2.2.1
  refine .inr (.inr ⟨g, 0, c, by rw [hx], by rw [hx]; exact h.2.1, h.lt, fun k hk => ?_⟩)
  rw [Nat.zero_add]
  exact h.cell (by omega)

theorem D.rep {w w1 : World} {b e : Nat} {t R : Int} {dn : Bool} {L : List (List Int)} (h : D w w1 b e t dn R L) : Rep w1 b e t dn R L := h.1
theorem D.kept {w w1 w2 : World} {b e : Nat} {t t' R R' : Int} {dn dn' : Bool} {L L' : List (List Int)} (h : D w w1 b e t dn R L) (hk : Kept b e w1 w2) (hr : Rep w2 b e t' dn' R' L') : D w w2 b e t' dn' R' L' :=
  ⟨hr, h.2.1.trans (hk.below (Nat.le_refl _) h.2.2), Nat.le_trans h.2.2 hk.size⟩
theorem D.below {w w1 w2 : World} {b e : Nat} {t R : Int} {dn : Bool} {L : List (List Int)} (h : D w w1 b e t dn R L) (hb : Below w1.heap.size w1 w2) : D w w2 b e t dn R L :=
  ⟨h.1.below hb, h.2.1.trans (hb.mono h.2.2), Nat.le_trans h.2.2 hb.size⟩
/-- A slice that was handed out is written. -/
theorem D.setCell {w w1 : World} {b e g o : Nat} {t R : Int} {dn : Bool} {L : List (List Int)} (h : D w w1 b e t dn R L) (hg : e ≤ g) (v : Value) : D w (w1.setCell ⟨g, o, none⟩ v) b e t dn R L := by
  have hlt := h.1.lt
  exact ⟨h.1.keep (by simp [World.setCell]) fun k _ hk => Below.heap_setCell _ _ _ _ (by show k ≠ g; omega), Below.setCell h.2.1 (p := ⟨g, o, none⟩) (by show b ≤ g; omega) v, by simpa [World.setCell] using h.2.2⟩
theorem D.end_ {w w1 : World} {b e : Nat} {t R : Int} {dn : Bool} {L : List (List Int)} (h : D w w1 b e t dn R L) (hb : w.heap.size = b) : Below w.heap.size w w1 := hb ▸ h.2.1

theorem d_new (n : Int) (w : World) (h1 : 1 ≤ n) (h2 : n ≤ 4096) :
    Calls Try.prog 8 #[.int .i64 n] w fun x w' => x = .returned (.pointer (some ⟨w.heap.size, 0, none⟩)) ∧ ∃ e, D w w' w.heap.size e (-1) false 0 (List.replicate n.toNat (full 0)) :=
  (new_some n w h1 h2).mono fun _ _ ⟨hx, hr, hb⟩ => ⟨hx, _, hr, hb, Nat.le_trans (Nat.le_of_lt hr.lt.1) (Nat.le_refl _)⟩

section
variable {w w1 : World} {b e : Nat} {t R : Int} {dn : Bool} {L : List (List Int)}
theorem d_filled (c : Int) (h : D w w1 b e t dn R L) :
    Calls Try.prog 11 #[.int .u8 c] w1 fun x w' => ∃ s, x = .returned (.slice (some ⟨s, 0, none⟩) 64 64) ∧ D w w' b e t dn R L ∧ Got e w' s 64 (full c) ∧ Below w1.heap.size w1 w' :=
  (filled_any c w1).mono fun _ _ ⟨hx, hr, hb⟩ => ⟨_, hx, h.below hb, ⟨h.1.lt.2, Nat.le_refl _, full_length c, _, hr, fun k hk => hr.cell (by rw [full_length]; exact hk)⟩, hb⟩
theorem d_ok (i s c : Nat) (x : List Int) (h : D w w1 b e (-1) false R L) (h0 : 0 ≤ R) (h1 : R ≤ 1000000) (hi : i < L.length) (hg : Got e w1 s c x) :
    Calls Try.prog 10 #[.pointer (some ⟨b, 0, none⟩), .int .i64 (i : Int), .slice (some ⟨s, 0, none⟩) 64 c] w1 fun y w' => y = .returned (.int .i64 0) ∧ D w w' b e (-1) false (R + 1) (L.set i x) ∧ Kept b e w1 w' :=
  (write_ok b e R L i _ c x w1 h.1 h0 h1 hi hg.2.2.1 hg.bvals fun u hu => by cases hu; exact .inr hg.1).mono fun _ _ ⟨hy, hr, hk⟩ => ⟨hy, h.kept hk hr, hk⟩
theorem d_torn (i s c tn : Nat) (x : List Int) (h : D w w1 b e (tn : Int) false R L) (ht : tn ≤ 64) (h0 : 0 ≤ R) (h1 : R ≤ 1000000) (hi : i < L.length) (hg : Got e w1 s c x) :
    Calls Try.prog 10 #[.pointer (some ⟨b, 0, none⟩), .int .i64 (i : Int), .slice (some ⟨s, 0, none⟩) 64 c] w1 fun y w' => y = .returned (.int .i64 10) ∧ D w w' b e (-1) true (R + 1) (L.set i (x.take tn ++ (L.getD i []).drop tn)) ∧ Kept b e w1 w' :=
  (write_torn b e R L i tn _ c x w1 h.1 ht h0 h1 hi hg.2.2.1 hg.bvals fun u hu => by cases hu; exact .inr hg.1).mono fun _ _ ⟨hy, hr, hk⟩ => ⟨hy, h.kept hk hr, hk⟩
theorem d_tear (n : Int) (h : D w w1 b e t dn R L) :
    Calls Try.prog 9 #[.pointer (some ⟨b, 0, none⟩), .int .i64 n] w1 fun y w' => y = .returned (.tuple #[]) ∧ D w w' b e (clampT n) dn R L ∧ Kept b e w1 w' :=
  (tear_any b e t R dn L n w1 h.1).mono fun _ _ ⟨hy, hr, hk⟩ => ⟨hy, h.kept hk hr, hk⟩
theorem d_up (h : D w w1 b e t dn R L) :
    Calls Try.prog 12 #[.pointer (some ⟨b, 0, none⟩)] w1 fun y w' => y = .returned (.tuple #[]) ∧ D w w' b e (-1) false R L ∧ Kept b e w1 w' :=
  (up_any b e t R dn L w1 h.1).mono fun _ _ ⟨hy, hr, hk⟩ => ⟨hy, h.kept hk hr, hk⟩
theorem d_spoil (i p : Nat) (c : Int) (h : D w w1 b e t dn R L) (hi : i < L.length) (hp : p < 64) :
    Calls Try.prog 21 #[.pointer (some ⟨b, 0, none⟩), .int .i64 (i : Int), .int .i64 (p : Int), .int .u8 c] w1 fun y w' => y = .returned (.int .i64 0) ∧ D w w' b e t dn R (L.set i ((L.getD i []).set p (xorB ((L.getD i []).getD p 0) c))) ∧ Kept b e w1 w' :=
  (spoil_any b e t R dn L i p c w1 h.1 hi hp).mono fun _ _ ⟨hy, hr, hk⟩ => ⟨hy, h.kept hk hr, hk⟩
theorem Rep.len64 (h : Rep w b e t dn R L) {i : Nat} (hi : i < L.length) : (L.getD i []).length = 64 := by
  obtain ⟨g, cap, gi, _, _, _, _, hx, _⟩ := h.row hi
  exact hx
theorem d_read (i : Nat) (h : D w w1 b e t dn R L) (hi : i < L.length) :
    Calls Try.prog 13 #[.pointer (some ⟨b, 0, none⟩), .int .i64 (i : Int)] w1 fun y w' => ∃ g c, y = .returned (.tuple #[.slice (some ⟨g, 0, none⟩) 64 c, .int .i64 0]) ∧ D w w' b e t dn R L ∧ Got e w' g c (L.getD i []) ∧ Below w1.heap.size w1 w' :=
  (read_any b e t R dn L i w1 h.1 hi).mono fun _ _ ⟨⟨v', hy, ho⟩, hb⟩ => by
    have hx := h.1.len64 hi
    obtain ⟨g, c, rfl, hc, hg, _, cur, hcur, hcell⟩ := own_cells ho hx (by omega)
    exact ⟨g, c, hy, h.below hb, ⟨Nat.le_trans h.1.lt.2 hg, hc, hx, cur, hcur, hcell⟩, hb⟩
theorem d_told (h : D w w1 b e t dn R L) :
    Calls Try.prog 14 #[] w1 fun y w' => y = .returned (.bool true) ∧ D w w' b e t dn R L ∧ Below w1.heap.size w1 w' :=
  (told_any w1).mono fun _ _ ⟨hy, hb⟩ => ⟨hy, h.below hb, hb⟩
end

end Go.Proofs.Ytggdaepflcjmfaa
