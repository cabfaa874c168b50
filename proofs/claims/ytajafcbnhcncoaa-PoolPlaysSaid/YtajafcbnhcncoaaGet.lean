/-
  Package pool's Get and Copy; conditions: at most 1000 messages of at most 1000 bytes, the bound from 1 to 1000.
-/
import Derived.Test.YtajafcbnhcncoaaPut
namespace Go.Proofs.Ytajafcbnhcncoaa
open Go.RowKit
variable {S : Nat → Prop}

/-- The place that a number means. -/
def at_ (L : List (List Int)) (i : Int) : Nat := (i % (L.length : Int)).toNat
theorem at_lt {L : List (List Int)} {i : Int} (h : L ≠ []) : at_ L i < L.length := by
  have hl : 0 < L.length := List.length_pos_iff.2 h
  unfold at_
  have := Int.emod_lt_of_pos i (show (0 : Int) < (L.length : Int) by omega)
  have := Int.emod_nonneg i (show (L.length : Int) ≠ 0 by omega)
  omega

set_option maxHeartbeats 400000 in
theorem get_nil (i : Int) (w : World) : Calls Try.prog 16 #[.pointer none, .int .i64 i] w fun e w' => e = .returned (.tuple #[.slice none 0 0, .int .i64 1]) ∧ w' = w := by
  go_enter Try.func16, Try.ntmps16
  go_wp2_with fail
  refine (len_nil w).mono ?_
  rintro e w1 ⟨rfl, rfl⟩
  go_wp2_with fail
  go_ret2
  exact ⟨rfl, rfl⟩
set_option maxHeartbeats 400000 in
theorem get_bad (b f : Nat) (lim : Int) (L : List (List Int)) (i : Int) (w : World) (h : Rep S w b lim L f) (hb : L = [] ∨ i < 0) : Calls Try.prog 16 #[.pointer (some ⟨b, 0, none⟩), .int .i64 i] w fun e w' => e = .returned (.tuple #[.slice none 0 0, .int .i64 1]) ∧ w' = w := by
  have H := Lib.hid h
  clear h
  by_cases hl : L = []
  · subst hl
    go_enter Try.func16, Try.ntmps16
    go_wp2_with fail
    refine (len_any b f lim [] w H.out).mono ?_
    rintro e w1 ⟨rfl, rfl⟩
    go_wp2_with fail
    go_ret2
    exact ⟨rfl, rfl⟩
  · have hneg : i < 0 := hb.resolve_left hl
    have hpos : 0 < L.length := List.length_pos_iff.2 hl
    clear hb hl
    go_enter Try.func16, Try.ntmps16
    go_wp2_with fail
    refine (len_any b f lim L w H.out).mono ?_
    rintro e w1 ⟨rfl, rfl⟩
    generalize L.length = n at *
    have hn0 : ((n : Int) == 0) = false := beq_eq_false_iff_ne.2 (by omega)
    go_wp2_with fail
    go_ret2
    exact ⟨rfl, rfl⟩

set_option maxHeartbeats 1000000 in
theorem get_any (b f : Nat) (lim : Int) (L : List (List Int)) (i : Int) (w : World) (h : Rep S w b lim L f) (hl : L ≠ []) (hi : 0 ≤ i) (hL : L.length ≤ 1000) (hx : ∀ x ∈ L, x.length ≤ 1000) :
    Calls Try.prog 16 #[.pointer (some ⟨b, 0, none⟩), .int .i64 i] w fun e w' => (∃ v', e = .returned (.tuple #[v', .int .i64 0]) ∧ w'.ownsRow w.heap.size 5 1 v' (L.getD (at_ L i) []).length (bv (L.getD (at_ L i) []))) ∧ Below w.heap.size w w' := by
  have hk := at_lt (i := i) hl
  have hpos : 0 < L.length := List.length_pos_iff.2 hl
  have hk2 : i % (L.length : Int) = ((at_ L i : Nat) : Int) := by
    unfold at_
    have := Int.emod_nonneg i (show (L.length : Int) ≠ 0 by omega)
    omega
  have hk3 : i.tmod (L.length : Int) = ((at_ L i : Nat) : Int) := by rw [Int.tmod_eq_emod_of_nonneg hi]; exact hk2
  generalize at_ L i = k at *
  have hxk : (L.getD k []).length ≤ 100000 := by
    have := hx (L.getD k []) (by rw [List.getD_eq_getElem?_getD, List.getElem?_eq_getElem hk]; exact List.getElem_mem hk)
    omega
  have H := Lib.hid h
  obtain ⟨q, R, vs, c0, c1, c2, f1, f2, hb, ho, hf, hm⟩ := h.cells
  have hlen := hm.1
  have hmk := hm.2.2 k hk
  obtain ⟨g, cap, cur, rfl, hg⟩ : ∃ g cap cur, q = .slice (some ⟨g, 0, none⟩) vs.length cap ∧ w.heap[g]? = some (.cells cur 28 (0, 0)) := by
    rcases ho.2 with ⟨_, hn⟩ | ⟨g, cap, cur, hq, _, hg, _⟩
    · omega
    · exact ⟨g, cap, cur, hq, hg⟩
  have hcell : w.cell? ⟨g, k, none⟩ = some (vs.getD k (.slice none 0 0)) := by
    have hcell := ho.cells (g := g) rfl k (vs.getD k (.slice none 0 0)) (by rw [List.getD_eq_getElem?_getD, List.getElem?_eq_getElem (by omega)]; rfl)
    rwa [show (⟨g, 0, none⟩ : Addr).add k = ⟨g, k, none⟩ from by unfold Addr.add; split <;> simp_all] at hcell
  obtain ⟨ka, kc, hkv⟩ := ownsRow_shape hmk
  rw [hkv] at hmk hcell
  rw [hlen] at c1
  have HM := Lib.hid (BVals.of_row hmk)
  have hc1 : w.drew.cell? ⟨b, 1, none⟩ = some (.slice (some ⟨g, 0, none⟩) L.length cap) := c1
  have hcd : w.drew.cell? ⟨g, k, none⟩ = some (.slice ka (L.getD k []).length kc) := hcell
  clear h hb ho hf hm hlen hmk hkv hg f1 f2 c0 c2 hx hl
  generalize hX : L.getD k [] = x at *
  clear hX
  go_enter Try.func16, Try.ntmps16
  go_wp2_with fail
  refine (len_any b f lim L w H.out).mono ?_
  rintro e w1 ⟨rfl, rfl⟩
  clear H
  generalize L.length = n at *
  have hn0 : ((n : Int) == 0) = false := beq_eq_false_iff_ne.2 (by omega)
  go_wp2_with fail
  go_region_with (first | (go_at_call 20; refine (clone_any _ x _ ?_ hxk).mono ?_; exact HM.out.keep (Nat.le_refl _) (fun _ _ _ => rfl); rintro e w4 ⟨⟨v4, rfl, o4⟩, b4⟩; have HO4 := Lib.hid o4; have HB4 := Lib.hid b4; clear o4 b4))
  all_goals
    go_wp2_with fail
    go_ret2
    exact ⟨⟨_, rfl, HO4.out⟩, ⟨HB4.out.os, HB4.out.tape, HB4.out.output, HB4.out.size, HB4.out.block⟩⟩

end Go.Proofs.Ytajafcbnhcncoaa
