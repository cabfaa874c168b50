/-
  slices.Delete of one message, by the kit's contract at elements of one cell; condition: at most 1000 messages.
-/
import Derived.Test.YtajafcbnhcncoaaGet
import Derived.Shelf.SlicesE.Delete
import Derived.Lib.OwnBridge
import Derived.Shelf.SlGeneric
import Derived.Ground.SlgnProg
namespace Go.Proofs.Ytajafcbnhcncoaa
open Go.RowKit Go.Shelf
variable {S : Nat → Prop}

shelf_lay_g SlLaysE.n45 Slgn 45 at Try 21 as Try.del

/-- A slice value, taken apart. -/
def encS (t : Option Addr × Nat × Nat) : Value := .slice t.1 t.2.1 t.2.2

theorem Msgs.enc {w : World} {b : Nat} {L : List (List Int)} {vs : List Value} (h : Msgs S w b vs L) : ∃ ts, vs = List.map encS ts := by
  have hall : ∀ v ∈ vs, ∃ t, v = encS t := by
    intro v hv
    obtain ⟨i, hi, rfl⟩ := List.getElem_of_mem hv
    have := h.2.2 i (by rw [← h.1]; exact hi)
    rw [List.getD_eq_getElem?_getD, List.getElem?_eq_getElem hi] at this
    obtain ⟨a, c, hc⟩ := ownsRow_shape this
    exact ⟨(a, _, c), hc⟩
  clear h
  induction vs with
  | nil => exact ⟨[], rfl⟩
  | cons v vs ih =>
    obtain ⟨t, rfl⟩ := hall v (by simp)
    obtain ⟨ts, rfl⟩ := ih fun v hv => hall v (by simp [hv])
    exact ⟨t :: ts, rfl⟩

theorem getD_erase {α : Type} (l : List α) (k i : Nat) (d : α) : (l.eraseIdx k).getD i d = if i < k then l.getD i d else l.getD (i + 1) d := by
  rw [List.getD_eq_getElem?_getD, List.getElem?_eraseIdx]
  split
  · rw [List.getD_eq_getElem?_getD]
  · rw [List.getD_eq_getElem?_getD]

theorem Msgs.erase {w : World} {b : Nat} {L : List (List Int)} {vs : List Value} (h : Msgs S w b vs L) (k : Nat) (hk : k < L.length) : Msgs S w b (vs.eraseIdx k) (L.eraseIdx k) := by
  have h1 := h.1
  refine ⟨by rw [List.length_eraseIdx_of_lt (by omega), List.length_eraseIdx_of_lt hk, h1], fun v hv => h.2.1 v (List.mem_of_mem_eraseIdx hv), fun i hi => ?_⟩
  rw [List.length_eraseIdx_of_lt hk] at hi
  rw [getD_erase, getD_erase]
  split
  · exact h.2.2 i (by omega)
  · exact h.2.2 (i + 1) (by omega)

theorem del_any (b : Nat) (v : Value) (vs : List Value) (L : List (List Int)) (k : Nat) (w : World) (ho : w.ownsRow (b + 1) 28 1 v vs.length vs) (hm : Msgs S w b vs L) (hk : k < L.length) :
    Calls Try.prog 21 #[v, .int .i64 (k : Int), .int .i64 ((k : Int) + 1)] w fun e w' => ∃ v', e = .returned v' ∧ v'.ownBlock = v.ownBlock ∧ w'.ownsRow (b + 1) 28 1 v' (vs.eraseIdx k).length (vs.eraseIdx k) ∧
      w'.os = w.os ∧ w'.tape = w.tape ∧ w'.output = w.output ∧ w'.heap.size = w.heap.size ∧ ∀ j, v.ownBlock ≠ some j → w'.heap[j]? = w.heap[j]? := by
  have hlen := hm.1
  obtain ⟨ts, rfl⟩ := hm.enc
  have hlt : (List.map encS ts).length = ts.length := by simp
  rw [hlt] at ho hlen
  have hv : v ≠ .slice none 0 0 := fun e => by
    subst e
    rcases ho.2 with ⟨_, hn⟩ | ⟨g, cap, cur, hq, _⟩
    · omega
    · simp at hq
  obtain ⟨g, cap, rfl, hbg, hg, hcap, hmax, _, hH⟩ := Lib.holds_of_ownsRow ho hv
  unfold maxLen at hmax
  have hc : Calls Try.prog 21 #[.slice (some ⟨g, 0, none⟩) ts.toArray.size cap, .int .i64 (k : Nat), .int .i64 ((k + 1 : Nat) : Int)] w _ := AnyE.slices_Delete Try.del encS (fun _ => rfl) (none, 0, 0) Try.zeroValue28 ((Try.prog.info? 28).get (by kernel_rfl)) (by kernel_rfl) (by kernel_rfl) g 0 cap k (k + 1) ts.toArray w hH (by simpa using hcap) hmax (by omega) (by simp; omega)
  rw [Int.natCast_add] at hc
  refine hc.mono fun e w' ⟨he, q, hw⟩ => ?_
  have hys : (ts.take k ++ ts.drop (k + 1) ++ List.replicate (k + 1 - k) ((none, 0, 0) : Option Addr × Nat × Nat)).length = ts.length := by simp; omega
  have hown := Lib.ownsRow_putRow (q := q) (k := ts.length - 1) ho hys (by omega)
  have herase : (ts.take k ++ ts.drop (k + 1) ++ List.replicate (k + 1 - k) ((none, 0, 0) : Option Addr × Nat × Nat)).take (ts.length - 1) = ts.eraseIdx k := by
    rw [List.take_append_of_le_length (by simp; omega), List.take_of_length_le (by simp; omega), List.eraseIdx_eq_take_drop_succ]
  rw [herase] at hown
  have hlen2 : (ts.eraseIdx k).length = ts.length - 1 := List.length_eraseIdx_of_lt (by omega)
  have hmap : (List.map encS ts).eraseIdx k = List.map encS (ts.eraseIdx k) := by rw [List.eraseIdx_eq_take_drop_succ, List.eraseIdx_eq_take_drop_succ, List.map_append, List.map_take, List.map_drop]
  refine ⟨.slice (some ⟨g, 0, none⟩) (ts.length - 1) cap, ?_, rfl, ?_, ?_⟩
  · rw [he]; simp
  · rw [hmap, hw, List.length_map, hlen2]
    exact hown
  · rw [hw]
    exact ⟨rfl, rfl, rfl, by simp [«Sort».putRow, «Sort».mapBlock, «Sort».ahead], fun j hj => by
      have hne : g ≠ j := fun e => hj (by rw [e]; rfl)
      simp [«Sort».putRow, «Sort».mapBlock, «Sort».ahead, Array.getElem?_modify, hne]⟩

end Go.Proofs.Ytajafcbnhcncoaa
