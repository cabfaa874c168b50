/-
  Both pools side by side: each method in one contract, what it answers and what it leaves, for good and bad places; conditions: at most 1000 messages of at most 1000 bytes.
-/
import Derived.Test.YtajafcbnhcncoaaRef
namespace Go.Proofs.Ytajafcbnhcncoaa
open Go.RowKit
variable {S : Nat → Prop}

/-- May the place be meant? -/
def okI (L : List (List Int)) (i : Int) : Prop := L ≠ [] ∧ 0 ≤ i
instance (L : List (List Int)) (i : Int) : Decidable (okI L i) := by unfold okI; infer_instance
def tC (L : List (List Int)) (i : Int) : Int := if okI L i then 0 else 1
def tX (L : List (List Int)) (i : Int) : List Int := if okI L i then L.getD (at_ L i) [] else []
def tL (L : List (List Int)) (i : Int) : List (List Int) := if okI L i then L.eraseIdx (at_ L i) else L
def cC (lim : Int) (L : List (List Int)) (i : Int) : Int := if okI L i then putCode lim L else 1
def cL (lim : Int) (L : List (List Int)) (i : Int) : List (List Int) := if okI L i then putL lim L (L.getD (at_ L i) []) else L

theorem not_ok {L : List (List Int)} {i : Int} (h : ¬ okI L i) : L = [] ∨ i < 0 := by
  unfold okI at h
  by_cases hl : L = []
  · exact .inl hl
  · right
    have : ¬ 0 ≤ i := fun e => h ⟨hl, e⟩
    omega

theorem strOf_size (x : List Int) : (strOfNums x).size = x.length := by simp [strOfNums, ByteArray.size]
theorem sv_nil : sv [] = .string ⟨#[]⟩ := rfl

set_option maxHeartbeats 1000000 in
theorem rtake_bad (b : Nat) (lim : Int) (L : List (List Int)) (i : Int) (w : World) (h : RRep w b lim L) (hb : L = [] ∨ i < 0) : Calls Try.prog 13 #[.pointer (some ⟨b, 0, none⟩), .int .i64 i] w fun e w' => e = .returned (.tuple #[.string ⟨#[]⟩, .int .i64 1]) ∧ ∃ n, w' = w.drewN n := by
  have HG := Lib.hid (rget_bad b lim L i w h hb)
  clear h hb
  go_enter Try.func13, Try.ntmps13
  go_wp2_with fail
  refine HG.out.mono ?_
  rintro e w1 ⟨rfl, nq, rfl⟩
  go_wp2_with fail
  go_ret2
  exact ⟨rfl, _, rfl⟩
set_option maxHeartbeats 1000000 in
theorem rcopy_bad (b : Nat) (lim : Int) (L : List (List Int)) (i : Int) (w : World) (h : RRep w b lim L) (hb : L = [] ∨ i < 0) : Calls Try.prog 15 #[.pointer (some ⟨b, 0, none⟩), .int .i64 i] w fun e w' => e = .returned (.int .i64 1) ∧ ∃ n, w' = w.drewN n := by
  have HG := Lib.hid (rget_bad b lim L i w h hb)
  clear h hb
  go_enter Try.func15, Try.ntmps15
  go_wp2_with fail
  refine HG.out.mono ?_
  rintro e w1 ⟨rfl, nq, rfl⟩
  go_wp2_with fail
  go_ret
  exact ⟨rfl, _, rfl⟩
set_option maxHeartbeats 1000000 in
theorem rcopy_any (b : Nat) (lim : Int) (L : List (List Int)) (i : Int) (w : World) (h : RRep w b lim L) (hl : L ≠ []) (hi : 0 ≤ i) (hL : L.length ≤ 1000) (hx : ∀ x ∈ L, x.length ≤ 1000) : Calls Try.prog 15 #[.pointer (some ⟨b, 0, none⟩), .int .i64 i] w fun e w' => e = .returned (.int .i64 (putCode lim L)) ∧ RWent w b lim (putL lim L (L.getD (at_ L i) [])) w' := by
  have hk := at_lt (i := i) hl
  have HG := Lib.hid (rget_any b lim L i w h hl hi hL)
  have hxk : (strOfNums (L.getD (at_ L i) [])).size ≤ 1000 := by
    rw [strOf_size]
    exact hx _ (by rw [List.getD_eq_getElem?_getD, List.getElem?_eq_getElem hk]; exact List.getElem_mem hk)
  have H := Lib.hid h
  clear h hl hx
  generalize L.getD (at_ L i) [] = x at *
  have HSV := (show Hid (sv x = .string (strOfNums x)) from rfl)
  rw [HSV.out] at HG
  go_enter Try.func15, Try.ntmps15
  go_wp2_with fail
  refine HG.out.mono ?_
  rintro e w1 ⟨rfl, nq, rfl⟩
  clear HG
  go_wp2_with fail
  rw [← HSV.out]
  refine (rput_any b lim L x (w.drewN nq) (H.out.drewN nq) hxk hL).mono ?_
  rintro e w2 ⟨rfl, hw⟩
  have HW := Lib.hid hw
  clear hw
  go_wp2_with fail
  go_ret
  exact ⟨rfl, HW.out.1, ((Fr.refl _ _ _).drewN nq).trans HW.out.2 (.inl rfl)⟩

/-- The reference's block turns: the pool stays. -/
theorem One.fr41 {w w' : World} {b c : Nat} {lim : Int} {L : List (List Int)} {cs : Array Value} {fr : Nat × Nat} (h : One S w b lim L) (hc : w.heap[c]? = some (.cells cs 41 fr)) (hf : Fr c c w w') : One S w' b lim L := by
  obtain ⟨⟨f, hr⟩, rest⟩ := h
  have hn := hr.not_five hc (by decide) (by decide)
  refine ⟨⟨f, hr.keep (hf.block b hr.lt hn.1.symm hn.1.symm) (hf.block f hr.le.2 hn.2.symm hn.2.symm) fun g c' _ hg => ?_⟩, rest⟩
  have hne : g ≠ c := fun e => by
    rw [e, hc] at hg
    injection hg with hg
    injection hg with _ hg
    exact absurd hg (by decide)
  exact hf.block g (lt_of_block hg) hne hne

/-- A message that was handed out, in a row of its own. -/
def OV (w : World) (v : Value) (x : List Int) : Prop := ∃ base, w.ownsRow base 5 1 v x.length (bv x)
theorem OV.nil (w : World) : OV w (.slice none 0 0) [] := ⟨0, World.ownsRow_nil _ _ _ _⟩
theorem OV.bvals {w : World} {v : Value} {x : List Int} (h : OV w v x) : BVals w v x := by
  obtain ⟨_, h⟩ := h
  exact BVals.of_row h
theorem OV.shape {w : World} {v : Value} {x : List Int} (h : OV w v x) : ∃ a c, v = .slice a x.length c := h.bvals.shape
/-- All blocks that are no reference's object are as they were. -/
def Seven (w w' : World) : Prop := ∀ (j : Nat) c t fr, w.heap[j]? = some (Obj.cells c t fr) → t ≠ 41 → w'.heap[j]? = w.heap[j]?
theorem Seven.refl (w : World) : Seven w w := fun _ _ _ _ _ _ => rfl
theorem OV.seven {w w' : World} {v : Value} {x : List Int} (h : OV w v x) (hs : Seven w w') : OV w' v x := by
  obtain ⟨base, h⟩ := h
  exact ⟨base, own_keep h fun g c _ hc _ => hs g c 5 _ hc (by decide)⟩
theorem Seven.of_fr {w w' : World} {c : Nat} {cs : Array Value} {fr : Nat × Nat} (hc : w.heap[c]? = some (.cells cs 41 fr)) (hf : Fr c c w w') : Seven w w' := fun j c' t fr' hj ht => by
  have hne : j ≠ c := fun e => by
    rw [e, hc] at hj
    injection hj with hj
    injection hj with _ hj
    exact ht hj.symm
  exact hf.block j (lt_of_block hj) hne hne

def Both (w : World) (b c : Nat) (lim : Int) (L M : List (List Int)) : Prop := One (fun _ => True) w b lim L ∧ RRep w c lim M ∧ b ≤ c ∧ M.length ≤ 1000 ∧ ∀ x ∈ M, x.length ≤ 1000

theorem Both.below {w w' : World} {b c : Nat} {lim : Int} {L M : List (List Int)} (h : Both w b c lim L M) (hb : Below w.heap.size w w') : Both w' b c lim L M := ⟨h.1.below hb, h.2.1.below hb, h.2.2⟩
theorem Both.drewN {w : World} {b c : Nat} {lim : Int} {L M : List (List Int)} (h : Both w b c lim L M) (n : Nat) : Both (w.drewN n) b c lim L M := h.below (belowDrewN (Below.refl _ _) n)
theorem Both.lt {w : World} {b c : Nat} {lim : Int} {L M : List (List Int)} (h : Both w b c lim L M) : b < w.heap.size := h.1.lt

theorem okget {L : List (List Int)} {i : Int} (h : okI L i) (hx : ∀ x ∈ L, x.length ≤ 1000) : (L.getD (at_ L i) []).length ≤ 1000 := by
  have hk := at_lt (i := i) h.1
  exact hx _ (by rw [List.getD_eq_getElem?_getD, List.getElem?_eq_getElem hk]; exact List.getElem_mem hk)

theorem both_put (b c : Nat) (lim : Int) (L M : List (List Int)) (x : List Int) (v : Value) (w : World) (h : Both w b c lim L M) (hv : BVals w v x) (hx : x.length ≤ 1000) (hg : x ≠ [] → ∀ g, v.ownBlock = some g → g < b) :
    Calls Try.prog 10 #[.pointer (some ⟨b, 0, none⟩), v] w fun e w' => e = .returned (.int .i64 (putCode lim L)) ∧ Both w' b c lim (putL lim L x) M ∧ Below b w w' :=
  (one_put b b lim L x v w h.1 hv hx (Nat.le_refl _) (fun _ _ => trivial) fun hne g hgo => .inl (hg hne g hgo)).mono fun _ _ ⟨he, h1, h2, h3⟩ => ⟨he, ⟨h1, h.2.1.five h3, h.2.2⟩, h2⟩

theorem both_rput (b c : Nat) (lim : Int) (L M : List (List Int)) (x : List Int) (w : World) (h : Both w b c lim L M) (hx : x.length ≤ 1000) :
    Calls Try.prog 11 #[.pointer (some ⟨c, 0, none⟩), sv x] w fun e w' => e = .returned (.int .i64 (putCode lim M)) ∧ Both w' b c lim L (putL lim M x) ∧ Below b w w' ∧ Seven w w' := by
  obtain ⟨v, hv, _⟩ := h.2.1
  exact (rput_any c lim M x w h.2.1 (by rw [strOf_size]; exact hx) h.2.2.2.1).mono fun e w' ⟨he, h1, h2⟩ => ⟨he, ⟨h.1.fr41 hv h2, h1, h.2.2.1, putL_length h.2.2.2.1 h.1.2.2.2, putL_all h.2.2.2.2 hx⟩, h2.below h.2.2.1 h.2.2.1 h.2.1.lt, Seven.of_fr hv h2⟩

theorem both_take (b c : Nat) (lim : Int) (L M : List (List Int)) (i : Int) (w : World) (h : Both w b c lim L M) :
    Calls Try.prog 12 #[.pointer (some ⟨b, 0, none⟩), .int .i64 i] w fun e w' => (∃ v', e = .returned (.tuple #[v', .int .i64 (tC L i)]) ∧ OV w' v' (tX L i)) ∧ Both w' b c lim (tL L i) M ∧ Below b w w' := by
  unfold tC tX tL
  by_cases hok : okI L i
  · rw [if_pos hok, if_pos hok, if_pos hok]
    exact (one_take b b lim L i w h.1 hok.1 hok.2 (Nat.le_refl _)).mono fun _ _ ⟨⟨v', he, hv⟩, h1, h2, h3⟩ => ⟨⟨v', he, _, hv⟩, ⟨h1, h.2.1.five h3, h.2.2⟩, h2⟩
  · rw [if_neg hok, if_neg hok, if_neg hok]
    exact (one_take_bad b lim L i w h.1 (not_ok hok)).mono fun e w' ⟨he, hw⟩ => ⟨⟨_, he, OV.nil _⟩, hw ▸ h, hw ▸ Below.refl _ _⟩

theorem both_rtake (b c : Nat) (lim : Int) (L M : List (List Int)) (i : Int) (w : World) (h : Both w b c lim L M) :
    Calls Try.prog 13 #[.pointer (some ⟨c, 0, none⟩), .int .i64 i] w fun e w' => e = .returned (.tuple #[sv (tX M i), .int .i64 (tC M i)]) ∧ Both w' b c lim L (tL M i) ∧ Below b w w' ∧ Seven w w' := by
  obtain ⟨v, hv, _⟩ := h.2.1
  unfold tC tX tL
  by_cases hok : okI M i
  · rw [if_pos hok, if_pos hok, if_pos hok]
    exact (rtake_any c lim M i w h.2.1 hok.1 hok.2 h.2.2.2.1).mono fun e w' ⟨he, h1, h2⟩ => ⟨he, ⟨h.1.fr41 hv h2, h1, h.2.2.1, Nat.le_trans (List.length_eraseIdx_le _ _) h.2.2.2.1, fun x hx => h.2.2.2.2 x (List.mem_of_mem_eraseIdx hx)⟩, h2.below h.2.2.1 h.2.2.1 h.2.1.lt, Seven.of_fr hv h2⟩
  · rw [if_neg hok, if_neg hok, if_neg hok]
    exact (rtake_bad c lim M i w h.2.1 (not_ok hok)).mono fun e w' ⟨he, n, hw⟩ => ⟨he, hw ▸ h.drewN n, hw ▸ belowDrewN (Below.refl _ _) n, hw ▸ Seven.refl _⟩

theorem both_get (b c : Nat) (lim : Int) (L M : List (List Int)) (i : Int) (w : World) (h : Both w b c lim L M) :
    Calls Try.prog 16 #[.pointer (some ⟨b, 0, none⟩), .int .i64 i] w fun e w' => (∃ v', e = .returned (.tuple #[v', .int .i64 (tC L i)]) ∧ OV w' v' (tX L i)) ∧ Both w' b c lim L M ∧ Below b w w' := by
  unfold tC tX
  by_cases hok : okI L i
  · rw [if_pos hok, if_pos hok]
    exact (one_get b lim L i w h.1 hok.1 hok.2).mono fun e w' ⟨⟨v', he, hv⟩, h1⟩ => ⟨⟨v', he, _, hv⟩, h.below h1, h1.mono (Nat.le_of_lt h.lt)⟩
  · rw [if_neg hok, if_neg hok]
    exact (one_get_bad b lim L i w h.1 (not_ok hok)).mono fun e w' ⟨he, hw⟩ => ⟨⟨_, he, OV.nil _⟩, hw ▸ h, hw ▸ Below.refl _ _⟩

theorem both_rget (b c : Nat) (lim : Int) (L M : List (List Int)) (i : Int) (w : World) (h : Both w b c lim L M) :
    Calls Try.prog 17 #[.pointer (some ⟨c, 0, none⟩), .int .i64 i] w fun e w' => e = .returned (.tuple #[sv (tX M i), .int .i64 (tC M i)]) ∧ ∃ n, w' = w.drewN n := by
  unfold tC tX
  by_cases hok : okI M i
  · rw [if_pos hok, if_pos hok]
    exact rget_any c lim M i w h.2.1 hok.1 hok.2 h.2.2.2.1
  · rw [if_neg hok, if_neg hok]
    exact rget_bad c lim M i w h.2.1 (not_ok hok)

theorem both_copy (b c : Nat) (lim : Int) (L M : List (List Int)) (i : Int) (w : World) (h : Both w b c lim L M) :
    Calls Try.prog 14 #[.pointer (some ⟨b, 0, none⟩), .int .i64 i] w fun e w' => e = .returned (.int .i64 (cC lim L i)) ∧ Both w' b c lim (cL lim L i) M ∧ Below b w w' := by
  unfold cC cL
  by_cases hok : okI L i
  · rw [if_pos hok, if_pos hok]
    exact (one_copy b b lim L i w h.1 hok.1 hok.2 (Nat.le_refl _) fun _ _ => trivial).mono fun e w' ⟨he, h1, h2, h3⟩ => ⟨he, ⟨h1, h.2.1.five h3, h.2.2⟩, h2⟩
  · rw [if_neg hok, if_neg hok]
    exact (one_copy_bad b lim L i w h.1 (not_ok hok)).mono fun e w' ⟨he, hw⟩ => ⟨he, hw ▸ h, hw ▸ Below.refl _ _⟩

theorem both_rcopy (b c : Nat) (lim : Int) (L M : List (List Int)) (i : Int) (w : World) (h : Both w b c lim L M) :
    Calls Try.prog 15 #[.pointer (some ⟨c, 0, none⟩), .int .i64 i] w fun e w' => e = .returned (.int .i64 (cC lim M i)) ∧ Both w' b c lim L (cL lim M i) ∧ Below b w w' ∧ Seven w w' := by
  obtain ⟨v, hv, _⟩ := h.2.1
  unfold cC cL
  by_cases hok : okI M i
  · rw [if_pos hok, if_pos hok]
    exact (rcopy_any c lim M i w h.2.1 hok.1 hok.2 h.2.2.2.1 h.2.2.2.2).mono fun e w' ⟨he, h1, h2⟩ => ⟨he, ⟨h.1.fr41 hv h2, h1, h.2.2.1, putL_length h.2.2.2.1 h.1.2.2.2, putL_all h.2.2.2.2 (okget hok h.2.2.2.2)⟩, h2.below h.2.2.1 h.2.2.1 h.2.1.lt, Seven.of_fr hv h2⟩
  · rw [if_neg hok, if_neg hok]
    exact (rcopy_bad c lim M i w h.2.1 (not_ok hok)).mono fun e w' ⟨he, n, hw⟩ => ⟨he, hw ▸ h.drewN n, hw ▸ belowDrewN (Below.refl _ _) n, hw ▸ Seven.refl _⟩

/-- Bytes as a string, whatever they lie in. -/
theorem bvals_str {w : World} {v : Value} {x : List Int} (h : BVals w v x) : (convert 28 9 v).run Try.prog w = .ok (.string (strOfNums x)) w := by
  rcases h with ⟨rfl, rfl⟩ | ⟨ad, cap, rfl, rfl⟩ | ⟨g, o, cap, rfl, _, _, hc⟩
  · exact run_convert_bytes_nil (P := Try.prog) w 28 5 Try.underlying28 Try.underlying5 0 0 9 Try.underlying9
  · rw [run_convert_bytes_string w 28 9 5 _ _ _ Try.underlying28 Try.underlying5 Try.underlying9]
    simp [Conv.bytesToString, loadCells, loadCellsFrom, strOfNums]
    rfl
  · exact run_convert_bytes_arg (P := Try.prog) w 28 5 Try.underlying28 Try.underlying5 g o x.length cap x rfl hc 9 Try.underlying9

end Go.Proofs.Ytajafcbnhcncoaa
