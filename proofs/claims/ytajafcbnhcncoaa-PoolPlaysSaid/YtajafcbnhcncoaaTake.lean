/-
  Package pool's Take and Copy; conditions: at most 1000 messages of at most 1000 bytes, the bound from 1 to 1000.
-/
import Derived.Test.YtajafcbnhcncoaaDel
namespace Go.Proofs.Ytajafcbnhcncoaa
open Go.RowKit
variable {S : Nat → Prop}

set_option maxHeartbeats 400000 in
theorem take_nil (i : Int) (w : World) : Calls Try.prog 12 #[.pointer none, .int .i64 i] w fun e w' => e = .returned (.tuple #[.slice none 0 0, .int .i64 1]) ∧ w' = w := by
  go_enter Try.func12, Try.ntmps12
  go_wp2_with fail
  refine (get_nil i w).mono ?_
  rintro e w1 ⟨rfl, rfl⟩
  go_wp2_with fail
  go_ret2
  exact ⟨rfl, rfl⟩
set_option maxHeartbeats 400000 in
theorem take_bad (b f : Nat) (lim : Int) (L : List (List Int)) (i : Int) (w : World) (h : Rep S w b lim L f) (hb : L = [] ∨ i < 0) : Calls Try.prog 12 #[.pointer (some ⟨b, 0, none⟩), .int .i64 i] w fun e w' => e = .returned (.tuple #[.slice none 0 0, .int .i64 1]) ∧ w' = w := by
  have H := Lib.hid h
  have HB := Lib.hid hb
  clear h hb
  go_enter Try.func12, Try.ntmps12
  go_wp2_with fail
  refine (get_bad b f lim L i w H.out HB.out).mono ?_
  rintro e w1 ⟨rfl, rfl⟩
  go_wp2_with fail
  go_ret2
  exact ⟨rfl, rfl⟩

/-- Behind the deletion. -/
theorem behind_del {w1 w2 : World} {b f : Nat} {lim R : Int} {vs : List Value} {L : List (List Int)} {q a : Value} {k : Nat}
    (hb : w1.heap[b]? = some (.cells #[.int .i64 lim, q, .int .i64 R] 56 (0, 0))) (ho : w1.ownsRow (b + 1) 28 1 q vs.length vs) (hf : q.ownBlock.getD b = f) (hm : Msgs S w1 b vs L) (hk : k < L.length)
    (ha : a.ownBlock = q.ownBlock) (hown : w2.ownsRow (b + 1) 28 1 a (vs.eraseIdx k).length (vs.eraseIdx k)) (h1 : w2.os = w1.os) (h2 : w2.tape = w1.tape) (h3 : w2.output = w1.output) (h4 : w2.heap.size = w1.heap.size) (h5 : ∀ j, q.ownBlock ≠ some j → w2.heap[j]? = w1.heap[j]?) :
    w2.cell? ⟨b, 1, none⟩ = some q ∧ w2.frozen? ⟨b, 1, none⟩ = false ∧ Went S w1 b f lim (L.eraseIdx k) (w2.setCell ⟨b, 1, none⟩ a) ∧ ∀ (j : Nat) c, w1.heap[j]? = some (Obj.cells c 5 (0, 0)) → (w2.setCell ⟨b, 1, none⟩ a).heap[j]? = w1.heap[j]? := by
  have hrow : ∀ g, q.ownBlock = some g → b < g ∧ ∃ c, w1.heap[g]? = some (.cells c 28 (0, 0)) := fun g hg => by
    rcases ho.2 with ⟨e, _⟩ | ⟨g', cap', cur, e, hb', hg', _⟩
    · rw [e] at hg; simp [Value.ownBlock] at hg
    · rw [e] at hg; simp [Value.ownBlock] at hg; subst hg; exact ⟨hb', cur, hg'⟩
  have hb2 : w2.heap[b]? = some (.cells #[.int .i64 lim, q, .int .i64 R] 56 (0, 0)) := by
    rw [h5 b fun e => by have := (hrow b e).1; omega]
    exact hb
  have five : ∀ (j : Nat) c, w1.heap[j]? = some (Obj.cells c 5 (0, 0)) → w2.heap[j]? = w1.heap[j]? := fun j c hj => h5 j fun e => by
    obtain ⟨_, c', hc'⟩ := hrow j e
    rw [hj] at hc'
    cases hc'
  have hm2 : Msgs S w2 b (vs.eraseIdx k) (L.eraseIdx k) := (hm.erase k hk).keep fun g c _ hg => five g c hg
  refine ⟨by simp [World.cell?, hb2], by simp [World.frozen?, hb2], ⟨a.ownBlock.getD b, Rep.stored hb2 hown hm2, ?_, ⟨h1, h2, h3, by simp [World.setCell, h4], fun j hj e1 e2 => ?_⟩⟩, fun j c hj => ?_⟩
  · rw [ha, hf]
    exact .inr (.inl rfl)
  · rw [Below.heap_setCell _ _ _ _ e1]
    exact h5 j fun e => by rw [e] at hf; exact e2 hf
  · rw [Below.heap_setCell _ _ _ _ (by show j ≠ b; intro e; rw [e, hb] at hj; cases hj)]
    exact five j c hj

set_option maxHeartbeats 1000000 in
theorem take_any (b f : Nat) (lim : Int) (L : List (List Int)) (i : Int) (w : World) (h : Rep S w b lim L f) (hl : L ≠ []) (hi : 0 ≤ i) (hL : L.length ≤ 1000) (hx : ∀ x ∈ L, x.length ≤ 1000) :
    Calls Try.prog 12 #[.pointer (some ⟨b, 0, none⟩), .int .i64 i] w fun e w' => (∃ v', e = .returned (.tuple #[v', .int .i64 0]) ∧ w'.ownsRow w.heap.size 5 1 v' (L.getD (at_ L i) []).length (bv (L.getD (at_ L i) []))) ∧ Went S w b f lim (L.eraseIdx (at_ L i)) w' := by
  have hk := at_lt (i := i) hl
  have hpos : 0 < L.length := List.length_pos_iff.2 hl
  have hk2 : i % (L.length : Int) = ((at_ L i : Nat) : Int) := by
    unfold at_
    have := Int.emod_nonneg i (show (L.length : Int) ≠ 0 by omega)
    omega
  have hk3 : i.tmod (L.length : Int) = ((at_ L i : Nat) : Int) := by rw [Int.tmod_eq_emod_of_nonneg hi]; exact hk2
  have HG := Lib.hid (get_any b f lim L i w h hl hi hL hx)
  have H := Lib.hid h
  have hltb := h.lt
  clear h hl hx
  generalize at_ L i = k at *
  go_enter Try.func12, Try.ntmps12
  go_wp2_with fail
  refine HG.out.mono ?_
  rintro e w1 ⟨⟨v', rfl, o1⟩, b1⟩
  have HR1 := H.out.below b1
  obtain ⟨q, R, vs, c0, c1, c2, f1, f2, hb, ho, hf, hm⟩ := HR1.cells
  have hlen := hm.1
  have HB := Lib.hid hb
  have HO := Lib.hid ho
  have HF := Lib.hid hf
  have HM := Lib.hid hm
  have HB1 := Lib.hid b1
  have HO1 := Lib.hid o1
  obtain ⟨qa, qc, hq⟩ := ownsRow_shape ho
  rw [hq] at c1 HB HO HF
  rw [hlen] at c1
  have HD := Lib.hid (del_any b (.slice qa vs.length qc) vs L k w1 HO.out HM.out hk)
  rw [hlen] at HD
  have hkI : 0 ≤ (k : Int) := Int.natCast_nonneg k
  clear HG HR1 hb ho hf hm b1 o1 f1 f2 c0 c2 hq
  have hn0 : ((L.length : Int) == 0) = false := beq_eq_false_iff_ne.2 (by omega)
  go_wp2_with fail
  refine HD.out.mono ?_
  rintro e w2 ⟨v2, rfl, hv2, ho2, g1, g2, g3, g4, g5⟩
  rw [← hlen] at hv2 g5
  obtain ⟨d2, e2, hwent, h5⟩ := behind_del HB.out HO.out HF.out HM.out hk hv2 ho2 g1 g2 g3 g4 g5
  rw [hlen] at d2
  obtain ⟨a2, k2, hs2⟩ := ownsRow_shape ho2
  rw [hs2] at hwent h5 ⊢
  have HO5 := Lib.hid (own_keep HO1.out fun g c _ hc _ => h5 g c hc)
  have HW := Lib.hid hwent
  clear HD HB HO HF HM hv2 ho2 g1 g2 g3 g4 g5 hwent h5 hs2 HO1
  go_wp2_with fail
  go_ret2
  obtain ⟨f', hr', hf', hfr'⟩ := HW.out
  refine ⟨⟨_, rfl, HO5.out⟩, f', hr', ?_, (Fr.of_below HB1.out).trans hfr' (.inr (.inl rfl))⟩
  have := HB1.out.size
  rcases hf' with h | h | h
  · exact .inl h
  · exact .inr (.inl h)
  · exact .inr (.inr (Nat.le_trans this h))

set_option maxHeartbeats 400000 in
theorem copy_bad (b f : Nat) (lim : Int) (L : List (List Int)) (i : Int) (w : World) (h : Rep S w b lim L f) (hb : L = [] ∨ i < 0) : Calls Try.prog 14 #[.pointer (some ⟨b, 0, none⟩), .int .i64 i] w fun e w' => e = .returned (.int .i64 1) ∧ w' = w := by
  have H := Lib.hid h
  have HB := Lib.hid hb
  clear h hb
  go_enter Try.func14, Try.ntmps14
  go_wp2_with fail
  refine (get_bad b f lim L i w H.out HB.out).mono ?_
  rintro e w1 ⟨rfl, rfl⟩
  go_wp2_with fail
  go_ret
  exact ⟨rfl, rfl⟩

set_option maxHeartbeats 1000000 in
theorem copy_any (b f : Nat) (lim : Int) (L : List (List Int)) (i : Int) (w : World) (h : Rep S w b lim L f) (hl : L ≠ []) (hi : 0 ≤ i) (hL : L.length ≤ 1000) (hx : ∀ x ∈ L, x.length ≤ 1000) (hS : ∀ g, w.heap.size ≤ g → S g) :
    Calls Try.prog 14 #[.pointer (some ⟨b, 0, none⟩), .int .i64 i] w fun e w' => e = .returned (.int .i64 (putCode lim L)) ∧ Went S w b f lim (putL lim L (L.getD (at_ L i) [])) w' := by
  have hk := at_lt (i := i) hl
  have HG := Lib.hid (get_any b f lim L i w h hl hi hL hx)
  have hxk : (L.getD (at_ L i) []).length ≤ 1000 := hx _ (by rw [List.getD_eq_getElem?_getD, List.getElem?_eq_getElem hk]; exact List.getElem_mem hk)
  have H := Lib.hid h
  have hle := h.le
  have HS := Lib.hid hS
  clear h hl hx hS
  generalize L.getD (at_ L i) [] = x at *
  go_enter Try.func14, Try.ntmps14
  go_wp2_with fail
  refine HG.out.mono ?_
  rintro e w1 ⟨⟨v', rfl, o1⟩, b1⟩
  have HR1 := Lib.hid (H.out.below b1)
  have HB1 := Lib.hid b1
  have HX := Lib.hid (BVals.of_row o1)
  have HA := Lib.hid (show ∀ g, v'.ownBlock = some g → g ≠ b ∧ g ≠ f from fun g hg => by have := o1.lt g hg; omega)
  clear b1 o1 HG
  go_wp2_with fail
  refine (put_any b f lim L x v' w1 HR1.out HX.out hxk hL (fun g hg => HS.out g (Nat.le_trans HB1.out.size hg)) fun _ => HA.out).mono ?_
  rintro e w2 ⟨rfl, f', hr', hf', hfr'⟩
  have HR2 := Lib.hid hr'
  have HF2 := Lib.hid hf'
  have HFr2 := Lib.hid hfr'
  clear hr' hf' hfr'
  go_wp2_with fail
  go_ret
  refine ⟨rfl, f', HR2.out, ?_, (Fr.of_below HB1.out).trans HFr2.out (.inr (.inl rfl))⟩
  have := HB1.out.size
  rcases HF2.out with h | h | h
  · exact .inl h
  · exact .inr (.inl h)
  · exact .inr (.inr (Nat.le_trans this h))

/-- All blocks of other kinds than the object's own are as they were. -/
def Five (w w' : World) : Prop := ∀ (j : Nat) c t fr, w.heap[j]? = some (Obj.cells c t fr) → t ≠ 28 → t ≠ 56 → w'.heap[j]? = w.heap[j]?
theorem Five.trans {w w1 w2 : World} (h : Five w w1) (k : Five w1 w2) : Five w w2 := fun j c t fr hj h1 h2 => by
  have h3 := h j c t fr hj h1 h2
  exact (k j c t fr (h3.trans hj) h1 h2).trans h3
theorem Five.below {w w' : World} (h : Below w.heap.size w w') : Five w w' := fun j _ _ _ hj _ _ => h.block j (lt_of_block hj)
theorem Five.own {w w' : World} (h : Five w w') {base size : Nat} {v : Value} {n : Nat} {xs : List Value} (ho : w.ownsRow base 5 size v n xs) : w'.ownsRow base 5 size v n xs := own_keep ho fun g c _ hc _ => h g c 5 _ hc (by decide) (by decide)
theorem Rep.not_five {w : World} {b f : Nat} {lim : Int} {L : List (List Int)} (hr : Rep S w b lim L f) {g : Nat} {c : Array Value} {t : TypeId} {fr : Nat × Nat} (hc : w.heap[g]? = some (.cells c t fr)) (h1 : t ≠ 28) (h2 : t ≠ 56) : g ≠ b ∧ g ≠ f := by
  obtain ⟨q, R, vs, _, _, _, _, _, hb, ho, hf, _⟩ := hr.cells
  have nb : g ≠ b := fun e => by
    rw [e, hb] at hc
    injection hc with hc
    injection hc with _ hc
    exact h2 hc.symm
  refine ⟨nb, fun e => ?_⟩
  subst e
  cases hq : q.ownBlock with
  | none => rw [hq] at hf; simp at hf; exact nb hf.symm
  | some g' =>
    rw [hq] at hf
    simp at hf
    rcases ho.2 with ⟨e, _⟩ | ⟨g2, cap', cur, e, _, hg', _⟩
    · rw [e] at hq; simp [Value.ownBlock] at hq
    · rw [e] at hq
      simp [Value.ownBlock] at hq
      rw [hq, hf, hc] at hg'
      injection hg' with hg'
      injection hg' with _ hg'
      exact h1 hg'
theorem Rep.five {w w' : World} {b f : Nat} {lim : Int} {L : List (List Int)} (hr : Rep S w b lim L f) (h : Fr b f w w') : Five w w' := fun j _ _ _ hj h1 h2 => h.block j (lt_of_block hj) (hr.not_five hj h1 h2).1 (hr.not_five hj h1 h2).2

/-- One object, its messages at most 1000, each of at most 1000 bytes. -/
def One (S : Nat → Prop) (w : World) (b : Nat) (lim : Int) (L : List (List Int)) : Prop := (∃ f, Rep S w b lim L f) ∧ L.length ≤ 1000 ∧ (∀ x ∈ L, x.length ≤ 1000) ∧ lim ≤ 1000

theorem One.lt {w : World} {b : Nat} {lim : Int} {L : List (List Int)} (h : One S w b lim L) : b < w.heap.size := by
  obtain ⟨⟨f, hr⟩, _⟩ := h
  exact hr.lt
theorem One.below {w w' : World} {b : Nat} {lim : Int} {L : List (List Int)} (h : One S w b lim L) (hb : Below w.heap.size w w') : One S w' b lim L := by
  obtain ⟨⟨f, hr⟩, rest⟩ := h
  exact ⟨⟨f, hr.below hb⟩, rest⟩
theorem One.mono {S' : Nat → Prop} {w : World} {b : Nat} {lim : Int} {L : List (List Int)} (h : One S w b lim L) (hs : ∀ g, g < w.heap.size → S g → S' g) : One S' w b lim L := by
  obtain ⟨⟨f, hr⟩, rest⟩ := h
  exact ⟨⟨f, hr.mono hs⟩, rest⟩
/-- A block that is not the object's is written. -/
theorem One.setCell {w : World} {b g o : Nat} {lim : Int} {L : List (List Int)} {c : Array Value} {t : TypeId} {fr : Nat × Nat} (h : One S w b lim L) (hc : w.heap[g]? = some (.cells c t fr)) (h1 : t ≠ 28) (h2 : t ≠ 56) (hg : t ≠ 5 ∨ ¬ S g) (v : Value) : One S (w.setCell ⟨g, o, none⟩ v) b lim L := by
  obtain ⟨⟨f, hr⟩, rest⟩ := h
  have hn := hr.not_five hc h1 h2
  refine ⟨⟨f, hr.keepS (Below.heap_setCell _ _ _ _ fun e => hn.1 e.symm) (Below.heap_setCell _ _ _ _ fun e => hn.2 e.symm) fun k c' _ hk hk' => Below.heap_setCell _ _ _ _ fun e => ?_⟩, rest⟩
  have e' : k = g := e
  subst e'
  rcases hg with hg | hg
  · rw [hc] at hk'
    injection hk' with hk'
    injection hk' with _ hk'
    exact hg hk'
  · exact hg hk
theorem One.new (w : World) {lim : Int} (h : lim ≤ 1000) : One S (w.alloc (.cells #[.int .i64 lim, .slice none 0 0, .int .i64 0] 56)) w.heap.size lim [] :=
  ⟨⟨_, Rep.new w lim⟩, by simp, by simp, h⟩

theorem putL_length {lim : Int} {L : List (List Int)} {x : List Int} (h : L.length ≤ 1000) (hl : lim ≤ 1000) : (putL lim L x).length ≤ 1000 := by
  unfold putL
  split
  · exact h
  · simp; omega
theorem putL_all {lim : Int} {L : List (List Int)} {x : List Int} (h : ∀ y ∈ L, y.length ≤ 1000) (hx : x.length ≤ 1000) : ∀ y ∈ putL lim L x, y.length ≤ 1000 := by
  unfold putL
  split
  · exact h
  · intro y hy
    rw [List.mem_append] at hy
    rcases hy with hy | hy
    · exact h y hy
    · simp at hy; rw [hy]; exact hx

theorem one_len (b : Nat) (lim : Int) (L : List (List Int)) (w : World) (h : One S w b lim L) :
    Calls Try.prog 18 #[.pointer (some ⟨b, 0, none⟩)] w fun e w' => e = .returned (.int .i64 (L.length : Int)) ∧ w' = w := by
  obtain ⟨⟨f, hr⟩, _⟩ := h
  exact len_any b f lim L w hr

/-- Put of what lies in blocks that the object has not: older or newer ones. -/
theorem one_put (b N : Nat) (lim : Int) (L : List (List Int)) (x : List Int) (v : Value) (w : World) (h : One S w b lim L) (hv : BVals w v x) (hx : x.length ≤ 1000) (hN : N ≤ b) (hS : ∀ g, w.heap.size ≤ g → S g) (hg : x ≠ [] → ∀ g, v.ownBlock = some g → g < b ∨ ∃ c fr, w.heap[g]? = some (.cells c 5 fr)) :
    Calls Try.prog 10 #[.pointer (some ⟨b, 0, none⟩), v] w fun e w' => e = .returned (.int .i64 (putCode lim L)) ∧ One S w' b lim (putL lim L x) ∧ Below N w w' ∧ Five w w' := by
  obtain ⟨⟨f, hr⟩, h1, h2, h3⟩ := h
  have hle := hr.le
  refine (put_any b f lim L x v w hr hv hx h1 hS fun hne g hgo => ?_).mono fun e w' ⟨he, f', hr', _, hfr⟩ => ⟨he, ⟨⟨f', hr'⟩, putL_length h1 h3, putL_all h2 hx, h3⟩, hfr.below hN (Nat.le_trans hN hle.1) hr.lt, hr.five hfr⟩
  rcases hg hne g hgo with h | ⟨c, fr, hc⟩
  · omega
  · exact hr.not_five hc (by decide) (by decide)

theorem one_take (b N : Nat) (lim : Int) (L : List (List Int)) (i : Int) (w : World) (h : One S w b lim L) (hl : L ≠ []) (hi : 0 ≤ i) (hN : N ≤ b) :
    Calls Try.prog 12 #[.pointer (some ⟨b, 0, none⟩), .int .i64 i] w fun e w' => (∃ v', e = .returned (.tuple #[v', .int .i64 0]) ∧ w'.ownsRow w.heap.size 5 1 v' (L.getD (at_ L i) []).length (bv (L.getD (at_ L i) []))) ∧ One S w' b lim (L.eraseIdx (at_ L i)) ∧ Below N w w' ∧ Five w w' := by
  obtain ⟨⟨f, hr⟩, h1, h2, h3⟩ := h
  have hle := hr.le
  refine (take_any b f lim L i w hr hl hi h1 h2).mono fun e w' ⟨he, f', hr', _, hfr⟩ => ⟨he, ⟨⟨f', hr'⟩, ?_, fun x hx => h2 x (List.mem_of_mem_eraseIdx hx), h3⟩, hfr.below hN (Nat.le_trans hN hle.1) hr.lt, hr.five hfr⟩
  have := List.length_eraseIdx_le L (at_ L i)
  omega
theorem one_take_bad (b : Nat) (lim : Int) (L : List (List Int)) (i : Int) (w : World) (h : One S w b lim L) (hb : L = [] ∨ i < 0) :
    Calls Try.prog 12 #[.pointer (some ⟨b, 0, none⟩), .int .i64 i] w fun e w' => e = .returned (.tuple #[.slice none 0 0, .int .i64 1]) ∧ w' = w := by
  obtain ⟨⟨f, hr⟩, _⟩ := h
  exact take_bad b f lim L i w hr hb
theorem one_get (b : Nat) (lim : Int) (L : List (List Int)) (i : Int) (w : World) (h : One S w b lim L) (hl : L ≠ []) (hi : 0 ≤ i) :
    Calls Try.prog 16 #[.pointer (some ⟨b, 0, none⟩), .int .i64 i] w fun e w' => (∃ v', e = .returned (.tuple #[v', .int .i64 0]) ∧ w'.ownsRow w.heap.size 5 1 v' (L.getD (at_ L i) []).length (bv (L.getD (at_ L i) []))) ∧ Below w.heap.size w w' := by
  obtain ⟨⟨f, hr⟩, h1, h2, h3⟩ := h
  exact get_any b f lim L i w hr hl hi h1 h2
theorem one_get_bad (b : Nat) (lim : Int) (L : List (List Int)) (i : Int) (w : World) (h : One S w b lim L) (hb : L = [] ∨ i < 0) :
    Calls Try.prog 16 #[.pointer (some ⟨b, 0, none⟩), .int .i64 i] w fun e w' => e = .returned (.tuple #[.slice none 0 0, .int .i64 1]) ∧ w' = w := by
  obtain ⟨⟨f, hr⟩, _⟩ := h
  exact get_bad b f lim L i w hr hb
theorem one_copy (b N : Nat) (lim : Int) (L : List (List Int)) (i : Int) (w : World) (h : One S w b lim L) (hl : L ≠ []) (hi : 0 ≤ i) (hN : N ≤ b) (hS : ∀ g, w.heap.size ≤ g → S g) :
    Calls Try.prog 14 #[.pointer (some ⟨b, 0, none⟩), .int .i64 i] w fun e w' => e = .returned (.int .i64 (putCode lim L)) ∧ One S w' b lim (putL lim L (L.getD (at_ L i) [])) ∧ Below N w w' ∧ Five w w' := by
  obtain ⟨⟨f, hr⟩, h1, h2, h3⟩ := h
  have hle := hr.le
  have hk := at_lt (i := i) hl
  refine (copy_any b f lim L i w hr hl hi h1 h2 hS).mono fun e w' ⟨he, f', hr', _, hfr⟩ => ⟨he, ⟨⟨f', hr'⟩, putL_length h1 h3, putL_all h2 (h2 _ (by rw [List.getD_eq_getElem?_getD, List.getElem?_eq_getElem hk]; exact List.getElem_mem hk)), h3⟩, hfr.below hN (Nat.le_trans hN hle.1) hr.lt, hr.five hfr⟩
theorem one_copy_bad (b : Nat) (lim : Int) (L : List (List Int)) (i : Int) (w : World) (h : One S w b lim L) (hb : L = [] ∨ i < 0) :
    Calls Try.prog 14 #[.pointer (some ⟨b, 0, none⟩), .int .i64 i] w fun e w' => e = .returned (.int .i64 1) ∧ w' = w := by
  obtain ⟨⟨f, hr⟩, _⟩ := h
  exact copy_bad b f lim L i w hr hb

end Go.Proofs.Ytajafcbnhcncoaa
