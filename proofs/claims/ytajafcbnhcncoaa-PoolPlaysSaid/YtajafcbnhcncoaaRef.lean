/-
  Contracts of the law's own reference (quorumiteref22's Pool): New, Put, Get, Take, Copy; conditions: at most 1000 messages of at most 1000 bytes.
-/
import Derived.Test.YtajafcbnhcncoaaTold
import Derived.Laws.AppendOwnNone
import Derived.Deep.RegionHeld3
import Derived.Maps.AppendAt
import Derived.Deep.RegionLaw
import Derived.Deep.AppendLies
import Derived.IntWalk
namespace Go.Proofs.Ytajafcbnhcncoaa
open Go.RowKit
variable {S : Nat → Prop}

/-- A message as a string. -/
def sv (x : List Int) : Value := .string (strOfNums x)
theorem Try.info9 : (Try.prog.info? 9).map (fun i => (i.zero, i.size, i.bytes)) = some (some (.string ⟨#[]⟩), 1, 16) := by kernel_rfl

/-- The reference's object: block b; its strings in an own row of block f (b, where it is nil). -/
def RRep (w : World) (b : Nat) (lim : Int) (L : List (List Int)) : Prop :=
  ∃ v, w.heap[b]? = some (.cells #[.int .i64 lim, v] 41 (0, 0)) ∧ w.ownsRow (b + 1) 9 1 v L.length (L.map sv)

theorem RRep.lt {w : World} {b : Nat} {lim : Int} {L : List (List Int)} (h : RRep w b lim L) : b < w.heap.size := by
  obtain ⟨v, h, _⟩ := h
  exact lt_of_block h
theorem RRep.five {w w' : World} {b : Nat} {lim : Int} {L : List (List Int)} (h : RRep w b lim L) (hf : Five w w') : RRep w' b lim L := by
  obtain ⟨v, hv, ho⟩ := h
  exact ⟨v, (hf b _ _ _ hv (by decide) (by decide)).trans hv, own_keep ho fun g c _ hg _ => hf g c 9 _ hg (by decide) (by decide)⟩
theorem RRep.below {w w' : World} {b : Nat} {lim : Int} {L : List (List Int)} (h : RRep w b lim L) (hb : Below w.heap.size w w') : RRep w' b lim L := h.five (Five.below hb)
theorem RRep.drewN {w : World} {b : Nat} {lim : Int} {L : List (List Int)} (h : RRep w b lim L) (n : Nat) : RRep (w.drewN n) b lim L := h
theorem RRep.new (w : World) (lim : Int) : RRep (w.alloc (.cells #[.int .i64 lim, .slice none 0 0] 41)) w.heap.size lim [] :=
  ⟨.slice none 0 0, heap_alloc_new w _, World.ownsRow_nil _ _ _ _⟩
theorem RRep.cells {w : World} {b : Nat} {lim : Int} {L : List (List Int)} (h : RRep w b lim L) :
    ∃ v, w.cell? ⟨b, 0, none⟩ = some (.int .i64 lim) ∧ w.cell? ⟨b, 1, none⟩ = some v ∧ w.frozen? ⟨b, 1, none⟩ = false ∧
      w.heap[b]? = some (.cells #[.int .i64 lim, v] 41 (0, 0)) ∧ w.ownsRow (b + 1) 9 1 v L.length (L.map sv) := by
  obtain ⟨v, hv, ho⟩ := h
  exact ⟨v, by simp [World.cell?, hv], by simp [World.cell?, hv], by simp [World.frozen?, hv], hv, ho⟩
theorem RRep.stored {w : World} {b : Nat} {lim : Int} {v v' : Value} {L : List (List Int)} (hv : w.heap[b]? = some (.cells #[.int .i64 lim, v] 41 (0, 0)))
    (ho : w.ownsRow (b + 1) 9 1 v' L.length (L.map sv)) : RRep (w.setCell ⟨b, 1, none⟩ v') b lim L :=
  ⟨v', by rw [heap_store _ hv]; rfl, ownsRow_setCell_below ho (a := ⟨b, 1, none⟩) (Nat.lt_succ_self _) _⟩

/-- What the reference's methods leave: the object alone has turned. -/
def RWent (w : World) (b : Nat) (lim : Int) (L' : List (List Int)) (w' : World) : Prop := RRep w' b lim L' ∧ Fr b b w w'

set_option maxHeartbeats 400000 in
theorem rnew_some (n : Int) (w : World) (h1 : 1 ≤ n) (h2 : n ≤ 1000) :
    Calls Try.prog 8 #[.int .i64 n] w fun e w' => e = .returned (.pointer (some ⟨w.heap.size, 0, none⟩)) ∧ w' = w.alloc (.cells #[.int .i64 n, .slice none 0 0] 41) := by
  go_enter Try.func8, Try.ntmps8
  go_wp2
  go_ret
  exact ⟨rfl, rfl⟩
set_option maxHeartbeats 400000 in
theorem rnew_none (n : Int) (w : World) (h : n < 1 ∨ 1 ≤ n ∧ 1000 < n) :
    Calls Try.prog 8 #[.int .i64 n] w fun e w' => e = .returned (.pointer none) ∧ w = w' := by
  rcases h with h | ⟨h, h1⟩
  all_goals
    go_enter Try.func8, Try.ntmps8
    go_wp2
    go_ret
    exact ⟨rfl, rfl⟩

theorem rget_bad (b : Nat) (lim : Int) (L : List (List Int)) (i : Int) (w : World) (h : RRep w b lim L) (hb : L = [] ∨ i < 0) : Calls Try.prog 17 #[.pointer (some ⟨b, 0, none⟩), .int .i64 i] w fun e w' => e = .returned (.tuple #[.string ⟨#[]⟩, .int .i64 1]) ∧ ∃ n, w' = w.drewN n := by
  obtain ⟨v, c0, c1, f1, hv, ho⟩ := h.cells
  obtain ⟨a, c, rfl⟩ := ownsRow_shape ho
  clear h hv ho f1 c0
  by_cases hneg : i < 0
  · clear hb
    go_enter Try.func17, Try.ntmps17
    go_wp2_with fail
    go_ret2
    exact ⟨rfl, 0, rfl⟩
  · obtain rfl := hb.resolve_right hneg
    have h0 : 0 ≤ i := by omega
    clear hb hneg
    go_enter Try.func17, Try.ntmps17
    go_wp2_with fail
    go_ret2
    exact ⟨rfl, 0, rfl⟩

set_option maxHeartbeats 1000000 in
theorem rget_any (b : Nat) (lim : Int) (L : List (List Int)) (i : Int) (w : World) (h : RRep w b lim L) (hl : L ≠ []) (hi : 0 ≤ i) (hL : L.length ≤ 1000) :
    Calls Try.prog 17 #[.pointer (some ⟨b, 0, none⟩), .int .i64 i] w fun e w' => e = .returned (.tuple #[sv (L.getD (at_ L i) []), .int .i64 0]) ∧ ∃ n, w' = w.drewN n := by
  have hk := at_lt (i := i) hl
  have hpos : 0 < L.length := List.length_pos_iff.2 hl
  have hk2 : i % (L.length : Int) = ((at_ L i : Nat) : Int) := by
    unfold at_
    have := Int.emod_nonneg i (show (L.length : Int) ≠ 0 by omega)
    omega
  have hk3 : i.tmod (L.length : Int) = ((at_ L i : Nat) : Int) := by rw [Int.tmod_eq_emod_of_nonneg hi]; exact hk2
  generalize at_ L i = k at *
  obtain ⟨v, c0, c1, f1, hv, ho⟩ := h.cells
  obtain ⟨g, cap, cur, rfl, hg⟩ : ∃ g cap cur, v = .slice (some ⟨g, 0, none⟩) L.length cap ∧ w.heap[g]? = some (.cells cur 9 (0, 0)) := by
    rcases ho.2 with ⟨_, hn⟩ | ⟨g, cap, cur, hq, _, hg, _⟩
    · omega
    · exact ⟨g, cap, cur, hq, hg⟩
  have hcell : w.cell? ⟨g, k, none⟩ = some (sv (L.getD k [])) := by
    have hcell := ho.cells (g := g) rfl k (sv (L.getD k [])) (by rw [List.getElem?_map, List.getElem?_eq_getElem hk, List.getD_eq_getElem?_getD, List.getElem?_eq_getElem hk]; rfl)
    rwa [show (⟨g, 0, none⟩ : Addr).add k = ⟨g, k, none⟩ from by unfold Addr.add; split <;> simp_all] at hcell
  unfold sv at hcell ⊢
  have hc1 : w.drew.cell? ⟨b, 1, none⟩ = some (.slice (some ⟨g, 0, none⟩) L.length cap) := c1
  have hcd : w.drew.cell? ⟨g, k, none⟩ = some (.string (strOfNums (L.getD k []))) := hcell
  clear h hv ho hg f1 c0 hl
  generalize strOfNums (L.getD k []) = X at *
  generalize L.length = n at *
  have hn0 : decide (n = 0) = false := decide_eq_false (by omega)
  have hn1 : ((n : Int) == 0) = false := beq_eq_false_iff_ne.2 (by omega)
  go_enter Try.func17, Try.ntmps17
  go_wp2_with fail
  go_quiet (fail)
  go_wp2_with fail
  go_ret2
  exact ⟨rfl, _, rfl⟩

/-- What is appended: nil, or cells that stand somewhere. -/
def Src (w : World) (v : Value) (zs : List Value) : Prop := (v = .slice none 0 0 ∧ zs = []) ∨ ∃ ad c, v = .slice (some ad) zs.length c ∧ ∀ j u, zs[j]? = some u → w.cell? (ad.add j) = some u
theorem Src.shape {w : World} {v : Value} {zs : List Value} (h : Src w v zs) : ∃ a c, v = .slice a zs.length c := by
  rcases h with ⟨rfl, rfl⟩ | ⟨ad, c, rfl, _⟩ <;> exact ⟨_, _, rfl⟩
theorem Src.of_own {w : World} {base : Nat} {e : TypeId} {v : Value} {n : Nat} {xs : List Value} (h : w.ownsRow base e 1 v n xs) : Src w v xs := by
  have hl := h.1
  rw [Nat.mul_one] at hl
  rcases h.2 with ⟨rfl, hn⟩ | ⟨g, cap, cur, rfl, _⟩
  · exact .inl ⟨rfl, List.length_eq_zero_iff.1 (by omega)⟩
  · exact .inr ⟨_, cap, by rw [hl], h.cells (g := g) rfl⟩

theorem Src.below {w w' : World} {v : Value} {zs : List Value} (h : Src w v zs) (hb : Below w.heap.size w w') : Src w' v zs := by
  rcases h with h | ⟨ad, c, rfl, hc⟩
  · exact .inl h
  · exact .inr ⟨ad, c, rfl, fun j u hu => (hb.cell (World.block_lt_of_cell? _ _ (hc j u hu))).trans (hc j u hu)⟩

theorem run_append_src {w : World} (ty : TypeId) (base : Nat) (v : Value) (n : Nat) (xs : List Value) (hown : w.ownsRow base 9 1 v n xs) (vs : Value) (zs : List Value) (hS : Src w vs zs) (h1 : ∀ u ∈ zs, u.oneCell' = true)
    (hn : n ≤ 100000) (hz : zs.length ≤ 100000) (hbase : base ≤ w.heap.size) :
    ∃ v' w', (Builtin.append_ #[39, 39] ty #[v, vs]).run Try.prog w = .ok v' w' ∧ w'.ownsRow base 9 1 v' (n + zs.length) (xs ++ zs) ∧ w.grownBy w' v.ownBlock := by
  obtain ⟨i0, hi, hz0, hz1, hz2⟩ := info_parts Try.info9
  rcases hS with ⟨rfl, rfl⟩ | ⟨ad, c, rfl, hc⟩
  · exact ⟨v, w, run_append_owned_none (P := Try.prog) (w := w) base 39 ty 9 i0 1 Try.underlying39 hi v n xs hown, by simpa using hown, ⟨rfl, rfl, rfl, Nat.le_refl _, fun _ _ _ => rfl⟩⟩
  · obtain ⟨v', w', hr, h2, h3, _, _⟩ := run_append_own_at (P := Try.prog) w base 39 ty 9 i0 (.string ⟨#[]⟩) 1 16 Try.underlying39 hi hz0 hz1 hz2 rfl (by decide) v n xs hown ad zs.length c zs (by simp) hc h1 (by unfold maxLen; omega) (by omega) hbase
    exact ⟨v', w', hr, h2, h3⟩

theorem wp_append_src {w : World} {o : Oper} {a : Act} {K : Act → World → Prop} {Q : Exit → Act → World → Prop} (s x : Operand)
    (ho : o.op = .call { callee := .builtin .append, args := #[s, x], argTypes := #[39, 39] })
    (base : Nat) (v : Value) (n : Nat) (xs : List Value) (hs : a.eval s = v) (hown : w.ownsRow base 9 1 v n xs) (vs : Value) (zs : List Value) (hx : a.eval x = vs) (hS : Src w vs zs) (h1 : ∀ u ∈ zs, u.oneCell' = true)
    (hn : n ≤ 100000) (hz : zs.length ≤ 100000) (hbase : base ≤ w.heap.size)
    (h : ∀ v' w', w'.ownsRow base 9 1 v' (n + zs.length) (xs ++ zs) → w.grownBy w' v.ownBlock → K (a.put o.dst v') w') : o.wp Try.prog a w K Q := by
  obtain ⟨v', w', hr, h2, h3⟩ := run_append_src o.type base v n xs hown vs zs hS h1 hn hz hbase
  unfold Oper.wp execOp
  simp only [ho, resolve, invoke, builtin, Sem.run_bind, Sem.run_pure, Result.andThen_ok, List.map_toArray, List.map_cons, List.map_nil, hs, hx, hr]
  exact h v' w' h2 h3

theorem wpList_append_src {w : World} {ops : Array Oper} {rest : List Oper} {o : Oper} {a : Act} {Q : Exit → Act → World → Prop} (hgd : o.guard = none) (s x : Operand)
    (ho : o.op = .call { callee := .builtin .append, args := #[s, x], argTypes := #[39, 39] })
    (base : Nat) (v : Value) (n : Nat) (xs : List Value) (hs : a.eval s = v) (hown : w.ownsRow base 9 1 v n xs) (vs : Value) (zs : List Value) (hx : a.eval x = vs) (hS : Src w vs zs) (h1 : ∀ u ∈ zs, u.oneCell' = true)
    (hn : n ≤ 100000) (hz : zs.length ≤ 100000) (hbase : base ≤ w.heap.size)
    (h : ∀ v' w', w'.ownsRow base 9 1 v' (n + zs.length) (xs ++ zs) → w.grownBy w' v.ownBlock → wpList Try.prog ops Q rest (a.put o.dst v') w') : wpList Try.prog ops Q (o :: rest) a w :=
  wpList_plain hgd fun _ hK => wp_append_src s x ho base v n xs hs hown vs zs hx hS h1 hn hz hbase fun v' w' h2 h3 => hK _ _ (h v' w' h2 h3)

theorem step_append_src {w : World} {ops : Array Oper} {o : Oper} {a : Act} {K : Act → World → Prop} {Q : Exit → Act → World → Prop} {E : Prop} (hgd : o.guard = none) (s x : Operand)
    (ho : o.op = .call { callee := .builtin .append, args := #[s, x], argTypes := #[39, 39] })
    (base : Nat) (v : Value) (n : Nat) (xs : List Value) (hs : a.eval s = v) (hown : w.ownsRow base 9 1 v n xs) (vs : Value) (zs : List Value) (hx : a.eval x = vs) (hS : Src w vs zs) (h1 : ∀ u ∈ zs, u.oneCell' = true)
    (hn : n ≤ 100000) (hz : zs.length ≤ 100000) (hbase : base ≤ w.heap.size)
    (h : ∀ v' w', w'.ownsRow base 9 1 v' (n + zs.length) (xs ++ zs) → w.grownBy w' v.ownBlock → K (a.put o.dst v') w') :
    if Region.wanted o (yielded ops a.tmps) = true then Oper.wp Try.prog o a w K Q else E := by
  have hw : Region.wanted o (yielded ops a.tmps) = true := by simp [Region.wanted, hgd]
  rw [if_pos hw]
  exact wp_append_src s x ho base v n xs hs hown vs zs hx hS h1 hn hz hbase h

theorem sv_one (L : List (List Int)) : ∀ u ∈ L.map sv, u.oneCell' = true := fun u hu => by
  rw [List.mem_map] at hu
  obtain ⟨x, _, rfl⟩ := hu
  rfl

/-- The new row, made over draws and two appends, is stored. -/
theorem behind_rput {w w5 : World} {b : Nat} {lim : Int} {v v' : Value} {L' : List (List Int)} (hv : w.heap[b]? = some (.cells #[.int .i64 lim, v] 41 (0, 0)))
    (hb : Below w.heap.size w w5) (ho : w5.ownsRow w.heap.size 9 1 v' L'.length (L'.map sv)) :
    w5.cell? ⟨b, 1, none⟩ = some v ∧ w5.frozen? ⟨b, 1, none⟩ = false ∧ RWent w b lim L' (w5.setCell ⟨b, 1, none⟩ v') := by
  have hlt := lt_of_block hv
  have h5 : w5.heap[b]? = some (.cells #[.int .i64 lim, v] 41 (0, 0)) := (hb.block b hlt).trans hv
  exact ⟨by simp [World.cell?, h5], by simp [World.frozen?, h5], RRep.stored h5 (ownsRow_less ho hlt), (Fr.of_below hb).setCell _ _⟩

set_option maxRecDepth 100000 in
set_option maxHeartbeats 2000000 in
theorem rput_any (b : Nat) (lim : Int) (L : List (List Int)) (x : List Int) (w : World) (h : RRep w b lim L) (hx : (strOfNums x).size ≤ 1000) (hL : L.length ≤ 1000) :
    Calls Try.prog 11 #[.pointer (some ⟨b, 0, none⟩), sv x] w fun e w' => e = .returned (.int .i64 (putCode lim L)) ∧ RWent w b lim (putL lim L x) w' := by
  have H := Lib.hid h
  obtain ⟨v, c0, c1, f1, hv, ho⟩ := h.cells
  obtain ⟨a, c, rfl⟩ := ownsRow_shape ho
  clear h f1
  have HV := Lib.hid hv
  have HO := Lib.hid ho
  clear hv ho
  unfold sv
  by_cases hfull : lim ≤ (L.length : Int)
  · have HC := Lib.hid (show putCode lim L = 9 from if_pos hfull)
    have HP := Lib.hid (show putL lim L x = L from if_pos hfull)
    have hd : decide (lim ≤ (L.length : Int)) = true := decide_eq_true hfull
    generalize strOfNums x = X at *
    go_enter Try.func11, Try.ntmps11
    go_wp2_with fail
    go_quiet (fail)
    go_wp2_with fail
    go_ret
    rw [HC.out, HP.out]
    exact ⟨rfl, H.out.drewN _, (Fr.refl _ _ _).drewN _⟩
  · have HC := Lib.hid (show putCode lim L = 0 from if_neg hfull)
    have HP := Lib.hid (show putL lim L x = L ++ [x] from if_neg hfull)
    have hd : decide (lim ≤ (L.length : Int)) = false := decide_eq_false hfull
    have HX := (show Hid (sv x = .string (strOfNums x)) from rfl)
    generalize strOfNums x = X at *
    go_enter Try.func11, Try.ntmps11
    go_wp2_with fail
    go_quiet (fail)
    have hb0 := belowDrewN (Below.refl w.heap.size w) nq
    have hb1 := hb0.alloc (Nat.le_refl _) (.cells #[] 9)
    have d1 : ((w.drewN nq).alloc (.cells #[] 9)).cell? ⟨b, 1, none⟩ = some (.slice a L.length c) := (hb1.cell (p := ⟨b, 1, none⟩) (World.block_lt_of_cell? _ _ c1)).trans c1
    have HO1 := Lib.hid (World.ownsRow_made (base := w.heap.size) (e := 9) (size := 1) (w.drewN nq) #[] 0 (Nat.le_refl _) (by unfold maxLen; omega) rfl)
    have HS1 := Lib.hid ((Src.of_own HO.out).below hb1)
    have HB1 := Lib.hid hb1
    clear hb0 hb1
    go_wp2_with (first | (at_builtin; refine wpList_append_src rfl _ _ rfl w.heap.size (.slice (some ⟨w.heap.size, 0, none⟩) 0 0) 0 [] rfl HO1.out (.slice a L.length c) (L.map sv) rfl HS1.out (sv_one L) (by omega) (by simp; omega) (by simp) ?_; intro v2 w2 hown2 hgrow2; simp only [Nat.zero_add, List.nil_append, List.length_map] at hown2; obtain ⟨a2, c2, rfl⟩ := ownsRow_shape hown2; have hb2 := HB1.out.grown hgrow2 (by simp) (fun k hk => (HO1.out.lt k hk).1); have HO2 := Lib.hid (hown2.alloc (.cells #[.string X] 9)); have HB2 := Lib.hid (hb2.alloc hb2.size (.cells #[.string X] 9)); have hs2 := hb2.size; clear hown2 hgrow2 hb2) | (at_builtin; refine wpList_append_src rfl _ _ rfl w.heap.size (.slice a2 L.length c2) L.length (L.map sv) rfl HO2.out (.slice (some ⟨w2.heap.size, 0, none⟩) 1 1) [.string X] rfl (.inr ⟨_, _, rfl, World.news_of_block (cs := #[.string X]) (t := 9) (fr := (0, 0)) (heap_alloc_new w2 _)⟩) (by simp [Value.oneCell']) (by omega) (by simp) (by rw [World.size_alloc]; omega) ?_; intro v3 w3 hown3 hgrow3; have hb3 := HB2.out.grown hgrow3 (by simp; omega) (fun k hk => (HO2.out.lt k hk).1); rw [← HX.out] at hown3; have hown4 : w3.ownsRow w.heap.size 9 1 v3 (L ++ [x]).length ((L ++ [x]).map sv) := (by simpa using hown3); obtain ⟨d3, e3, hwent⟩ := behind_rput HV.out hb3 hown4; obtain ⟨a3, c3, rfl⟩ := ownsRow_shape hown4; rw [show (L ++ [x]).length = L.length + 1 from by simp] at hwent; have HW := Lib.hid hwent; clear hown3 hgrow3 hb3 hwent))
    go_ret
    rw [HC.out, HP.out]
    exact ⟨rfl, HW.out⟩

set_option maxRecDepth 100000 in
set_option maxHeartbeats 4000000 in
theorem rtake_any (b : Nat) (lim : Int) (L : List (List Int)) (i : Int) (w : World) (h : RRep w b lim L) (hl : L ≠ []) (hi : 0 ≤ i) (hL : L.length ≤ 1000) :
    Calls Try.prog 13 #[.pointer (some ⟨b, 0, none⟩), .int .i64 i] w fun e w' => e = .returned (.tuple #[sv (L.getD (at_ L i) []), .int .i64 0]) ∧ RWent w b lim (L.eraseIdx (at_ L i)) w' := by
  have HG := Lib.hid (rget_any b lim L i w h hl hi hL)
  have hk := at_lt (i := i) hl
  have hpos : 0 < L.length := List.length_pos_iff.2 hl
  have hk2 : i % (L.length : Int) = ((at_ L i : Nat) : Int) := by
    unfold at_
    have := Int.emod_nonneg i (show (L.length : Int) ≠ 0 by omega)
    omega
  have hk3 : i.tmod (L.length : Int) = ((at_ L i : Nat) : Int) := by rw [Int.tmod_eq_emod_of_nonneg hi]; exact hk2
  generalize at_ L i = k at *
  have H := Lib.hid h
  obtain ⟨v, c0, c1, f1, hv, ho⟩ := h.cells
  obtain ⟨g, cap, hLc, rfl⟩ : ∃ g cap, L.length ≤ cap ∧ v = .slice (some ⟨g, 0, none⟩) L.length cap := by
    rcases ho.2 with ⟨_, hn⟩ | ⟨g, cap, cur, hq, _, _, hnc, _⟩
    · omega
    · exact ⟨g, cap, hnc, hq⟩
  have hcells := ho.cells (g := g) rfl
  have HS1 := Lib.hid (show Src w (.slice (some ⟨g, 0, none⟩) k cap) ((L.take k).map sv) from .inr ⟨⟨g, 0, none⟩, cap, by simp; omega, fun j u hu => hcells j u (by
    rw [List.map_take] at hu
    rw [List.getElem?_take] at hu
    split at hu
    · exact hu
    · simp at hu)⟩)
  have hS2 : ∀ A : Addr, (cap = k + 1 ∨ A = ⟨g, k + 1, none⟩) → Src w (.slice (some A) (L.length - (k + 1)) (cap - (k + 1))) ((L.drop (k + 1)).map sv) := fun A hA => .inr ⟨A, cap - (k + 1), by simp, fun j u hu => by
    rw [List.map_drop, List.getElem?_drop] at hu
    have hlt := (List.getElem?_eq_some_iff.1 hu).1
    simp at hlt
    rcases hA with hA | rfl
    · omega
    · have := hcells _ u hu
      rw [show (⟨g, 0, none⟩ : Addr).add (k + 1 + j) = ⟨g, k + 1 + j, none⟩ from by unfold Addr.add; split <;> simp_all] at this
      rw [show (⟨g, k + 1, none⟩ : Addr).add j = ⟨g, k + 1 + j, none⟩ from by unfold Addr.add; split <;> simp_all]
      exact this⟩
  have HS2 := Lib.hid hS2
  have HE := Lib.hid (show L.eraseIdx k = L.take k ++ L.drop (k + 1) from List.eraseIdx_eq_take_drop_succ _ _)
  have HV := Lib.hid hv
  have HL := Lib.hid (show (L.take k ++ L.drop (k + 1)).length = k + (L.length - (k + 1)) from by simp; omega)
  have HT := Lib.hid (show (L.take k).length = k from by simp; omega)
  have HDr := Lib.hid (show (L.drop (k + 1)).length = L.length - (k + 1) from by simp)
  clear h hl ho hv hcells hS2 f1 c0
  unfold sv at HG ⊢
  generalize strOfNums (L.getD k []) = X at *
  have hn1 : ((L.length : Int) == 0) = false := beq_eq_false_iff_ne.2 (by omega)
  generalize hn : L.length = n at *
  have HN := (show Hid (L.length = n) from hn)
  clear hn
  by_cases hcap : cap = k + 1
  · subst hcap
    obtain rfl : n = k + 1 := by omega
    rw [Nat.sub_self] at HS2 HL HDr
    rw [Nat.add_zero] at HL
    simp only [Int.natCast_add, Int.cast_ofNat_Int] at hk2 hk3 hn1
    go_enter Try.func13, Try.ntmps13
    go_wp2_with fail
    refine HG.out.mono ?_
    rintro e w1 ⟨rfl, nq, rfl⟩
    have d1 : (w.drewN nq).cell? ⟨b, 1, none⟩ = some (.slice (some ⟨g, 0, none⟩) (k + 1) (k + 1)) := c1
    clear HG
    go_wp2_with fail
    have hb0 := belowDrewN (Below.refl w.heap.size w) (nq + 1)
    have hb1 := hb0.alloc (Nat.le_refl _) (.cells #[] 9)
    have d2 : (w.drewN (nq + 1)).cell? ⟨b, 1, none⟩ = some (.slice (some ⟨g, 0, none⟩) (k + 1) (k + 1)) := c1
    have d3 : ((w.drewN (nq + 1)).alloc (.cells #[] 9)).cell? ⟨b, 1, none⟩ = some (.slice (some ⟨g, 0, none⟩) (k + 1) (k + 1)) := (hb1.cell (p := ⟨b, 1, none⟩) (World.block_lt_of_cell? _ _ c1)).trans c1
    have HO1 := Lib.hid (World.ownsRow_made (base := w.heap.size) (e := 9) (size := 1) (w.drewN (nq + 1)) #[] 0 (Nat.le_refl _) (by unfold maxLen; omega) rfl)
    have HB1 := Lib.hid hb1
    have hkk : (k : Int) ≤ (k : Int) + 1 := by omega
    have hk0 : (0 : Int) ≤ (k : Int) + 1 := by omega
    have hto : ((k : Int) + 1).toNat = k + 1 := by omega
    have hwk : IntKind.i64.wrap ((k : Int) + 1) = (k : Int) + 1 := IntWalk.i64_in _ (by omega)
    clear hb0 hb1
    go_region_law (first
      | (refine step_append_src (by rfl) _ _ (by rfl) w.heap.size (.slice (some ⟨w.heap.size, 0, none⟩) 0 0) 0 [] (by rfl) HO1.out (.slice (some ⟨g, 0, none⟩) k (k + 1)) ((L.take k).map sv) (by rfl) (HS1.out.below HB1.out) (sv_one _) (by omega) (by simp; omega) (by simp) ?_; intro v2 w2 hown2 hgrow2; simp only [Nat.zero_add, List.nil_append, List.length_map] at hown2; rw [HT.out] at hown2; obtain ⟨a2, c2, rfl⟩ := ownsRow_shape hown2; have hb2 := HB1.out.grown hgrow2 (by simp) (fun k hk => (HO1.out.lt k hk).1); have HO2 := Lib.hid hown2; have HB2 := Lib.hid hb2; have hs2 := hb2.size; have d4 : w2.cell? ⟨b, 1, none⟩ = some (.slice (some ⟨g, 0, none⟩) (k + 1) (k + 1)) := ((hb2.cell (p := ⟨b, 1, none⟩) (World.block_lt_of_cell? _ _ c1)).trans c1); clear hown2 hgrow2 hb2)
      | (refine step_append_src (by rfl) _ _ (by rfl) w.heap.size (.slice a2 k c2) k ((L.take k).map sv) (by rfl) HO2.out _ ((L.drop (k + 1)).map sv) (by rfl) ((HS2.out _ (.inl (by trivial))).below HB2.out) (sv_one _) (by omega) (by rw [List.length_map, HDr.out]; omega) (by omega) ?_; intro v3 w3 hown3 hgrow3; have hb3 := HB2.out.grown hgrow3 (by omega) (fun k hk => (HO2.out.lt k hk).1); rw [List.length_map, HDr.out, Nat.add_zero] at hown3; obtain ⟨a3, c3, rfl⟩ := ownsRow_shape hown3; obtain ⟨d5, e5, hwent⟩ := behind_rput HV.out hb3 (L' := L.take k ++ L.drop (k + 1)) (by rw [HL.out, List.map_append]; exact hown3); have HW := Lib.hid hwent; clear hown3 hgrow3 hb3 hwent))
    all_goals
      go_wp2_with fail
      go_ret2
      rw [HE.out]
      exact ⟨rfl, HW.out⟩
  · have hck : (k : Int) + 1 ≤ (cap : Int) := by omega
    have hck0 : (k : Int) ≤ (cap : Int) := by omega
    have hnc : (n : Int) ≤ (cap : Int) := by omega
    go_enter Try.func13, Try.ntmps13
    go_wp2_with fail
    refine HG.out.mono ?_
    rintro e w1 ⟨rfl, nq, rfl⟩
    have d1 : (w.drewN nq).cell? ⟨b, 1, none⟩ = some (.slice (some ⟨g, 0, none⟩) n cap) := c1
    clear HG
    go_wp2_with fail
    have hb0 := belowDrewN (Below.refl w.heap.size w) (nq + 1)
    have hb1 := hb0.alloc (Nat.le_refl _) (.cells #[] 9)
    have d2 : (w.drewN (nq + 1)).cell? ⟨b, 1, none⟩ = some (.slice (some ⟨g, 0, none⟩) n cap) := c1
    have d3 : ((w.drewN (nq + 1)).alloc (.cells #[] 9)).cell? ⟨b, 1, none⟩ = some (.slice (some ⟨g, 0, none⟩) n cap) := (hb1.cell (p := ⟨b, 1, none⟩) (World.block_lt_of_cell? _ _ c1)).trans c1
    have HO1 := Lib.hid (World.ownsRow_made (base := w.heap.size) (e := 9) (size := 1) (w.drewN (nq + 1)) #[] 0 (Nat.le_refl _) (by unfold maxLen; omega) rfl)
    have HB1 := Lib.hid hb1
    have hkk : (k : Int) ≤ (k : Int) + 1 := by omega
    have hkn : (k : Int) + 1 ≤ (n : Int) := by omega
    have hk0 : (0 : Int) ≤ (k : Int) + 1 := by omega
    have hto : ((k : Int) + 1).toNat = k + 1 := by omega
    have hwk : IntKind.i64.wrap ((k : Int) + 1) = (k : Int) + 1 := IntWalk.i64_in _ (by omega)
    clear hb0 hb1
    go_region_law (first
      | (refine step_append_src (by rfl) _ _ (by rfl) w.heap.size (.slice (some ⟨w.heap.size, 0, none⟩) 0 0) 0 [] (by rfl) HO1.out (.slice (some ⟨g, 0, none⟩) k cap) ((L.take k).map sv) (by rfl) (HS1.out.below HB1.out) (sv_one _) (by omega) (by simp; omega) (by simp) ?_; intro v2 w2 hown2 hgrow2; simp only [Nat.zero_add, List.nil_append, List.length_map] at hown2; rw [HT.out] at hown2; obtain ⟨a2, c2, rfl⟩ := ownsRow_shape hown2; have hb2 := HB1.out.grown hgrow2 (by simp) (fun k hk => (HO1.out.lt k hk).1); have HO2 := Lib.hid hown2; have HB2 := Lib.hid hb2; have hs2 := hb2.size; have d4 : w2.cell? ⟨b, 1, none⟩ = some (.slice (some ⟨g, 0, none⟩) n cap) := ((hb2.cell (p := ⟨b, 1, none⟩) (World.block_lt_of_cell? _ _ c1)).trans c1); clear hown2 hgrow2 hb2)
      | (refine step_append_src (by rfl) _ _ (by rfl) w.heap.size (.slice a2 k c2) k ((L.take k).map sv) (by rfl) HO2.out _ ((L.drop (k + 1)).map sv) (by rfl) ((HS2.out _ (.inr rfl)).below HB2.out) (sv_one _) (by omega) (by rw [List.length_map, HDr.out]; omega) (by omega) ?_; intro v3 w3 hown3 hgrow3; have hb3 := HB2.out.grown hgrow3 (by omega) (fun k hk => (HO2.out.lt k hk).1); rw [List.length_map, HDr.out] at hown3; obtain ⟨a3, c3, rfl⟩ := ownsRow_shape hown3; obtain ⟨d5, e5, hwent⟩ := behind_rput HV.out hb3 (L' := L.take k ++ L.drop (k + 1)) (by rw [HL.out, List.map_append]; exact hown3); have HW := Lib.hid hwent; clear hown3 hgrow3 hb3 hwent))
    all_goals
      go_wp2_with fail
      go_ret2
      rw [HE.out]
      exact ⟨rfl, HW.out⟩

end Go.Proofs.Ytajafcbnhcncoaa
