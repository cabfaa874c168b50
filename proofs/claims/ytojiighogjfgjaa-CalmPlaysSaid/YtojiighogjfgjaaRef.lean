/-
  Contracts of the law's own reference (quorumiteref9's Calm): its object's block, its list read as numbers, most, last, million, New; conditions: windows from 0 to 60, at most 1000 numbers.
-/
import Derived.Test.YtojiighogjfgjaaSame
import Derived.Laws.AppendOwnNone
namespace Go.Proofs.Ytojiighogjfgjaa
open Go.RowKit

/-- 'append(own, more...)' where 'more' reads as these numbers, nil or not. -/
theorem wpList_append_ints {w : World} {ops : Array Oper} {rest : List Oper} {o : Oper} {a : Act} {Q : Exit → Act → World → Prop} (hgd : o.guard = none) (s x : Operand)
    (ho : o.op = .call { callee := .builtin .append, args := #[s, x], argTypes := #[22, 22] })
    (base : Nat) (v : Value) (n : Nat) (xs : List Value) (hs : a.eval s = v) (hown : w.ownsRow base 3 1 v n xs) (vs : Value) (zs : List Int) (hx : a.eval x = vs) (hI : Ints w vs zs)
    (hn : n ≤ 100000) (hz : zs.length ≤ 100000) (hbase : base ≤ w.heap.size)
    (h : ∀ v' w', w'.ownsRow base 3 1 v' (n + zs.length) (xs ++ zs.map (Value.int .i64)) → w.grownBy w' v.ownBlock → wpList Try.prog ops Q rest (a.put o.dst v') w') : wpList Try.prog ops Q (o :: rest) a w := by
  obtain ⟨i0, hi, hz0, hz1, hz2⟩ := info_parts Try.info3
  rcases hI with ⟨rfl, rfl⟩ | ⟨g, of, cap, rfl, hcap, hg, hc⟩
  · refine wpList_append_own_none hgd s x 22 ho base 3 i0 1 Try.underlying22 hi v n xs hs hown hx (h v w (by simpa using hown) ⟨rfl, rfl, rfl, Nat.le_refl _, fun _ _ _ => rfl⟩)
  · have hnews : ∀ j u, (zs.map (Value.int .i64))[j]? = some u → w.cell? ((⟨g, of, none⟩ : Addr).add j) = some u := fun j u hu => by
      have hj : j < zs.length := by
        have := (List.getElem?_eq_some_iff.1 hu).1
        simpa using this
      rw [getD_map_int zs j hj] at hu
      rw [show (⟨g, of, none⟩ : Addr).add j = ⟨g, of + j, none⟩ from by unfold Addr.add; split <;> simp_all, hc j hj]
      exact hu
    exact wpList_append_own w hgd s x 22 ho base 3 i0 (.int .i64 0) 1 8 Try.underlying22 hi hz0 hz1 hz2 rfl (by decide) v n xs hs hown ⟨g, of, none⟩ zs.length cap (zs.map (Value.int .i64)) hx (by simp) hnews (fun x hx => by simp at hx; obtain ⟨y, _, rfl⟩ := hx; rfl) (by unfold maxLen; omega) (by omega) hbase fun v' w' h1 h2 _ => h v' w' h1 h2

/-- The reference's object: its block b, its list read in block f (b, where it is nil). -/
def RRep (w : World) (b : Nat) (u d : Int) (l : List Int) (f : Nat) : Prop :=
  b ≤ f ∧ ∃ v, w.heap[b]? = some (.cells #[.int .i64 u, .int .i64 d, v] 35 (0, 0)) ∧ Ints w v l ∧ v.ownBlock.getD b = f

theorem RRep.lt {w : World} {b f : Nat} {u d : Int} {l : List Int} (h : RRep w b u d l f) : b < w.heap.size := by
  obtain ⟨_, v, h, _⟩ := h
  exact lt_of_block h
theorem Ints.block {w : World} {v : Value} {l : List Int} (h : Ints w v l) : ∀ g, v.ownBlock = some g → g < w.heap.size := by
  intro g hg
  rcases h with ⟨rfl, _⟩ | ⟨g', o, cap, rfl, _, h, _⟩
  · simp [Value.ownBlock] at hg
  · simp [Value.ownBlock] at hg
    omega
theorem RRep.le {w : World} {b f : Nat} {u d : Int} {l : List Int} (h : RRep w b u d l f) : b ≤ f ∧ f < w.heap.size := by
  obtain ⟨hle, v, hv, hi, rfl⟩ := h
  refine ⟨hle, ?_⟩
  cases hg : v.ownBlock with
  | none => exact lt_of_block hv
  | some g => exact hi.block g hg
theorem RRep.keep {w w' : World} {b f : Nat} {u d : Int} {l : List Int} (h : RRep w b u d l f) (hs : w.heap.size ≤ w'.heap.size) (hb : w'.heap[b]? = w.heap[b]?) (hf : w'.heap[f]? = w.heap[f]?) : RRep w' b u d l f := by
  obtain ⟨hle, v, hv, hi, rfl⟩ := h
  exact ⟨hle, v, hb.trans hv, hi.keep hs fun g hg => by rw [hg] at hf; exact hf, rfl⟩
theorem RRep.drewN {w : World} {b f : Nat} {u d : Int} {l : List Int} (h : RRep w b u d l f) (n : Nat) : RRep (w.drewN n) b u d l f := h.keep (Nat.le_refl _) rfl rfl
theorem RRep.new (w : World) (u d : Int) : RRep (w.alloc (.cells #[.int .i64 u, .int .i64 d, .slice none 0 0] 35)) w.heap.size u d [] w.heap.size :=
  ⟨Nat.le_refl _, .slice none 0 0, heap_alloc_new w _, .inl ⟨rfl, rfl⟩, rfl⟩
/-- The list is stored anew. -/
theorem RRep.stored {w : World} {b : Nat} {u d : Int} {v v' : Value} {l : List Int} (hv : w.heap[b]? = some (.cells #[.int .i64 u, .int .i64 d, v] 35 (0, 0)))
    (hi : Ints w v' l) (hb : ∀ g, v'.ownBlock = some g → b < g) : RRep (w.setCell ⟨b, 2, none⟩ v') b u d l (v'.ownBlock.getD b) := by
  refine ⟨?_, v', by rw [heap_store _ hv]; rfl, hi.keep (by simp [World.setCell]) fun g hg => Below.heap_setCell _ _ _ _ (by have := hb g hg; show g ≠ b; omega), rfl⟩
  cases hg : v'.ownBlock with
  | none => exact Nat.le_refl _
  | some g => have := hb g hg; show b ≤ g; omega
theorem RRep.cells {w : World} {b f : Nat} {u d : Int} {l : List Int} (h : RRep w b u d l f) :
    ∃ v, w.cell? ⟨b, 0, none⟩ = some (.int .i64 u) ∧ w.cell? ⟨b, 1, none⟩ = some (.int .i64 d) ∧ w.cell? ⟨b, 2, none⟩ = some v ∧ w.frozen? ⟨b, 2, none⟩ = false ∧
      w.heap[b]? = some (.cells #[.int .i64 u, .int .i64 d, v] 35 (0, 0)) ∧ Ints w v l ∧ v.ownBlock.getD b = f ∧ b ≤ f := by
  obtain ⟨hle, v, hv, hi, hf⟩ := h
  exact ⟨v, by simp [World.cell?, hv], by simp [World.cell?, hv], by simp [World.cell?, hv], by simp [World.frozen?, hv], hv, hi, hf, hle⟩

set_option maxHeartbeats 400000 in
theorem rnew_some (u d : Int) (w : World) (h1 : 0 ≤ u) (h2 : u ≤ 60) (h3 : 0 ≤ d) (h4 : d ≤ 60) :
    Calls Try.prog 13 #[.int .i64 u, .int .i64 d] w fun e w' => e = .returned (.pointer (some ⟨w.heap.size, 0, none⟩)) ∧ w' = w.alloc (.cells #[.int .i64 u, .int .i64 d, .slice none 0 0] 35) := by
  go_enter Try.func13, Try.ntmps13
  go_wp2
  go_ret
  exact ⟨rfl, rfl⟩
set_option maxHeartbeats 400000 in
theorem rnew_none (u d : Int) (w : World) (h : u < 0 ∨ 0 ≤ u ∧ 60 < u ∨ 0 ≤ u ∧ u ≤ 60 ∧ d < 0 ∨ 0 ≤ u ∧ u ≤ 60 ∧ 0 ≤ d ∧ 60 < d) :
    Calls Try.prog 13 #[.int .i64 u, .int .i64 d] w fun e w' => e = .returned (.pointer none) ∧ w = w' := by
  rcases h with h | ⟨h, h1⟩ | ⟨h, h1, h2⟩ | ⟨h, h1, h2, h3⟩
  all_goals
    go_enter Try.func13, Try.ntmps13
    go_wp2
    go_ret
    exact ⟨rfl, rfl⟩

set_option maxHeartbeats 400000 in
theorem rmost_any (b f : Nat) (u d : Int) (l : List Int) (w : World) (h : RRep w b u d l f) (h1 : 0 ≤ u) (h2 : u ≤ 60) (h3 : 0 ≤ d) (h4 : d ≤ 60) :
    Calls Try.prog 25 #[.pointer (some ⟨b, 0, none⟩)] w fun e w' => e = .returned (.int .i64 (max u d + 1)) ∧ ∃ n, w' = w.drewN n := by
  obtain ⟨v, c0, c1, c2, f2, hv, hi, hf, hle⟩ := h.cells
  clear h hv hi f2 c2 hf hle
  rcases Int.lt_or_le u d with hle | hle
  all_goals
    go_enter Try.func25, Try.ntmps25
    go_wp2
    go_quiet (fail)
    go_wp2
    go_ret
    exact ⟨ret_i64 (by omega), _, rfl⟩

set_option maxHeartbeats 400000 in
theorem rlast_run (g o len cap : Nat) (n : Int) (w : World) (h1 : 0 < n) (hl : 0 < len) (h2 : n ≤ 100) (hl2 : len ≤ 1000) (hle : len ≤ cap) :
    Calls Try.prog 26 #[.slice (some ⟨g, o, none⟩) len cap, .int .i64 n] w fun e w' => e = .returned (.slice (some ⟨g, o + (len - n.toNat), none⟩) (len - (len - n.toNat)) (cap - (len - n.toNat))) ∧ w' = w := by
  have e1 := Lib.hid (show ((len : Int) - n).toNat = len - n.toNat from by omega)
  by_cases hbig : 0 ≤ (len : Int) - n
  · go_enter Try.func26, Try.ntmps26
    go_wp2
    try rw [e1.out]
    go_ret
    exact ⟨rfl, rfl⟩
  · have e2 : len - n.toNat = 0 := by omega
    have hsm : (len : Int) - n < 0 := by omega
    rw [e2]
    clear e1 e2 hbig
    go_enter Try.func26, Try.ntmps26
    go_wp2
    go_ret
    exact ⟨rfl, rfl⟩

/-- 'last': a value that reads as the last n ones. -/
theorem rlast_any (v : Value) (l : List Int) (n : Int) (w : World) (h : Ints w v l) (h1 : 0 ≤ n) (h2 : n ≤ 60) (hl : 0 < l.length) (hl2 : l.length ≤ 1000) :
    ∃ v', Ints w v' (lastN n l) ∧ v'.ownBlock = v.ownBlock ∧ ∀ w2 : World, Calls Try.prog 26 #[v, .int .i64 (n + 1)] w2 fun e w' => e = .returned v' ∧ w' = w2 := by
  rcases h with ⟨_, rfl⟩ | ⟨g, o, cap, rfl, hcap, hg, hc⟩
  · simp at hl
  have hlen : (lastN n l).length = l.length - (l.length - n.toNat - 1) := by unfold lastN; rw [List.length_drop]
  have e1 : l.length - (n + 1).toNat = l.length - n.toNat - 1 := by omega
  refine ⟨.slice (some ⟨g, o + (l.length - n.toNat - 1), none⟩) (l.length - (l.length - n.toNat - 1)) (cap - (l.length - n.toNat - 1)), .inr ⟨g, o + (l.length - n.toNat - 1), cap - (l.length - n.toNat - 1), by rw [hlen], by rw [hlen]; omega, hg, fun k hk => ?_⟩, rfl, fun w2 => ?_⟩
  · rw [hlen] at hk
    rw [Nat.add_assoc, hc _ (by omega)]
    unfold lastN
    rw [List.getD_eq_getElem?_getD, List.getD_eq_getElem?_getD, List.getElem?_drop]
  · have := rlast_run g o l.length cap (n + 1) w2 (by omega) hl (by omega) hl2 hcap
    rwa [e1] at this

theorem clamp_spell (x : Int) : (if (if x < 0 then 0 else x) < 1000000 then (if x < 0 then 0 else x) else 1000000) = clamp x := by unfold clamp; omega

set_option maxHeartbeats 400000 in
theorem rmillion_any (x : Int) (w : World) : Calls Try.prog 27 #[.int .i64 x] w fun e w' => e = .returned (.int .i64 (clamp x)) ∧ w' = w := by
  go_enter Try.func27, Try.ntmps27
  go_wp2
  all_goals
    go_ret
    refine ⟨ret_i64 ?_, rfl⟩
    unfold clamp
    first | omega | (split <;> omega) | (split <;> split <;> omega)

end Go.Proofs.Ytojiighogjfgjaa
