/-
  Contracts of package replay's functions, over the object's block; conditions: the window from 1 to 64, the top from 0 to MaxSeq, the bits below 2^64.
-/
import Derived.Test.YtnpkgmchagkdmaaRows
import Derived.WalkKit
import Derived.WalkSpells
import Derived.WalkLawsBesides
import Derived.Laws.LoneSync
import Derived.Laws.BitsAllLaws
import Derived.BigQuiet
import Derived.Deep.QuietTactic
import Derived.Deep.RegionWith
import Derived.Lib.Hide
namespace Go.Proofs.Ytnpkgmchagkdmaa
open Go.RowKit

/-- The object's block. -/
def Rep (w : World) (b : Nat) (W T : Int) (B : Nat) : Prop := ∃ R : Int, w.heap[b]? = some (.cells #[.int .i64 W, .int .i64 T, .int .u64 (B : Int), .int .i64 R] 48 (0, 0))

theorem Rep.cells {w : World} {b : Nat} {W T : Int} {B : Nat} (h : Rep w b W T B) : ∃ R, w.cell? ⟨b, 0, none⟩ = some (.int .i64 W) ∧ w.cell? ⟨b, 1, none⟩ = some (.int .i64 T) ∧ w.cell? ⟨b, 2, none⟩ = some (.int .u64 B) ∧ w.cell? ⟨b, 3, none⟩ = some (.int .i64 R) := by
  obtain ⟨R, h⟩ := h
  exact ⟨R, by simp [World.cell?, h]⟩
theorem Rep.free {w : World} {b : Nat} {W T : Int} {B : Nat} (h : Rep w b W T B) (o : Nat) : w.frozen? ⟨b, o, none⟩ = false := by
  obtain ⟨R, h⟩ := h
  simp [World.frozen?, h]
theorem Rep.of_heap {w w' : World} {b : Nat} {W T : Int} {B : Nat} (h : Rep w b W T B) (hh : w'.heap[b]? = w.heap[b]?) : Rep w' b W T B := by
  obtain ⟨R, h⟩ := h
  exact ⟨R, hh.trans h⟩
theorem Rep.drewN {w : World} {b : Nat} {W T : Int} {B : Nat} (h : Rep w b W T B) (n : Nat) : Rep (w.drewN n) b W T B := h
theorem Rep.lt {w : World} {b : Nat} {W T : Int} {B : Nat} (h : Rep w b W T B) : b < w.heap.size := by
  obtain ⟨R, h⟩ := h
  exact lt_of_block h

theorem heap_setCell_same {w : World} {b o : Nat} {c : Array Value} {t : TypeId} {f : Nat × Nat} (v : Value) (h : w.heap[b]? = some (.cells c t f)) :
    (w.setCell ⟨b, o, none⟩ v).heap[b]? = some (.cells (c.setIfInBounds o v) t f) := by
  have hlt := lt_of_block h
  have h' : w.heap[b] = .cells c t f := by simpa [Array.getElem?_eq_getElem hlt] using h
  show (w.heap.modify b _)[b]? = _
  rw [Array.getElem?_eq_getElem (by simpa using hlt), Array.getElem_modify_self, h']
  rfl

theorem Rep.set1 {w : World} {b : Nat} {W T : Int} {B : Nat} (h : Rep w b W T B) (T' : Int) : Rep (w.setCell ⟨b, 1, none⟩ (.int .i64 T')) b W T' B := by
  obtain ⟨R, h⟩ := h
  exact ⟨R, by rw [heap_setCell_same _ h]; rfl⟩
theorem Rep.set2 {w : World} {b : Nat} {W T : Int} {B : Nat} (h : Rep w b W T B) (B' : Nat) : Rep (w.setCell ⟨b, 2, none⟩ (.int .u64 B')) b W T B' := by
  obtain ⟨R, h⟩ := h
  exact ⟨R, by rw [heap_setCell_same _ h]; rfl⟩
theorem Rep.set22 {w : World} {b : Nat} {W T : Int} {B : Nat} (h : Rep w b W T B) (z : Value) (B' : Nat) : Rep ((w.setCell ⟨b, 2, none⟩ z).setCell ⟨b, 2, none⟩ (.int .u64 B')) b W T B' := by
  obtain ⟨R, h⟩ := h
  exact ⟨R, by rw [heap_setCell_same _ (heap_setCell_same _ h)]; rfl⟩
theorem Rep.set3 {w : World} {b : Nat} {W T : Int} {B : Nat} (h : Rep w b W T B) (R' : Int) : Rep (w.setCell ⟨b, 3, none⟩ (.int .i64 R')) b W T B := by
  obtain ⟨R, h⟩ := h
  exact ⟨R', by rw [heap_setCell_same _ h]; rfl⟩

/-- Only block b may have turned; draws are nothing. -/
structure Touch (b : Nat) (w w' : World) : Prop where
  os : w'.os = w.os
  tape : w'.tape = w.tape
  output : w'.output = w.output
  size : w'.heap.size = w.heap.size
  block : ∀ k, k ≠ b → w'.heap[k]? = w.heap[k]?
theorem Touch.refl (b : Nat) (w : World) : Touch b w w := ⟨rfl, rfl, rfl, rfl, fun _ _ => rfl⟩
theorem Touch.trans {b : Nat} {u v w : World} (h : Touch b u v) (k : Touch b v w) : Touch b u w :=
  ⟨k.os.trans h.os, k.tape.trans h.tape, k.output.trans h.output, k.size.trans h.size, fun i hi => (k.block i hi).trans (h.block i hi)⟩
theorem Touch.drewN {b : Nat} {u w : World} (h : Touch b u w) (n : Nat) : Touch b u (w.drewN n) := ⟨h.os, h.tape, h.output, h.size, h.block⟩
theorem Touch.drew {b : Nat} {u w : World} (h : Touch b u w) : Touch b u w.drew := ⟨h.os, h.tape, h.output, h.size, h.block⟩
theorem Touch.setCell {b o : Nat} {u w : World} (h : Touch b u w) (v : Value) : Touch b u (w.setCell ⟨b, o, none⟩ v) :=
  h.trans ⟨rfl, rfl, rfl, by simp [World.setCell], fun k hk => Below.heap_setCell _ _ _ _ hk⟩
theorem Touch.below {b B : Nat} {w w' : World} (h : Touch b w w') (hB : B ≤ b) : Below B w w' :=
  ⟨h.os, h.tape, h.output, Nat.le_of_eq h.size.symm, fun k hk => h.block k (by omega)⟩

set_option maxHeartbeats 400000 in
theorem new_some (a : Int) (w : World) (h1 : 1 ≤ a) (h2 : a ≤ 64) :
    Calls Try.prog 8 #[.int .i64 a] w fun e w' => e = .returned (.pointer (some ⟨w.heap.size, 0, none⟩)) ∧ w' = w.alloc (.cells #[.int .i64 a, .int .i64 0, .int .u64 0, .int .i64 0] 48) := by
  go_enter Try.func8, Try.ntmps8
  go_wp2
  go_ret
  exact ⟨rfl, rfl⟩
set_option maxHeartbeats 400000 in
theorem new_none (a : Int) (w : World) (h : a < 1 ∨ 64 < a) :
    Calls Try.prog 8 #[.int .i64 a] w fun e w' => e = .returned (.pointer none) ∧ w = w' := by
  rcases h with h | h
  all_goals
    go_enter Try.func8, Try.ntmps8
    go_wp2
    go_ret
    exact ⟨rfl, rfl⟩

def mayF (W T : Int) (B : Nat) (s : Int) : Bool := decide (1 ≤ s ∧ s ≤ 1099511627776 ∧ T - W < s) && (decide (T < s) || !B.testBit (T - s).toNat)

theorem ret_bool {a b : Bool} (h : a = b) : Ending.returned (.bool a) = .returned (.bool b) := by rw [h]

theorem and_one (B j : Nat) (h : B < 18446744073709551616) : (bits BinOp.and IntKind.u64 ((B : Int) / 2 ^ j) 1 == 0) = !B.testBit j := by
  have e : ((B : Int) / 2 ^ j) = ((B / 2 ^ j : Nat) : Int) := by simp
  have := u64_and_nat (B / 2 ^ j) 1 (Nat.lt_of_le_of_lt (Nat.div_le_self _ _) h) (by omega)
  rw [e]
  rw [show (1 : Int) = ((1 : Nat) : Int) from rfl, this, Nat.testBit_eq_decide_div_mod_eq, Nat.and_one_is_mod]
  rcases Nat.mod_two_eq_zero_or_one (B / 2 ^ j) with h | h <;> simp [h]

set_option maxHeartbeats 400000 in
theorem may_any (b : Nat) (W T : Int) (B : Nat) (s : Int) (w : World) (h : Rep w b W T B) (hB : B < 18446744073709551616) (hW1 : 1 ≤ W) (hW2 : W ≤ 64) (hT1 : 0 ≤ T) (hT2 : T ≤ 1099511627776) :
    Calls Try.prog 11 #[.pointer (some ⟨b, 0, none⟩), .int .i64 s] w fun e w' => e = .returned (.bool (mayF W T B s)) ∧ ∃ n, w' = w.drewN n := by
  obtain ⟨R, c0, c1, c2, c3⟩ := h.cells
  clear h
  by_cases h1 : s < 1
  · have d1 : decide (s < 1) = true := by simpa using h1
    go_enter Try.func11, Try.ntmps11
    go_wp2
    go_quiet (fail)
    go_wp2
    go_ret
    exact ⟨ret_bool (by unfold mayF; simp; omega), _, rfl⟩
  have d1 : decide (s < 1) = false := by simpa using h1
  by_cases h2 : 1099511627776 < s
  · have d2 : decide (1099511627776 < s) = true := by simpa using h2
    go_enter Try.func11, Try.ntmps11
    go_wp2
    go_quiet (fail)
    go_wp2
    go_ret
    exact ⟨ret_bool (by unfold mayF; simp; omega), _, rfl⟩
  have d2 : decide (1099511627776 < s) = false := by simpa using h2
  have h1' : 1 ≤ s := by omega
  have h2' : s ≤ 1099511627776 := by omega
  by_cases h3 : s ≤ T - W
  · have d3 : decide (s ≤ T - W) = true := by simpa using h3
    go_enter Try.func11, Try.ntmps11
    go_wp2
    go_quiet (fail)
    go_wp2
    go_ret
    exact ⟨ret_bool (by unfold mayF; simp; omega), _, rfl⟩
  have d3 : decide (s ≤ T - W) = false := by simpa using h3
  by_cases h4 : T < s
  · have d4 : decide (T < s) = true := by simpa using h4
    go_enter Try.func11, Try.ntmps11
    go_wp2
    go_quiet (fail)
    go_wp2
    go_quiet (fail)
    go_wp2
    go_ret
    exact ⟨ret_bool (by unfold mayF; simp; omega), _, World.drewN_drewN _ _ _⟩
  have d4 : decide (T < s) = false := by simpa using h4
  have hlo : 0 ≤ T - s := by omega
  have hhi : T - s < 64 := by omega
  go_enter Try.func11, Try.ntmps11
  go_wp2
  go_quiet (fail)
  go_wp2
  go_quiet (fail)
  go_wp2
  go_ret
  exact ⟨ret_bool (by rw [and_one _ _ hB]; have hh : decide (1 ≤ s ∧ s ≤ 1099511627776 ∧ T - W < s) = true := by simp; omega
                      simp [mayF, hh, d4]), _, World.drewN_drewN _ _ _⟩


set_option maxHeartbeats 400000 in
theorem may_nil (s : Int) (w : World) :
    Calls Try.prog 11 #[.pointer none, .int .i64 s] w fun e w' => e = .returned (.bool false) ∧ ∃ n, w' = w.drewN n := by
  go_enter Try.func11, Try.ntmps11
  go_wp2
  go_quiet (fail)
  go_wp2
  go_ret
  exact ⟨rfl, _, rfl⟩

def maskF (W : Int) : Nat := 2 ^ W.toNat - 1

theorem ret_int {k : IntKind} {a b : Int} (h : a = b) : Ending.returned (.int k a) = .returned (.int k b) := by rw [h]

theorem mask_eq (n : Nat) (h : n < 64) : IntKind.u64.wrap (IntKind.u64.wrap (2 ^ n) - 1) = ((2 ^ n - 1 : Nat) : Int) := by
  have h1 : 2 ^ n < 2 ^ 64 := Nat.pow_lt_pow_right (by omega) h
  have h2 : 1 ≤ 2 ^ n := Nat.one_le_two_pow
  have e : ((2 : Int) ^ n) = ((2 ^ n : Nat) : Int) := by simp
  rw [e]
  generalize 2 ^ n = x at *
  rw [IntKind.wrap_u64, IntKind.wrap_u64]
  omega

set_option maxHeartbeats 400000 in
theorem mask_any (b : Nat) (W T : Int) (B : Nat) (w : World) (h : Rep w b W T B) (hW1 : 1 ≤ W) (hW2 : W ≤ 64) :
    Calls Try.prog 22 #[.pointer (some ⟨b, 0, none⟩)] w fun e w' => e = .returned (.int .u64 (maskF W : Nat)) ∧ w = w' := by
  obtain ⟨R, c0, c1, c2, c3⟩ := h.cells
  clear h
  by_cases h1 : W = 64
  · subst h1
    go_enter Try.func22, Try.ntmps22
    go_wp2
    go_ret
    exact ⟨rfl, rfl⟩
  have h2 : W < 64 := by omega
  clear hW2 
  have d1 : (W == 64) = false := by simpa using h1
  clear h1
  go_enter Try.func22, Try.ntmps22
  go_wp2
  go_ret
  exact ⟨ret_int (mask_eq W.toNat (by omega)), rfl⟩

set_option maxHeartbeats 400000 in
theorem top_any (b : Nat) (W T : Int) (B : Nat) (w : World) (h : Rep w b W T B) :
    Calls Try.prog 15 #[.pointer (some ⟨b, 0, none⟩)] w fun e w' => e = .returned (.int .i64 T) ∧ w = w' := by
  obtain ⟨R, c0, c1, c2, c3⟩ := h.cells
  clear h
  go_enter Try.func15, Try.ntmps15
  go_wp2
  go_ret
  exact ⟨rfl, rfl⟩

set_option maxHeartbeats 400000 in
theorem bits_any (b : Nat) (W T : Int) (B : Nat) (w : World) (h : Rep w b W T B) :
    Calls Try.prog 16 #[.pointer (some ⟨b, 0, none⟩)] w fun e w' => e = .returned (.int .u64 (B : Nat)) ∧ w = w' := by
  obtain ⟨R, c0, c1, c2, c3⟩ := h.cells
  clear h
  go_enter Try.func16, Try.ntmps16
  go_wp2
  go_ret
  exact ⟨rfl, rfl⟩

theorem add64_run (a : Addr) (x : Int) (w : World) (hc : w.cell? a = some (.int .i64 x)) (hz : w.frozen? a = false) :
    (callFunc 23 #[.pointer (some a), .int .i64 1]).run Try.prog w = .ok (.value (.int .i64 (wrap64 (x + 1)))) (w.setCell a (.int .i64 (wrap64 (x + 1)))) :=
  run_call_add (P := Try.prog) Try.func23 (by kernel_rfl) (by kernel_rfl) (by kernel_rfl) .i64 (by kernel_rfl) (y := 1) (s := wrap64 (x + 1)) hc hz (by simp [go_sem, wrap64, IntKind.wrap_i64])

set_option maxHeartbeats 400000 in
theorem add_any (b : Nat) (W T : Int) (B : Nat) (w : World) (h : Rep w b W T B) :
    Calls Try.prog 21 #[.pointer (some ⟨b, 3, none⟩), .int .i64 1] w fun e w' => (∃ v, e = .returned v) ∧ Rep w' b W T B ∧ Touch b w w' := by
  obtain ⟨R, c0, c1, c2, c3⟩ := h.cells
  have f3 := h.free 3
  have hadd := add64_run _ _ _ c3 f3
  have H := (show Hid (Rep w b W T B) from h)
  clear h
  go_enter Try.func21, Try.ntmps21
  go_wp2
  go_ret
  exact ⟨⟨_, rfl⟩, H.out.set3 _, (Touch.refl _ _).setCell _⟩


set_option maxHeartbeats 400000 in
theorem take_nil (s : Int) (w : World) :
    Calls Try.prog 13 #[.pointer none, .int .i64 s] w fun e w' => e = .returned (.int .i64 1) ∧ w = w' := by
  go_enter Try.func13, Try.ntmps13
  go_wp2
  go_ret
  exact ⟨rfl, rfl⟩

set_option maxHeartbeats 400000 in
theorem take_no (b : Nat) (W T : Int) (B : Nat) (s : Int) (w : World) (h : Rep w b W T B) (hB : B < 18446744073709551616) (hW1 : 1 ≤ W) (hW2 : W ≤ 64) (hT1 : 0 ≤ T) (hT2 : T ≤ 1099511627776) (hm : mayF W T B s = false) :
    Calls Try.prog 13 #[.pointer (some ⟨b, 0, none⟩), .int .i64 s] w fun e w' => e = .returned (.int .i64 6) ∧ Rep w' b W T B ∧ Touch b w w' := by
  obtain ⟨R, c0, c1, c2, c3⟩ := h.cells
  have H := (show Hid (Rep w b W T B) from h)
  clear h
  go_enter Try.func13, Try.ntmps13
  go_wp2_with fail
  refine (may_any b W T B s _ H.out hB hW1 hW2 hT1 hT2).mono ?_
  rintro e w' ⟨rfl, n, rfl⟩
  go_wp2_with fail
  refine (add_any b W T B _ (H.out.drewN n)).mono ?_
  rintro e w' ⟨⟨v, rfl⟩, hr, ht⟩
  go_wp2_with fail
  go_ret
  exact ⟨rfl, hr, (Touch.drewN (Touch.refl _ _) n).trans ht⟩

theorem or_pow (B n : Nat) (hB : B < 18446744073709551616) (h : n < 64) : bits BinOp.or IntKind.u64 (B : Int) (IntKind.u64.wrap (2 ^ n)) = ((B ||| 2 ^ n : Nat) : Int) := by
  have h1 : 2 ^ n < 2 ^ 64 := Nat.pow_lt_pow_right (by omega) h
  have e : ((2 : Int) ^ n) = ((2 ^ n : Nat) : Int) := by simp
  rw [e]
  generalize 2 ^ n = x at *
  rw [IntKind.wrap_u64, show ((x : Int) % 18446744073709551616) = (x : Int) from by omega]
  exact u64_or_nat B x hB (by omega)

set_option maxHeartbeats 400000 in
theorem take_old (b : Nat) (W T : Int) (B : Nat) (s : Int) (w : World) (h : Rep w b W T B) (hB : B < 18446744073709551616) (hW1 : 1 ≤ W) (hW2 : W ≤ 64) (hT1 : 0 ≤ T) (hT2 : T ≤ 1099511627776) (hm : mayF W T B s = true) (hs : s ≤ T) :
    Calls Try.prog 13 #[.pointer (some ⟨b, 0, none⟩), .int .i64 s] w fun e w' => e = .returned (.int .i64 0) ∧ Rep w' b W T (B ||| 2 ^ (T - s).toNat) ∧ Touch b w w' := by
  have hb : T - W < s := by unfold mayF at hm; simp at hm; omega
  obtain ⟨R, c0, c1, c2, c3⟩ := h.cells
  have f2 := h.free 2
  have H := (show Hid (Rep w b W T B) from h)
  have hd : 0 ≤ T - s := by omega
  have hd2 : T - s < 64 := by omega
  have hd3 : -64 < s - T := by omega
  clear h
  go_enter Try.func13, Try.ntmps13
  go_wp2_with fail
  refine (may_any b W T B s _ H.out hB hW1 hW2 hT1 hT2).mono ?_
  rintro e w' ⟨rfl, n, rfl⟩
  go_wp2_with fail
  go_region
  all_goals
    go_wp2
    go_ret
    have e2 : bits BinOp.or IntKind.u64 (B : Int) (IntKind.u64.wrap (2 ^ (T - s).toNat)) = ((B ||| 2 ^ (T - s).toNat : Nat) : Int) := or_pow B _ hB (by omega)
    rw [e2]
    exact ⟨rfl, (H.out.drewN _).set2 _, (Touch.drewN (Touch.refl _ _) _).setCell _⟩


theorem shl_eq (B n : Nat) : IntKind.u64.wrap ((B : Int) * 2 ^ n) = ((B * 2 ^ n % 18446744073709551616 : Nat) : Int) := by
  have e : ((B : Int) * 2 ^ n) = ((B * 2 ^ n : Nat) : Int) := by simp
  rw [e, IntKind.wrap_u64]
  generalize B * 2 ^ n = x
  omega
theorem maskF_lt (W : Int) (h : W ≤ 64) : maskF W < 18446744073709551616 := by
  unfold maskF
  have h1 : 2 ^ W.toNat ≤ 2 ^ 64 := Nat.pow_le_pow_right (by omega) (by omega)
  have h2 : 1 ≤ 2 ^ W.toNat := Nat.one_le_two_pow
  omega

/-- Behind the shift: the rest of Take where the number is greater than the top. -/
def newB (W : Int) (B1 : Nat) : Nat := (B1 &&& maskF W) ||| 1

set_option maxHeartbeats 400000 in
theorem take_new (b : Nat) (W T : Int) (B : Nat) (s : Int) (w : World) (h : Rep w b W T B) (hB : B < 18446744073709551616) (hW1 : 1 ≤ W) (hW2 : W ≤ 64) (hT1 : 0 ≤ T) (hT2 : T ≤ 1099511627776) (hm : mayF W T B s = true) (hs : T < s) (hs2 : s - T < 64) :
    Calls Try.prog 13 #[.pointer (some ⟨b, 0, none⟩), .int .i64 s] w fun e w' => e = .returned (.int .i64 0) ∧ Rep w' b W s (newB W (B * 2 ^ (s - T).toNat % 18446744073709551616)) ∧ Touch b w w' := by
  have hb : s ≤ 1099511627776 := by unfold mayF at hm; simp at hm; omega
  have H := (show Hid (Rep w b W T B) from h)
  have hd3 : 0 < s - T := by omega
  obtain ⟨R, c0, c1, c2, c3⟩ := h.cells
  have f2 := h.free 2
  have f1 := h.free 1
  clear h
  go_enter Try.func13, Try.ntmps13
  go_wp2_with fail
  refine (may_any b W T B s _ H.out hB hW1 hW2 hT1 hT2).mono ?_
  rintro e w' ⟨rfl, n, rfl⟩
  go_wp2_with fail
  rw [shl_eq]
  have HB1 : B * 2 ^ (s - T).toNat % 18446744073709551616 < 18446744073709551616 := Nat.mod_lt _ (by omega)
  generalize hB1 : B * 2 ^ (s - T).toNat % 18446744073709551616 = B1 at *
  have E1 := (show Hid (B * 2 ^ (s - T).toNat % 18446744073709551616 = B1) from hB1)
  clear hB1
  obtain ⟨w1, hw1, HR1, HT1⟩ : ∃ w1, (w.drewN n).setCell ⟨b, 2, none⟩ (.int .u64 (B1 : Int)) = w1 ∧ Rep w1 b W T B1 ∧ Touch b w w1 :=
    ⟨_, rfl, (H.out.drewN n).set2 B1, (Touch.drewN (Touch.refl _ _) n).setCell _⟩
  rw [hw1]
  clear hw1 c0 c1 c2 c3 f1 f2 H hm
  obtain ⟨R1, c0, c1, c2, c3⟩ := HR1.cells
  have f2 := HR1.free 2
  have f1 := HR1.free 1
  have G := (show Hid (Rep w1 b W T B1) from HR1)
  clear HR1
  go_region_with (go_at_call 22; refine (mask_any b W T B1 _ ?_ hW1 hW2).mono ?_; exact G.out.of_heap rfl; rintro e w2 ⟨rfl, rfl⟩)
  all_goals
    rw [u64_and_nat B1 (maskF W) HB1 (maskF_lt W hW2)]
    have HB2 : B1 &&& maskF W < 18446744073709551616 := Nat.lt_of_le_of_lt Nat.and_le_left HB1
    generalize hB2 : B1 &&& maskF W = B2 at *
    have E2 := (show Hid (B1 &&& maskF W = B2) from hB2)
    clear hB2
    obtain ⟨w2, hw2, HR2, HT2⟩ : ∃ w2, (w1.setCell ⟨b, 2, none⟩ (.int .u64 (B2 : Int))).drew = w2 ∧ Rep w2 b W T B2 ∧ Touch b w w2 :=
      ⟨_, rfl, (G.out.set2 B2), ((HT1.setCell _).drew)⟩
    rw [hw2]
    clear hw2 c0 c1 c2 c3 f1 f2 G HT1
    obtain ⟨R2, c0, c1, c2, c3⟩ := HR2.cells
    have f2 := HR2.free 2
    have f1 := HR2.free 1
    have G := (show Hid (Rep w2 b W T B2) from HR2)
    clear HR2
    go_wp2
    obtain ⟨w3, hw3, HR3, HT3⟩ : ∃ w3, w2.setCell ⟨b, 1, none⟩ (.int .i64 s) = w3 ∧ Rep w3 b W s B2 ∧ Touch b w w3 :=
      ⟨_, rfl, (G.out.set1 s), (HT2.setCell _)⟩
    rw [hw3]
    clear hw3 c0 c1 c2 c3 f1 f2 G HT2
    obtain ⟨R3, c0, c1, c2, c3⟩ := HR3.cells
    have f2 := HR3.free 2
    have G := (show Hid (Rep w3 b W s B2) from HR3)
    clear HR3
    go_region
    all_goals
      go_wp2
      go_ret
      have e2 : bits BinOp.or IntKind.u64 (B2 : Int) 1 = ((B2 ||| 1 : Nat) : Int) := u64_or_nat B2 1 HB2 (by omega)
      rw [e2, E1.out]
      refine ⟨rfl, ?_, (HT3.drew).setCell _⟩
      rw [show newB W B1 = B2 ||| 1 from by rw [← E2.out]; rfl]
      exact (G.out.of_heap (w' := w3.drew) rfl).set2 _


set_option maxHeartbeats 400000 in
theorem take_far (b : Nat) (W T : Int) (B : Nat) (s : Int) (w : World) (h : Rep w b W T B) (hB : B < 18446744073709551616) (hW1 : 1 ≤ W) (hW2 : W ≤ 64) (hT1 : 0 ≤ T) (hT2 : T ≤ 1099511627776) (hm : mayF W T B s = true) (hs : T < s) (hs2 : 64 ≤ s - T) :
    Calls Try.prog 13 #[.pointer (some ⟨b, 0, none⟩), .int .i64 s] w fun e w' => e = .returned (.int .i64 0) ∧ Rep w' b W s (newB W 0) ∧ Touch b w w' := by
  have hb : s ≤ 1099511627776 := by unfold mayF at hm; simp at hm; omega
  have H := (show Hid (Rep w b W T B) from h)
  have hd3 : 0 < s - T := by omega
  obtain ⟨R, c0, c1, c2, c3⟩ := h.cells
  have f2 := h.free 2
  have f1 := h.free 1
  clear h
  go_enter Try.func13, Try.ntmps13
  go_wp2_with fail
  refine (may_any b W T B s _ H.out hB hW1 hW2 hT1 hT2).mono ?_
  rintro e w' ⟨rfl, n, rfl⟩
  go_wp2_with fail
  all_goals
    generalize IntKind.u64.wrap _ = z
    obtain ⟨w1, B1, hw1, HR1, HT1, hB1⟩ : ∃ w1 B1, ((w.drewN n).setCell ⟨b, 2, none⟩ (.int .u64 z)).setCell ⟨b, 2, none⟩ (.int .u64 0) = w1 ∧ Rep w1 b W T B1 ∧ Touch b w w1 ∧ B1 = 0 :=
      ⟨_, 0, rfl, (H.out.drewN n).set22 _ 0, ((Touch.drewN (Touch.refl _ _) n).setCell _).setCell _, rfl⟩
    rw [hw1]
    have HB1 : B1 < 18446744073709551616 := by omega
    have E1 := (show Hid (B1 = 0) from hB1)
    clear hB1
    clear hw1 c0 c1 c2 c3 f1 f2 hm
    obtain ⟨R1, c0, c1, c2, c3⟩ := HR1.cells
    have f2 := HR1.free 2
    have f1 := HR1.free 1
    have G := (show Hid (Rep w1 b W T B1) from HR1)
    clear HR1
    go_region_with (go_at_call 22; refine (mask_any b W T B1 _ ?_ hW1 hW2).mono ?_; exact G.out.of_heap rfl; rintro e w2 ⟨rfl, rfl⟩)
    all_goals
      rw [u64_and_nat B1 (maskF W) HB1 (maskF_lt W hW2)]
      have HB2 : B1 &&& maskF W < 18446744073709551616 := Nat.lt_of_le_of_lt Nat.and_le_left HB1
      generalize hB2 : B1 &&& maskF W = B2 at *
      have E2 := (show Hid (B1 &&& maskF W = B2) from hB2)
      clear hB2
      obtain ⟨w2, hw2, HR2, HT2⟩ : ∃ w2, (w1.setCell ⟨b, 2, none⟩ (.int .u64 (B2 : Int))).drew = w2 ∧ Rep w2 b W T B2 ∧ Touch b w w2 :=
        ⟨_, rfl, (G.out.set2 B2), ((HT1.setCell _).drew)⟩
      rw [hw2]
      clear hw2 c0 c1 c2 c3 f1 f2 G HT1
      obtain ⟨R2, c0, c1, c2, c3⟩ := HR2.cells
      have f2 := HR2.free 2
      have f1 := HR2.free 1
      have G := (show Hid (Rep w2 b W T B2) from HR2)
      clear HR2
      go_wp2
      obtain ⟨w3, hw3, HR3, HT3⟩ : ∃ w3, w2.setCell ⟨b, 1, none⟩ (.int .i64 s) = w3 ∧ Rep w3 b W s B2 ∧ Touch b w w3 :=
        ⟨_, rfl, (G.out.set1 s), (HT2.setCell _)⟩
      rw [hw3]
      clear hw3 c0 c1 c2 c3 f1 f2 G HT2
      obtain ⟨R3, c0, c1, c2, c3⟩ := HR3.cells
      have f2 := HR3.free 2
      have G := (show Hid (Rep w3 b W s B2) from HR3)
      clear HR3
      go_region
      all_goals
        go_wp2
        go_ret
        have e2 : bits BinOp.or IntKind.u64 (B2 : Int) 1 = ((B2 ||| 1 : Nat) : Int) := u64_or_nat B2 1 HB2 (by omega)
        rw [e2]
        refine ⟨rfl, ?_, (HT3.drew).setCell _⟩
        rw [show newB W 0 = B2 ||| 1 from by rw [← E2.out, E1.out]; rfl]
        exact (G.out.of_heap (w' := w3.drew) rfl).set2 _


def takeB (W T : Int) (B : Nat) (s : Int) : Nat := if s ≤ T then B ||| 2 ^ (T - s).toNat else if s - T < 64 then newB W (B * 2 ^ (s - T).toNat % 18446744073709551616) else newB W 0

theorem take_yes (b : Nat) (W T : Int) (B : Nat) (s : Int) (w : World) (h : Rep w b W T B) (hB : B < 18446744073709551616) (hW1 : 1 ≤ W) (hW2 : W ≤ 64) (hT1 : 0 ≤ T) (hT2 : T ≤ 1099511627776) (hm : mayF W T B s = true) :
    Calls Try.prog 13 #[.pointer (some ⟨b, 0, none⟩), .int .i64 s] w fun e w' => e = .returned (.int .i64 0) ∧ Rep w' b W (max T s) (takeB W T B s) ∧ Touch b w w' := by
  by_cases h1 : s ≤ T
  · rw [show max T s = T from by omega, show takeB W T B s = B ||| 2 ^ (T - s).toNat from by unfold takeB; rw [if_pos h1]]
    exact take_old b W T B s w h hB hW1 hW2 hT1 hT2 hm h1
  by_cases h2 : s - T < 64
  · rw [show max T s = s from by omega, show takeB W T B s = newB W (B * 2 ^ (s - T).toNat % 18446744073709551616) from by unfold takeB; rw [if_neg h1, if_pos h2]]
    exact take_new b W T B s w h hB hW1 hW2 hT1 hT2 hm (by omega) h2
  · rw [show max T s = s from by omega, show takeB W T B s = newB W 0 from by unfold takeB; rw [if_neg h1, if_neg h2]]
    exact take_far b W T B s w h hB hW1 hW2 hT1 hT2 hm (by omega) (by omega)

end Go.Proofs.Ytnpkgmchagkdmaa
