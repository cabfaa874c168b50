/-
  'told' of chapter 22's laws answers true, in whatever world, and touches nothing that was there; no condition.
-/
import Derived.Test.YtajafcbnhcncoaaTake
import Derived.Lib.SlBytesConst
import Derived.Laws.BytesArg
import Derived.Laws.MakeOwn
namespace Go.Proofs.Ytajafcbnhcncoaa
open Go.RowKit
variable {S : Nat → Prop}

theorem one_put_lit (b : Nat) (lim : Int) (L : List (List Int)) (x : List Int) (c : Array Value) (fr : Nat × Nat) (w : World) (h : One S w b lim L) (hc : c = (bv x).toArray) (hx : x.length ≤ 1000) (hS : ∀ g, w.heap.size < g → S g) :
    Calls Try.prog 10 #[.pointer (some ⟨b, 0, none⟩), .slice (some ⟨w.heap.size, 0, none⟩) x.length x.length] (w.alloc (.cells c 5 fr)) fun e w' => e = .returned (.int .i64 (putCode lim L)) ∧ One S w' b lim (putL lim L x) ∧ Below b w w' ∧ Five w w' := by
  have hb : Below w.heap.size w (w.alloc (.cells c 5 fr)) := (Below.refl _ _).alloc (Nat.le_refl _) _
  refine (one_put b b lim L x _ _ (h.below hb) (BVals.lit w x c fr hc) hx (Nat.le_refl _) (fun g hg => hS g (Nat.lt_of_succ_le (by simpa using hg))) fun _ g hg => ?_).mono fun e w' ⟨he, h1, h2, h3⟩ => ⟨he, h1, (hb.mono (Nat.le_of_lt h.lt)).trans h2, (Five.below hb).trans h3⟩
  simp [Value.ownBlock] at hg
  subst hg
  exact .inr ⟨c, fr, heap_alloc_new w _⟩

/-- The same, and what the literal's block holds behind it. -/
theorem one_put_lit2 (b : Nat) (lim : Int) (L : List (List Int)) (x : List Int) (c : Array Value) (w : World) (h : One S w b lim L) (hc : c = (bv x).toArray) (hx : x.length ≤ 1000) (hS : ∀ g, w.heap.size < g → S g) :
    Calls Try.prog 10 #[.pointer (some ⟨b, 0, none⟩), .slice (some ⟨w.heap.size, 0, none⟩) x.length x.length] (w.alloc (.cells c 5)) fun e w' => e = .returned (.int .i64 (putCode lim L)) ∧ One S w' b lim (putL lim L x) ∧ Below b w w' ∧ w'.heap[w.heap.size]? = some (.cells c 5) := by
  have hb : Below w.heap.size w (w.alloc (.cells c 5)) := (Below.refl _ _).alloc (Nat.le_refl _) _
  refine (one_put b b lim L x _ _ (h.below hb) (BVals.lit w x c _ hc) hx (Nat.le_refl _) (fun g hg => hS g (Nat.lt_of_succ_le (by simpa using hg))) fun _ g hg => ?_).mono fun e w' ⟨he, h1, h2, h3⟩ => ⟨he, h1, (hb.mono (Nat.le_of_lt h.lt)).trans h2, ?_⟩
  · simp [Value.ownBlock] at hg
    subst hg
    exact .inr ⟨c, _, heap_alloc_new w _⟩
  · exact (h3 w.heap.size c 5 _ (heap_alloc_new w _) (by decide) (by decide)).trans (heap_alloc_new w _)

theorem make_run (w : World) : ∃ W, Below w.heap.size w W ∧ (Instr.makeSlice 28 (.int .i64 1001) (.int .i64 1001)).run Try.prog w = .ok (.slice (some ⟨w.heap.size, 0, none⟩) 1001 1001) W := by
  obtain ⟨i0, hi, hz0, hz1, hz2⟩ := info_parts Try.info5
  exact ⟨_, (Below.refl _ _).alloc (Nat.le_refl _) _, run_make w 28 5 i0 (.int .u8 0) Try.underlying28 hi hz0 .i64 .i64 1001 1001 (by omega) (by omega) (by rw [hz2]; omega) (by omega)⟩

/-- An own row that holds one byte, spelled. -/
theorem own_one {w : World} {base : Nat} {v : Value} {n : Int} (h : w.ownsRow base 5 1 v [n].length (bv [n])) : ∃ g c, v = .slice (some ⟨g, 0, none⟩) 1 c ∧ w.cell? ⟨g, 0, none⟩ = some (.int .u8 n) := by
  rcases h.2 with ⟨_, hn⟩ | ⟨g, cap, cur, rfl, hb, hg, hle, hcap, hsz, htake⟩
  · simp at hn
  · refine ⟨g, cap, rfl, ?_⟩
    have hcell := h.cells (g := g) rfl 0 _ (bv_get [n] 0 (by simp))
    simpa [Addr.add] using hcell

set_option maxRecDepth 100000 in
set_option maxHeartbeats 2000000 in
theorem told_any (w : World) :
    Calls Try.prog 9 #[] w fun e w' => e = .returned (.bool true) ∧ Below w.heap.size w w' := by
  have p0 := One.new (S := fun _ => True) w (lim := 2) (by omega)
  have hb0 := Lib.hid ((Below.refl w.heap.size w).alloc (Nat.le_refl _) (.cells #[.int .i64 2, .slice none 0 0, .int .i64 0] 56))
  have kc := fun (w : World) (C : Array Value) (n c : Nat) => Lib.run_convert_bytes_const (P := Try.prog) w 28 5 C n c Try.underlying28 Try.underlying5
  go_enter Try.func9, Try.ntmps9
  go_wp2_with fail
  refine (new_some 2 _ (by omega) (by omega)).mono ?_
  rintro e w' ⟨rfl, rfl⟩
  generalize hb : w.heap.size = b at *
  have HB := (show Hid (w.heap.size = b) from hb)
  clear hb
  generalize w.alloc (.cells #[.int .i64 2, .slice none 0 0, .int .i64 0] 56) = w0 at *
  go_wp2_with fail
  refine (one_put_lit b 2 [] [97] _ _ w0 p0 rfl (by simp) fun _ _ => trivial).mono ?_
  rintro e w1 ⟨rfl, p1, b1, _⟩
  rw [show putCode 2 [] = 0 from by decide +kernel]
  rw [show putL 2 [] [97] = [[97]] from by decide +kernel] at p1
  have B1 := Lib.hid (hb0.out.trans b1)
  clear b1 p0 hb0
  go_wp2_with fail
  refine (one_put_lit b 2 [[97]] [98] _ _ w1 p1 rfl (by simp) fun _ _ => trivial).mono ?_
  rintro e w2 ⟨rfl, p2, b2, _⟩
  rw [show putCode 2 [[97]] = 0 from by decide +kernel]
  rw [show putL 2 [[97]] [98] = [[97], [98]] from by decide +kernel] at p2
  have B2 := Lib.hid (B1.out.trans b2)
  clear b2 p1 B1
  go_wp2_with fail
  refine (one_put_lit b 2 [[97], [98]] [99] _ _ w2 p2 rfl (by simp) fun _ _ => trivial).mono ?_
  rintro e w3 ⟨rfl, p3, b3, _⟩
  rw [show putCode 2 [[97], [98]] = 9 from by decide +kernel]
  rw [show putL 2 [[97], [98]] [99] = [[97], [98]] from by decide +kernel] at p3
  have B3 := Lib.hid (B2.out.trans b3)
  clear b3 p2 B2
  go_wp2_with fail
  refine (one_take b b 2 [[97], [98]] 3 w3 p3 (by simp) (by omega) (Nat.le_refl _)).mono ?_
  rintro e w4 ⟨⟨v4, rfl, o4⟩, p4, b4, _⟩
  rw [show ([[97], [98]] : List (List Int)).eraseIdx (at_ [[97], [98]] 3) = [[97]] from by decide +kernel] at p4
  rw [show ([[97], [98]] : List (List Int)).getD (at_ [[97], [98]] 3) [] = [98] from by decide +kernel] at o4
  have B4 := Lib.hid (B3.out.trans b4)
  have O4 := Lib.hid o4
  clear b4 p3 B3 o4
  go_wp2_with fail
  refine (one_copy b b 2 [[97]] 0 w4 p4 (by simp) (by omega) (Nat.le_refl _) fun _ _ => trivial).mono ?_
  rintro e w5 ⟨rfl, p5, b5, f5⟩
  rw [show putCode 2 [[97]] = 0 from by decide +kernel]
  rw [show putL 2 [[97]] (([[97]] : List (List Int)).getD (at_ [[97]] 0) []) = [[97], [97]] from by decide +kernel] at p5
  have B5 := Lib.hid (B4.out.trans b5)
  have O5 := Lib.hid (f5.own O4.out)
  clear b5 p4 B4 O4 f5
  go_wp2_with fail
  refine (one_get b 2 [[97], [97]] 1 w5 p5 (by simp) (by omega)).mono ?_
  rintro e w6 ⟨⟨v6, rfl, o6⟩, b6⟩
  rw [show ([[97], [97]] : List (List Int)).getD (at_ [[97], [97]] 1) [] = [97] from by decide +kernel] at o6
  have p6 := p5.below b6
  have B6 := Lib.hid (B5.out.trans (b6.mono (Nat.le_of_lt p5.lt)))
  have O6 := Lib.hid ((Five.below b6).own O5.out)
  have Q6 := Lib.hid o6
  clear b6 p5 B5 O5 o6
  go_wp2_with fail
  refine (one_take_bad b 2 [[97], [97]] (-1) w6 p6 (.inr (by omega))).mono ?_
  rintro e w7 ⟨rfl, rfl⟩
  go_wp2_with fail
  refine (take_nil 0 w7).mono ?_
  rintro e w8 ⟨rfl, rfl⟩
  obtain ⟨g4, c4, rfl, hc4⟩ := own_one O6.out
  obtain ⟨g6, c6, rfl, hc6⟩ := own_one Q6.out
  have k4 := run_convert_bytes_arg (P := Try.prog) w8 28 5 Try.underlying28 Try.underlying5 g4 0 1 c4 [98] rfl (fun i hi => by have h0 : i = 0 := (by omega); subst h0; simpa using hc4) 9 Try.underlying9
  have k6 := run_convert_bytes_arg (P := Try.prog) w8 28 5 Try.underlying28 Try.underlying5 g6 0 1 c6 [97] rfl (fun i hi => by have h0 : i = 0 := (by omega); subst h0; simpa using hc6) 9 Try.underlying9
  rw [show strOfNums [98] = ⟨#[98]⟩ from by decide +kernel] at k4
  rw [show strOfNums [97] = ⟨#[97]⟩ from by decide +kernel] at k6
  go_wp2_with fail
  obtain ⟨W9, hB9, km⟩ := make_run w8
  have HB9 := Lib.hid hB9
  have HP6 := p6.lt
  clear hB9
  refine (one_len b 2 [[97], [97]] w8 p6).mono ?_
  rintro e w9 ⟨rfl, rfl⟩
  go_wp2_with fail
  refine (put_long b _ 1001 1001 _ (by omega) (by unfold maxLen; omega)).mono ?_
  rintro e w10 ⟨rfl, rfl⟩
  go_wp2_with fail
  refine (new_none 0 _ (by omega)).mono ?_
  rintro e w11 ⟨rfl, rfl⟩
  go_wp2_with fail
  refine (len_nil _).mono ?_
  rintro e w12 ⟨rfl, rfl⟩
  go_wp2_with fail
  go_ret
  refine ⟨rfl, ?_⟩
  rw [HB.out]
  exact B6.out.trans (HB9.out.mono (Nat.le_of_lt HP6))

end Go.Proofs.Ytajafcbnhcncoaa
