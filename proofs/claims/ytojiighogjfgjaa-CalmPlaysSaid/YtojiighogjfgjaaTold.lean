/-
  'told' answers true, in whatever world, and touches nothing that was there; no condition.
-/
import Derived.Test.YtojiighogjfgjaaPair
namespace Go.Proofs.Ytojiighogjfgjaa
open Go.RowKit

theorem ints_lit (w : World) (l : List Int) (c : Array Value) (hc : c = (l.map (Value.int .i64)).toArray) : Ints (w.alloc (.cells c 3)) (.slice (some ⟨w.heap.size, 0, none⟩) l.length l.length) l := by
  refine .inr ⟨w.heap.size, 0, l.length, rfl, Nat.le_refl _, by simp, fun k hk => ?_⟩
  rw [Nat.zero_add, World.cell?_alloc_new, hc]
  simpa using getD_map_int l k hk

theorem own_len {w : World} {base : Nat} {v : Value} {n : Nat} {xs : List Value} (h : w.ownsRow base 3 1 v n xs) : ∃ a c, v = .slice a n c := by
  rcases h.2 with ⟨rfl, rfl⟩ | ⟨g, cap, cur, rfl, _⟩
  · exact ⟨_, _, rfl⟩
  · exact ⟨_, _, rfl⟩

set_option maxHeartbeats 1000000 in
theorem told_any (w : World) :
    Calls Try.prog 12 #[] w fun e w' => e = .returned (.bool true) ∧ Below w.heap.size w w' := by
  have hb0 := ((Below.refl w.heap.size w).alloc (Nat.le_refl _) (.cells #[.int .i64 0, .int .i64 1, .slice none 0 0, .int .i64 0] 44)).alloc (by simp) (.cells #[.int .i64 2, .int .i64 0, .slice none 0 0, .int .i64 0] 44)
  have p0 := Two.new w (u := 0) (d := 1) (u2 := 2) (d2 := 0) (by omega) (by omega) (by omega) (by omega) (by omega) (by omega) (by omega) (by omega)
  go_enter Try.func12, Try.ntmps12
  go_wp2_with fail
  refine (new_some 0 1 _ (by omega) (by omega) (by omega) (by omega)).mono ?_
  rintro e w' ⟨rfl, rfl⟩
  go_wp2_with fail
  refine (new_some 2 0 _ (by omega) (by omega) (by omega) (by omega)).mono ?_
  rintro e w' ⟨rfl, rfl⟩
  rw [World.size_alloc]
  generalize hb : w.heap.size = b at *
  have HB := (show Hid (w.heap.size = b) from hb)
  clear hb
  generalize (w.alloc (.cells #[.int .i64 0, .int .i64 1, .slice none 0 0, .int .i64 0] 44)).alloc (.cells #[.int .i64 2, .int .i64 0, .slice none 0 0, .int .i64 0] 44) = w0 at *
  go_wp2_with fail
  refine (two_next b (b + 1) b 0 1 2 0 5 5 [] [] _ p0 (Nat.le_refl _)).mono ?_
  rintro e w1 ⟨rfl, p1, b1⟩
  rw [show keptL 0 1 [] 5 = [5] from by decide +kernel] at p1 ⊢
  rw [show outF 0 1 [5] 5 = 5 from by decide +kernel]
  go_wp2_with fail
  refine (two_next b (b + 1) b 0 1 2 0 5 2 [5] [] _ p1 (Nat.le_refl _)).mono ?_
  rintro e w2 ⟨rfl, p2, b2⟩
  rw [show keptL 0 1 [5] 2 = [5, 2] from by decide +kernel] at p2 ⊢
  rw [show outF 0 1 [5, 2] 5 = 5 from by decide +kernel]
  go_wp2_with fail
  refine (two_next b (b + 1) b 0 1 2 0 5 2 [5, 2] [] _ p2 (Nat.le_refl _)).mono ?_
  rintro e w3 ⟨rfl, p3, b3⟩
  rw [show keptL 0 1 [5, 2] 2 = [2, 2] from by decide +kernel] at p3 ⊢
  rw [show outF 0 1 [2, 2] 5 = 2 from by decide +kernel]
  go_wp2_with fail
  refine (two_next (b + 1) b b 2 0 0 1 5 8 [] [2, 2] _ p3.swap (Nat.le_succ _)).mono ?_
  rintro e w4 ⟨rfl, p4, b4⟩
  rw [show keptL 2 0 [] 8 = [8] from by decide +kernel] at p4 ⊢
  rw [show outF 2 0 [8] 5 = 8 from by decide +kernel]
  go_wp2_with fail
  refine (two_next (b + 1) b b 2 0 0 1 5 9 [8] [2, 2] _ p4 (Nat.le_succ _)).mono ?_
  rintro e w5 ⟨rfl, p5, b5⟩
  rw [show keptL 2 0 [8] 9 = [8, 9] from by decide +kernel] at p5 ⊢
  rw [show outF 2 0 [8, 9] 5 = 8 from by decide +kernel]
  go_wp2_with fail
  refine (two_next (b + 1) b b 2 0 0 1 5 7 [8, 9] [2, 2] _ p5 (Nat.le_succ _)).mono ?_
  rintro e w6 ⟨rfl, p6, b6⟩
  rw [show keptL 2 0 [8, 9] 7 = [8, 9, 7] from by decide +kernel] at p6 ⊢
  rw [show outF 2 0 [8, 9, 7] 5 = 7 from by decide +kernel]
  have B6 := Lib.hid (((((((hb0.trans b1).trans b2).trans b3).trans b4).trans b5).trans b6))
  clear p0 p1 p2 p3 p4 p5 b1 b2 b3 b4 b5 b6 hb0
  go_wp2_with fail
  refine (one_all b 0 1 [2, 2] _ p6.snd).mono ?_
  rintro e w7 ⟨⟨v7, rfl, o7⟩, b7⟩
  obtain ⟨a7, c7, hv7⟩ := own_len o7
  rw [hv7]
  have p7 := p6.below b7
  have B7 := Lib.hid (B6.out.trans (b7.mono (Nat.le_of_lt p6.snd.lt)))
  clear hv7 o7 b7 B6 p6
  go_wp2_with fail
  refine (one_all (b + 1) 2 0 [8, 9, 7] _ p7.fst).mono ?_
  rintro e w8 ⟨⟨v8, rfl, o8⟩, b8⟩
  obtain ⟨a8, c8, hv8⟩ := own_len o8
  rw [hv8]
  have p8 := p7.below b8
  have B8 := Lib.hid (B7.out.trans (b8.mono (Nat.le_of_lt p7.snd.lt)))
  have q8 := p8.snd
  clear hv8 o8 b8 B7 p7 p8
  have hs8 := q8.lt
  go_wp2_with fail
  refine (one_set_long b 0 1 [2, 2] _ 3 3 _ (q8.below ((Below.refl _ _).alloc (Nat.le_refl _) _)) (by omega) (by unfold maxLen; omega)).mono ?_
  rintro e w9 ⟨rfl, q9, b9⟩
  have B9 := Lib.hid ((B8.out.alloc (Nat.le_of_lt hs8) _).trans b9)
  clear b9 B8 q8 hs8
  have hs9 := q9.lt
  go_wp2_with fail
  refine (one_set b 0 1 [2, 2] [-1] _ _ (q9.below ((Below.refl _ _).alloc (Nat.le_refl _) _)) (ints_lit _ [-1] _ rfl) (by decide)).mono ?_
  rw [show badL [-1] = true from by decide +kernel]
  rintro e w10 ⟨rfl, q10, b10⟩
  have B10 := Lib.hid ((B9.out.alloc (Nat.le_of_lt hs9) _).trans b10)
  clear b10 B9 q9 hs9
  have hs10 := q10.lt
  go_wp2_with fail
  refine (one_set b 0 1 _ [4] _ _ (q10.below ((Below.refl _ _).alloc (Nat.le_refl _) _)) (ints_lit _ [4] _ rfl) (by decide)).mono ?_
  rw [show badL [4] = false from by decide +kernel]
  rintro e w11 ⟨rfl, q11, b11⟩
  have B11 := Lib.hid ((B10.out.alloc (Nat.le_of_lt hs10) _).trans b11)
  clear b11 B10 q10 hs10 q11
  go_wp2_with fail
  refine (new_none 61 0 _ (by omega)).mono ?_
  rintro e w12 ⟨rfl, rfl⟩
  go_wp2_with fail
  refine (next_nil 1 1 _).mono ?_
  rintro e w13 ⟨rfl, rfl⟩
  go_wp2_with fail
  refine (set_nil _ _).mono ?_
  rintro e w14 ⟨rfl, rfl⟩
  go_wp2_with fail
  go_ret
  refine ⟨rfl, ?_⟩
  rw [HB.out]
  exact B11.out

end Go.Proofs.Ytojiighogjfgjaa
