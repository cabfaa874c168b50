/-
  Contracts of calm's All and Set; conditions: the list that comes in holds at most 100000 numbers where it is looked at.
-/
import Derived.Test.YtojiighogjfgjaaNext
namespace Go.Proofs.Ytojiighogjfgjaa
open Go.RowKit

set_option maxHeartbeats 400000 in
theorem all_any (b f : Nat) (u d : Int) (l : List Int) (w : World) (h : Rep w b u d l f) (hl : l.length ≤ 61) :
    Calls Try.prog 11 #[.pointer (some ⟨b, 0, none⟩)] w fun e w' => (∃ v', e = .returned v' ∧ w'.ownsRow w.heap.size 3 1 v' l.length (l.map (Value.int .i64))) ∧ Below w.heap.size w w' := by
  obtain ⟨v, R, c0, c1, c2, c3, f2, f3, hv, ho, hf⟩ := h.cells
  have HI := Lib.hid (Ints.of_row ho)
  clear h hv ho f2 f3 c3 c0 c1 hf
  go_enter Try.func11, Try.ntmps11
  go_wp2_with fail
  refine (clone_any v l _ HI.out (by omega)).mono ?_
  rintro e w' ⟨⟨v', rfl, h1⟩, h2⟩
  have H1 := Lib.hid h1
  have H2 := Lib.hid h2
  clear h1 h2
  go_wp2_with fail
  go_ret
  exact ⟨⟨_, rfl, H1.out⟩, H2.out⟩

def bad1 (x : Int) : Bool := decide (x < 0) || decide (1000000 < x)
theorem ret_bool {a b : Bool} (h : a = b) : Ending.returned (.bool a) = .returned (.bool b) := by rw [h]

set_option maxHeartbeats 400000 in
theorem bad1_any (x : Int) (w : World) : Calls Try.prog 24 #[.int .i64 x] w fun e w' => e = .returned (.bool (bad1 x)) ∧ w = w' := by
  unfold bad1
  by_cases h : x < 0
  · go_enter Try.func24, Try.ntmps24
    go_wp2
    go_ret
    exact ⟨ret_bool (by simp [h]), rfl⟩
  · have h' : 0 ≤ x := by omega
    go_enter Try.func24, Try.ntmps24
    go_wp2
    go_ret
    exact ⟨ret_bool (by rw [show decide (x < 0) = false from decide_eq_false (by omega)]; simp), rfl⟩

/-- Is one of them bad? -/
def badL (l : List Int) : Bool := l.any bad1

theorem badL_take (l : List Int) (k : Nat) (h : k < l.length) : badL (l.take (k + 1)) = (badL (l.take k) || bad1 (l.getD k 0)) := by
  unfold badL
  rw [List.take_succ_eq_append_getElem h, List.any_append, List.getD_eq_getElem?_getD, List.getElem?_eq_getElem h]
  simp

theorem badL_of (l : List Int) (k : Nat) (h : k < l.length) (hb : bad1 (l.getD k 0) = true) : badL l = true := by
  unfold badL
  rw [List.any_eq_true]
  refine ⟨l.getD k 0, ?_, hb⟩
  rw [List.getD_eq_getElem?_getD, List.getElem?_eq_getElem h]
  exact List.getElem_mem h

def IdxPost (l : List Int) (w : World) (e : Ending) (w' : World) : Prop := ∃ i : Int, e = .returned (.int .i64 i) ∧ decide (0 ≤ i) = badL l ∧ w = w'

set_option maxHeartbeats 400000 in
theorem index_any (v : Value) (l : List Int) (w : World) (h : Ints w v l) (hl : l.length ≤ 100000) :
    Calls Try.prog 29 #[v, .func (.func 24) #[] #[]] w (IdxPost l w) := by
  rcases h with ⟨rfl, rfl⟩ | ⟨g, o, cap, rfl, hcap, hg, hc⟩
  · go_enter Try.func29, Try.ntmps29
    go_wp2
    refine wp_loop_rounds 1 ?_
    rw [rounds_succ]
    go_wp2
    go_ret
    exact ⟨-1, rfl, rfl, rfl⟩
  · have HC := Lib.hid hc
    clear hc
    go_enter Try.func29, Try.ntmps29
    go_wp2
    go_loop [8] (fun i => ∃ k : Nat, k ≤ l.length ∧ i = .int .i64 (k : Int) ∧ Hid (badL (l.take k) = false)) (fun i => l.length - (intOf i).toNat)
    case atStart => exact ⟨0, Nat.zero_le _, rfl, rfl⟩
    case round =>
      obtain ⟨k, hk, rfl, hno⟩ := hrel
      by_cases hlt : k < l.length
      · have hcell := HC.out k hlt
        have HT := Lib.hid (badL_take l k hlt)
        have HB := Lib.hid (badL_of l k hlt)
        generalize hy : l.getD k 0 = y at *
        have HY := Lib.hid hy
        clear hy
        go_wp2_with fail
        refine (bad1_any y _).mono ?_
        rintro e w' ⟨rfl, hw⟩
        rw [← hw]
        clear hw
        cases hb : bad1 y
        · go_wp2_with fail
          go_round
          case rel => exact ⟨k + 1, by omega, by go_num, by unfold Hid; rw [HT.out, hno.out, hb]; rfl⟩
          case measure => simp [intOf]; omega
        · go_wp2_with fail
          go_ret
          exact ⟨k, rfl, by rw [HB.out hb]; simp, rfl⟩
      · go_wp2_with fail
        go_ret
        exact ⟨-1, rfl, by rw [show l = l.take k from by rw [List.take_of_length_le (by omega)], hno.out]; rfl, rfl⟩

set_option maxHeartbeats 400000 in
theorem contains_any (v : Value) (l : List Int) (w : World) (h : Ints w v l) (hl : l.length ≤ 100000) :
    Calls Try.prog 23 #[v, .func (.func 24) #[] #[]] w fun e w' => e = .returned (.bool (badL l)) ∧ w = w' := by
  have H := Lib.hid h
  clear h
  go_enter Try.func23, Try.ntmps23
  go_wp2_with fail
  refine (index_any v l _ H.out hl).mono ?_
  rintro e w' ⟨i, rfl, hi, rfl⟩
  have HI := Lib.hid hi
  clear hi
  go_wp2_with fail
  go_ret
  exact ⟨ret_bool HI.out, rfl⟩

/-- Set's test. -/
def setBad (u d : Int) (l : List Int) : Bool := decide (max u d + 1 < (l.length : Int)) || badL l

set_option maxHeartbeats 400000 in
theorem set_long (b f : Nat) (u d : Int) (l : List Int) (a : Option Addr) (n c : Nat) (w : World) (h : Rep w b u d l f) (h1 : 0 ≤ u) (h2 : u ≤ 60) (h3 : 0 ≤ d) (h4 : d ≤ 60) (hlen : max u d + 1 < (n : Int)) (_hn : n ≤ maxLen) :
    Calls Try.prog 10 #[.pointer (some ⟨b, 0, none⟩), .slice a n c] w fun e w' => e = .returned (.int .i64 1) ∧ Went w b f u d l w' := by
  unfold maxLen at _hn
  have H := Lib.hid h
  clear h
  go_enter Try.func10, Try.ntmps10
  go_wp2_with fail
  refine (kept_any b f u d l _ H.out h1 h2 h3 h4).mono ?_
  rintro e w' ⟨rfl, n1, rfl⟩
  go_wp2_with fail
  go_ret
  exact ⟨rfl, f, H.out.drewN _, .inr (.inl rfl), (Fr.refl _ _ _).drewN _⟩

def codeS (bad : Bool) : Int := if bad = true then 1 else 0
def setL (bad : Bool) (l x : List Int) : List Int := if bad = true then l else x

set_option maxHeartbeats 400000 in
theorem set_short (b f : Nat) (u d : Int) (l x : List Int) (v : Value) (w : World) (h : Rep w b u d l f) (h1 : 0 ≤ u) (h2 : u ≤ 60) (h3 : 0 ≤ d) (h4 : d ≤ 60) (hv : Ints w v x) (hlen : (x.length : Int) ≤ max u d + 1) :
    Calls Try.prog 10 #[.pointer (some ⟨b, 0, none⟩), v] w fun e w' => e = .returned (.int .i64 (codeS (badL x))) ∧ Went w b f u d (setL (badL x) l x) w' := by
  have H := Lib.hid h
  have HX := Lib.hid hv
  have hlx : x.length ≤ 61 := by omega
  have hd : decide (max u d + 1 < (x.length : Int)) = false := by simp; omega
  obtain ⟨va, vn, vc, hshape⟩ : ∃ a n c, v = .slice a n c ∧ n = x.length := by
    rcases hv with ⟨rfl, rfl⟩ | ⟨g, o, cap, rfl, _⟩
    · exact ⟨_, _, _, rfl, rfl⟩
    · exact ⟨_, _, _, rfl, rfl⟩
  clear h hv
  obtain ⟨rfl, rfl⟩ := hshape
  go_enter Try.func10, Try.ntmps10
  go_wp2_with fail
  refine (kept_any b f u d l _ H.out h1 h2 h3 h4).mono ?_
  rintro e w' ⟨rfl, n1, rfl⟩
  go_wp2_with fail
  refine (contains_any _ x (w.drewN n1) (HX.out.keep (Nat.le_refl _) fun _ _ => rfl) (by omega)).mono ?_
  rintro e w' ⟨rfl, rfl⟩
  cases hb : badL x
  · go_wp2_with fail
    refine (clone_any _ x (w.drewN n1) (HX.out.keep (Nat.le_refl _) fun _ _ => rfl) (by omega)).mono ?_
    rintro e w6 ⟨⟨v6, rfl, ho6⟩, b6⟩
    obtain ⟨v3, R3, _, _, _, _, _, _, hv3, _, _⟩ := H.out.cells
    have hlt3 := H.out.lt
    have hv6 : w6.heap[b]? = some (.cells #[.int .i64 u, .int .i64 d, v3, .int .i64 R3] 44 (0, 0)) := (b6.block b hlt3).trans hv3
    have c6 : w6.cell? ⟨b, 2, none⟩ = some v3 := by simp [World.cell?, hv6]
    have f6 : w6.frozen? ⟨b, 2, none⟩ = false := by simp [World.frozen?, hv6]
    obtain ⟨a6, k6, p6, hs6⟩ := ownsRow_shape ho6
    rw [hs6] at ho6 ⊢
    have HR7 := Lib.hid (Rep.stored hv6 (ownsRow_less ho6 hlt3))
    have HN7 := Lib.hid (new_block b ho6)
    have HB7 := Lib.hid ((Fr.of_below (b := b) (f := f) b6).of_drewN.setCell 2 (.slice a6 k6 p6))
    clear hs6 ho6 hv6 hv3 b6
    go_wp2_with fail
    go_ret
    rw [hb]
    refine ⟨rfl, _, HR7.out, ?_, HB7.out⟩
    rcases HN7.out with h | h
    · exact .inl h
    · exact .inr (.inr h)
  · go_wp2_with fail
    go_ret
    rw [hb]
    exact ⟨rfl, f, H.out.drewN _, .inr (.inl rfl), (Fr.refl _ _ _).drewN _⟩

set_option maxHeartbeats 400000 in
theorem next_nil (a x : Int) (w : World) : Calls Try.prog 9 #[.pointer none, .int .i64 a, .int .i64 x] w fun e w' => e = .returned (.int .i64 0) ∧ w = w' := by
  go_enter Try.func9, Try.ntmps9
  go_wp2
  go_ret
  exact ⟨rfl, rfl⟩
set_option maxHeartbeats 400000 in
theorem set_nil (v : Value) (w : World) : Calls Try.prog 10 #[.pointer none, v] w fun e w' => e = .returned (.int .i64 1) ∧ w = w' := by
  go_enter Try.func10, Try.ntmps10
  go_wp2
  go_ret
  exact ⟨rfl, rfl⟩

end Go.Proofs.Ytojiighogjfgjaa
