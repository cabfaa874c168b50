/-
  The contract of the reference's Set, and both objects at once; conditions: at most 100 numbers come in, windows from 0 to 60.
-/
import Derived.Test.YtojiighogjfgjaaVals
namespace Go.Proofs.Ytojiighogjfgjaa
open Go.RowKit

/-- A value that reads as these numbers, at whatever element there is. -/
theorem Vals.cells {w : World} {v : Value} {zs : List Int} (h : Vals w v zs) : ∃ a cap g o, v = .slice a zs.length cap ∧ ∀ k, k < zs.length → a = some ⟨g, o, none⟩ ∧ w.cell? ⟨g, o + k, none⟩ = some (.int .i64 (zs.getD k 0)) := by
  rcases h with (⟨rfl, rfl⟩ | ⟨g, o, cap, rfl, _, _, h⟩) | ⟨x, cap, rfl, rfl⟩
  · exact ⟨none, 0, 0, 0, rfl, fun k hk => by simp at hk⟩
  · exact ⟨_, cap, g, o, rfl, fun k hk => ⟨rfl, h k hk⟩⟩
  · exact ⟨some x, cap, 0, 0, rfl, fun k hk => by simp at hk⟩

/-- 'append(own, more...)' where 'more' came in. -/
theorem wpList_append_vals {w : World} {ops : Array Oper} {rest : List Oper} {o : Oper} {a : Act} {Q : Exit → Act → World → Prop} (hgd : o.guard = none) (s x : Operand)
    (ho : o.op = .call { callee := .builtin .append, args := #[s, x], argTypes := #[22, 22] })
    (base : Nat) (v : Value) (n : Nat) (xs : List Value) (hs : a.eval s = v) (hown : w.ownsRow base 3 1 v n xs) (vs : Value) (zs : List Int) (hx : a.eval x = vs) (hI : Vals w vs zs)
    (hn : n ≤ 100000) (hz : zs.length ≤ 100000) (hbase : base ≤ w.heap.size)
    (h : ∀ v' w', w'.ownsRow base 3 1 v' (n + zs.length) (xs ++ zs.map (Value.int .i64)) → w.grownBy w' v.ownBlock → wpList Try.prog ops Q rest (a.put o.dst v') w') : wpList Try.prog ops Q (o :: rest) a w := by
  rcases hI with hI | ⟨ad, cap, rfl, rfl⟩
  · exact wpList_append_ints hgd s x ho base v n xs hs hown vs zs hx hI hn hz hbase h
  · obtain ⟨i0, hi, hz0, hz1, hz2⟩ := info_parts Try.info3
    exact wpList_append_own w hgd s x 22 ho base 3 i0 (.int .i64 0) 1 8 Try.underlying22 hi hz0 hz1 hz2 rfl (by decide) v n xs hs hown ad 0 cap [] hx rfl (fun j u hu => by simp at hu) (fun x hx => by simp at hx) (by unfold maxLen; omega) (by omega) hbase fun v' w' h1 h2 _ => h v' w' h1 h2

set_option maxHeartbeats 1000000 in
theorem rset_all (b f : Nat) (u d : Int) (l x : List Int) (v : Value) (w : World) (h : RRep w b u d l f) (h1 : 0 ≤ u) (h2 : u ≤ 60) (h3 : 0 ≤ d) (h4 : d ≤ 60) (hv : Vals w v x) (hm : x.length ≤ 100) :
    Calls Try.prog 14 #[.pointer (some ⟨b, 0, none⟩), v] w fun e w' => e = .returned (.int .i64 (codeS (setBad u d x))) ∧ RWent w b f u d (setL (setBad u d x) l x) w' := by
  have H := Lib.hid h
  have HV := Lib.hid hv
  obtain ⟨va, vc, g, o, rfl, hc⟩ := hv.cells
  have HC := Lib.hid hc
  clear h hv hc
  go_enter Try.func14, Try.ntmps14
  go_wp2
  go_loopw [5] (fun i wr => ∃ k : Nat, k ≤ x.length ∧ i = .int .i64 (k : Int) ∧ Hid (badL (x.take k) = false) ∧ wr = w) (fun i _ => x.length - (intOf i).toNat)
  case atStart => exact ⟨0, Nat.zero_le _, rfl, rfl, rfl⟩
  case round =>
    obtain ⟨k, hk, rfl, hno, rfl⟩ := hrel
    by_cases hlt : k < x.length
    · obtain ⟨ha, hcell⟩ := HC.out k hlt
      have HT := Lib.hid (badL_take x k hlt)
      have HB := Lib.hid (badL_of x k hlt)
      generalize hy : x.getD k 0 = y at *
      have HY := Lib.hid hy
      clear hy
      rw [ha]
      clear ha
      by_cases hneg : y < 0
      · have hbad : badL x = true := HB.out (by unfold bad1; simp [hneg])
        have hs : setBad u d x = true := by unfold setBad; rw [hbad]; simp
        have HS := Lib.hid hs
        clear hbad hs
        go_wp2_with fail
        go_ret
        rw [HS.out]
        exact ⟨rfl, f, H.out, .inr (.inl rfl), Fr.refl _ _ _⟩
      · have hneg' : 0 ≤ y := by omega
        by_cases hbig : 1000000 < y
        · have hbad : badL x = true := HB.out (by unfold bad1; simp [hbig])
          have hs : setBad u d x = true := by unfold setBad; rw [hbad]; simp
          have HS := Lib.hid hs
          clear hbad hs
          go_wp2_with fail
          go_ret
          rw [HS.out]
          exact ⟨rfl, f, H.out, .inr (.inl rfl), Fr.refl _ _ _⟩
        · have hb1 : bad1 y = false := by unfold bad1; rw [decide_eq_false hneg, decide_eq_false hbig]; rfl
          have HB1 := Lib.hid hb1
          clear hb1 hneg
          go_wp2_with fail
          go_roundw
          case rel =>
            first
              | exact ⟨k + 1, by omega, by go_num, by unfold Hid; rw [HT.out, hno.out, HB1.out]; rfl, rfl⟩
              | exact ⟨k + 1, by omega, by go_num, by unfold Hid; rw [HT.out, hno.out, HB1.out]; rfl, trivial⟩
              | ((repeat apply Exists.intro); exact ⟨⟨k + 1, by omega, by go_num, by unfold Hid; rw [HT.out, hno.out, HB1.out]; rfl, rfl⟩, rfl⟩)
          case measure => simp [intOf]; omega
    · have hnb : badL x = false := by
        have := hno.out
        rwa [List.take_of_length_le (by omega)] at this
      have HN := Lib.hid hnb
      clear hnb hno
      go_wp2_with fail
      refine (rmost_any b f u d l _ H.out h1 h2 h3 h4).mono ?_
      rintro e w1 ⟨rfl, n1, rfl⟩
      by_cases hlong : max u d + 1 < (x.length : Int)
      · have hs : setBad u d x = true := by unfold setBad; rw [decide_eq_true hlong]; rfl
        have HS := Lib.hid hs
        clear hs
        go_wp2_with fail
        go_ret
        rw [HS.out]
        exact ⟨rfl, f, H.out.drewN _, .inr (.inl rfl), (Fr.refl _ _ _).drewN _⟩
      · have hs : setBad u d x = false := by unfold setBad; rw [decide_eq_false hlong, HN.out]; rfl
        have HS := Lib.hid hs
        clear hs
        have hB0 : Below wr.heap.size wr (wr.drewN n1) := belowDrewN (Below.refl _ _) n1
        generalize hw2 : wr.drewN n1 = w2 at *
        have hs2 : wr.heap.size ≤ w2.heap.size := hB0.size
        have hI := HV.out.below (hB0.trans ((Below.refl _ w2).alloc hs2 (.cells #[] 3)))
        have HI := Lib.hid hI
        have HO := Lib.hid (World.ownsRow_made (base := w2.heap.size) (e := 3) (size := 1) w2 #[] 0 (Nat.le_refl _) (by unfold maxLen; omega) rfl)
        have HB1 := Lib.hid (hB0.alloc hs2 (.cells #[] 3))
        have hlt2 := H.out.lt
        clear hI hB0 hw2
        go_wp2_with (at_builtin; refine wpList_append_vals rfl _ _ rfl w2.heap.size _ 0 [] rfl HO.out _ x rfl HI.out (by omega) (by omega) (by simp) ?_; intro v3 w3 hown hgrow; simp only [Nat.zero_add, List.nil_append] at hown; have hB2 := HB1.out.grown hgrow (by simp; omega) (fun k hk => Nat.le_trans hs2 (HO.out.lt k hk).1); have HO3 := Lib.hid hown; have HB3 := Lib.hid hB2; obtain ⟨a6, k6, p6, hs6⟩ := ownsRow_shape hown; have hH3 := H.out.below hB2; obtain ⟨v7, _, _, cc7, ff7, hv7, _, _, _⟩ := hH3.cells; have HR7 := Lib.hid (RRep.stored hv7 (Ints.of_row hown) (fun g hg => Nat.lt_of_lt_of_le (Nat.lt_of_lt_of_le hlt2 hs2) (own_above hown g hg))); rw [hs6] at HR7 HO3 ⊢; clear hown hgrow hs6 hv7 hH3 hB2)
        go_ret
        rw [HS.out]
        refine ⟨rfl, _, HR7.out, ?_, (Fr.of_below HB3.out).setCell 2 _⟩
        cases hg : (Value.slice a6 k6 p6).ownBlock with
        | none => exact .inl rfl
        | some g => exact .inr (.inr (Nat.le_trans hs2 (own_above HO3.out g hg)))

end Go.Proofs.Ytojiighogjfgjaa
