/-
  The law PoolPlays answers true at every input and leaves what was there as it was; no condition.
-/
import Derived.Test.YtajafcbnhcncoaaDuo
import Derived.WalkKit
import Derived.Deep.DeepCutAuto
import Derived.Deep.CutBlock
import Derived.Deep.OwnRows
import Derived.ProofKit
import Derived.OpenShut
import Derived.Deep.Slices
import Derived.Deep.Fields
import Derived.ChangeSame
import Derived.Below
import Derived.ShutString
import Derived.ChangeOld
import Derived.Below
namespace Go.Proofs.Ytajafcbnhcncoaa.poolPlays
open Go.ChangeShapes Go.WideShapes Go.ChangeAt Go.RowKit Go.Deep
open Go.ChangeMaps (open_string shut_string)
set_option linter.unusedVariables false

theorem own : ownKnob Try.prog.godebug = none := by kernel_rfl
theorem laidOut : laidOutB Try.prog = true := by kernel_rfl

section
variable {H : Type} {enc : TypeId × Value → H} {P : Program} {w : World} {base : Nat} {spare : Nat → Bool} {held : Bool}
/-- The elements of a slice of structs that came in, cell by cell. -/
theorem open_elems {t e : TypeId} {fs : Array Field} {fuel : Nat} {cs : List Value} {x : DataW H × List MemPlace} (ht : P.underlying t = some (.slice e)) (he : P.underlying e = some (.struct fs))
    (hone : oneCellFields P fs = true) (hC : P.cellsOf e = fs.size) (h : DataW.trod enc P w base spare held fuel t cs = some x) :
    cs = [.slice none 0 0] ∨ ∃ (a : Addr) (len cap : Nat), cs = [.slice (some a) len cap] ∧ len ≤ cap ∧ cap ≤ maxLen ∧ ∀ i, i < len → ∀ (j : Nat) (f : Field), fs[j]? = some f →
      ∃ (v : Value) (n : Nat) (y : DataW H × List MemPlace), w.cell? (a.add (i * fs.size + j)) = some v ∧ DataW.trod enc P w base spare held n f.type [v] = some y := by
  rcases open_slice ht h with ⟨h0, _⟩ | ⟨a, len, cap, m, n, D, Pl, hcs, _, hl, hm, hmm, _, hi⟩
  · exact .inl h0
  refine .inr ⟨a, len, cap, hcs, hl, hm, fun i him j f hj => ?_⟩
  have hlm : len ≤ m := by rw [hmm]; split <;> omega
  obtain ⟨cs', hc, ht'⟩ := hi i (by omega)
  rw [hC] at hc
  obtain ⟨ys, n', _, _, hlen, hyl, hf⟩ := DataW.trod_struct he ht'
  obtain ⟨_, hcl, hat⟩ := World.cells?_some hc
  obtain ⟨ho, hk⟩ := hone_of hone j f hj
  have hjl : j < fs.size := (Array.getElem?_eq_some_iff.1 hj).1
  have hjc : j < cs'.length := by omega
  have h1 := hf j f hj
  rw [ho, hk, List.drop_eq_getElem_cons hjc] at h1
  have hys : j < ys.length := by omega
  rw [List.getElem?_eq_getElem hys] at h1
  refine ⟨cs'[j], n', ys[j], ?_, h1⟩
  rw [← Go.Deep.add_add, hat j hjl, List.getElem?_eq_getElem hjc]
end

/-- A step that came in: its three cells. -/
def IsOp (w : World) (b : Nat) (g o : Nat) : Prop := ∃ kd k sa sc x, w.cell? ⟨g, o, none⟩ = some (.int .i64 kd) ∧ w.cell? ⟨g, o + 1, none⟩ = some (.int .i64 k) ∧ w.cell? ⟨g, o + 2, none⟩ = some (.slice sa (List.length x) sc) ∧
  BVals w (.slice sa x.length sc) x ∧ x.length ≤ maxLen ∧ ∀ u, sa = some u → x ≠ [] → u.block < b
/-- What the walk is told of the steps. -/
def IsOps (w : World) (b : Nat) (a : Option Addr) (len : Nat) : Prop := len ≤ maxLen ∧ ∃ g o, ∀ i, i < len → a = some ⟨g, o, none⟩ ∧ g < b ∧ IsOp w b g (o + i * 3)

theorem isRow_bvals {w : World} {a : Option Addr} {len cap : Nat} {zs : List Int} (h : IsRow .u8 w a len cap zs) : BVals w (.slice a len cap) (zs.take len) ∧ (zs.take len).length = len := by
  have hlen : (zs.take len).length = len := by
    rcases h with ⟨rfl, rfl, rfl, rfl⟩ | ⟨x, rfl, hl, hm, hz, _⟩
    · rfl
    · rw [List.length_take]; omega
  refine ⟨?_, hlen⟩
  by_cases h0 : len = 0
  · rcases h with ⟨rfl, rfl, rfl, rfl⟩ | ⟨x, rfl, _⟩
    · exact .inl ⟨rfl, rfl⟩
    · subst h0
      exact .inr (.inl ⟨x, cap, rfl, rfl⟩)
  · have hlc : len ≤ cap := by
      rcases h with ⟨_, h, _, _⟩ | ⟨_, _, h, _⟩ <;> omega
    rcases h.cases with h | ⟨xb, xo, rfl, _, hb, hc, _⟩
    · exact absurd h h0
    · refine .inr (.inr ⟨xb, xo, cap, by rw [hlen], by rw [hlen]; exact hlc, hb, fun k hk => ?_⟩)
      rw [hlen] at hk
      rw [hc k hk, List.getD_eq_getElem?_getD, List.getD_eq_getElem?_getD, List.getElem?_take_of_lt hk]

section
variable {H : Type} {enc : TypeId × Value → H} {w : World} {base : Nat} {held : Bool}
theorem open_int_cell {spare : Nat → Bool} {n : Nat} {v : Value} {y : DataW H × List MemPlace} (h : DataW.trod enc Try.prog w base spare held n 3 [v] = some y) : ∃ k : Int, v = .int .i64 k := by
  obtain ⟨k, hk, _⟩ := DataW.trod_int Try.underlying3 h
  exact ⟨k, by simpa using hk⟩
theorem open_bytes_cell {n : Nat} {v : Value} {y : DataW H × List MemPlace} (h : DataW.trod enc Try.prog w base (fun _ => true) held n 28 [v] = some y) : ∃ a len cap zs, v = .slice a len cap ∧ len ≤ maxLen ∧ IsRow .u8 w a len cap zs := by
  rcases open_ints Try.underlying28 Try.underlying5 (by kernel_rfl) h with ⟨hcs, _⟩ | ⟨x, l, c, zs, hcs, _, hl, hm, hz, _, hcell, hwz⟩
  · exact ⟨none, 0, 0, [], by simpa using hcs, by unfold maxLen; omega, .inl ⟨rfl, rfl, rfl, rfl⟩⟩
  · exact ⟨some x, l, c, zs, by simpa using hcs, by omega, .inr ⟨x, rfl, hl, hm, by simpa using hz, hcell, hwz⟩⟩
theorem open_ops {fuel : Nat} {a : Option Addr} {len cap : Nat} {x : DataW H × List MemPlace} (h : DataW.trod enc Try.prog w base (fun _ => true) held fuel 22 [.slice a len cap] = some x) : IsOps w w.heap.size a len := by
  rcases open_elems Try.underlying22 Try.underlying30 (by kernel_rfl) (by kernel_rfl) h with h0 | ⟨ad, l, c, hcs, hl, hm, hf⟩
  · simp at h0
    obtain ⟨rfl, rfl, rfl⟩ := h0
    exact ⟨by unfold maxLen; omega, 0, 0, fun i hi => by omega⟩
  · simp at hcs
    obtain ⟨rfl, rfl, rfl⟩ := hcs
    refine ⟨by omega, ad.block, ad.off, fun i hi => ?_⟩
    obtain ⟨v0, n0, y0, c0, t0⟩ := hf i hi 0 _ rfl
    obtain ⟨v1, n1, y1, c1, t1⟩ := hf i hi 1 _ rfl
    obtain ⟨v2, n2, y2, c2, t2⟩ := hf i hi 2 _ rfl
    obtain ⟨kd, rfl⟩ := open_int_cell t0
    obtain ⟨k, rfl⟩ := open_int_cell t1
    obtain ⟨sa, sl, sc, zs, rfl, hsl, hrow⟩ := open_bytes_cell t2
    have hlt := World.block_lt_of_cell? _ _ c0
    obtain ⟨_, _, _, c00, _⟩ := hf 0 (by omega) 0 _ rfl
    have hsp := World.cell?_spot c00
    obtain ⟨g, o, s⟩ := ad
    have hs : s = none := by simpa [Addr.add] using hsp
    subst hs
    have ha : ∀ j, (⟨g, o, none⟩ : Addr).add j = ⟨g, o + j, none⟩ := fun j => by unfold Addr.add; split <;> simp_all
    simp only [ha, List.size_toArray, List.length_cons, List.length_nil] at c0 c1 c2
    obtain ⟨hb, hbl⟩ := isRow_bvals hrow
    refine ⟨rfl, by simpa [ha] using hlt, kd, k, sa, sc, zs.take sl, by simpa [Nat.add_assoc] using c0, by simpa [Nat.add_assoc] using c1, by rw [hbl]; simpa [Nat.add_assoc] using c2, by rw [hbl]; exact hb, by omega, fun u hu hne => ?_⟩
    rcases hb with ⟨_, h0⟩ | ⟨_, _, _, h0⟩ | ⟨g', o', c', hv, _, hg, _⟩
    · exact absurd h0 hne
    · exact absurd h0 hne
    · simp at hv
      rw [hv.1] at hu
      cases hu
      exact hg
end
theorem IsOp.below {w w' : World} {b g o : Nat} (h : IsOp w b g o) (hs : b ≤ w.heap.size) (hg : g < b) (hb : Below b w w') : IsOp w' b g o := by
  obtain ⟨kd, k, sa, sc, x, c0, c1, c2, hx, hl, hu⟩ := h
  refine ⟨kd, k, sa, sc, x, (hb.cell (p := ⟨g, o, none⟩) hg).trans c0, (hb.cell (p := ⟨g, o + 1, none⟩) hg).trans c1, (hb.cell (p := ⟨g, o + 2, none⟩) hg).trans c2, ?_, hl, hu⟩
  by_cases hne : x = []
  · subst hne
    rcases hx with h | h | ⟨g', o', c', hv, hc', _, _⟩
    · exact .inl h
    · exact .inr (.inl h)
    · simp at hv
      rw [hv.1]
      exact .inr (.inl ⟨_, _, rfl, rfl⟩)
  · exact hx.keep hb.size fun g' hg' _ => hb.block g' (by
      cases sa with
      | none => simp [Value.ownBlock] at hg'
      | some u =>
        have := hu u rfl hne
        simp [Value.ownBlock] at hg'
        omega)

theorem bv_below {w w' : World} {b : Nat} {sa : Option Addr} {sc : Nat} {x : List Int} (h : BVals w (.slice sa x.length sc) x) (hb : Below b w w') (hu : ∀ u, sa = some u → x ≠ [] → u.block < b) : BVals w' (.slice sa x.length sc) x := by
  by_cases hne : x = []
  · subst hne
    rcases h with h | h | ⟨g', o', c', hv, hc', _, _⟩
    · exact .inl h
    · exact .inr (.inl h)
    · simp at hv
      rw [hv.1]
      exact .inr (.inl ⟨_, _, rfl, rfl⟩)
  · exact h.keep hb.size fun g' hg' _ => hb.block g' (by
      cases sa with
      | none => simp [Value.ownBlock] at hg'
      | some u =>
        have := hu u rfl hne
        simp [Value.ownBlock] at hg'
        omega)

/-- At each round's head. -/
def Rel1 (w : World) (b : Nat) (lim : Int) (len : Nat) (v : Value) (wr : World) : Prop :=
  ∃ (k : Nat) (L : List (List Int)), k ≤ len ∧ v = .int .i64 (k : Int) ∧ Both wr b (b + 1) lim L L ∧ Below b w wr

/-- At each round's head of the last loop. -/
def Rel3 (w : World) (b : Nat) (lim : Int) (L : List (List Int)) (v : Value) (wr : World) : Prop :=
  ∃ i : Nat, i ≤ L.length ∧ v = .int .i64 (i : Int) ∧ Both wr b (b + 1) lim L L ∧ Below b w wr

theorem at_small {L : List (List Int)} {t : Nat} (h : t < L.length) : at_ L (t : Int) = t := by
  unfold at_
  rw [Int.emod_eq_of_lt (by omega) (by omega)]
  simp

/-- Behind the switch. -/
def Rel2 (w : World) (b : Nat) (lim : Int) (v8 v9 v10 v11 : Value) (wr : World) : Prop :=
  ∃ (L : List (List Int)) (a : Option Addr) (x : List Int) (c : Nat) (n : Int), v8 = .slice a x.length c ∧ BVals wr (.slice a x.length c) x ∧ v9 = .string (strOfNums x) ∧ v10 = .int .i64 n ∧ v11 = .int .i64 n ∧ Both wr b (b + 1) lim L L ∧ Below b w wr

set_option maxRecDepth 100000 in
set_option maxHeartbeats 4000000 in
theorem walk (a0 : Int) (a1 : Option Addr) (len1 cap1 : Nat) (w : World) (w0 : (Lit.int .i64 a0).wf = true) (w1 : IsOps w w.heap.size a1 len1) :
    Calls Try.prog 3 #[.int .i64 a0, .slice a1 len1 cap1] w fun e w' => e = .returned (.bool true) ∧ Below w.heap.size w w' := by
  have hmax := w1.1
  unfold maxLen at hmax
  clear w0
  by_cases hval : 1 ≤ a0 ∧ a0 ≤ 1000
  · obtain ⟨hv1, hv2⟩ := hval
    generalize a0 = lim at *
    obtain ⟨xb, xo, hX⟩ := w1.2
    have HX := Lib.hid hX
    clear w1 hX
    have hb0 := ((Below.refl w.heap.size w).alloc (Nat.le_refl _) (.cells #[.int .i64 lim, .slice none 0 0, .int .i64 0] 56)).alloc (by simp) (.cells #[.int .i64 lim, .slice none 0 0] 41)
    have p0 : Both ((w.alloc (.cells #[.int .i64 lim, .slice none 0 0, .int .i64 0] 56)).alloc (.cells #[.int .i64 lim, .slice none 0 0] 41)) w.heap.size (w.heap.size + 1) lim [] [] := by
      refine ⟨(One.new w hv2).below ((Below.refl _ _).alloc (Nat.le_refl _) _), ?_, by omega, by simp, by simp⟩
      have := RRep.new (w.alloc (.cells #[.int .i64 lim, .slice none 0 0, .int .i64 0] 56)) lim
      rwa [World.size_alloc] at this
    go_enter Try.func3, Try.ntmps3
    go_wp2_with fail
    refine (new_some lim _ hv1 hv2).mono ?_
    rintro e w' ⟨rfl, rfl⟩
    go_wp2_with fail
    refine (rnew_some lim _ hv1 hv2).mono ?_
    rintro e w' ⟨rfl, rfl⟩
    rw [World.size_alloc]
    generalize hb : w.heap.size = b at *
    have HB := (show Hid (w.heap.size = b) from hb)
    clear hb
    generalize (w.alloc (.cells #[.int .i64 lim, .slice none 0 0, .int .i64 0] 56)).alloc (.cells #[.int .i64 lim, .slice none 0 0] 41) = w0 at *
    by_cases h60 : 60 < len1
    · have HD0 := Lib.hid p0
      have HB0 := Lib.hid hb0
      clear p0 hb0
      go_wp2_with fail
      refine (told_any _).mono ?_
      rintro e w6 ⟨rfl, b6⟩
      have HB6 := Lib.hid (HB0.out.trans (b6.mono (Nat.le_of_lt HD0.out.lt)))
      clear b6
      go_wp2_with fail
      go_ret
      refine ⟨rfl, ?_⟩
      rw [HB.out]
      exact HB6.out
    · have R1 := Lib.hid (show Rel1 w b lim len1 (.int .i64 0) w0 from ⟨0, [], Nat.zero_le _, rfl, p0, hb0⟩)
      clear p0 hb0
      have h60' : len1 ≤ 60 := by omega
      clear h60
      go_wp2_with fail
      go_loopw [7] (fun v wr => Rel1 w b lim len1 v wr) (fun i _ => len1 - (intOf i).toNat)
      case atStart => exact R1.out
      case round =>
        clear R1
        obtain ⟨k, L, hk, rfl, hboth, hbel⟩ := hrel
        have HT := Lib.hid hboth
        have HBEL := Lib.hid hbel
        clear hboth hbel
        by_cases hlt : k < len1
        · obtain ⟨ha, hxb, hop⟩ := HX.out k hlt
          subst ha
          obtain ⟨kd, ki, sa, sc, x, c0, c1, c2, hbv, hxl, hsa⟩ := hop.below (by rw [HB.out]; exact Nat.le_refl _) hxb HBEL.out
          have HBV := Lib.hid hbv
          have HBVB := Lib.hid (show ∀ w4, Below b wr.drew w4 → BVals w4 (.slice sa x.length sc) x from fun w4 hb4 => bv_below hbv (Below.trans (show Below b wr wr.drew from (Below.refl _ _).drew) hb4) hsa)
          have HSA := Lib.hid hsa
          clear hop hbv hsa
          unfold maxLen at hxl
          by_cases h30 : 30 < x.length
          · go_wp2_with fail
            refine (told_any _).mono ?_
            rintro e w6 ⟨rfl, b6⟩
            have HB6 := Lib.hid (HBEL.out.trans (b6.mono (Nat.le_of_lt HT.out.lt)))
            clear b6
            go_wp2_with fail
            go_ret
            refine ⟨rfl, ?_⟩
            rw [HB.out]
            exact HB6.out
          · have h30' : x.length ≤ 30 := by omega
            clear h30
            obtain ⟨q, hq⟩ : ∃ q, bits BinOp.and IntKind.i64 kd 7 = q := ⟨_, rfl⟩
            have c1' : wr.cell? ⟨xb, xo + k * 3 + 1, none⟩ = some (.int .i64 ki) := c1
            go_upto_block 2 with fail
            go_cut [8, 9, 10, 11] (fun v8 v9 v10 v11 wz => Rel2 w b lim v8 v9 v10 v11 wz)
            case first =>
              by_cases hq4 : q < 4
              · have kc := bvals_str (HBV.out.below (Below.refl _ _).drew)
                have c2' : wr.drew.cell? ⟨xb, xo + k * 3 + 2, none⟩ = some (.slice sa x.length sc) := c2
                go_wp2_with fail
                go_region_with (first
                    | (go_at_call 10; refine (both_put b (b + 1) lim L L x (.slice sa x.length sc) _ ?_ ?_ (by omega) ?_).mono ?_; exact HT.out.below (Below.refl _ _).drew; exact HBV.out.below (Below.refl _ _).drew; (intro hne g hg; cases sa with | none => (simp [Value.ownBlock] at hg) | some u => (simp [Value.ownBlock] at hg; subst hg; exact HSA.out u rfl hne)); rintro e w4 ⟨rfl, t4, b4⟩; have HT4 := Lib.hid t4; have HB4 := Lib.hid (HBEL.out.drew.trans b4); have c4 := (b4.cell (p := ⟨xb, xo + k * 3 + 2, none⟩) hxb).trans c2'; have kc4 := bvals_str (HBVB.out w4 b4); clear t4 b4)
                    | (go_at_call 11; refine (both_rput b (b + 1) lim (putL lim L x) L x _ ?_ (by omega)).mono ?_; exact HT4.out; rintro e w5 ⟨rfl, t5, b5, _⟩; have HREL := Lib.hid (show Rel2 w b lim (.slice none 0 0) (.string ⟨#[]⟩) (.int .i64 (putCode lim L)) (.int .i64 (putCode lim L)) w5 from ⟨_, none, [], 0, _, rfl, .inl ⟨rfl, rfl⟩, rfl, rfl, rfl, t5, HB4.out.trans b5⟩); clear t5 b5))
                all_goals
                  generalize putCode lim L = pc at *
                  go_wp2_with fail
                  go_meet
                  exact HREL.out
              · have hq4' : 4 ≤ q := by omega
                clear hq4
                by_cases hq6 : q < 6
                · go_wp2_with fail
                  refine (both_take b (b + 1) lim L L ki wr HT.out).mono ?_
                  rintro e w4 ⟨⟨v4, rfl, x4⟩, t4, b4⟩
                  have HT4 := Lib.hid t4
                  have HX4 := Lib.hid x4
                  have HB4 := Lib.hid (HBEL.out.trans b4)
                  have c1'' := (b4.cell (p := ⟨xb, xo + k * 3 + 1, none⟩) hxb).trans c1'
                  obtain ⟨a4, k4, rfl⟩ := x4.shape
                  clear t4 b4 x4
                  go_wp2_with fail
                  refine (both_rtake b (b + 1) lim (tL L ki) L ki w4 HT4.out).mono ?_
                  rintro e w5 ⟨rfl, t5, b5, s5⟩
                  have HREL := Lib.hid (show Rel2 w b lim (.slice a4 (tX L ki).length k4) (.string (strOfNums (tX L ki))) (.int .i64 (tC L ki)) (.int .i64 (tC L ki)) w5 from ⟨_, a4, _, k4, _, rfl, (HX4.out.seven s5).bvals, rfl, rfl, rfl, t5, HB4.out.trans b5⟩)
                  clear t5 b5 s5
                  unfold sv
                  generalize strOfNums (tX L ki) = X at *
                  generalize (tX L ki).length = xl at *
                  generalize tC L ki = tc at *
                  go_wp2_with fail
                  go_meet
                  exact HREL.out
                · have hq6' : 6 ≤ q := by omega
                  clear hq6
                  by_cases hq7 : q = 6
                  · subst hq7
                    have c2' : wr.drew.cell? ⟨xb, xo + k * 3 + 1, none⟩ = some (.int .i64 ki) := c1'
                    go_wp2_with fail
                    go_region_with (first
                        | (go_at_call 14; refine (both_copy b (b + 1) lim L L ki _ ?_).mono ?_; exact HT.out.below (Below.refl _ _).drew; rintro e w4 ⟨rfl, t4, b4⟩; have HT4 := Lib.hid t4; have HB4 := Lib.hid (HBEL.out.drew.trans b4); have c4 := (b4.cell (p := ⟨xb, xo + k * 3 + 1, none⟩) hxb).trans c2'; clear t4 b4)
                        | (go_at_call 15; refine (both_rcopy b (b + 1) lim (cL lim L ki) L ki _ ?_).mono ?_; exact HT4.out; rintro e w5 ⟨rfl, t5, b5, _⟩; have HREL := Lib.hid (show Rel2 w b lim (.slice none 0 0) (.string ⟨#[]⟩) (.int .i64 (cC lim L ki)) (.int .i64 (cC lim L ki)) w5 from ⟨_, none, [], 0, _, rfl, .inl ⟨rfl, rfl⟩, rfl, rfl, rfl, t5, HB4.out.trans b5⟩); clear t5 b5))
                    all_goals
                      generalize cC lim L ki = pc at *
                      go_wp2_with fail
                      go_meet
                      exact HREL.out
                  · have hq8 : (q == 6) = false := beq_eq_false_iff_ne.2 hq7
                    clear hq7
                    go_wp2_with fail
                    refine (both_get b (b + 1) lim L L ki wr HT.out).mono ?_
                    rintro e w4 ⟨⟨v4, rfl, x4⟩, t4, b4⟩
                    have HT4 := Lib.hid t4
                    have HX4 := Lib.hid x4
                    have HB4 := Lib.hid (HBEL.out.trans b4)
                    have c1'' := (b4.cell (p := ⟨xb, xo + k * 3 + 1, none⟩) hxb).trans c1'
                    obtain ⟨a4, k4, rfl⟩ := x4.shape
                    clear t4 b4 x4
                    go_wp2_with fail
                    refine (both_rget b (b + 1) lim L L ki w4 HT4.out).mono ?_
                    rintro e w5 ⟨rfl, n5, rfl⟩
                    have HREL := Lib.hid (show Rel2 w b lim (.slice a4 (tX L ki).length k4) (.string (strOfNums (tX L ki))) (.int .i64 (tC L ki)) (.int .i64 (tC L ki)) (w4.drewN n5) from ⟨_, a4, _, k4, _, rfl, HX4.out.bvals.below (belowDrewN (Below.refl _ _) n5), rfl, rfl, rfl, HT4.out.drewN n5, belowDrewN HB4.out n5⟩)
                    unfold sv
                    generalize strOfNums (tX L ki) = X at *
                    generalize (tX L ki).length = xl at *
                    generalize tC L ki = tc at *
                    go_wp2_with fail
                    go_meet
                    exact HREL.out
            case rest =>
              obtain ⟨L2, a8, x8, c8, n8, rfl, hb8, rfl, rfl, rfl, hboth2, hbel2⟩ := hcut
              have HT2 := Lib.hid hboth2
              have HB2 := Lib.hid hbel2
              obtain ⟨mv, m0, m1, mf, _, mo⟩ := hboth2.2.1.cells
              obtain ⟨ma, mc, rfl⟩ := ownsRow_shape mo
              have kz : ∀ n, (convert 28 9 (.slice a8 x8.length c8)).run Try.prog (wc.drewN n) = .ok (.string (strOfNums x8)) (wc.drewN n) := fun n => bvals_str (hb8.below (belowDrewN (Below.refl _ _) n))
              have HLEN := Lib.hid (show ∀ n, Calls Try.prog 18 #[.pointer (some ⟨b, 0, none⟩)] (wc.drewN n) fun e w' => e = .returned (.int .i64 (L2.length : Int)) ∧ w' = wc.drewN n from fun n => one_len b lim L2 _ (hboth2.1.below (belowDrewN (Below.refl _ _) n)))
              clear mo mf m0 hboth2 hbel2 hb8
              generalize strOfNums x8 = X at *
              generalize x8.length = xl at *
              generalize L2.length = nl at *
              go_wp2_with fail
              go_quiet ((go_at_call 18; exact Calls.quiet_of_same (HLEN.out _)))
              go_wp2_with fail
              go_roundw
              case rel =>
                first
                  | exact ⟨k + 1, _, by omega, by go_num, HT2.out.drewN _, belowDrewN HB2.out _⟩
                  | ((repeat apply Exists.intro); exact ⟨⟨k + 1, _, by omega, by go_num, HT2.out.drewN _, belowDrewN HB2.out _⟩, rfl⟩)
              case measure => simp [intOf]; omega
        · have R3 := Lib.hid (show Rel3 w b lim L (.int .i64 0) wr from ⟨0, Nat.zero_le _, rfl, HT.out, HBEL.out⟩)
          obtain ⟨mv, m0, m1, mf, _, mo⟩ := HT.out.2.1.cells
          obtain ⟨ma, mc, rfl⟩ := ownsRow_shape mo
          have hL1 := HT.out.1.2.1
          clear mo mf m0 HT HBEL
          go_wp2_with fail
          go_loopw [13] (fun v wr => Rel3 w b lim L v wr) (fun i _ => L.length - (intOf i).toNat)
          case atStart => exact R3.out
          case round =>
            clear R3 m1
            obtain ⟨i, hi, rfl, hboth, hbel⟩ := hrel
            have HT := Lib.hid hboth
            have HBEL := Lib.hid hbel
            obtain ⟨mv, m0, m1, mf, mh, mo⟩ := hboth.2.1.cells
            obtain ⟨ma, mc, rfl⟩ := ownsRow_shape mo
            clear hboth hbel mo mf m0 mh
            by_cases hlt2 : i < L.length
            · have hne : L ≠ [] := fun e => by rw [e] at hlt2; simp at hlt2
              have hok : okI L (i : Int) := ⟨hne, by omega⟩
              have hC : tC L (i : Int) = 0 := if_pos hok
              have hX : tX L (i : Int) = L.getD i [] := by unfold tX; rw [if_pos hok, at_small hlt2]
              have HCX := Lib.hid (And.intro hC hX)
              clear hok hC hX hne
              go_wp2_with fail
              refine (both_get b (b + 1) lim L L (i : Int) wr HT.out).mono ?_
              rw [HCX.out.1, HCX.out.2]
              rintro e w4 ⟨⟨v4, rfl, x4⟩, t4, b4⟩
              have HT4 := Lib.hid t4
              have HB4 := Lib.hid (HBEL.out.trans b4)
              obtain ⟨nv, n0, n1, nf, nh, no⟩ := t4.2.1.cells
              obtain ⟨g, cap, cur, rfl, hg⟩ : ∃ g cap cur, nv = .slice (some ⟨g, 0, none⟩) L.length cap ∧ w4.heap[g]? = some (.cells cur 9 (0, 0)) := by
                rcases no.2 with ⟨_, hn⟩ | ⟨g, cap, cur, hq, _, hg, _⟩
                · omega
                · exact ⟨g, cap, cur, hq, hg⟩
              have hcell : w4.cell? ⟨g, i, none⟩ = some (.string (strOfNums (L.getD i []))) := by
                have hcell := no.cells (g := g) rfl i (sv (L.getD i [])) (by rw [List.getElem?_map, List.getElem?_eq_getElem hlt2, List.getD_eq_getElem?_getD, List.getElem?_eq_getElem hlt2]; rfl)
                rwa [show (⟨g, 0, none⟩ : Addr).add i = ⟨g, i, none⟩ from by unfold Addr.add; split <;> simp_all] at hcell
              obtain ⟨a4, k4, rfl⟩ := x4.shape
              have kz : ∀ n, (convert 28 9 (.slice a4 (L.getD i []).length k4)).run Try.prog (w4.drewN n) = .ok (.string (strOfNums (L.getD i []))) (w4.drewN n) := fun n => bvals_str (x4.bvals.below (belowDrewN (Below.refl _ _) n))
              clear t4 b4 x4 nf nh no n0 hg HCX
              generalize strOfNums (L.getD i []) = X at *
              generalize (L.getD i []).length = xl at *
              go_wp2_with fail
              go_quiet (fail)
              go_wp2_with fail
              go_roundw
              case rel =>
                first
                  | exact ⟨i + 1, by omega, by go_num, HT4.out.drewN _, belowDrewN HB4.out _⟩
                  | ((repeat apply Exists.intro); exact ⟨⟨i + 1, by omega, by go_num, HT4.out.drewN _, belowDrewN HB4.out _⟩, rfl⟩)
              case measure => simp [intOf]; omega
            · have hil : i = L.length := by omega
              clear hlt2
              go_wp2_with fail
              refine (told_any _).mono ?_
              rintro e w6 ⟨rfl, b6⟩
              have HB6 := Lib.hid (HBEL.out.trans (b6.mono (Nat.le_of_lt HT.out.lt)))
              clear b6
              go_wp2_with fail
              go_ret
              refine ⟨rfl, ?_⟩
              rw [HB.out]
              exact HB6.out
  · have hval' : a0 < 1 ∨ 1 ≤ a0 ∧ 1000 < a0 := by omega
    go_enter Try.func3, Try.ntmps3
    go_wp2_with fail
    refine (new_none a0 _ hval').mono ?_
    rintro e w' ⟨rfl, rfl⟩
    go_wp2_with fail
    refine (rnew_none a0 _ hval').mono ?_
    rintro e w' ⟨rfl, rfl⟩
    clear hval hval'
    go_wp2_with fail
    refine (told_any _).mono ?_
    rintro e w6 ⟨rfl, b6⟩
    have HB6 := Lib.hid b6
    clear b6
    go_wp2_with fail
    go_ret
    exact ⟨rfl, HB6.out⟩
/-! The row's step. -/
set_option maxRecDepth 100000 in
theorem lifted (os : Os) (started : os.Started) (H : Type) (enc : TypeId × Value → H) :
    ReturnsInHanded {} Try.checked os 3 .any (Rows.poolPlaysSpec.pre6 enc Try.prog Try.f3 Rows.poolPlaysRow.domain false) (Rows.poolPlaysSpec.post enc Try.prog Try.f3 false true false false) := by
  refine returnsInHanded_of_change (C := Try.checked) own started (by kernel_rfl) Try.func3
    (ChangeSpec.witness6 (enc := enc) (C := Try.checked) false ⟨#[], #[.int .i64 0, .slice none 0 0], []⟩ 8 (by kernel_rfl) (by kernel_rfl) (by kernel_rfl) (by kernel_rfl)) ?_
  intro W base args ds gs before hval0 hW hcnd _
  have hval : ∀ (j : Nat) t v, Try.f3.params[j]? = some t → args[j]? = some v → Value.okWide Try.prog W .any base t v := hval0
  have hW' := hW
  obtain ⟨p, q, hA0, hV, rfl, hfz, hnd⟩ := hW
  have hA : DataW.TrodAll enc Try.prog W 0 (fun _ => true) true Try.f3.params.toList args.toList ds p := hA0
  rw [Try.params3] at hA hval
  obtain ⟨v0, vs0, d0, ds0, p0, q0, hargs, rfl, rfl, h0, r0⟩ := trodAll_cons hA
  obtain ⟨v1, vs1, d1, ds1, p1, q1, rfl, rfl, rfl, h1, r1⟩ := trodAll_cons r0
  obtain ⟨rfl, rfl, rfl⟩ := trodAll_nil r1
  obtain rfl : args = #[v0, v1] := by cases args; simp_all
  obtain ⟨rfl, rfl⟩ := trodVars_none hV
  obtain ⟨a0, rfl, rfl, rfl, w0⟩ := open_int Try.underlying3 (hval 0 3 v0 rfl rfl) h0
  obtain ⟨a1, len1, cap1, rfl⟩ := okWide_slice Try.underlying22 (hval 1 22 v1 rfl rfl)
  have k1 := h1
  have lt1 : ∀ x ∈ p1, x.block < W.heap.size := by obtain ⟨m, hm⟩ := k1; exact DataW.trod_lt m _ _ _ hm
  have w1 : IsOps W W.heap.size a1 len1 := by
    obtain ⟨fuel, hf⟩ := h1
    simp only [Value.cells] at hf
    exact open_ops hf
  clear hA0 hval0
  refine (walk a0 a1 len1 cap1 W w0 w1).mono fun e W' ⟨he, bel⟩ => ?_
  subst he
  exact ⟨_, rfl, _, _, _, [], _, [], hW', trodAll_mk1 (shut_bool Try.underlying4 _), (trodAll_cons_mk (shut_int Try.underlying3 w0) (trodAll_cons_mk (Below.trod laidOut (by kernel_rfl) (of_decide_eq_true (by kernel_rfl)) k1 bel lt1) trodAll_mk0)), rfl, bel.frame _, fun h => by cases h⟩

theorem over : Rows.poolPlaysRow.holds Try.pinned (OpenSpec.ofChange Rows.poolPlaysSpec) :=
  OpenClaim.holds_of_wide 3 Try.f3 rfl rfl rfl rfl rfl rfl rfl ⟨rfl, rfl, rfl, rfl, rfl⟩ rfl rfl rfl rfl rfl (by kernel_rfl) Try.func3 (by kernel_rfl)
    (of_decide_eq_true (by kernel_rfl)) (by unfold Func.isWrapper; first | (rw [if_pos (by decide +kernel)]; kernel_rfl) | (rw [if_neg (by decide +kernel)]; exact ⟨rfl, rfl⟩))
    (fun os started H enc _ => lifted os started H enc)

theorem proved : Rows.PoolPlaysSaid := over
#print axioms proved
end Go.Proofs.Ytajafcbnhcncoaa.poolPlays
