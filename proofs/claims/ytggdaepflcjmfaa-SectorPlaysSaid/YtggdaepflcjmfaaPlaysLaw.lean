/-
  The law SectorPlays answers true at every input and leaves what was there as it was; no condition.
-/
import Derived.Test.YtggdaepflcjmfaaBoth
import Derived.WalkKit
import Derived.Deep.DeepCutAuto
import Derived.Deep.CutBlock
import Derived.Deep.OwnRows
import Derived.ProofKit
import Derived.OpenShut
import Derived.Deep.Slices
import Derived.Deep.Fields
import Derived.ChangeSame
import Derived.Below
import Derived.Deep.RegionHeld3
import Derived.ShutString
import Derived.ChangeOld
namespace Go.Proofs.Ytggdaepflcjmfaa.sectorPlays
open Go.ChangeShapes Go.WideShapes Go.ChangeAt Go.RowKit Go.Deep
open Go.ChangeMaps (open_string shut_string)
set_option linter.unusedVariables false

theorem own : ownKnob Try.prog.godebug = none := by kernel_rfl
theorem laidOut : laidOutB Try.prog = true := by kernel_rfl

section
variable {H : Type} {enc : TypeId × Value → H} {P : Program} {w : World} {base : Nat} {spare : Nat → Bool} {held : Bool}
/-- The elements of a slice of structs that came in, cell by cell. -/
theorem open_elems {t e : TypeId} {fs : Array Field} {fuel : Nat} {cs : List Value} {x : DataW H × List MemPlace} (ht : P.underlying t = some (.slice e)) (he : P.underlying e = some (.struct fs))
    (hone : oneCellFields P fs = true) (hC : P.cellsOf e = fs.size) (h : DataW.trod enc P w base spare held fuel t cs = some x) :
    cs = [.slice none 0 0] ∨ ∃ (a : Addr) (len cap : Nat), cs = [.slice (some a) len cap] ∧ len ≤ cap ∧ cap ≤ maxLen ∧ ∀ i, i < len → ∀ (j : Nat) (f : Field), fs[j]? = some f →
      ∃ (v : Value) (n : Nat) (y : DataW H × List MemPlace), w.cell? (a.add (i * fs.size + j)) = some v ∧ DataW.trod enc P w base spare held n f.type [v] = some y := by
  rcases open_slice ht h with ⟨h0, _⟩ | ⟨a, len, cap, m, n, D, Pl, hcs, _, hl, hm, hmm, _, hi⟩
  · exact .inl h0
  refine .inr ⟨a, len, cap, hcs, hl, hm, fun i him j f hj => ?_⟩
  have hlm : len ≤ m := by rw [hmm]; split <;> omega
  obtain ⟨cs', hc, ht'⟩ := hi i (by omega)
  rw [hC] at hc
  obtain ⟨ys, n', _, _, hlen, hyl, hf⟩ := DataW.trod_struct he ht'
  obtain ⟨_, hcl, hat⟩ := World.cells?_some hc
  obtain ⟨ho, hk⟩ := hone_of hone j f hj
  have hjl : j < fs.size := (Array.getElem?_eq_some_iff.1 hj).1
  have hjc : j < cs'.length := by omega
  have h1 := hf j f hj
  rw [ho, hk, List.drop_eq_getElem_cons hjc] at h1
  have hys : j < ys.length := by omega
  rw [List.getElem?_eq_getElem hys] at h1
  refine ⟨cs'[j], n', ys[j], ?_, h1⟩
  rw [← Go.Deep.add_add, hat j hjl, List.getElem?_eq_getElem hjc]
end

/-- A step that came in: its five cells. -/
def IsOp (w : World) (b : Nat) (g o : Nat) : Prop := ∃ kd at_ n cc sa sc x, w.cell? ⟨g, o, none⟩ = some (.int .i64 kd) ∧ w.cell? ⟨g, o + 1, none⟩ = some (.int .i64 at_) ∧ w.cell? ⟨g, o + 2, none⟩ = some (.int .i64 n) ∧ w.cell? ⟨g, o + 3, none⟩ = some (.int .u8 cc) ∧
  w.cell? ⟨g, o + 4, none⟩ = some (.slice sa (List.length x) sc) ∧ (0 ≤ cc ∧ cc < 256) ∧ BVals w (.slice sa x.length sc) x ∧ x.length ≤ maxLen ∧ (∀ u ∈ x, 0 ≤ u ∧ u < 256) ∧ ∀ u, sa = some u → x ≠ [] → u.block < b
/-- What the walk is told of the steps. -/
def IsOps (w : World) (b : Nat) (a : Option Addr) (len : Nat) : Prop := len ≤ maxLen ∧ ∃ g o, ∀ i, i < len → a = some ⟨g, o, none⟩ ∧ g < b ∧ IsOp w b g (o + i * 5)

theorem u8_of_wf {a : Int} (h : (Lit.int .u8 a).wf = true) : 0 ≤ a ∧ a < 256 := by
  simp only [Lit.wf, Bool.and_eq_true, decide_eq_true_eq] at h
  have h1 : IntKind.min .u8 = 0 := by decide +kernel
  have h2 : IntKind.max .u8 = 255 := by decide +kernel
  omega

theorem isRow_bvals {w : World} {a : Option Addr} {len cap : Nat} {zs : List Int} (h : IsRow .u8 w a len cap zs) : BVals w (.slice a len cap) (zs.take len) ∧ (zs.take len).length = len := by
  have hlen : (zs.take len).length = len := by
    rcases h with ⟨rfl, rfl, rfl, rfl⟩ | ⟨x, rfl, hl, hm, hz, _⟩
    · rfl
    · rw [List.length_take]; omega
  refine ⟨?_, hlen⟩
  by_cases h0 : len = 0
  · rcases h with ⟨rfl, rfl, rfl, rfl⟩ | ⟨x, rfl, _⟩
    · exact .inl ⟨rfl, rfl⟩
    · subst h0
      exact .inr (.inl ⟨x, cap, rfl, rfl⟩)
  · have hlc : len ≤ cap := by
      rcases h with ⟨_, h, _, _⟩ | ⟨_, _, h, _⟩ <;> omega
    rcases h.cases with h | ⟨xb, xo, rfl, _, hb, hc, _⟩
    · exact absurd h h0
    · refine .inr (.inr ⟨xb, xo, cap, by rw [hlen], by rw [hlen]; exact hlc, hb, fun k hk => ?_⟩)
      rw [hlen] at hk
      rw [hc k hk, List.getD_eq_getElem?_getD, List.getD_eq_getElem?_getD, List.getElem?_take_of_lt hk]

section
variable {H : Type} {enc : TypeId × Value → H} {w : World} {base : Nat} {held : Bool}
theorem open_int_cell {spare : Nat → Bool} {n : Nat} {v : Value} {y : DataW H × List MemPlace} (h : DataW.trod enc Try.prog w base spare held n 3 [v] = some y) : ∃ k : Int, v = .int .i64 k := by
  obtain ⟨k, hk, _⟩ := DataW.trod_int Try.underlying3 h
  exact ⟨k, by simpa using hk⟩
theorem open_byte_cell {spare : Nat → Bool} {n : Nat} {v : Value} {y : DataW H × List MemPlace} (h : DataW.trod enc Try.prog w base spare held n 5 [v] = some y) : ∃ k : Int, v = .int .u8 k ∧ 0 ≤ k ∧ k < 256 := by
  obtain ⟨k, hk, _, hw⟩ := DataW.trod_int Try.underlying5 h
  exact ⟨k, by simpa using hk, u8_of_wf hw⟩
theorem open_bytes_cell {n : Nat} {v : Value} {y : DataW H × List MemPlace} (h : DataW.trod enc Try.prog w base (fun _ => true) held n 27 [v] = some y) : ∃ a len cap zs, v = .slice a len cap ∧ len ≤ maxLen ∧ IsRow .u8 w a len cap zs ∧ ∀ u ∈ zs, 0 ≤ u ∧ u < 256 := by
  rcases open_ints Try.underlying27 Try.underlying5 (by kernel_rfl) h with ⟨hcs, _⟩ | ⟨x, l, c, zs, hcs, _, hl, hm, hz, _, hcell, hwz⟩
  · exact ⟨none, 0, 0, [], by simpa using hcs, by unfold maxLen; omega, .inl ⟨rfl, rfl, rfl, rfl⟩, fun u hu => by simp at hu⟩
  · exact ⟨some x, l, c, zs, by simpa using hcs, by omega, .inr ⟨x, rfl, hl, hm, by simpa using hz, hcell, hwz⟩, fun u hu => u8_of_wf (hwz u hu)⟩
theorem open_ops {fuel : Nat} {a : Option Addr} {len cap : Nat} {x : DataW H × List MemPlace} (h : DataW.trod enc Try.prog w base (fun _ => true) held fuel 34 [.slice a len cap] = some x) : IsOps w w.heap.size a len := by
  rcases open_elems Try.underlying34 Try.underlying38 (by kernel_rfl) (by kernel_rfl) h with h0 | ⟨ad, l, c, hcs, hl, hm, hf⟩
  · simp at h0
    obtain ⟨rfl, rfl, rfl⟩ := h0
    exact ⟨by unfold maxLen; omega, 0, 0, fun i hi => by omega⟩
  · simp at hcs
    obtain ⟨rfl, rfl, rfl⟩ := hcs
    refine ⟨by omega, ad.block, ad.off, fun i hi => ?_⟩
    obtain ⟨v0, n0, y0, c0, t0⟩ := hf i hi 0 _ rfl
    obtain ⟨v1, n1, y1, c1, t1⟩ := hf i hi 1 _ rfl
    obtain ⟨v2, n2, y2, c2, t2⟩ := hf i hi 2 _ rfl
    obtain ⟨v3, n3, y3, c3, t3⟩ := hf i hi 3 _ rfl
    obtain ⟨v4, n4, y4, c4, t4⟩ := hf i hi 4 _ rfl
    obtain ⟨kd, rfl⟩ := open_int_cell t0
    obtain ⟨k, rfl⟩ := open_int_cell t1
    obtain ⟨n, rfl⟩ := open_int_cell t2
    obtain ⟨cc, rfl, hcc0, hcc1⟩ := open_byte_cell t3
    obtain ⟨sa, sl, sc, zs, rfl, hsl, hrow, hrg⟩ := open_bytes_cell t4
    have hlt := World.block_lt_of_cell? _ _ c0
    obtain ⟨_, _, _, c00, _⟩ := hf 0 (by omega) 0 _ rfl
    have hsp := World.cell?_spot c00
    obtain ⟨g, o, s⟩ := ad
    have hs : s = none := by simpa [Addr.add] using hsp
    subst hs
    have ha : ∀ j, (⟨g, o, none⟩ : Addr).add j = ⟨g, o + j, none⟩ := fun j => by unfold Addr.add; split <;> simp_all
    simp only [ha, List.size_toArray, List.length_cons, List.length_nil] at c0 c1 c2 c3 c4
    obtain ⟨hb, hbl⟩ := isRow_bvals hrow
    refine ⟨rfl, by simpa [ha] using hlt, kd, k, n, cc, sa, sc, zs.take sl, by simpa [Nat.add_assoc] using c0, by simpa [Nat.add_assoc] using c1, by simpa [Nat.add_assoc] using c2, by simpa [Nat.add_assoc] using c3, by rw [hbl]; simpa [Nat.add_assoc] using c4, ⟨hcc0, hcc1⟩, by rw [hbl]; exact hb, by omega, fun u hu => hrg u (List.mem_of_mem_take hu), fun u hu hne => ?_⟩
    rcases hb with ⟨_, h0⟩ | ⟨_, _, _, h0⟩ | ⟨g', o', c', hv, _, hg, _⟩
    · exact absurd h0 hne
    · exact absurd h0 hne
    · simp at hv
      rw [hv.1] at hu
      cases hu
      exact hg
end
theorem bv_below {w w' : World} {b : Nat} {sa : Option Addr} {sc : Nat} {x : List Int} (h : BVals w (.slice sa x.length sc) x) (hb : Below b w w') (hu : ∀ u, sa = some u → x ≠ [] → u.block < b) : BVals w' (.slice sa x.length sc) x := by
  by_cases hne : x = []
  · subst hne
    rcases h with h | h | ⟨g', o', c', hv, hc', _, _⟩
    · exact .inl h
    · exact .inr (.inl h)
    · simp at hv
      rw [hv.1]
      exact .inr (.inl ⟨_, _, rfl, rfl⟩)
  · exact h.keep hb.size fun g' hg' _ => hb.block g' (by
      cases sa with
      | none => simp [Value.ownBlock] at hg'
      | some u =>
        have := hu u rfl hne
        simp [Value.ownBlock] at hg'
        omega)
theorem IsOp.below {w w' : World} {b g o : Nat} (h : IsOp w b g o) (hg : g < b) (hb : Below b w w') : IsOp w' b g o := by
  obtain ⟨kd, k, n, cc, sa, sc, x, c0, c1, c2, c3, c4, hcc, hx, hl, hr, hu⟩ := h
  exact ⟨kd, k, n, cc, sa, sc, x, (hb.cell (p := ⟨g, o, none⟩) hg).trans c0, (hb.cell (p := ⟨g, o + 1, none⟩) hg).trans c1, (hb.cell (p := ⟨g, o + 2, none⟩) hg).trans c2, (hb.cell (p := ⟨g, o + 3, none⟩) hg).trans c3, (hb.cell (p := ⟨g, o + 4, none⟩) hg).trans c4, hcc, bv_below hx hb hu, hl, hr, hu⟩

/-- At each round's head. -/
def Rel1 (w : World) (b e c h n len : Nat) (v : Value) (wr : World) : Prop :=
  ∃ (k : Nat) (s : St), k ≤ len ∧ v = .int .i64 (k : Int) ∧ J w wr b e c h s s ∧ 0 ≤ s.R ∧ s.R ≤ k ∧ s.L.length = n

/-- The step's copy lies in block g. -/
def Cop (wr : World) (e c h g : Nat) (kd at_ n cc : Int) (raw : Value) : Prop := wr.heap[g]? = some (.cells #[.int .i64 kd, .int .i64 at_, .int .i64 n, .int .u8 cc, raw] 38 (0, 0)) ∧ e ≤ g ∧ g ≠ c ∧ g ≠ h

/-- Behind the turn of At. -/
def RelA (w wr : World) (b e c h : Nat) (s : St) (kd nn cc : Int) (raw : Value) (v9 : Value) (wx : World) : Prop :=
  ∃ (g : Nat) (at_ : Int), v9 = .pointer (some ⟨g, 0, none⟩) ∧ Cop wx e c h g kd at_ nn cc raw ∧ J w wx b e c h s s ∧ Below wr.heap.size wr wx
/-- Behind the switch. -/
def RelB (w : World) (b e c h n k : Nat) (g : Nat) (kd at_ nn cc : Int) (raw : Value) (v9 : Value) (wx : World) : Prop :=
  ∃ (s : St), v9 = .pointer (some ⟨g, 0, none⟩) ∧ Cop wx e c h g kd at_ nn cc raw ∧ J w wx b e c h s s ∧ 0 ≤ s.R ∧ s.R ≤ k + 1 ∧ s.L.length = n

theorem Cop.new {w wr : World} {b e c h : Nat} {s : St} (j : J w wr b e c h s s) (kd at_ n cc : Int) (raw : Value) :
    Cop (wr.alloc (.cells #[.int .i64 kd, .int .i64 at_, .int .i64 n, .int .u8 cc, raw] 38)) e c h wr.heap.size kd at_ n cc raw ∧ J w (wr.alloc (.cells #[.int .i64 kd, .int .i64 at_, .int .i64 n, .int .u8 cc, raw] 38)) b e c h s s := by
  have h1 := j.1.1.lt.2
  have h2 := j.2.1.lt
  exact ⟨⟨heap_alloc_new wr _, h1, by omega, by omega⟩, j.below ((Below.refl _ _).alloc (Nat.le_refl _) _)⟩
theorem Cop.keep {wr wx : World} {e c h g : Nat} {kd at_ n cc : Int} {raw : Value} (hc : Cop wr e c h g kd at_ n cc raw) (hk : wx.heap[g]? = wr.heap[g]?) : Cop wx e c h g kd at_ n cc raw := ⟨hk.trans hc.1, hc.2⟩
theorem Cop.kept {b : Nat} {wr wx : World} {e c h g : Nat} {kd at_ n cc : Int} {raw : Value} (hc : Cop wr e c h g kd at_ n cc raw) (hk : Kept b e wr wx) : Cop wx e c h g kd at_ n cc raw := hc.keep (hk.block g (lt_of_block hc.1) (.inr hc.2.1))
theorem Cop.rkept {wr wx : World} {e c h g : Nat} {kd at_ n cc : Int} {raw : Value} (hc : Cop wr e c h g kd at_ n cc raw) (hk : RKept c h wr wx) : Cop wx e c h g kd at_ n cc raw := hc.keep (hk.block g (lt_of_block hc.1) hc.2.2.1 hc.2.2.2)
theorem Cop.below {wr wx : World} {e c h g : Nat} {kd at_ n cc : Int} {raw : Value} (hc : Cop wr e c h g kd at_ n cc raw) (hk : Below wr.heap.size wr wx) : Cop wx e c h g kd at_ n cc raw := hc.keep (hk.block g (lt_of_block hc.1))
theorem Cop.cells {wr : World} {e c h g : Nat} {kd at_ n cc : Int} {raw : Value} (hc : Cop wr e c h g kd at_ n cc raw) : wr.cell? ⟨g, 0, none⟩ = some (.int .i64 kd) ∧ wr.cell? ⟨g, 1, none⟩ = some (.int .i64 at_) ∧ wr.cell? ⟨g, 2, none⟩ = some (.int .i64 n) ∧ wr.cell? ⟨g, 3, none⟩ = some (.int .u8 cc) ∧ wr.cell? ⟨g, 4, none⟩ = some raw := by
  have h := hc.1
  exact ⟨by simp [World.cell?, h], by simp [World.cell?, h], by simp [World.cell?, h], by simp [World.cell?, h], by simp [World.cell?, h]⟩

/-- At each round's head of the last loop. -/
def Rel3 (w : World) (b e c h n : Nat) (s : St) (v : Value) (wr : World) : Prop := ∃ i : Nat, i ≤ n ∧ v = .int .i64 (i : Int) ∧ J w wr b e c h s s
/-- What is handed to Write. -/
def SrcOk (b e : Nat) (w3 : World) (a : Option Addr) (cc : Nat) (x : List Int) : Prop := BVals w3 (.slice a x.length cc) x ∧ (∀ u ∈ x, 0 ≤ u ∧ u < 256) ∧ (x ≠ [] → ∀ u, a = some u → u.block < b ∨ e ≤ u.block) ∧ x.length ≤ maxLen
theorem SrcOk.kept {b e : Nat} {w3 w4 : World} {a : Option Addr} {cc : Nat} {x : List Int} (h : SrcOk b e w3 a cc x) (hk : Kept b e w3 w4) : SrcOk b e w4 a cc x :=
  ⟨BVals.kept h.1 hk fun hne u hu => by
    cases a with
    | none => simp [Value.ownBlock] at hu
    | some ua =>
      simp [Value.ownBlock] at hu
      subst hu
      exact h.2.2.1 hne ua rfl, h.2⟩
theorem SrcOk.rkept {b e c h : Nat} {w3 w4 : World} {a : Option Addr} {cc : Nat} {x : List Int} (hs : SrcOk b e w3 a cc x) (hk : RKept c h w3 w4) (hc : x ≠ [] → ∀ u, a = some u → u.block ≠ c ∧ u.block ≠ h) : SrcOk b e w4 a cc x := by
  refine ⟨?_, hs.2⟩
  rcases hs.1 with h1 | h1 | ⟨g', o', c', hv, h2, h3, h4⟩
  · exact .inl h1
  · exact .inr (.inl h1)
  · by_cases hne : x = []
    · subst hne
      simp at hv
      rw [hv.1]
      exact .inr (.inl ⟨_, _, rfl, rfl⟩)
    · simp at hv
      obtain ⟨rfl, rfl⟩ := hv
      have := hc hne _ rfl
      exact .inr (.inr ⟨g', o', cc, rfl, h2, Nat.lt_of_lt_of_le h3 hk.size, fun k hk' => (World.cell?_of_block (hk.block g' h3 this.1 this.2)).trans (h4 k hk')⟩)

set_option maxRecDepth 100000 in
set_option maxHeartbeats 8000000 in
theorem walk (a0 : Int) (a1 : Option Addr) (len1 cap1 : Nat) (w : World) (w0 : (Lit.int .i64 a0).wf = true) (w1 : IsOps w w.heap.size a1 len1) :
    Calls Try.prog 4 #[.int .i64 a0, .slice a1 len1 cap1] w fun e w' => e = .returned (.bool true) ∧ Below w.heap.size w w' := by
  have k0 : 0 ≤ IntKind.u64.wrap a0 := wrap_nonneg _
  have hmax := w1.1
  unfold maxLen at hmax
  obtain ⟨xb, xo, hX⟩ := w1.2
  have HX := Lib.hid hX
  clear w0 w1 hX
  obtain ⟨n, hn, hn1, hn20⟩ : ∃ n : Nat, 1 + IntKind.u64.wrap a0 % 20 = (n : Int) ∧ 1 ≤ n ∧ n ≤ 20 := ⟨(1 + IntKind.u64.wrap a0 % 20).toNat, by omega, by omega, by omega⟩
  go_enter Try.func4, Try.ntmps4
  go_wp2_with fail
  clear hn k0
  refine (d_new (n : Int) w (by omega) (by omega)).mono ?_
  rintro y w1 ⟨rfl, e, r1⟩
  rw [Int.toNat_natCast] at r1
  have R1 := Lib.hid r1
  clear r1
  go_wp2_with fail
  refine (rnew_some n w1 hn1 (by omega)).mono ?_
  rintro y w2 ⟨c, h, rfl, hc, hh, rd2, b2⟩
  have J2 := Lib.hid (show J w w2 w.heap.size e c h { dn := false, wt := false, by_ := 0, R := 0, L := List.replicate n (full 0) } { dn := false, wt := false, by_ := 0, R := 0, L := List.replicate n (full 0) } from ⟨R1.out.below b2, rd2, Nat.le_trans R1.out.1.lt.2 hc, Nat.le_trans R1.out.1.lt.2 hh⟩)
  clear rd2 b2 R1 hc hh
  generalize hb : w.heap.size = b at *
  have HB := (show Hid (w.heap.size = b) from hb)
  clear hb
  by_cases h60 : 60 < len1
  · go_wp2_with fail
    refine (j_told J2.out).mono ?_
    rintro y w3 ⟨rfl, j3⟩
    have J3 := Lib.hid j3
    clear j3 J2
    go_wp2_with fail
    go_ret
    refine ⟨rfl, ?_⟩
    rw [HB.out]
    exact J3.out.1.2.1
  · have h60' : len1 ≤ 60 := by omega
    clear h60
    have RL := Lib.hid (show Rel1 w b e c h n len1 (.int .i64 0) w2 from ⟨0, _, Nat.zero_le _, rfl, J2.out, by simp, by simp, by simp⟩)
    clear J2
    go_wp2_with fail
    go_loopw [8] (fun v wr => Rel1 w b e c h n len1 v wr) (fun i _ => len1 - (intOf i).toNat)
    case atStart => exact RL.out
    case round =>
      clear RL
      obtain ⟨k, s, hk, rfl, hj, hR0, hRk, hLn⟩ := hrel
      have HJ := Lib.hid hj
      have HLN := Lib.hid hLn
      clear hLn
      by_cases hlt : k < len1
      · obtain ⟨ha, hxb, hop⟩ := HX.out k hlt
        subst ha
        obtain ⟨kd, at_, nn, cc, sa, sc, x, c0, c1, c2, c3, c4, hcc, hbv, hxl, hxr, hsa⟩ := (show IsOp w b xb (xo + k * 5) from hop).below hxb hj.1.2.1
        have HBV := Lib.hid hbv
        have HSA := Lib.hid (And.intro hsa hxr)
        clear hop hbv hsa hxr hj
        unfold maxLen at hxl
        have hw0 : 0 ≤ IntKind.u64.wrap at_ := wrap_nonneg _
        have HW0 := Lib.hid hw0
        clear hw0
        go_upto_if 55 with fail
        go_cut [9] (fun v9 wx => RelA w wr b e c h s kd nn cc (.slice sa x.length sc) v9 wx)
        case first =>
          as_aux_lemma =>
            by_cases h5 : k % 5 < 4
            · have hm5 : (k : Int) % 5 < 4 := by omega
              have hw0 := HW0.out
              have hA := Lib.hid (Cop.new HJ.out kd (wrap64 (IntKind.u64.wrap at_ % (n : Int))) nn cc (.slice sa x.length sc))
              go_wp2_with fail
              go_meet
              exact ⟨_, _, rfl, hA.out.1, hA.out.2, (Below.refl _ _).alloc (Nat.le_refl _) _⟩
            · have hm5 : 4 ≤ (k : Int) % 5 := by omega
              have hA := Lib.hid (Cop.new HJ.out kd at_ nn cc (.slice sa x.length sc))
              go_wp2_with fail
              go_meet
              exact ⟨_, _, rfl, hA.out.1, hA.out.2, (Below.refl _ _).alloc (Nat.le_refl _) _⟩
        case rest =>
          obtain ⟨g, at2, rfl, hcop, hj2, hbel2⟩ := hcut
          have HCOP := Lib.hid hcop
          have HJ2 := Lib.hid hj2
          have HBV2 := Lib.hid (HBV.out.below hbel2)
          obtain ⟨q0, q1, q2, q3, q4⟩ := hcop.cells
          clear hcop hj2 hbel2 HJ HBV c0 c1 c2 c3 c4
          obtain ⟨q, hq⟩ : ∃ q, bits BinOp.and IntKind.i64 kd 7 = q := ⟨_, rfl⟩
          go_upto_block 2 with fail
          go_cut [9] (fun v9 wx => RelB w b e c h n k g kd at2 nn cc (.slice sa x.length sc) v9 wx)
          case first =>
            as_aux_lemma =>
              by_cases hq4 : q < 4
              · go_wp2_with fail
                have hltc := HJ2.out.2.1.lt
                refine (filled_any cc _).mono ?_
                rintro y w3 ⟨rfl, g3, b3⟩
                have J3 := Lib.hid (HJ2.out.below b3)
                have C3 := Lib.hid (HCOP.out.below b3)
                have SF := Lib.hid (show SrcOk b e w3 (some ⟨wc.heap.size, 0, none⟩) 64 (full cc) ∧ (full cc ≠ [] → ∀ u : Addr, some ⟨wc.heap.size, 0, none⟩ = some u → u.block ≠ c ∧ u.block ≠ h) from
                  ⟨⟨by have := g3.bvals 64 (by simp [full]); rwa [full_length] at this ⊢, (Sec.full hcc.1 hcc.2).2, fun _ u hu => by cases hu; exact .inr HJ2.out.1.1.lt.2, by rw [full_length]; unfold maxLen; omega⟩, fun _ u hu => by cases hu; exact ⟨by show wc.heap.size ≠ c; omega, by show wc.heap.size ≠ h; omega⟩⟩)
                have V3 := Lib.hid (HBV2.out.below b3)
                have q34 := C3.out.cells.2.2.2.2
                have SR := Lib.hid (show SrcOk b e w3 sa sc x ∧ (x ≠ [] → ∀ u, sa = some u → u.block ≠ c ∧ u.block ≠ h) from
                  ⟨⟨V3.out, HSA.out.2, fun hne u hu => .inl (HSA.out.1 u hu hne), by unfold maxLen; omega⟩, fun hne u hu => by have h1 := HSA.out.1 u hu hne; have h2 := HJ2.out.1.1.lt.1; have h3 := HJ2.out.2.2; omega⟩)
                clear g3 b3 hltc
                go_upto_if 75 with fail
                go_cut [11] (fun v11 wx => wx = w3 ∧ ∃ a2 c2 x2, v11 = .slice a2 (List.length x2) c2 ∧ SrcOk b e w3 a2 c2 x2 ∧ (x2 ≠ [] → ∀ u, a2 = some u → u.block ≠ c ∧ u.block ≠ h))
                case first =>
                  by_cases h6 : k % 6 = 5
                  · have hm6 : (k : Int) % 6 = 5 := by omega
                    go_wp2_with fail
                    go_meet
                    exact ⟨rfl, _, _, x, rfl, SR.out⟩
                  · have hm6 : ((k : Int) % 6 == 5) = false := beq_eq_false_iff_ne.2 (by omega)
                    go_wp2_with fail
                    go_meet
                    exact ⟨rfl, _, _, full cc, by rw [full_length], SF.out⟩
                case rest =>
                  as_aux_lemma =>
                    obtain ⟨rfl, a2, c2, x2, rfl, hsrc⟩ := hcut
                    have HS := Lib.hid hsrc
                    have hxl2 := hsrc.1.2.2.2
                    unfold maxLen at hxl2
                    clear hsrc SF SR V3 q34
                    by_cases h100 : 100 < x2.length
                    · go_wp2_with fail
                      refine (j_told J3.out).mono ?_
                      rintro y w4 ⟨rfl, j4⟩
                      have J4 := Lib.hid j4
                      clear j4
                      go_wp2_with fail
                      go_ret
                      refine ⟨rfl, ?_⟩
                      rw [HB.out]
                      exact J4.out.1.2.1
                    · have h100' : x2.length ≤ 100 := by omega
                      clear h100
                      have q1d : wc.drew.cell? ⟨g, 1, none⟩ = some (.int .i64 at2) := C3.out.cells.2.1
                      have JD := Lib.hid (J3.out.below (Below.refl _ _).drew)
                      have CD := Lib.hid (C3.out.below (Below.refl _ _).drew)
                      have SD := Lib.hid (show SrcOk b e wc.drew a2 c2 x2 from ⟨HS.out.1.1.below (Below.refl _ _).drew, HS.out.1.2⟩)
                      have kd18 := bvals_str SD.out.1
                      obtain ⟨X, hX⟩ : ∃ X, strOfNums x2 = X := ⟨_, rfl⟩
                      have HXX := Lib.hid hX
                      rw [hX] at kd18
                      have HSV := Lib.hid (show sv x2 = .string X from by rw [← hX]; rfl)
                      clear hX
                      have HW18 := Lib.hid (fun (w4 : World) (j4 : J w w4 b e c h (wrS s at2 x2) s) => (HSV.out ▸ j_rwrite at2 x2 j4 hR0 (by omega) SD.out.2.1 : Calls Try.prog 18 #[.pointer (some ⟨c, 0, none⟩), .int .i64 at2, .string X] w4 fun y w' => y = .returned (.int .i64 (wrC s at2 x2)) ∧ J w w' b e c h (wrS s at2 x2) (wrS s at2 x2) ∧ RKept c h w4 w'))
                      have hlx := Lib.hid (show (x2.length : Int) ≤ 100 by omega)
                      go_wp2_with fail
                      go_region_held3 (fun w' => w'.cell? ⟨g, 1, none⟩ = some (.int .i64 at2) ∧ (convert 27 9 (.slice a2 x2.length c2)).run Try.prog w' = .ok (.string X) w') (first | exact ⟨q1d, kd18⟩ | exact ⟨q14, kd4⟩ | exact ⟨q15, kd5⟩) (first
                          | (go_at_call 10; refine (j_write at2 a2 c2 x2 JD.out hR0 (by omega) SD.out.1 SD.out.2.2.1).mono ?_; rintro y w4 ⟨rfl, j4, k4⟩; have J4 := Lib.hid j4; have C4 := Lib.hid (CD.out.kept k4); have S4 := Lib.hid (SD.out.kept k4); have q14 := C4.out.cells.2.1; have kd4 := bvals_str S4.out.1; rw [HXX.out] at kd4; clear j4 k4)
                          | (go_at_call 18; refine (HW18.out _ J4.out).mono ?_; rintro y w5 ⟨rfl, j5, k5⟩; have C5 := Lib.hid (C4.out.rkept k5); have q15 := C5.out.cells.2.1; have kd5 := bvals_str (S4.out.rkept k5 HS.out.2).1; rw [HXX.out] at kd5; have HREL := Lib.hid (show RelB w b e c h n k g kd at2 nn cc (.slice sa x.length sc) (.pointer (some ⟨g, 0, none⟩)) w5 from ⟨wrS s at2 x2, rfl, C5.out, j5, by have := wrS_R s at2 x2; omega, by have := wrS_R s at2 x2; omega, by rw [(wrS_R s at2 x2).2.2]; exact HLN.out⟩); clear j5 k5))
                      all_goals
                        generalize wrC s at2 x2 = wcode at *
                        go_wp2_with fail
                        go_meet
                        exact HREL.out
              · have hq4' : 4 ≤ q := by omega
                clear hq4
                by_cases hq5 : q = 5
                · subst hq5
                  go_wp2_with fail
                  refine (j_tear nn HJ2.out).mono ?_
                  rintro y w4 ⟨rfl, j4, k4⟩
                  have J4 := Lib.hid j4
                  have C4 := Lib.hid (HCOP.out.kept k4)
                  obtain ⟨z0, z1, z2, z3, z4⟩ := C4.out.cells
                  clear j4 k4
                  go_wp2_with fail
                  refine (j_rtear nn J4.out).mono ?_
                  rintro y w5 ⟨rfl, j5, k5⟩
                  have HREL := Lib.hid (show RelB w b e c h n k g kd at2 nn cc (.slice sa x.length sc) (.pointer (some ⟨g, 0, none⟩)) w5 from ⟨teS s nn, rfl, C4.out.rkept k5, j5, hR0, by show s.R ≤ _; omega, HLN.out⟩)
                  clear j5 k5 z0 z1 z2 z3 z4
                  go_wp2_with fail
                  go_meet
                  exact HREL.out
                · have hq5' : (q == 5) = false := beq_eq_false_iff_ne.2 hq5
                  clear hq5
                  by_cases hq6 : q = 6
                  · subst hq6
                    go_wp2_with fail
                    refine (j_up HJ2.out).mono ?_
                    rintro y w4 ⟨rfl, j4, k4⟩
                    have J4 := Lib.hid j4
                    have C4 := Lib.hid (HCOP.out.kept k4)
                    obtain ⟨z0, z1, z2, z3, z4⟩ := C4.out.cells
                    clear j4 k4
                    go_wp2_with fail
                    refine (j_rup J4.out).mono ?_
                    rintro y w5 ⟨rfl, j5, k5⟩
                    have HREL := Lib.hid (show RelB w b e c h n k g kd at2 nn cc (.slice sa x.length sc) (.pointer (some ⟨g, 0, none⟩)) w5 from ⟨upS s, rfl, C4.out.rkept k5, j5, hR0, by show s.R ≤ _; omega, HLN.out⟩)
                    clear j5 k5 z0 z1 z2 z3 z4
                    go_wp2_with fail
                    go_meet
                    exact HREL.out
                  · have hq6' : (q == 6) = false := beq_eq_false_iff_ne.2 hq6
                    clear hq6
                    by_cases hq7 : q = 7
                    · subst hq7
                      have p1 : wc.drew.cell? ⟨g, 1, none⟩ = some (.int .i64 at2) := q1
                      have p2 : wc.drew.cell? ⟨g, 2, none⟩ = some (.int .i64 nn) := q2
                      have p3 : wc.drew.cell? ⟨g, 3, none⟩ = some (.int .u8 cc) := q3
                      have JD := Lib.hid (HJ2.out.below (Below.refl _ _).drew)
                      have CD := Lib.hid (HCOP.out.below (Below.refl _ _).drew)
                      go_wp2_with fail
                      go_region_held3 (fun w' => w'.cell? ⟨g, 1, none⟩ = some (.int .i64 at2) ∧ w'.cell? ⟨g, 2, none⟩ = some (.int .i64 nn) ∧ w'.cell? ⟨g, 3, none⟩ = some (.int .u8 cc)) (first | exact ⟨p1, p2, p3⟩ | exact ⟨C4.out.cells.2.1, C4.out.cells.2.2.1, C4.out.cells.2.2.2.1⟩ | exact ⟨C5.out.cells.2.1, C5.out.cells.2.2.1, C5.out.cells.2.2.2.1⟩) (first
                          | (go_at_call 21; refine (j_spoil at2 nn cc JD.out).mono ?_; rintro y w4 ⟨rfl, j4, k4⟩; have J4 := Lib.hid j4; have C4 := Lib.hid (CD.out.kept k4); clear j4 k4)
                          | (go_at_call 22; refine (j_rspoil at2 nn cc J4.out hcc.1 hcc.2).mono ?_; rintro y w5 ⟨rfl, j5, k5⟩; have C5 := Lib.hid (C4.out.rkept k5); have HREL := Lib.hid (show RelB w b e c h n k g kd at2 nn cc (.slice sa x.length sc) (.pointer (some ⟨g, 0, none⟩)) w5 from ⟨spS s at2 nn cc, rfl, C5.out, j5, by have := spS_R s at2 nn cc; omega, by have := spS_R s at2 nn cc; omega, by rw [(spS_R s at2 nn cc).2]; exact HLN.out⟩); clear j5 k5))
                      all_goals
                        generalize spC s at2 nn = scode at *
                        go_wp2_with fail
                        go_meet
                        exact HREL.out
                    · have hq7' : (q == 7) = false := beq_eq_false_iff_ne.2 hq7
                      clear hq7
                      have HREL := Lib.hid (show RelB w b e c h n k g kd at2 nn cc (.slice sa x.length sc) (.pointer (some ⟨g, 0, none⟩)) wc from ⟨s, rfl, HCOP.out, HJ2.out, hR0, by omega, HLN.out⟩)
                      go_wp2_with fail
                      go_meet
                      exact HREL.out
          case rest =>
            as_aux_lemma =>
              clear hq q0 q1 q2 q3 q4 HCOP HJ2 HBV2 HW0 HSA hR0 hRk
              obtain ⟨s2, rfl, hcop2, hj2, hr0, hr1, hl2⟩ := hcut
              have HC2 := Lib.hid hcop2
              have HJ3 := Lib.hid hj2
              have HL2 := Lib.hid hl2
              have q1 := hcop2.cells.2.1
              clear hcop2 hj2 hl2
              by_cases hin : 0 ≤ at2 ∧ at2 < (n : Int)
              · obtain ⟨i, rfl⟩ := Int.eq_ofNat_of_zero_le hin.1
                have hi : i < n := by omega
                have hi' : (i : Int) < (n : Int) := by omega
                clear hin
                go_wp2_with fail
                refine (j_read i HJ3.out (by rw [HL2.out]; exact hi)).mono ?_
                rintro y w4 ⟨g2, k2, rfl, j4, g4, b4⟩
                have J4 := Lib.hid j4
                have C4 := Lib.hid (HC2.out.below b4)
                have q14 := C4.out.cells.2.1
                obtain ⟨u0, u1, _, _, u4, _⟩ := j4.2.1.cells
                have u5 := (j4.2.1.at_ (i := i) (by rw [HL2.out]; exact hi)).1
                rw [HL2.out] at u0
                have kz : ∀ m, (convert 27 9 (.slice (some ⟨g2, 0, none⟩) 64 k2)).run Try.prog (w4.drewN m) = .ok (.string (strOfNums (s2.L.getD i []))) (w4.drewN m) := fun m => bvals_str (g4.bvals.below (belowDrewN (Below.refl _ _) m))
                have HD := Lib.hid (show ∀ m, Calls Try.prog 15 #[.pointer (some ⟨b, 0, none⟩)] (w4.drewN m) fun x w' => x = .returned (.bool s2.dn) ∧ w' = w4.drewN m from fun m => down_any b e _ _ _ _ _ (J4.out.drewN m).1.1)
                have HWr := Lib.hid (show ∀ m, Calls Try.prog 16 #[.pointer (some ⟨b, 0, none⟩)] (w4.drewN m) fun x w' => x = .returned (.int .i64 s2.R) ∧ w' = w4.drewN m from fun m => writes_any b e _ _ _ _ _ (J4.out.drewN m).1.1)
                clear j4 g4 b4 q1
                generalize strOfNums (s2.L.getD i []) = X at *
                obtain ⟨dn, hdn⟩ : ∃ dn, s2.dn = dn := ⟨_, rfl⟩
                obtain ⟨R, hR⟩ : ∃ R, s2.R = R := ⟨_, rfl⟩
                rw [hdn] at HD u1
                rw [hR] at HWr u4
                have HRR := Lib.hid hR
                clear hdn hR
                go_wp2_with fail
                go_quiet ((first | (go_at_call 15; exact Calls.quiet_of_same (HD.out _)) | (go_at_call 16; exact Calls.quiet_of_same (HWr.out _))))
                go_wp2_with fail
                go_roundw
                case rel =>
                  first
                    | exact ⟨k + 1, s2, by omega, by go_num, J4.out.drewN _, by omega, by omega, HL2.out⟩
                    | ((repeat apply Exists.intro); exact ⟨⟨k + 1, s2, by omega, by go_num, J4.out.drewN _, by omega, by omega, HL2.out⟩, rfl⟩)
                case measure => simp [intOf]; omega
              · have hout : at2 < 0 ∨ 0 ≤ at2 ∧ (n : Int) ≤ at2 := by omega
                clear hin
                obtain ⟨u0, u1, _, _, u4, _⟩ := HJ3.out.2.1.cells
                have HD := Lib.hid (show ∀ m, Calls Try.prog 15 #[.pointer (some ⟨b, 0, none⟩)] (wc.drewN m) fun x w' => x = .returned (.bool s2.dn) ∧ w' = wc.drewN m from fun m => down_any b e _ _ _ _ _ (HJ3.out.drewN m).1.1)
                have HWr := Lib.hid (show ∀ m, Calls Try.prog 16 #[.pointer (some ⟨b, 0, none⟩)] (wc.drewN m) fun x w' => x = .returned (.int .i64 s2.R) ∧ w' = wc.drewN m from fun m => writes_any b e _ _ _ _ _ (HJ3.out.drewN m).1.1)
                obtain ⟨dn, hdn⟩ : ∃ dn, s2.dn = dn := ⟨_, rfl⟩
                obtain ⟨R, hR⟩ : ∃ R, s2.R = R := ⟨_, rfl⟩
                rw [hdn] at HD u1
                rw [hR] at HWr u4
                have HRR := Lib.hid hR
                clear hdn hR
                rcases hout with ho | ⟨ho, ho2⟩
                · have hd1 : decide (0 ≤ at2) = false := decide_eq_false (by omega)
                  go_wp2_with fail
                  refine (j_read_bad at2 HJ3.out (by rw [HL2.out]; omega)).mono ?_
                  rintro y w4 ⟨rfl, rfl⟩
                  go_wp2_with fail
                  go_quiet ((first | (go_at_call 15; exact Calls.quiet_of_same (HD.out _)) | (go_at_call 16; exact Calls.quiet_of_same (HWr.out _))))
                  go_wp2_with fail
                  go_roundw
                  case rel =>
                    first
                      | exact ⟨k + 1, s2, by omega, by go_num, HJ3.out.drewN _, by omega, by omega, HL2.out⟩
                      | ((repeat apply Exists.intro); exact ⟨⟨k + 1, s2, by omega, by go_num, HJ3.out.drewN _, by omega, by omega, HL2.out⟩, rfl⟩)
                  case measure => simp [intOf]; omega
                · have hd1 : decide (0 ≤ at2) = true := decide_eq_true ho
                  have hd2 : decide (at2 < (n : Int)) = false := decide_eq_false (by omega)
                  go_wp2_with fail
                  refine (j_read_bad at2 HJ3.out (by rw [HL2.out]; omega)).mono ?_
                  rintro y w4 ⟨rfl, rfl⟩
                  go_wp2_with fail
                  go_quiet ((first | (go_at_call 15; exact Calls.quiet_of_same (HD.out _)) | (go_at_call 16; exact Calls.quiet_of_same (HWr.out _))))
                  go_wp2_with fail
                  go_roundw
                  case rel =>
                    first
                      | exact ⟨k + 1, s2, by omega, by go_num, HJ3.out.drewN _, by omega, by omega, HL2.out⟩
                      | ((repeat apply Exists.intro); exact ⟨⟨k + 1, s2, by omega, by go_num, HJ3.out.drewN _, by omega, by omega, HL2.out⟩, rfl⟩)
                  case measure => simp [intOf]; omega
      · have R3 := Lib.hid (show Rel3 w b e c h n s (.int .i64 0) wr from ⟨0, Nat.zero_le _, rfl, hj⟩)
        clear HJ hj
        go_wp2_with fail
        go_loopw [15] (fun v wr => Rel3 w b e c h n s v wr) (fun v _ => n - (intOf v).toNat)
        case atStart => exact R3.out
        case round =>
          as_aux_lemma =>
            clear R3
            obtain ⟨i, hi, rfl, hj⟩ := hrel
            have HJ := Lib.hid hj
            clear hj
            by_cases hlt2 : i < n
            · have hi' : (i : Int) < (n : Int) := by omega
              go_wp2_with fail
              refine (j_read i HJ.out (by rw [HLN.out]; exact hlt2)).mono ?_
              rintro y w4 ⟨g2, k2, rfl, j4, g4, b4⟩
              have J4 := Lib.hid j4
              obtain ⟨u0, u1, _, _, u4, _⟩ := j4.2.1.cells
              have u5 := (j4.2.1.at_ (i := i) (by rw [HLN.out]; exact hlt2)).1
              rw [HLN.out] at u0
              have kz : ∀ m, (convert 27 9 (.slice (some ⟨g2, 0, none⟩) 64 k2)).run Try.prog (w4.drewN m) = .ok (.string (strOfNums (s.L.getD i []))) (w4.drewN m) := fun m => bvals_str (g4.bvals.below (belowDrewN (Below.refl _ _) m))
              clear j4 g4 b4 u1 u4
              generalize strOfNums (s.L.getD i []) = X at *
              go_wp2_with fail
              go_quiet (fail)
              go_wp2_with fail
              go_roundw
              case rel =>
                first
                  | exact ⟨i + 1, by omega, by go_num, J4.out.drewN _⟩
                  | ((repeat apply Exists.intro); exact ⟨⟨i + 1, by omega, by go_num, J4.out.drewN _⟩, rfl⟩)
              case measure => simp [intOf]; omega
            · have hin : i = n := by omega
              clear hlt2
              go_wp2_with fail
              refine (j_told HJ.out).mono ?_
              rintro y w4 ⟨rfl, j4⟩
              have J4 := Lib.hid j4
              clear j4
              go_wp2_with fail
              go_ret
              refine ⟨rfl, ?_⟩
              rw [HB.out]
              exact J4.out.1.2.1
/-! The row's step. -/
set_option maxRecDepth 100000 in
theorem lifted (os : Os) (started : os.Started) (H : Type) (enc : TypeId × Value → H) :
    ReturnsInHanded {} Try.checked os 4 .any (Rows.sectorPlaysSpec.pre6 enc Try.prog Try.f4 Rows.sectorPlaysRow.domain false) (Rows.sectorPlaysSpec.post enc Try.prog Try.f4 false true false false) := by
  refine returnsInHanded_of_change (C := Try.checked) own started (by kernel_rfl) Try.func4
    (ChangeSpec.witness6 (enc := enc) (C := Try.checked) false ⟨#[], #[.int .i64 0, .slice none 0 0], []⟩ 8 (by kernel_rfl) (by kernel_rfl) (by kernel_rfl) (by kernel_rfl)) ?_
  intro W base args ds gs before hval0 hW hcnd _
  have hval : ∀ (j : Nat) t v, Try.f4.params[j]? = some t → args[j]? = some v → Value.okWide Try.prog W .any base t v := hval0
  have hW' := hW
  obtain ⟨p, q, hA0, hV, rfl, hfz, hnd⟩ := hW
  have hA : DataW.TrodAll enc Try.prog W 0 (fun _ => true) true Try.f4.params.toList args.toList ds p := hA0
  rw [Try.params4] at hA hval
  obtain ⟨v0, vs0, d0, ds0, p0, q0, hargs, rfl, rfl, h0, r0⟩ := trodAll_cons hA
  obtain ⟨v1, vs1, d1, ds1, p1, q1, rfl, rfl, rfl, h1, r1⟩ := trodAll_cons r0
  obtain ⟨rfl, rfl, rfl⟩ := trodAll_nil r1
  obtain rfl : args = #[v0, v1] := by cases args; simp_all
  obtain ⟨rfl, rfl⟩ := trodVars_none hV
  obtain ⟨a0, rfl, rfl, rfl, w0⟩ := open_int Try.underlying3 (hval 0 3 v0 rfl rfl) h0
  obtain ⟨a1, len1, cap1, rfl⟩ := okWide_slice Try.underlying34 (hval 1 34 v1 rfl rfl)
  have k1 := h1
  have lt1 : ∀ x ∈ p1, x.block < W.heap.size := by obtain ⟨m, hm⟩ := k1; exact DataW.trod_lt m _ _ _ hm
  have w1 : IsOps W W.heap.size a1 len1 := by
    obtain ⟨fuel, hf⟩ := h1
    simp only [Value.cells] at hf
    exact open_ops hf
  clear hA0 hval0
  refine (walk a0 a1 len1 cap1 W w0 w1).mono fun e W' ⟨he, bel⟩ => ?_
  subst he
  exact ⟨_, rfl, _, _, _, [], _, [], hW', trodAll_mk1 (shut_bool Try.underlying4 _), (trodAll_cons_mk (shut_int Try.underlying3 w0) (trodAll_cons_mk (Below.trod laidOut (by kernel_rfl) (of_decide_eq_true (by kernel_rfl)) k1 bel lt1) trodAll_mk0)), rfl, bel.frame _, fun h => by cases h⟩

theorem over : Rows.sectorPlaysRow.holds Try.pinned (OpenSpec.ofChange Rows.sectorPlaysSpec) :=
  OpenClaim.holds_of_wide 4 Try.f4 rfl rfl rfl rfl rfl rfl rfl ⟨rfl, rfl, rfl, rfl, rfl⟩ rfl rfl rfl rfl rfl (by kernel_rfl) Try.func4 (by kernel_rfl)
    (of_decide_eq_true (by kernel_rfl)) (by unfold Func.isWrapper; first | (rw [if_pos (by decide +kernel)]; kernel_rfl) | (rw [if_neg (by decide +kernel)]; exact ⟨rfl, rfl⟩))
    (fun os started H enc _ => lifted os started H enc)

theorem proved : Rows.SectorPlaysSaid := over
#print axioms proved
end Go.Proofs.Ytggdaepflcjmfaa.sectorPlays
