/-
  The law PoolAll answers true at every input and leaves what was there as it was; no condition.
-/
import Derived.Test.YtajafcbnhcncoaaTold
import Derived.WalkKit
import Derived.Deep.DeepCutAuto
import Derived.Deep.CutBlock
import Derived.Deep.OwnRows
import Derived.ProofKit
import Derived.OpenShut
import Derived.ShutString
import Derived.ChangeOld
import Derived.Below
namespace Go.Proofs.Ytajafcbnhcncoaa.poolAll
open Go.ChangeShapes Go.WideShapes Go.ChangeAt Go.RowKit
open Go.ChangeMaps (open_string shut_string)
set_option linter.unusedVariables false

theorem own : ownKnob Try.prog.godebug = none := by kernel_rfl
theorem laidOut : laidOutB Try.prog = true := by kernel_rfl

def ones (k : Nat) : List (List Int) := (List.range k).map fun (i : Nat) => [(i : Int)]
theorem ones_length (k : Nat) : (ones k).length = k := by simp [ones]
theorem ones_succ (k : Nat) : ones (k + 1) = ones k ++ [[(k : Int)]] := by simp [ones, List.range_succ]

/-- The second loop's state: numbers that are left, those that were seen. -/
def nums (xs : List Nat) : List (List Int) := xs.map fun (i : Nat) => [(i : Int)]
def seenCells (f : Nat → Bool) : Array Value := ((List.range 41).map fun j => Value.bool (f j)).toArray
theorem seen_size (f : Nat → Bool) : (seenCells f).size = 41 := by simp [seenCells]
theorem seen_get (f : Nat → Bool) {x : Nat} (h : x < 41) : (seenCells f)[x]? = some (.bool (f x)) := by
  simp [seenCells, h]
theorem seen_set (f : Nat → Bool) (x : Nat) : (seenCells f).setIfInBounds x (.bool true) = seenCells fun j => if j = x then true else f j := by
  apply Array.ext_getElem?
  intro i
  rw [Array.getElem?_setIfInBounds]
  by_cases hi : i < 41
  · rw [seen_get _ hi, seen_get _ hi, seen_size]
    by_cases h : x = i
    · subst h; simp [hi]
    · rw [if_neg h, if_neg (fun e => h e.symm)]
  · rw [Array.getElem?_eq_none (by rw [seen_size]; omega), Array.getElem?_eq_none (by rw [seen_size]; omega), seen_size]
    split <;> simp_all
theorem nums_at {xs : List Nat} {t : Int} (h : 0 < xs.length) : ∃ x ys, x ∈ xs ∧ nums xs ≠ [] ∧ (nums xs).getD (at_ (nums xs) t) [] = [(x : Int)] ∧ (nums xs).eraseIdx (at_ (nums xs) t) = nums ys ∧ ys.length + 1 = xs.length ∧
    (xs.Nodup → ys.Nodup ∧ ∀ y ∈ ys, y ∈ xs ∧ y ≠ x) := by
  have hne : nums xs ≠ [] := fun e => by have := congrArg List.length e; simp [nums] at this; rw [this] at h; simp at h
  have hat : at_ (nums xs) t < xs.length := by have := at_lt (i := t) hne; simpa [nums] using this
  refine ⟨xs[at_ (nums xs) t], xs.eraseIdx (at_ (nums xs) t), List.getElem_mem hat, hne, ?_, ?_, ?_, fun hnd => ?_⟩
  · rw [List.getD_eq_getElem?_getD]
    have : (nums xs)[at_ (nums xs) t]? = some [((xs[at_ (nums xs) t] : Nat) : Int)] := by
      simp only [nums, List.getElem?_map]
      simp only [nums] at hat
      rw [List.getElem?_eq_getElem hat]
      rfl
    rw [this]; rfl
  · simp [nums, List.eraseIdx_eq_take_drop_succ, List.map_take, List.map_drop]
  · rw [List.length_eraseIdx_of_lt hat]; omega
  · have hnd' : (xs.take (at_ (nums xs) t) ++ xs[at_ (nums xs) t] :: xs.drop (at_ (nums xs) t + 1)).Nodup := by rw [← List.drop_eq_getElem_cons hat, List.take_append_drop]; exact hnd
    have := List.perm_middle.nodup_iff.1 hnd'
    rw [List.nodup_cons, ← List.eraseIdx_eq_take_drop_succ] at this
    exact ⟨this.2, fun y hy => ⟨List.mem_of_mem_eraseIdx hy, fun e => this.1 (e ▸ hy)⟩⟩
def Rel2 (w : World) (b s : Nat) (n : Int) (v : Value) (wr : World) : Prop :=
  ∃ (k : Nat) (xs : List Nat) (f : Nat → Bool), (k : Int) ≤ n ∧ v = .int .i64 (k : Int) ∧ One (fun _ => True) wr b 100 (nums xs) ∧ Below b w wr ∧ wr.heap[s]? = some (.cells (seenCells f) 45 (0, 0)) ∧
    ((xs.length + k : Nat) : Int) = n ∧ xs.Nodup ∧ ∀ x ∈ xs, (x : Int) < n ∧ f x = false

/-- At each round's head. -/
def Rel1 (w : World) (b : Nat) (n : Int) (v : Value) (wr : World) : Prop :=
  ∃ (k : Nat), (k : Int) ≤ n ∧ v = .int .i64 (k : Int) ∧ One (fun _ => True) wr b 100 (ones k) ∧ Below b w wr

set_option maxRecDepth 100000 in
set_option maxHeartbeats 4000000 in
theorem walk (a0 : Int) (a1 : Option Addr) (len1 cap1 : Nat) (z1 : List Int) (w : World) (w0 : (Lit.int .i64 a0).wf = true) (w1 : IsRow .i64 w a1 len1 cap1 z1) :
    Calls Try.prog 4 #[.int .i64 a0, .slice a1 len1 cap1] w fun e w' => e = .returned (.bool true) ∧ Below w.heap.size w w' := by
  have k0 : 0 ≤ IntKind.u64.wrap a0 := wrap_nonneg _
  have hmax := w1.len_le
  have HI := Lib.hid w1.any
  clear w0 w1
  go_enter Try.func4, Try.ntmps4
  go_wp2_with fail
  generalize hn : IntKind.u64.wrap a0 % 41 = n at *
  have hn1 : 0 ≤ n := by omega
  have hn2 : n ≤ 40 := by omega
  clear hn k0
  have hb0 := (Below.refl w.heap.size w).alloc (Nat.le_refl _) (.cells #[.int .i64 100, .slice none 0 0, .int .i64 0] 56)
  have p0 := One.new (S := fun _ => True) w (lim := 100) (by omega)
  refine (new_some 100 _ (by omega) (by omega)).mono ?_
  rintro e w' ⟨rfl, rfl⟩
  generalize hb : w.heap.size = b at *
  have HB := (show Hid (w.heap.size = b) from hb)
  clear hb
  generalize w.alloc (.cells #[.int .i64 100, .slice none 0 0, .int .i64 0] 56) = w0 at *
  have R1 := Lib.hid (show Rel1 w b n (.int .i64 0) w0 from ⟨0, by omega, rfl, (show One _ w0 b 100 (ones 0) from p0), hb0⟩)
  clear p0 hb0
  go_wp2_with fail
  go_loopw [7] (fun v wr => Rel1 w b n v wr) (fun i _ => n.toNat - (intOf i).toNat)
  case atStart => exact R1.out
  case round =>
    clear R1
    obtain ⟨k, hk, rfl, hone, hbel⟩ := hrel
    have hlb := hone.lt
    have HT := Lib.hid (hone.mono (S' := fun g => g ≠ wr.heap.size) fun g hg _ => Nat.ne_of_lt hg)
    have HBEL := Lib.hid hbel
    clear hone hbel
    by_cases hlt : (k : Int) < n
    · have hc : putCode 100 (ones k) = 0 := if_neg (by rw [ones_length]; omega)
      have hp : putL 100 (ones k) [(k : Int)] = ones (k + 1) := by rw [ones_succ]; exact if_neg (by rw [ones_length]; omega)
      have HC := Lib.hid hc
      have HP := Lib.hid hp
      have hw8 : IntKind.u8.wrap (k : Int) = (k : Int) := by rw [IntKind.wrap_u8]; omega
      clear hc hp
      go_wp2_with fail
      refine (one_put_lit2 b 100 (ones k) [(k : Int)] _ wr HT.out rfl (by simp) fun g hg => Nat.ne_of_gt hg).mono ?_
      rw [HC.out, HP.out]
      rintro e w2 ⟨rfl, t2, b2, h2⟩
      have c2 : w2.cell? ⟨wr.heap.size, 0, none⟩ = some (.int .u8 (k : Int)) := by simp [World.cell?, h2, bv]
      have z2 : w2.frozen? ⟨wr.heap.size, 0, none⟩ = false := by simp [World.frozen?, h2]
      have HT2 := Lib.hid ((t2.setCell (o := 0) h2 (by decide) (by decide) (.inr (by simp)) (.int .u8 99)).mono (S' := fun _ => True) fun _ _ _ => trivial)
      have HB2 := Lib.hid (Below.setCell (HBEL.out.trans b2) (p := ⟨wr.heap.size, 0, none⟩) (Nat.le_of_lt hlb) (.int .u8 99))
      clear t2 b2 hw8 h2
      go_wp2_with fail
      go_roundw
      case rel =>
        first
          | exact ⟨k + 1, by omega, by go_num, HT2.out, HB2.out⟩
          | ((repeat apply Exists.intro); exact ⟨⟨k + 1, by omega, by go_num, HT2.out, HB2.out⟩, rfl⟩)
      case measure => simp [intOf]; omega
    · have hkn : (k : Int) = n := by omega
      have R2 := Lib.hid (show Rel2 w b wr.heap.size n (.int .i64 0) (wr.alloc (.cells (seenCells fun _ => false) 45)) from
        ⟨0, List.range k, fun _ => false, by omega, rfl, ((HT.out.mono (S' := fun _ => True) fun _ _ _ => trivial).below ((Below.refl _ _).alloc (Nat.le_refl _) _)), HBEL.out.alloc (Nat.le_of_lt hlb) _, heap_alloc_new wr _, by simp [hkn], List.nodup_range, fun x hx => ⟨by simp at hx; omega, rfl⟩⟩)
      clear HT HBEL
      go_wp2_with fail
      generalize hs : wr.heap.size = s at *
      have hsb : b < s := hlb
      go_loopw [10] (fun v wr => Rel2 w b s n v wr) (fun i _ => n.toNat - (intOf i).toNat)
      case atStart => exact R2.out
      case round =>
        clear R2
        obtain ⟨i, xs, f, hi, rfl, hone, hbel, hseen, hlen, hnd, hall⟩ := hrel
        have HT := Lib.hid hone
        have HBEL := Lib.hid hbel
        have HSN := Lib.hid hseen
        have HLEN := Lib.hid hlen
        have HND := Lib.hid (And.intro hnd hall)
        clear hone hbel hseen hlen hnd hall
        by_cases hlt : (i : Int) < n
        · obtain ⟨t, ht0, hpath⟩ : ∃ t : Int, 0 ≤ t ∧ (len1 ≤ i ∧ t = 0 ∨ i < len1 ∧ t = IntKind.u64.wrap (z1.getD i 0) % 1000) := by
            by_cases h : i < len1
            · exact ⟨_, Int.emod_nonneg _ (by omega), .inr ⟨h, rfl⟩⟩
            · exact ⟨0, by omega, .inl ⟨by omega, rfl⟩⟩
          obtain ⟨x, ys, hxm, hne, hg, her, hl2, hnx⟩ := nums_at (xs := xs) (t := t) (by have := HLEN.out; omega)
          have hxn := (HND.out.2 x hxm).1
          have HFX := Lib.hid (HND.out.2 x hxm).2
          have HTK := Lib.hid (one_take b b 100 (nums xs) t wr HT.out hne ht0 (Nat.le_refl _))
          have HNX := Lib.hid hnx
          have HL2 := Lib.hid hl2
          rw [hg, her] at HTK
          clear hxm hne hg her hl2 hnx
          rcases hpath with ⟨hge, rfl⟩ | ⟨hil, ht⟩
          · go_wp2_with fail
            refine HTK.out.mono ?_
            rintro e w2 ⟨⟨v2, rfl, o2⟩, t2, b2, f2⟩
            have HT2 := Lib.hid t2
            have HB2 := Lib.hid b2
            have HF2 := Lib.hid f2
            obtain ⟨g2, c2, rfl, d2⟩ := own_one o2
            have hsn := HF2.out s _ _ _ HSN.out (by decide) (by decide)
            rw [HSN.out] at hsn
            have HSN2 := Lib.hid hsn
            have d3 : w2.cell? ⟨s, x, none⟩ = some (.bool false) := by
              simp only [World.cell?, hsn]
              rw [← HFX.out]
              simpa using seen_get f (x := x) (by omega)
            have z3 : w2.frozen? ⟨s, x, none⟩ = false := by simp [World.frozen?, hsn]
            have hlen2 : ((nums ys).length : Int) = n - 1 - (i : Int) := by have := HLEN.out; have := HL2.out; simp [nums]; omega
            have HLL := Lib.hid hlen2
            have hrel : Rel2 w b s n (.int .i64 ((i + 1 : Nat) : Int)) (w2.setCell ⟨s, x, none⟩ (.bool true)) := by
              refine ⟨i + 1, ys, fun j => if j = x then true else f j, by omega, rfl, t2.setCell hsn (by decide) (by decide) (.inl (by decide)) _, Below.setCell (HBEL.out.trans b2) (p := ⟨s, x, none⟩) (Nat.le_of_lt hsb) _, ?_, by have := HLEN.out; have := HL2.out; omega, (HNX.out HND.out.1).1, fun y hy => ?_⟩
              · rw [heap_store _ hsn, seen_set]
              · have h1 := (HNX.out HND.out.1).2 y hy
                have h2 := HND.out.2 y h1.1
                exact ⟨h2.1, (if_neg h1.2).trans h2.2⟩
            have HREL := Lib.hid hrel
            clear t2 b2 f2 o2 hsn hlen2 hrel
            go_wp2_with fail
            refine (one_len b 100 (nums ys) w2 HT2.out).mono ?_
            rw [HLL.out]
            rintro e w3 ⟨rfl, rfl⟩
            go_wp2_with fail
            go_roundw
            case rel =>
              first
                | exact HREL.out
                | ((repeat apply Exists.intro); exact ⟨HREL.out, rfl⟩)
            case measure => simp [intOf]; omega
          · obtain ⟨xb, xo, hI⟩ := HI.out
            obtain ⟨ha, hxb, hcell, hwf⟩ := hI i hil
            have hcell' := (HBEL.out.cell (p := ⟨xb, xo + i, none⟩) hxb).trans hcell
            generalize z1.getD i 0 = z at *
            clear hI hcell hwf HI
            subst ha
            have k0 : 0 ≤ IntKind.u64.wrap z := wrap_nonneg _
            go_wp2_with fail
            rw [← ht]
            refine HTK.out.mono ?_
            rintro e w2 ⟨⟨v2, rfl, o2⟩, t2, b2, f2⟩
            have HT2 := Lib.hid t2
            have HB2 := Lib.hid b2
            have HF2 := Lib.hid f2
            obtain ⟨g2, c2, rfl, d2⟩ := own_one o2
            have hsn := HF2.out s _ _ _ HSN.out (by decide) (by decide)
            rw [HSN.out] at hsn
            have HSN2 := Lib.hid hsn
            have d3 : w2.cell? ⟨s, x, none⟩ = some (.bool false) := by
              simp only [World.cell?, hsn]
              rw [← HFX.out]
              simpa using seen_get f (x := x) (by omega)
            have z3 : w2.frozen? ⟨s, x, none⟩ = false := by simp [World.frozen?, hsn]
            have hlen2 : ((nums ys).length : Int) = n - 1 - (i : Int) := by have := HLEN.out; have := HL2.out; simp [nums]; omega
            have HLL := Lib.hid hlen2
            have hrel : Rel2 w b s n (.int .i64 ((i + 1 : Nat) : Int)) (w2.setCell ⟨s, x, none⟩ (.bool true)) := by
              refine ⟨i + 1, ys, fun j => if j = x then true else f j, by omega, rfl, t2.setCell hsn (by decide) (by decide) (.inl (by decide)) _, Below.setCell (HBEL.out.trans b2) (p := ⟨s, x, none⟩) (Nat.le_of_lt hsb) _, ?_, by have := HLEN.out; have := HL2.out; omega, (HNX.out HND.out.1).1, fun y hy => ?_⟩
              · rw [heap_store _ hsn, seen_set]
              · have h1 := (HNX.out HND.out.1).2 y hy
                have h2 := HND.out.2 y h1.1
                exact ⟨h2.1, (if_neg h1.2).trans h2.2⟩
            have HREL := Lib.hid hrel
            clear t2 b2 f2 o2 hsn hlen2 hrel
            go_wp2_with fail
            refine (one_len b 100 (nums ys) w2 HT2.out).mono ?_
            rw [HLL.out]
            rintro e w3 ⟨rfl, rfl⟩
            go_wp2_with fail
            go_roundw
            case rel =>
              first
                | exact HREL.out
                | ((repeat apply Exists.intro); exact ⟨HREL.out, rfl⟩)
            case measure => simp [intOf]; omega
        · have hin : (i : Int) = n := by omega
          have hxs : nums xs = [] := by have := HLEN.out; have h0 : xs.length = 0 := (by omega); rw [List.length_eq_zero_iff.1 h0]; rfl
          have HXS := Lib.hid hxs
          have HIN := Lib.hid hin
          clear hxs
          go_wp2_with fail
          refine (one_take_bad b 100 (nums xs) 0 wr HT.out (.inl HXS.out)).mono ?_
          rintro e w2 ⟨rfl, rfl⟩
          go_wp2_with fail
          refine (told_any w2).mono ?_
          rintro e w6 ⟨rfl, b6⟩
          have HB6 := Lib.hid (HBEL.out.trans (b6.mono (Nat.le_of_lt HT.out.lt)))
          clear b6
          go_wp2_with fail
          go_ret
          refine ⟨rfl, ?_⟩
          rw [HB.out]
          exact HB6.out

/-! The row's step. -/
set_option maxRecDepth 100000 in
theorem lifted (os : Os) (started : os.Started) (H : Type) (enc : TypeId × Value → H) :
    ReturnsInHanded {} Try.checked os 4 .any (Rows.poolAllSpec.pre6 enc Try.prog Try.f4 Rows.poolAllRow.domain false) (Rows.poolAllSpec.post enc Try.prog Try.f4 false true false false) := by
  refine returnsInHanded_of_change (C := Try.checked) own started (by kernel_rfl) Try.func4
    (ChangeSpec.witness6 (enc := enc) (C := Try.checked) false ⟨#[], #[.int .i64 0, .slice none 0 0], []⟩ 8 (by kernel_rfl) (by kernel_rfl) (by kernel_rfl) (by kernel_rfl)) ?_
  intro W base args ds gs before hval0 hW hcnd _
  have hval : ∀ (j : Nat) t v, Try.f4.params[j]? = some t → args[j]? = some v → Value.okWide Try.prog W .any base t v := hval0
  have hW' := hW
  obtain ⟨p, q, hA0, hV, rfl, hfz, hnd⟩ := hW
  have hA : DataW.TrodAll enc Try.prog W 0 (fun _ => true) true Try.f4.params.toList args.toList ds p := hA0
  rw [Try.params4] at hA hval
  obtain ⟨v0, vs0, d0, ds0, p0, q0, hargs, rfl, rfl, h0, r0⟩ := trodAll_cons hA
  obtain ⟨v1, vs1, d1, ds1, p1, q1, rfl, rfl, rfl, h1, r1⟩ := trodAll_cons r0
  obtain ⟨rfl, rfl, rfl⟩ := trodAll_nil r1
  obtain rfl : args = #[v0, v1] := by cases args; simp_all
  obtain ⟨rfl, rfl⟩ := trodVars_none hV
  obtain ⟨a0, rfl, rfl, rfl, w0⟩ := open_int Try.underlying3 (hval 0 3 v0 rfl rfl) h0
  obtain ⟨a1, len1, cap1, rfl⟩ := okWide_slice Try.underlying43 (hval 1 43 v1 rfl rfl)
  have k1 := h1
  have lt1 : ∀ x ∈ p1, x.block < W.heap.size := by obtain ⟨m, hm⟩ := k1; exact DataW.trod_lt m _ _ _ hm
  obtain ⟨z1, w1⟩ : ∃ zs, IsRow .i64 W a1 len1 cap1 zs := by
    obtain ⟨fuel, hf⟩ := h1
    rcases open_ints Try.underlying43 Try.underlying3 (by kernel_rfl) hf with ⟨hcs, _⟩ | ⟨x, l, c, zs, hcs, _, hl, hm, hz, _, hcell, hwz⟩
    · simp [Value.cells] at hcs
      obtain ⟨rfl, rfl, rfl⟩ := hcs
      exact ⟨[], .inl ⟨rfl, rfl, rfl, rfl⟩⟩
    · simp [Value.cells] at hcs
      obtain ⟨rfl, rfl, rfl⟩ := hcs
      exact ⟨zs, .inr ⟨_, rfl, hl, hm, by simpa using hz, hcell, hwz⟩⟩
  clear hA0 hval0
  refine (walk a0 a1 len1 cap1 z1 W w0 w1).mono fun e W' ⟨he, bel⟩ => ?_
  subst he
  exact ⟨_, rfl, _, _, _, [], _, [], hW', trodAll_mk1 (shut_bool Try.underlying4 _), (trodAll_cons_mk (shut_int Try.underlying3 w0) (trodAll_cons_mk (Below.trod laidOut (by kernel_rfl) (of_decide_eq_true (by kernel_rfl)) k1 bel lt1) trodAll_mk0)), rfl, bel.frame _, fun h => by cases h⟩

theorem over : Rows.poolAllRow.holds Try.pinned (OpenSpec.ofChange Rows.poolAllSpec) :=
  OpenClaim.holds_of_wide 4 Try.f4 rfl rfl rfl rfl rfl rfl rfl ⟨rfl, rfl, rfl, rfl, rfl⟩ rfl rfl rfl rfl rfl (by kernel_rfl) Try.func4 (by kernel_rfl)
    (of_decide_eq_true (by kernel_rfl)) (by unfold Func.isWrapper; first | (rw [if_pos (by decide +kernel)]; kernel_rfl) | (rw [if_neg (by decide +kernel)]; exact ⟨rfl, rfl⟩))
    (fun os started H enc _ => lifted os started H enc)

theorem proved : Rows.PoolAllSaid := over
#print axioms proved
end Go.Proofs.Ytajafcbnhcncoaa.poolAll
