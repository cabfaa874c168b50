/-
  The law PoolCopies answers true at every input and leaves what was there as it was; no condition.
-/
import Derived.Test.YtajafcbnhcncoaaTold
import Derived.WalkKit
import Derived.Deep.DeepCutAuto
import Derived.Deep.CutBlock
import Derived.Deep.OwnRows
import Derived.ProofKit
import Derived.OpenShut
import Derived.ShutString
namespace Go.Proofs.Ytajafcbnhcncoaa.poolCopies
open Go.ChangeShapes Go.WideShapes Go.ChangeAt Go.RowKit
open Go.ChangeMaps (open_string shut_string)
set_option linter.unusedVariables false

theorem own : ownKnob Try.prog.godebug = none := by kernel_rfl

def msgs (k : Nat) : List (List Int) := (List.range k).map fun (i : Nat) => [(i : Int), 7]
theorem msgs_length (k : Nat) : (msgs k).length = k := by simp [msgs]
theorem msgs_succ (k : Nat) : msgs (k + 1) = msgs k ++ [[(k : Int), 7]] := by simp [msgs, List.range_succ]
theorem msgs_get {k i : Nat} (h : i < k) : (msgs k).getD i [] = [(i : Int), 7] := by
  rw [List.getD_eq_getElem?_getD]
  simp [msgs, h]

theorem at_small {L : List (List Int)} {t : Nat} (h : t < L.length) : at_ L (t : Int) = t := by
  unfold at_
  rw [Int.emod_eq_of_lt (by omega) (by omega)]
  simp
/-- An own row that holds two bytes, spelled. -/
theorem own_two {w : World} {base : Nat} {v : Value} {n m : Int} (h : w.ownsRow base 5 1 v [n, m].length (bv [n, m])) : ∃ g c, v = .slice (some ⟨g, 0, none⟩) 2 c ∧ w.cell? ⟨g, 0, none⟩ = some (.int .u8 n) ∧ w.cell? ⟨g, 1, none⟩ = some (.int .u8 m) := by
  rcases h.2 with ⟨_, hn⟩ | ⟨g, cap, cur, rfl, hb, hg, hle, hcap, hsz, htake⟩
  · simp at hn
  · refine ⟨g, cap, rfl, ?_, ?_⟩
    · have hcell := h.cells (g := g) rfl 0 _ (bv_get [n, m] 0 (by simp))
      simpa [Addr.add] using hcell
    · have hcell := h.cells (g := g) rfl 1 _ (bv_get [n, m] 1 (by simp))
      simpa [Addr.add] using hcell

/-- At each round's head. -/
def Rel1 (w : World) (b : Nat) (n : Int) (v : Value) (wr : World) : Prop :=
  ∃ (k : Nat), (k : Int) ≤ n ∧ v = .int .i64 (k : Int) ∧ One wr b 50 (msgs k) ∧ Below b w wr

set_option maxRecDepth 100000 in
set_option maxHeartbeats 4000000 in
theorem walk (a0 : Int) (a1 : Int) (w0 : (Lit.int .i64 a0).wf = true) (w1 : (Lit.int .i64 a1).wf = true) (w : World) :
    Calls Try.prog 5 #[.int .i64 a0, .int .i64 a1] w fun e w' => e = .returned (.bool true) ∧ Below w.heap.size w w' := by
  have k0 : 0 ≤ IntKind.u64.wrap a0 := wrap_nonneg _
  have k1 : 0 ≤ IntKind.u64.wrap a1 := wrap_nonneg _
  clear w0 w1
  go_enter Try.func5, Try.ntmps5
  go_wp2_with fail
  generalize hn : 1 + IntKind.u64.wrap a0 % 20 = n at *
  have hn1 : 1 ≤ n := by omega
  have hn2 : n ≤ 20 := by omega
  clear hn k0
  have hb0 := (Below.refl w.heap.size w).alloc (Nat.le_refl _) (.cells #[.int .i64 50, .slice none 0 0, .int .i64 0] 56)
  have p0 := One.new w (lim := 50) (by omega)
  refine (new_some 50 _ (by omega) (by omega)).mono ?_
  rintro e w' ⟨rfl, rfl⟩
  generalize hb : w.heap.size = b at *
  have HB := (show Hid (w.heap.size = b) from hb)
  clear hb
  generalize w.alloc (.cells #[.int .i64 50, .slice none 0 0, .int .i64 0] 56) = w0 at *
  have R1 := Lib.hid (show Rel1 w b n (.int .i64 0) w0 from ⟨0, by omega, rfl, (show One w0 b 50 (msgs 0) from p0), hb0⟩)
  clear p0 hb0
  go_wp2_with fail
  go_loopw [7] (fun v wr => Rel1 w b n v wr) (fun i _ => n.toNat - (intOf i).toNat)
  case atStart => exact R1.out
  case round =>
    clear R1
    obtain ⟨k, hk, rfl, hone, hbel⟩ := hrel
    have HT := Lib.hid hone
    have HBEL := Lib.hid hbel
    clear hone hbel
    by_cases hlt : (k : Int) < n
    · have hc : putCode 50 (msgs k) = 0 := if_neg (by rw [msgs_length]; omega)
      have hp : putL 50 (msgs k) [(k : Int), 7] = msgs (k + 1) := by rw [msgs_succ]; exact if_neg (by rw [msgs_length]; omega)
      have HC := Lib.hid hc
      have HP := Lib.hid hp
      have hw8 : IntKind.u8.wrap (k : Int) = (k : Int) := by rw [IntKind.wrap_u8]; omega
      clear hc hp
      go_wp2_with fail
      refine (one_put_lit b 50 (msgs k) [(k : Int), 7] _ _ wr HT.out rfl (by simp)).mono ?_
      rw [HC.out, HP.out]
      rintro e w2 ⟨rfl, t2, b2, _⟩
      have HT2 := Lib.hid t2
      have HB2 := Lib.hid (HBEL.out.trans b2)
      clear t2 b2 hw8
      go_wp2_with fail
      go_roundw
      case rel =>
        first
          | exact ⟨k + 1, by omega, by go_num, HT2.out, HB2.out⟩
          | ((repeat apply Exists.intro); exact ⟨⟨k + 1, by omega, by go_num, HT2.out, HB2.out⟩, rfl⟩)
      case measure => simp [intOf]; omega
    · have hkn : (k : Int) = n := by omega
      obtain ⟨t, ht, ht1⟩ : ∃ t : Nat, wrap64 (IntKind.u64.wrap a1 % n) = (t : Int) ∧ (t : Int) < n := by
        have h1 := Int.emod_nonneg (IntKind.u64.wrap a1) (show n ≠ 0 by omega)
        have h2 := Int.emod_lt_of_pos (IntKind.u64.wrap a1) (show 0 < n by omega)
        refine ⟨(IntKind.u64.wrap a1 % n).toNat, ?_, by omega⟩
        unfold wrap64
        omega
      have htk : t < k := by omega
      have hc : putCode 50 (msgs k) = 0 := if_neg (by rw [msgs_length]; omega)
      have hp : putL 50 (msgs k) ((msgs k).getD (at_ (msgs k) (t : Int)) []) = msgs k ++ [[(t : Int), 7]] := by
        rw [at_small (by rw [msgs_length]; exact htk), msgs_get htk]
        exact if_neg (by rw [msgs_length]; omega)
      obtain ⟨L1, hL1⟩ : ∃ L1, msgs k ++ [[(t : Int), 7]] = L1 := ⟨_, rfl⟩
      have hl1 : L1.length = k + 1 := by rw [← hL1]; simp [msgs_length]
      have g1 : L1.getD (at_ L1 n) [] = [(t : Int), 7] := by
        rw [← hkn, at_small (by omega), ← hL1, List.getD_eq_getElem?_getD, List.getElem?_append_right (by rw [msgs_length]; omega), msgs_length]
        simp
      have a2 : at_ L1 (t : Int) = t := at_small (by omega)
      have g2 : L1.getD (at_ L1 (t : Int)) [] = [(t : Int), 7] := by
        rw [a2, ← hL1, List.getD_eq_getElem?_getD, List.getElem?_append_left (by rw [msgs_length]; exact htk), ← List.getD_eq_getElem?_getD, msgs_get htk]
      have hl2 : (L1.eraseIdx (at_ L1 (t : Int))).length = k := by rw [a2, List.length_eraseIdx_of_lt (by omega), hl1]; rfl
      have g3 : (L1.eraseIdx (at_ L1 (t : Int))).getD (at_ (L1.eraseIdx (at_ L1 (t : Int))) (n - 1)) [] = [(t : Int), 7] := by
        have e : n - 1 = ((k - 1 : Nat) : Int) := by omega
        rw [e, a2, at_small (by rw [List.length_eraseIdx_of_lt (by omega), hl1]; omega), getD_erase, if_neg (by omega), show k - 1 + 1 = k by omega, ← hL1, List.getD_eq_getElem?_getD, List.getElem?_append_right (by rw [msgs_length]; omega), msgs_length]
        simp
      rw [hL1] at hp
      have n0 : msgs k ≠ [] := fun e => by have := msgs_length k; rw [e] at this; simp at this; omega
      have n1 : L1 ≠ [] := fun e => by rw [e] at hl1; simp at hl1
      have n2 : L1.eraseIdx (at_ L1 (t : Int)) ≠ [] := fun e => by rw [e] at hl2; simp at hl2; omega
      generalize hL2 : L1.eraseIdx (at_ L1 (t : Int)) = L2 at *
      have HC := Lib.hid hc
      have HP := Lib.hid hp
      have HG1 := Lib.hid g1
      have HG2 := Lib.hid g2
      have HG3 := Lib.hid g3
      have HL2 := Lib.hid hL2
      have HLN := Lib.hid hl2
      have HN := Lib.hid (And.intro n0 (And.intro n1 n2))
      clear hc hp g1 g2 g3 hL2 hl2 hl1 hL1 a2 n0 n1 n2
      go_wp2_with fail
      refine (one_copy b b 50 (msgs k) t wr HT.out HN.out.1 (by omega) (Nat.le_refl _)).mono ?_
      rw [HC.out, HP.out]
      rintro e w2 ⟨rfl, t2, b2, _⟩
      have HT2 := Lib.hid t2
      have HB2 := Lib.hid (HBEL.out.trans b2)
      clear t2 b2 HT HBEL
      go_wp2_with fail
      refine (one_get b 50 L1 n w2 HT2.out HN.out.2.1 (by omega)).mono ?_
      rw [HG1.out]
      rintro e w3 ⟨⟨v3, rfl, o3⟩, b3⟩
      have HT3 := Lib.hid (HT2.out.below b3)
      have HB3 := Lib.hid (HB2.out.trans (b3.mono (Nat.le_of_lt HT2.out.lt)))
      have HO3 := Lib.hid o3
      clear b3 o3 HT2 HB2
      go_wp2_with fail
      refine (one_take b b 50 L1 t w3 HT3.out HN.out.2.1 (by omega) (Nat.le_refl _)).mono ?_
      rw [HG2.out, HL2.out]
      rintro e w4 ⟨⟨v4, rfl, o4⟩, t4, b4, f4⟩
      have HT4 := Lib.hid t4
      have HB4 := Lib.hid (HB3.out.trans b4)
      have HO4 := Lib.hid o4
      have HP4 := Lib.hid (f4.own HO3.out)
      clear t4 b4 o4 f4 HO3 HT3 HB3
      go_wp2_with fail
      refine (one_get b 50 L2 (n - 1) w4 HT4.out HN.out.2.2 (by omega)).mono ?_
      rw [HG3.out]
      rintro e w5 ⟨⟨v5, rfl, o5⟩, b5⟩
      have HT5 := Lib.hid (HT4.out.below b5)
      have HB5 := Lib.hid (HB4.out.trans (b5.mono (Nat.le_of_lt HT4.out.lt)))
      have HO5 := Lib.hid o5
      have HP5 := Lib.hid ((Five.below b5).own HP4.out)
      have HQ5 := Lib.hid ((Five.below b5).own HO4.out)
      clear b5 o5 HT4 HB4 HP4 HO4
      go_wp2_with fail
      refine (told_any w5).mono ?_
      rintro e w6 ⟨rfl, b6⟩
      have HT6 := Lib.hid (HT5.out.below b6)
      have HB6 := Lib.hid (HB5.out.trans (b6.mono (Nat.le_of_lt HT5.out.lt)))
      obtain ⟨g1, c1, rfl, d1, d1'⟩ := own_two ((Five.below b6).own HP5.out)
      obtain ⟨g2, c2, rfl, d2, d2'⟩ := own_two ((Five.below b6).own HQ5.out)
      obtain ⟨g3, c3, rfl, d3, d3'⟩ := own_two ((Five.below b6).own HO5.out)
      have hcv : ∀ g c, w6.cell? ⟨g, 0, none⟩ = some (.int .u8 (t : Int)) → w6.cell? ⟨g, 1, none⟩ = some (.int .u8 7) → (convert 28 9 (.slice (some ⟨g, 0, none⟩) 2 c)).run Try.prog w6 = .ok (.string (strOfNums [(t : Int), 7])) w6 := fun g c e0 e1 =>
        run_convert_bytes_arg (P := Try.prog) w6 28 5 Try.underlying28 Try.underlying5 g 0 2 c [(t : Int), 7] rfl (fun i hi => by rcases (show i = 0 ∨ i = 1 by omega) with h0 | h0 <;> subst h0 <;> simpa using (by assumption)) 9 Try.underlying9
      have q1 := hcv g1 c1 d1 d1'
      have q2 := hcv g2 c2 d2 d2'
      have q3 := hcv g3 c3 d3 d3'
      clear hcv b6 HP5 HQ5 HO5 HT5 HB5
      generalize strOfNums [(t : Int), 7] = S at *
      go_wp2_with fail
      refine (one_len b 50 L2 w6 HT6.out).mono ?_
      rw [HLN.out, hkn]
      rintro e w7 ⟨rfl, rfl⟩
      go_wp2_with fail
      go_ret
      refine ⟨rfl, ?_⟩
      rw [HB.out]
      exact HB6.out

/-! The row's step. -/
set_option maxRecDepth 100000 in
theorem lifted (os : Os) (started : os.Started) (H : Type) (enc : TypeId × Value → H) :
    ReturnsInHanded {} Try.checked os 5 .any (Rows.poolCopiesSpec.pre6 enc Try.prog Try.f5 Rows.poolCopiesRow.domain false) (Rows.poolCopiesSpec.post enc Try.prog Try.f5 false true false false) := by
  refine returnsInHanded_of_change (C := Try.checked) own started (by kernel_rfl) Try.func5
    (ChangeSpec.witness6 (enc := enc) (C := Try.checked) false ⟨#[], #[.int .i64 0, .int .i64 0], []⟩ 8 (by kernel_rfl) (by kernel_rfl) (by kernel_rfl) (by kernel_rfl)) ?_
  intro W base args ds gs before hval0 hW hcnd _
  have hval : ∀ (j : Nat) t v, Try.f5.params[j]? = some t → args[j]? = some v → Value.okWide Try.prog W .any base t v := hval0
  have hW' := hW
  obtain ⟨p, q, hA0, hV, rfl, hfz, hnd⟩ := hW
  have hA : DataW.TrodAll enc Try.prog W 0 (fun _ => true) true Try.f5.params.toList args.toList ds p := hA0
  rw [Try.params5] at hA hval
  obtain ⟨v0, vs0, d0, ds0, p0, q0, hargs, rfl, rfl, h0, r0⟩ := trodAll_cons hA
  obtain ⟨v1, vs1, d1, ds1, p1, q1, rfl, rfl, rfl, h1, r1⟩ := trodAll_cons r0
  obtain ⟨rfl, rfl, rfl⟩ := trodAll_nil r1
  obtain rfl : args = #[v0, v1] := by cases args; simp_all
  obtain ⟨rfl, rfl⟩ := trodVars_none hV
  obtain ⟨a0, rfl, rfl, rfl, w0⟩ := open_int Try.underlying3 (hval 0 3 v0 rfl rfl) h0
  obtain ⟨a1, rfl, rfl, rfl, w1⟩ := open_int Try.underlying3 (hval 1 3 v1 rfl rfl) h1
  clear hA0 hval0
  simp only [List.append_nil] at hW'
  refine (walk a0 a1 w0 w1 W).mono fun e W' ⟨he, bel⟩ => ?_
  subst he
  exact ⟨_, rfl, _, _, _, [], [], [], hW', (trodAll_cons_mk (shut_bool Try.underlying4 _) trodAll_mk0), (trodAll_cons_mk (shut_int Try.underlying3 w0) (trodAll_cons_mk (shut_int Try.underlying3 w1) trodAll_mk0)), rfl, bel.frame _, fun h => by cases h⟩

theorem over : Rows.poolCopiesRow.holds Try.pinned (OpenSpec.ofChange Rows.poolCopiesSpec) :=
  OpenClaim.holds_of_wide 5 Try.f5 rfl rfl rfl rfl rfl rfl rfl ⟨rfl, rfl, rfl, rfl, rfl⟩ rfl rfl rfl rfl rfl (by kernel_rfl) Try.func5 (by kernel_rfl)
    (of_decide_eq_true (by kernel_rfl)) (by unfold Func.isWrapper; first | (rw [if_pos (by decide +kernel)]; kernel_rfl) | (rw [if_neg (by decide +kernel)]; exact ⟨rfl, rfl⟩))
    (fun os started H enc _ => lifted os started H enc)

theorem proved : Rows.PoolCopiesSaid :=
  over
#print axioms proved
end Go.Proofs.Ytajafcbnhcncoaa.poolCopies
