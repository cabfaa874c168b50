/-
  Contracts of the law's own reference (quorumiteref17's Disk): New, Tear, Up, Write, Spoil; conditions: at most 4096 sectors, each of 64 bytes.
-/
import Derived.Test.YtggdaepflcjmfaaDisk
import Derived.Laws.BytesArg
import Derived.Lib.ConvBytes
import Derived.IntWalk
import Derived.WalkSpells
namespace Go.Proofs.Ytggdaepflcjmfaa
open Go.RowKit

/-- A sector as a string. -/
def sv (x : List Int) : Value := .string (strOfNums x)
theorem strOf_size (x : List Int) : (strOfNums x).size = x.length := by simp [strOfNums, ByteArray.size]
theorem Try.info9 : (Try.prog.info? 9).map (fun i => (i.zero, i.size, i.bytes)) = some (some (.string ⟨#[]⟩), 1, 16) := by kernel_rfl

/-- Bytes as a string, whatever they lie in. -/
theorem bvals_str {w : World} {v : Value} {x : List Int} (h : BVals w v x) : (convert 27 9 v).run Try.prog w = .ok (.string (strOfNums x)) w := by
  rcases h with ⟨rfl, rfl⟩ | ⟨ad, cap, rfl, rfl⟩ | ⟨g, o, cap, rfl, _, _, hc⟩
  · exact run_convert_bytes_nil (P := Try.prog) w 27 5 Try.underlying27 Try.underlying5 0 0 9 Try.underlying9
  · rw [run_convert_bytes_string w 27 9 5 _ _ _ Try.underlying27 Try.underlying5 Try.underlying9]
    simp [Conv.bytesToString, loadCells, loadCellsFrom, strOfNums]
    rfl
  · exact run_convert_bytes_arg (P := Try.prog) w 27 5 Try.underlying27 Try.underlying5 g o x.length cap x rfl hc 9 Try.underlying9

/-- A sector's bytes. -/
def Sec (x : List Int) : Prop := x.length = 64 ∧ ∀ n ∈ x, 0 ≤ n ∧ n < 256
theorem Sec.full {c : Int} (h0 : 0 ≤ c) (h1 : c < 256) : Sec (full c) := ⟨full_length c, fun n hn => by
  unfold Go.Proofs.Ytggdaepflcjmfaa.full at hn
  rw [List.mem_replicate] at hn
  omega⟩
theorem Sec.torn {x y : List Int} (hx : Sec x) (hy : Sec y) {n : Nat} (hn : n ≤ 64) : Sec (x.take n ++ y.drop n) := ⟨by rw [List.length_append, List.length_take, List.length_drop, hx.1, hy.1]; omega, fun k hk => by
  rw [List.mem_append] at hk
  rcases hk with hk | hk
  · exact hx.2 k (List.mem_of_mem_take hk)
  · exact hy.2 k (List.mem_of_mem_drop hk)⟩
theorem Sec.get {x : List Int} (hx : Sec x) {p : Nat} (hp : p < 64) : 0 ≤ x.getD p 0 ∧ x.getD p 0 < 256 := by
  apply hx.2
  rw [List.getD_eq_getElem?_getD, List.getElem?_eq_getElem (by rw [hx.1]; exact hp)]
  exact List.getElem_mem _
theorem Sec.set {x : List Int} (hx : Sec x) (p : Nat) {v : Int} (h0 : 0 ≤ v) (h1 : v < 256) : Sec (x.set p v) := ⟨by rw [List.length_set]; exact hx.1, fun n hn => by
  rcases List.mem_or_eq_of_mem_set hn with h | h
  · exact hx.2 n h
  · omega⟩
theorem xorB_lt {a b : Int} (h1 : 0 ≤ a) (h2 : a < 256) (h3 : 0 ≤ b) (h4 : b < 256) : 0 ≤ xorB a b ∧ xorB a b < 256 := by
  unfold xorB
  rw [u8_xor a b h1 h2 h3 h4]
  have := Nat.xor_lt_two_pow (n := 8) (x := a.toNat) (y := b.toNat) (by omega) (by omega)
  omega
theorem str_back {x : List Int} (hx : ∀ n ∈ x, 0 ≤ n ∧ n < 256) {j : Nat} (hj : j < x.length) : (((strOfNums x).data.toList.getD j 0).toNat : Int) = x.getD j 0 := by
  have hm := hx (x[j]) (List.getElem_mem hj)
  rw [List.getD_eq_getElem?_getD, List.getD_eq_getElem?_getD]
  simp only [strOfNums, List.getElem?_map, List.getElem?_eq_getElem hj, Option.map_some, Option.getD_some]
  simp
  omega

/-- The reference's object: block c, its strings in block h. -/
def RD (w : World) (c h : Nat) (dn wt : Bool) (by_ N : Int) (L : List (List Int)) : Prop :=
  w.heap[c]? = some (.cells #[.slice (some ⟨h, 0, none⟩) L.length L.length, .bool dn, .bool wt, .int .i64 by_, .int .i64 N] 43 (0, 0)) ∧ w.heap[h]? = some (.cells (L.map sv).toArray 9 (0, 0)) ∧ ∀ i, i < L.length → Sec (L.getD i [])

/-- Blocks c and h alone may have turned. -/
structure RKept (c h : Nat) (w w' : World) : Prop where
  os : w'.os = w.os
  tape : w'.tape = w.tape
  output : w'.output = w.output
  size : w.heap.size ≤ w'.heap.size
  block : ∀ k, k < w.heap.size → k ≠ c → k ≠ h → w'.heap[k]? = w.heap[k]?
theorem RKept.refl (c h : Nat) (w : World) : RKept c h w w := ⟨rfl, rfl, rfl, Nat.le_refl _, fun _ _ _ _ => rfl⟩
theorem RKept.drewN {c h : Nat} {w w1 : World} (k : RKept c h w w1) (n : Nat) : RKept c h w (w1.drewN n) := ⟨k.os, k.tape, k.output, k.size, k.block⟩
theorem RKept.drew {c h : Nat} {w w1 : World} (k : RKept c h w w1) : RKept c h w w1.drew := ⟨k.os, k.tape, k.output, k.size, k.block⟩
theorem RKept.set {c h g : Nat} {w w1 : World} (k : RKept c h w w1) (hg : g = c ∨ g = h ∨ w.heap.size ≤ g) (o : Nat) (v : Value) : RKept c h w (w1.setCell ⟨g, o, none⟩ v) :=
  ⟨k.os, k.tape, k.output, by simpa [World.setCell] using k.size, fun j hj h1 h2 => (Below.heap_setCell _ _ _ _ (by show j ≠ g; omega)).trans (k.block j hj h1 h2)⟩
theorem RKept.below {c h : Nat} {w w1 w2 : World} (k : RKept c h w w1) (hb : Below w1.heap.size w1 w2) : RKept c h w w2 :=
  ⟨hb.os.trans k.os, hb.tape.trans k.tape, hb.output.trans k.output, Nat.le_trans k.size hb.size, fun j hj h1 h2 => (hb.block j (Nat.lt_of_lt_of_le hj k.size)).trans (k.block j hj h1 h2)⟩

section
variable {w w' : World} {c h : Nat} {dn wt : Bool} {by_ N : Int} {L : List (List Int)}
theorem RD.ne (r : RD w c h dn wt by_ N L) : h ≠ c := fun e => by
  have h1 := r.1
  rw [← e, r.2.1] at h1
  injection h1 with h1
  injection h1 with _ h1
  exact absurd h1 (by decide)
theorem RD.lt (r : RD w c h dn wt by_ N L) : c < w.heap.size ∧ h < w.heap.size := ⟨lt_of_block r.1, lt_of_block r.2.1⟩
theorem RD.keep (r : RD w c h dn wt by_ N L) (h1 : w'.heap[c]? = w.heap[c]?) (h2 : w'.heap[h]? = w.heap[h]?) : RD w' c h dn wt by_ N L := ⟨h1.trans r.1, h2.trans r.2.1, r.2.2⟩
theorem RD.below (r : RD w c h dn wt by_ N L) (hb : Below w.heap.size w w') : RD w' c h dn wt by_ N L := r.keep (hb.block c r.lt.1) (hb.block h r.lt.2)
theorem RD.drewN (r : RD w c h dn wt by_ N L) (n : Nat) : RD (w.drewN n) c h dn wt by_ N L := r
theorem RD.cells (r : RD w c h dn wt by_ N L) : w.cell? ⟨c, 0, none⟩ = some (.slice (some ⟨h, 0, none⟩) L.length L.length) ∧ w.cell? ⟨c, 1, none⟩ = some (.bool dn) ∧ w.cell? ⟨c, 2, none⟩ = some (.bool wt) ∧ w.cell? ⟨c, 3, none⟩ = some (.int .i64 by_) ∧ w.cell? ⟨c, 4, none⟩ = some (.int .i64 N) ∧
    ∀ k, w.frozen? ⟨c, k, none⟩ = false := by
  have h1 := r.1
  exact ⟨by simp [World.cell?, h1], by simp [World.cell?, h1], by simp [World.cell?, h1], by simp [World.cell?, h1], by simp [World.cell?, h1], fun k => by simp [World.frozen?, h1]⟩
theorem RD.at_ (r : RD w c h dn wt by_ N L) {i : Nat} (hi : i < L.length) : w.cell? ⟨h, i, none⟩ = some (.string (strOfNums (L.getD i []))) ∧ w.frozen? ⟨h, i, none⟩ = false := by
  have h1 := r.2.1
  refine ⟨?_, by simp [World.frozen?, h1]⟩
  simp only [World.cell?, h1]
  rw [List.getD_eq_getElem?_getD, List.getElem?_eq_getElem hi]
  simp [hi, sv]
theorem RD.store (r : RD w c h dn wt by_ N L) (o : Nat) (v : Value) {dn' wt' : Bool} {by' N' : Int}
    (ho : ∀ a : Value, (#[a, .bool dn, .bool wt, .int .i64 by_, .int .i64 N] : Array Value).setIfInBounds o v = #[a, .bool dn', .bool wt', .int .i64 by', .int .i64 N']) : RD (w.setCell ⟨c, o, none⟩ v) c h dn' wt' by' N' L :=
  ⟨by rw [heap_store _ r.1, ho], (Below.heap_setCell _ _ _ _ r.ne).trans r.2.1, r.2.2⟩
theorem RD.set (r : RD w c h dn wt by_ N L) (i : Nat) (x : List Int) (hx : Sec x) : RD (w.setCell ⟨h, i, none⟩ (sv x)) c h dn wt by_ N (L.set i x) := by
  refine ⟨by rw [Below.heap_setCell _ _ _ _ (fun e => r.ne e.symm), r.1, List.length_set], by rw [heap_store _ r.2.1]; simp [List.map_set], fun j hj => ?_⟩
  rw [List.length_set] at hj
  rw [List.getD_eq_getElem?_getD, List.getElem?_set]
  by_cases hij : i = j
  · subst hij
    rw [if_pos rfl, if_pos hj]
    exact hx
  · rw [if_neg hij, ← List.getD_eq_getElem?_getD]
    exact r.2.2 j hj
end

/-! ### Its methods. -/
set_option maxHeartbeats 400000 in
theorem rtear_any {w : World} {c h : Nat} {dn wt : Bool} {by_ N : Int} {L : List (List Int)} (n : Int) (r : RD w c h dn wt by_ N L) :
    Calls Try.prog 19 #[.pointer (some ⟨c, 0, none⟩), .int .i64 n] w fun x w' => x = .returned (.tuple #[]) ∧ RD w' c h dn true n N L ∧ RKept c h w w' := by
  obtain ⟨c0, c1, c2, c3, c4, hz⟩ := r.cells
  have f2 := hz 2
  have f3 := hz 3
  have R := Lib.hid r
  clear r hz
  go_enter Try.func19, Try.ntmps19
  go_wp2
  go_end0
  exact ⟨rfl, (R.out.store 2 (.bool true) (fun _ => rfl)).store 3 (.int .i64 n) (fun _ => rfl), ((RKept.refl _ _ _).set (.inl rfl) _ _).set (.inl rfl) _ _⟩
set_option maxHeartbeats 400000 in
theorem rup_any {w : World} {c h : Nat} {dn wt : Bool} {by_ N : Int} {L : List (List Int)} (r : RD w c h dn wt by_ N L) :
    Calls Try.prog 20 #[.pointer (some ⟨c, 0, none⟩)] w fun x w' => x = .returned (.tuple #[]) ∧ RD w' c h false false by_ N L ∧ RKept c h w w' := by
  obtain ⟨c0, c1, c2, c3, c4, hz⟩ := r.cells
  have f1 := hz 1
  have f2 := hz 2
  have R := Lib.hid r
  clear r hz
  go_enter Try.func20, Try.ntmps20
  go_wp2
  go_end0
  exact ⟨rfl, (R.out.store 1 (.bool false) (fun _ => rfl)).store 2 (.bool false) (fun _ => rfl), ((RKept.refl _ _ _).set (.inl rfl) _ _).set (.inl rfl) _ _⟩
set_option maxHeartbeats 400000 in
theorem rwrite_down {w : World} {c h : Nat} {wt : Bool} {by_ N : Int} {L : List (List Int)} (i : Int) (s : ByteArray) (r : RD w c h true wt by_ N L) :
    Calls Try.prog 18 #[.pointer (some ⟨c, 0, none⟩), .int .i64 i, .string s] w fun x w' => x = .returned (.int .i64 10) ∧ w' = w := by
  obtain ⟨c0, c1, c2, c3, c4, hz⟩ := r.cells
  clear r hz
  go_enter Try.func18, Try.ntmps18
  go_wp2
  go_ret
  exact ⟨rfl, rfl⟩
set_option maxHeartbeats 400000 in
theorem rwrite_bad {w : World} {c h : Nat} {wt : Bool} {by_ N : Int} {L : List (List Int)} (i : Int) (s : ByteArray) (r : RD w c h false wt by_ N L) (hi : i < 0 ∨ (L.length : Int) ≤ i ∨ s.size ≠ 64) :
    Calls Try.prog 18 #[.pointer (some ⟨c, 0, none⟩), .int .i64 i, .string s] w fun x w' => x = .returned (.int .i64 1) ∧ w' = w := by
  obtain ⟨c0, c1, c2, c3, c4, hz⟩ := r.cells
  clear r hz
  generalize L.length = n at *
  rcases (by omega : i < 0 ∨ 0 ≤ i ∧ (n : Int) ≤ i ∨ 0 ≤ i ∧ i < (n : Int) ∧ s.size ≠ 64) with hi | ⟨hi, hi2⟩ | ⟨hi, hi2, hm64⟩
  · go_enter Try.func18, Try.ntmps18
    go_wp2
    go_ret
    exact ⟨rfl, rfl⟩
  · go_enter Try.func18, Try.ntmps18
    go_wp2
    go_ret
    exact ⟨rfl, rfl⟩
  · have hb : ((s.size : Int) == 64) = false := beq_eq_false_iff_ne.2 (by omega)
    have hb' : ((s.size : Int) != 64) = true := bne_iff_ne.2 (by omega)
    clear hm64
    go_enter Try.func18, Try.ntmps18
    go_wp2
    go_ret
    exact ⟨rfl, rfl⟩
set_option maxHeartbeats 1000000 in
theorem rwrite_ok {w : World} {c h : Nat} {by_ N : Int} {L : List (List Int)} (i : Nat) (x : List Int) (r : RD w c h false false by_ N L) (hi : i < L.length) (hx : Sec x) (h0 : 0 ≤ N) (h1 : N ≤ 1000000) :
    Calls Try.prog 18 #[.pointer (some ⟨c, 0, none⟩), .int .i64 (i : Int), sv x] w fun y w' => y = .returned (.int .i64 0) ∧ RD w' c h false false by_ (N + 1) (L.set i x) ∧ RKept c h w w' := by
  obtain ⟨c0, c1, c2, c3, c4, hz⟩ := r.cells
  obtain ⟨ci, fi⟩ := r.at_ hi
  have f4 := hz 4
  have hs : (strOfNums x).size = 64 := by rw [strOf_size, hx.1]
  have hne := r.ne
  have R := Lib.hid r
  have HX := Lib.hid hx
  have HNE := Lib.hid hne
  have hi' : (i : Int) < (L.length : Int) := by omega
  have e0 : (w.setCell ⟨c, 4, none⟩ (.int .i64 (N + 1))).cell? ⟨h, i, none⟩ = some (.string (strOfNums (L.getD i []))) := (World.cell?_of_block (Below.heap_setCell _ _ _ _ hne)).trans ci
  have HW := Lib.hid ((r.store 4 (.int .i64 (N + 1)) (dn' := false) (wt' := false) (by' := by_) (N' := N + 1) (fun _ => rfl)).set i x hx)
  clear r hz hne ci
  unfold sv at HW ⊢
  generalize strOfNums x = X at *
  generalize strOfNums (L.getD i []) = Y at *
  go_enter Try.func18, Try.ntmps18
  go_wp2
  go_ret
  exact ⟨rfl, HW.out, ((RKept.refl _ _ _).set (.inl rfl) _ _).set (.inr (.inl rfl)) _ _⟩

theorem str_torn (x y : List Int) (n : Nat) (hy : y.length = 64) : (strOfNums x).extract 0 n ++ (strOfNums y).extract n 64 = strOfNums (x.take n ++ y.drop n) := by
  apply ByteArray.ext
  simp only [ByteArray.data_append, ByteArray.data_extract, strOfNums]
  apply Array.ext'
  simp [List.map_take, List.map_drop]
  rw [List.take_of_length_le (by simp [hy])]

set_option maxRecDepth 100000 in
set_option maxHeartbeats 4000000 in
theorem rwrite_torn {w : World} {c h : Nat} {by_ N : Int} {L : List (List Int)} (i tn : Nat) (x : List Int) (r : RD w c h false true by_ N L) (ht : (tn : Int) = clampT by_) (hi : i < L.length) (hx : Sec x) (h0 : 0 ≤ N) (h1 : N ≤ 1000000) :
    Calls Try.prog 18 #[.pointer (some ⟨c, 0, none⟩), .int .i64 (i : Int), sv x] w fun y w' => y = .returned (.int .i64 10) ∧ RD w' c h true false by_ (N + 1) (L.set i (x.take tn ++ (L.getD i []).drop tn)) ∧ RKept c h w w' := by
  obtain ⟨c0, c1, c2, c3, c4, hz⟩ := r.cells
  obtain ⟨ci, fi⟩ := r.at_ hi
  have f4 := hz 4
  have f2 := hz 2
  have f1 := hz 1
  have hcl := clampT_le by_
  have htn : tn ≤ 64 := by omega
  have hs : (strOfNums x).size = 64 := by rw [strOf_size, hx.1]
  have hy := r.2.2 i hi
  have hsY : (strOfNums (L.getD i [])).size = 64 := by rw [strOf_size, hy.1]
  have hne := r.ne
  have hne' : c ≠ h := hne.symm
  have hi' : (i : Int) < (L.length : Int) := by omega
  have e0 : (w.setCell ⟨c, 4, none⟩ (.int .i64 (N + 1))).drew.cell? ⟨h, i, none⟩ = some (.string (strOfNums (L.getD i []))) := (World.cell?_of_block (Below.heap_setCell _ _ _ _ hne)).trans ci
  have HW := Lib.hid ((((r.store 4 (.int .i64 (N + 1)) (dn' := false) (wt' := true) (by' := by_) (N' := N + 1) (fun _ => rfl)).set i (x.take tn ++ (L.getD i []).drop tn) (hx.torn hy htn)).store 2 (.bool false) (dn' := false) (wt' := false) (by' := by_) (N' := N + 1) (fun _ => rfl)).store 1 (.bool true) (dn' := true) (wt' := false) (by' := by_) (N' := N + 1) (fun _ => rfl))
  unfold sv at HW ⊢
  rw [← str_torn x _ tn hy.1] at HW
  have HT := Lib.hid ht
  clear r hz ci hx hy ht
  generalize strOfNums x = X at *
  generalize strOfNums (L.getD i []) = Y at *
  generalize x.take tn ++ (L.getD i []).drop tn = Z at *
  rcases (by omega : by_ < 0 ∨ 0 ≤ by_ ∧ by_ ≤ 64 ∨ 64 < by_) with hb | ⟨hb, hb2⟩ | hb
  · have e : tn = 0 := by have := HT.out; unfold clampT at this; rw [if_pos hb] at this; omega
    subst e
    clear HT htn
    rw [show X.extract 0 0 ++ Y.extract 0 64 = Y.extract 0 64 from by simp] at HW
    go_enter Try.func18, Try.ntmps18
    go_wp2_with fail
    go_region
    all_goals
      go_wp2_with fail
      go_ret
      exact ⟨rfl, HW.out, (((((RKept.refl _ _ _).set (.inl rfl) _ _).set (.inr (.inl rfl)) _ _).set (.inl rfl) _ _).set (.inl rfl) _ _).drew⟩
  · obtain rfl : by_ = (tn : Int) := by have := HT.out; unfold clampT at this; rw [if_neg (by omega), if_neg (by omega)] at this; omega
    clear HT hcl
    go_enter Try.func18, Try.ntmps18
    go_wp2_with fail
    go_region
    all_goals
      go_wp2_with fail
      go_ret
      exact ⟨rfl, HW.out, (((((RKept.refl _ _ _).set (.inl rfl) _ _).set (.inr (.inl rfl)) _ _).set (.inl rfl) _ _).set (.inl rfl) _ _).drew⟩
  · have e : tn = 64 := by have := HT.out; unfold clampT at this; rw [if_neg (by omega), if_pos hb] at this; omega
    subst e
    clear HT htn
    rw [show X.extract 0 64 ++ Y.extract 64 64 = X.extract 0 64 from by simp] at HW
    go_enter Try.func18, Try.ntmps18
    go_wp2_with fail
    go_region
    all_goals
      go_wp2_with fail
      go_ret
      exact ⟨rfl, HW.out, (((((RKept.refl _ _ _).set (.inl rfl) _ _).set (.inr (.inl rfl)) _ _).set (.inl rfl) _ _).set (.inl rfl) _ _).drew⟩

set_option maxHeartbeats 400000 in
theorem rspoil_bad {w : World} {c h : Nat} {dn wt : Bool} {by_ N : Int} {L : List (List Int)} (i p t : Int) (r : RD w c h dn wt by_ N L) (hi : i < 0 ∨ (L.length : Int) ≤ i ∨ p < 0 ∨ 64 ≤ p) :
    Calls Try.prog 22 #[.pointer (some ⟨c, 0, none⟩), .int .i64 i, .int .i64 p, .int .u8 t] w fun x w' => x = .returned (.int .i64 1) ∧ w' = w := by
  obtain ⟨c0, c1, c2, c3, c4, hz⟩ := r.cells
  clear r hz
  generalize L.length = n at *
  rcases (by omega : i < 0 ∨ 0 ≤ i ∧ (n : Int) ≤ i ∨ 0 ≤ i ∧ i < (n : Int) ∧ p < 0 ∨ 0 ≤ i ∧ i < (n : Int) ∧ 0 ≤ p ∧ 64 ≤ p) with hi | ⟨hi, hi2⟩ | ⟨hi, hi2, hi3⟩ | ⟨hi, hi2, hi3, hi4⟩
  all_goals
    go_enter Try.func22, Try.ntmps22
    go_wp2
    go_ret
    exact ⟨rfl, rfl⟩

set_option maxHeartbeats 2000000 in
theorem rspoil_any {w : World} {c h : Nat} {dn wt : Bool} {by_ N : Int} {L : List (List Int)} (i p : Nat) (t : Int) (r : RD w c h dn wt by_ N L) (hi : i < L.length) (hp : p < 64) (ht0 : 0 ≤ t) (ht1 : t < 256) :
    Calls Try.prog 22 #[.pointer (some ⟨c, 0, none⟩), .int .i64 (i : Int), .int .i64 (p : Int), .int .u8 t] w fun x w' => x = .returned (.int .i64 0) ∧ RD w' c h dn wt by_ N (L.set i ((L.getD i []).set p (xorB ((L.getD i []).getD p 0) t))) ∧ RKept c h w w' := by
  obtain ⟨c0, c1, c2, c3, c4, hz⟩ := r.cells
  obtain ⟨ci, fi⟩ := r.at_ hi
  have hsec := r.2.2 i hi
  have hs : (strOfNums (L.getD i [])).size = 64 := by rw [strOf_size, hsec.1]
  have hi' : (i : Int) < (L.length : Int) := by omega
  have hconv := Lib.run_convert_string_bytes (P := Try.prog) w 9 27 5 (strOfNums (L.getD i [])) Try.underlying9 Try.underlying27 Try.underlying5
  rw [hs] at hconv
  have hbw : Below w.heap.size w (Lib.bytesWorld w 5 (strOfNums (L.getD i []))) := ⟨rfl, rfl, rfl, by rw [Lib.bytesWorld_size]; omega, fun k hk => Lib.bytesWorld_at_old w 5 _ k hk⟩
  have hbn := Lib.bytesWorld_at_new w 5 (strOfNums (L.getD i []))
  have hbc : ∀ j, j < 64 → (Lib.bytesWorld w 5 (strOfNums (L.getD i []))).cell? ⟨w.heap.size, j, none⟩ = some (.int .u8 ((L.getD i []).getD j 0)) := fun j hj => by
    rw [Lib.bytesWorld_cell w 5 _ j (by rw [hs]; exact hj), str_back hsec.2 (by rw [hsec.1]; exact hj)]
  have hcap := grownCap_ge w 64 0 5
  have hfz : (Lib.bytesWorld w 5 (strOfNums (L.getD i []))).frozen? ⟨w.heap.size, p, none⟩ = false := by
    have hz2 : 64 ≤ (Lib.bytesCells w 5 (strOfNums (L.getD i []))).size := by
      unfold Lib.bytesCells
      rw [Array.size_append, Array.size_map]
      have : (strOfNums (L.getD i [])).data.size = 64 := hs
      omega
    simp only [World.frozen?, hbn]
    have hnp : ¬ (Lib.bytesCells w 5 (strOfNums (L.getD i []))).size ≤ p := by omega
    simp
    intro hle
    exact absurd hle (by simpa using hnp)
  generalize Lib.bytesWorld w 5 (strOfNums (L.getD i [])) = w1 at *
  generalize grownCap w 64 0 5 = cap at *
  generalize hX : L.getD i [] = x at *
  obtain ⟨q, hq⟩ : ∃ q, x.getD p 0 = q := ⟨_, rfl⟩
  rw [hq]
  have hcp := hbc p hp
  rw [hq] at hcp
  have hvb := xorB_lt (hsec.get hp).1 (hsec.get hp).2 ht0 ht1
  rw [hq] at hvb
  obtain ⟨v, hv⟩ : ∃ v, xorB q t = v := ⟨_, rfl⟩
  rw [hv] at hvb
  have r1 := r.below hbw
  have hlt := r.lt
  have hsz : w.heap.size < w1.heap.size := lt_of_block hbn
  have r2 : RD (w1.setCell ⟨w.heap.size, p, none⟩ (.int .u8 v)) c h dn wt by_ N L := r1.keep (Below.heap_setCell _ _ _ _ (by show c ≠ w.heap.size; omega)) (Below.heap_setCell _ _ _ _ (by show h ≠ w.heap.size; omega))
  have hbv : BVals (w1.setCell ⟨w.heap.size, p, none⟩ (.int .u8 v)) (.slice (some ⟨w.heap.size, 0, none⟩) 64 cap) (x.set p v) := by
    refine .inr (.inr ⟨w.heap.size, 0, cap, by rw [List.length_set, hsec.1], by rw [List.length_set, hsec.1]; exact hcap, by simpa [World.setCell] using hsz, fun k hk => ?_⟩)
    rw [List.length_set, hsec.1] at hk
    rw [Nat.zero_add]
    have hst := heap_store (o := p) (.int .u8 v) hbn
    simp only [World.cell?, hst]
    have h0 := hbc k hk
    simp only [World.cell?, hbn] at h0
    by_cases hkp : p = k
    · subst hkp
      have hlt2 : p < (Lib.bytesCells w 5 (strOfNums x)).size := by
        have := (Array.getElem?_eq_some_iff.1 (by simpa using h0)).1
        exact this
      simp [hlt2, hsec.1, hk]
    · rw [List.getD_eq_getElem?_getD, List.getElem?_set, if_neg hkp, ← List.getD_eq_getElem?_getD]
      simpa [Array.getElem?_setIfInBounds, hkp] using h0
  have kz := bvals_str (hbv.below (Below.refl _ _).drew)
  have d0 : (w1.setCell ⟨w.heap.size, p, none⟩ (.int .u8 v)).drew.cell? ⟨c, 0, none⟩ = some (.slice (some ⟨h, 0, none⟩) L.length L.length) := r2.cells.1
  obtain ⟨d1, d2⟩ := r2.at_ hi
  have d1' : (w1.setCell ⟨w.heap.size, p, none⟩ (.int .u8 v)).drew.cell? ⟨h, i, none⟩ = some (.string (strOfNums (L.getD i []))) := d1
  have d2' : (w1.setCell ⟨w.heap.size, p, none⟩ (.int .u8 v)).drew.frozen? ⟨h, i, none⟩ = false := d2
  have HW := Lib.hid (r2.set i (x.set p v) (hsec.set p hvb.1 hvb.2))
  have HK := Lib.hid (((RKept.refl c h w).below hbw).set (.inr (.inr (Nat.le_refl w.heap.size))) p (.int .u8 v))
  have hcapI : (64 : Int) ≤ (cap : Int) := by omega
  unfold sv at HW
  rw [← hv] at HW HK d0 d1' d2' kz
  rw [show xorB q t = bits .xor .u8 q t from rfl] at *
  generalize hZ : strOfNums (x.set p (bits .xor .u8 q t)) = Z at *
  generalize hL' : L.set i (x.set p (bits .xor .u8 q t)) = L' at *
  generalize strOfNums (L.getD i []) = Y at *
  generalize strOfNums x = Y2 at *
  clear r hz r1 r2 hbv hbc hbn hsec hv hvb hs d1 d2 hbw hlt hsz hq hZ hL'
  go_enter Try.func22, Try.ntmps22
  go_wp2_with fail
  go_region
  all_goals
    go_wp2_with fail
    go_ret
    exact ⟨rfl, HW.out, (HK.out.set (.inr (.inl rfl)) _ _).drew⟩

end Go.Proofs.Ytggdaepflcjmfaa
