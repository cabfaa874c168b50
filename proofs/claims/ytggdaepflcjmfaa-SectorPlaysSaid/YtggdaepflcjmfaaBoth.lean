/-
  Both disks side by side: what each method makes of the document's state, the program's and the reference's; conditions: at most 4096 sectors, fewer than 1000000 writes.
-/
import Derived.Test.YtggdaepflcjmfaaRef2
namespace Go.Proofs.Ytggdaepflcjmfaa
open Go.RowKit

/-- The document's disk. -/
structure St where
  dn : Bool
  wt : Bool
  by_ : Int
  R : Int
  L : List (List Int)

def stT (s : St) : Int := if s.wt then clampT s.by_ else -1
def okW (s : St) (i : Int) (x : List Int) : Prop := 0 ≤ i ∧ i < (s.L.length : Int) ∧ x.length = 64
instance (s : St) (i : Int) (x : List Int) : Decidable (okW s i x) := by unfold okW; infer_instance
def wrC (s : St) (i : Int) (x : List Int) : Int := if s.dn then 10 else if okW s i x then (if s.wt then 10 else 0) else 1
def wrS (s : St) (i : Int) (x : List Int) : St :=
  if s.dn then s else if okW s i x then
    (if s.wt then { s with dn := true, wt := false, R := s.R + 1, L := s.L.set i.toNat (x.take (clampT s.by_).toNat ++ (s.L.getD i.toNat []).drop (clampT s.by_).toNat) } else { s with R := s.R + 1, L := s.L.set i.toNat x })
  else s
def teS (s : St) (n : Int) : St := { s with wt := true, by_ := n }
def upS (s : St) : St := { s with dn := false, wt := false }
def okP (s : St) (i p : Int) : Prop := 0 ≤ i ∧ i < (s.L.length : Int) ∧ 0 ≤ p ∧ p < 64
instance (s : St) (i p : Int) : Decidable (okP s i p) := by unfold okP; infer_instance
def spC (s : St) (i p : Int) : Int := if okP s i p then 0 else 1
def spS (s : St) (i p t : Int) : St := if okP s i p then { s with L := s.L.set i.toNat ((s.L.getD i.toNat []).set p.toNat (xorB ((s.L.getD i.toNat []).getD p.toNat 0) t)) } else s

def J (w w1 : World) (b e c h : Nat) (s s' : St) : Prop := D w w1 b e (stT s) s.dn s.R s.L ∧ RD w1 c h s'.dn s'.wt s'.by_ s'.R s'.L ∧ e ≤ c ∧ e ≤ h

theorem RKept.kept_d {w w1 w2 : World} {b e c h : Nat} {t R : Int} {dn : Bool} {L : List (List Int)} (d : D w w1 b e t dn R L) (hc : e ≤ c) (hh : e ≤ h) (k : RKept c h w1 w2) : D w w2 b e t dn R L := by
  have hlt := d.1.lt
  exact ⟨d.1.keep k.size fun j _ hj => k.block j (by omega) (by omega) (by omega), d.2.1.trans ⟨k.os, k.tape, k.output, k.size, fun j hj => k.block j (by have := d.2.2; omega) (by omega) (by omega)⟩, Nat.le_trans d.2.2 k.size⟩
theorem Kept.rd {w1 w2 : World} {b e c h : Nat} {dn wt : Bool} {by_ N : Int} {L : List (List Int)} (r : RD w1 c h dn wt by_ N L) (hc : e ≤ c) (hh : e ≤ h) (k : Kept b e w1 w2) : RD w2 c h dn wt by_ N L :=
  r.keep (k.block c r.lt.1 (.inr hc)) (k.block h r.lt.2 (.inr hh))
theorem J.below {w w1 w2 : World} {b e c h : Nat} {s s' : St} (j : J w w1 b e c h s s') (hb : Below w1.heap.size w1 w2) : J w w2 b e c h s s' := ⟨j.1.below hb, j.2.1.below hb, j.2.2⟩
theorem J.drewN {w w1 : World} {b e c h : Nat} {s s' : St} (j : J w w1 b e c h s s') (n : Nat) : J w (w1.drewN n) b e c h s s' := j.below (belowDrewN (Below.refl _ _) n)
/-- A block beside both is written. -/
theorem J.setCell {w w1 : World} {b e c h g o : Nat} {s s' : St} (j : J w w1 b e c h s s') (h1 : e ≤ g) (h2 : g ≠ c) (h3 : g ≠ h) (v : Value) : J w (w1.setCell ⟨g, o, none⟩ v) b e c h s s' :=
  ⟨j.1.setCell h1 v, j.2.1.keep (Below.heap_setCell _ _ _ _ fun e => h2 e.symm) (Below.heap_setCell _ _ _ _ fun e => h3 e.symm), j.2.2⟩

section
variable {w w1 : World} {b e c h : Nat} {s s' : St}
theorem j_write (i : Int) (a : Option Addr) (cc : Nat) (x : List Int) (j : J w w1 b e c h s s') (h0 : 0 ≤ s.R) (h1 : s.R ≤ 1000000) (hv : BVals w1 (.slice a x.length cc) x) (hg : x ≠ [] → ∀ u, a = some u → u.block < b ∨ e ≤ u.block) :
    Calls Try.prog 10 #[.pointer (some ⟨b, 0, none⟩), .int .i64 i, .slice a x.length cc] w1 fun y w' => y = .returned (.int .i64 (wrC s i x)) ∧ J w w' b e c h (wrS s i x) s' ∧ Kept b e w1 w' := by
  have hr := j.1.1
  unfold wrC wrS
  by_cases hdn : s.dn = true
  · rw [if_pos hdn, if_pos hdn]
    rw [hdn] at hr
    exact (write_down b e _ _ _ i _ w1 hr).mono fun _ _ ⟨hy, hw⟩ => ⟨hy, hw ▸ j, hw ▸ Kept.refl _ _ _⟩
  · have hdn' : s.dn = false := by simpa using hdn
    rw [if_neg hdn, if_neg hdn]
    rw [hdn'] at hr
    by_cases hok : okW s i x
    · rw [if_pos hok, if_pos hok]
      obtain ⟨hi0, hi1, hx⟩ := hok
      obtain ⟨n, rfl⟩ := Int.eq_ofNat_of_zero_le hi0
      have hn : n < s.L.length := by omega
      have hxe : x ≠ [] := fun e => by rw [e] at hx; simp at hx
      by_cases hwt : s.wt = true
      · have ht : stT s = (((clampT s.by_).toNat : Nat) : Int) := by have := clampT_le s.by_; unfold stT; rw [if_pos hwt]; omega
        rw [ht] at hr
        rw [hx] at hv ⊢
        rw [if_pos hwt, if_pos hwt]
        exact (write_torn b e s.R s.L n (clampT s.by_).toNat a cc x w1 hr (by have := clampT_le s.by_; omega) h0 h1 hn hx hv (hg hxe)).mono fun _ _ ⟨hy, hr2, hk⟩ => ⟨hy, ⟨j.1.kept hk hr2, Kept.rd j.2.1 j.2.2.1 j.2.2.2 hk, j.2.2⟩, hk⟩
      · have hwt' : s.wt = false := by simpa using hwt
        have ht : stT s = -1 := by unfold stT; rw [if_neg hwt]
        rw [ht] at hr
        rw [hx] at hv ⊢
        rw [if_neg hwt, if_neg hwt]
        refine (write_ok b e s.R s.L n a cc x w1 hr h0 h1 hn hx hv (hg hxe)).mono fun _ _ ⟨hy, hr2, hk⟩ => ⟨hy, ⟨j.1.kept hk ?_, Kept.rd j.2.1 j.2.2.1 j.2.2.2 hk, j.2.2⟩, hk⟩
        have ht2 : stT { s with R := s.R + 1, L := s.L.set n x } = -1 := ht
        rw [Int.toNat_natCast, ht2, hdn']
        exact hr2
    · rw [if_neg hok, if_neg hok]
      exact (write_bad b e _ _ _ i a x.length cc w1 hr (by unfold okW at hok; omega)).mono fun _ _ ⟨hy, hw⟩ => ⟨hy, hw ▸ j, hw ▸ Kept.refl _ _ _⟩

theorem j_rwrite (i : Int) (x : List Int) (j : J w w1 b e c h s s') (h0 : 0 ≤ s'.R) (h1 : s'.R ≤ 1000000) (hx : ∀ n ∈ x, 0 ≤ n ∧ n < 256) :
    Calls Try.prog 18 #[.pointer (some ⟨c, 0, none⟩), .int .i64 i, sv x] w1 fun y w' => y = .returned (.int .i64 (wrC s' i x)) ∧ J w w' b e c h s (wrS s' i x) ∧ RKept c h w1 w' := by
  have hr := j.2.1
  unfold wrC wrS
  by_cases hdn : s'.dn = true
  · rw [if_pos hdn, if_pos hdn]
    rw [hdn] at hr
    exact (rwrite_down i _ hr).mono fun _ _ ⟨hy, hw⟩ => ⟨hy, hw ▸ j, hw ▸ RKept.refl _ _ _⟩
  · have hdn' : s'.dn = false := by simpa using hdn
    rw [if_neg hdn, if_neg hdn]
    rw [hdn'] at hr
    by_cases hok : okW s' i x
    · rw [if_pos hok, if_pos hok]
      obtain ⟨hi0, hi1, hx64⟩ := hok
      obtain ⟨n, rfl⟩ := Int.eq_ofNat_of_zero_le hi0
      have hn : n < s'.L.length := by omega
      by_cases hwt : s'.wt = true
      · rw [hwt] at hr
        rw [if_pos hwt, if_pos hwt]
        exact (rwrite_torn n (clampT s'.by_).toNat x hr (by have := clampT_le s'.by_; omega) hn ⟨hx64, hx⟩ h0 h1).mono fun _ _ ⟨hy, hr2, hk⟩ => ⟨hy, ⟨RKept.kept_d j.1 j.2.2.1 j.2.2.2 hk, hr2, j.2.2⟩, hk⟩
      · have hwt' : s'.wt = false := by simpa using hwt
        rw [hwt'] at hr
        rw [if_neg hwt, if_neg hwt]
        refine (rwrite_ok n x hr hn ⟨hx64, hx⟩ h0 h1).mono fun _ _ ⟨hy, hr2, hk⟩ => ⟨hy, ⟨RKept.kept_d j.1 j.2.2.1 j.2.2.2 hk, ?_, j.2.2⟩, hk⟩
        rw [Int.toNat_natCast, hdn', hwt']
        exact hr2
    · rw [if_neg hok, if_neg hok]
      exact (rwrite_bad i _ hr (by rw [strOf_size]; unfold okW at hok; omega)).mono fun _ _ ⟨hy, hw⟩ => ⟨hy, hw ▸ j, hw ▸ RKept.refl _ _ _⟩

theorem j_tear (n : Int) (j : J w w1 b e c h s s') :
    Calls Try.prog 9 #[.pointer (some ⟨b, 0, none⟩), .int .i64 n] w1 fun y w' => y = .returned (.tuple #[]) ∧ J w w' b e c h (teS s n) s' ∧ Kept b e w1 w' :=
  (tear_any b e _ _ _ _ n w1 j.1.1).mono fun _ _ ⟨hy, hr, hk⟩ => ⟨hy, ⟨j.1.kept hk hr, Kept.rd j.2.1 j.2.2.1 j.2.2.2 hk, j.2.2⟩, hk⟩
theorem j_rtear (n : Int) (j : J w w1 b e c h s s') :
    Calls Try.prog 19 #[.pointer (some ⟨c, 0, none⟩), .int .i64 n] w1 fun y w' => y = .returned (.tuple #[]) ∧ J w w' b e c h s (teS s' n) ∧ RKept c h w1 w' :=
  (rtear_any n j.2.1).mono fun _ _ ⟨hy, hr, hk⟩ => ⟨hy, ⟨RKept.kept_d j.1 j.2.2.1 j.2.2.2 hk, hr, j.2.2⟩, hk⟩
theorem j_up (j : J w w1 b e c h s s') :
    Calls Try.prog 12 #[.pointer (some ⟨b, 0, none⟩)] w1 fun y w' => y = .returned (.tuple #[]) ∧ J w w' b e c h (upS s) s' ∧ Kept b e w1 w' :=
  (up_any b e _ _ _ _ w1 j.1.1).mono fun _ _ ⟨hy, hr, hk⟩ => ⟨hy, ⟨j.1.kept hk hr, Kept.rd j.2.1 j.2.2.1 j.2.2.2 hk, j.2.2⟩, hk⟩
theorem j_rup (j : J w w1 b e c h s s') :
    Calls Try.prog 20 #[.pointer (some ⟨c, 0, none⟩)] w1 fun y w' => y = .returned (.tuple #[]) ∧ J w w' b e c h s (upS s') ∧ RKept c h w1 w' :=
  (rup_any j.2.1).mono fun _ _ ⟨hy, hr, hk⟩ => ⟨hy, ⟨RKept.kept_d j.1 j.2.2.1 j.2.2.2 hk, hr, j.2.2⟩, hk⟩
theorem j_spoil (i p t : Int) (j : J w w1 b e c h s s') :
    Calls Try.prog 21 #[.pointer (some ⟨b, 0, none⟩), .int .i64 i, .int .i64 p, .int .u8 t] w1 fun y w' => y = .returned (.int .i64 (spC s i p)) ∧ J w w' b e c h (spS s i p t) s' ∧ Kept b e w1 w' := by
  unfold spC spS
  by_cases hok : okP s i p
  · rw [if_pos hok, if_pos hok]
    obtain ⟨hi0, hi1, hp0, hp1⟩ := hok
    obtain ⟨n, rfl⟩ := Int.eq_ofNat_of_zero_le hi0
    obtain ⟨q, rfl⟩ := Int.eq_ofNat_of_zero_le hp0
    exact (spoil_any b e _ _ _ _ n q t w1 j.1.1 (by omega) (by omega)).mono fun _ _ ⟨hy, hr, hk⟩ => ⟨hy, ⟨j.1.kept hk hr, Kept.rd j.2.1 j.2.2.1 j.2.2.2 hk, j.2.2⟩, hk⟩
  · rw [if_neg hok, if_neg hok]
    exact (spoil_bad b e _ _ _ _ i p t w1 j.1.1 (by unfold okP at hok; omega)).mono fun _ _ ⟨hy, hw⟩ => ⟨hy, hw ▸ j, hw ▸ Kept.refl _ _ _⟩
theorem j_rspoil (i p t : Int) (j : J w w1 b e c h s s') (h0 : 0 ≤ t) (h1 : t < 256) :
    Calls Try.prog 22 #[.pointer (some ⟨c, 0, none⟩), .int .i64 i, .int .i64 p, .int .u8 t] w1 fun y w' => y = .returned (.int .i64 (spC s' i p)) ∧ J w w' b e c h s (spS s' i p t) ∧ RKept c h w1 w' := by
  unfold spC spS
  by_cases hok : okP s' i p
  · rw [if_pos hok, if_pos hok]
    obtain ⟨hi0, hi1, hp0, hp1⟩ := hok
    obtain ⟨n, rfl⟩ := Int.eq_ofNat_of_zero_le hi0
    obtain ⟨q, rfl⟩ := Int.eq_ofNat_of_zero_le hp0
    exact (rspoil_any n q t j.2.1 (by omega) (by omega) h0 h1).mono fun _ _ ⟨hy, hr, hk⟩ => ⟨hy, ⟨RKept.kept_d j.1 j.2.2.1 j.2.2.2 hk, hr, j.2.2⟩, hk⟩
  · rw [if_neg hok, if_neg hok]
    exact (rspoil_bad i p t j.2.1 (by unfold okP at hok; omega)).mono fun _ _ ⟨hy, hw⟩ => ⟨hy, hw ▸ j, hw ▸ RKept.refl _ _ _⟩

def okI (s : St) (i : Int) : Prop := 0 ≤ i ∧ i < (s.L.length : Int)
theorem j_read (i : Nat) (j : J w w1 b e c h s s') (hi : i < s.L.length) :
    Calls Try.prog 13 #[.pointer (some ⟨b, 0, none⟩), .int .i64 (i : Int)] w1 fun y w' => ∃ g k, y = .returned (.tuple #[.slice (some ⟨g, 0, none⟩) 64 k, .int .i64 0]) ∧ J w w' b e c h s s' ∧ Got e w' g k (s.L.getD i []) ∧ Below w1.heap.size w1 w' :=
  (d_read i j.1 hi).mono fun _ _ ⟨g, k, hy, _, hg, hb⟩ => ⟨g, k, hy, j.below hb, hg, hb⟩
theorem j_read_bad (i : Int) (j : J w w1 b e c h s s') (hi : i < 0 ∨ (s.L.length : Int) ≤ i) :
    Calls Try.prog 13 #[.pointer (some ⟨b, 0, none⟩), .int .i64 i] w1 fun y w' => y = .returned (.tuple #[.slice none 0 0, .int .i64 1]) ∧ w' = w1 :=
  read_bad b e _ _ _ _ i w1 j.1.1 hi
theorem j_told (j : J w w1 b e c h s s') :
    Calls Try.prog 14 #[] w1 fun y w' => y = .returned (.bool true) ∧ J w w' b e c h s s' :=
  (told_any w1).mono fun _ _ ⟨hy, hb⟩ => ⟨hy, j.below hb⟩
end

theorem wrS_R (s : St) (i : Int) (x : List Int) : s.R ≤ (wrS s i x).R ∧ (wrS s i x).R ≤ s.R + 1 ∧ (wrS s i x).L.length = s.L.length := by
  unfold wrS
  split
  · exact ⟨by omega, by omega, rfl⟩
  · split
    · split
      · exact ⟨by simp; omega, by simp, by simp⟩
      · exact ⟨by simp; omega, by simp, by simp⟩
    · exact ⟨by omega, by omega, rfl⟩
theorem spS_R (s : St) (i p t : Int) : (spS s i p t).R = s.R ∧ (spS s i p t).L.length = s.L.length := by
  unfold spS
  split
  · exact ⟨rfl, by simp⟩
  · exact ⟨rfl, rfl⟩

end Go.Proofs.Ytggdaepflcjmfaa
