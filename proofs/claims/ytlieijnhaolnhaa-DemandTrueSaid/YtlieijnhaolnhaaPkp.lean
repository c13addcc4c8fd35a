/- Chapter 13: the keys that take most: plain. No program in sight. -/
import Derived.Test.YtlieijnhaolnhaaLibRank
import Derived.Test.YtlieijnhaolnhaaLibSpan
namespace Go.Kq

def kLo (K : List (Int × Int)) (i : Nat) : Int := (K.getD i (0, 0)).1
def kHi (K : List (Int × Int)) (i : Nat) : Int := (K.getD i (0, 0)).2
/-- Key i comes before key j. -/
def bef (K : List (Int × Int)) (i j : Nat) : Bool := decide (kHi K j < kHi K i ∨ (kHi K i = kHi K j ∧ (kLo K j < kLo K i ∨ (kLo K i = kLo K j ∧ i < j))))
theorem bef_irr (K : List (Int × Int)) (i : Nat) : bef K i i = false := by
  unfold bef
  rw [decide_eq_false_iff_not]
  omega
theorem bef_asym (K : List (Int × Int)) (i j : Nat) (h : bef K i j = true) : bef K j i = false := by
  unfold bef at *
  rw [decide_eq_true_eq] at h
  rw [decide_eq_false_iff_not]
  omega
theorem bef_total (K : List (Int × Int)) {i j : Nat} (h : bef K j i = false) (hne : i ≠ j) : bef K i j = true := by
  unfold bef at *
  rw [decide_eq_false_iff_not] at h
  rw [decide_eq_true_eq]
  omega
/-- T is the choice of at most m of n keys. -/
structure Top (K : List (Int × Int)) (m : Nat) (T : List Nat) : Prop where
  asc : T.Pairwise (· < ·)
  len : T.length = min m K.length
  mem : ∀ i, i ∈ T ↔ i < K.length ∧ (List.range K.length).countP (fun k => bef K k i) < m
  best : (∀ i, i < K.length → 0 ≤ kHi K i) → ∀ J : List Nat, J.Nodup → (∀ x ∈ J, x < K.length) → J.length ≤ m → sumL (kHi K) J ≤ sumL (kHi K) T
theorem asc_of_le {l : List Int} (h : l.Pairwise (· ≤ ·)) (hn : l.Nodup) : l.Pairwise (· < ·) := by
  have hn' : l.Pairwise fun a b => a ≠ b := hn
  exact (h.and hn').imp fun {a b} ⟨h1, h2⟩ => by omega
theorem top_of {K : List (Int × Int)} {m : Nat} {S T : List Nat} (hS : S.Perm (List.range K.length)) (hp : S.Pairwise fun x y => bef K y x = false) (hT : T.Perm (S.take m)) (hle : T.Pairwise (· ≤ ·)) : Top K m T := by
  have hnd : S.Nodup := hS.nodup_iff.2 List.nodup_range
  have hnd' : S.Pairwise fun a b => a ≠ b := hnd
  have hp2 : S.Pairwise fun a b => bef K a b = true := (hp.and hnd').imp fun {a b} ⟨h1, h2⟩ => bef_total K h1 h2
  have hTn : T.Nodup := hT.nodup_iff.2 (hnd.sublist (List.take_sublist _ _))
  have hTn' : T.Pairwise fun a b => a ≠ b := hTn
  have hm : ∀ x, x ∈ S ↔ x < K.length := fun x => by rw [hS.mem_iff]; exact List.mem_range
  refine ⟨(hle.and hTn').imp fun {a b} ⟨h1, h2⟩ => by omega, ?_, fun i => ?_, fun hn J hJ hs hl => ?_⟩
  · rw [hT.length_eq, List.length_take, hS.length_eq, List.length_range]
  · rw [hT.mem_iff, mem_take_rank (bef K) (bef_irr K) (bef_asym K) S m i hp2, hm, hS.countP_eq]
  · rw [sumL_perm _ hT]
    refine top_most (kHi K) S J m (hp2.imp fun {a b} h => ?_) (fun x hx => hn x ((hm x).1 hx)) hJ (fun x hx => (hm x).2 (hs x hx)) hl
    unfold bef at h
    rw [decide_eq_true_eq] at h
    omega
theorem Top.lt {K : List (Int × Int)} {m : Nat} {T : List Nat} (h : Top K m T) {i : Nat} (hi : i ∈ T) : i < K.length := ((h.mem i).1 hi).1
end Go.Kq
