/- The first so many of a sorted list: who is among them, and that no others are more together: plain. No program in sight. · Chapter 13: the keys that take most: plain. No program in sight. · Chapter 13: the library's functions at this dump, as their contracts want them (printed by lay.py). · Chapter 13: the library's functions at this dump, as their contracts want them (printed by lay.py). · A row that the call owns, handed to the library's sort and taken back: elements of one cell or more. No program in sight. -/
import Derived.WalkKit
import Derived.Shelf.SlLaysF
import Derived.Shelf.SlLaysF0
import Derived.Ground.SlsfProg
import Derived.Shelf.SlGeneric
import Derived.Test.YtlieijnhaolnhaaGreatProg
import Derived.Shelf.Lays
import Derived.Ground.NamesProg
import Derived.Shelf.SlSortCmp.NoneTotal
import Derived.Test.YtlieijnhaolnhaaGreatXTkPM
import Derived.Test.YtlieijnhaolnhaaGreatXLibMakeM
namespace Go.Kq
section
variable {α : Type}
theorem mem_take_rank [DecidableEq α] (r : α → α → Bool) (irr : ∀ a, r a a = false) (asym : ∀ a b, r a b = true → r b a = false) : ∀ (S : List α) (m : Nat) (i : α), S.Pairwise (fun a b => r a b = true) → (i ∈ S.take m ↔ i ∈ S ∧ S.countP (fun k => r k i) < m)
  | [], m, i, _ => by simp
  | x :: S, 0, i, _ => by simp
  | x :: S, m + 1, i, h => by
    obtain ⟨h1, h2⟩ := List.pairwise_cons.1 h
    have ih := mem_take_rank r irr asym S m i h2
    rw [List.take_succ_cons, List.mem_cons, List.mem_cons]
    by_cases hix : i = x
    · subst hix
      have : (i :: S).countP (fun k => r k i) = 0 := by
        rw [List.countP_eq_zero]
        intro k hk
        rcases List.mem_cons.1 hk with rfl | hk
        · simp [irr]
        · simp [asym _ _ (h1 k hk)]
      simp [this]
    · simp only [hix, false_or]
      rw [ih]
      by_cases hm : i ∈ S
      · rw [List.countP_cons, if_pos (h1 i hm)]
        simp [hm]
      · simp [hm]
def sumL (f : α → Int) (l : List α) : Int := (l.map f).sum
theorem sumL_cons (f : α → Int) (x : α) (l : List α) : sumL f (x :: l) = f x + sumL f l := by simp [sumL]
theorem sumL_append (f : α → Int) (l m : List α) : sumL f (l ++ m) = sumL f l + sumL f m := by simp [sumL]
theorem sumL_perm (f : α → Int) {l m : List α} (h : l.Perm m) : sumL f l = sumL f m := by
  induction h with
  | nil => rfl
  | cons x _ ih => rw [sumL_cons, sumL_cons, ih]
  | swap x y l => rw [sumL_cons, sumL_cons, sumL_cons, sumL_cons]; omega
  | trans _ _ h1 h2 => exact h1.trans h2
theorem sumL_nn (f : α → Int) : ∀ l : List α, (∀ x ∈ l, 0 ≤ f x) → 0 ≤ sumL f l
  | [], _ => by simp [sumL]
  | x :: l, h => by
    have h1 := h x (by simp)
    have h2 := sumL_nn f l fun y hy => h y (by simp [hy])
    rw [sumL_cons]
    omega
/-- No other elements, as many at most, are more than the first ones of a falling list. -/
theorem top_most [DecidableEq α] (f : α → Int) : ∀ (S J : List α) (m : Nat), S.Pairwise (fun a b => f b ≤ f a) → (∀ x ∈ S, 0 ≤ f x) → J.Nodup → (∀ x ∈ J, x ∈ S) → J.length ≤ m → sumL f J ≤ sumL f (S.take m)
  | [], J, m, _, _, _, hs, _ => by
    have : J = [] := by
      cases J with
      | nil => rfl
      | cons x J => exact absurd (hs x (by simp)) (by simp)
    subst this
    simp [sumL]
  | x :: S, J, 0, _, _, _, _, hm => by
    have : J = [] := List.length_eq_zero_iff.1 (by omega)
    subst this
    simp [sumL]
  | x :: S, J, m + 1, hp, hn, hJ, hs, hm => by
    obtain ⟨h1, h2⟩ := List.pairwise_cons.1 hp
    have hx := hn x (by simp)
    have hnS : ∀ y ∈ S, 0 ≤ f y := fun y hy => hn y (by simp [hy])
    rw [List.take_succ_cons, sumL_cons]
    by_cases hxJ : x ∈ J
    · have e := List.perm_cons_erase hxJ
      rw [sumL_perm f e, sumL_cons]
      have := top_most f S (J.erase x) m h2 hnS (hJ.erase x) (fun y hy => by
        have hy1 := List.mem_of_mem_erase hy
        have hne : y ≠ x := fun e => by
          rw [e] at hy
          exact (List.Nodup.not_mem_erase hJ) hy
        rcases List.mem_cons.1 (hs y hy1) with h | h
        · exact absurd h hne
        · exact h) (by rw [List.length_erase_of_mem hxJ]; omega)
      omega
    · have hsub : ∀ y ∈ J, y ∈ S := fun y hy => by
        rcases List.mem_cons.1 (hs y hy) with h | h
        · exact absurd (h ▸ hy) hxJ
        · exact h
      cases J with
      | nil =>
        have := sumL_nn f (S.take m) fun y hy => hnS y (List.mem_of_mem_take hy)
        simp only [sumL, List.map_nil, List.sum_nil] at this ⊢
        omega
      | cons y J =>
        have hy := h1 y (hsub y (by simp))
        have := top_most f S J m h2 hnS (List.nodup_cons.1 hJ).2 (fun z hz => hsub z (by simp [hz])) (by simp at hm; omega)
        rw [sumL_cons]
        omega
end
/-- Two ascending lists with the same elements are one. -/
theorem asc_ext {l m : List Nat} (hl : l.Pairwise (· < ·)) (hm : m.Pairwise (· < ·)) (h : ∀ x, x ∈ l ↔ x ∈ m) : l = m := by
  have nd : ∀ {l : List Nat}, l.Pairwise (· < ·) → l.Nodup := fun {l} h => show l.Pairwise (fun a b => a ≠ b) from h.imp fun {a b} h => by omega
  refine List.Perm.eq_of_pairwise (le := (· < ·)) ?_ hl hm ((List.perm_ext_iff_of_nodup (nd hl) (nd hm)).2 h)
  intro a b _ _ h1 h2
  omega
end Go.Kq

namespace Go.Kq

def kLo (K : List (Int × Int)) (i : Nat) : Int := (K.getD i (0, 0)).1
def kHi (K : List (Int × Int)) (i : Nat) : Int := (K.getD i (0, 0)).2
/-- Key i comes before key j. -/
def bef (K : List (Int × Int)) (i j : Nat) : Bool := decide (kHi K j < kHi K i ∨ (kHi K i = kHi K j ∧ (kLo K j < kLo K i ∨ (kLo K i = kLo K j ∧ i < j))))
theorem bef_irr (K : List (Int × Int)) (i : Nat) : bef K i i = false := by
  unfold bef
  rw [decide_eq_false_iff_not]
  omega
theorem bef_asym (K : List (Int × Int)) (i j : Nat) (h : bef K i j = true) : bef K j i = false := by
  unfold bef at *
  rw [decide_eq_true_eq] at h
  rw [decide_eq_false_iff_not]
  omega
theorem bef_total (K : List (Int × Int)) {i j : Nat} (h : bef K j i = false) (hne : i ≠ j) : bef K i j = true := by
  unfold bef at *
  rw [decide_eq_false_iff_not] at h
  rw [decide_eq_true_eq]
  omega
/-- T is the choice of at most m of n keys. -/
structure Top (K : List (Int × Int)) (m : Nat) (T : List Nat) : Prop where
  asc : T.Pairwise (· < ·)
  len : T.length = min m K.length
  mem : ∀ i, i ∈ T ↔ i < K.length ∧ (List.range K.length).countP (fun k => bef K k i) < m
  best : (∀ i, i < K.length → 0 ≤ kHi K i) → ∀ J : List Nat, J.Nodup → (∀ x ∈ J, x < K.length) → J.length ≤ m → sumL (kHi K) J ≤ sumL (kHi K) T
theorem asc_of_le {l : List Int} (h : l.Pairwise (· ≤ ·)) (hn : l.Nodup) : l.Pairwise (· < ·) := by
  have hn' : l.Pairwise fun a b => a ≠ b := hn
  exact (h.and hn').imp fun {a b} ⟨h1, h2⟩ => by omega
theorem top_of {K : List (Int × Int)} {m : Nat} {S T : List Nat} (hS : S.Perm (List.range K.length)) (hp : S.Pairwise fun x y => bef K y x = false) (hT : T.Perm (S.take m)) (hle : T.Pairwise (· ≤ ·)) : Top K m T := by
  have hnd : S.Nodup := hS.nodup_iff.2 List.nodup_range
  have hnd' : S.Pairwise fun a b => a ≠ b := hnd
  have hp2 : S.Pairwise fun a b => bef K a b = true := (hp.and hnd').imp fun {a b} ⟨h1, h2⟩ => bef_total K h1 h2
  have hTn : T.Nodup := hT.nodup_iff.2 (hnd.sublist (List.take_sublist _ _))
  have hTn' : T.Pairwise fun a b => a ≠ b := hTn
  have hm : ∀ x, x ∈ S ↔ x < K.length := fun x => by rw [hS.mem_iff]; exact List.mem_range
  refine ⟨(hle.and hTn').imp fun {a b} ⟨h1, h2⟩ => by omega, ?_, fun i => ?_, fun hn J hJ hs hl => ?_⟩
  · rw [hT.length_eq, List.length_take, hS.length_eq, List.length_range]
  · rw [hT.mem_iff, mem_take_rank (bef K) (bef_irr K) (bef_asym K) S m i hp2, hm, hS.countP_eq]
  · rw [sumL_perm _ hT]
    refine top_most (kHi K) S J m (hp2.imp fun {a b} h => ?_) (fun x hx => hn x ((hm x).1 hx)) hJ (fun x hx => (hm x).2 (hs x hx)) hl
    unfold bef at h
    rw [decide_eq_true_eq] at h
    omega
theorem Top.lt {K : List (Int × Int)} {m : Nat} {T : List Nat} (h : Top K m T) {i : Nat} (hi : i ∈ T) : i < K.length := ((h.mem i).1 hi).1
end Go.Kq

namespace Go.Proofs.YtlieijnhaolnhaaGreat
open Go.Shelf
def sortFI_ren : Go.Shelf.Ren := ⟨fun | 6 => 51 | 15 => 92 | 14 => 91 | 28 => 128 | 29 => 129 | 20 => 120 | 21 => 121 | 22 => 122 | 23 => 123 | 24 => 124 | 25 => 125 | 26 => 126 | 27 => 127 | 46 => 153 | 47 => 154 | 48 => 155 | 49 => 156 | 50 => 157 | 57 => 165 | n => n, fun | 22 => 44 | 24 => 3 | 25 => 86 | 3 => 3 | 39 => 122 | 0 => 0 | 53 => 151 | 55 => 104 | 4 => 4 | 46 => 156 | 45 => 155 | 50 => 160 | 5 => 5 | 9 => 9 | 66 => 182 | 70 => 186 | 76 => 194 | 77 => 195 | n => n, fun | n => n⟩
theorem sortFI : Go.Proofs.SlLaysF.n6 Tryz.prog sortFI_ren := {
  mixed := by kernel_rfl
  f6 := ⟨Tryz.f51.name, by decide, Tryz.func51.trans (congrArg some (by kernel_rfl))⟩
  f14 := ⟨Tryz.f91.name, by decide, Tryz.func91.trans (congrArg some (by kernel_rfl))⟩
  f15 := Tryz.func92.trans (congrArg some (by kernel_rfl))
  f20 := ⟨Tryz.f120.name, by decide, Tryz.func120.trans (congrArg some (by kernel_rfl))⟩
  f21 := ⟨Tryz.f121.name, by decide, Tryz.func121.trans (congrArg some (by kernel_rfl))⟩
  f22 := ⟨Tryz.f122.name, by decide, Tryz.func122.trans (congrArg some (by kernel_rfl))⟩
  f23 := ⟨Tryz.f123.name, by decide, Tryz.func123.trans (congrArg some (by kernel_rfl))⟩
  f24 := ⟨Tryz.f124.name, by decide, Tryz.func124.trans (congrArg some (by kernel_rfl))⟩
  f25 := ⟨Tryz.f125.name, by decide, Tryz.func125.trans (congrArg some (by kernel_rfl))⟩
  f26 := ⟨Tryz.f126.name, by decide, Tryz.func126.trans (congrArg some (by kernel_rfl))⟩
  f27 := ⟨Tryz.f127.name, by decide, Tryz.func127.trans (congrArg some (by kernel_rfl))⟩
  f28 := Tryz.func128.trans (congrArg some (by kernel_rfl))
  f29 := Tryz.func129.trans (congrArg some (by kernel_rfl))
  f46 := ⟨Tryz.f153.name, by decide, Tryz.func153.trans (congrArg some (by kernel_rfl))⟩
  f47 := Tryz.func154.trans (congrArg some (by kernel_rfl))
  f48 := Tryz.func155.trans (congrArg some (by kernel_rfl))
  f49 := ⟨Tryz.f156.name, by decide, Tryz.func156.trans (congrArg some (by kernel_rfl))⟩
  f50 := ⟨Tryz.f157.name, by decide, Tryz.func157.trans (congrArg some (by kernel_rfl))⟩
  f57 := ⟨Tryz.f165.name, by decide, Tryz.func165.trans (congrArg some (by kernel_rfl))⟩
  t0 := Tryz.underlying0
  a0 := Tryz.isAgg0
  z0 := Tryz.sizeOf0
  v0 := Tryz.zeroValue0
  t3 := Tryz.underlying3
  a3 := Tryz.isAgg3
  z3 := Tryz.sizeOf3
  v3 := Tryz.zeroValue3
  t4 := Tryz.underlying4
  a4 := Tryz.isAgg4
  z4 := Tryz.sizeOf4
  v4 := Tryz.zeroValue4
  t5 := Tryz.underlying5
  a5 := Tryz.isAgg5
  z5 := Tryz.sizeOf5
  v5 := Tryz.zeroValue5
  t9 := Tryz.underlying9
  a9 := Tryz.isAgg9
  z9 := Tryz.sizeOf9
  v9 := Tryz.zeroValue9
  t22 := Tryz.underlying44
  a22 := Tryz.isAgg44
  z22 := Tryz.sizeOf44
  v22 := Tryz.zeroValue44
  a24 := Tryz.isAgg3
  z24 := Tryz.sizeOf3
  t25 := Tryz.underlying86
  a25 := Tryz.isAgg86
  z25 := Tryz.sizeOf86
  v25 := Tryz.zeroValue86
  t39 := Tryz.underlying122
  a39 := Tryz.isAgg122
  z39 := Tryz.sizeOf122
  v39 := Tryz.zeroValue122
  t45 := Tryz.underlying155
  a45 := Tryz.isAgg155
  z45 := Tryz.sizeOf155
  v45 := Tryz.zeroValue155
  t46 := Tryz.underlying156
  a46 := Tryz.isAgg156
  z46 := Tryz.sizeOf156
  v46 := Tryz.zeroValue156
  t50 := Tryz.underlying160
  a50 := Tryz.isAgg160
  z50 := Tryz.sizeOf160
  v50 := Tryz.zeroValue160
  t53 := Tryz.underlying151
  a53 := Tryz.isAgg151
  z53 := Tryz.sizeOf151
  v53 := Tryz.zeroValue151
  t55 := Tryz.underlying104
  a55 := Tryz.isAgg104
  z55 := Tryz.sizeOf104
  v55 := Tryz.zeroValue104
  t66 := Tryz.underlying182
  a66 := Tryz.isAgg182
  z66 := Tryz.sizeOf182
  v66 := Tryz.zeroValue182
  t70 := Tryz.underlying186
  a70 := Tryz.isAgg186
  z70 := Tryz.sizeOf186
  v70 := Tryz.zeroValue186
  t76 := Tryz.underlying194
  a76 := Tryz.isAgg194
  z76 := Tryz.sizeOf194
  v76 := Tryz.zeroValue194
  t77 := Tryz.underlying195
  a77 := Tryz.isAgg195
  z77 := Tryz.sizeOf195
  v77 := Tryz.zeroValue195 }
end Go.Proofs.YtlieijnhaolnhaaGreat

namespace Go.Proofs.YtlieijnhaolnhaaGreat
open Go.Shelf
def sortOI_ren : Go.Shelf.Ren := ⟨fun | 189 => 56 | 125 => 92 | 257 => 95 | 128 => 128 | 129 => 129 | 294 => 130 | 295 => 131 | 296 => 132 | 297 => 133 | 298 => 134 | 299 => 135 | 216 => 136 | 300 => 137 | 301 => 138 | 328 => 158 | 329 => 154 | 330 => 155 | 331 => 159 | 332 => 160 | 215 => 94 | 343 => 166 | n => n, fun | 28 => 44 | 3 => 3 | 46 => 122 | 0 => 0 | 51 => 151 | 53 => 104 | 4 => 4 | 183 => 156 | 182 => 155 | 131 => 160 | 5 => 5 | 9 => 9 | 218 => 182 | 222 => 186 | 228 => 194 | 229 => 195 | n => n, fun | n => n⟩
theorem sortOI : Go.Proofs.Lays.n189 Tryz.prog sortOI_ren := {
  mixed := by kernel_rfl
  f125 := Tryz.func92.trans (congrArg some (by kernel_rfl))
  f128 := Tryz.func128.trans (congrArg some (by kernel_rfl))
  f129 := Tryz.func129.trans (congrArg some (by kernel_rfl))
  f189 := Tryz.func56.trans (congrArg some (by kernel_rfl))
  f215 := Tryz.func94.trans (congrArg some (by kernel_rfl))
  f216 := Tryz.func136.trans (congrArg some (by kernel_rfl))
  f257 := Tryz.func95.trans (congrArg some (by kernel_rfl))
  f294 := Tryz.func130.trans (congrArg some (by kernel_rfl))
  f295 := Tryz.func131.trans (congrArg some (by kernel_rfl))
  f296 := Tryz.func132.trans (congrArg some (by kernel_rfl))
  f297 := Tryz.func133.trans (congrArg some (by kernel_rfl))
  f298 := Tryz.func134.trans (congrArg some (by kernel_rfl))
  f299 := Tryz.func135.trans (congrArg some (by kernel_rfl))
  f300 := Tryz.func137.trans (congrArg some (by kernel_rfl))
  f301 := Tryz.func138.trans (congrArg some (by kernel_rfl))
  f328 := Tryz.func158.trans (congrArg some (by kernel_rfl))
  f329 := Tryz.func154.trans (congrArg some (by kernel_rfl))
  f330 := Tryz.func155.trans (congrArg some (by kernel_rfl))
  f331 := Tryz.func159.trans (congrArg some (by kernel_rfl))
  f332 := Tryz.func160.trans (congrArg some (by kernel_rfl))
  f343 := Tryz.func166.trans (congrArg some (by kernel_rfl))
  t0 := Tryz.underlying0
  a0 := Tryz.isAgg0
  z0 := Tryz.sizeOf0
  v0 := Tryz.zeroValue0
  t3 := Tryz.underlying3
  a3 := Tryz.isAgg3
  z3 := Tryz.sizeOf3
  v3 := Tryz.zeroValue3
  t4 := Tryz.underlying4
  a4 := Tryz.isAgg4
  z4 := Tryz.sizeOf4
  v4 := Tryz.zeroValue4
  t5 := Tryz.underlying5
  a5 := Tryz.isAgg5
  z5 := Tryz.sizeOf5
  v5 := Tryz.zeroValue5
  t9 := Tryz.underlying9
  a9 := Tryz.isAgg9
  z9 := Tryz.sizeOf9
  v9 := Tryz.zeroValue9
  t28 := Tryz.underlying44
  a28 := Tryz.isAgg44
  z28 := Tryz.sizeOf44
  v28 := Tryz.zeroValue44
  t46 := Tryz.underlying122
  a46 := Tryz.isAgg122
  z46 := Tryz.sizeOf122
  v46 := Tryz.zeroValue122
  t51 := Tryz.underlying151
  a51 := Tryz.isAgg151
  z51 := Tryz.sizeOf151
  v51 := Tryz.zeroValue151
  t53 := Tryz.underlying104
  a53 := Tryz.isAgg104
  z53 := Tryz.sizeOf104
  v53 := Tryz.zeroValue104
  t131 := Tryz.underlying160
  a131 := Tryz.isAgg160
  z131 := Tryz.sizeOf160
  v131 := Tryz.zeroValue160
  t182 := Tryz.underlying155
  a182 := Tryz.isAgg155
  z182 := Tryz.sizeOf155
  v182 := Tryz.zeroValue155
  t183 := Tryz.underlying156
  a183 := Tryz.isAgg156
  z183 := Tryz.sizeOf156
  v183 := Tryz.zeroValue156
  t218 := Tryz.underlying182
  a218 := Tryz.isAgg182
  z218 := Tryz.sizeOf182
  v218 := Tryz.zeroValue182
  t222 := Tryz.underlying186
  a222 := Tryz.isAgg186
  z222 := Tryz.sizeOf186
  v222 := Tryz.zeroValue186
  t228 := Tryz.underlying194
  a228 := Tryz.isAgg194
  z228 := Tryz.sizeOf194
  v228 := Tryz.zeroValue194
  t229 := Tryz.underlying195
  a229 := Tryz.isAgg195
  z229 := Tryz.sizeOf195
  v229 := Tryz.zeroValue195 }
end Go.Proofs.YtlieijnhaolnhaaGreat

namespace Go.Kq
open Go.RowKit Go.Sort Go.Proofs

/-! ### rows of one cell -/
section
variable {α : Type} [Inhabited α] {f : α → Value} {w : World} {base e n cap g m : Nat} {os : Array Obj} {vs ts : List α}
theorem own_holds (h : w.ownsRow base e 1 (.slice (some ⟨g, 0, none⟩) n cap) n (vs.map f)) : Holds f w g 0 vs.toArray := by
  intro j hj
  have hj' : j < vs.length := by simpa using hj
  rw [Nat.zero_add]
  refine ⟨own_cell h (j := j) ?_, own_free h j⟩
  rw [List.getElem?_map, List.getElem?_eq_getElem hj']
  simp [hj']
theorem heap_sorted1 {cur : Array Value} {fr : Nat × Nat} (d : Array α) (hb : w.heap[g]? = some (.cells cur e fr)) : (sortWorld f w g 0 m d os).heap[g]? = some (.cells (putCells f 0 d cur) e fr) := by
  have hg : g < w.heap.size := (Array.getElem?_eq_some_iff.1 hb).1
  unfold sortWorld
  rw [heap_grow_old _ _ (by simpa using hg)]
  simp [putRow, mapBlock, Sort.ahead, Array.getElem?_modify, hb, onCells]
theorem kp_sorted1 (d : Array α) : Kp (One g) w (sortWorld f w g 0 m d os) := by
  refine ⟨rfl, rfl, rfl, by simp [sortWorld], fun k hk hne => ?_⟩
  unfold sortWorld
  rw [heap_grow_old _ _ (by simpa using hk)]
  have : g ≠ k := fun e => hne e.symm
  simp [putRow, mapBlock, Sort.ahead, Array.getElem?_modify, this]
theorem take_put1 (cur : Array Value) (ts : List α) (h : ts.length ≤ cur.size) : (putCells f 0 ts.toArray cur).toList.take ts.length = ts.map f := by
  apply List.ext_getElem?
  intro j
  by_cases hj : j < ts.length
  · rw [List.getElem?_take_of_lt hj, Array.getElem?_toList]
    simp [putCells, hj, show j < cur.size by omega]
  · rw [List.getElem?_take_eq_none (by omega), List.getElem?_eq_none (by simp; omega)]
theorem own_sorted1 (h : w.ownsRow base e 1 (.slice (some ⟨g, 0, none⟩) n cap) n (vs.map f)) (hl : ts.length = vs.length) : (sortWorld f w g 0 m ts.toArray os).ownsRow base e 1 (.slice (some ⟨g, 0, none⟩) n cap) n (ts.map f) := by
  have hn : vs.length = n := by have := h.1; simpa using this
  rcases h.2 with ⟨h0, _⟩ | ⟨g', cap', cur, hv, hb, hg, h1, h2, h3, _⟩
  · cases h0
  · cases hv
    exact ⟨by simp; omega, .inr ⟨g, cap, _, rfl, hb, heap_sorted1 _ hg, h1, h2, by simp [putCells, h3], by
      rw [Nat.mul_one, show n = ts.length by omega]
      exact take_put1 cur ts (by omega)⟩⟩
end

/-! ### rows of k cells -/
section
variable {α : Type} [Inhabited α] {f : α → List Value} {k : Nat} {w : World} {base e n cap g m : Nat} {os : Array Obj} {vs ts : List α}
theorem flatK_eq (hk : ∀ x, (f x).length = k) (vs : List α) : flatK f k vs.toArray = (vs.flatMap f).toArray := by
  rcases Nat.eq_zero_or_pos k with h0 | h0
  · subst h0
    have : vs.flatMap f = [] := by
      rw [← List.length_eq_zero_iff, flat_len hk]
      omega
    rw [this]
    simp [flatK]
  refine ext_get! (by simp [flat_len hk]) fun t ht => ?_
  rw [size_flatK] at ht
  have ht' : t < vs.length * k := by simpa using ht
  rw [get_flatK _ _ _ _ (by simpa using ht')]
  have hd : t / k < vs.length := Nat.div_lt_of_lt_mul (by rw [Nat.mul_comm]; exact ht')
  have hm : t % k < (f vs[t / k]).length := by rw [hk]; exact Nat.mod_lt _ h0
  have := flat_at hk vs (t / k) vs[t / k] (t % k) (f vs[t / k])[t % k] (List.getElem?_eq_getElem hd) (List.getElem?_eq_getElem hm)
  rw [Nat.div_add_mod'] at this
  have e1 : (vs.flatMap f).toArray[t]! = (f vs[t / k])[t % k] := by
    rw [Array.getElem!_eq_getD, Array.getD_eq_getD_getElem?, List.getElem?_toArray, this]
    rfl
  rw [e1]
  have e2 : vs.toArray[t / k]! = vs[t / k] := by simp [hd]
  rw [e2]
  exact getElem!_pos (f vs[t / k]) (t % k) hm
theorem own_holdsK (hk : ∀ x, (f x).length = k) (h : w.ownsRow base e k (.slice (some ⟨g, 0, none⟩) n cap) n (vs.flatMap f)) : HoldsK f k w g 0 vs.toArray := by
  unfold HoldsK
  rw [flatK_eq hk]
  intro j hj
  have hj' : j < (vs.flatMap f).length := by simpa using hj
  rw [Nat.zero_add]
  refine ⟨own_cell h (j := j) ?_, own_free h j⟩
  rw [getElem!_pos (vs.flatMap f).toArray j hj]
  exact List.getElem?_eq_getElem hj'
theorem sortWorldK_eq (hk : ∀ x, (f x).length = k) : sortWorldK f k w g 0 m ts.toArray os = sortWorld id w g 0 m (ts.flatMap f).toArray os := by
  unfold sortWorldK putRowK sortWorld
  rw [flatK_eq hk]
theorem kp_sortedK (hk : ∀ x, (f x).length = k) (ts : List α) : Kp (One g) w (sortWorldK f k w g 0 m ts.toArray os) := by
  rw [sortWorldK_eq hk]
  exact kp_sorted1 _
theorem take_put_id (cur : Array Value) (us : List Value) (h : us.length ≤ cur.size) : (putCells id 0 us.toArray cur).toList.take us.length = us := by
  have := take_put1 (f := id) cur us h
  simpa using this
theorem own_sortedK (hk : ∀ x, (f x).length = k) (h : w.ownsRow base e k (.slice (some ⟨g, 0, none⟩) n cap) n (vs.flatMap f)) (hl : ts.length = vs.length) : (sortWorldK f k w g 0 m ts.toArray os).ownsRow base e k (.slice (some ⟨g, 0, none⟩) n cap) n (ts.flatMap f) := by
  rw [sortWorldK_eq hk]
  have hn : (vs.flatMap f).length = n * k := h.1
  have hts : (ts.flatMap f).length = n * k := by rw [flat_len hk, hl, ← flat_len hk, hn]
  rcases h.2 with ⟨h0, _⟩ | ⟨g', cap', cur, hv, hb, hg, h1, h2, h3, _⟩
  · cases h0
  · cases hv
    exact ⟨hts, .inr ⟨g, cap, _, rfl, hb, heap_sorted1 _ hg, h1, h2, by simp [putCells, h3], by
      rw [← hts]
      exact take_put_id cur _ (by rw [hts, h3]; exact Nat.mul_le_mul_right _ h1)⟩⟩
end

/-- A list that is sorted and has what another one has. -/
theorem perm_of_permIn {α : Type} [Inhabited α] {l : List α} {d : Array α} (h : PermIn 0 l.toArray.size l.toArray d) : d.toList.Perm l := by
  obtain ⟨h1, _, h3⟩ := h
  rw [show d.extract 0 l.toArray.size = d by rw [← h1]; exact Array.extract_size, Array.extract_size] at h3
  simpa using h3
theorem pairwise_of_sortedIn {α : Type} [Inhabited α] {lt : α → α → Bool} {d : Array α} {n : Nat} (hn : d.size = n) (h : SortedIn lt 0 n d) : d.toList.Pairwise fun x y => lt y x = false := by
  rw [List.pairwise_iff_getElem]
  intro i j hi hj hij
  have := h i j (Nat.zero_le _) hij (by simpa [hn] using hj)
  rw [getElem!_pos d i (by simpa using hi), getElem!_pos d j (by simpa using hj)] at this
  simpa using this
end Go.Kq
