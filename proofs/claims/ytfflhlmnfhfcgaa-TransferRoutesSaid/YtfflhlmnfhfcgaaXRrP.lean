/- Chapter 33: the tuples of choices by number, as the reference counts them; plain. -/
import Derived.Test.YtfflhlmnfhfcgaaXLibHvM
namespace Go.Proofs.Ytfflhlmnfhfcgaa
open Go.RowKit Go.Kq

/-- The choice at place i of tuple n, M choices at each place, D places. -/
def pickC (all : List (List Cc)) (M n i : Nat) : Cc := (all.getD i []).getD (n / M ^ (all.length - 1 - i) % M) default
def tupN (all : List (List Cc)) (M n : Nat) : List Cc := (List.range all.length).map (pickC all M n)
theorem range_mul (b : Nat) {α : Type} (f : Nat → α) : ∀ a : Nat, (List.range (a * b)).map f = (List.range a).flatMap fun i => (List.range b).map fun j => f (i * b + j)
  | 0 => by simp
  | a + 1 => by
    rw [Nat.add_mul, Nat.one_mul, List.range_add, List.map_append, range_mul b f a, List.range_succ, List.flatMap_append]
    simp
theorem tupN_cons {cs : List Cc} {rest : List (List Cc)} {M i j : Nat} (hj : j < M ^ rest.length) (hi : i < M) : tupN (cs :: rest) M (i * M ^ rest.length + j) = cs.getD i default :: tupN rest M j := by
  unfold tupN
  rw [List.length_cons, List.range_succ_eq_map, List.map_cons, List.map_map]
  congr 1
  · unfold pickC
    simp only [List.length_cons, Nat.add_sub_cancel, Nat.sub_zero, List.getD_cons_zero]
    have hp : 0 < M ^ rest.length := by omega
    rw [Nat.add_comm, Nat.add_mul_div_right _ _ hp, Nat.div_eq_of_lt hj, Nat.zero_add, Nat.mod_eq_of_lt hi]
  · refine List.map_congr_left fun k hk => ?_
    have hk := List.mem_range.1 hk
    unfold pickC
    simp only [Function.comp, List.length_cons, Nat.add_sub_cancel, List.getD_cons_succ]
    have e : rest.length - (k + 1) = rest.length - 1 - k := by omega
    rw [e]
    congr 1
    have h1 : M ^ rest.length = M ^ (rest.length - 1 - k) * M * M ^ k := by
      rw [Nat.mul_assoc, ← Nat.pow_succ', ← Nat.pow_add]
      congr 1
      omega
    have hp : 0 < M ^ (rest.length - 1 - k) := by
      rcases Nat.eq_zero_or_pos M with h | h
      · omega
      · exact Nat.pow_pos h
    rw [h1, show i * (M ^ (rest.length - 1 - k) * M * M ^ k) + j = j + (i * M ^ k * M) * M ^ (rest.length - 1 - k) by
      rw [Nat.add_comm]
      congr 1
      rw [Nat.mul_comm (M ^ (rest.length - 1 - k)) M, Nat.mul_comm (M * _) (M ^ k)]
      simp only [Nat.mul_assoc]]
    rw [Nat.add_mul_div_right _ _ hp, Nat.add_mul_mod_self_right]
theorem range_getD {cs : List Cc} {M : Nat} (h : cs.length = M) {β : Type} (g : Cc → List β) : cs.flatMap g = (List.range M).flatMap fun i => g (cs.getD i default) := by
  subst h
  have : cs = (List.range cs.length).map fun i => cs.getD i default := by
    apply List.ext_getElem
    · simp
    · intro i h1 h2
      simp [h1]
  conv => lhs; rw [this]
  rw [List.flatMap_map]
theorem flatMap_congr' {α β : Type} {f g : α → List β} : ∀ (l : List α), (∀ x ∈ l, f x = g x) → l.flatMap f = l.flatMap g
  | [], _ => rfl
  | x :: l, h => by rw [List.flatMap_cons, List.flatMap_cons, h x (by simp), flatMap_congr' l fun y hy => h y (by simp [hy])]
theorem tup_range {M : Nat} : ∀ all : List (List Cc), (∀ cs ∈ all, cs.length = M) → tup all = (List.range (M ^ all.length)).map (tupN all M)
  | [], _ => by simp [tup, tupN]
  | cs :: rest, h => by
    rw [tup, List.length_cons, Nat.pow_succ', range_mul, tup_range rest fun c hc => h c (by simp [hc]), range_getD (h cs (by simp))]
    refine flatMap_congr' _ fun i hi => ?_
    rw [List.map_map]
    refine List.map_congr_left fun j hj => ?_
    rw [tupN_cons (List.mem_range.1 hj) (List.mem_range.1 hi)]
    rfl
theorem apart_okS (T : List Cc) : apart [] T = okS (T.map Cc.to) T.length := by
  rw [Bool.eq_iff_iff, apart_iff, okS_iff]
  constructor
  · intro h i hi k hk
    obtain ⟨x, hx⟩ : ∃ x, T[i]? = some x := ⟨_, List.getElem?_eq_getElem hi⟩
    obtain ⟨y, hy⟩ : ∃ y, T[k]? = some y := ⟨_, List.getElem?_eq_getElem (by omega)⟩
    have e1 : (T.map Cc.to).getD i 0 = x.to := by simp [hx]
    have e2 : (T.map Cc.to).getD k 0 = y.to := by simp [hy]
    rw [e1, e2]
    rcases Int.lt_or_le x.to 0 with h0 | h0
    · exact .inl h0
    · exact .inr ((h i x hx h0).2 k y hk hy)
  · intro h i x hx h0
    refine ⟨by simp, fun k y hk hy => ?_⟩
    have e1 : (T.map Cc.to).getD i 0 = x.to := by simp [hx]
    have e2 : (T.map Cc.to).getD k 0 = y.to := by simp [hy]
    have := h i (List.getElem?_eq_some_iff.1 hx).1 k hk
    rw [e1, e2] at this
    omega
theorem tupN_len (all : List (List Cc)) (M n : Nat) : (tupN all M n).length = all.length := by simp [tupN]
theorem tupN_at {all : List (List Cc)} {M n i : Nat} (h : i < all.length) : (tupN all M n)[i]? = some (pickC all M n i) := by
  unfold tupN
  rw [List.getElem?_map, List.getElem?_range h]
  rfl
/-- What the reference has found behind n tuples. -/
def foundN (all : List (List Cc)) (M n : Nat) : Rs := ((List.range n).map (tupN all M)).foldl stepR ⟨-1, [], []⟩
theorem foundN_succ (all : List (List Cc)) (M n : Nat) : foundN all M (n + 1) = stepR (foundN all M n) (tupN all M n) := by
  unfold foundN
  rw [List.range_succ, List.map_append, List.foldl_append]
  rfl
theorem foundN_all {all : List (List Cc)} {M : Nat} (h : ∀ cs ∈ all, cs.length = M) : foundN all M (M ^ all.length) = bestR all := by
  unfold foundN
  rw [← tup_range all h, bestR_fold]
theorem chos_len (xs ys : List Vc) (f : Int) : (chos xs ys f).length = (tos ys).length := by simp [chos]
theorem allC_each (xs ys : List Vc) : ∀ cs ∈ allC xs ys, cs.length = (tos ys).length := by
  intro cs hcs
  obtain ⟨f, _, rfl⟩ := List.mem_map.1 hcs
  exact chos_len xs ys f
theorem srt_rev (T : List Cc) : srt (T.reverse.flatMap Cc.stops) = srt (T.flatMap Cc.stops) := by
  refine srt_uniq ((srt_perm _).trans ?_) (srt_sorted _)
  exact List.Perm.flatMap_right _ (List.reverse_perm T)
end Go.Proofs.Ytfflhlmnfhfcgaa
