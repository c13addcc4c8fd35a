/- The first so many of a sorted list: who is among them, and that no others are more together: plain. No program in sight. -/
import Derived.WalkKit
namespace Go.Kq
section
variable {α : Type}
theorem mem_take_rank [DecidableEq α] (r : α → α → Bool) (irr : ∀ a, r a a = false) (asym : ∀ a b, r a b = true → r b a = false) : ∀ (S : List α) (m : Nat) (i : α), S.Pairwise (fun a b => r a b = true) → (i ∈ S.take m ↔ i ∈ S ∧ S.countP (fun k => r k i) < m)
  | [], m, i, _ => by simp
  | x :: S, 0, i, _ => by simp
  | x :: S, m + 1, i, h => by
    obtain ⟨h1, h2⟩ := List.pairwise_cons.1 h
    have ih := mem_take_rank r irr asym S m i h2
    rw [List.take_succ_cons, List.mem_cons, List.mem_cons]
    by_cases hix : i = x
    · subst hix
      have : (i :: S).countP (fun k => r k i) = 0 := by
        rw [List.countP_eq_zero]
        intro k hk
        rcases List.mem_cons.1 hk with rfl | hk
        · simp [irr]
        · simp [asym _ _ (h1 k hk)]
      simp [this]
    · simp only [hix, false_or]
      rw [ih]
      by_cases hm : i ∈ S
      · rw [List.countP_cons, if_pos (h1 i hm)]
        simp [hm]
      · simp [hm]
def sumL (f : α → Int) (l : List α) : Int := (l.map f).sum
theorem sumL_cons (f : α → Int) (x : α) (l : List α) : sumL f (x :: l) = f x + sumL f l := by simp [sumL]
theorem sumL_append (f : α → Int) (l m : List α) : sumL f (l ++ m) = sumL f l + sumL f m := by simp [sumL]
theorem sumL_perm (f : α → Int) {l m : List α} (h : l.Perm m) : sumL f l = sumL f m := by
  induction h with
  | nil => rfl
  | cons x _ ih => rw [sumL_cons, sumL_cons, ih]
  | swap x y l => rw [sumL_cons, sumL_cons, sumL_cons, sumL_cons]; omega
  | trans _ _ h1 h2 => exact h1.trans h2
theorem sumL_nn (f : α → Int) : ∀ l : List α, (∀ x ∈ l, 0 ≤ f x) → 0 ≤ sumL f l
  | [], _ => by simp [sumL]
  | x :: l, h => by
    have h1 := h x (by simp)
    have h2 := sumL_nn f l fun y hy => h y (by simp [hy])
    rw [sumL_cons]
    omega
/-- No other elements, as many at most, are more than the first ones of a falling list. -/
theorem top_most [DecidableEq α] (f : α → Int) : ∀ (S J : List α) (m : Nat), S.Pairwise (fun a b => f b ≤ f a) → (∀ x ∈ S, 0 ≤ f x) → J.Nodup → (∀ x ∈ J, x ∈ S) → J.length ≤ m → sumL f J ≤ sumL f (S.take m)
  | [], J, m, _, _, _, hs, _ => by
    have : J = [] := by
      cases J with
      | nil => rfl
      | cons x J => exact absurd (hs x (by simp)) (by simp)
    subst this
    simp [sumL]
  | x :: S, J, 0, _, _, _, _, hm => by
    have : J = [] := List.length_eq_zero_iff.1 (by omega)
    subst this
    simp [sumL]
  | x :: S, J, m + 1, hp, hn, hJ, hs, hm => by
    obtain ⟨h1, h2⟩ := List.pairwise_cons.1 hp
    have hx := hn x (by simp)
    have hnS : ∀ y ∈ S, 0 ≤ f y := fun y hy => hn y (by simp [hy])
    rw [List.take_succ_cons, sumL_cons]
    by_cases hxJ : x ∈ J
    · have e := List.perm_cons_erase hxJ
      rw [sumL_perm f e, sumL_cons]
      have := top_most f S (J.erase x) m h2 hnS (hJ.erase x) (fun y hy => by
        have hy1 := List.mem_of_mem_erase hy
        have hne : y ≠ x := fun e => by
          rw [e] at hy
          exact (List.Nodup.not_mem_erase hJ) hy
        rcases List.mem_cons.1 (hs y hy1) with h | h
        · exact absurd h hne
        · exact h) (by rw [List.length_erase_of_mem hxJ]; omega)
      omega
    · have hsub : ∀ y ∈ J, y ∈ S := fun y hy => by
        rcases List.mem_cons.1 (hs y hy) with h | h
        · exact absurd (h ▸ hy) hxJ
        · exact h
      cases J with
      | nil =>
        have := sumL_nn f (S.take m) fun y hy => hnS y (List.mem_of_mem_take hy)
        simp only [sumL, List.map_nil, List.sum_nil] at this ⊢
        omega
      | cons y J =>
        have hy := h1 y (hsub y (by simp))
        have := top_most f S J m h2 hnS (List.nodup_cons.1 hJ).2 (fun z hz => hsub z (by simp [hz])) (by simp at hm; omega)
        rw [sumL_cons]
        omega
end
/-- Two ascending lists with the same elements are one. -/
theorem asc_ext {l m : List Nat} (hl : l.Pairwise (· < ·)) (hm : m.Pairwise (· < ·)) (h : ∀ x, x ∈ l ↔ x ∈ m) : l = m := by
  have nd : ∀ {l : List Nat}, l.Pairwise (· < ·) → l.Nodup := fun {l} h => show l.Pairwise (fun a b => a ≠ b) from h.imp fun {a b} h => by omega
  refine List.Perm.eq_of_pairwise (le := (· < ·)) ?_ hl hm ((List.perm_ext_iff_of_nodup (nd hl) (nd hm)).2 h)
  intro a b _ _ h1 h2
  omega
end Go.Kq
