/- Chapter 33: both searches find the same choice: plain laws. -/
import Derived.Test.YtfflhlmnfhfcgaaXRfPl
import Derived.Test.YtfflhlmnfhfcgaaXLst
namespace Go.Proofs.Ytfflhlmnfhfcgaa
open Go.RowKit Go.Kq

def lexlt : List Nat → List Nat → Bool
  | a :: A, b :: B => decide (a < b) || (decide (a = b) && lexlt A B)
  | _, _ => false
theorem lex_trans : ∀ (a b c : List Nat), lexlt a b = true → lexlt b c = true → lexlt a c = true
  | [], _, _, h, _ => by simp [lexlt] at h
  | _ :: _, [], _, h, _ => by simp [lexlt] at h
  | _ :: _, _ :: _, [], _, h => by simp [lexlt] at h
  | x :: a, y :: b, z :: c, h1, h2 => by
    simp only [lexlt, Bool.or_eq_true, Bool.and_eq_true, decide_eq_true_eq] at h1 h2 ⊢
    rcases h1 with h1 | ⟨rfl, h1⟩
    · rcases h2 with h2 | ⟨rfl, _⟩
      · exact .inl (by omega)
      · exact .inl h1
    · rcases h2 with h2 | ⟨rfl, h2⟩
      · exact .inl h2
      · exact .inr ⟨rfl, lex_trans a b c h1 h2⟩
theorem lex_irr : ∀ a : List Nat, lexlt a a = false
  | [] => rfl
  | x :: a => by simp [lexlt, lex_irr a]
theorem lex_total : ∀ a b : List Nat, a.length = b.length → lexlt a b = false → a = b ∨ lexlt b a = true
  | [], [], _, _ => .inl rfl
  | [], _ :: _, h, _ => by simp at h
  | _ :: _, [], h, _ => by simp at h
  | x :: a, y :: b, h, hl => by
    simp only [lexlt, Bool.or_eq_false_iff, decide_eq_false_iff_not] at hl
    simp only [lexlt, Bool.or_eq_true, Bool.and_eq_true, decide_eq_true_eq]
    by_cases e : x = y
    · subst e
      have h2 : lexlt a b = false := by simpa using hl.2
      rcases lex_total a b (by simpa using h) h2 with h3 | h3
      · exact .inl (by rw [h3])
      · exact .inr (.inr ⟨rfl, h3⟩)
    · exact .inr (.inl (by omega))
def betterR (C : List Nat → Int) (s : List Nat × Int) (L : List Nat) : List Nat × Int :=
  if C L < s.2 ∨ (C L = s.2 ∧ (L.length < s.1.length ∨ (L.length = s.1.length ∧ lexlt L s.1 = true))) then (L, C L) else s
def Le (C : List Nat → Int) (r : List Nat × Int) (X : List Nat) : Prop :=
  r.2 < C X ∨ (r.2 = C X ∧ (r.1.length < X.length ∨ (r.1.length = X.length ∧ (r.1 = X ∨ lexlt r.1 X = true))))
theorem le_trans' {C : List Nat → Int} {r s : List Nat × Int} {X : List Nat} (h1 : Le C r s.1) (h2 : Le C s X) (hs : s.2 = C s.1) : Le C r X := by
  unfold Le at *
  rw [← hs] at h1
  rcases h1 with h1 | ⟨h1, h3⟩
  · exact .inl (by omega)
  · rcases h2 with h2 | ⟨h2, h4⟩
    · exact .inl (by omega)
    · refine .inr ⟨by omega, ?_⟩
      rcases h3 with h3 | ⟨h3, h5⟩
      · exact .inl (by omega)
      · rcases h4 with h4 | ⟨h4, h6⟩
        · exact .inl (by omega)
        · refine .inr ⟨by omega, ?_⟩
          rcases h5 with h5 | h5
          · rw [h5]
            exact h6
          · rcases h6 with h6 | h6
            · exact .inr (h6 ▸ h5)
            · exact .inr (lex_trans _ _ _ h5 h6)
theorem fold_R (C : List Nat → Int) : ∀ (l : List (List Nat)) (s : List Nat × Int), s.2 = C s.1 →
    (l.foldl (betterR C) s).2 = C (l.foldl (betterR C) s).1 ∧ ((l.foldl (betterR C) s).1 = s.1 ∨ (l.foldl (betterR C) s).1 ∈ l) ∧ ∀ X, X = s.1 ∨ X ∈ l → Le C (l.foldl (betterR C) s) X
  | [], s, h => ⟨h, .inl rfl, fun X hX => by
    rcases hX with rfl | hX
    · exact .inr ⟨h, .inr ⟨rfl, .inl rfl⟩⟩
    · cases hX⟩
  | L :: l, s, h => by
    simp only [List.foldl_cons]
    by_cases hb : C L < s.2 ∨ (C L = s.2 ∧ (L.length < s.1.length ∨ (L.length = s.1.length ∧ lexlt L s.1 = true)))
    · have e : betterR C s L = (L, C L) := by unfold betterR; rw [if_pos hb]
      rw [e]
      obtain ⟨i1, i2, i3⟩ := fold_R C l (L, C L) rfl
      refine ⟨i1, ?_, fun X hX => ?_⟩
      · rcases i2 with i2 | i2
        · exact .inr (by rw [i2]; simp)
        · exact .inr (by simp [i2])
      · rcases hX with rfl | hX
        · refine le_trans' (s := (L, C L)) (i3 L (.inl rfl)) ?_ rfl
          unfold Le
          show C L < C s.1 ∨ _
          rw [← h]
          rcases hb with hb | ⟨hb, hb2⟩
          · exact .inl hb
          · refine .inr ⟨hb, ?_⟩
            rcases hb2 with hb2 | ⟨hb2, hb3⟩
            · exact .inl hb2
            · exact .inr ⟨hb2, .inr hb3⟩
        · rcases List.mem_cons.1 hX with rfl | hX
          · exact i3 X (.inl rfl)
          · exact i3 X (.inr hX)
    · have e : betterR C s L = s := by unfold betterR; rw [if_neg hb]
      rw [e]
      obtain ⟨i1, i2, i3⟩ := fold_R C l s h
      refine ⟨i1, ?_, fun X hX => ?_⟩
      · rcases i2 with i2 | i2
        · exact .inl i2
        · exact .inr (by simp [i2])
      · rcases hX with rfl | hX
        · exact i3 s.1 (.inl rfl)
        · rcases List.mem_cons.1 hX with rfl | hX
          · refine le_trans' (i3 s.1 (.inl rfl)) ?_ h
            unfold Le
            by_cases h1 : s.2 < C X
            · exact .inl h1
            · refine .inr ⟨by omega, ?_⟩
              by_cases h2 : s.1.length < X.length
              · exact .inl h2
              · have h3 : s.1.length = X.length := by omega
                refine .inr ⟨h3, ?_⟩
                have h4 : lexlt X s.1 = false := by
                  cases hl : lexlt X s.1
                  · rfl
                  · exact absurd (.inr ⟨by omega, .inr ⟨h3.symm, hl⟩⟩) hb
                rcases lex_total X s.1 h3.symm h4 with h5 | h5
                · exact .inl h5.symm
                · exact .inr h5
          · exact i3 X (.inr hX)
theorem fold_same (C : List Nat → Int) (l1 l2 : List (List Nat)) (s : List Nat × Int) (hs : s.2 = C s.1) (hm : ∀ X, X ∈ l1 ↔ X ∈ l2) : l1.foldl (betterR C) s = l2.foldl (betterR C) s := by
  obtain ⟨a1, a2, a3⟩ := fold_R C l1 s hs
  obtain ⟨b1, b2, b3⟩ := fold_R C l2 s hs
  generalize l1.foldl (betterR C) s = r1 at *
  generalize l2.foldl (betterR C) s = r2 at *
  have h1 := a3 r2.1 (by rcases b2 with b2 | b2; exact .inl b2; exact .inr ((hm _).2 b2))
  have h2 := b3 r1.1 (by rcases a2 with a2 | a2; exact .inl a2; exact .inr ((hm _).1 a2))
  unfold Le at h1 h2
  rw [← b1] at h1
  rw [← a1] at h2
  have h3 : r1.2 = r2.2 := by omega
  have h4 : r1.1 = r2.1 := by
    rcases h1 with h1 | ⟨_, h1⟩
    · omega
    · rcases h2 with h2 | ⟨_, h2⟩
      · omega
      · rcases h1 with h1 | ⟨_, h1⟩
        · omega
        · rcases h2 with h2 | ⟨_, h2⟩
          · omega
          · rcases h1 with h1 | h1
            · exact h1
            · rcases h2 with h2 | h2
              · exact h2.symm
              · have := lex_trans _ _ _ h1 h2
                rw [lex_irr] at this
                cases this
  exact Prod.ext h4 h3
theorem fold_pair (C : List Nat → Int) : ∀ (l : List (List Nat)) (s : List Nat × Int), (∀ X ∈ l, s.1.length = X.length → lexlt s.1 X = true) → l.Pairwise (fun a b => a.length = b.length → lexlt a b = true) → l.foldl (better C) s = l.foldl (betterR C) s
  | [], _, _, _ => rfl
  | L :: l, s, h, hp => by
    simp only [List.foldl_cons]
    have hp' := List.pairwise_cons.1 hp
    have hL := h L (by simp)
    by_cases hb : C L < s.2 ∨ (C L = s.2 ∧ L.length < s.1.length)
    · have e1 : better C s L = (L, C L) := by unfold better; rw [if_pos hb]
      have e2 : betterR C s L = (L, C L) := by unfold betterR; rw [if_pos (by omega)]
      rw [e1, e2]
      exact fold_pair C l (L, C L) hp'.1 hp'.2
    · have e1 : better C s L = s := by unfold better; rw [if_neg hb]
      have e2 : betterR C s L = s := by
        unfold betterR
        rw [if_neg]
        rintro (h1 | ⟨h1, h2 | ⟨h2, h3⟩⟩)
        · exact hb (.inl h1)
        · exact hb (.inr ⟨h1, h2⟩)
        · have := lex_trans _ _ _ (hL h2.symm) h3
          rw [lex_irr] at this
          cases this
      rw [e1, e2]
      exact fold_pair C l s (fun X hX => h X (by simp [hX])) hp'.2
theorem lex_app : ∀ (L A B : List Nat), lexlt A B = true → lexlt (L ++ A) (L ++ B) = true
  | [], _, _, h => h
  | x :: L, A, B, h => by simp [lexlt, lex_app L A B h]
theorem subs_pair (n m : Nat) (k : Nat) : ∀ (L : List Nat) (i : Nat), n - i ≤ k → (subsAt n m k L i).Pairwise (fun a b => a.length = b.length → lexlt a b = true) := by
  induction k with
  | zero =>
    intro L i _
    exact List.Pairwise.nil
  | succ k ih =>
    intro L i hk
    by_cases h : i < n ∧ L.length < m
    · rw [subsAt, if_pos h, List.pairwise_cons, List.pairwise_append]
      refine ⟨fun X hX => ?_, ih _ _ (by omega), ih _ _ (by omega), fun X hX Y hY => ?_⟩
      · rcases List.mem_append.1 hX with hX | hX
        · obtain ⟨T, h1, rfl, _⟩ := (subs_iff _ _ _ _ _ _ (by omega)).1 hX
          intro e
          have e2 : T.length = 0 := by
            simp at e
            simp [e]
          exact absurd (List.length_eq_zero_iff.1 e2) h1
        · obtain ⟨T, h1, rfl, h3, _⟩ := (subs_iff _ _ _ _ _ _ (by omega)).1 hX
          intro _
          refine lex_app L [i] T ?_
          cases T with
          | nil => exact absurd rfl h1
          | cons a T =>
            have := h3.1
            simp [lexlt]
            omega
      · obtain ⟨T, h1, rfl, h3, _⟩ := (subs_iff _ _ _ _ _ _ (by omega)).1 hX
        obtain ⟨T2, h4, rfl, h6, _⟩ := (subs_iff _ _ _ _ _ _ (by omega)).1 hY
        intro _
        rw [List.append_assoc]
        refine lex_app L _ _ ?_
        cases T2 with
        | nil => exact absurd rfl h4
        | cons a T2 =>
          have := h6.1
          simp [lexlt]
          omega
    · rw [subs_stop h]
      exact List.Pairwise.nil

/-! ### the reference's sets -/
def bl (set : Nat) (k : Nat) : List Nat := (List.range k).filter set.testBit
theorem bl_succ (set k : Nat) : bl set (k + 1) = if set.testBit k = true then bl set k ++ [k] else bl set k := by
  unfold bl
  rw [List.range_succ, List.filter_append]
  cases h : set.testBit k <;> simp [h]
theorem bl_asc (set : Nat) : ∀ k, Asc k 0 (bl set k)
  | 0 => trivial
  | k + 1 => by
    rw [bl_succ]
    split
    · exact (bl_asc set k).snoc (by omega)
    · exact (bl_asc set k).up (by omega)
theorem asc_split {n : Nat} : ∀ (X : List Nat) (i : Nat), Asc (n + 1) i X → Asc n i X ∨ ∃ X', X = X' ++ [n] ∧ Asc n i X'
  | [], _, _ => .inl trivial
  | a :: T, i, h => by
    obtain ⟨h1, h2, h3⟩ := h
    rcases asc_split T (a + 1) h3 with h4 | ⟨T', rfl, h4⟩
    · by_cases ha : a = n
      · subst ha
        cases T with
        | nil => exact .inr ⟨[], rfl, trivial⟩
        | cons b T =>
          have := h4.1
          have := h4.2.1
          omega
      · exact .inl ⟨h1, by omega, h4⟩
    · have ha : a < n := by
        cases T' with
        | nil => have := h3.1; omega
        | cons b T' =>
          have := h4.1
          have := h4.2.1
          omega
      exact .inr ⟨a :: T', rfl, h1, ha, h4⟩
theorem bl_ext {s t k : Nat} (h : ∀ i, i < k → s.testBit i = t.testBit i) : bl s k = bl t k := by
  unfold bl
  exact List.filter_congr fun i hi => h i (List.mem_range.1 hi)
theorem bl_onto : ∀ (n : Nat) (X : List Nat), Asc n 0 X → ∃ set, set < 2 ^ n ∧ bl set n = X
  | 0, X, h => ⟨0, by simp, by
    cases X with
    | nil => rfl
    | cons a T => have := h.2.1; omega⟩
  | n + 1, X, h => by
    have h2 : (2 : Nat) ^ (n + 1) = 2 ^ n + 2 ^ n := by rw [Nat.pow_succ]; omega
    rcases asc_split X 0 h with h1 | ⟨X', rfl, h1⟩
    · obtain ⟨set, hs, e⟩ := bl_onto n X h1
      refine ⟨set, by omega, ?_⟩
      rw [bl_succ, Nat.testBit_lt_two_pow hs]
      simpa using e
    · obtain ⟨set, hs, e⟩ := bl_onto n X' h1
      refine ⟨2 ^ n + set, by omega, ?_⟩
      rw [bl_succ, Nat.testBit_two_pow_add_eq, Nat.testBit_lt_two_pow hs, bl_ext (t := set) fun i hi => Nat.testBit_two_pow_add_gt hi set, e]
      simp
theorem bl_zero (k : Nat) : bl 0 k = [] := by
  unfold bl
  rw [List.filter_eq_nil_iff]
  intro i _
  simp
/-- The reference's state behind some sets. -/
def refS (C : List Nat → Int) (n m : Nat) : Nat → List Nat × Int
  | 0 => ([], C [])
  | k + 1 => if (bl (k + 1) n).length ≤ m then betterR C (refS C n m k) (bl (k + 1) n) else refS C n m k
theorem refS_fold (C : List Nat → Int) (n m : Nat) : ∀ k, refS C n m k = (((List.range k).map fun j => bl (j + 1) n).filter fun X => decide (X.length ≤ m)).foldl (betterR C) ([], C [])
  | 0 => rfl
  | k + 1 => by
    rw [refS, refS_fold C n m k, List.range_succ, List.map_append, List.filter_append, List.foldl_append]
    by_cases h : (bl (k + 1) n).length ≤ m
    · simp [h]
    · simp [h]
theorem search_same (C : List Nat → Int) (n m : Nat) : (subsAt n m n [] 0).foldl (better C) ([], C []) = refS C n m (2 ^ n - 1) := by
  rw [refS_fold, fold_pair C _ _ (fun X hX => ?_) (subs_pair n m n [] 0 (by omega))]
  · refine fold_same C _ _ _ rfl fun X => ?_
    rw [subs_iff _ _ _ _ _ _ (by omega), List.mem_filter, List.mem_map]
    simp only [List.nil_append, decide_eq_true_eq]
    constructor
    · rintro ⟨T, h1, rfl, h3, h4⟩
      obtain ⟨set, hs, e⟩ := bl_onto n X h3
      cases set with
      | zero =>
        rw [bl_zero] at e
        exact absurd e.symm h1
      | succ j => exact ⟨⟨j, List.mem_range.2 (by omega), e⟩, h4⟩
    · rintro ⟨⟨j, hj, rfl⟩, h4⟩
      refine ⟨_, fun e => ?_, rfl, bl_asc _ n, h4⟩
      have hj' := List.mem_range.1 hj
      have : j + 1 = 0 := Nat.eq_of_testBit_eq fun i => by
        rw [Nat.zero_testBit]
        by_cases hi : i < n
        · cases hb : (j + 1).testBit i
          · rfl
          · have : i ∈ bl (j + 1) n := List.mem_filter.2 ⟨List.mem_range.2 hi, hb⟩
            rw [e] at this
            cases this
        · exact Nat.testBit_lt_two_pow (Nat.lt_of_lt_of_le (by omega) (Nat.pow_le_pow_right (by omega) (Nat.le_of_not_lt hi)))
      omega
  · obtain ⟨T, h1, rfl, _⟩ := (subs_iff _ _ _ _ _ _ (by omega)).1 hX
    intro e
    exact absurd (List.length_eq_zero_iff.1 e.symm) h1
end Go.Proofs.Ytfflhlmnfhfcgaa
