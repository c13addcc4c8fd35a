/- Chapter 27: a pipe's place in a list of what has been done (plain). -/
import Derived.Test.YtjbpdimepckmfaaXStP
namespace Go.Proofs.Ytjbpdimepckmfaa
open Go.RowKit Go.Kq

def SrtP (s : List Pv) : Prop := s.Pairwise fun a b => ltP a.p b.p = true
/-- The list with the pipe in it: L ahead of it, R behind it. -/
structure PlcR (s : List Pv) (p : Pp) (L : List Pv) (e0 : Pv) (R : List Pv) : Prop where
  is : s = L ++ e0 :: R ∨ (s = L ++ R ∧ e0 = pv0 p)
  pp : e0.p = p
  lo : ∀ u ∈ L, ltP u.p p = true
  hi : SrtP s → ∀ u ∈ R, ltP p u.p = true
theorem plc_found {s : List Pv} {p : Pp} {i : Nat} {u : Pv} (hu : s[i]? = some u) (hp : u.p = p) (hlo : ∀ v ∈ s.take i, ltP v.p p = true) : PlcR s p (s.take i) u (s.drop (i + 1)) ∧ s.take i ++ u :: s.drop (i + 1) = s := by
  obtain ⟨hi, he⟩ := List.getElem?_eq_some_iff.1 hu
  have h1 : s.take i ++ u :: s.drop (i + 1) = s := by rw [← he, List.getElem_cons_drop, List.take_append_drop]
  refine ⟨⟨.inl h1.symm, hp, hlo, fun hs v hv => ?_⟩, h1⟩
  rw [← h1] at hs
  unfold SrtP at hs
  rw [List.pairwise_append, List.pairwise_cons] at hs
  rw [← hp]
  exact hs.2.1.1 v hv
theorem plc_new {s : List Pv} {p : Pp} {i : Nat} (hlo : ∀ v ∈ s.take i, ltP v.p p = true) (hge : ∀ u, s[i]? = some u → ltP u.p p = false ∧ u.p ≠ p) : PlcR s p (s.take i) (pv0 p) (s.drop i) := by
  refine ⟨.inr ⟨(List.take_append_drop i s).symm, rfl⟩, rfl, hlo, fun hs v hv => ?_⟩
  obtain ⟨j, hj⟩ := List.getElem?_of_mem hv
  rw [List.getElem?_drop] at hj
  have hjl := (List.getElem?_eq_some_iff.1 hj).1
  obtain ⟨u, hu⟩ : ∃ u, s[i]? = some u := ⟨_, List.getElem?_eq_getElem (by omega)⟩
  obtain ⟨h1, h2⟩ := hge u hu
  have h3 : ltP p u.p = true := by
    cases h : ltP p u.p with
    | true => rfl
    | false => exact absurd (ltP_total h1 h) h2
  rcases Nat.eq_zero_or_pos j with rfl | hj0
  · rw [Nat.add_zero, hu] at hj
    cases hj
    exact h3
  · have h4 : ltP u.p v.p = true := by
      unfold SrtP at hs
      rw [List.pairwise_iff_getElem] at hs
      obtain ⟨hi2, e1⟩ := List.getElem?_eq_some_iff.1 hu
      obtain ⟨hj2, e2⟩ := List.getElem?_eq_some_iff.1 hj
      have := hs i (i + j) hi2 hj2 (by omega)
      rwa [e1, e2] at this
    exact ltP_trans h3 h4
/-- A work is done to its pipe, in its place. -/
theorem plc_step {ws : List Wk} {s : List Pv} {x : Wk} {p : Pp} {L R : List Pv} {e0 : Pv} (hs : IsSt ws s) (h : PlcR s p L e0 R) (hx : x.pp = p) : IsSt (ws ++ [x]) (L ++ stepP e0 x :: R) := by
  have hS : SrtP s := hs.1
  have hhi := h.hi hS
  have hp : (stepP e0 x).p = p := by rw [stepP_p, h.pp]
  have hmem : ∀ v, v.p ≠ p → (v ∈ s ↔ v ∈ L ∨ v ∈ R) := fun v hv => by
    rcases h.is with e | ⟨e, _⟩
    · rw [e, List.mem_append, List.mem_cons]
      constructor
      · rintro (h1 | h1 | h1)
        · exact .inl h1
        · exact absurd (by rw [h1, h.pp]) hv
        · exact .inr h1
      · rintro (h1 | h1)
        · exact .inl h1
        · exact .inr (.inr h1)
    · rw [e, List.mem_append]
  have he0 : (stOf ws p).getD (pv0 p) = e0 := by
    rcases h.is with e | ⟨e, e1⟩
    · have : e0 ∈ s := by rw [e]; simp
      have := (hs.2 e0).1 this
      rw [h.pp] at this
      rw [this]
      rfl
    · cases ho : stOf ws p with
      | none => rw [e1]; rfl
      | some u =>
        have hup := stOf_p ho
        have : u ∈ s := (hs.2 u).2 (by rw [hup]; exact ho)
        rw [e] at this
        rcases List.mem_append.1 this with h1 | h1
        · have := h.lo u h1
          rw [hup, ltP_irr] at this
          cases this
        · have := hhi u h1
          rw [hup, ltP_irr] at this
          cases this
  have hLp : ∀ u ∈ L, u.p ≠ p := fun u hu e => by have := h.lo u hu; rw [e, ltP_irr] at this; cases this
  have hRp : ∀ u ∈ R, u.p ≠ p := fun u hu e => by have := hhi u hu; rw [e, ltP_irr] at this; cases this
  refine ⟨?_, fun v => ?_⟩
  · have hLR : (L ++ R).Pairwise fun a b => ltP a.p b.p = true := by
      rcases h.is with e | ⟨e, _⟩
      · rw [e] at hS
        exact List.Pairwise.sublist (List.Sublist.append_left (List.sublist_cons_self _ _) _) hS
      · rw [← e]
        exact hS
    rw [List.pairwise_append] at hLR ⊢
    refine ⟨hLR.1, List.pairwise_cons.2 ⟨fun b hb => by rw [hp]; exact hhi b hb, hLR.2.1⟩, fun a ha b hb => ?_⟩
    rcases List.mem_cons.1 hb with rfl | hb
    · rw [hp]
      exact h.lo a ha
    · exact hLR.2.2 a ha b hb
  · rw [stOf_snoc, List.mem_append, List.mem_cons]
    by_cases hv : v.p = p
    · rw [hv, if_pos hx, he0]
      constructor
      · rintro (h1 | h1 | h1)
        · exact absurd hv (hLp v h1)
        · rw [h1]
        · exact absurd hv (hRp v h1)
      · intro h1
        injection h1 with h1
        exact .inr (.inl h1.symm)
    · rw [if_neg (by rw [hx]; exact fun e => hv e.symm), ← hs.2 v, hmem v hv]
      constructor
      · rintro (h1 | h1 | h1)
        · exact .inl h1
        · exact absurd (by rw [h1]; exact hp) hv
        · exact .inr h1
      · rintro (h1 | h1)
        · exact .inl h1
        · exact .inr (.inr h1)
end Go.Proofs.Ytjbpdimepckmfaa
