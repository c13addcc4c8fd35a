/- Chapter 09: what Quick returns lies by shelves. Plain. -/
import Derived.Test.YtamjhpdgclbfgaaXSsQM
namespace Go.Proofs.Ytamjhpdgclbfgaa

theorem app_l {α : Type} {a b : List α} {k : Nat} {d : α} (h : k < a.length) : (a ++ b).getD k d = a.getD k d := by
  rw [List.getD_eq_getElem?_getD, List.getD_eq_getElem?_getD, List.getElem?_append_left h]
theorem app_r {α : Type} {a : List α} {x d : α} {n : Nat} (h : n = a.length) : (a ++ [x]).getD n d = x := by
  subst h
  rw [List.getD_eq_getElem?_getD, List.getElem?_append_right (Nat.le_refl _)]
  simp
theorem setD {α : Type} {a : List α} {i j : Nat} {x d : α} (h : i < a.length) : (a.set i x).getD j d = if i = j then x else a.getD j d := by
  rw [List.getD_eq_getElem?_getD, List.getD_eq_getElem?_getD]
  by_cases e : i = j
  · subst e
    rw [if_pos rfl, List.getElem?_set_self h]
    rfl
  · rw [if_neg e, List.getElem?_set_ne e]
theorem firstI_ok {α : Type} {p : α → Bool} : ∀ {l : List α} {d : α}, firstI p l < l.length → p (l.getD (firstI p l) d) = true
  | [], _, h => by simp at h
  | a :: l, d, h => by
    simp only [firstI] at h ⊢
    by_cases hp : p a = true
    · rw [if_pos hp]
      simpa using hp
    · rw [if_neg hp] at h ⊢
      simp only [List.length_cons] at h
      simp only [List.getD_cons_succ]
      exact firstI_ok (by omega)
/-- What holds while Quick runs: D is placed already; at most shelf e is empty. -/
structure QI (P : Pt) (l : List Ct) (D : List Nat) (d : Nat) (q : Qs) (HL : List Int) (e : Nat) : Prop where
  ol : q.out.length = l.length
  hl : HL.length = q.sh.length
  lt : q.sh.length ≤ d
  tl : q.tp.length ≤ q.sh.length
  idx : ∀ k, k < HL.length → (q.sh.getD k default).s = (k : Nat) ∧ 0 < HL.getD k 0 ∧ 0 ≤ (q.sh.getD k default).y ∧ ∃ p : Nat, (q.sh.getD k default).p = p ∧ p < q.tp.length ∧ (q.sh.getD k default).y + HL.getD k 0 + P.k ≤ q.tp.getD p 0
  hp : ∀ k, k < HL.length → k ≠ e → ∃ i, i ∈ D ∧ HL.getD k 0 = (l.getD i default).h ∧ (q.out.getD i default).s = (k : Nat)
  pl : ∀ i, i ∈ D → ∃ k, k < HL.length ∧ (q.out.getD i default).p = (q.sh.getD k default).p ∧ (q.out.getD i default).s = (k : Nat) ∧ (q.out.getD i default).y = (q.sh.getD k default).y ∧ 0 ≤ (q.out.getD i default).x ∧ (q.out.getD i default).x + (l.getD i default).w + P.k ≤ (q.sh.getD k default).x ∧ (l.getD i default).h ≤ HL.getD k 0
  sep : ∀ i j, i ∈ D → j ∈ D → i ≠ j → (q.out.getD i default).s = (q.out.getD j default).s → (q.out.getD i default).x + (l.getD i default).w + P.k ≤ (q.out.getD j default).x ∨ (q.out.getD j default).x + (l.getD j default).w + P.k ≤ (q.out.getD i default).x
  wid : ∀ k, k < HL.length → (q.sh.getD k default).x = (D.map fun i => if (q.out.getD i default).s = (k : Nat) then (l.getD i default).w + P.k else 0).sum ∧ 0 ≤ (q.sh.getD k default).x ∧ (q.sh.getD k default).x ≤ P.w + P.k
  ysep : ∀ k k', k < HL.length → k' < HL.length → k ≠ k' → (q.sh.getD k default).p = (q.sh.getD k' default).p → (q.sh.getD k default).y + HL.getD k 0 + P.k ≤ (q.sh.getD k' default).y ∨ (q.sh.getD k' default).y + HL.getD k' 0 + P.k ≤ (q.sh.getD k default).y
  hei : ∀ p, p < q.tp.length → q.tp.getD p 0 = ((List.range HL.length).map fun k => if (q.sh.getD k default).p = (p : Nat) then HL.getD k 0 + P.k else 0).sum ∧ 0 ≤ q.tp.getD p 0 ∧ q.tp.getD p 0 ≤ P.h + P.k
section
variable {P : Pt} {l : List Ct} {D : List Nat} {d : Nat} {q : Qs} {HL : List Int} {e : Nat} {c : Ct}
theorem QI.new (h : QI P l D d q HL e) (he : HL.length ≤ e) (hK : 0 ≤ P.k) (hc : 0 < c.h ∧ c.h ≤ P.h) (hw0 : 0 ≤ P.w) : QI P l D (d + 1) (qNew P c q) (HL ++ [c.h]) HL.length := by
  obtain ⟨on, hon⟩ : ∃ on, firstI (fun y => decide (y + c.h ≤ P.h)) q.tp = on := ⟨_, rfl⟩
  obtain ⟨T, hT⟩ : ∃ T, (if on = q.tp.length then q.tp ++ [0] else q.tp) = T := ⟨_, rfl⟩
  obtain ⟨y, hy⟩ : ∃ y, T.getD on 0 = y := ⟨_, rfl⟩
  have hq : qNew P c q = ⟨q.sh ++ [⟨(on : Nat), (q.sh.length : Nat), 0, y⟩], T.set on (y + (c.h + P.k)), q.out⟩ := by
    simp only [qNew, hon, hT, hy]
  have hol : on ≤ q.tp.length := by
    rw [← hon]
    exact firstI_le _ _
  have T1 : on < T.length ∧ q.tp.length ≤ T.length ∧ T.length ≤ q.tp.length + 1 := by
    rw [← hT]
    split
    · simp; omega
    · omega
  have T2 : ∀ p, p < q.tp.length → T.getD p 0 = q.tp.getD p 0 := fun p hp => by
    rw [← hT]
    split
    · exact app_l hp
    · rfl
  have T4 : ∀ p, p < T.length → T.getD p 0 = ((List.range HL.length).map fun k => if (q.sh.getD k default).p = (p : Nat) then HL.getD k 0 + P.k else 0).sum ∧ 0 ≤ T.getD p 0 ∧ T.getD p 0 ≤ P.h + P.k := fun p hp => by
    by_cases hpl : p < q.tp.length
    · rw [T2 p hpl]
      exact h.hei p hpl
    · have hpe : p = q.tp.length := by omega
      have h0 : T.getD p 0 = 0 := by
        rw [← hT]
        split
        · exact app_r hpe
        · rw [List.getD_eq_getElem?_getD, List.getElem?_eq_none (by omega)]
          rfl
      have e0 : ((List.range HL.length).map fun k => if (q.sh.getD k default).p = (p : Nat) then HL.getD k 0 + P.k else 0) = (List.range HL.length).map fun _ => (0 : Int) := List.map_congr_left fun k hk => by
        obtain ⟨_, _, _, p', e1, e2, _⟩ := h.idx k (List.mem_range.1 hk)
        rw [if_neg (by omega)]
      rw [h0, e0, sum_zero]
      omega
  have T3 : y + c.h ≤ P.h ∧ 0 ≤ y := by
    have h4 := (T4 on T1.1).2.1
    rw [hy] at h4
    by_cases ho : on < q.tp.length
    · have h1 := firstI_ok (p := fun y => decide (y + c.h ≤ P.h)) (l := q.tp) (d := 0) (by rw [hon]; exact ho)
      rw [hon, ← T2 on ho, hy] at h1
      simp only [decide_eq_true_eq] at h1
      omega
    · have h0 : T.getD on 0 = 0 := by
        rw [← hT, if_pos (by omega)]
        exact app_r (by omega)
      omega
  have hHl := h.hl
  have sL : ∀ k, k < HL.length → (q.sh ++ [(⟨(on : Nat), (q.sh.length : Nat), 0, y⟩ : Spo)]).getD k default = q.sh.getD k default := fun k hk => app_l (by omega)
  have sR : (q.sh ++ [(⟨(on : Nat), (q.sh.length : Nat), 0, y⟩ : Spo)]).getD HL.length default = ⟨(on : Nat), (q.sh.length : Nat), 0, y⟩ := app_r hHl
  have hL : ∀ k, k < HL.length → (HL ++ [c.h]).getD k 0 = HL.getD k 0 := fun k hk => app_l hk
  have hR : (HL ++ [c.h]).getD HL.length 0 = c.h := app_r rfl
  have tpg : ∀ p, (T.set on (y + (c.h + P.k))).getD p 0 = if on = p then y + (c.h + P.k) else T.getD p 0 := fun p => setD T1.1
  have onp : ∀ k, k < HL.length → (q.sh.getD k default).p = (on : Nat) → (q.sh.getD k default).y + HL.getD k 0 + P.k ≤ y := fun k hk hp => by
    obtain ⟨_, _, _, p, e1, e2, e3⟩ := h.idx k hk
    have hpo : p = on := by omega
    subst hpo
    rw [← T2 p e2, hy] at e3
    exact e3
  rw [hq]
  constructor
  · exact h.ol
  · simp [hHl]
  · have := h.lt
    simp
    omega
  · have := h.tl
    simp
    omega
  · intro k hk
    simp only [List.length_append, List.length_singleton] at hk
    dsimp only
    by_cases hkl : k < HL.length
    · rw [sL k hkl, hL k hkl]
      obtain ⟨e1, e2, e3, p, e4, e5, e6⟩ := h.idx k hkl
      refine ⟨e1, e2, e3, p, e4, by simp; omega, ?_⟩
      rw [tpg]
      split
      · rename_i hop
        have := onp k hkl (by rw [e4, hop])
        omega
      · rw [T2 p e5]
        exact e6
    · have hke : k = HL.length := by omega
      subst hke
      rw [sR, hR]
      refine ⟨by rw [hHl], hc.1, T3.2, on, rfl, by simp; exact T1.1, ?_⟩
      rw [tpg, if_pos rfl]
      dsimp only
      omega
  · intro k hk hke
    simp only [List.length_append, List.length_singleton] at hk
    have hkl : k < HL.length := by omega
    obtain ⟨i, h1, h2, h3⟩ := h.hp k hkl (by omega)
    exact ⟨i, h1, by rw [hL k hkl]; exact h2, h3⟩
  · intro i hi
    obtain ⟨k, hk, e1, e2, e3, e4, e5, e6⟩ := h.pl i hi
    exact ⟨k, by simp; omega, by dsimp only; rw [sL k hk]; exact e1, e2, by dsimp only; rw [sL k hk]; exact e3, e4, by dsimp only; rw [sL k hk]; exact e5, by rw [hL k hk]; exact e6⟩
  · exact h.sep
  · intro k hk
    simp only [List.length_append, List.length_singleton] at hk
    dsimp only
    by_cases hkl : k < HL.length
    · rw [sL k hkl]
      exact h.wid k hkl
    · have hke : k = HL.length := by omega
      subst hke
      rw [sR]
      have e0 : (D.map fun i => if (q.out.getD i default).s = (HL.length : Nat) then (l.getD i default).w + P.k else 0) = D.map fun _ => (0 : Int) := List.map_congr_left fun i hi => by
        obtain ⟨k, hk, _, e2, _⟩ := h.pl i hi
        rw [if_neg (by omega)]
      rw [e0, sum_zero]
      dsimp only
      omega
  · intro k k' hk hk' hne hpp
    simp only [List.length_append, List.length_singleton] at hk hk'
    dsimp only at hpp ⊢
    by_cases h1 : k < HL.length
    · by_cases h2 : k' < HL.length
      · rw [sL k h1, sL k' h2] at hpp ⊢
        rw [hL k h1, hL k' h2]
        exact h.ysep k k' h1 h2 hne hpp
      · have hke : k' = HL.length := by omega
        subst hke
        rw [sL k h1, sR] at hpp ⊢
        rw [hL k h1]
        exact .inl (onp k h1 hpp)
    · have hke : k = HL.length := by omega
      subst hke
      rw [sR, sL k' (by omega)] at hpp ⊢
      rw [hL k' (by omega)]
      exact .inr (onp k' (by omega) hpp.symm)
  · intro p hp
    simp only [List.length_set] at hp
    dsimp only
    have e0 : ((List.range (HL ++ [c.h]).length).map fun k => if ((q.sh ++ [(⟨(on : Nat), (q.sh.length : Nat), 0, y⟩ : Spo)]).getD k default).p = (p : Nat) then (HL ++ [c.h]).getD k 0 + P.k else 0).sum = ((List.range HL.length).map fun k => if (q.sh.getD k default).p = (p : Nat) then HL.getD k 0 + P.k else 0).sum + if on = p then c.h + P.k else 0 := by
      rw [List.length_append, List.length_singleton, List.range_succ, List.map_append, List.sum_append]
      congr 1
      · congr 1
        refine List.map_congr_left fun k hk => ?_
        have hk := List.mem_range.1 hk
        rw [sL k hk, hL k hk]
      · simp only [List.map_cons, List.map_nil, List.sum_cons, List.sum_nil]
        rw [sR, hR]
        dsimp only
        by_cases ho : on = p
        · rw [if_pos (by omega), if_pos ho]
          omega
        · rw [if_neg (by omega), if_neg ho]
          rfl
    rw [e0, tpg]
    obtain ⟨t1, t2, t3⟩ := T4 p hp
    by_cases ho : on = p
    · subst ho
      rw [if_pos rfl, if_pos rfl, ← t1, hy]
      omega
    · rw [if_neg ho, if_neg ho, ← t1]
      omega
theorem QI.put {i k : Nat} (h : QI P l D d q HL e) (he : HL.length ≤ e ∨ e = k) (hK : 0 ≤ P.k) (hi : i < l.length) (hiD : i ∉ D) (hc : c = l.getD i default) (hcw : 0 < c.w) (hk : k < HL.length) (hx : (q.sh.getD k default).x + c.w ≤ P.w) (hh : c.h ≤ HL.getD k 0) (hke : k = e → HL.getD k 0 = c.h) : QI P l (D ++ [i]) d (qPut P c i k q) HL HL.length := by
  have hHl := h.hl
  obtain ⟨s, hs⟩ : ∃ s, q.sh.getD k default = s := ⟨_, rfl⟩
  have hq : qPut P c i k q = ⟨q.sh.set k { s with x := s.x + (c.w + P.k) }, q.tp, q.out.set i s⟩ := by
    simp only [qPut, hs]
  have sg : ∀ j, (q.sh.set k { s with x := s.x + (c.w + P.k) }).getD j default = if k = j then { s with x := s.x + (c.w + P.k) } else q.sh.getD j default := fun j => setD (by omega)
  have og : ∀ j, (q.out.set i s).getD j default = if i = j then s else q.out.getD j default := fun j => setD (by rw [h.ol]; exact hi)
  have oD : ∀ j, j ∈ D → (q.out.set i s).getD j default = q.out.getD j default := fun j hj => by
    rw [og, if_neg (fun hij => hiD (by rw [hij]; exact hj))]
  have oi : (q.out.set i s).getD i default = s := by rw [og, if_pos rfl]
  obtain ⟨i1, i2, i3, p, i4, i5, i6⟩ := h.idx k hk
  obtain ⟨w1, w2, w3⟩ := h.wid k hk
  rw [hs] at i1 i3 i4 i6 w1 w2 w3 hx
  rw [hq]
  have sy : ∀ j, ((q.sh.set k { s with x := s.x + (c.w + P.k) }).getD j default).y = (q.sh.getD j default).y ∧ ((q.sh.set k { s with x := s.x + (c.w + P.k) }).getD j default).p = (q.sh.getD j default).p ∧ ((q.sh.set k { s with x := s.x + (c.w + P.k) }).getD j default).s = (q.sh.getD j default).s := fun j => by
    rw [sg]
    split
    · rename_i e
      subst e
      rw [hs]
      exact ⟨rfl, rfl, rfl⟩
    · exact ⟨rfl, rfl, rfl⟩
  constructor
  · simp [h.ol]
  · simp [hHl]
  · simpa using h.lt
  · simpa using h.tl
  · intro j hj
    dsimp only
    rw [(sy j).1, (sy j).2.1, (sy j).2.2]
    exact h.idx j hj
  · intro j hj _
    dsimp only
    by_cases hje : j = e
    · have hjk : j = k := by omega
      subst hjk
      refine ⟨i, by simp, ?_, by rw [oi]; exact i1⟩
      rw [hke hje, hc]
    · obtain ⟨i', h1, h2, h3⟩ := h.hp j hj hje
      exact ⟨i', by simp [h1], h2, by rw [oD i' h1]; exact h3⟩
  · intro j hj
    dsimp only
    rcases List.mem_append.1 hj with hj | hj
    · obtain ⟨k', hk', e1, e2, e3, e4, e5, e6⟩ := h.pl j hj
      refine ⟨k', hk', ?_⟩
      rw [oD j hj, (sy k').1, (sy k').2.1, sg]
      refine ⟨e1, e2, e3, e4, ?_, e6⟩
      split
      · rename_i hkk
        subst hkk
        rw [hs] at e5
        dsimp only
        omega
      · exact e5
    · have hji : j = i := by simpa using hj
      subst hji
      refine ⟨k, hk, ?_⟩
      rw [oi, (sy k).1, (sy k).2.1, sg, if_pos rfl, hs, ← hc]
      exact ⟨rfl, i1, rfl, w2, by dsimp only; omega, hh⟩
  · intro a b ha hb hab hss
    dsimp only at hss ⊢
    have old : ∀ j, j ∈ D → (q.out.getD j default).s = s.s → (q.out.getD j default).x + (l.getD j default).w + P.k ≤ s.x := fun j hj hjs => by
      obtain ⟨k', hk', _, e2, _, _, e5, _⟩ := h.pl j hj
      have hkk : k' = k := by omega
      subst hkk
      rw [hs] at e5
      exact e5
    rcases List.mem_append.1 ha with ha' | ha'
    · rcases List.mem_append.1 hb with hb' | hb'
      · rw [oD a ha', oD b hb'] at hss ⊢
        exact h.sep a b ha' hb' hab hss
      · have hbi : b = i := by simpa using hb'
        rw [hbi] at hss ⊢
        rw [oD a ha', oi] at hss ⊢
        rw [← hc]
        exact .inl (old a ha' hss)
    · have hai : a = i := by simpa using ha'
      rcases List.mem_append.1 hb with hb' | hb'
      · rw [hai] at hss ⊢
        rw [oi, oD b hb'] at hss ⊢
        rw [← hc]
        exact .inr (old b hb' hss.symm)
      · have hbi : b = i := by simpa using hb'
        exact absurd (hai.trans hbi.symm) hab
  · intro j hj
    dsimp only
    have e0 : ((D ++ [i]).map fun i' => if ((q.out.set i s).getD i' default).s = (j : Nat) then (l.getD i' default).w + P.k else 0).sum = (D.map fun i' => if (q.out.getD i' default).s = (j : Nat) then (l.getD i' default).w + P.k else 0).sum + if k = j then c.w + P.k else 0 := by
      rw [List.map_append, List.sum_append]
      congr 1
      · congr 1
        refine List.map_congr_left fun i' hi' => ?_
        rw [oD i' hi']
      · simp only [List.map_cons, List.map_nil, List.sum_cons, List.sum_nil]
        rw [oi, i1, ← hc]
        by_cases hkj : k = j
        · rw [if_pos (by omega), if_pos hkj]
          omega
        · rw [if_neg (by omega), if_neg hkj]
          rfl
    rw [e0, sg]
    obtain ⟨v1, v2, v3⟩ := h.wid j hj
    by_cases hkj : k = j
    · subst hkj
      rw [if_pos rfl, if_pos rfl]
      dsimp only
      rw [← w1]
      omega
    · rw [if_neg hkj, if_neg hkj, ← v1]
      omega
  · intro a b ha hb hab hpp
    dsimp only at hpp ⊢
    rw [(sy a).2.1, (sy b).2.1] at hpp
    rw [(sy a).1, (sy b).1]
    exact h.ysep a b ha hb hab hpp
  · intro p' hp'
    dsimp only
    have e0 : ((List.range HL.length).map fun j => if ((q.sh.set k { s with x := s.x + (c.w + P.k) }).getD j default).p = (p' : Nat) then HL.getD j 0 + P.k else 0) = (List.range HL.length).map fun j => if (q.sh.getD j default).p = (p' : Nat) then HL.getD j 0 + P.k else 0 := List.map_congr_left fun j _ => by
      rw [(sy j).2.1]
    rw [e0]
    exact h.hei p' hp'
/-- One cut more. -/
theorem QI.step {i : Nat} (h : QI P l D d q HL HL.length) (hj : JobP P l) (hw0 : 0 ≤ P.w) (hi : i < l.length) (hiD : i ∉ D) (hfall : ∀ j, j ∈ D → (l.getD i default).h ≤ (l.getD j default).h) : ∃ HL', QI P l (D ++ [i]) (d + 1) (qStep P l q i) HL' HL'.length := by
  obtain ⟨c, hc⟩ : ∃ c, l.getD i default = c := ⟨_, rfl⟩
  have hcj := hj.c c (hc ▸ getD_mem hi)
  obtain ⟨k, hk⟩ : ∃ k, firstI (fun s : Spo => decide (s.x + c.w ≤ P.w)) q.sh = k := ⟨_, rfl⟩
  have hkl : k ≤ q.sh.length := by rw [← hk]; exact firstI_le _ _
  have hst : qStep P l q i = qPut P c i k (if k = q.sh.length then qNew P c q else q) := by
    unfold qStep
    simp only [hc, hk]
  rw [hst]
  by_cases hkn : k = q.sh.length
  · rw [if_pos hkn]
    have h2 := h.new (c := c) (Nat.le_refl _) hj.k ⟨hcj.2.2.1, hcj.2.2.2⟩ hw0
    have hkH : k = HL.length := by rw [h.hl]; exact hkn
    have hx0 : ((qNew P c q).sh.getD k default).x = 0 := by
      simp only [qNew]
      rw [app_r hkn]
    refine ⟨_, h2.put (.inr hkH.symm) hj.k hi hiD hc.symm hcj.1 (by simp; omega) (by rw [hx0]; omega) (by rw [app_r hkH]; exact Int.le_refl _) fun _ => app_r hkH⟩
  · rw [if_neg hkn]
    have hkH : k < HL.length := by rw [h.hl]; omega
    have hfit := firstI_ok (p := fun s : Spo => decide (s.x + c.w ≤ P.w)) (l := q.sh) (d := default) (by rw [hk]; omega)
    rw [hk] at hfit
    simp only [decide_eq_true_eq] at hfit
    obtain ⟨j, hjD, hjh, _⟩ := h.hp k hkH (by omega)
    have hf := hfall j hjD
    rw [hc] at hf
    have h3 := h.put (.inl (Nat.le_refl _)) hj.k hi hiD hc.symm hcj.1 hkH hfit (by rw [hjh]; exact hf) fun e => by omega
    exact ⟨HL, ⟨h3.ol, h3.hl, Nat.le_succ_of_le h3.lt, h3.tl, h3.idx, h3.hp, h3.pl, h3.sep, h3.wid, h3.ysep, h3.hei⟩⟩
end
theorem QI.all {P : Pt} {l : List Ct} (hj : JobP P l) (hw0 : 0 ≤ P.w) : ∀ (r D : List Nat) (q : Qs) (HL : List Int), QI P l D D.length q HL HL.length → (∀ i, i ∈ D ++ r → i < l.length) → (D ++ r).Nodup → (D ++ r).Pairwise (fun x y => ltB l y x = false) → ∃ HL', QI P l (D ++ r) (D ++ r).length (r.foldl (qStep P l) q) HL' HL'.length
  | [], D, q, HL, h, _, _, _ => ⟨HL, by simpa using h⟩
  | i :: r, D, q, HL, h, hlt, hn, hp => by
    have hiD : i ∉ D := fun hc => by
      have := (List.nodup_append.1 hn).2.2
      exact this i hc i (by simp) rfl
    have hfall : ∀ j, j ∈ D → (l.getD i default).h ≤ (l.getD j default).h := fun j hjD => by
      have := (List.pairwise_append.1 hp).2.2 j hjD i (by simp)
      unfold ltB at this
      rw [decide_eq_false_iff_not, befF_neg] at this
      omega
    obtain ⟨HL', h'⟩ := h.step hj hw0 (hlt i (by simp)) hiD hfall
    have e : D ++ i :: r = (D ++ [i]) ++ r := by simp
    rw [List.foldl_cons, e]
    refine QI.all hj hw0 r (D ++ [i]) _ HL' ?_ (fun j hjD => hlt j (by rw [e]; exact hjD)) (by rw [← e]; exact hn) (by rw [← e]; exact hp)
    simpa using h'
theorem quick_shv {P : Pt} {l : List Ct} (hj : JobP P l) (hw0 : 0 ≤ P.w) (hh0 : 0 ≤ P.h) : ∃ m PP YY HH, Shv P l (quickF P l) m PP YY HH := by
  have hperm := ordF_perm l
  have hmem : ∀ i, i ∈ ordF l ↔ i < l.length := fun i => by rw [hperm.mem_iff, List.mem_range]
  obtain ⟨HL, h⟩ := QI.all hj hw0 (ordF l) [] ⟨[], [], List.replicate l.length default⟩ [] ⟨by simp, rfl, Nat.le_refl _, Nat.le_refl _, (fun k hk => by cases hk), (fun k hk => by cases hk), (fun i hi => by cases hi), (fun i j hi => by cases hi), (fun k hk => by cases hk), (fun k k' hk => by cases hk), (fun p hp => by cases hp)⟩ (fun i hi => (hmem i).1 (by simpa using hi)) (by simpa using hperm.nodup_iff.2 List.nodup_range) (by simpa using ordF_sorted l)
  rw [List.nil_append] at h
  obtain ⟨q, hq⟩ : ∃ q, (ordF l).foldl (qStep P l) ⟨[], [], List.replicate l.length default⟩ = q := ⟨_, rfl⟩
  have hqk : quickF P l = q.out := by rw [← hq]; rfl
  rw [hq] at h
  rw [hqk]
  have hK := hj.k
  refine ⟨HL.length, fun k => (q.sh.getD k default).p.toNat, fun k => (q.sh.getD k default).y, fun k => HL.getD k 0, ?_⟩
  have hlen : (ordF l).length = l.length := by rw [hperm.length_eq, List.length_range]
  constructor
  · exact h.ol
  · have := h.lt
    rw [h.hl]
    omega
  · intro k hk
    obtain ⟨_, _, _, p, e1, e2, _⟩ := h.idx k hk
    have := h.tl
    have := h.lt
    omega
  · intro i hi
    obtain ⟨k, hk, e1, e2, e3, e4, e5, e6⟩ := h.pl i ((hmem i).2 hi)
    obtain ⟨_, _, _, p, f1, _⟩ := h.idx k hk
    obtain ⟨_, _, w3⟩ := h.wid k hk
    exact ⟨k, hk, by rw [e1, f1]; simp, e2, e3, e4, by omega, e6⟩
  · intro i j hi hjl hij he
    exact h.sep i j ((hmem i).2 hi) ((hmem j).2 hjl) hij he
  · intro k hk
    obtain ⟨_, e2, e3, p, e4, e5, e6⟩ := h.idx k hk
    have := (h.hei p e5).2.2
    omega
  · intro k k' hk hk' hne he
    obtain ⟨_, _, _, p, f1, _⟩ := h.idx k hk
    obtain ⟨_, _, _, p', f2, _⟩ := h.idx k' hk'
    exact h.ysep k k' hk hk' hne (by have he : (q.sh.getD k default).p.toNat = (q.sh.getD k' default).p.toNat := he; omega)
  · intro k hk
    have h1 := h.wid k hk
    rw [← sum_perm (hperm.map _), ← h1.1]
    exact h1.2.2
  · intro k hk
    obtain ⟨i, hi, _, e⟩ := h.hp k hk (by omega)
    exact ⟨i, (hmem i).1 hi, e⟩
  · intro p
    by_cases hp : p < q.tp.length
    · obtain ⟨t1, _, t3⟩ := h.hei p hp
      rw [t1] at t3
      have e0 : ((List.range HL.length).map fun k => if (q.sh.getD k default).p.toNat = p then HL.getD k 0 + P.k else 0) = (List.range HL.length).map fun k => if (q.sh.getD k default).p = (p : Nat) then HL.getD k 0 + P.k else 0 := List.map_congr_left fun k hk => by
        obtain ⟨_, _, _, p', f1, _⟩ := h.idx k (List.mem_range.1 hk)
        rw [f1]
        by_cases hc : p' = p
        · rw [if_pos (by simp [hc]), if_pos (by simp [hc])]
        · rw [if_neg (by simp; exact hc), if_neg (by omega)]
      rw [e0]
      exact t3
    · have e0 : ((List.range HL.length).map fun k => if (q.sh.getD k default).p.toNat = p then HL.getD k 0 + P.k else 0) = (List.range HL.length).map fun _ => (0 : Int) := List.map_congr_left fun k hk => by
        obtain ⟨_, _, _, p', f1, f2, _⟩ := h.idx k (List.mem_range.1 hk)
        rw [if_neg (by omega)]
      rw [e0, sum_zero]
      omega
end Go.Proofs.Ytamjhpdgclbfgaa
