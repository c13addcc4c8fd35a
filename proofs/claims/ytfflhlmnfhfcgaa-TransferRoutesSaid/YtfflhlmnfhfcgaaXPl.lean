/- Chapter 33: the plain laws: the cost is the same in whatever order; the search finds the least. -/
import Derived.Test.YtfflhlmnfhfcgaaXTrySt
namespace Go.Proofs.Ytfflhlmnfhfcgaa
open Go.RowKit Go.Kq

theorem tot_zero {α : Type} (f : α → Int) : ∀ l : List α, (∀ x ∈ l, f x = 0) → tot f l = 0
  | [], _ => rfl
  | x :: l, h => by
    rw [tot_cons, h x (by simp), tot_zero f l fun y hy => h y (by simp [hy])]
    rfl
theorem tot_append {α : Type} (f : α → Int) (l m : List α) : tot f (l ++ m) = tot f l + tot f m := by simp [tot]
theorem tot_congr {α : Type} {f g : α → Int} : ∀ l : List α, (∀ x ∈ l, f x = g x) → tot f l = tot g l
  | [], _ => rfl
  | x :: l, h => by rw [tot_cons, tot_cons, h x (by simp), tot_congr l fun y hy => h y (by simp [hy])]
theorem tot_sub {α : Type} (f : α → Int) : ∀ S U : List α, S.Nodup → (∀ x ∈ S, x ∈ U) → U.Nodup → (∀ x ∈ U, x ∉ S → f x = 0) → tot f S = tot f U
  | [], U, _, _, _, h => (tot_zero f U fun x hx => h x hx (by simp)).symm
  | x :: S, U, hn, hs, hu, h => by
    obtain ⟨U1, U2, rfl⟩ := List.append_of_mem (hs x (by simp))
    rw [List.nodup_cons] at hn
    have hu' : (U1 ++ U2).Nodup ∧ x ∉ U1 ++ U2 := by
      rw [List.nodup_append] at hu
      obtain ⟨h1, h2, h3⟩ := hu
      rw [List.nodup_cons] at h2
      refine ⟨?_, ?_⟩
      · rw [List.nodup_append]
        exact ⟨h1, h2.2, fun a ha b hb => h3 a ha b (by simp [hb])⟩
      · intro hx
        rcases List.mem_append.1 hx with hx | hx
        · exact h3 x hx x (by simp) rfl
        · exact h2.1 hx
    have := tot_sub f S (U1 ++ U2) hn.2 (fun y hy => by
      have hyU := hs y (by simp [hy])
      simp only [List.mem_append, List.mem_cons] at hyU ⊢
      rcases hyU with hyU | hyU | hyU
      · exact .inl hyU
      · exact absurd (hyU ▸ hy) hn.1
      · exact .inr hyU) hu'.1 (fun y hy hns => h y (by
        simp only [List.mem_append, List.mem_cons] at hy ⊢
        rcases hy with hy | hy
        · exact .inl hy
        · exact .inr (.inr hy)) (by
        intro hc
        rcases List.mem_cons.1 hc with rfl | hc
        · exact hu'.2 hy
        · exact hns hc))
    rw [tot_cons, this, tot_append, tot_append, tot_cons]
    omega
theorem pm_nodup (g : Key → Int) : ∀ S, (keys (pm g S)).Nodup
  | [] => by simp [pm, keys]
  | k :: S => nodup_ins _ _ _ (pm_nodup g S)
theorem dm_nodup (g : Key → Int) : ∀ S, (keys (dm g S)).Nodup
  | [] => by simp [dm, keys]
  | k :: S => nodup_ins _ _ _ (dm_nodup g S)
theorem mem_pm (g : Key → Int) (j : Key) : ∀ S, j ∈ keys (pm g S) ↔ ∃ k ∈ S, up k = j
  | [] => by simp [pm, keys]
  | k :: S => by
    unfold pm
    rw [mem_keys_ins, mem_pm g j S]
    constructor
    · rintro (h | ⟨x, h1, h2⟩)
      · exact ⟨k, by simp, h.symm⟩
      · exact ⟨x, by simp [h1], h2⟩
    · rintro ⟨x, h1, h2⟩
      rcases List.mem_cons.1 h1 with rfl | h1
      · exact .inl h2.symm
      · exact .inr ⟨x, h1, h2⟩
theorem mem_dm (g : Key → Int) (j : Int) : ∀ S, j ∈ keys (dm g S) ↔ ∃ k ∈ S, k.1 = j
  | [] => by simp [dm, keys]
  | k :: S => by
    unfold dm
    rw [mem_keys_ins, mem_dm g j S]
    constructor
    · rintro (h | ⟨x, h1, h2⟩)
      · exact ⟨k, by simp, h.symm⟩
      · exact ⟨x, by simp [h1], h2⟩
    · rintro ⟨x, h1, h2⟩
      rcases List.mem_cons.1 h1 with rfl | h1
      · exact .inl h2.symm
      · exact .inr ⟨x, h1, h2⟩
theorem bal_pm (g : Key → Int) (j : Key) : ∀ S, bal (pm g S) j = tot (fun k => if up k = j then g k else 0) S
  | [] => by simp [pm, bal, get1, tot]
  | k :: S => by
    unfold pm
    rw [bal_ins, tot_cons, ← bal_pm g j S]
    by_cases h : up k = j
    · simp only [h, if_true]
      omega
    · simp only [h, if_false]
      omega
theorem get0_dm (g : Key → Int) (j : Int) : ∀ S, get0 (dm g S) j = tot (fun k => if k.1 = j then g k else 0) S
  | [] => by simp [dm, get0, get1, tot]
  | k :: S => by
    unfold dm
    rw [get0_ins, tot_cons, ← get0_dm g j S]
    by_cases h : k.1 = j
    · simp only [h, if_true]
      omega
    · simp only [h, if_false]
      omega
/-- The cost over keys that are named in one order. -/
def canon (g : Key → Int) (U : List Key) : Int :=
  tot (fun k => absI (g k)) U + 2 * tot (fun j => absI (tot (fun k => if up k = j then g k else 0) U)) (keys (pm g U)) + 4 * tot (fun j => absI (tot (fun k => if k.1 = j then g k else 0) U)) (keys (dm g U))
theorem isCost_canon (E : List (Key × Int)) (n : Int) (U : List Key) (hU : U.Nodup) (hs : ∀ k ∈ keys E, k ∈ U) (h : IsCost E n) : n = canon (bal E) U := by
  obtain ⟨S, S2, S3, hO, rfl⟩ := h
  have z : ∀ k, k ∉ S → bal E k = 0 := fun k hk => by
    have : get1 E k = none := (get1_none_iff E k).2 fun h => hk ((hO.m1 k).2 h)
    simp [bal, this]
  have sub : ∀ k ∈ S, k ∈ U := fun k hk => hs k ((hO.m1 k).1 hk)
  have e1 : ∀ j, bal (pm (bal E) S) j = tot (fun k => if up k = j then bal E k else 0) U := fun j => by
    rw [bal_pm]
    exact tot_sub _ S U hO.n1 sub hU fun k _ hk => by rw [z k hk]; simp
  have e2 : ∀ j, get0 (dm (bal E) S) j = tot (fun k => if k.1 = j then bal E k else 0) U := fun j => by
    rw [get0_dm]
    exact tot_sub _ S U hO.n1 sub hU fun k _ hk => by rw [z k hk]; simp
  unfold costS canon
  rw [tot_sub _ S U hO.n1 sub hU fun k _ hk => by rw [z k hk]; rfl]
  congr 1
  · congr 2
    rw [tot_congr S2 fun j _ => by rw [e1 j]]
    refine tot_sub _ S2 _ hO.n2 (fun j hj => ?_) (pm_nodup _ _) fun j hj hn => ?_
    · rw [hO.m2, mem_pm] at hj
      obtain ⟨k, hk, e⟩ := hj
      exact (mem_pm _ _ _).2 ⟨k, sub k hk, e⟩
    · rw [tot_zero]
      · rfl
      · intro k _
        by_cases hk : up k = j
        · rw [if_pos hk]
          exact z k fun hkS => hn ((hO.m2 j).2 ((mem_pm _ _ _).2 ⟨k, hkS, hk⟩))
        · rw [if_neg hk]
  · congr 1
    rw [tot_congr S3 fun j _ => by rw [e2 j]]
    refine tot_sub _ S3 _ hO.n3 (fun j hj => ?_) (dm_nodup _ _) fun j hj hn => ?_
    · rw [hO.m3, mem_dm] at hj
      obtain ⟨k, hk, e⟩ := hj
      exact (mem_dm _ _ _).2 ⟨k, sub k hk, e⟩
    · rw [tot_zero]
      · rfl
      · intro k _
        by_cases hk : k.1 = j
        · rw [if_pos hk]
          exact z k fun hkS => hn ((hO.m3 j).2 ((mem_dm _ _ _).2 ⟨k, hkS, hk⟩))
        · rw [if_neg hk]

/-! ### the profiles -/
theorem bal_addAll (t : Int) (k : Key) : ∀ (vs : List Vc) (E : List (Key × Int)), bal (addAll t E vs) k = bal E k + t * tot (fun v => if v.key = k then v.q else 0) vs
  | [], E => by simp [addAll, tot]
  | v :: vs, E => by
    have := bal_addAll t k vs (addV t E v)
    simp only [addAll, List.foldl_cons] at this ⊢
    rw [this, bal_addV_eq, tot_cons, Int.mul_add]
    split <;> omega
theorem keys_addAll (t : Int) (k : Key) : ∀ (vs : List Vc) (E : List (Key × Int)), k ∈ keys (addAll t E vs) ↔ k ∈ keys E ∨ ∃ v ∈ vs, v.key = k
  | [], E => by simp [addAll]
  | v :: vs, E => by
    have := keys_addAll t k vs (addV t E v)
    simp only [addAll, List.foldl_cons] at this ⊢
    rw [this, addV, mem_keys_ins]
    simp only [List.mem_cons, exists_eq_or_imp, eq_comm (a := k)]
    constructor
    · rintro ((h | h) | h)
      · exact .inr (.inl h)
      · exact .inl h
      · exact .inr (.inr h)
    · rintro (h | h | h)
      · exact .inl (.inr h)
      · exact .inl (.inl h)
      · exact .inr h
theorem nodup_addAll (t : Int) : ∀ (vs : List Vc) (E : List (Key × Int)), (keys E).Nodup → (keys (addAll t E vs)).Nodup
  | [], _, h => h
  | v :: vs, E, h => nodup_addAll t vs (addV t E v) (nodup_ins _ _ _ h)
theorem len_addAll (t : Int) : ∀ (vs : List Vc) (E : List (Key × Int)), (addAll t E vs).length ≤ E.length + vs.length
  | [], _ => by simp [addAll]
  | v :: vs, E => by
    have h1 := len_addAll t vs (addV t E v)
    have h2 := ins_len v.key (bal E v.key + t * v.q) E
    simp only [addAll, List.foldl_cons, List.length_cons, addV] at h1 ⊢
    omega
def univ (vs : List Vc) : List Key := keys (addAll 1 [] vs)
def sel (ys : List Vc) (L : List Nat) : List Vc := L.filterMap fun i => ys[i]?
theorem tk_sel (g0 : Key → Int) (ys : List Vc) (k : Key) : ∀ L, tk g0 ys L k = g0 k - tot (fun v => if v.key = k then v.q else 0) (sel ys L)
  | [] => by simp [tk, sel, tot]
  | i :: L => by
    rw [tk, tk_sel g0 ys k L]
    unfold sel
    rw [List.filterMap_cons]
    cases h : ys[i]? with
    | none => simp
    | some v =>
      simp only [tot_cons]
      omega
theorem bal_btw (xs vs : List Vc) (k : Key) : bal (btw xs vs) k = bal (btw xs []) k - tot (fun v => if v.key = k then v.q else 0) vs := by
  have h1 := bal_addAll (-1) k vs (addAll 1 [] xs)
  show bal (addAll (-1) (addAll 1 [] xs) vs) k = bal (addAll 1 [] xs) k - _
  rw [h1]
  omega
theorem mem_univ (vs : List Vc) (k : Key) : k ∈ univ vs ↔ ∃ v ∈ vs, v.key = k := by
  unfold univ
  rw [keys_addAll]
  simp [keys]
theorem keys_btw (xs vs : List Vc) (k : Key) : k ∈ keys (btw xs vs) ↔ (∃ v ∈ xs, v.key = k) ∨ ∃ v ∈ vs, v.key = k := by
  unfold btw
  rw [keys_addAll, keys_addAll]
  simp [keys]
theorem sel_mem {ys : List Vc} {L : List Nat} {v : Vc} (h : v ∈ sel ys L) : v ∈ ys := by
  unfold sel at h
  rw [List.mem_filterMap] at h
  obtain ⟨i, _, h⟩ := h
  exact List.mem_of_getElem? h
theorem sel_len (ys : List Vc) (L : List Nat) : (sel ys L).length ≤ L.length := List.length_filterMap_le _ _
/-- The cost of a choice. -/
def Cst (xs ys : List Vc) (L : List Nat) : Int := canon (tk (bal (btw xs [])) ys L) (univ (xs ++ ys))
theorem tk_btw (xs ys : List Vc) (L : List Nat) : tk (bal (btw xs [])) ys L = bal (btw xs (sel ys L)) := funext fun k => (tk_sel _ _ _ _).trans (bal_btw xs _ k).symm
theorem costs_of {xs ys : List Vc} (sx : Sane xs) (sy : Sane ys) (hx : xs.length ≤ 24) (hy : ys.length ≤ 14) : Costs (bal (btw xs [])) ys (univ (xs ++ ys)) (Cst xs ys) := by
  refine ⟨sy, ?_, fun v hv => (mem_univ _ _).2 ⟨v, by simp [hv], rfl⟩, fun L k hL => ?_, fun E L c hn hb hk hc => ?_⟩
  · have := len_addAll 1 (xs ++ ys) []
    simp [univ, keys] at this ⊢
    omega
  · rw [tk_btw]
    have h1 := btw_bd (ys := sel ys L) sx (fun v hv => sy v (sel_mem hv)) k
    have h2 := sel_len ys L
    omega
  · rw [isCost_canon E c _ (nodup_addAll 1 _ [] (by simp [keys])) hk hc]
    unfold Cst
    rw [funext hb]
    rfl
theorem cst_sel {xs ys : List Vc} {L : List Nat} {c : Int} (h : IsCost (btw xs (sel ys L)) c) : c = Cst xs ys L := by
  rw [isCost_canon _ c (univ (xs ++ ys)) (nodup_addAll 1 _ [] (by simp [keys])) (fun k hk => ?_) h]
  · unfold Cst
    rw [tk_btw]
  · rw [keys_btw] at hk
    rw [mem_univ]
    rcases hk with ⟨v, hv, e⟩ | ⟨v, hv, e⟩
    · exact ⟨v, by simp [hv], e⟩
    · exact ⟨v, by simp [sel_mem hv], e⟩

/-! ### the search -/
def Asc (n : Nat) : Nat → List Nat → Prop
  | _, [] => True
  | i, a :: T => i ≤ a ∧ a < n ∧ Asc n (a + 1) T
theorem Asc.weak {n i j : Nat} {T : List Nat} (h : Asc n j T) (hij : i ≤ j) : Asc n i T := by
  cases T with
  | nil => trivial
  | cons a T => exact ⟨Nat.le_trans hij h.1, h.2⟩
theorem subs_iff (n m : Nat) (X : List Nat) (k : Nat) : ∀ (L : List Nat) (i : Nat), n - i ≤ k → (X ∈ subsAt n m k L i ↔ ∃ T, T ≠ [] ∧ X = L ++ T ∧ Asc n i T ∧ X.length ≤ m) := by
  induction k with
  | zero =>
    intro L i hk
    rw [subs_stop (by omega)]
    simp only [List.not_mem_nil, false_iff]
    rintro ⟨T, h1, _, h2, _⟩
    cases T with
    | nil => exact h1 rfl
    | cons a T =>
      have := h2.1
      have := h2.2.1
      omega
  | succ k ih =>
    intro L i hk
    by_cases h : i < n ∧ L.length < m
    · rw [subsAt, if_pos h]
      simp only [List.mem_cons, List.mem_append, ih (L ++ [i]) (i + 1) (by omega), ih L (i + 1) (by omega)]
      constructor
      · rintro (rfl | ⟨T, h1, h2, h3, h4⟩ | ⟨T, h1, h2, h3, h4⟩)
        · exact ⟨[i], by simp, rfl, ⟨Nat.le_refl _, h.1, trivial⟩, by simp; omega⟩
        · exact ⟨i :: T, by simp, by simpa using h2, ⟨Nat.le_refl _, h.1, h3⟩, h4⟩
        · exact ⟨T, h1, h2, h3.weak (by omega), h4⟩
      · rintro ⟨T, h1, h2, h3, h4⟩
        cases T with
        | nil => exact absurd rfl h1
        | cons a T =>
          obtain ⟨h5, h6, h7⟩ := h3
          by_cases ha : a = i
          · subst ha
            cases T with
            | nil => exact .inl h2
            | cons b T => exact .inr (.inl ⟨b :: T, by simp, by simpa using h2, h7, h4⟩)
          · exact .inr (.inr ⟨a :: T, by simp, h2, ⟨by omega, h6, h7⟩, h4⟩)
    · rw [subs_stop h]
      simp only [List.not_mem_nil, false_iff]
      rintro ⟨T, h1, h2, h3, h4⟩
      cases T with
      | nil => exact h1 rfl
      | cons a T =>
        obtain ⟨h5, h6, h7⟩ := h3
        rw [h2] at h4
        simp at h4
        omega
theorem fold_best (C : List Nat → Int) : ∀ (l : List (List Nat)) (s : List Nat × Int), s.2 = C s.1 → let r := l.foldl (better C) s
    r.2 = C r.1 ∧ (r.1 = s.1 ∨ r.1 ∈ l) ∧ ∀ X, X = s.1 ∨ X ∈ l → r.2 < C X ∨ (r.2 = C X ∧ r.1.length ≤ X.length)
  | [], s, h => ⟨h, .inl rfl, fun X hX => by
    rcases hX with rfl | hX
    · exact .inr ⟨h, Nat.le_refl _⟩
    · cases hX⟩
  | L :: l, s, h => by
    have ih := fold_best C l (better C s L)
    unfold better at ih
    simp only [List.foldl_cons]
    unfold better
    split at ih
    · rename_i hb
      obtain ⟨i1, i2, i3⟩ := ih rfl
      rw [if_pos hb]
      refine ⟨i1, ?_, fun X hX => ?_⟩
      · rcases i2 with i2 | i2
        · exact .inr (by rw [i2]; simp)
        · exact .inr (by simp [i2])
      · rcases hX with rfl | hX
        · have h1 := i3 L (.inl rfl)
          rw [← h]
          omega
        · rcases List.mem_cons.1 hX with rfl | hX
          · exact i3 X (.inl rfl)
          · exact i3 X (.inr hX)
    · rename_i hb
      obtain ⟨i1, i2, i3⟩ := ih h
      rw [if_neg hb]
      refine ⟨i1, ?_, fun X hX => ?_⟩
      · rcases i2 with i2 | i2
        · exact .inl i2
        · exact .inr (by simp [i2])
      · rcases hX with rfl | hX
        · exact i3 s.1 (.inl rfl)
        · rcases List.mem_cons.1 hX with rfl | hX
          · have h1 := i3 s.1 (.inl rfl)
            rw [← h] at h1
            omega
          · exact i3 X (.inr hX)
end Go.Proofs.Ytfflhlmnfhfcgaa
