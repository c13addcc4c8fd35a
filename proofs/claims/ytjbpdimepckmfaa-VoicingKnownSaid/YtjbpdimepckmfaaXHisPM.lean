/- Chapter 27: the pipes to which different things have been done (plain). · Chapter 27: the works about a pipe (plain). -/
import Derived.Test.YtjbpdimepckmfaaXPlcPM
import Derived.Test.YtjbpdimepckmfaaXStt
import Derived.Test.YtjbpdimepckmfaaXSmlM
import Derived.Test.YtjbpdimepckmfaaXRmgM
import Derived.Test.YtjbpdimepckmfaaXUndM
import Derived.Test.YtjbpdimepckmfaaXNxtPM
namespace Go.Proofs.Ytjbpdimepckmfaa
open Go.RowKit Go.Kq

def stP (x : List Pv) (p : Pp) : Option Pv := x.find? fun v => decide (v.p = p)
theorem stP_some {x : List Pv} {p : Pp} {v : Pv} (h : stP x p = some v) : v ∈ x ∧ v.p = p := by
  unfold stP at h
  exact ⟨List.mem_of_find?_eq_some h, by have := List.find?_some h; simpa using this⟩
theorem stP_none {x : List Pv} {p : Pp} : stP x p = none ↔ ∀ v ∈ x, v.p ≠ p := by
  unfold stP
  rw [List.find?_eq_none]
  simp
theorem stP_isSt {ws : List Wk} {x : List Pv} (h : IsSt ws x) (p : Pp) : stP x p = stOf ws p := by
  cases hs : stP x p with
  | some v =>
    obtain ⟨h1, h2⟩ := stP_some hs
    rw [← h2]
    exact ((h.2 v).1 h1).symm
  | none =>
    cases ho : stOf ws p with
    | none => rfl
    | some v =>
      have hp := stOf_p ho
      exact absurd hp (stP_none.1 hs v ((h.2 v).2 (by rw [hp]; exact ho)))
/-- Whether different things have been done to a pipe. -/
def difB (x y : List Pv) (p : Pp) : Bool := ((stP x p).isSome != (stP y p).isSome) || !eqV ((stP x p).getD default) ((stP y p).getD default)
theorem difB_iff {x y : List Pv} {p : Pp} : difB x y p = true ↔ stP x p ≠ stP y p := by
  unfold difB
  cases h1 : stP x p with
  | none =>
    cases h2 : stP y p with
    | none =>
      have : eqV (default : Pv) default = true := (eqV_iff _ _).2 rfl
      simp [this]
    | some v => simp
  | some u =>
    cases h2 : stP y p with
    | none => simp
    | some v =>
      simp only [Option.isSome_some, bne_self_eq_false, Bool.false_or, Option.getD_some, Bool.not_eq_true', ne_eq, Option.some.injEq]
      rw [← eqV_iff, Bool.not_eq_true]
/-- What Differ hands back: the pipes, in order. -/
def DifR (wa wb : List Wk) (out : List Pp) : Prop := (out.Pairwise fun a b => ltP a b = true) ∧ ∀ p, p ∈ out ↔ stOf wa p ≠ stOf wb p
def DifF (a b : List Wk) (out : List Pp) : Prop := if bothE a b = 0 then DifR (cws a) (cws b) out else out = []
theorem ppairs_nodup {s : List Pp} (h : s.Pairwise fun a b => ltP a b = true) : s.Nodup := h.imp fun {a b} h e => by rw [e, ltP_irr] at h; cases h
theorem srt_extP {s t : List Pp} (h : s.Pairwise fun a b => ltP a b = true) (h2 : t.Pairwise fun a b => ltP a b = true) (hm : ∀ p, p ∈ s ↔ p ∈ t) : s = t :=
  List.Perm.eq_of_pairwise (le := fun a b => ltP a b = true) (fun a b _ _ x y => by have := ltP_trans x y; rw [ltP_irr] at this; cases this) h h2
    ((List.perm_ext_iff_of_nodup (ppairs_nodup h) (ppairs_nodup h2)).2 hm)
theorem difR_uniq {wa wb : List Wk} {s t : List Pp} (h : DifR wa wb s) (h2 : DifR wa wb t) : s = t := srt_extP h.1 h2.1 fun p => (h.2 p).trans (h2.2 p).symm
theorem difF_uniq {a b : List Wk} {s t : List Pp} (h : DifF a b s) (h2 : DifF a b t) : s = t := by
  unfold DifF at h h2
  by_cases he : bothE a b = 0
  · rw [if_pos he] at h h2
    exact difR_uniq h h2
  · rw [if_neg he] at h h2
    rw [h, h2]
/-- A list with the pipes of x and of y. -/
structure AllR (x y all : List Pv) : Prop where
  srt : SrtP all
  mem : ∀ p, (∃ v ∈ all, v.p = p) ↔ (∃ v ∈ x, v.p = p) ∨ ∃ v ∈ y, v.p = p
theorem all_start {x : List Pv} (h : SrtP x) : AllR x [] x := ⟨h, fun p => by simp⟩
theorem all_step {x y all L R : List Pv} {e0 v : Pv} (h : AllR x y all) (hp : PlcR all v.p L e0 R) : AllR x (y ++ [v]) (L ++ e0 :: R) := by
  have hS := h.srt
  have hhi := hp.hi hS
  have hLR : (L ++ R).Pairwise fun a b => ltP a.p b.p = true := by
    rcases hp.is with e | ⟨e, _⟩
    · rw [e] at hS
      exact List.Pairwise.sublist (List.Sublist.append_left (List.sublist_cons_self _ _) _) hS
    · rw [← e]
      exact hS
  refine ⟨?_, fun p => ?_⟩
  · unfold SrtP
    rw [List.pairwise_append] at hLR ⊢
    refine ⟨hLR.1, List.pairwise_cons.2 ⟨fun b hb => by rw [hp.pp]; exact hhi b hb, hLR.2.1⟩, fun a ha b hb => ?_⟩
    rcases List.mem_cons.1 hb with rfl | hb
    · rw [hp.pp]
      exact hp.lo a ha
    · exact hLR.2.2 a ha b hb
  · have h1 := h.mem p
    have h2 : (∃ u ∈ L ++ e0 :: R, u.p = p) ↔ (∃ u ∈ all, u.p = p) ∨ v.p = p := by
      have hpp := hp.pp
      rcases hp.is with e | ⟨e, _⟩
      · rw [e]
        constructor
        · exact .inl
        · rintro (h | h)
          · exact h
          · exact ⟨e0, by simp, hpp.trans h⟩
      · rw [e]
        constructor
        · rintro ⟨u, hu, hup⟩
          rcases List.mem_append.1 hu with hu | hu
          · exact .inl ⟨u, by simp [hu], hup⟩
          · rcases List.mem_cons.1 hu with rfl | hu
            · exact .inr (hpp.symm.trans hup)
            · exact .inl ⟨u, by simp [hu], hup⟩
        · rintro (⟨u, hu, hup⟩ | h)
          · rcases List.mem_append.1 hu with hu | hu
            · exact ⟨u, by simp [hu], hup⟩
            · exact ⟨u, by simp [hu], hup⟩
          · exact ⟨e0, by simp, hpp.trans h⟩
    rw [h2, h1]
    constructor
    · rintro ((h | ⟨u, hu, hup⟩) | h)
      · exact .inl h
      · exact .inr ⟨u, by simp [hu], hup⟩
      · exact .inr ⟨v, by simp, h⟩
    · rintro (h | ⟨u, hu, hup⟩)
      · exact .inl (.inl h)
      · rcases List.mem_append.1 hu with hu | hu
        · exact .inl (.inr ⟨u, hu, hup⟩)
        · simp at hu
          exact .inr (by rw [← hu]; exact hup)
theorem all_len {x y all : List Pv} (h : AllR x y all) : all.length ≤ x.length + y.length := by
  have h1 := nodup_lenP (all.map Pv.p) ((x ++ y).map Pv.p) (by
    rw [List.nodup_iff_pairwise_ne, List.pairwise_map]
    exact h.srt.imp fun {x y} h e => by rw [e, ltP_irr] at h; cases h) fun p hp => by
      obtain ⟨v, hv, rfl⟩ := List.mem_map.1 hp
      rcases (h.mem v.p).1 ⟨v, hv, rfl⟩ with ⟨u, hu, e⟩ | ⟨u, hu, e⟩
      · exact List.mem_map.2 ⟨u, by simp [hu], e⟩
      · exact List.mem_map.2 ⟨u, by simp [hu], e⟩
  rw [List.length_map, List.length_map, List.length_append] at h1
  exact h1
def difL (x y all : List Pv) : List Pp := (all.map Pv.p).filter (difB x y)
theorem difL_is {wa wb : List Wk} {x y all : List Pv} (hx : IsSt wa x) (hy : IsSt wb y) (h : AllR x y all) : DifR wa wb (difL x y all) := by
  refine ⟨?_, fun p => ?_⟩
  · unfold difL
    refine List.Pairwise.sublist List.filter_sublist ?_
    rw [List.pairwise_map]
    exact h.srt
  · unfold difL
    rw [List.mem_filter, difB_iff, stP_isSt hx, stP_isSt hy]
    constructor
    · exact fun h => h.2
    · intro hne
      refine ⟨?_, hne⟩
      have hm := (h.mem p).2
      have : (∃ v ∈ x, v.p = p) ∨ ∃ v ∈ y, v.p = p := by
        cases h1 : stOf wa p with
        | some v => exact .inl ⟨v, (hx.2 v).2 (by rw [stOf_p h1]; exact h1), stOf_p h1⟩
        | none =>
          cases h2 : stOf wb p with
          | some v => exact .inr ⟨v, (hy.2 v).2 (by rw [stOf_p h2]; exact h2), stOf_p h2⟩
          | none => exact absurd (h1.trans h2.symm) hne
      obtain ⟨v, hv, rfl⟩ := hm this
      exact List.mem_map.2 ⟨v, hv, rfl⟩
theorem difL_succ {x y all : List Pv} {i : Nat} {v : Pv} (hv : all[i]? = some v) : difL x y (all.take (i + 1)) = difL x y (all.take i) ++ if difB x y v.p then [v.p] else [] := by
  unfold difL
  rw [List.take_add_one, hv, Option.toList_some, List.map_append, List.filter_append]
  by_cases h : difB x y v.p <;> simp [h]
def ppC (p : Pp) : List Value := [.int .i64 p.1, .int .i64 p.2]
theorem pp_len (p : Pp) : (ppC p).length = 2 := rfl
end Go.Proofs.Ytjbpdimepckmfaa

namespace Go.Proofs.Ytjbpdimepckmfaa
open Go.RowKit Go.Kq

/-- Whether a work is about a pipe, those ahead of it being known. -/
def hisB (l : List Wk) (p : Pp) (s : List Bool) (i : Nat) : Bool := match l[i]? with
  | some v => if v.kd = 4 then (match tgt l i with | some k => s.getD k false | none => false) else decide (v.pp = p)
  | none => false
def hisS (l : List Wk) (p : Pp) : Nat → List Bool × List Int
  | 0 => ([], [])
  | i + 1 => ((hisS l p i).1 ++ [hisB l p (hisS l p i).1 i], (hisS l p i).2 ++ if hisB l p (hisS l p i).1 i then [(i : Int)] else [])
def hisE (l : List Wk) (p : Pp) : Int := if chkL l ≠ 0 then chkL l else if okP p.1 p.2 then 0 else 2
def hisV (l : List Wk) (p : Pp) : List Int := if hisE l p = 0 then (hisS l p l.length).2 else []
theorem hisS_len (l : List Wk) (p : Pp) : ∀ i, (hisS l p i).1.length = i ∧ (hisS l p i).2.length ≤ i
  | 0 => ⟨rfl, Nat.le_refl _⟩
  | i + 1 => by
    have ih := hisS_len l p i
    refine ⟨?_, ?_⟩
    · show ((hisS l p i).1 ++ [_]).length = _
      rw [List.length_append, ih.1]
      rfl
    · show ((hisS l p i).2 ++ _).length ≤ _
      rw [List.length_append]
      split
      · simp
        omega
      · simp
        omega
theorem hisV_few (l : List Wk) (p : Pp) : (hisV l p).length ≤ 400 := by
  unfold hisV
  split
  · rename_i h
    unfold hisE at h
    by_cases h1 : chkL l = 0
    · have := (rec_of h1).len
      have := (hisS_len l p l.length).2
      omega
    · rw [if_pos h1] at h
      exact absurd h h1
  · simp
/-- The row of what is about the pipe, i works having been looked at. -/
def hisR (l : List Wk) (p : Pp) (n i : Nat) : List Bool := (hisS l p i).1 ++ List.replicate (n - i) false
theorem hisR_len (l : List Wk) (p : Pp) {n i : Nat} (h : i ≤ n) : (hisR l p n i).length = n := by
  unfold hisR
  rw [List.length_append, (hisS_len l p i).1, List.length_replicate]
  omega
theorem hisR_set (l : List Wk) (p : Pp) {n i : Nat} (h : i < n) : (hisR l p n i).set i (hisB l p (hisS l p i).1 i) = hisR l p n (i + 1) := by
  unfold hisR
  have hl := (hisS_len l p i).1
  rw [List.set_append_right _ _ (by omega), hl, Nat.sub_self, show n - i = (n - (i + 1)) + 1 by omega, List.replicate_succ]
  show (hisS l p i).1 ++ _ :: List.replicate (n - (i + 1)) false = ((hisS l p i).1 ++ [_]) ++ _
  simp
theorem hisR_get (l : List Wk) (p : Pp) {n i k : Nat} (h : k < i) (_hi : i ≤ n) : (hisR l p n i)[k]? = some ((hisS l p i).1.getD k false) := by
  unfold hisR
  have hl := (hisS_len l p i).1
  rw [List.getElem?_append_left (by omega), List.getD_eq_getElem?_getD, List.getElem?_eq_getElem (by omega)]
  rfl
theorem hisR_at (l : List Wk) (p : Pp) {n i : Nat} (h : i < n) : (hisR l p n i)[i]? = some false := by
  unfold hisR
  have hl := (hisS_len l p i).1
  rw [List.getElem?_append_right (by omega), hl, Nat.sub_self, List.getElem?_replicate, if_pos (by omega)]
theorem hisR_zero (l : List Wk) (p : Pp) (n : Nat) : hisR l p n 0 = List.replicate n false := rfl
end Go.Proofs.Ytjbpdimepckmfaa
