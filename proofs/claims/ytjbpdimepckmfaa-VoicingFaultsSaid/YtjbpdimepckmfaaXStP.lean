/- Chapter 27: what has been done to pipes (plain). -/
import Derived.Test.YtjbpdimepckmfaaXMrgP
import Derived.Test.YtjbpdimepckmfaaXLibSortM
namespace Go.Proofs.Ytjbpdimepckmfaa
open Go.RowKit Go.Kq

def Pv.get (v : Pv) : Nat → Int
  | 0 => v.f0 | 1 => v.f1 | 2 => v.f2 | 3 => v.f3 | 4 => v.f4 | 5 => v.f5 | 6 => v.f6 | _ => v.f7
def Pv.set (v : Pv) (k : Nat) (x : Int) : Pv := match k with
  | 0 => { v with f0 := x } | 1 => { v with f1 := x } | 2 => { v with f2 := x } | 3 => { v with f3 := x } | 4 => { v with f4 := x } | 5 => { v with f5 := x } | 6 => { v with f6 := x } | _ => { v with f7 := x }
def Pv.note (v : Pv) (n : Int) (t : ByteArray) : Pv := { v with no := n, la := t }
theorem Pv.cells_set (v : Pv) {k : Nat} (hk : k < 8) (x : Int) : v.cells.set (2 + k) (.int .i64 x) = (v.set k x).cells := by
  match k, hk with
  | 0, _ => rfl | 1, _ => rfl | 2, _ => rfl | 3, _ => rfl | 4, _ => rfl | 5, _ => rfl | 6, _ => rfl | 7, _ => rfl
theorem Pv.cells_get (v : Pv) {k : Nat} (hk : k < 8) : v.cells[2 + k]? = some (.int .i64 (v.get k)) := by
  match k, hk with
  | 0, _ => rfl | 1, _ => rfl | 2, _ => rfl | 3, _ => rfl | 4, _ => rfl | 5, _ => rfl | 6, _ => rfl | 7, _ => rfl
theorem Pv.set_p (v : Pv) (k : Nat) (x : Int) : (v.set k x).p = v.p := by
  unfold Pv.set
  split <;> rfl
theorem Pv.cells_inj {u v : Pv} (h : u.cells = v.cells) : u = v := by
  obtain ⟨⟨a0, a1⟩, a2, a3, a4, a5, a6, a7, a8, a9, a10, a11⟩ := u
  obtain ⟨⟨b0, b1⟩, b2, b3, b4, b5, b6, b7, b8, b9, b10, b11⟩ := v
  simp only [Pv.cells, List.cons.injEq, Value.int.injEq, true_and, Value.string.injEq, and_true] at h
  obtain ⟨rfl, rfl, rfl, rfl, rfl, rfl, rfl, rfl, rfl, rfl, rfl, rfl⟩ := h
  rfl
def pv0 (p : Pp) : Pv := ⟨p, 0, 0, 0, 0, 0, 0, 0, 0, 0, ⟨#[]⟩⟩
def Wk.pp (v : Wk) : Pp := (v.rk, v.nt)
/-- A work is done to its pipe. -/
def stepP (v : Pv) (w : Wk) : Pv := if w.kd = 1 then v.set w.fd.toNat w.vl else if w.kd = 2 then v.set w.fd.toNat (wrap64 (v.get w.fd.toNat + w.vl)) else v.note (wrap64 (v.no + 1)) w.tx
theorem stepP_p (v : Pv) (w : Wk) : (stepP v w).p = v.p := by
  unfold stepP
  split
  · exact Pv.set_p _ _ _
  · split
    · exact Pv.set_p _ _ _
    · rfl
def st1 (p : Pp) (o : Option Pv) (w : Wk) : Option Pv := if w.pp = p then some (stepP (o.getD (pv0 p)) w) else o
/-- What works have done to a pipe. -/
def stOf (ws : List Wk) (p : Pp) : Option Pv := ws.foldl (st1 p) none
theorem stOf_nil (p : Pp) : stOf [] p = none := rfl
theorem stOf_snoc (ws : List Wk) (w : Wk) (p : Pp) : stOf (ws ++ [w]) p = if w.pp = p then some (stepP ((stOf ws p).getD (pv0 p)) w) else stOf ws p := by
  unfold stOf
  rw [List.foldl_append]
  rfl
theorem snoc_ind {α : Type} {P : List α → Prop} (h0 : P []) (h1 : ∀ l x, P l → P (l ++ [x])) (l : List α) : P l := by
  have : ∀ m : List α, P m.reverse := fun m => by
    induction m with
    | nil => exact h0
    | cons x m ih => rw [List.reverse_cons]; exact h1 _ _ ih
  have h := this l.reverse
  rwa [List.reverse_reverse] at h
theorem stOf_p {ws : List Wk} {p : Pp} {v : Pv} (h : stOf ws p = some v) : v.p = p := by
  revert v
  refine snoc_ind (P := fun ws => ∀ {v : Pv}, stOf ws p = some v → v.p = p) (fun h => by cases h) (fun l x ih => ?_) ws
  intro v h
  rw [stOf_snoc] at h
  split at h
  · injection h with h
    subst h
    rw [stepP_p]
    cases ho : stOf l p with
    | none => rfl
    | some u => exact ih ho
  · exact ih h
theorem stOf_some {ws : List Wk} {p : Pp} : (stOf ws p).isSome = true ↔ ∃ w ∈ ws, w.pp = p := by
  refine snoc_ind (P := fun ws => (stOf ws p).isSome = true ↔ ∃ w ∈ ws, w.pp = p) (by simp [stOf_nil]) (fun l x ih => ?_) ws
  rw [stOf_snoc]
  by_cases h : x.pp = p
  · rw [if_pos h]
    exact ⟨fun _ => ⟨x, by simp, h⟩, fun _ => rfl⟩
  · rw [if_neg h, ih]
    constructor
    · rintro ⟨w, hw, e⟩
      exact ⟨w, by simp [hw], e⟩
    · rintro ⟨w, hw, e⟩
      rcases List.mem_append.1 hw with hw | hw
      · exact ⟨w, hw, e⟩
      · simp at hw
        subst hw
        exact absurd e h
/-- The state: what has been done, in the order of the pipes. -/
def IsSt (ws : List Wk) (s : List Pv) : Prop := (s.Pairwise fun a b => ltP a.p b.p = true) ∧ ∀ v, v ∈ s ↔ stOf ws v.p = some v
theorem ltP_iff (a b : Pp) : ltP a b = true ↔ (a.1 < b.1 ∨ (a.1 = b.1 ∧ a.2 < b.2)) := by unfold ltP; exact decide_eq_true_iff
theorem ltP_no (a b : Pp) : ltP a b = false ↔ ¬ (a.1 < b.1 ∨ (a.1 = b.1 ∧ a.2 < b.2)) := by unfold ltP; exact decide_eq_false_iff_not
theorem ltP_irr (a : Pp) : ltP a a = false := by rw [ltP_no]; omega
theorem ltP_trans {a b c : Pp} (h : ltP a b = true) (h2 : ltP b c = true) : ltP a c = true := by
  rw [ltP_iff] at h h2 ⊢
  omega
theorem ltP_total {a b : Pp} (h : ltP a b = false) (h2 : ltP b a = false) : a = b := by
  rw [ltP_no] at h h2
  obtain ⟨a1, a2⟩ := a
  obtain ⟨b1, b2⟩ := b
  rw [Prod.mk.injEq]
  simp only at h h2
  omega
theorem pv_nodup {s : List Pv} (h : s.Pairwise fun a b => ltP a.p b.p = true) : s.Nodup := h.imp fun {a b} h e => by rw [e, ltP_irr] at h; cases h
theorem isSt_uniq {ws : List Wk} {s t : List Pv} (h : IsSt ws s) (h2 : IsSt ws t) : s = t :=
  List.Perm.eq_of_pairwise (le := fun a b => ltP a.p b.p = true) (fun a b _ _ x y => by have := ltP_trans x y; rw [ltP_irr] at this; cases this) h.1 h2.1
    ((List.perm_ext_iff_of_nodup (pv_nodup h.1) (pv_nodup h2.1)).2 fun v => (h.2 v).trans (h2.2 v).symm)
end Go.Proofs.Ytjbpdimepckmfaa
