/- Chapter 27: the works about a pipe (plain). -/
import Derived.Test.YtjbpdimepckmfaaXStt
import Derived.Test.YtjbpdimepckmfaaXExmM
import Derived.Test.YtjbpdimepckmfaaXSeeM
namespace Go.Proofs.Ytjbpdimepckmfaa
open Go.RowKit Go.Kq

/-- Whether a work is about a pipe, those ahead of it being known. -/
def hisB (l : List Wk) (p : Pp) (s : List Bool) (i : Nat) : Bool := match l[i]? with
  | some v => if v.kd = 4 then (match tgt l i with | some k => s.getD k false | none => false) else decide (v.pp = p)
  | none => false
def hisS (l : List Wk) (p : Pp) : Nat → List Bool × List Int
  | 0 => ([], [])
  | i + 1 => ((hisS l p i).1 ++ [hisB l p (hisS l p i).1 i], (hisS l p i).2 ++ if hisB l p (hisS l p i).1 i then [(i : Int)] else [])
def hisE (l : List Wk) (p : Pp) : Int := if chkL l ≠ 0 then chkL l else if okP p.1 p.2 then 0 else 2
def hisV (l : List Wk) (p : Pp) : List Int := if hisE l p = 0 then (hisS l p l.length).2 else []
theorem hisS_len (l : List Wk) (p : Pp) : ∀ i, (hisS l p i).1.length = i ∧ (hisS l p i).2.length ≤ i
  | 0 => ⟨rfl, Nat.le_refl _⟩
  | i + 1 => by
    have ih := hisS_len l p i
    refine ⟨?_, ?_⟩
    · show ((hisS l p i).1 ++ [_]).length = _
      rw [List.length_append, ih.1]
      rfl
    · show ((hisS l p i).2 ++ _).length ≤ _
      rw [List.length_append]
      split
      · simp
        omega
      · simp
        omega
theorem hisV_few (l : List Wk) (p : Pp) : (hisV l p).length ≤ 400 := by
  unfold hisV
  split
  · rename_i h
    unfold hisE at h
    by_cases h1 : chkL l = 0
    · have := (rec_of h1).len
      have := (hisS_len l p l.length).2
      omega
    · rw [if_pos h1] at h
      exact absurd h h1
  · simp
/-- The row of what is about the pipe, i works having been looked at. -/
def hisR (l : List Wk) (p : Pp) (n i : Nat) : List Bool := (hisS l p i).1 ++ List.replicate (n - i) false
theorem hisR_len (l : List Wk) (p : Pp) {n i : Nat} (h : i ≤ n) : (hisR l p n i).length = n := by
  unfold hisR
  rw [List.length_append, (hisS_len l p i).1, List.length_replicate]
  omega
theorem hisR_set (l : List Wk) (p : Pp) {n i : Nat} (h : i < n) : (hisR l p n i).set i (hisB l p (hisS l p i).1 i) = hisR l p n (i + 1) := by
  unfold hisR
  have hl := (hisS_len l p i).1
  rw [List.set_append_right _ _ (by omega), hl, Nat.sub_self, show n - i = (n - (i + 1)) + 1 by omega, List.replicate_succ]
  show (hisS l p i).1 ++ _ :: List.replicate (n - (i + 1)) false = ((hisS l p i).1 ++ [_]) ++ _
  simp
theorem hisR_get (l : List Wk) (p : Pp) {n i k : Nat} (h : k < i) (_hi : i ≤ n) : (hisR l p n i)[k]? = some ((hisS l p i).1.getD k false) := by
  unfold hisR
  have hl := (hisS_len l p i).1
  rw [List.getElem?_append_left (by omega), List.getD_eq_getElem?_getD, List.getElem?_eq_getElem (by omega)]
  rfl
theorem hisR_at (l : List Wk) (p : Pp) {n i : Nat} (h : i < n) : (hisR l p n i)[i]? = some false := by
  unfold hisR
  have hl := (hisS_len l p i).1
  rw [List.getElem?_append_right (by omega), hl, Nat.sub_self, List.getElem?_replicate, if_pos (by omega)]
theorem hisR_zero (l : List Wk) (p : Pp) (n : Nat) : hisR l p n 0 = List.replicate n false := rfl
end Go.Proofs.Ytjbpdimepckmfaa
