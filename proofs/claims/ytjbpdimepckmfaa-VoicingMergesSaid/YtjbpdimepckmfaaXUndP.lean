/- Chapter 27: which works are undone (plain), no walks. -/
import Derived.Test.YtjbpdimepckmfaaXIdxM
import Derived.Test.YtjbpdimepckmfaaXLibMakeM
import Derived.Test.YtjbpdimepckmfaaXLibApR
namespace Go.Proofs.Ytjbpdimepckmfaa
open Go.RowKit Go.Kq

/-- The index of a work by its name; the names of a record are apart. -/
def findN (l : List Wk) (x : Nm) : Option Nat := l.findIdx? fun v => decide (v.nm = x)
def Names (l : List Wk) : Prop := ∀ (i j : Nat) (u v : Wk), l[i]? = some u → l[j]? = some v → u.nm = v.nm → i = j
theorem ixL_get (l : List Wk) (hN : Names l) : ∀ (i : Nat), i ≤ l.length → ∀ x, get1 (ixL l i) x = ((findN (l.take i) x).map fun k : Nat => (k : Int))
  | 0, _, x => rfl
  | i + 1, hi, x => by
    obtain ⟨v, hv⟩ : ∃ v, l[i]? = some v := ⟨_, List.getElem?_eq_getElem (by omega)⟩
    rw [ixL_succ hv, get1_ins, ixL_get l hN i (by omega), List.take_add_one, hv]
    have hlen : (l.take i).length = i := by rw [List.length_take]; omega
    unfold findN
    rw [show (some v).toList = [v] from rfl, List.findIdx?_append, hlen]
    by_cases h : v.nm = x
    · rw [if_pos h]
      have hno : (l.take i).findIdx? (fun v => decide (v.nm = x)) = none := by
        rw [List.findIdx?_eq_none_iff]
        intro u hu
        obtain ⟨j, hj⟩ := List.getElem?_of_mem hu
        have hjl := (List.getElem?_eq_some_iff.1 hj).1
        rw [hlen] at hjl
        rw [List.getElem?_take_of_lt hjl] at hj
        have h2 : ¬ u.nm = x := fun e => by have := hN j i u v hj hv (by rw [e, h]); omega
        simpa using h2
      rw [hno]
      simp [List.findIdx?_cons, h]
    · rw [if_neg h]
      cases hf : (l.take i).findIdx? (fun v => decide (v.nm = x)) <;> simp [List.findIdx?_cons, h]
/-- The work that work i undoes. -/
def tgt (l : List Wk) (i : Nat) : Option Nat :=
  match l[i]? with
  | none => none
  | some v => if v.kd = 4 then (match findN l v.onm with | some k => if k < i then some k else none | none => none) else none
def tgtI (l : List Wk) (i : Nat) : Int := match tgt l i with | some k => (k : Int) | none => -1
/-- Work i's undo carried out. -/
def undS (l : List Wk) (i : Nat) (out : List Bool) : List Bool :=
  match tgt l i with
  | some k => if out.getD i false then out else out.set k true
  | none => out
/-- What is undone, works p and later having been looked at. -/
def undAt (l : List Wk) : Nat → List Bool
  | 0 => List.replicate l.length false
  | m + 1 => undS l (l.length - 1 - m) (undAt l m)
def undL (l : List Wk) : List Bool := undAt l l.length
theorem undS_len (l : List Wk) (i : Nat) (out : List Bool) : (undS l i out).length = out.length := by
  unfold undS
  split
  · split <;> simp
  · rfl
theorem undAt_len (l : List Wk) : ∀ m, (undAt l m).length = l.length
  | 0 => by simp [undAt]
  | m + 1 => by rw [undAt, undS_len, undAt_len l m]
theorem tgt_lt {l : List Wk} {i k : Nat} (h : tgt l i = some k) : k < i := by
  unfold tgt at h
  cases hv : l[i]? with
  | none => rw [hv] at h; cases h
  | some v =>
    rw [hv] at h
    simp only at h
    split at h
    · split at h
      · split at h
        · injection h with h; omega
        · cases h
      · cases h
    · cases h
end Go.Proofs.Ytjbpdimepckmfaa
