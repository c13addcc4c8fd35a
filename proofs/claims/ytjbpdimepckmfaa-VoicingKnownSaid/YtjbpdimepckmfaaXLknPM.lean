/- Chapter 27: the works that make less of what has been cut away (plain). · Chapter 27: VoicingKnown: the plain facts of the examples. -/
import Derived.Test.YtjbpdimepckmfaaXRst
import Derived.Test.YtjbpdimepckmfaaXAwk
import Derived.Test.YtjbpdimepckmfaaXNxtPM
import Derived.Test.YtjbpdimepckmfaaXPlcPM
import Derived.Test.YtjbpdimepckmfaaXHisPM
import Derived.Test.YtjbpdimepckmfaaXRudM
namespace Go.Proofs.Ytjbpdimepckmfaa
open Go.RowKit Go.Kq

def fPv (ws : List Wk) (v : Wk) : Pv := (stOf ws v.pp).getD (pv0 v.pp)
/-- Whether a work makes a field less. -/
def badF (ws : List Wk) (v : Wk) : Bool := decide ((stepP (fPv ws v) v).get v.fd.toNat < (fPv ws v).get v.fd.toNat) && decide (v.fd < 4)
def fstep (s : List Wk × List Int) (x : Nat × Wk) : List Wk × List Int := if x.2.kd = 3 then s else (s.1 ++ [x.2], s.2 ++ if badF s.1 x.2 then [(x.1 : Int)] else [])
def fauS (xs : List (Nat × Wk)) : List Wk × List Int := xs.foldl fstep ([], [])
theorem fauS_snoc (xs : List (Nat × Wk)) (x : Nat × Wk) : fauS (xs ++ [x]) = fstep (fauS xs) x := by
  unfold fauS
  rw [List.foldl_append]
  rfl
def fauV (l : List Wk) : List Int := if chkL l = 0 then (fauS (cntL l)).2 else []
theorem fauS_len (xs : List (Nat × Wk)) : (fauS xs).1.length ≤ xs.length ∧ (fauS xs).2.length ≤ xs.length := by
  refine snoc_ind (P := fun xs => (fauS xs).1.length ≤ xs.length ∧ (fauS xs).2.length ≤ xs.length) ⟨Nat.le_refl _, Nat.le_refl _⟩ (fun l x ih => ?_) xs
  rw [fauS_snoc, List.length_append, List.length_singleton]
  unfold fstep
  split
  · omega
  · refine ⟨?_, ?_⟩
    · rw [List.length_append, List.length_singleton]
      omega
    · rw [List.length_append]
      split
      · rw [List.length_singleton]
        omega
      · rw [List.length_nil]
        omega
theorem get_set (u : Pv) {k : Nat} (hk : k < 8) (x : Int) : (u.set k x).get k = x := by
  match k, hk with
  | 0, _ => rfl | 1, _ => rfl | 2, _ => rfl | 3, _ => rfl | 4, _ => rfl | 5, _ => rfl | 6, _ => rfl | 7, _ => rfl
theorem plc_fPv {ws : List Wk} {s : List Pv} {v : Wk} {L R : List Pv} {e0 : Pv} (hs : IsSt ws s) (h : PlcR s v.pp L e0 R) : fPv ws v = e0 := by
  have hS : SrtP s := hs.1
  have hhi := h.hi hS
  unfold fPv
  rcases h.is with e | ⟨e, e1⟩
  · have h1 : e0 ∈ s := by rw [e]; simp
    have h2 := (hs.2 e0).1 h1
    rw [h.pp] at h2
    rw [h2]
    rfl
  · cases ho : stOf ws v.pp with
    | none => rw [e1]; rfl
    | some u =>
      have hup := stOf_p ho
      have h1 : u ∈ s := (hs.2 u).2 (by rw [hup]; exact ho)
      rw [e] at h1
      rcases List.mem_append.1 h1 with h1 | h1
      · have := h.lo u h1
        rw [hup, ltP_irr] at this
        cases this
      · have := hhi u h1
        rw [hup, ltP_irr] at this
        cases this
theorem fau_skip {l : List Wk} {i : Nat} {v : Wk} (hv : l[i]? = some v) (h : isC l i v = false ∨ v.kd = 3) : fauS (cntU l (i + 1)) = fauS (cntU l i) := by
  rw [cntU_succ hv]
  cases hc : isC l i v
  · simp
  · rcases h with h | h
    · rw [hc] at h
      cases h
    · rw [if_pos rfl, fauS_snoc]
      unfold fstep
      rw [if_pos h]
theorem fau_do {l : List Wk} {i : Nat} {v : Wk} (hv : l[i]? = some v) (h : isC l i v = true) (h3 : v.kd ≠ 3) : fauS (cntU l (i + 1)) = ((fauS (cntU l i)).1 ++ [v], (fauS (cntU l i)).2 ++ if badF (fauS (cntU l i)).1 v then [(i : Int)] else []) := by
  rw [cntU_succ hv, h, if_pos rfl, fauS_snoc]
  unfold fstep
  rw [if_neg h3]
theorem cntU_few {l : List Wk} (i : Nat) : (fauS (cntU l i)).1.length ≤ i ∧ (fauS (cntU l i)).2.length ≤ i := by
  have h1 := fauS_len (cntU l i)
  have h2 := cntU_len l i
  omega
theorem fauV_few (l : List Wk) : (fauV l).length ≤ 400 := by
  unfold fauV
  split
  · rename_i h
    have h1 := (cntU_few (l := l) l.length).2
    have h2 := (rec_of h).len
    unfold cntL
    omega
  · simp
end Go.Proofs.Ytjbpdimepckmfaa

namespace Go.Proofs.Ytjbpdimepckmfaa
open Go.RowKit Go.Kq

theorem mrg_ex1 : mrgF [x1, x2] [x1, x3] = 0 ∧ mrgV [x1, x2] [x1, x3] = [x1, x2, x3] := by
  have ha := rec_of chk12
  have hb := rec_of chk13
  have h0 : mrgE [x1, x2] [x1, x3] = 0 := by kernel_rfl
  have h1 : mrgF [x1, x2] [x1, x3] = 0 := by rw [mrgF_rec ha hb]; exact h0
  have hbo : bothW [x1, x2] [x1, x3] = [x1, x2, x3] := by kernel_rfl
  refine ⟨h1, ?_⟩
  unfold mrgV
  rw [if_pos h1]
  refine (mrg_uniq ha.names hb.names ?_ ?_).symm
  · rw [hbo]
  · have : (decide ([x1, x2, x3].Pairwise fun x y => ltW y x = false)) = true := by kernel_rfl
    exact of_decide_eq_true this
theorem und_ex : undV [x1, x2, x3] = [true, false, false] := by rw [undV_ok chk_ex]; kernel_rfl
def sy : Pv := ⟨(2, 60), 0, 0, 0, 0, 57, 0, 0, 0, 0, ⟨#[]⟩⟩
theorem cws12 : cws [x1, x2] = [x1, x2] := by kernel_rfl
theorem cws13 : cws [x1, x3] = [] := by kernel_rfl
theorem st_ex1 {s : List Pv} (h : StRes [x1, x2] s) : s = [sy] := by
  unfold StRes at h
  rw [if_pos chk12, cws12] at h
  refine isSt_uniq h ⟨by simp, fun v => ?_⟩
  by_cases hp : v.p = (2, 60)
  · have h1 : stOf [x1, x2] v.p = some sy := by rw [hp]; kernel_rfl
    rw [h1]
    simp [eq_comm]
  · have h1 : stOf [x1, x2] v.p = none := by
      have e1 : x1.pp ≠ v.p := fun e => hp (by rw [← e]; rfl)
      have e2 : x2.pp ≠ v.p := fun e => hp (by rw [← e]; rfl)
      have : stOf [x1, x2] v.p = if x2.pp = v.p then some (stepP ((if x1.pp = v.p then some (stepP (pv0 v.p) x1) else none).getD (pv0 v.p)) x2) else if x1.pp = v.p then some (stepP (pv0 v.p) x1) else none := rfl
      rw [this, if_neg e2, if_neg e1]
    rw [h1]
    constructor
    · intro hv
      simp at hv
      exact absurd (by rw [hv]; rfl) hp
    · intro e
      cases e
theorem st_ex0 {s : List Pv} (h : StRes [x1, x3] s) : s = [] := by
  unfold StRes at h
  rw [if_pos chk13, cws13] at h
  exact isSt_uniq h ⟨by simp, fun v => by
    have : stOf [] v.p = none := rfl
    rw [this]
    simp⟩
theorem seen_ex : seenV [x1, x3] = [1, 1, 0, 0, 0, 0, 0, 0, 0, 0, 0, 0, 0, 0, 0, 0, 0, 0, 0, 0] := by kernel_rfl
theorem since_ex : sinceE [x1, x2] [1, 1, 0, 0, 0, 0, 0, 0, 0, 0, 0, 0, 0, 0, 0, 0, 0, 0, 0, 0] = 0 ∧ sinceV [x1, x2] [1, 1, 0, 0, 0, 0, 0, 0, 0, 0, 0, 0, 0, 0, 0, 0, 0, 0, 0, 0] = [x2] := by
  constructor
  · kernel_rfl
  · kernel_rfl
def u3 : Wk := ⟨3, 0, 0, 4, 0, 0, 0, 0, 0, 2, ⟨#[]⟩⟩
def u0 : Wk := ⟨0, 0, 0, 4, 0, 0, 0, 0, 0, 2, ⟨#[]⟩⟩
def u3n : Wk := ⟨3, 1, 3, 4, 0, 0, 0, 0, 0, 2, ⟨#[]⟩⟩
theorem next_ex1 : nextV [x1, x2] u3 = (u3n, 0) := by kernel_rfl
theorem next_ex0 : nextV [x1, x3] u0 = (default, 4) := by kernel_rfl
theorem both_ex : bothE [x1, x2] [x1, x3] = 0 := by kernel_rfl
theorem dif_ex {s : List Pp} (h : DifF [x1, x2] [x1, x3] s) : s = [(2, 60)] := by
  unfold DifF at h
  rw [if_pos both_ex, cws12, cws13] at h
  refine difR_uniq h ⟨by simp, fun p => ?_⟩
  have h0 : stOf [] p = none := rfl
  rw [h0]
  by_cases hp : p = (2, 60)
  · have h1 : stOf [x1, x2] p = some sy := by rw [hp]; kernel_rfl
    rw [h1]
    simp [hp]
  · have h1 : stOf [x1, x2] p = none := by
      have e1 : x1.pp ≠ p := fun e => hp (by rw [← e]; rfl)
      have e2 : x2.pp ≠ p := fun e => hp (by rw [← e]; rfl)
      have : stOf [x1, x2] p = if x2.pp = p then some (stepP ((if x1.pp = p then some (stepP (pv0 p) x1) else none).getD (pv0 p)) x2) else if x1.pp = p then some (stepP (pv0 p) x1) else none := rfl
      rw [this, if_neg e2, if_neg e1]
    rw [h1]
    simp [hp]
theorem hisE_ex : hisE [x1, x2, x3] (2, 60) = 0 := by kernel_rfl
theorem his_ex : hisV [x1, x2, x3] (2, 60) = [0, 1, 2] := by kernel_rfl
def y1 : Wk := ⟨0, 1, 1, 1, 2, 60, 0, 9, 0, 0, ⟨#[]⟩⟩
def y2 : Wk := ⟨0, 2, 2, 2, 2, 60, 0, -1, 0, 0, ⟨#[]⟩⟩
theorem chk_y : chkL [y1, y2] = 0 := by kernel_rfl
theorem fau_ex : fauV [y1, y2] = [1] := by kernel_rfl
theorem fits_y : Fits [y1, y2] := fun v hv => by
  simp at hv
  rcases hv with rfl | rfl <;> decide
end Go.Proofs.Ytjbpdimepckmfaa
