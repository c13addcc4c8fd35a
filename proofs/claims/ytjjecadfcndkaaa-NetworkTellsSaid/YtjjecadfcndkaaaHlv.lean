/- Halving: if two numbers are possible, so are those between them: plain laws. No program in sight. -/
import Derived.Test.YtjjecadfcndkaaaGvp
namespace Go.Flow

theorem pf_one {N : Net} {h : Bool} {first : List Int} {k : Nat} {t : Tk} (x : Int) (hk : first.length = k) (ht : N.tr[k]? = some t) (G : List Int) :
    pf h N.tr (first ++ x :: G) = pf h N.tr first ++ ⟨t.fr, t.to, t.cap h, x, false⟩ :: pf h (N.tr.drop (k + 1)) G := by
  subst hk
  have hlt := (List.getElem?_eq_some_iff.1 ht).1
  rw [pf_app h _ _ _ (by omega)]
  have e : N.tr.drop first.length = t :: N.tr.drop (first.length + 1) := by
    rw [List.drop_eq_getElem_cons hlt]
    congr 1
    exact (List.getElem?_eq_some_iff.1 ht).2
  rw [e]
  rfl
theorem feas_ge {N : Net} {h : Bool} {ds first G : List Int} {k : Nat} {t : Tk} {x : Int} (hk : first.length = k) (ht : N.tr[k]? = some t) (hF : N.Feas h ds (first ++ x :: G)) (R : Nat → Bool) :
    dem (ind R) (N.ch.zip ds) ≤ dv (ind R) (pf h N.tr first) + x * (ind R t.fr - ind R t.to) + cut R ((N.tr.drop (k + 1)).map (tp h)) := by
  have h1 := hF.dv (ind R)
  rw [pf_one x hk ht, dv_app, dv] at h1
  have hlt := (List.getElem?_eq_some_iff.1 ht).1
  have hG : G.length = (N.tr.drop (k + 1)).length := by
    have := hF.len
    rw [List.length_append, List.length_cons] at this
    simp
    omega
  have h2 := weak R (pf h (N.tr.drop (k + 1)) G) fun p hp => hF.fit p (by rw [pf_one x hk ht]; simp [hp])
  rw [cut_sk (pf_sk h _ _ hG)] at h2
  simp only at h1
  omega
theorem No.between {N : Net} {h : Bool} {ds first G G' : List Int} {k : Nat} {t : Tk} {x m y : Int} (hk : first.length = k) (ht : N.tr[k]? = some t) (hno : N.No h ds (first ++ [m])) (hx : N.Feas h ds (first ++ x :: G)) (hy : N.Feas h ds (first ++ y :: G')) (h1 : x ≤ m) (h2 : m ≤ y) : False := by
  obtain ⟨R, hR⟩ := hno
  have a := feas_ge hk ht hx R
  have b := feas_ge hk ht hy R
  rw [pf_one m hk ht [], dv_app, List.length_append, List.length_singleton, hk] at hR
  have hnil : pf h (N.tr.drop (k + 1)) [] = [] := by simp [pf]
  rw [hnil] at hR
  simp only [dv] at hR
  cases hr1 : R t.fr <;> cases hr2 : R t.to
  · rw [ind_f hr1, ind_f hr2] at *
    simp at *
    omega
  · rw [ind_f hr1, ind_t hr2] at *
    simp at *
    omega
  · rw [ind_t hr1, ind_f hr2] at *
    simp at *
    omega
  · rw [ind_t hr1, ind_t hr2] at *
    simp at *
    omega
/-- The state of the search for the least flow: its first k numbers, and a flow that goes on from them. -/
structure HS (N : Net) (h : Bool) (ds : List Int) (k : Nat) (first F : List Int) : Prop where
  len : first.length = k
  feas : N.Feas h ds F
  pre : F.take k = first
  lo : ∀ (j : Nat) (G : List Int), j < k → N.Feas h ds G → (∀ i, i < j → G[i]? = F[i]?) → ∀ f g : Int, F[j]? = some f → G[j]? = some g → f ≤ g
theorem HS.start {N : Net} {h : Bool} {ds F : List Int} (hF : N.Feas h ds F) : HS N h ds 0 [] F := ⟨rfl, hF, by simp, fun j G hj => by omega⟩
theorem HS.fin {N : Net} {h : Bool} {ds first F : List Int} (hs : HS N h ds N.tr.length first F) : N.Least h ds first := by
  have e : first = F := by rw [← hs.pre, List.take_of_length_le (by rw [hs.feas.len]; exact Nat.le_refl _)]
  subst e
  refine ⟨hs.feas, fun k G hG hi f g hf hg => ?_⟩
  have hk := (List.getElem?_eq_some_iff.1 hg).1
  rw [hG.len] at hk
  exact hs.lo k G hk hG hi f g hf hg
/-- One halving's state. -/
def HI (N : Net) (h : Bool) (ds first F : List Int) (low can : Int) : Prop :=
  N.Feas h ds F ∧ (∃ G, F = first ++ can :: G) ∧ low < can ∧ -1 ≤ low ∧ ∀ x G, x ≤ low → ¬ N.Feas h ds (first ++ x :: G)
theorem HI.start {N : Net} {h : Bool} {ds first F : List Int} {k : Nat} {t : Tk} {x : Int} (hs : HS N h ds k first F) (hx : F[k]? = some x) (ht : N.tr[k]? = some t) : HI N h ds first F (-1) x ∧ x ≤ t.cap h := by
  have hlt := (List.getElem?_eq_some_iff.1 hx).1
  have e : F = first ++ x :: F.drop (k + 1) := by
    conv => lhs; rw [← List.take_append_drop k F, hs.pre, List.drop_eq_getElem_cons hlt, (List.getElem?_eq_some_iff.1 hx).2]
  have hb := hs.feas.fit.get (pf_at ht hx)
  simp only at hb
  refine ⟨⟨hs.feas, ⟨_, e⟩, by omega, by omega, fun y G hy hF => ?_⟩, hb.2⟩
  have := hF.fit.get (pf_at ht (f := y) (by rw [List.getElem?_append_right (by rw [hs.len]; exact Nat.le_refl _), hs.len]; simp))
  simp only at this
  omega
theorem HI.yes {N : Net} {h : Bool} {ds first F G : List Int} {low can m : Int} (hi : HI N h ds first F low can) (hm : low < m) (hF : N.Feas h ds ((first ++ [m]) ++ G)) : HI N h ds first ((first ++ [m]) ++ G) low m :=
  ⟨hF, ⟨G, by simp⟩, hm, hi.2.2.2.1, hi.2.2.2.2⟩
theorem HI.no {N : Net} {h : Bool} {ds first F : List Int} {low can m : Int} {k : Nat} {t : Tk} (hi : HI N h ds first F low can) (hk : first.length = k) (ht : N.tr[k]? = some t) (h1 : low < m) (hm : m < can) (hno : N.No h ds (first ++ [m])) : HI N h ds first F m can := by
  obtain ⟨hF, ⟨G, hG⟩, _, h3, h4⟩ := hi
  refine ⟨hF, ⟨G, hG⟩, hm, by omega, fun x G' hx hF' => ?_⟩
  rw [hG] at hF
  exact No.between hk ht hno hF' hF hx (by omega)
theorem HI.fin {N : Net} {h : Bool} {ds first F0 F : List Int} {low can : Int} {k : Nat} (hs : HS N h ds k first F0) (hi : HI N h ds first F low can) (he : can ≤ low + 1) : HS N h ds (k + 1) (first ++ [can]) F := by
  obtain ⟨hF, ⟨G, hG⟩, h2, h3, h4⟩ := hi
  have hlen := hs.len
  have pre : ∀ i, i < k → F[i]? = F0[i]? := fun i hi => by
    rw [hG, List.getElem?_append_left (by omega), ← hs.pre, List.getElem?_take, if_pos hi]
  refine ⟨by simp [hlen], hF, ?_, fun j G' hj hG' hi f g hf hg => ?_⟩
  · rw [hG]
    rw [List.take_append]
    rw [hlen, List.take_of_length_le (by omega)]
    simp
  · by_cases hjk : j < k
    · exact hs.lo j G' hjk hG' (fun i hij => (hi i hij).trans (pre i (by omega))) f g (by rw [← pre j hjk]; exact hf) hg
    · obtain rfl : j = k := by omega
      have hfc : f = can := by
        rw [hG, List.getElem?_append_right (by omega), hlen] at hf
        simpa using hf.symm
      subst hfc
      have hlt := (List.getElem?_eq_some_iff.1 hg).1
      have e : G' = first ++ g :: G'.drop (j + 1) := by
        conv => lhs; rw [← List.take_append_drop j G', List.drop_eq_getElem_cons hlt, (List.getElem?_eq_some_iff.1 hg).2]
        congr 1
        refine List.ext_getElem? fun i => ?_
        rw [List.getElem?_take]
        by_cases h5 : i < j
        · rw [if_pos h5, hi i h5, hG, List.getElem?_append_left (by omega)]
        · rw [if_neg h5, List.getElem?_eq_none (by omega)]
      by_cases hle : f ≤ g
      · exact hle
      · rw [e] at hG'
        exact absurd hG' (h4 g _ (by omega))
end Go.Flow
