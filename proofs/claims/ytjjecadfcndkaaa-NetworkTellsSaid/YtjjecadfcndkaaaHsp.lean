/- Halving what can be spared: plain laws. No program in sight. -/
import Derived.Test.YtjjecadfcndkaaaHlv
namespace Go.Flow

theorem feas_cut {N : Net} {h : Bool} {ds F : List Int} (hF : N.Feas h ds F) (R : Nat → Bool) : dem (ind R) (N.ch.zip ds) ≤ cut R (N.tr.map (tp h)) := by
  have h1 := weak R _ hF.fit
  rw [hF.dv, cut_sk (pf_sk h N.tr F hF.len)] at h1
  exact h1
theorem No.spare {N : Net} {h : Bool} {ds F F' : List Int} {i c : Nat} {d x m y : Int} (hc : N.ch[i]? = some c) (hd : ds[i]? = some d) (hno : N.No h (ds.set i (d + m)) []) (hx : N.Feas h (ds.set i (d + x)) F) (hy : N.Feas h (ds.set i (d + y)) F') (h1 : x ≤ m) (h2 : m ≤ y) : False := by
  obtain ⟨R, hR⟩ := hno
  have a := feas_cut hx R
  have b := feas_cut hy R
  rw [dem_set _ N.ch ds i c d _ hc hd] at a b hR
  have hnil : pf h N.tr [] = [] := by simp [pf]
  rw [hnil] at hR
  simp only [dv, List.length_nil, List.drop_zero] at hR
  cases hr1 : R 0 <;> cases hr2 : R c
  · rw [ind_f hr1, ind_f hr2] at *
    simp at *
    omega
  · rw [ind_f hr1, ind_t hr2] at *
    simp at *
    omega
  · rw [ind_t hr1, ind_f hr2] at *
    simp at *
    omega
  · rw [ind_t hr1, ind_t hr2] at *
    simp at *
    omega
/-- The state of the halving. -/
def SpI (N : Net) (h : Bool) (ds : List Int) (i : Nat) (d low no : Int) : Prop :=
  (∃ F, N.Feas h (ds.set i (d + low)) F) ∧ (∀ s F, no ≤ s → ¬ N.Feas h (ds.set i (d + s)) F) ∧ 0 ≤ low ∧ low < no ∧ no ≤ 60000000000001
theorem sumZ_ge : ∀ (ds : List Int) (i : Nat) (d : Int), (∀ x ∈ ds, 0 ≤ x) → ds[i]? = some d → d ≤ sumZ ds
  | [], i, d, _, h => by simp at h
  | x :: l, 0, d, h, hd => by
    simp at hd
    subst hd
    have h0 : ∀ l : List Int, (∀ x ∈ l, 0 ≤ x) → 0 ≤ sumZ l := by
      intro l
      induction l with
      | nil => intro _; exact Int.le_refl _
      | cons y l ih =>
        intro h
        have := ih fun z hz => h z (by simp [hz])
        have := h y (by simp)
        rw [sumZ]
        omega
    have := h0 l fun y hy => h y (by simp [hy])
    rw [sumZ]
    omega
  | x :: l, i + 1, d, h, hd => by
    have := sumZ_ge l i d (fun y hy => h y (by simp [hy])) (by simpa using hd)
    have := h x (by simp)
    rw [sumZ]
    omega
theorem SpI.start {N : Net} (hN : N.Ok) {h : Bool} {ds F : List Int} {i : Nat} {d : Int} (hl : ds.length = N.ch.length) (hd : ds[i]? = some d) (h0 : ∀ x ∈ ds, 0 ≤ x) (hF : N.Feas h ds F) : SpI N h ds i d 0 60000000000001 := by
  refine ⟨⟨F, ?_⟩, fun s G hs hG => ?_, by omega, by omega, by omega⟩
  · have e : ds.set i (d + 0) = ds := by
      have hlt := (List.getElem?_eq_some_iff.1 hd).1
      rw [Int.add_zero, ← (List.getElem?_eq_some_iff.1 hd).2]
      exact List.set_getElem_self hlt
    rw [e]
    exact hF
  · have hA : N.A1 fun v => decide (v = 0) := ⟨⟨by simp, by have := hN.n1; simp; omega⟩, fun c hc => by have := hN.ck c hc; simp; omega⟩
    have h1 := feas_wt (by rw [List.length_set]; exact hl) hG hA.1
    rw [wt_a1 hA] at h1
    have h2 := hN.out_le h fun v => decide (v = 0)
    rw [sum_set ds i d s hd] at h1
    have h3 := sumZ_ge ds i d h0 hd
    have h4 := h0 d (List.mem_of_getElem? hd)
    omega
theorem SpI.yes {N : Net} {h : Bool} {ds F : List Int} {i : Nat} {d low no m : Int} (hs : SpI N h ds i d low no) (h1 : low < m) (h2 : m < no) (hF : N.Feas h (ds.set i (d + m)) F) : SpI N h ds i d m no :=
  ⟨⟨F, hF⟩, hs.2.1, by have := hs.2.2.1; omega, h2, hs.2.2.2.2⟩
theorem SpI.no {N : Net} {h : Bool} {ds : List Int} {i c : Nat} {d low no m : Int} (hs : SpI N h ds i d low no) (hc : N.ch[i]? = some c) (hd : ds[i]? = some d) (h1 : low < m) (h2 : m < no) (hno : N.No h (ds.set i (d + m)) []) : SpI N h ds i d low m := by
  obtain ⟨⟨F, hF⟩, _, h3, h4, h5⟩ := hs
  exact ⟨⟨F, hF⟩, fun s G hsm hG => No.spare hc hd hno hF hG (by omega) hsm, h3, h1, by omega⟩
theorem SpI.fin {N : Net} {h : Bool} {ds : List Int} {i : Nat} {d low no : Int} (hs : SpI N h ds i d low no) (hd : ds[i]? = some d) (he : no ≤ low + 1) : N.Sp h ds i low := fun d' hd' => by
  rw [hd] at hd'
  cases hd'
  obtain ⟨hF, hno, h3, h4, h5⟩ := hs
  refine ⟨hF, fun s F hF => ?_⟩
  by_cases hle : s ≤ low
  · exact hle
  · exact absurd hF (hno s F (by omega))
end Go.Flow
