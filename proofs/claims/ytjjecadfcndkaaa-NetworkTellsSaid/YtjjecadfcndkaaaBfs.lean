/- Labels of a search by levels: plain laws. No program in sight. -/
import Derived.Test.YtjjecadfcndkaaaFlow
namespace Go.Flow

/-- Labels with ranks below n. -/
def Lab (L : List Pi) (fr : Nat) (b : Nat → Option Stp) (n : Nat) : Prop :=
  ∃ r : Nat → Nat, (∀ v, b v ≠ none → r v < n) ∧ ∀ v s, b v = some s → v ≠ fr ∧ ∃ u, Rch L s v u ∧ (u = fr ∨ (b u ≠ none ∧ r u < r v))
theorem Lab.start (L : List Pi) (fr n : Nat) : Lab L fr (fun _ => none) n := ⟨fun _ => 0, fun v h => absurd rfl h, fun v s h => by cases h⟩
def put (b : Nat → Option Stp) (v : Nat) (s : Stp) : Nat → Option Stp := fun x => if x = v then some s else b x
theorem put_at (b : Nat → Option Stp) (v : Nat) (s : Stp) : put b v s v = some s := by simp [put]
theorem put_ne (b : Nat → Option Stp) {v x : Nat} (s : Stp) (h : x ≠ v) : put b v s x = b x := by simp [put, h]
theorem Lab.add {L : List Pi} {fr n v u : Nat} {b : Nat → Option Stp} {s : Stp} (h : Lab L fr b n) (hv : v ≠ fr) (hn : b v = none) (hR : Rch L s v u) (hu : u = fr ∨ b u ≠ none) : Lab L fr (put b v s) (n + 1) := by
  obtain ⟨r, h1, h2⟩ := h
  refine ⟨fun x => if x = v then n else r x, fun x hx => ?_, fun x t hx => ?_⟩
  · by_cases e : x = v
    · simp [e]
    · rw [put_ne b s e] at hx
      have := h1 x hx
      simp [e]
      omega
  · by_cases e : x = v
    · subst e
      rw [put_at] at hx
      cases hx
      refine ⟨hv, u, hR, hu.imp id fun hu => ?_⟩
      have hne : u ≠ x := fun e => hu (e ▸ hn)
      exact ⟨by rw [put_ne b s hne]; exact hu, by simp [hne]; exact h1 u hu⟩
    · rw [put_ne b s e] at hx
      obtain ⟨g1, y, g2, g3⟩ := h2 x t hx
      refine ⟨g1, y, g2, g3.imp id fun g3 => ?_⟩
      have hne : y ≠ v := fun e => g3.1 (e ▸ hn)
      exact ⟨by rw [put_ne b s hne]; exact g3.1, by simp [hne, e]; exact g3.2⟩
theorem Lab.way {L : List Pi} {fr n v : Nat} {b : Nat → Option Stp} (h : Lab L fr b n) (hv : v = fr ∨ b v ≠ none) : ∃ l, Way L b fr v l ∧ Dist l := by
  obtain ⟨r, _, h2⟩ := h
  obtain ⟨l, h3, h4, _⟩ := way_of_rank r h2 (r v + 1) v (by omega) hv
  exact ⟨l, h3, h4⟩
theorem way_min {L : List Pi} {fr : Nat} {b : Nat → Option Stp} {S : Nat → Bool} (hS : Clo S L) (hf : S fr = true) {v : Nat} {l : List Stp} (h : Way L b fr v l) : S v = true := by
  induction h with
  | nil => exact hf
  | cons _ _ hR _ ih =>
    obtain ⟨p, hp, hst, h1, h2, h3⟩ := hR
    have hc := hS p (List.mem_of_getElem? hp) hst
    rename_i s l _ _ _
    unfold Stp.dst Stp.src Stp.res at *
    cases hw : s.fw <;> simp only [hw, if_true, if_false, Bool.false_eq_true] at h1 h2 h3
    · rw [← h1]
      exact hc.2 (by rw [h2]; exact ih) h3
    · rw [← h1]
      exact hc.1 (by rw [h2]; exact ih) (by omega)
theorem Lab.min {L : List Pi} {fr n : Nat} {b : Nat → Option Stp} (h : Lab L fr b n) {S : Nat → Bool} (hS : Clo S L) (hf : S fr = true) (v : Nat) (hv : v = fr ∨ b v ≠ none) : S v = true := by
  obtain ⟨l, h1, _⟩ := h.way hv
  exact way_min hS hf h1
/-- The nodes that are reached. -/
def Rs (fr : Nat) (b : Nat → Option Stp) : Nat → Bool := fun v => decide (v = fr) || (b v).isSome
theorem rs_iff {fr : Nat} {b : Nat → Option Stp} {v : Nat} : Rs fr b v = true ↔ v = fr ∨ b v ≠ none := by
  unfold Rs
  cases b v <;> simp
theorem rs_put {fr v : Nat} {b : Nat → Option Stp} {s : Stp} {x : Nat} : Rs fr (put b v s) x = true ↔ x = v ∨ Rs fr b x = true := by
  rw [rs_iff, rs_iff]
  by_cases e : x = v
  · subst e
    simp [put_at]
  · rw [put_ne b s e]
    simp [e]
/-- The first k pipes lead nowhere new from a node. -/
def Dn (L : List Pi) (R : Nat → Bool) (a k : Nat) : Prop := ∀ j p, j < k → L[j]? = some p → p.st = false → (p.fr = a → p.fl < p.mo → R p.to = true) ∧ (p.to = a → 0 < p.fl → R p.fr = true)
theorem Dn.mono {L : List Pi} {R R' : Nat → Bool} {a k : Nat} (h : Dn L R a k) (hR : ∀ v, R v = true → R' v = true) : Dn L R' a k := fun j p hj hp hs =>
  ⟨fun h1 h2 => hR _ ((h j p hj hp hs).1 h1 h2), fun h1 h2 => hR _ ((h j p hj hp hs).2 h1 h2)⟩
theorem Dn.zero (L : List Pi) (R : Nat → Bool) (a : Nat) : Dn L R a 0 := fun j _ hj => absurd hj (Nat.not_lt_zero j)
theorem Dn.succ {L : List Pi} {R : Nat → Bool} {a k : Nat} {p : Pi} (h : Dn L R a k) (hp : L[k]? = some p) (hn : p.st = false → (p.fr = a → p.fl < p.mo → R p.to = true) ∧ (p.to = a → 0 < p.fl → R p.fr = true)) : Dn L R a (k + 1) := fun j q hj hq hs => by
  by_cases e : j = k
  · subst e
    rw [hp] at hq
    cases hq
    exact hn hs
  · exact h j q (by omega) hq hs
theorem clo_of {L : List Pi} {R : Nat → Bool} (h : ∀ v, R v = true → Dn L R v L.length) : Clo R L := fun p hp hs => by
  obtain ⟨j, hj⟩ := List.mem_iff_getElem?.1 hp
  have hlt := (List.getElem?_eq_some_iff.1 hj).1
  exact ⟨fun h1 h2 => (h _ h1 j p hlt hj hs).1 rfl h2, fun h1 h2 => (h _ h1 j p hlt hj hs).2 rfl h2⟩
/-- How many nodes below n have no label. -/
def free (b : Nat → Option Stp) : Nat → Nat
  | 0 => 0
  | n + 1 => free b n + if (b n).isNone then 1 else 0
theorem free_le (b : Nat → Option Stp) : ∀ n, free b n ≤ n
  | 0 => Nat.le_refl _
  | n + 1 => by
    have := free_le b n
    unfold free
    split <;> omega
theorem free_put {b : Nat → Option Stp} {v : Nat} {s : Stp} (hn : b v = none) : ∀ n, free (put b v s) n + (if v < n then 1 else 0) = free b n
  | 0 => rfl
  | n + 1 => by
    have ih := free_put (s := s) hn n
    unfold free
    by_cases e : n = v
    · subst e
      rw [put_at, hn]
      simp at ih ⊢
      omega
    · rw [put_ne b s e]
      by_cases h : v < n
      · rw [if_pos h] at ih
        rw [if_pos (show v < n + 1 by omega)]
        omega
      · rw [if_neg h] at ih
        rw [if_neg (show ¬ v < n + 1 by omega)]
        omega
end Go.Flow
