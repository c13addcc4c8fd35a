/- Boxes that a region makes and fills in whatever order: an invariant for wp_region_each. No program in sight. -/
import Derived.Test.YtlieijnhaolnhaaLibReg
import Derived.Test.YtlieijnhaolnhaaLibKp
namespace Go.Kq
open Go.RowKit

/-- A box: operation a makes it, with the cells zero; operation s fills it: then it has the cells full. v: what operation a gives. -/
structure Bx where
  a : Nat
  s : Nat
  t : TypeId
  zero : Array Value
  full : Array Value
  v : Nat → Value
def ptrV (g : Nat) : Value := .pointer (some ⟨g, 0, none⟩)
def slcV (n : Nat) (g : Nat) : Value := .slice (some ⟨g, 0, none⟩) n n
theorem ptrV_inj {a b : Nat} (h : ptrV a = ptrV b) : a = b := by
  unfold ptrV at h
  injection h with h
  injection h with h
  injection h
theorem slcV_inj (n : Nat) {a b : Nat} (h : slcV n a = slcV n b) : a = b := by
  unfold slcV at h
  injection h with h
  injection h with h
  injection h
/-- The numbers of operations are apart. -/
def apartL (L : List Bx) : Bool := decide ((L.map (·.a) ++ L.map (·.s)).Nodup)
structure BxW (w1 : World) (L : List Bx) (r : Nat → Option Value) (w : World) : Prop where
  kp : Kp No w1 w
  box : ∀ x ∈ L, ∀ u, r x.a = some u → ∃ g, u = x.v g ∧ w1.heap.size ≤ g ∧ g < w.heap.size ∧ w.heap[g]? = some (.cells (if (r x.s).isSome then x.full else x.zero) x.t (0, 0))
  ne : ∀ x ∈ L, ∀ y ∈ L, x.a ≠ y.a → ∀ g h, r x.a = some (x.v g) → r y.a = some (y.v h) → g ≠ h
  had : ∀ x ∈ L, r x.s ≠ none → r x.a ≠ none
section
variable {w1 w w' : World} {L : List Bx} {r : Nat → Option Value}
theorem BxW.start (w1 : World) (L : List Bx) : BxW w1 L (fun _ => none) w1.drew :=
  ⟨Kp.drew _ _, fun _ _ _ h => (by cases h), fun _ _ _ _ _ _ _ h => (by cases h), fun _ _ h => absurd rfl h⟩
def freeOf (L : List Bx) (i : Nat) : Bool := L.all fun x => decide (x.a ≠ i) && decide (x.s ≠ i)
theorem freeOf_of {i : Nat} (h : freeOf L i = true) {x : Bx} (hx : x ∈ L) : x.a ≠ i ∧ x.s ≠ i := by
  have := List.all_eq_true.1 h x hx
  simpa using this
theorem BxW.upd {i : Nat} (h : BxW w1 L r w) (hf : freeOf L i = true) (v : Value) : BxW w1 L (Kq.upd r i v) w := by
  have e1 : ∀ x ∈ L, Kq.upd r i v x.a = r x.a := fun x hx => upd_ne _ _ (freeOf_of hf hx).1
  have e2 : ∀ x ∈ L, Kq.upd r i v x.s = r x.s := fun x hx => upd_ne _ _ (freeOf_of hf hx).2
  refine ⟨h.kp, fun x hx u hu => ?_, fun x hx y hy hne g k h1 h2 => ?_, fun x hx hs => ?_⟩
  · rw [e1 x hx] at hu
    rw [e2 x hx]
    exact h.box x hx u hu
  · rw [e1 x hx] at h1
    rw [e1 y hy] at h2
    exact h.ne x hx y hy hne g k h1 h2
  · rw [e2 x hx] at hs
    rw [e1 x hx]
    exact h.had x hx hs
theorem BxW.call (h : BxW w1 L r w) (k : Kp No w w') : BxW w1 L r w' :=
  ⟨h.kp.tr k, fun x hx u hu => by
    obtain ⟨g, h1, h2, h3, h4⟩ := h.box x hx u hu
    exact ⟨g, h1, h2, Nat.lt_of_lt_of_le h3 k.size, k.heap h4 id⟩, h.ne, h.had⟩
theorem nodup_idx (hL : apartL L = true) {x y : Bx} (hx : x ∈ L) (hy : y ∈ L) : x.a ≠ y.s ∧ (x.s = y.s → x.a = y.a) := by
  unfold apartL at hL
  rw [decide_eq_true_eq, List.nodup_append] at hL
  obtain ⟨_, h2, h3⟩ := hL
  refine ⟨h3 _ (List.mem_map_of_mem hx) _ (List.mem_map_of_mem hy), fun e => ?_⟩
  obtain ⟨i, hi, hxi⟩ := List.mem_iff_getElem.1 hx
  obtain ⟨j, hj, hyj⟩ := List.mem_iff_getElem.1 hy
  have hij : i = j := by
    have hp := List.pairwise_iff_getElem.1 h2
    rcases Nat.lt_trichotomy i j with h | h | h
    · have := hp i j (by simpa using hi) (by simpa using hj) h
      simp [hxi, hyj, e] at this
    · exact h
    · have := hp j i (by simpa using hj) (by simpa using hi) h
      simp [hxi, hyj, e] at this
  subst hij
  rw [← hxi, ← hyj]
theorem BxW.alloc (h : BxW w1 L r w) (hL : apartL L = true) {x : Bx} (hx : x ∈ L) (hr : r x.a = none) (hv : ∀ y ∈ L, ∀ {p q}, y.v p = y.v q → p = q) (hsame : ∀ y ∈ L, y.a = x.a → y = x) : BxW w1 L (Kq.upd r x.a (x.v w.heap.size)) (w.alloc (.cells x.zero x.t)) := by
  have hs : r x.s = none := by
    cases hs : r x.s with
    | none => rfl
    | some v => exact absurd hr (h.had x hx (by rw [hs]; simp))
  have es : ∀ y ∈ L, Kq.upd r x.a (x.v w.heap.size) y.s = r y.s := fun y hy => upd_ne _ _ (fun e => (nodup_idx hL hx hy).1 e.symm)
  have hnew : (w.alloc (.cells x.zero x.t)).heap[w.heap.size]? = some (.cells x.zero x.t (0, 0)) := heap_alloc_new w _
  refine ⟨h.kp.tr (Kp.alloc _ _ _), fun y hy u hu => ?_, fun y hy z hz hne g k h1 h2 => ?_, fun y hy hys => ?_⟩
  · rw [es y hy]
    by_cases e : y.a = x.a
    · obtain rfl := hsame y hy e
      rw [upd_same] at hu
      cases hu
      refine ⟨_, rfl, h.kp.size, by simp, ?_⟩
      rw [hs]
      exact hnew
    · rw [upd_ne _ _ e] at hu
      obtain ⟨g, q1, q2, q3, q4⟩ := h.box y hy u hu
      exact ⟨g, q1, q2, by simp; omega, (Kp.alloc No w _).heap q4 id⟩
  · by_cases e1 : y.a = x.a
    · obtain rfl := hsame y hy e1
      rw [upd_same] at h1
      rw [upd_ne _ _ (fun e => hne e.symm)] at h2
      obtain ⟨g', q1, _, q3, _⟩ := h.box z hz _ h2
      have e2 := hv y hy (Option.some.inj h1)
      have e3 := hv z hz q1
      omega
    · rw [upd_ne _ _ e1] at h1
      by_cases e2 : z.a = x.a
      · obtain rfl := hsame z hz e2
        rw [upd_same] at h2
        obtain ⟨g', q1, _, q3, _⟩ := h.box y hy _ h1
        have e3 := hv y hy q1
        have e4 := hv z hz (Option.some.inj h2)
        omega
      · rw [upd_ne _ _ e2] at h2
        exact h.ne y hy z hz hne g k h1 h2
  · rw [es y hy] at hys
    have := h.had y hy hys
    by_cases e : y.a = x.a
    · rw [e, upd_same]; simp
    · rw [upd_ne _ _ e]
      exact this
theorem BxW.store (h : BxW w1 L r w) (hL : apartL L = true) {x : Bx} (hx : x ∈ L) {g : Nat} (hr : r x.a = some (x.v g)) (hgl : w1.heap.size ≤ g) (_hv : ∀ y ∈ L, ∀ {p q}, y.v p = y.v q → p = q) (hsame : ∀ y ∈ L, y.a = x.a → y = x) (hk : Kp (One g) w w') (hg : w'.heap[g]? = some (.cells x.full x.t (0, 0))) (v : Value) :
    BxW w1 L (Kq.upd r x.s v) w' := by
  have ea : ∀ y ∈ L, Kq.upd r x.s v y.a = r y.a := fun y hy => upd_ne _ _ (nodup_idx hL hy hx).1
  refine ⟨h.kp.trans hk (fun k hk e => by unfold One at e; omega), fun y hy u hu => ?_, fun y hy z hz hne p q h1 h2 => ?_, fun y hy hys => ?_⟩
  · rw [ea y hy] at hu
    by_cases e : y.a = x.a
    · obtain rfl := hsame y hy e
      rw [hr] at hu
      cases hu
      refine ⟨g, rfl, hgl, (Array.getElem?_eq_some_iff.1 hg).1, ?_⟩
      rw [upd_same]
      exact hg
    · obtain ⟨g', q1, q2, q3, q4⟩ := h.box y hy u hu
      subst q1
      have hne := h.ne y hy x hx e g' g hu hr
      refine ⟨g', rfl, q2, Nat.lt_of_lt_of_le q3 hk.size, ?_⟩
      rw [upd_ne _ _ (fun e2 => e ((nodup_idx hL hy hx).2 e2))]
      exact hk.heap q4 (fun e => hne e)
  · rw [ea y hy] at h1
    rw [ea z hz] at h2
    exact h.ne y hy z hz hne p q h1 h2
  · rw [ea y hy]
    by_cases e : y.s = x.s
    · have := hsame y hy ((nodup_idx hL hy hx).2 e)
      subst this
      rw [hr]
      simp
    · rw [upd_ne _ _ e] at hys
      exact h.had y hy hys
/-- A filled box. -/
theorem BxW.filled (h : BxW w1 L r w) {x : Bx} (hx : x ∈ L) (hs : r x.s ≠ none) : ∃ g, r x.a = some (x.v g) ∧ w1.heap.size ≤ g ∧ g < w.heap.size ∧ w.heap[g]? = some (.cells x.full x.t (0, 0)) := by
  cases ha : r x.a with
  | none => exact absurd ha (h.had x hx hs)
  | some u =>
    obtain ⟨g, rfl, h2, h3, h4⟩ := h.box x hx u ha
    rw [if_pos (Option.isSome_iff_ne_none.2 hs)] at h4
    exact ⟨g, rfl, h2, h3, h4⟩
/-- A box that has not been filled. -/
theorem BxW.empty (h : BxW w1 L r w) {x : Bx} (hx : x ∈ L) (hs : r x.s = none) {u : Value} (hu : r x.a = some u) : ∃ g, u = x.v g ∧ w1.heap.size ≤ g ∧ g < w.heap.size ∧ w.heap[g]? = some (.cells x.zero x.t (0, 0)) := by
  obtain ⟨g, h1, h2, h3, h4⟩ := h.box x hx u hu
  rw [hs] at h4
  exact ⟨g, h1, h2, h3, h4⟩
end
end Go.Kq
