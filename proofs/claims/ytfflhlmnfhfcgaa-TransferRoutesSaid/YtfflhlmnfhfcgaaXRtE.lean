/- Chapter 33: Route's drawn region: two appends into two fields of one box, and both stores. -/
import Derived.Test.YtfflhlmnfhfcgaaXRtD
namespace Go.Proofs.Ytfflhlmnfhfcgaa
open Go.RowKit Go.Kq

structure A2 (w0 : World) (bx base : Nat) (fv cv v1 v2 : Value) (n1 n2 m : Nat) (x1 x2 y1 y2 : List Value) (r : Nat → Option Value) (w : World) : Prop where
  kp : Kp (fun g => g = bx ∨ v1.ownBlock = some g ∨ v2.ownBlock = some g) w0 w
  box : w.heap[bx]? = some (.cells #[fv, ((r 12).bind fun _ => r 5).getD v1, ((r 14).bind fun _ => r 10).getD v2, cv] 51 (0, 0))
  p1 : r 12 ≠ none → r 5 ≠ none
  p2 : r 14 ≠ none → r 10 ≠ none
  l1 : r 5 ≠ none → r 1 ≠ none
  l2 : r 10 ≠ none → r 7 ≠ none
  q1 : r 5 ≠ none → r 4 ≠ none
  row1 : w.ownsRow base 3 1 ((r 5).getD v1) ((r 5).elim n1 fun _ => n1 + 1) ((r 5).elim x1 fun _ => x1 ++ y1)
  row2 : w.ownsRow base 3 1 ((r 10).getD v2) ((r 10).elim n2 fun _ => n2 + m) ((r 10).elim x2 fun _ => x2 ++ y2)
  made : ∀ u, r 4 = some u → r 5 = none → ∃ g, u = .slice (some ⟨g, 0, none⟩) 1 1 ∧ w0.heap.size ≤ g ∧ ∀ j x, y1[j]? = some x → w.cell? ⟨g, j, none⟩ = some x
  ap : ∀ g, ((r 5).getD v1).ownBlock = some g → ((r 10).getD v2).ownBlock ≠ some g
  b1 : ((r 5).getD v1).ownBlock ≠ some bx
  b2 : ((r 10).getD v2).ownBlock ≠ some bx
section
variable {w0 w w' : World} {bx base : Nat} {fv cv v1 v2 : Value} {n1 n2 m : Nat} {x1 x2 y1 y2 : List Value} {r : Nat → Option Value}
theorem A2.start (hb : w0.heap[bx]? = some (.cells #[fv, v1, v2, cv] 51 (0, 0))) (h1 : w0.ownsRow base 3 1 v1 n1 x1) (h2 : w0.ownsRow base 3 1 v2 n2 x2) (ha : ∀ g, v1.ownBlock = some g → v2.ownBlock ≠ some g) (c1 : v1.ownBlock ≠ some bx) (c2 : v2.ownBlock ≠ some bx) : A2 w0 bx base fv cv v1 v2 n1 n2 m x1 x2 y1 y2 (fun _ => none) w0.drew :=
  ⟨Kp.drew _ _, hb, fun h => absurd rfl h, fun h => absurd rfl h, fun h => absurd rfl h, fun h => absurd rfl h, fun h => absurd rfl h, (Kp.drew No w0).owns h1 fun _ _ h => h, (Kp.drew No w0).owns h2 fun _ _ h => h, fun u h => (by cases h), ha, c1, c2⟩
theorem upd_some (i : Nat) (v : Value) {j : Nat} (h : r j ≠ none) : Kq.upd r i v j ≠ none := by
  by_cases e : j = i
  · rw [e, upd_same]
    simp
  · rw [upd_ne _ _ e]
    exact h
theorem A2.upd (h : A2 w0 bx base fv cv v1 v2 n1 n2 m x1 x2 y1 y2 r w) (i : Nat) (v : Value) (hi : i ≠ 4 ∧ i ≠ 5 ∧ i ≠ 10 ∧ i ≠ 12 ∧ i ≠ 14) : A2 w0 bx base fv cv v1 v2 n1 n2 m x1 x2 y1 y2 (Kq.upd r i v) w := by
  obtain ⟨i4, i5, i10, i12, i14⟩ := hi
  have e4 := upd_ne r v i4.symm
  have e5 := upd_ne r v i5.symm
  have e10 := upd_ne r v i10.symm
  have e12 := upd_ne r v i12.symm
  have e14 := upd_ne r v i14.symm
  constructor
  · exact h.kp
  · rw [e5, e10, e12, e14]; exact h.box
  · rw [e5, e12]; exact h.p1
  · rw [e10, e14]; exact h.p2
  · rw [e5]; exact fun x => upd_some i v (h.l1 x)
  · rw [e10]; exact fun x => upd_some i v (h.l2 x)
  · rw [e5, e4]; exact h.q1
  · rw [e5]; exact h.row1
  · rw [e10]; exact h.row2
  · rw [e4, e5]; exact h.made
  · rw [e5, e10]; exact h.ap
  · rw [e5]; exact h.b1
  · rw [e10]; exact h.b2
theorem A2.call (h : A2 w0 bx base fv cv v1 v2 n1 n2 m x1 x2 y1 y2 r w) (k : Kp No w w') : A2 w0 bx base fv cv v1 v2 n1 n2 m x1 x2 y1 y2 r w' := by
  refine ⟨h.kp.no k, k.heap h.box id, h.p1, h.p2, h.l1, h.l2, h.q1, k.owns h.row1 fun _ _ x => x, k.owns h.row2 fun _ _ x => x, fun u hu hh => ?_, h.ap, h.b1, h.b2⟩
  obtain ⟨g, a, b, c⟩ := h.made u hu hh
  exact ⟨g, a, b, fun j x hj => k.cell (c j x hj) id⟩
theorem A2.lay (h : A2 w0 bx base fv cv v1 v2 n1 n2 m x1 x2 y1 y2 r w) (hr : r 4 = none) (hl : y1.length = 1) {e' : TypeId} {cs : Array Value} (hcs : cs = y1.toArray) : A2 w0 bx base fv cv v1 v2 n1 n2 m x1 x2 y1 y2 (Kq.upd r 4 (.slice (some ⟨w.heap.size, 0, none⟩) 1 1)) (w.alloc (.cells cs e')) := by
  subst hcs
  have h' := h.call (Kp.alloc No w (.cells y1.toArray e'))
  have h5 : r 5 = none := by
    cases h5 : r 5 with
    | none => rfl
    | some u => exact absurd hr (h.q1 (by rw [h5]; simp))
  have e5 : Kq.upd r 4 (.slice (some ⟨w.heap.size, 0, none⟩) 1 1) 5 = r 5 := upd_ne r _ (by decide)
  have e10 : Kq.upd r 4 (.slice (some ⟨w.heap.size, 0, none⟩) 1 1) 10 = r 10 := upd_ne r _ (by decide)
  have e12 : Kq.upd r 4 (.slice (some ⟨w.heap.size, 0, none⟩) 1 1) 12 = r 12 := upd_ne r _ (by decide)
  have e14 : Kq.upd r 4 (.slice (some ⟨w.heap.size, 0, none⟩) 1 1) 14 = r 14 := upd_ne r _ (by decide)
  constructor
  · exact h'.kp
  · rw [e5, e10, e12, e14]; exact h'.box
  · rw [e5, e12]; exact h.p1
  · rw [e10, e14]; exact h.p2
  · rw [e5]; exact fun x => upd_some _ _ (h.l1 x)
  · rw [e10]; exact fun x => upd_some _ _ (h.l2 x)
  · rw [e5]; exact fun x => absurd h5 x
  · rw [e5]; exact h'.row1
  · rw [e10]; exact h'.row2
  · intro u hu _
    rw [upd_same] at hu
    cases hu
    refine ⟨w.heap.size, rfl, h.kp.size, fun j x hj => ?_⟩
    exact Go.Kq.own_cell (own_made (e := e') (s := 1) (n := 1) w hl (Nat.zero_le _) (by unfold maxLen; omega)) hj
  · rw [e5, e10]; exact h.ap
  · rw [e5]; exact h.b1
  · rw [e10]; exact h.b2
theorem A2.app1 (h : A2 w0 bx base fv cv v1 v2 n1 n2 m x1 x2 y1 y2 r w) (hr : r 5 = none) (ha : r 1 ≠ none) (hb : r 4 ≠ none) {v' : Value} (ho : w'.ownsRow base 3 1 v' (n1 + 1) (x1 ++ y1)) (hg : w.grownBy w' v1.ownBlock) (hat : v'.ownBlock = v1.ownBlock ∨ v'.ownBlock = some w.heap.size) : A2 w0 bx base fv cv v1 v2 n1 n2 m x1 x2 y1 y2 (Kq.upd r 5 v') w' := by
  have e4 : Kq.upd r 5 v' 4 = r 4 := upd_ne r _ (by decide)
  have e5 : Kq.upd r 5 v' 5 = some v' := upd_same r _ _
  have e10 : Kq.upd r 5 v' 10 = r 10 := upd_ne r _ (by decide)
  have e12 : Kq.upd r 5 v' 12 = r 12 := upd_ne r _ (by decide)
  have e14 : Kq.upd r 5 v' 14 = r 14 := upd_ne r _ (by decide)
  have h12 : r 12 = none := by
    cases h12 : r 12 with
    | none => rfl
    | some u => exact absurd hr (h.p1 (by rw [h12]; simp))
  have hk : Kp (fun k => v1.ownBlock = some k) w w' := Kp.grown hg fun k hk _ => hk
  have hap := h.ap
  have hb1 := h.b1
  rw [hr] at hap hb1
  replace hap : ∀ g, v1.ownBlock = some g → ((r 10).getD v2).ownBlock ≠ some g := hap
  have hbl := (Array.getElem?_eq_some_iff.1 h.box).1
  constructor
  · exact h.kp.trans hk fun k _ hk => .inr (.inl hk)
  · rw [e5, e10, e12, e14]
    have := hk.heap h.box hb1
    rw [h12] at this ⊢
    exact this
  · rw [e5]; exact fun _ => by simp
  · rw [e10, e14]; exact h.p2
  · exact fun _ => upd_some _ _ ha
  · rw [e10]; exact fun x => upd_some _ _ (h.l2 x)
  · exact fun _ => upd_some _ _ hb
  · rw [e5]; exact ho
  · rw [e10]; exact hk.owns h.row2 fun g hg hh => hap g hh hg
  · intro u _ hh
    rw [e5] at hh
    cases hh
  · intro g hg2 hc
    rw [e5] at hg2
    rw [e10] at hc
    replace hg2 : v'.ownBlock = some g := hg2
    rcases hat with hat | hat
    · exact hap g (hat ▸ hg2) hc
    · rw [hat] at hg2
      cases hg2
      have := (Go.Kq.own_ge h.row2 hc).2
      omega
  · rw [e5]
    rintro hc
    replace hc : v'.ownBlock = some bx := hc
    rcases hat with hat | hat
    · exact hb1 (hat ▸ hc)
    · rw [hat] at hc
      cases hc
      omega
  · rw [e10]; exact h.b2
theorem A2.app2 (h : A2 w0 bx base fv cv v1 v2 n1 n2 m x1 x2 y1 y2 r w) (hr : r 10 = none) (ha : r 7 ≠ none) (hz : ∀ g, v2.ownBlock = some g → g < w0.heap.size) {v' : Value} (ho : w'.ownsRow base 3 1 v' (n2 + m) (x2 ++ y2)) (hg : w.grownBy w' v2.ownBlock) (hat : v'.ownBlock = v2.ownBlock ∨ v'.ownBlock = some w.heap.size) : A2 w0 bx base fv cv v1 v2 n1 n2 m x1 x2 y1 y2 (Kq.upd r 10 v') w' := by
  have e4 : Kq.upd r 10 v' 4 = r 4 := upd_ne r _ (by decide)
  have e5 : Kq.upd r 10 v' 5 = r 5 := upd_ne r _ (by decide)
  have e10 : Kq.upd r 10 v' 10 = some v' := upd_same r _ _
  have e12 : Kq.upd r 10 v' 12 = r 12 := upd_ne r _ (by decide)
  have e14 : Kq.upd r 10 v' 14 = r 14 := upd_ne r _ (by decide)
  have h14 : r 14 = none := by
    cases h14 : r 14 with
    | none => rfl
    | some u => exact absurd hr (h.p2 (by rw [h14]; simp))
  have hk : Kp (fun k => v2.ownBlock = some k) w w' := Kp.grown hg fun k hk _ => hk
  have hap := h.ap
  have hb2 := h.b2
  rw [hr] at hap hb2
  replace hap : ∀ g, ((r 5).getD v1).ownBlock = some g → v2.ownBlock ≠ some g := hap
  have hbl := (Array.getElem?_eq_some_iff.1 h.box).1
  constructor
  · exact h.kp.trans hk fun k _ hk => .inr (.inr hk)
  · rw [e5, e10, e12, e14]
    have := hk.heap h.box hb2
    rw [h14] at this ⊢
    exact this
  · rw [e5, e12]; exact h.p1
  · rw [e10]; exact fun _ => by simp
  · rw [e5]; exact fun x => upd_some _ _ (h.l1 x)
  · exact fun _ => upd_some _ _ ha
  · rw [e5, e4]; exact h.q1
  · rw [e5]; exact hk.owns h.row1 fun g hg hh => hap g hg hh
  · rw [e10]; exact ho
  · intro u hu hh
    rw [e4] at hu
    rw [e5] at hh
    obtain ⟨g, a, b, c⟩ := h.made u hu hh
    exact ⟨g, a, b, fun j x hj => hk.cell (c j x hj) fun e => by have := hz g e; omega⟩
  · intro g hg2 hc
    rw [e5] at hg2
    rw [e10] at hc
    replace hc : v'.ownBlock = some g := hc
    rcases hat with hat | hat
    · exact hap g hg2 (hat ▸ hc)
    · rw [hat] at hc
      cases hc
      have := (Go.Kq.own_ge h.row1 hg2).2
      omega
  · rw [e5]; exact h.b1
  · rw [e10]
    rintro hc
    replace hc : v'.ownBlock = some bx := hc
    rcases hat with hat | hat
    · exact hb2 (hat ▸ hc)
    · rw [hat] at hc
      cases hc
      omega
theorem A2.store1 (h : A2 w0 bx base fv cv v1 v2 n1 n2 m x1 x2 y1 y2 r w) (_hr : r 12 = none) {u : Value} (hu : r 5 = some u) (x : Value) : A2 w0 bx base fv cv v1 v2 n1 n2 m x1 x2 y1 y2 (Kq.upd r 12 x) (w.setCell ⟨bx, 1, none⟩ u) := by
  have e4 : Kq.upd r 12 x 4 = r 4 := upd_ne r _ (by decide)
  have e5 : Kq.upd r 12 x 5 = r 5 := upd_ne r _ (by decide)
  have e10 : Kq.upd r 12 x 10 = r 10 := upd_ne r _ (by decide)
  have e12 : Kq.upd r 12 x 12 = some x := upd_same r _ _
  have e14 : Kq.upd r 12 x 14 = r 14 := upd_ne r _ (by decide)
  have hk : Kp (One bx) w (w.setCell ⟨bx, 1, none⟩ u) := kp_setOne _ _ _ _
  have hb := h.box
  constructor
  · exact h.kp.trans hk fun k _ hk => .inl hk
  · rw [e5, e10, e12, e14, hu]
    simp [World.setCell, Array.getElem?_modify, hb]
  · rw [e5, hu]; exact fun _ => by simp
  · rw [e10, e14]; exact h.p2
  · rw [e5]; exact fun x => upd_some _ _ (h.l1 x)
  · rw [e10]; exact fun x => upd_some _ _ (h.l2 x)
  · rw [e5, e4]; exact h.q1
  · rw [e5]; exact hk.owns h.row1 fun g hg hh => h.b1 (by rw [hg, show g = bx from hh])
  · rw [e10]; exact hk.owns h.row2 fun g hg hh => h.b2 (by rw [hg, show g = bx from hh])
  · rw [e5, hu]; exact fun _ _ hh => by cases hh
  · rw [e5, e10]; exact h.ap
  · rw [e5]; exact h.b1
  · rw [e10]; exact h.b2
theorem A2.store2 (h : A2 w0 bx base fv cv v1 v2 n1 n2 m x1 x2 y1 y2 r w) (hw : bx < w0.heap.size) (_hr : r 14 = none) {u : Value} (hu : r 10 = some u) (x : Value) : A2 w0 bx base fv cv v1 v2 n1 n2 m x1 x2 y1 y2 (Kq.upd r 14 x) (w.setCell ⟨bx, 2, none⟩ u) := by
  have e4 : Kq.upd r 14 x 4 = r 4 := upd_ne r _ (by decide)
  have e5 : Kq.upd r 14 x 5 = r 5 := upd_ne r _ (by decide)
  have e10 : Kq.upd r 14 x 10 = r 10 := upd_ne r _ (by decide)
  have e12 : Kq.upd r 14 x 12 = r 12 := upd_ne r _ (by decide)
  have e14 : Kq.upd r 14 x 14 = some x := upd_same r _ _
  have hk : Kp (One bx) w (w.setCell ⟨bx, 2, none⟩ u) := kp_setOne _ _ _ _
  have hb := h.box
  constructor
  · exact h.kp.trans hk fun k _ hk => .inl hk
  · rw [e5, e10, e12, e14, hu]
    simp [World.setCell, Array.getElem?_modify, hb]
  · rw [e5, e12]; exact h.p1
  · rw [e10, hu]; exact fun _ => by simp
  · rw [e5]; exact fun x => upd_some _ _ (h.l1 x)
  · rw [e10]; exact fun x => upd_some _ _ (h.l2 x)
  · rw [e5, e4]; exact h.q1
  · rw [e5]; exact hk.owns h.row1 fun g hg hh => h.b1 (by rw [hg, show g = bx from hh])
  · rw [e10]; exact hk.owns h.row2 fun g hg hh => h.b2 (by rw [hg, show g = bx from hh])
  · intro u hu hh
    rw [e4] at hu
    rw [e5] at hh
    obtain ⟨g, a, b, c⟩ := h.made u hu hh
    exact ⟨g, a, b, fun j x hj => hk.cell (c j x hj) fun e => by have e : g = bx := e; omega⟩
  · rw [e5, e10]; exact h.ap
  · rw [e5]; exact h.b1
  · rw [e10]; exact h.b2
/-- What is loaded before the stores. -/
theorem A2.load1 (h : A2 w0 bx base fv cv v1 v2 n1 n2 m x1 x2 y1 y2 r w) (hr : r 1 = none) : w.cell? ⟨bx, 1, none⟩ = some v1 := by
  have h5 : r 5 = none := by
    cases h5 : r 5 with
    | none => rfl
    | some u => exact absurd hr (h.l1 (by rw [h5]; simp))
  have h12 : r 12 = none := by
    cases h12 : r 12 with
    | none => rfl
    | some u => exact absurd h5 (h.p1 (by rw [h12]; simp))
  have hb := h.box
  rw [h12] at hb
  simp [World.cell?, hb]
theorem A2.load2 (h : A2 w0 bx base fv cv v1 v2 n1 n2 m x1 x2 y1 y2 r w) (hr : r 7 = none) : w.cell? ⟨bx, 2, none⟩ = some v2 := by
  have h5 : r 10 = none := by
    cases h5 : r 10 with
    | none => rfl
    | some u => exact absurd hr (h.l2 (by rw [h5]; simp))
  have h12 : r 14 = none := by
    cases h12 : r 14 with
    | none => rfl
    | some u => exact absurd h5 (h.p2 (by rw [h12]; simp))
  have hb := h.box
  rw [h12] at hb
  simp [World.cell?, hb]
theorem A2.fin (h : A2 w0 bx base fv cv v1 v2 n1 n2 m x1 x2 y1 y2 r w) (h1 : r 12 ≠ none) (h2 : r 14 ≠ none) : ∃ u1 u2, w.heap[bx]? = some (.cells #[fv, u1, u2, cv] 51 (0, 0)) ∧ w.ownsRow base 3 1 u1 (n1 + 1) (x1 ++ y1) ∧ w.ownsRow base 3 1 u2 (n2 + m) (x2 ++ y2) ∧ (∀ g, u1.ownBlock = some g → u2.ownBlock ≠ some g) ∧ Kp (fun g => g = bx ∨ v1.ownBlock = some g ∨ v2.ownBlock = some g) w0 w := by
  have a1 := h.p1 h1
  have a2 := h.p2 h2
  obtain ⟨z1, hz1⟩ := Option.ne_none_iff_exists'.1 h1
  obtain ⟨z2, hz2⟩ := Option.ne_none_iff_exists'.1 h2
  obtain ⟨u1, hu1⟩ := Option.ne_none_iff_exists'.1 a1
  obtain ⟨u2, hu2⟩ := Option.ne_none_iff_exists'.1 a2
  have hb := h.box
  have r1 := h.row1
  have r2 := h.row2
  have ha := h.ap
  rw [hz1, hz2, hu1, hu2] at hb
  rw [hu1] at r1 ha
  rw [hu2] at r2 ha
  exact ⟨u1, u2, hb, r1, r2, ha, h.kp⟩
end
end Go.Proofs.Ytfflhlmnfhfcgaa
