/- Chapter 15: Least: the region that appends what was found: its invariant. -/
import Derived.Test.YtpkbpeeelpgmcaaGreatXLibYetM
import Derived.Test.YtpkbpeeelpgmcaaGreatXLibRegInM
import Derived.Test.YtpkbpeeelpgmcaaGreatXWdEM
namespace Go.Proofs.YtpkbpeeelpgmcaaGreat
open Go.RowKit Go.Kq Go.Flow

def OwN (w : World) (base : Nat) (u : Value) (l : List Nat) : Prop := w.ownsRow base 3 1 u l.length ((l.map Int.ofNat).map (Value.int .i64))
theorem OwN.no {w w' : World} {base : Nat} {u : Value} {l : List Nat} (h : OwN w base u l) (k : Kp No w w') : OwN w' base u l := own_kp h k fun _ _ e => e
theorem OwN.kp {S : Nat → Prop} {w w' : World} {base : Nat} {u : Value} {l : List Nat} (h : OwN w base u l) (k : Kp S w w') (hS : ∀ (b : Nat) (cs : Array Value), w.heap[b]? = some (.cells cs 3 (0, 0)) → ¬ S b) : OwN w' base u l :=
  own_kp h k fun g hg => by obtain ⟨cs, hc⟩ := row_cells h hg; exact hS _ _ hc
structure RgW (w6 : World) (B b5 gb : Nat) (x : Cv) (out : List Cv) (D : Option Addr) (c : Nat) (r : Nat → Option Value) (w : World) : Prop where
  kp : Kp No w6 w
  el : ∀ y ∈ out, CvO w B y
  bx : w.heap[gb]? = some (.cells x.cells.toArray 30 (0, 0))
  ex : CvO w b5 x
  row : r 9 = none → w.ownsRow B 30 2 (.slice D out.length c) out.length (out.flatMap Cv.cells)
  c3 : ∀ u, r 3 = some u → ∃ A d, u = .slice A x.c.st.length d ∧ OwN w B u x.c.st
  c6 : ∀ u, r 6 = some u → ∃ A d, u = .slice A x.c.ky.length d ∧ OwN w B u x.c.ky
  c7 : ∀ u, r 7 = some u → ∃ u3 u6, r 3 = some u3 ∧ r 6 = some u6 ∧ u = .agg #[u3, u6]
  c8 : ∀ u, r 8 = some u → r 7 ≠ none ∧ (r 9 = none → ∃ u3 u6 gq, r 3 = some u3 ∧ r 6 = some u6 ∧ u = .slice (some ⟨gq, 0, none⟩) 1 1 ∧ ∀ (j : Nat) (v : Value), [u3, u6][j]? = some v → w.cell? ⟨gq, j, none⟩ = some v)
  c9 : ∀ u, r 9 = some u → r 8 ≠ none ∧ r 0 ≠ none ∧ ∃ u3 u6, r 3 = some u3 ∧ r 6 = some u6 ∧ w.ownsRow B 30 2 u (out.length + 1) (out.flatMap Cv.cells ++ [u3, u6])
  c10 : ∀ u, r 10 = some u → r 9 = some u
section
variable {w6 : World} {B b5 gb : Nat} {x : Cv} {out : List Cv} {D : Option Addr} {c : Nat} {r : Nat → Option Value} {w w' : World}
theorem RgW.no (h : RgW w6 B b5 gb x out D c r w) (k : Kp No w w') : RgW w6 B b5 gb x out D c r w' where
  kp := h.kp.tr k
  el y hy := (h.el y hy).no k
  bx := k.heap h.bx id
  ex := h.ex.no k
  row h9 := own_kp (h.row h9) k fun _ _ e => e
  c3 u hu := by obtain ⟨A, d, e, o⟩ := h.c3 u hu; exact ⟨A, d, e, o.no k⟩
  c6 u hu := by obtain ⟨A, d, e, o⟩ := h.c6 u hu; exact ⟨A, d, e, o.no k⟩
  c7 := h.c7
  c8 u hu := ⟨(h.c8 u hu).1, fun h9 => by obtain ⟨u3, u6, gq, a, b, e, cc⟩ := (h.c8 u hu).2 h9; exact ⟨u3, u6, gq, a, b, e, fun j v hj => k.cell (cc j v hj) id⟩⟩
  c9 u hu := by obtain ⟨a, b, u3, u6, e, f, o⟩ := h.c9 u hu; exact ⟨a, b, u3, u6, e, f, own_kp o k fun _ _ e => e⟩
  c10 := h.c10
theorem RgW.upd (h : RgW w6 B b5 gb x out D c r w) (i : Nat) (v : Value) (h3 : i ≠ 3) (h6 : i ≠ 6) (h7 : i ≠ 7) (h8 : i ≠ 8) (h9 : i ≠ 9) (h10 : i ≠ 10) : RgW w6 B b5 gb x out D c (Kq.upd r i v) w where
  kp := h.kp
  el := h.el
  bx := h.bx
  ex := h.ex
  row hr := h.row (by rwa [upd_ne _ _ h9.symm] at hr)
  c3 u hu := h.c3 u (by rwa [upd_ne _ _ h3.symm] at hu)
  c6 u hu := h.c6 u (by rwa [upd_ne _ _ h6.symm] at hu)
  c7 u hu := by rw [upd_ne _ _ h3.symm, upd_ne _ _ h6.symm]; exact h.c7 u (by rwa [upd_ne _ _ h7.symm] at hu)
  c8 u hu := by rw [upd_ne _ _ h3.symm, upd_ne _ _ h6.symm, upd_ne _ _ h7.symm, upd_ne _ _ h9.symm]; exact h.c8 u (by rwa [upd_ne _ _ h8.symm] at hu)
  c9 u hu := by
    rw [upd_ne _ _ h3.symm, upd_ne _ _ h6.symm, upd_ne _ _ h8.symm]
    obtain ⟨a, b, e⟩ := h.c9 u (by rwa [upd_ne _ _ h9.symm] at hu)
    exact ⟨a, upd_some b, e⟩
  c10 u hu := by rw [upd_ne _ _ h9.symm]; exact h.c10 u (by rwa [upd_ne _ _ h10.symm] at hu)
theorem RgW.n7 (h : RgW w6 B b5 gb x out D c r w) (hr : r 3 = none ∨ r 6 = none) : r 7 = none := by
  cases h7 : r 7 with
  | none => rfl
  | some u =>
    obtain ⟨u3, u6, a, b, _⟩ := h.c7 u h7
    rcases hr with e | e
    · rw [e] at a; cases a
    · rw [e] at b; cases b
theorem RgW.n8 (h : RgW w6 B b5 gb x out D c r w) (hr : r 7 = none) : r 8 = none := by
  cases h8 : r 8 with
  | none => rfl
  | some u => exact absurd hr (h.c8 u h8).1
theorem RgW.n9 (h : RgW w6 B b5 gb x out D c r w) (hr : r 8 = none) : r 9 = none := by
  cases h9 : r 9 with
  | none => rfl
  | some u => exact absurd hr (h.c9 u h9).1
theorem RgW.n90 (h : RgW w6 B b5 gb x out D c r w) (hr : r 0 = none) : r 9 = none := by
  cases h9 : r 9 with
  | none => rfl
  | some u => exact absurd hr (h.c9 u h9).2.1
theorem RgW.n10 (h : RgW w6 B b5 gb x out D c r w) (hr : r 9 = none) : r 10 = none := by
  cases h10 : r 10 with
  | none => rfl
  | some u => have := h.c10 u h10; rw [hr] at this; cases this
theorem RgW.put3 (h : RgW w6 B b5 gb x out D c r w) (hr : r 3 = none) (A : Option Addr) (d : Nat) (ho : OwN w B (.slice A x.c.st.length d) x.c.st) : RgW w6 B b5 gb x out D c (Kq.upd r 3 (.slice A x.c.st.length d)) w := by
  have h7 := h.n7 (.inl hr)
  have h8 := h.n8 h7
  have h9 := h.n9 h8
  have h10 := h.n10 h9
  refine { kp := h.kp, el := h.el, bx := h.bx, ex := h.ex, row := fun _ => h.row h9, c3 := fun u hu => ?_, c6 := fun u hu => h.c6 u (by rwa [upd_ne _ _ (by decide)] at hu), c7 := fun u hu => ?_, c8 := fun u hu => ?_, c9 := fun u hu => ?_, c10 := fun u hu => ?_ }
  · rw [upd_same] at hu
    cases hu
    exact ⟨A, d, rfl, ho⟩
  · rw [upd_ne _ _ (by decide), h7] at hu
    cases hu
  · rw [upd_ne _ _ (by decide), h8] at hu
    cases hu
  · rw [upd_ne _ _ (by decide), h9] at hu
    cases hu
  · rw [upd_ne _ _ (by decide), h10] at hu
    cases hu
theorem RgW.put6 (h : RgW w6 B b5 gb x out D c r w) (hr : r 6 = none) (A : Option Addr) (d : Nat) (ho : OwN w B (.slice A x.c.ky.length d) x.c.ky) : RgW w6 B b5 gb x out D c (Kq.upd r 6 (.slice A x.c.ky.length d)) w := by
  have h7 := h.n7 (.inr hr)
  have h8 := h.n8 h7
  have h9 := h.n9 h8
  have h10 := h.n10 h9
  refine { kp := h.kp, el := h.el, bx := h.bx, ex := h.ex, row := fun _ => h.row h9, c3 := fun u hu => h.c3 u (by rwa [upd_ne _ _ (by decide)] at hu), c6 := fun u hu => ?_, c7 := fun u hu => ?_, c8 := fun u hu => ?_, c9 := fun u hu => ?_, c10 := fun u hu => ?_ }
  · rw [upd_same] at hu
    cases hu
    exact ⟨A, d, rfl, ho⟩
  · rw [upd_ne _ _ (by decide), h7] at hu
    cases hu
  · rw [upd_ne _ _ (by decide), h8] at hu
    cases hu
  · rw [upd_ne _ _ (by decide), h9] at hu
    cases hu
  · rw [upd_ne _ _ (by decide), h10] at hu
    cases hu
theorem RgW.put7 (h : RgW w6 B b5 gb x out D c r w) (hr : r 7 = none) (u3 u6 : Value) (h3 : r 3 = some u3) (h6 : r 6 = some u6) : RgW w6 B b5 gb x out D c (Kq.upd r 7 (.agg #[u3, u6])) w := by
  have h8 := h.n8 hr
  have h9 := h.n9 h8
  have h10 := h.n10 h9
  refine { kp := h.kp, el := h.el, bx := h.bx, ex := h.ex, row := fun _ => h.row h9, c3 := fun u hu => h.c3 u (by rwa [upd_ne _ _ (by decide)] at hu), c6 := fun u hu => h.c6 u (by rwa [upd_ne _ _ (by decide)] at hu), c7 := fun u hu => ?_, c8 := fun u hu => ?_, c9 := fun u hu => ?_, c10 := fun u hu => ?_ }
  · rw [upd_same] at hu
    cases hu
    exact ⟨u3, u6, by rw [upd_ne _ _ (by decide)]; exact h3, by rw [upd_ne _ _ (by decide)]; exact h6, rfl⟩
  · rw [upd_ne _ _ (by decide), h8] at hu
    cases hu
  · rw [upd_ne _ _ (by decide), h9] at hu
    cases hu
  · rw [upd_ne _ _ (by decide), h10] at hu
    cases hu
theorem RgW.put8 (h : RgW w6 B b5 gb x out D c r w) (hr : r 8 = none) (h7 : r 7 ≠ none) (u3 u6 : Value) (h3 : r 3 = some u3) (h6 : r 6 = some u6) : RgW w6 B b5 gb x out D c (Kq.upd r 8 (.slice (some ⟨w.heap.size, 0, none⟩) 1 1)) (w.alloc (.cells #[u3, u6] 30)) := by
  have h9 := h.n9 hr
  have h10 := h.n10 h9
  have k : Kp No w (w.alloc (.cells #[u3, u6] 30)) := Kp.alloc _ _ _
  have H := h.no k
  refine { kp := H.kp, el := H.el, bx := H.bx, ex := H.ex, row := fun _ => H.row h9, c3 := fun u hu => H.c3 u (by rwa [upd_ne _ _ (by decide)] at hu), c6 := fun u hu => H.c6 u (by rwa [upd_ne _ _ (by decide)] at hu), c7 := fun u hu => ?_, c8 := fun u hu => ?_, c9 := fun u hu => ?_, c10 := fun u hu => ?_ }
  · rw [upd_ne _ _ (by decide), upd_ne _ _ (by decide)]
    exact H.c7 u (by rwa [upd_ne _ _ (by decide)] at hu)
  · rw [upd_same] at hu
    cases hu
    refine ⟨by rw [upd_ne _ _ (by decide)]; exact h7, fun _ => ⟨u3, u6, _, by rw [upd_ne _ _ (by decide)]; exact h3, by rw [upd_ne _ _ (by decide)]; exact h6, rfl, fun j v hj => ?_⟩⟩
    have := new_cells (e := 30) w [u3, u6] (by simp [maxLen]) j v hj
    rwa [add_at, Nat.zero_add] at this
  · rw [upd_ne _ _ (by decide), h9] at hu
    cases hu
  · rw [upd_ne _ _ (by decide), h10] at hu
    cases hu
theorem RgW.put9 (h : RgW w6 B b5 gb x out D c r w) (hr : r 9 = none) (h8 : r 8 ≠ none) (h0 : r 0 ≠ none) (u3 u6 v : Value) (h3 : r 3 = some u3) (h6 : r 6 = some u6) (hB : w6.heap.size ≤ B) (hgb : (Value.slice D out.length c).ownBlock ≠ some gb) (ho : w'.ownsRow B 30 2 v (out.length + 1) (out.flatMap Cv.cells ++ [u3, u6])) (hg : w.grownBy w' (Value.slice D out.length c).ownBlock) : RgW w6 B b5 gb x out D c (Kq.upd r 9 v) w' := by
  have h10 := h.n10 hr
  have hrow := h.row hr
  have k : Kp (fun b => (Value.slice D out.length c).ownBlock = some b) w w' := Kp.grown hg fun _ e _ => e
  have hint : ∀ (b : Nat) (cs : Array Value), w.heap[b]? = some (.cells cs 3 (0, 0)) → ¬ (Value.slice D out.length c).ownBlock = some b := fun b cs hb e => by
    obtain ⟨cs2, hc⟩ := row_cells hrow e
    rw [hb] at hc
    injection hc with hc
    injection hc with _ h2
    exact absurd h2 (by decide)
  refine { kp := h.kp.trans k fun b hb e => ?_, el := fun y hy => (h.el y hy).kp k hint, bx := k.heap h.bx hgb, ex := h.ex.kp k hint, row := fun h9 => ?_, c3 := fun u hu => ?_, c6 := fun u hu => ?_, c7 := fun u hu => ?_, c8 := fun u hu => ?_, c9 := fun u hu => ?_, c10 := fun u hu => ?_ }
  · have := (own_ge hrow e).1
    omega
  · rw [upd_same] at h9
    cases h9
  · obtain ⟨A, d, e, o⟩ := h.c3 u (by rwa [upd_ne _ _ (by decide)] at hu)
    exact ⟨A, d, e, o.kp k hint⟩
  · obtain ⟨A, d, e, o⟩ := h.c6 u (by rwa [upd_ne _ _ (by decide)] at hu)
    exact ⟨A, d, e, o.kp k hint⟩
  · rw [upd_ne _ _ (by decide), upd_ne _ _ (by decide)]
    exact h.c7 u (by rwa [upd_ne _ _ (by decide)] at hu)
  · refine ⟨by rw [upd_ne _ _ (by decide)]; exact (h.c8 u (by rwa [upd_ne _ _ (by decide)] at hu)).1, fun h9 => ?_⟩
    rw [upd_same] at h9
    cases h9
  · rw [upd_same] at hu
    cases hu
    exact ⟨by rw [upd_ne _ _ (by decide)]; exact h8, by rw [upd_ne _ _ (by decide)]; exact h0, u3, u6, by rw [upd_ne _ _ (by decide)]; exact h3, by rw [upd_ne _ _ (by decide)]; exact h6, ho⟩
  · rw [upd_ne _ _ (by decide), h10] at hu
    cases hu
theorem RgW.put10 (h : RgW w6 B b5 gb x out D c r w) (v : Value) (h9 : r 9 = some v) : RgW w6 B b5 gb x out D c (Kq.upd r 10 v) w := by
  refine { kp := h.kp, el := h.el, bx := h.bx, ex := h.ex, row := fun h9 => h.row (by rwa [upd_ne _ _ (by decide)] at h9), c3 := fun u hu => h.c3 u (by rwa [upd_ne _ _ (by decide)] at hu), c6 := fun u hu => h.c6 u (by rwa [upd_ne _ _ (by decide)] at hu), c7 := fun u hu => ?_, c8 := fun u hu => ?_, c9 := fun u hu => ?_, c10 := fun u hu => ?_ }
  · rw [upd_ne _ _ (by decide), upd_ne _ _ (by decide)]
    exact h.c7 u (by rwa [upd_ne _ _ (by decide)] at hu)
  · rw [upd_ne _ _ (by decide), upd_ne _ _ (by decide), upd_ne _ _ (by decide), upd_ne _ _ (by decide)]
    exact h.c8 u (by rwa [upd_ne _ _ (by decide)] at hu)
  · rw [upd_ne _ _ (by decide), upd_ne _ _ (by decide), upd_ne _ _ (by decide), upd_ne _ _ (by decide)]
    exact h.c9 u (by rwa [upd_ne _ _ (by decide)] at hu)
  · rw [upd_same] at hu
    cases hu
    rw [upd_ne _ _ (by decide)]
    exact h9
end
end Go.Proofs.YtpkbpeeelpgmcaaGreat
