/- Chapter 15: Least: the region that appends what was found: its invariant. · Chapter 15: the law's far. Printed by gen_rdf.py. · Chapter 15: the law's all. · Chapter 15: one stop more: plain. -/
import Derived.Test.YtpkbpeeelpgmcaaXExPM
import Derived.Test.YtpkbpeeelpgmcaaXLibRegInM
import Derived.Test.YtpkbpeeelpgmcaaXLibYetM
import Derived.Test.YtpkbpeeelpgmcaaXLibHxM
import Derived.Test.YtpkbpeeelpgmcaaXRdO
import Derived.Test.YtpkbpeeelpgmcaaXCmBM
import Derived.Test.YtpkbpeeelpgmcaaXCmAM
namespace Go.Proofs.Ytpkbpeeelpgmcaa
open Go.RowKit Go.Kq Go.Flow

def OwN (w : World) (base : Nat) (u : Value) (l : List Nat) : Prop := w.ownsRow base 3 1 u l.length ((l.map Int.ofNat).map (Value.int .i64))
theorem OwN.no {w w' : World} {base : Nat} {u : Value} {l : List Nat} (h : OwN w base u l) (k : Kp No w w') : OwN w' base u l := own_kp h k fun _ _ e => e
theorem OwN.kp {S : Nat → Prop} {w w' : World} {base : Nat} {u : Value} {l : List Nat} (h : OwN w base u l) (k : Kp S w w') (hS : ∀ (b : Nat) (cs : Array Value), w.heap[b]? = some (.cells cs 3 (0, 0)) → ¬ S b) : OwN w' base u l :=
  own_kp h k fun g hg => by obtain ⟨cs, hc⟩ := row_cells h hg; exact hS _ _ hc
structure RgW (w6 : World) (B b5 gb : Nat) (x : Cv) (out : List Cv) (D : Option Addr) (c : Nat) (r : Nat → Option Value) (w : World) : Prop where
  kp : Kp No w6 w
  el : ∀ y ∈ out, CvO w B y
  bx : w.heap[gb]? = some (.cells x.cells.toArray 30 (0, 0))
  ex : CvO w b5 x
  row : r 9 = none → w.ownsRow B 30 2 (.slice D out.length c) out.length (out.flatMap Cv.cells)
  c3 : ∀ u, r 3 = some u → ∃ A d, u = .slice A x.c.st.length d ∧ OwN w B u x.c.st
  c6 : ∀ u, r 6 = some u → ∃ A d, u = .slice A x.c.ky.length d ∧ OwN w B u x.c.ky
  c7 : ∀ u, r 7 = some u → ∃ u3 u6, r 3 = some u3 ∧ r 6 = some u6 ∧ u = .agg #[u3, u6]
  c8 : ∀ u, r 8 = some u → r 7 ≠ none ∧ (r 9 = none → ∃ u3 u6 gq, r 3 = some u3 ∧ r 6 = some u6 ∧ u = .slice (some ⟨gq, 0, none⟩) 1 1 ∧ ∀ (j : Nat) (v : Value), [u3, u6][j]? = some v → w.cell? ⟨gq, j, none⟩ = some v)
  c9 : ∀ u, r 9 = some u → r 8 ≠ none ∧ r 0 ≠ none ∧ ∃ u3 u6, r 3 = some u3 ∧ r 6 = some u6 ∧ w.ownsRow B 30 2 u (out.length + 1) (out.flatMap Cv.cells ++ [u3, u6])
  c10 : ∀ u, r 10 = some u → r 9 = some u
section
variable {w6 : World} {B b5 gb : Nat} {x : Cv} {out : List Cv} {D : Option Addr} {c : Nat} {r : Nat → Option Value} {w w' : World}
theorem RgW.no (h : RgW w6 B b5 gb x out D c r w) (k : Kp No w w') : RgW w6 B b5 gb x out D c r w' where
  kp := h.kp.tr k
  el y hy := (h.el y hy).no k
  bx := k.heap h.bx id
  ex := h.ex.no k
  row h9 := own_kp (h.row h9) k fun _ _ e => e
  c3 u hu := by obtain ⟨A, d, e, o⟩ := h.c3 u hu; exact ⟨A, d, e, o.no k⟩
  c6 u hu := by obtain ⟨A, d, e, o⟩ := h.c6 u hu; exact ⟨A, d, e, o.no k⟩
  c7 := h.c7
  c8 u hu := ⟨(h.c8 u hu).1, fun h9 => by obtain ⟨u3, u6, gq, a, b, e, cc⟩ := (h.c8 u hu).2 h9; exact ⟨u3, u6, gq, a, b, e, fun j v hj => k.cell (cc j v hj) id⟩⟩
  c9 u hu := by obtain ⟨a, b, u3, u6, e, f, o⟩ := h.c9 u hu; exact ⟨a, b, u3, u6, e, f, own_kp o k fun _ _ e => e⟩
  c10 := h.c10
theorem RgW.upd (h : RgW w6 B b5 gb x out D c r w) (i : Nat) (v : Value) (h3 : i ≠ 3) (h6 : i ≠ 6) (h7 : i ≠ 7) (h8 : i ≠ 8) (h9 : i ≠ 9) (h10 : i ≠ 10) : RgW w6 B b5 gb x out D c (Kq.upd r i v) w where
  kp := h.kp
  el := h.el
  bx := h.bx
  ex := h.ex
  row hr := h.row (by rwa [upd_ne _ _ h9.symm] at hr)
  c3 u hu := h.c3 u (by rwa [upd_ne _ _ h3.symm] at hu)
  c6 u hu := h.c6 u (by rwa [upd_ne _ _ h6.symm] at hu)
  c7 u hu := by rw [upd_ne _ _ h3.symm, upd_ne _ _ h6.symm]; exact h.c7 u (by rwa [upd_ne _ _ h7.symm] at hu)
  c8 u hu := by rw [upd_ne _ _ h3.symm, upd_ne _ _ h6.symm, upd_ne _ _ h7.symm, upd_ne _ _ h9.symm]; exact h.c8 u (by rwa [upd_ne _ _ h8.symm] at hu)
  c9 u hu := by
    rw [upd_ne _ _ h3.symm, upd_ne _ _ h6.symm, upd_ne _ _ h8.symm]
    obtain ⟨a, b, e⟩ := h.c9 u (by rwa [upd_ne _ _ h9.symm] at hu)
    exact ⟨a, upd_some b, e⟩
  c10 u hu := by rw [upd_ne _ _ h9.symm]; exact h.c10 u (by rwa [upd_ne _ _ h10.symm] at hu)
theorem RgW.n7 (h : RgW w6 B b5 gb x out D c r w) (hr : r 3 = none ∨ r 6 = none) : r 7 = none := by
  cases h7 : r 7 with
  | none => rfl
  | some u =>
    obtain ⟨u3, u6, a, b, _⟩ := h.c7 u h7
    rcases hr with e | e
    · rw [e] at a; cases a
    · rw [e] at b; cases b
theorem RgW.n8 (h : RgW w6 B b5 gb x out D c r w) (hr : r 7 = none) : r 8 = none := by
  cases h8 : r 8 with
  | none => rfl
  | some u => exact absurd hr (h.c8 u h8).1
theorem RgW.n9 (h : RgW w6 B b5 gb x out D c r w) (hr : r 8 = none) : r 9 = none := by
  cases h9 : r 9 with
  | none => rfl
  | some u => exact absurd hr (h.c9 u h9).1
theorem RgW.n90 (h : RgW w6 B b5 gb x out D c r w) (hr : r 0 = none) : r 9 = none := by
  cases h9 : r 9 with
  | none => rfl
  | some u => exact absurd hr (h.c9 u h9).2.1
theorem RgW.n10 (h : RgW w6 B b5 gb x out D c r w) (hr : r 9 = none) : r 10 = none := by
  cases h10 : r 10 with
  | none => rfl
  | some u => have := h.c10 u h10; rw [hr] at this; cases this
theorem RgW.put3 (h : RgW w6 B b5 gb x out D c r w) (hr : r 3 = none) (A : Option Addr) (d : Nat) (ho : OwN w B (.slice A x.c.st.length d) x.c.st) : RgW w6 B b5 gb x out D c (Kq.upd r 3 (.slice A x.c.st.length d)) w := by
  have h7 := h.n7 (.inl hr)
  have h8 := h.n8 h7
  have h9 := h.n9 h8
  have h10 := h.n10 h9
  refine { kp := h.kp, el := h.el, bx := h.bx, ex := h.ex, row := fun _ => h.row h9, c3 := fun u hu => ?_, c6 := fun u hu => h.c6 u (by rwa [upd_ne _ _ (by decide)] at hu), c7 := fun u hu => ?_, c8 := fun u hu => ?_, c9 := fun u hu => ?_, c10 := fun u hu => ?_ }
  · rw [upd_same] at hu
    cases hu
    exact ⟨A, d, rfl, ho⟩
  · rw [upd_ne _ _ (by decide), h7] at hu
    cases hu
  · rw [upd_ne _ _ (by decide), h8] at hu
    cases hu
  · rw [upd_ne _ _ (by decide), h9] at hu
    cases hu
  · rw [upd_ne _ _ (by decide), h10] at hu
    cases hu
theorem RgW.put6 (h : RgW w6 B b5 gb x out D c r w) (hr : r 6 = none) (A : Option Addr) (d : Nat) (ho : OwN w B (.slice A x.c.ky.length d) x.c.ky) : RgW w6 B b5 gb x out D c (Kq.upd r 6 (.slice A x.c.ky.length d)) w := by
  have h7 := h.n7 (.inr hr)
  have h8 := h.n8 h7
  have h9 := h.n9 h8
  have h10 := h.n10 h9
  refine { kp := h.kp, el := h.el, bx := h.bx, ex := h.ex, row := fun _ => h.row h9, c3 := fun u hu => h.c3 u (by rwa [upd_ne _ _ (by decide)] at hu), c6 := fun u hu => ?_, c7 := fun u hu => ?_, c8 := fun u hu => ?_, c9 := fun u hu => ?_, c10 := fun u hu => ?_ }
  · rw [upd_same] at hu
    cases hu
    exact ⟨A, d, rfl, ho⟩
  · rw [upd_ne _ _ (by decide), h7] at hu
    cases hu
  · rw [upd_ne _ _ (by decide), h8] at hu
    cases hu
  · rw [upd_ne _ _ (by decide), h9] at hu
    cases hu
  · rw [upd_ne _ _ (by decide), h10] at hu
    cases hu
theorem RgW.put7 (h : RgW w6 B b5 gb x out D c r w) (hr : r 7 = none) (u3 u6 : Value) (h3 : r 3 = some u3) (h6 : r 6 = some u6) : RgW w6 B b5 gb x out D c (Kq.upd r 7 (.agg #[u3, u6])) w := by
  have h8 := h.n8 hr
  have h9 := h.n9 h8
  have h10 := h.n10 h9
  refine { kp := h.kp, el := h.el, bx := h.bx, ex := h.ex, row := fun _ => h.row h9, c3 := fun u hu => h.c3 u (by rwa [upd_ne _ _ (by decide)] at hu), c6 := fun u hu => h.c6 u (by rwa [upd_ne _ _ (by decide)] at hu), c7 := fun u hu => ?_, c8 := fun u hu => ?_, c9 := fun u hu => ?_, c10 := fun u hu => ?_ }
  · rw [upd_same] at hu
    cases hu
    exact ⟨u3, u6, by rw [upd_ne _ _ (by decide)]; exact h3, by rw [upd_ne _ _ (by decide)]; exact h6, rfl⟩
  · rw [upd_ne _ _ (by decide), h8] at hu
    cases hu
  · rw [upd_ne _ _ (by decide), h9] at hu
    cases hu
  · rw [upd_ne _ _ (by decide), h10] at hu
    cases hu
theorem RgW.put8 (h : RgW w6 B b5 gb x out D c r w) (hr : r 8 = none) (h7 : r 7 ≠ none) (u3 u6 : Value) (h3 : r 3 = some u3) (h6 : r 6 = some u6) : RgW w6 B b5 gb x out D c (Kq.upd r 8 (.slice (some ⟨w.heap.size, 0, none⟩) 1 1)) (w.alloc (.cells #[u3, u6] 30)) := by
  have h9 := h.n9 hr
  have h10 := h.n10 h9
  have k : Kp No w (w.alloc (.cells #[u3, u6] 30)) := Kp.alloc _ _ _
  have H := h.no k
  refine { kp := H.kp, el := H.el, bx := H.bx, ex := H.ex, row := fun _ => H.row h9, c3 := fun u hu => H.c3 u (by rwa [upd_ne _ _ (by decide)] at hu), c6 := fun u hu => H.c6 u (by rwa [upd_ne _ _ (by decide)] at hu), c7 := fun u hu => ?_, c8 := fun u hu => ?_, c9 := fun u hu => ?_, c10 := fun u hu => ?_ }
  · rw [upd_ne _ _ (by decide), upd_ne _ _ (by decide)]
    exact H.c7 u (by rwa [upd_ne _ _ (by decide)] at hu)
  · rw [upd_same] at hu
    cases hu
    refine ⟨by rw [upd_ne _ _ (by decide)]; exact h7, fun _ => ⟨u3, u6, _, by rw [upd_ne _ _ (by decide)]; exact h3, by rw [upd_ne _ _ (by decide)]; exact h6, rfl, fun j v hj => ?_⟩⟩
    have := new_cells (e := 30) w [u3, u6] (by simp [maxLen]) j v hj
    rwa [add_at, Nat.zero_add] at this
  · rw [upd_ne _ _ (by decide), h9] at hu
    cases hu
  · rw [upd_ne _ _ (by decide), h10] at hu
    cases hu
theorem RgW.put9 (h : RgW w6 B b5 gb x out D c r w) (hr : r 9 = none) (h8 : r 8 ≠ none) (h0 : r 0 ≠ none) (u3 u6 v : Value) (h3 : r 3 = some u3) (h6 : r 6 = some u6) (hB : w6.heap.size ≤ B) (hgb : (Value.slice D out.length c).ownBlock ≠ some gb) (ho : w'.ownsRow B 30 2 v (out.length + 1) (out.flatMap Cv.cells ++ [u3, u6])) (hg : w.grownBy w' (Value.slice D out.length c).ownBlock) : RgW w6 B b5 gb x out D c (Kq.upd r 9 v) w' := by
  have h10 := h.n10 hr
  have hrow := h.row hr
  have k : Kp (fun b => (Value.slice D out.length c).ownBlock = some b) w w' := Kp.grown hg fun _ e _ => e
  have hint : ∀ (b : Nat) (cs : Array Value), w.heap[b]? = some (.cells cs 3 (0, 0)) → ¬ (Value.slice D out.length c).ownBlock = some b := fun b cs hb e => by
    obtain ⟨cs2, hc⟩ := row_cells hrow e
    rw [hb] at hc
    injection hc with hc
    injection hc with _ h2
    exact absurd h2 (by decide)
  refine { kp := h.kp.trans k fun b hb e => ?_, el := fun y hy => (h.el y hy).kp k hint, bx := k.heap h.bx hgb, ex := h.ex.kp k hint, row := fun h9 => ?_, c3 := fun u hu => ?_, c6 := fun u hu => ?_, c7 := fun u hu => ?_, c8 := fun u hu => ?_, c9 := fun u hu => ?_, c10 := fun u hu => ?_ }
  · have := (own_ge hrow e).1
    omega
  · rw [upd_same] at h9
    cases h9
  · obtain ⟨A, d, e, o⟩ := h.c3 u (by rwa [upd_ne _ _ (by decide)] at hu)
    exact ⟨A, d, e, o.kp k hint⟩
  · obtain ⟨A, d, e, o⟩ := h.c6 u (by rwa [upd_ne _ _ (by decide)] at hu)
    exact ⟨A, d, e, o.kp k hint⟩
  · rw [upd_ne _ _ (by decide), upd_ne _ _ (by decide)]
    exact h.c7 u (by rwa [upd_ne _ _ (by decide)] at hu)
  · refine ⟨by rw [upd_ne _ _ (by decide)]; exact (h.c8 u (by rwa [upd_ne _ _ (by decide)] at hu)).1, fun h9 => ?_⟩
    rw [upd_same] at h9
    cases h9
  · rw [upd_same] at hu
    cases hu
    exact ⟨by rw [upd_ne _ _ (by decide)]; exact h8, by rw [upd_ne _ _ (by decide)]; exact h0, u3, u6, by rw [upd_ne _ _ (by decide)]; exact h3, by rw [upd_ne _ _ (by decide)]; exact h6, ho⟩
  · rw [upd_ne _ _ (by decide), h10] at hu
    cases hu
theorem RgW.put10 (h : RgW w6 B b5 gb x out D c r w) (v : Value) (h9 : r 9 = some v) : RgW w6 B b5 gb x out D c (Kq.upd r 10 v) w := by
  refine { kp := h.kp, el := h.el, bx := h.bx, ex := h.ex, row := fun h9 => h.row (by rwa [upd_ne _ _ (by decide)] at h9), c3 := fun u hu => h.c3 u (by rwa [upd_ne _ _ (by decide)] at hu), c6 := fun u hu => h.c6 u (by rwa [upd_ne _ _ (by decide)] at hu), c7 := fun u hu => ?_, c8 := fun u hu => ?_, c9 := fun u hu => ?_, c10 := fun u hu => ?_ }
  · rw [upd_ne _ _ (by decide), upd_ne _ _ (by decide)]
    exact h.c7 u (by rwa [upd_ne _ _ (by decide)] at hu)
  · rw [upd_ne _ _ (by decide), upd_ne _ _ (by decide), upd_ne _ _ (by decide), upd_ne _ _ (by decide)]
    exact h.c8 u (by rwa [upd_ne _ _ (by decide)] at hu)
  · rw [upd_ne _ _ (by decide), upd_ne _ _ (by decide), upd_ne _ _ (by decide), upd_ne _ _ (by decide)]
    exact h.c9 u (by rwa [upd_ne _ _ (by decide)] at hu)
  · rw [upd_same] at hu
    cases hu
    rw [upd_ne _ _ (by decide)]
    exact h9
end
end Go.Proofs.Ytpkbpeeelpgmcaa

namespace Go.Proofs.Ytpkbpeeelpgmcaa
open Go.RowKit Go.Kq Go.Flow

def FarR (w : World) (e : Ending) (w' : World) : Prop := ∃ b, e = .returned (.bool b) ∧ Kp No w w'
set_option maxHeartbeats 8000000 in
set_option maxRecDepth 100000 in
theorem far_any (Z : Nz) (l : List Sto) (vs : List Sv) (A B C : Option Addr) (ca cb n cc : Nat) (w : World) (hS : RdSt w C n vs l) :
    Calls Try.prog 5 #[windV Z A B C ca cb n cc] w fun e w' => FarR w e w' := by
  unfold windV
  generalize Z.n = zn
  generalize Z.tr.length = zt
  generalize Z.ch.length = zc
  obtain ⟨w0, hw0⟩ : ∃ w0, (w.alloc (.cells #[.int .i64 zn, .slice A zt ca, .slice B zc cb, .slice C n cc] 28)) = w0 := ⟨_, rfl⟩
  have hk0 : Kp No w w0 := by rw [← hw0]; exact Kp.alloc _ _ _
  have HBX := Lib.hid (show w0.heap[w.heap.size]? = some (.cells #[.int .i64 zn, .slice A zt ca, .slice B zc cb, .slice C n cc] 28 (0, 0)) by rw [← hw0]; exact heap_alloc_new w _)
  have HK := Lib.hid hk0
  have HS := Lib.hid (hS.no hk0)
  have HL := Lib.hid hS.len
  clear hk0 hS
  obtain ⟨p0, p1, p2, p3⟩ := four_at HBX.out
  go_enter Try.func5, Try.ntmps5
  by_cases h1 : 100 < zt
  · go_wp2_with fail
    go_ret
    exact ⟨true, rfl, by first | exact HK.out | exact Kp.alloc _ _ _⟩
  by_cases h2 : 100 < zc
  · go_wp2_with fail
    go_ret
    exact ⟨true, rfl, by first | exact HK.out | exact Kp.alloc _ _ _⟩
  by_cases h3 : 20 < n
  · go_wp2_with fail
    go_ret
    exact ⟨true, rfl, by first | exact HK.out | exact Kp.alloc _ _ _⟩
  by_cases h4 : 7 < zn ∧ zn ≤ 24
  · obtain ⟨h4, h4'⟩ := h4
    go_wp2_with fail
    go_ret
    exact ⟨true, rfl, by first | exact HK.out | exact Kp.alloc _ _ _⟩
  by_cases h5 : 20 < zt ∧ zt ≤ 60
  · obtain ⟨h5, h5'⟩ := h5
    by_cases h6 : 7 < zn
    · have h6' : ¬ zn ≤ 24 := fun h => h4 ⟨h6, h⟩
      clear h4
      go_wp2_with fail
      go_ret
      exact ⟨true, rfl, by first | exact HK.out | exact Kp.alloc _ _ _⟩
    · clear h4
      go_wp2_with fail
      go_ret
      exact ⟨true, rfl, by first | exact HK.out | exact Kp.alloc _ _ _⟩
  have key : (¬ 7 < zn ∨ (7 < zn ∧ ¬ zn ≤ 24)) ∧ (¬ 20 < zt ∨ (20 < zt ∧ ¬ zt ≤ 60)) := by omega
  clear h4 h5
  obtain ⟨k1, k2⟩ := key
  rcases k1 with k1 | ⟨k1, k1'⟩ <;> rcases k2 with k2 | ⟨k2, k2'⟩
  all_goals
    go_wp2_with fail
    go_loopw [3] (fun i wr => ∃ k : Nat, k ≤ n ∧ i = .int .i64 (k : Nat) ∧ Kp No w0 wr) (fun i _ => n - (intOf i).toNat)
    case atStart => exact ⟨0, by omega, rfl, Kp.refl _ _⟩
    case round =>
      obtain ⟨k, hk, rfl, hkp⟩ := hrel
      have HKP := Lib.hid hkp
      have BW := Lib.hid (hkp.heap HBX.out id)
      clear p0 p1 p2 p3
      obtain ⟨p0, p1, p2, p3⟩ := four_at BW.out
      by_cases hlt : k < n
      · obtain ⟨s, hs⟩ : ∃ s, l[k]? = some s := ⟨_, List.getElem?_eq_getElem (by rw [HL.out]; exact hlt)⟩
        obtain ⟨v, bC, oC, hv, rfl, hbC, y0, y1, is⟩ := (HS.out.no hkp).at_ hs
        obtain ⟨vch, TA, m, tc⟩ := v
        dsimp only at y0 y1
        clear hs hv is hkp
        by_cases hm : 20 < m
        · go_wp2_with fail
          go_ret
          exact ⟨true, rfl, HK.out.tr HKP.out⟩
        · go_wp2_with fail
          go_roundw
          case rel => exact ⟨k + 1, by omega, by go_num, HKP.out⟩
          case measure => simp [intOf]; omega
      · obtain rfl : k = n := by omega
        clear hkp
        go_wp2_with fail
        go_ret
        exact ⟨false, rfl, HK.out.tr HKP.out⟩
end Go.Proofs.Ytpkbpeeelpgmcaa

namespace Go.Proofs.Ytpkbpeeelpgmcaa
open Go.RowKit Go.Kq Go.Flow

/-- All of ys in xs. -/
def allB (xs ys : List Int) : Bool := ys.all fun y => decide (y ∈ xs)
theorem any_mem_take (xs : List Int) (y : Int) (k : Nat) (x : Int) (hx : xs[k]? = some x) : decide (y ∈ xs.take (k + 1)) = (decide (y ∈ xs.take k) || (x == y)) := by
  rw [List.take_add_one, hx, Bool.eq_iff_iff]
  simp only [Option.toList, List.mem_append, List.mem_singleton, Bool.or_eq_true, decide_eq_true_eq, beq_iff_eq]
  constructor
  · rintro (h | h)
    · exact .inl h
    · exact .inr h.symm
  · rintro (h | h)
    · exact .inl h
    · exact .inr h.symm
set_option maxHeartbeats 8000000 in
set_option maxRecDepth 100000 in
theorem all_any (A B : Option Addr) (n c m d : Nat) (xs ys : List Int) (w : World) (hR : RdI .i64 w A n xs) (hS : RdI .i64 w B m ys) (hn : n ≤ 1000000) (hm : m ≤ 1000000) :
    Calls Try.prog 16 #[.slice A n c, .slice B m d] w fun e w' => e = .returned (.bool (allB xs ys)) ∧ Kp No w w' := by
  have HR := Lib.hid hR
  have HS := Lib.hid hS
  have HL := Lib.hid hR.1
  have HL2 := Lib.hid hS.1
  clear hR hS
  go_enter Try.func16, Try.ntmps16
  go_wp2_with fail
  go_loopw [5] (fun i wr => ∃ k : Nat, k ≤ m ∧ i = .int .i64 (k : Nat) ∧ (ys.take k).all (fun y => decide (y ∈ xs)) = true ∧ Kp No w wr) (fun i _ => m - (intOf i).toNat)
  case atStart => exact ⟨0, by omega, rfl, rfl, Kp.refl _ _⟩
  case round =>
    obtain ⟨k, hk, rfl, hno, hkp⟩ := hrel
    have HN := Lib.hid hno
    have HK := Lib.hid hkp
    clear hno hkp
    by_cases hlt : k < m
    · obtain ⟨y, hy⟩ : ∃ y, ys[k]? = some y := ⟨_, List.getElem?_eq_getElem (by rw [HL2.out]; exact hlt)⟩
      have HT := Lib.hid (all_take_one (fun y => decide (y ∈ xs)) ys k y hy)
      have HY := Lib.hid hy
      have HM := Lib.hid (List.mem_of_getElem? hy)
      clear hy
      obtain ⟨wo, rfl⟩ : ∃ wo, wo = wr := ⟨_, rfl⟩
      go_wp2_with fail
      go_loopw [6, 7] (fun s i wr => ∃ j : Nat, j ≤ n ∧ i = .int .i64 (j : Nat) ∧ s = .bool (decide (y ∈ xs.take j)) ∧ Kp No wo wr) (fun _ i _ => n - (intOf i).toNat)
      case atStart => exact ⟨0, by omega, rfl, by simp, Kp.refl _ _⟩
      case round =>
        obtain ⟨j, hj, rfl, rfl, hkj⟩ := hrel
        have HKJ := Lib.hid hkj
        have HKK := Lib.hid (HK.out.tr hkj)
        clear hkj
        by_cases hlj : j < n
        · obtain ⟨x, hx⟩ : ∃ y, xs[j]? = some y := ⟨_, List.getElem?_eq_getElem (by rw [HL.out]; exact hlj)⟩
          obtain ⟨b, o, rfl, hb, hc⟩ := (HR.out.no HKK.out).2 j _ hx
          obtain ⟨b2, o2, rfl, hb2, hc2⟩ := (HS.out.no HKK.out).2 k _ HY.out
          have HA := Lib.hid (any_mem_take xs y j x hx)
          clear hx
          cases hq : decide (y ∈ xs.take j) with
          | true =>
            rw [hq] at HA
            clear hq
            go_wp2_with fail
            go_quiet (fail)
            go_wp2_with fail
            go_roundw
            case rel => exact ⟨j + 1, by omega, by go_num, by rw [HA.out]; simp, HKJ.out.tr (Kp.drewN _ _ _)⟩
            case measure => simp [intOf]; omega
          | false =>
            rw [hq] at HA
            clear hq
            cases hxy : (x == y) with
            | true =>
              rw [hxy] at HA
              go_wp2_with fail
              go_quiet (fail)
              go_wp2_with fail
              go_roundw
              case rel => exact ⟨j + 1, by omega, by go_num, by rw [HA.out]; simp, HKJ.out.tr (Kp.drewN _ _ _)⟩
              case measure => simp [intOf]; omega
            | false =>
              rw [hxy] at HA
              go_wp2_with fail
              go_quiet (fail)
              go_wp2_with fail
              go_roundw
              case rel => exact ⟨j + 1, by omega, by go_num, by rw [HA.out]; simp, HKJ.out.tr (Kp.drewN _ _ _)⟩
              case measure => simp [intOf]; omega
        · obtain rfl : j = n := by omega
          have hte : xs.take j = xs := List.take_of_length_le (by rw [HL.out]; exact Nat.le_refl _)
          rw [hte]
          clear hte
          cases hq : decide (y ∈ xs) with
          | true =>
            rw [hq] at HT
            clear hq
            go_wp2_with fail
            go_roundw
            case rel => exact ⟨k + 1, by omega, by go_num, by rw [HT.out, HN.out]; rfl, HKK.out⟩
            case measure => simp [intOf]; omega
          | false =>
            have HE := Lib.hid (show allB xs ys = false by
              unfold allB
              rw [← Bool.not_eq_true, List.all_eq_true]
              exact fun h => by have := h y HM.out; rw [hq] at this; cases this)
            clear hq
            go_wp2_with fail
            go_ret
            exact ⟨by rw [HE.out]; rfl, HKK.out⟩
    · obtain rfl : k = m := by omega
      have HE := Lib.hid (show allB xs ys = true by
        have h := HN.out
        rwa [List.take_of_length_le (by rw [HL2.out]; exact Nat.le_refl _)] at h)
      go_wp2_with fail
      go_ret
      exact ⟨by rw [HE.out]; rfl, HK.out⟩
end Go.Proofs.Ytpkbpeeelpgmcaa

namespace Go.Proofs.Ytpkbpeeelpgmcaa
open Go.Flow

theorem safN_mono' {K : Nat} {p q : List Nat → Bool} (h : ∀ s, p (numB s K) = true → q (numB s K) = true) : safN K q ≤ safN K p := by
  rcases safF_is (K := K) (p := p) (2 ^ K) with h1 | ⟨s, h1, h2, h3⟩
  · have := safF_le (K := K) (p := q) (2 ^ K)
    unfold safN
    omega
  · have := safF_lt (K := K) (p := q) (2 ^ K) s h1 (h _ h2)
    unfold safN
    omega
/-- The stops below k that are kk or among ss. -/
def moreT (ss : List Nat) (kk : Int) (k : Nat) : List Nat := (List.range k).filter fun i => decide ((i : Int) = kk) || decide (i ∈ ss)
theorem moreT_succ (ss : List Nat) (kk : Int) (k : Nat) : moreT ss kk (k + 1) = moreT ss kk k ++ if decide ((k : Int) = kk) || decide (k ∈ ss) then [k] else [] := by
  unfold moreT
  rw [List.range_succ, List.filter_append]
  simp [List.filter_cons]
theorem moreT_up (ss : List Nat) (kk : Int) (k : Nat) : (moreT ss kk k).Pairwise (· < ·) := List.Pairwise.filter _ List.pairwise_lt_range
theorem moreT_lt {ss : List Nat} {kk : Int} {k x : Nat} (h : x ∈ moreT ss kk k) : x < k := List.mem_range.1 (List.mem_filter.1 h).1
theorem moreT_in {ss : List Nat} {kk : Int} {k x : Nat} (hk : x < k) (h : x ∈ ss) : x ∈ moreT ss kk k := List.mem_filter.2 ⟨List.mem_range.2 hk, by simp [h]⟩
theorem moreT_len (ss : List Nat) (kk : Int) (k : Nat) : (moreT ss kk k).length ≤ k := by
  unfold moreT
  have := List.length_filter_le (fun i : Nat => decide ((i : Int) = kk) || decide (i ∈ ss)) (List.range k)
  rw [List.length_range] at this
  exact this
theorem star_more {N : Net} {l : List Sto} (hok : StoOk N.ch.length l) {ss st ks : List Nat} (h1 : ss.Nodup) (h2 : ks.Nodup) (h : ∀ x ∈ ss, x ∈ st) (hs : starB N l ss ks = true) : starB N l st ks = true := by
  rw [starB_iff] at *
  exact hs.mono (dmd_len _ _ _ _) (dmd_len _ _ _ _) fun c => dmd_mono hok h1 h2 h (fun _ h => h) c
end Go.Proofs.Ytpkbpeeelpgmcaa
