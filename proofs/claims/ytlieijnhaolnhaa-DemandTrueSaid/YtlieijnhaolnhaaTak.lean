/- Chapter 13: what a toe takes: the walk. -/
import Derived.Test.YtlieijnhaolnhaaTkP
import Derived.Test.YtlieijnhaolnhaaSpm
import Derived.Test.YtlieijnhaolnhaaSpt
import Derived.Test.YtlieijnhaolnhaaSpl
namespace Go.Proofs.Ytlieijnhaolnhaa
open Go.RowKit Go.Kq

theorem ck_one {lo hi : Int} (h1 : -4611686018427387904 ≤ lo) (h2 : lo ≤ hi) (h3 : hi ≤ 4611686018427387904) : ckE [(lo, hi)] = 0 := by
  unfold ckE
  rw [if_pos (by intro x hx; simp at hx; subst hx; exact ⟨fits_of (by omega) (by omega), fits_of (by omega) (by omega)⟩), if_pos (by intro x hx; simp at hx; subst hx; simpa using h2)]
theorem ck_two {a b c d : Int} (h1 : ckE [(a, b)] = 0) (h2 : ckE [(c, d)] = 0) : ckE [(a, b), (c, d)] = 0 := by
  have f1 := ck_fits h1 (a, b) (by simp)
  have f2 := ck_fits h2 (c, d) (by simp)
  have l1 := ck_le h1 (a, b) (by simp)
  have l2 := ck_le h2 (c, d) (by simp)
  unfold ckE
  rw [if_pos (by intro x hx; simp at hx; rcases hx with rfl | rfl <;> first | exact f1 | exact f2), if_pos (by intro x hx; simp at hx; rcases hx with rfl | rfl <;> first | exact l1 | exact l2)]
theorem set2 {w : World} {B : Nat} {a b : Value} {t : TypeId} (x y : Value) (h : w.heap[B]? = some (.cells #[a, b] t (0, 0))) : ((w.setCell ⟨B, 0, none⟩ x).setCell ⟨B, 1, none⟩ y).heap[B]? = some (.cells #[x, y] t (0, 0)) := by
  simp [World.setCell, Array.getElem?_modify, h]
theorem kp_two (w : World) (g : Nat) (x y : Value) : Kp (Kq.One g) w ((w.setCell ⟨g, 0, none⟩ x).setCell ⟨g, 1, none⟩ y) := (Kp.setCell (Kq.One g) w ⟨g, 0, none⟩ x (fun _ => rfl)).tr (Kp.setCell (Kq.One g) _ ⟨g, 1, none⟩ y (fun _ => rfl))
theorem set2_ne {w : World} {B : Nat} {x y : Value} {k : Nat} {o : Obj} (h : w.heap[k]? = some o) (hne : k ≠ B) : ((w.setCell ⟨B, 0, none⟩ x).setCell ⟨B, 1, none⟩ y).heap[k]? = some o := by
  have : B ≠ k := fun e => hne e.symm
  simp [World.setCell, Array.getElem?_modify, this, h]
set_option maxHeartbeats 4000000 in
set_option maxRecDepth 100000 in
theorem takes_any (b f p : Int) (w : World) (hb : 100 ≤ b ∧ b ≤ 100000) (hf : 100 ≤ f ∧ f ≤ 1000) (hp : 10 ≤ p ∧ p ≤ 5000) :
    Calls Try.prog 17 #[.agg #[.int .i64 b, .int .i64 f], .int .i64 p] w fun e w' => e = .returned (ivV (tlo b f p) (thi b f p)) ∧ Kp No w w' := by
  have hpl := plo_bd (p := p) (by omega) (by omega)
  have hpr := prod_bd (b := b) (p := p) (by omega) (by omega) (by omega) (by omega)
  have hd := dhi_le (b := b) (by omega) (by omega)
  have hd1 := dlo_nn (a := b) (by omega)
  have hd2 := dlo_dhi (a := b) (by omega)
  have hv := vhi_le (p := p) (by omega) (by omega)
  have hv1 := vlo_nn p
  have hv2 := (vlo_vhi (p := p) (by omega)).1
  have c3 : ((3 : Nat) : Int) = 3 := rfl
  have c12 : ((1000000000000 : Nat) : Int) = 1000000000000 := rfl
  have S1 := fun w0 => scale_ok p p 5000000000000 3 w0 (ck_one (by omega) (by omega) (by omega)) (by omega) (fits_of (by omega) (by omega)) (fits_of (by omega) (by omega))
  rw [c3, span_p (by omega) (by omega)] at S1
  have S2 := fun w0 => Root_ok (plo p).toNat (phi p).toNat w0 (by omega) (by omega)
  rw [← vlo_eq, ← vhi_eq, Int.toNat_of_nonneg (by omega), Int.toNat_of_nonneg (by omega)] at S2
  have S3 := fun w0 => Disc_ok b.toNat b.toNat w0 (by omega) (by omega)
  rw [Int.toNat_of_nonneg (by omega)] at S3
  have S4 := fun w0 => mul_ok (dlo b) (dhi b) (vlo p) (vhi p) w0 (ck_two (ck_one (by omega) hd2 (by omega)) (ck_one (by omega) hv2 (by omega)))
  rw [span_m (by omega) (by omega) (by omega) (by omega)] at S4
  have S5 := fun w0 => scale_ok (dlo b * vlo p) (dhi b * vhi p) f 1000000000000 w0 (ck_one (by omega) (by omega) (by omega)) (by omega) (fits_of (by omega) (by omega)) (fits_of (by omega) (by omega))
  rw [c12, span_t (by omega) (by omega) (by omega) (by omega) (by omega) (by omega)] at S5
  clear hpl hpr hd hd1 hd2 hv hv1 hv2 c3 c12 hb hf hp
  generalize dlo b * vlo p = m1 at *
  generalize dhi b * vhi p = m2 at *
  generalize tlo b f p = t1 at *
  generalize thi b f p = t2 at *
  generalize dlo b = d1 at *
  generalize dhi b = d2 at *
  generalize vlo p = v1 at *
  generalize vhi p = v2 at *
  generalize plo p = p1 at *
  generalize phi p = p2 at *
  simp only [ieV, ivV] at S1 S2 S3 S4 S5 ⊢
  have S1 := Lib.hid S1
  have S2 := Lib.hid S2
  have S3 := Lib.hid S3
  have S4 := Lib.hid S4
  have S5 := Lib.hid S5
  go_enter Try.func17, Try.ntmps17
  go_wp2_with fail
  with_reducible refine (S1.out _).mono ?_
  rintro e w2 ⟨rfl, k2⟩
  have A0 := k2.heap ((Kp.alloc No _ _).heap (at_new (n := w.heap.size) rfl) id) id
  have A1 := k2.heap (at_new (n := w.heap.size + 1) (by simp)) id
  have z2 : w.heap.size + 1 < w2.heap.size := by have := k2.size; simp at this; omega
  have KP := Lib.hid (((Kp.alloc No w _).tr (Kp.alloc No _ _)).tr k2)
  have A0 := Lib.hid A0
  have A1 := Lib.hid A1
  clear k2
  go_wp2_with fail
  with_reducible refine (S2.out _).mono ?_
  rintro e w3 ⟨rfl, k3⟩
  have A5 := k3.heap (at_new (n := w2.heap.size) rfl) id
  have KP3 := KP.out.tr ((Kp.alloc No _ _).tr k3)
  have A0 := A0.out
  have A1 := A1.out
  have A0 := k3.heap ((Kp.alloc No _ _).heap A0 id) id
  have A1 := k3.heap ((Kp.alloc No _ _).heap A1 id) id
  obtain ⟨c0, c1, z0, z1⟩ := two_cells A5
  obtain ⟨x0, x1, _, _⟩ := two_cells A0
  have A5 := Lib.hid A5
  have A0 := Lib.hid A0
  have A1 := Lib.hid A1
  have KP3 := Lib.hid KP3
  clear k3 KP
  go_wp2_with fail
  have B5 := set2 (.int .i64 v1) (.int .i64 v2) A5.out
  have B0 := set2_ne (B := w2.heap.size) (x := .int .i64 v1) (y := .int .i64 v2) A0.out (by omega)
  have B1 := set2_ne (B := w2.heap.size) (x := .int .i64 v1) (y := .int .i64 v2) A1.out (by omega)
  have KB := kp_set2 (x := .int .i64 v1) (y := .int .i64 v2) KP3.out (show w.heap.size ≤ w2.heap.size by omega)
  have zb : w2.heap.size < ((w3.setCell ⟨w2.heap.size, 0, none⟩ (.int .i64 v1)).setCell ⟨w2.heap.size, 1, none⟩ (.int .i64 v2)).heap.size := (Array.getElem?_eq_some_iff.1 B5).1
  generalize (w3.setCell ⟨w2.heap.size, 0, none⟩ (.int .i64 v1)).setCell ⟨w2.heap.size, 1, none⟩ (.int .i64 v2) = w4 at *
  have B5 := Lib.hid B5
  have B0 := Lib.hid B0
  have B1 := Lib.hid B1
  have KB := Lib.hid KB
  clear A0 A1 A5 c0 c1 z0 z1 KP3 x0 x1
  with_reducible refine (S3.out _).mono ?_
  rintro e w5 ⟨rfl, k5⟩
  have D5 := k5.heap B5.out id
  have D0 := k5.heap B0.out id
  have D1 := k5.heap B1.out id
  have KD := KB.out.tr k5
  have z5 : w2.heap.size < w5.heap.size := (Array.getElem?_eq_some_iff.1 D5).1
  obtain ⟨y0, y1, _, _⟩ := two_cells D5
  have D5 := Lib.hid D5
  have D0 := Lib.hid D0
  have D1 := Lib.hid D1
  have KD := Lib.hid KD
  clear B5 B0 B1 KB k5
  go_wp2_with fail
  with_reducible refine (S4.out _).mono ?_
  rintro e w6 ⟨rfl, k6⟩
  have E7 := k6.heap (at_new (n := w5.heap.size) rfl) id
  have E0 := k6.heap ((Kp.alloc No _ _).heap D0.out id) id
  have E1 := k6.heap ((Kp.alloc No _ _).heap D1.out id) id
  have KE := KD.out.tr ((Kp.alloc No _ _).tr k6)
  have zz : w.heap.size + 1 < w5.heap.size := by omega
  obtain ⟨q0, q1, q2, q3⟩ := two_cells E7
  obtain ⟨x0, x1, _, _⟩ := two_cells E0
  have E7 := Lib.hid E7
  have E0 := Lib.hid E0
  have E1 := Lib.hid E1
  have KE := Lib.hid KE
  clear D5 D0 D1 KD k6 y0 y1
  go_wp2_with fail
  have F7 := set2 (.int .i64 m1) (.int .i64 m2) E7.out
  have F0 := set2_ne (B := w5.heap.size) (x := .int .i64 m1) (y := .int .i64 m2) E0.out (by omega)
  have F1 := set2_ne (B := w5.heap.size) (x := .int .i64 m1) (y := .int .i64 m2) E1.out (by omega)
  have KF := kp_set2 (x := .int .i64 m1) (y := .int .i64 m2) KE.out (show w.heap.size ≤ w5.heap.size by omega)
  generalize (w6.setCell ⟨w5.heap.size, 0, none⟩ (.int .i64 m1)).setCell ⟨w5.heap.size, 1, none⟩ (.int .i64 m2) = w7 at *
  have F7 := Lib.hid F7
  have F0 := Lib.hid F0
  have F1 := Lib.hid F1
  have KF := Lib.hid KF
  clear E7 E0 E1 KE q0 q1 q2 q3 x0 x1
  with_reducible refine (S5.out _).mono ?_
  rintro e w8 ⟨rfl, k8⟩
  have G7 := k8.heap F7.out id
  have G1 := k8.heap F1.out id
  have KG := KF.out.tr k8
  obtain ⟨y0, y1, y2, y3⟩ := two_cells G7
  obtain ⟨r0, r1, r2, r3⟩ := two_cells G1
  have KG := Lib.hid KG
  clear F7 F0 F1 KF k8 G7 G1
  go_wp2_with fail
  exact bodyPost_ret (v := .agg #[.int .i64 t1, .int .i64 t2]) (by simp [results, Try.results17, go_sem, r0, r1]) rfl ⟨rfl, kp_set2 (kp_set2 KG.out (by omega)) (by omega)⟩
end Go.Proofs.Ytlieijnhaolnhaa
