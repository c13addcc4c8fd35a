/- Chapter 13: what a toe takes: the walk. · Chapter 13: toes, pressures, Pipe: walks. · Chapter 13: Check: the walk. -/
import Derived.Test.YtlieijnhaolnhaaGreatXTkPM
import Derived.Test.YtlieijnhaolnhaaGreatXSpm
import Derived.Test.YtlieijnhaolnhaaGreatXSplM
import Derived.Test.YtlieijnhaolnhaaGreatXCf
namespace Go.Proofs.YtlieijnhaolnhaaGreat
open Go.RowKit Go.Kq

theorem ck_one {lo hi : Int} (h1 : -4611686018427387904 ≤ lo) (h2 : lo ≤ hi) (h3 : hi ≤ 4611686018427387904) : ckE [(lo, hi)] = 0 := by
  unfold ckE
  rw [if_pos (by intro x hx; simp at hx; subst hx; exact ⟨fits_of (by omega) (by omega), fits_of (by omega) (by omega)⟩), if_pos (by intro x hx; simp at hx; subst hx; simpa using h2)]
theorem ck_two {a b c d : Int} (h1 : ckE [(a, b)] = 0) (h2 : ckE [(c, d)] = 0) : ckE [(a, b), (c, d)] = 0 := by
  have f1 := ck_fits h1 (a, b) (by simp)
  have f2 := ck_fits h2 (c, d) (by simp)
  have l1 := ck_le h1 (a, b) (by simp)
  have l2 := ck_le h2 (c, d) (by simp)
  unfold ckE
  rw [if_pos (by intro x hx; simp at hx; rcases hx with rfl | rfl <;> first | exact f1 | exact f2), if_pos (by intro x hx; simp at hx; rcases hx with rfl | rfl <;> first | exact l1 | exact l2)]
theorem set2 {w : World} {B : Nat} {a b : Value} {t : TypeId} (x y : Value) (h : w.heap[B]? = some (.cells #[a, b] t (0, 0))) : ((w.setCell ⟨B, 0, none⟩ x).setCell ⟨B, 1, none⟩ y).heap[B]? = some (.cells #[x, y] t (0, 0)) := by
  simp [World.setCell, Array.getElem?_modify, h]
theorem kp_two (w : World) (g : Nat) (x y : Value) : Kp (Kq.One g) w ((w.setCell ⟨g, 0, none⟩ x).setCell ⟨g, 1, none⟩ y) := (Kp.setCell (Kq.One g) w ⟨g, 0, none⟩ x (fun _ => rfl)).tr (Kp.setCell (Kq.One g) _ ⟨g, 1, none⟩ y (fun _ => rfl))
theorem set2_ne {w : World} {B : Nat} {x y : Value} {k : Nat} {o : Obj} (h : w.heap[k]? = some o) (hne : k ≠ B) : ((w.setCell ⟨B, 0, none⟩ x).setCell ⟨B, 1, none⟩ y).heap[k]? = some o := by
  have : B ≠ k := fun e => hne e.symm
  simp [World.setCell, Array.getElem?_modify, this, h]
set_option maxHeartbeats 4000000 in
set_option maxRecDepth 100000 in
theorem takes_any (b f p : Int) (w : World) (hb : 100 ≤ b ∧ b ≤ 100000) (hf : 100 ≤ f ∧ f ≤ 1000) (hp : 10 ≤ p ∧ p ≤ 5000) :
    Calls Tryz.prog 27 #[.agg #[.int .i64 b, .int .i64 f], .int .i64 p] w fun e w' => e = .returned (ivV (tlo b f p) (thi b f p)) ∧ Kp No w w' := by
  have hpl := plo_bd (p := p) (by omega) (by omega)
  have hpr := prod_bd (b := b) (p := p) (by omega) (by omega) (by omega) (by omega)
  have hd := dhi_le (b := b) (by omega) (by omega)
  have hd1 := dlo_nn (a := b) (by omega)
  have hd2 := dlo_dhi (a := b) (by omega)
  have hv := vhi_le (p := p) (by omega) (by omega)
  have hv1 := vlo_nn p
  have hv2 := (vlo_vhi (p := p) (by omega)).1
  have c3 : ((3 : Nat) : Int) = 3 := rfl
  have c12 : ((1000000000000 : Nat) : Int) = 1000000000000 := rfl
  have S1 := fun w0 => scale_ok p p 5000000000000 3 w0 (ck_one (by omega) (by omega) (by omega)) (by omega) (fits_of (by omega) (by omega)) (fits_of (by omega) (by omega))
  rw [c3, span_p (by omega) (by omega)] at S1
  have S2 := fun w0 => Root_ok (plo p).toNat (phi p).toNat w0 (by omega) (by omega)
  rw [← vlo_eq, ← vhi_eq, Int.toNat_of_nonneg (by omega), Int.toNat_of_nonneg (by omega)] at S2
  have S3 := fun w0 => Disc_ok b.toNat b.toNat w0 (by omega) (by omega)
  rw [Int.toNat_of_nonneg (by omega)] at S3
  have S4 := fun w0 => mul_ok (dlo b) (dhi b) (vlo p) (vhi p) w0 (ck_two (ck_one (by omega) hd2 (by omega)) (ck_one (by omega) hv2 (by omega)))
  rw [span_m (by omega) (by omega) (by omega) (by omega)] at S4
  have S5 := fun w0 => scale_ok (dlo b * vlo p) (dhi b * vhi p) f 1000000000000 w0 (ck_one (by omega) (by omega) (by omega)) (by omega) (fits_of (by omega) (by omega)) (fits_of (by omega) (by omega))
  rw [c12, span_t (by omega) (by omega) (by omega) (by omega) (by omega) (by omega)] at S5
  clear hpl hpr hd hd1 hd2 hv hv1 hv2 c3 c12 hb hf hp
  generalize dlo b * vlo p = m1 at *
  generalize dhi b * vhi p = m2 at *
  generalize tlo b f p = t1 at *
  generalize thi b f p = t2 at *
  generalize dlo b = d1 at *
  generalize dhi b = d2 at *
  generalize vlo p = v1 at *
  generalize vhi p = v2 at *
  generalize plo p = p1 at *
  generalize phi p = p2 at *
  simp only [ieV, ivV] at S1 S2 S3 S4 S5 ⊢
  have S1 := Lib.hid S1
  have S2 := Lib.hid S2
  have S3 := Lib.hid S3
  have S4 := Lib.hid S4
  have S5 := Lib.hid S5
  go_enter Tryz.func27, Tryz.ntmps27
  go_wp2_with fail
  with_reducible refine (S1.out _).mono ?_
  rintro e w2 ⟨rfl, k2⟩
  have A0 := k2.heap ((Kp.alloc No _ _).heap (at_new (n := w.heap.size) rfl) id) id
  have A1 := k2.heap (at_new (n := w.heap.size + 1) (by simp)) id
  have z2 : w.heap.size + 1 < w2.heap.size := by have := k2.size; simp at this; omega
  have KP := Lib.hid (((Kp.alloc No w _).tr (Kp.alloc No _ _)).tr k2)
  have A0 := Lib.hid A0
  have A1 := Lib.hid A1
  clear k2
  go_wp2_with fail
  with_reducible refine (S2.out _).mono ?_
  rintro e w3 ⟨rfl, k3⟩
  have A5 := k3.heap (at_new (n := w2.heap.size) rfl) id
  have KP3 := KP.out.tr ((Kp.alloc No _ _).tr k3)
  have A0 := A0.out
  have A1 := A1.out
  have A0 := k3.heap ((Kp.alloc No _ _).heap A0 id) id
  have A1 := k3.heap ((Kp.alloc No _ _).heap A1 id) id
  obtain ⟨c0, c1, z0, z1⟩ := two_cells A5
  obtain ⟨x0, x1, _, _⟩ := two_cells A0
  have A5 := Lib.hid A5
  have A0 := Lib.hid A0
  have A1 := Lib.hid A1
  have KP3 := Lib.hid KP3
  clear k3 KP
  go_wp2_with fail
  have B5 := set2 (.int .i64 v1) (.int .i64 v2) A5.out
  have B0 := set2_ne (B := w2.heap.size) (x := .int .i64 v1) (y := .int .i64 v2) A0.out (by omega)
  have B1 := set2_ne (B := w2.heap.size) (x := .int .i64 v1) (y := .int .i64 v2) A1.out (by omega)
  have KB := kp_set2 (x := .int .i64 v1) (y := .int .i64 v2) KP3.out (show w.heap.size ≤ w2.heap.size by omega)
  have zb : w2.heap.size < ((w3.setCell ⟨w2.heap.size, 0, none⟩ (.int .i64 v1)).setCell ⟨w2.heap.size, 1, none⟩ (.int .i64 v2)).heap.size := (Array.getElem?_eq_some_iff.1 B5).1
  generalize (w3.setCell ⟨w2.heap.size, 0, none⟩ (.int .i64 v1)).setCell ⟨w2.heap.size, 1, none⟩ (.int .i64 v2) = w4 at *
  have B5 := Lib.hid B5
  have B0 := Lib.hid B0
  have B1 := Lib.hid B1
  have KB := Lib.hid KB
  clear A0 A1 A5 c0 c1 z0 z1 KP3 x0 x1
  with_reducible refine (S3.out _).mono ?_
  rintro e w5 ⟨rfl, k5⟩
  have D5 := k5.heap B5.out id
  have D0 := k5.heap B0.out id
  have D1 := k5.heap B1.out id
  have KD := KB.out.tr k5
  have z5 : w2.heap.size < w5.heap.size := (Array.getElem?_eq_some_iff.1 D5).1
  obtain ⟨y0, y1, _, _⟩ := two_cells D5
  have D5 := Lib.hid D5
  have D0 := Lib.hid D0
  have D1 := Lib.hid D1
  have KD := Lib.hid KD
  clear B5 B0 B1 KB k5
  go_wp2_with fail
  with_reducible refine (S4.out _).mono ?_
  rintro e w6 ⟨rfl, k6⟩
  have E7 := k6.heap (at_new (n := w5.heap.size) rfl) id
  have E0 := k6.heap ((Kp.alloc No _ _).heap D0.out id) id
  have E1 := k6.heap ((Kp.alloc No _ _).heap D1.out id) id
  have KE := KD.out.tr ((Kp.alloc No _ _).tr k6)
  have zz : w.heap.size + 1 < w5.heap.size := by omega
  obtain ⟨q0, q1, q2, q3⟩ := two_cells E7
  obtain ⟨x0, x1, _, _⟩ := two_cells E0
  have E7 := Lib.hid E7
  have E0 := Lib.hid E0
  have E1 := Lib.hid E1
  have KE := Lib.hid KE
  clear D5 D0 D1 KD k6 y0 y1
  go_wp2_with fail
  have F7 := set2 (.int .i64 m1) (.int .i64 m2) E7.out
  have F0 := set2_ne (B := w5.heap.size) (x := .int .i64 m1) (y := .int .i64 m2) E0.out (by omega)
  have F1 := set2_ne (B := w5.heap.size) (x := .int .i64 m1) (y := .int .i64 m2) E1.out (by omega)
  have KF := kp_set2 (x := .int .i64 m1) (y := .int .i64 m2) KE.out (show w.heap.size ≤ w5.heap.size by omega)
  generalize (w6.setCell ⟨w5.heap.size, 0, none⟩ (.int .i64 m1)).setCell ⟨w5.heap.size, 1, none⟩ (.int .i64 m2) = w7 at *
  have F7 := Lib.hid F7
  have F0 := Lib.hid F0
  have F1 := Lib.hid F1
  have KF := Lib.hid KF
  clear E7 E0 E1 KE q0 q1 q2 q3 x0 x1
  with_reducible refine (S5.out _).mono ?_
  rintro e w8 ⟨rfl, k8⟩
  have G7 := k8.heap F7.out id
  have G1 := k8.heap F1.out id
  have KG := KF.out.tr k8
  obtain ⟨y0, y1, y2, y3⟩ := two_cells G7
  obtain ⟨r0, r1, r2, r3⟩ := two_cells G1
  have KG := Lib.hid KG
  clear F7 F0 F1 KF k8 G7 G1
  go_wp2_with fail
  exact bodyPost_ret (v := .agg #[.int .i64 t1, .int .i64 t2]) (by simp [results, Tryz.results27, go_sem, r0, r1]) rfl ⟨rfl, kp_set2 (kp_set2 KG.out (by omega)) (by omega)⟩
end Go.Proofs.YtlieijnhaolnhaaGreat

namespace Go.Proofs.YtlieijnhaolnhaaGreat
open Go.RowKit Go.Kq

def toeV (b f : Int) : Value := .agg #[.int .i64 b, .int .i64 f]
def toeB (b f : Int) : Bool := decide (100 ≤ b) && decide (b ≤ 100000) && decide (100 ≤ f) && decide (f ≤ 1000)
def preB (p : Int) : Bool := decide (10 ≤ p) && decide (p ≤ 5000)
theorem toeB_of {b f : Int} (h : toeB b f = true) : (100 ≤ b ∧ b ≤ 100000) ∧ (100 ≤ f ∧ f ≤ 1000) := by
  unfold toeB at h
  simp at h
  omega
theorem preB_of {p : Int} (h : preB p = true) : 10 ≤ p ∧ p ≤ 5000 := by
  unfold preB at h
  simpa using h
theorem valid_any (b f : Int) (w : World) : Calls Tryz.prog 25 #[toeV b f] w fun e w' => e = .returned (.bool (toeB b f)) ∧ Kp No w w' := by
  simp only [toeV]
  go_enter Tryz.func25, Tryz.ntmps25
  go_wp2
  all_goals
    go_ret
    refine ⟨ret_bool ?_, Kp.alloc _ _ _⟩
    unfold toeB
    simp [*] <;> (intros; omega)
theorem press_any (p : Int) (w : World) : Calls Tryz.prog 26 #[.int .i64 p] w fun e w' => e = .returned (.bool (preB p)) ∧ w = w' := by
  go_enter Tryz.func26, Tryz.ntmps26
  go_wp2
  all_goals
    go_ret
    refine ⟨ret_bool ?_, rfl⟩
    unfold preB
    simp [*] <;> (intros; omega)
/-- What Pipe gives. -/
def pipE (b f p : Int) : IvE := if toeB b f && preB p then (tlo b f p, thi b f p, 0) else (0, 0, 2)
set_option maxHeartbeats 2000000 in
theorem Pipe_any (b f p : Int) (w : World) : Calls Tryz.prog 8 #[toeV b f, .int .i64 p] w fun e w' => e = .returned (ieV (pipE b f p)) ∧ Kp No w w' := by
  unfold pipE
  cases d1 : toeB b f
  · have V1 := Lib.hid (valid_any b f)
    rw [d1] at V1
    simp only [Bool.false_and, Bool.false_eq_true, if_false, ieV, ivV, toeV] at V1 ⊢
    go_enter Tryz.func8, Tryz.ntmps8
    go_wp2_with fail
    refine (V1.out _).mono ?_
    rintro e w2 ⟨rfl, k2⟩
    obtain ⟨r0, r1, z0, z1⟩ := two_cells (k2.heap (at_new (n := w.heap.size + 1) (by simp)) id)
    have KP := (((Kp.alloc No w _).tr (Kp.alloc No _ _)).tr k2)
    clear k2
    go_wp2_with fail
    exact bodyPost_ret (v := .tuple #[.agg #[.int .i64 0, .int .i64 0], .int .i64 2]) (by simp [results, Tryz.results8, go_sem, r0, r1]) rfl ⟨rfl, kp_set2 KP (by omega)⟩
  · cases d2 : preB p
    · have V1 := Lib.hid (valid_any b f)
      have V2 := Lib.hid (press_any p)
      rw [d1] at V1
      rw [d2] at V2
      simp only [Bool.true_and, Bool.false_eq_true, if_false, ieV, ivV, toeV] at V1 ⊢
      go_enter Tryz.func8, Tryz.ntmps8
      go_wp2_with fail
      refine (V1.out _).mono ?_
      rintro e w2 ⟨rfl, k2⟩
      obtain ⟨r0, r1, z0, z1⟩ := two_cells (k2.heap (at_new (n := w.heap.size + 1) (by simp)) id)
      have KP := (((Kp.alloc No w _).tr (Kp.alloc No _ _)).tr k2)
      clear k2
      go_wp2_with fail
      refine (V2.out _).mono ?_
      rintro e w3 ⟨rfl, rfl⟩
      go_wp2_with fail
      exact bodyPost_ret (v := .tuple #[.agg #[.int .i64 0, .int .i64 0], .int .i64 2]) (by simp [results, Tryz.results8, go_sem, r0, r1]) rfl ⟨rfl, kp_set2 KP (by omega)⟩
    · have V1 := Lib.hid (valid_any b f)
      have V2 := Lib.hid (press_any p)
      obtain ⟨t1, t2⟩ := toeB_of d1
      have T := Lib.hid (fun w0 => takes_any b f p w0 t1 t2 (preB_of d2))
      rw [d1] at V1
      rw [d2] at V2
      simp only [Bool.true_and, if_true, ieV, ivV, toeV] at V1 T ⊢
      clear t1 t2
      generalize tlo b f p = x at *
      generalize thi b f p = y at *
      go_enter Tryz.func8, Tryz.ntmps8
      go_wp2_with fail
      refine (V1.out _).mono ?_
      rintro e w2 ⟨rfl, k2⟩
      obtain ⟨r0, r1, z0, z1⟩ := two_cells (k2.heap (at_new (n := w.heap.size + 1) (by simp)) id)
      obtain ⟨b0, b1, _, _⟩ := two_cells (k2.heap ((Kp.alloc No _ _).heap (at_new (n := w.heap.size) rfl) id) id)
      have KP := (((Kp.alloc No w _).tr (Kp.alloc No _ _)).tr k2)
      clear k2
      go_wp2_with fail
      refine (V2.out _).mono ?_
      rintro e w3 ⟨rfl, rfl⟩
      go_wp2_with fail
      refine (T.out _).mono ?_
      rintro e w4 ⟨rfl, k4⟩
      have q0 := k4.cell r0 id
      have q1 := k4.cell r1 id
      have y0 := (k4.frozen (World.block_lt_of_cell? _ _ r0) id).trans z0
      have y1 := (k4.frozen (World.block_lt_of_cell? _ _ r1) id).trans z1
      go_wp2_with fail
      exact bodyPost_ret (v := .tuple #[.agg #[.int .i64 x, .int .i64 y], .int .i64 0]) (by simp [results, Tryz.results8, go_sem, q0, q1]) rfl ⟨rfl, kp_set2 (KP.tr k4) (by omega)⟩
end Go.Proofs.YtlieijnhaolnhaaGreat

namespace Go.Proofs.YtlieijnhaolnhaaGreat
open Go.RowKit Go.Kq

theorem new_at (w : World) (cs : Array Value) (t : TypeId) : ∀ j u, cs.toList[j]? = some u → (w.alloc (.cells cs t)).cell? ((⟨w.heap.size, 0, none⟩ : Addr).add j) = some u := by
  intro j u hj
  rw [add_at, Nat.zero_add, cell_of_row _ _ _ _ _ _ (at_new rfl)]
  simpa using hj
def rowB (x : Rw) : Bool := decide (x.r < 0) || decide (39 < x.r) || decide (x.n < 0) || decide (139 < x.n) || !toeB x.b x.f || decide (x.c < 0) || decide (16 ≤ x.c)
set_option maxHeartbeats 2000000 in
theorem wrong_any (x : Rw) (w : World) : Calls Tryz.prog 45 #[rwV x] w fun e w' => e = .returned (.bool (rowB x)) ∧ Kp No w w' := by
  obtain ⟨r, n, b, f, c⟩ := x
  unfold rowB
  have VA := Lib.hid (valid_any b f)
  simp only [rwV, toeV] at VA ⊢
  cases hd : toeB b f
  all_goals
    rw [hd] at VA
    clear hd
    go_enter Tryz.func45, Tryz.ntmps45
    go_wp2_with (go_at_call 25; refine (VA.out _).mono ?_; rintro e w2 ⟨rfl, k2⟩; have c4 := k2.cell (a := ⟨w.heap.size, 4, none⟩) (v := .int .i64 c) (by go_simp) id; have KK := Lib.hid ((Kp.alloc No w _).tr k2); clear k2)
    all_goals
      go_ret
      refine ⟨ret_bool ?_, by first | exact KK.out | exact Kp.alloc _ _ _⟩
      simp [*] <;> (intros; omega)
/-- The error of rows. -/
def chkE (l : List Rw) : Int := if 2000 < l.length then 3 else if l.any rowB then 2 else if risB (l.map Rw.pp) then 0 else 6
theorem infoP : (Tryz.prog.info? 51).map (fun i => (i.zero, i.size, i.bytes)) = some (some (.agg #[.int .i64 0, .int .i64 0]), 2, 16) := by kernel_rfl
theorem pcells_one (p : Pp) : ∀ u ∈ pcells p, u.oneCell' = true := by
  intro u hu
  simp [pcells] at hu
  rcases hu with rfl | rfl <;> rfl
set_option maxHeartbeats 4000000 in
set_option maxRecDepth 100000 in
theorem Check_any (A : Option Addr) (n cap : Nat) (l : List Rw) (w : World) (hx : Rd rwC 5 w A n l) :
    Calls Tryz.prog 16 #[.slice A n cap] w fun e w' => e = .returned (.int .i64 (chkE l)) ∧ Kp No w w' := by
  have hl := hx.1
  by_cases h1 : 2000 < n
  · have hE : chkE l = 3 := by unfold chkE; rw [if_pos (by omega)]
    rw [hE]
    clear hE
    go_enter Tryz.func16, Tryz.ntmps16
    go_wp2
    go_ret
    exact ⟨rfl, Kp.refl _ _⟩
  · have CO := Lib.hid (contains_rowk A n cap l rowB w hx (by omega) (fun v w' _ => wrong_any v w'))
    cases hb : l.any rowB
    · rw [hb] at CO
      obtain ⟨i0, hi, hz0, hz1, hz2⟩ := info_parts infoP
      have hE : chkE l = if risB (l.map Rw.pp) then 0 else 6 := by unfold chkE; rw [if_neg (by omega), hb]; rfl
      rw [hE]
      obtain ⟨z, hz⟩ : ∃ z : Int, (if risB (l.map Rw.pp) then 0 else 6) = z := ⟨_, rfl⟩
      rw [hz]
      have HZ := Lib.hid hz
      clear hb hE hz
      go_enter Tryz.func16, Tryz.ntmps16
      go_wp2_with fail
      refine CO.out.mono ?_
      rintro e w1 ⟨rfl, k1⟩
      have K1 := Lib.hid k1
      clear k1 CO
      go_wp2_with fail
      go_loopw [4, 17] (fun s i wr => ∃ k : Nat, k ≤ n ∧ i = .int .i64 k ∧ wr.ownsRow w1.heap.size 51 2 s k (((l.map Rw.pp).take k).flatMap pcells) ∧ Kp No w1 wr) (fun _ i _ => n - (intOf i).toNat)
      case atStart => exact ⟨0, by omega, rfl, ⟨rfl, .inl ⟨rfl, rfl⟩⟩, Kp.refl _ _⟩
      case round =>
        obtain ⟨k, hk, rfl, hown, hkp⟩ := hrel
        by_cases hlt : k < n
        · obtain ⟨x, hxk⟩ : ∃ x, l[k]? = some x := ⟨_, List.getElem?_eq_getElem (by omega)⟩
          obtain ⟨b, o, rfl, hb, hc⟩ := hx.2 k x hxk
          have c0 := (K1.out.tr hkp).cell (hc 0 _ rfl) id
          have c1 := (K1.out.tr hkp).cell (hc 1 _ rfl) id
          have c2 := (K1.out.tr hkp).cell (hc 2 _ rfl) id
          have c3 := (K1.out.tr hkp).cell (hc 3 _ rfl) id
          have c4 := (K1.out.tr hkp).cell (hc 4 _ rfl) id
          simp only [Nat.add_zero] at c0
          have HSN := Lib.hid (show (l.map Rw.pp).take (k + 1) = (l.map Rw.pp).take k ++ [x.pp] by rw [List.take_add_one, List.getElem?_map, hxk]; rfl)
          obtain ⟨av, cv, rfl, _, _, _⟩ := own_form hown
          have HOW := Lib.hid hown
          have HKP := Lib.hid hkp
          clear hown hxk hc hkp
          go_wp2_with (at_builtin; refine stop_in ?_)
          refine stop_out ?_
          refine wpList_append_own_at _ rfl _ _ 36 rfl w1.heap.size 51 i0 _ 2 16 Tryz.underlying36 hi hz0 hz1 hz2 rfl (by decide) _ _ _ rfl ((HOW.out.alloc _).alloc _) ⟨wr.heap.size + 1, 0, none⟩ 1 1 (pcells x.pp) rfl rfl ?_ (pcells_one _) (by unfold maxLen; omega) (by omega) (by have := HKP.out.size; simp; omega) ?_
          · have := new_at (wr.alloc (.cells #[.int .i64 x.r, .int .i64 x.n, .int .i64 x.b, .int .i64 x.f, .int .i64 x.c] 53)) #[.int .i64 x.r, .int .i64 x.n] 51
            simpa [pcells, Rw.pp] using this
          intro v' w5 hown' hgrow _ _
          have hk5 : Kp No w1 w5 := HKP.out.trans (((Kp.alloc (fun g => w1.heap.size ≤ g) _ _).tr (Kp.alloc _ _ _)).tr (Kp.grown hgrow fun g hg _ => (own_ge HOW.out hg).1)) (fun g hg h => absurd h (Nat.not_le.2 hg))
          have HO5 := Lib.hid hown'
          have HK5 := Lib.hid hk5
          clear hown' hgrow hk5 c0 c1 c2 c3 c4
          go_wp2_with fail
          go_roundw
          case rel => exact ⟨k + 1, by omega, by go_num, by rw [HSN.out, flat_snoc]; exact HO5.out, HK5.out⟩
          case measure => simp [intOf]; omega
        · obtain rfl : k = n := by omega
          have hf : (l.map Rw.pp).take k = l.map Rw.pp := List.take_of_length_le (by simp; omega)
          rw [hf] at hown
          obtain ⟨av, cv, rfl, _, _, _⟩ := own_form hown
          have hr := Rd.of_own pcells_len (by omega) hown
          have RI := Lib.hid (rising_any av k cv (l.map Rw.pp) wr hr (by omega))
          have HKP := Lib.hid hkp
          clear hown hkp hf hr
          cases hr2 : risB (l.map Rw.pp)
          all_goals
            rw [hr2] at RI
            have hz := HZ.out
            rw [hr2] at hz
            have HZ2 := Lib.hid hz
            clear hr2 hz
          · go_wp2_with fail
            refine RI.out.mono ?_
            rintro e w3 ⟨rfl, k3⟩
            go_wp2_with fail
            go_ret
            exact ⟨ret_i64 HZ2.out, K1.out.tr (HKP.out.tr k3)⟩
          · go_wp2_with fail
            refine RI.out.mono ?_
            rintro e w3 ⟨rfl, k3⟩
            go_wp2_with fail
            go_ret
            exact ⟨ret_i64 HZ2.out, K1.out.tr (HKP.out.tr k3)⟩
    · rw [hb] at CO
      have hE : chkE l = 2 := by unfold chkE; rw [if_neg (by omega), hb]; rfl
      rw [hE]
      clear hb hE
      go_enter Tryz.func16, Tryz.ntmps16
      go_wp2_with fail
      refine CO.out.mono ?_
      rintro e w1 ⟨rfl, k1⟩
      go_wp2_with fail
      go_ret
      exact ⟨rfl, k1⟩
end Go.Proofs.YtlieijnhaolnhaaGreat
