/- Chapter 13: law 4 (DemandGrows). -/
import Derived.Test.YtlieijnhaolnhaaOpn
import Derived.Test.YtlieijnhaolnhaaAwk
namespace Go.Proofs.Ytlieijnhaolnhaa
open Go.ChangeShapes Go.WideShapes Go.RowKit Go.Deep Go.Kq

section
variable {H : Type} {enc : TypeId × Value → H} {W : World} {base : Nat} {spare : Nat → Bool} {held : Bool}
theorem c40 : Try.prog.cellsOf 40 = 3 := by kernel_rfl
theorem c39 : Try.prog.cellsOf 39 = 1 := by kernel_rfl
theorem one_u16 {fuel : Nat} {v : Value} {y : DataW H × List MemPlace} (h : DataW.trod enc Try.prog W base spare held fuel 39 [v] = some y) : ∃ n : Nat, v = .int .u16 (n : Nat) ∧ n < 65536 := by
  obtain ⟨x, hc, _, hw⟩ := DataW.trod_int Try.underlying39 h
  simp at hc
  subst hc
  have hb := bounds_u16 hw
  exact ⟨x.toNat, by rw [Int.toNat_of_nonneg hb.1], by omega⟩
set_option maxRecDepth 100000 in
theorem open_u16s {v : Value} {d : DataW H} {p : List MemPlace} {r : Reach} {b0 : Nat} (hv : Value.okWide Try.prog W r b0 40 v) (h : DataW.Trod enc Try.prog W base spare held 40 v d p) :
    ∃ a b c : Nat, v = .agg #[.int .u16 (a : Nat), .int .u16 (b : Nat), .int .u16 (c : Nat)] ∧ a < 65536 ∧ b < 65536 ∧ c < 65536 := by
  simp only [Value.okWide, Try.underlying40] at hv
  obtain ⟨cs, rfl, hsz, _⟩ := hv
  rw [c40] at hsz
  obtain ⟨fuel, hf⟩ := h
  obtain ⟨xs, m, _, _, hlen, hxl, hel⟩ := DataW.trod_array Try.underlying40 hf
  rw [c39] at hel
  obtain ⟨l⟩ := cs
  match l, hsz with
  | [q0, q1, q2], _ =>
    have e0 := hel 0 (by omega)
    have e1 := hel 1 (by omega)
    have e2 := hel 2 (by omega)
    match xs, hxl with
    | [y0, y1, y2], _ =>
      obtain ⟨a, rfl, h1⟩ := one_u16 (by simpa [Value.cells] using e0)
      obtain ⟨b, rfl, h2⟩ := one_u16 (by simpa [Value.cells] using e1)
      obtain ⟨c, rfl, h3⟩ := one_u16 (by simpa [Value.cells] using e2)
      exact ⟨a, b, c, rfl, h1, h2, h3⟩
end
theorem pip_ok {b f p : Int} (h1 : toeB b f = true) (h2 : preB p = true) : pipE b f p = (tlo b f p, thi b f p, 0) := by
  unfold pipE
  rw [h1, h2]
  rfl
theorem drp_same {b f p : Int} (h1 : toeB b f = true) (h2 : preB p = true) : drpE b f p p = (0, thi b f p - tlo b f p, 0) := by
  unfold drpE
  obtain ⟨a1, a2⟩ := toeB_of h1
  have a3 := preB_of h2
  have := tlo_thi (b := b) (f := f) (p := p) (by omega) (by omega) (by omega)
  rw [h1, h2, if_pos (by rfl), if_neg (by omega), show max (tlo b f p - thi b f p) 0 = 0 by omega]
set_option maxHeartbeats 8000000 in
set_option maxRecDepth 100000 in
theorem tgrows_any (b f p : Int) (m0 m1 m2 : Nat) (w : World) (h0 : m0 < 65536) (h1 : m1 < 65536) (h2 : m2 < 65536) :
    Calls Try.prog 4 #[toeV b f, .int .i64 p, .agg #[.int .u16 (m0 : Nat), .int .u16 (m1 : Nat), .int .u16 (m2 : Nat)]] w fun e w' => e = .returned (.bool true) ∧ Kp No w w' := by
  have PI := fun w0 => Pipe_any b f p w0
  by_cases hok : toeB b f = true ∧ preB p = true
  · obtain ⟨ht, hp⟩ := hok
    obtain ⟨hb, hf⟩ := toeB_of ht
    have hpp := preB_of hp
    obtain ⟨b2, hb2⟩ : ∃ x : Int, min (b + (m0 : Int)) 100000 = x := ⟨_, rfl⟩
    obtain ⟨f2, hf2⟩ : ∃ x : Int, min (f + (m1 : Int)) 1000 = x := ⟨_, rfl⟩
    obtain ⟨p2, hp2⟩ : ∃ x : Int, min (p + (m2 : Int)) 5000 = x := ⟨_, rfl⟩
    have ht2 : toeB b2 f2 = true := by unfold toeB; simp; omega
    have hpr2 : preB p2 = true := by unfold preB; simp; omega
    have PJ := fun w0 => Pipe_any b2 f2 p2 w0
    have DR := fun w0 => Drop_any b f p p w0
    rw [pip_ok ht hp] at PI
    rw [pip_ok ht2 hpr2] at PJ
    rw [drp_same ht hp] at DR
    have g1 : tlo b f p ≤ tlo b2 f2 p2 := tlo_mono (by omega) (by omega) (by omega) (by omega) (by omega)
    have g2 : thi b f p ≤ thi b2 f2 p2 := thi_mono (by omega) (by omega) (by omega) (by omega) (by omega)
    have s1 : IntKind.i64.wrap (b + (m0 : Int)) = b + (m0 : Int) := by rw [IntKind.wrap_i64]; omega
    have s2 : IntKind.i64.wrap (f + (m1 : Int)) = f + (m1 : Int) := by rw [IntKind.wrap_i64]; omega
    have s3 : IntKind.i64.wrap (p + (m2 : Int)) = p + (m2 : Int) := by rw [IntKind.wrap_i64]; omega
    have w0 : IntKind.i64.wrap (m0 : Int) = (m0 : Int) := by rw [IntKind.wrap_i64]; omega
    have w1 : IntKind.i64.wrap (m1 : Int) = (m1 : Int) := by rw [IntKind.wrap_i64]; omega
    have w2 : IntKind.i64.wrap (m2 : Int) = (m2 : Int) := by rw [IntKind.wrap_i64]; omega
    simp only [toeV, ieV, ivV] at PI PJ DR ⊢
    generalize tlo b f p = x1 at *
    generalize thi b f p = y1 at *
    generalize tlo b2 f2 p2 = x2 at *
    generalize thi b2 f2 p2 = y2 at *
    generalize ((m0 : Nat) : Int) = n0 at *
    generalize ((m1 : Nat) : Int) = n1 at *
    generalize ((m2 : Nat) : Int) = n2 at *
    have PI := Lib.hid PI
    have PJ := Lib.hid PJ
    have DR := Lib.hid DR
    clear ht hp hb hf hpp ht2 hpr2 h0 h1 h2
    go_enter Try.func4, Try.ntmps4
    go_wp2_with fail
    refine (PI.out _).mono ?_
    rintro e w1' ⟨rfl, k1⟩
    have A0 := Lib.hid (k1.heap ((Kp.alloc No _ _).heap (at_new (n := w.heap.size) rfl) id) id)
    have A1 := Lib.hid (k1.heap (at_new (n := w.heap.size + 1) (by simp)) id)
    have K1 := Lib.hid (((Kp.alloc No w _).tr (Kp.alloc No _ _)).tr k1)
    obtain ⟨c0, c1, _, _⟩ := two_cells A0.out
    have d0 : w1'.cell? ⟨w.heap.size + 1, 0, none⟩ = some (.int .u16 n0) := by rw [cell_of_row _ _ 0 _ _ _ A1.out]; rfl
    have d1 : w1'.cell? ⟨w.heap.size + 1, 1, none⟩ = some (.int .u16 n1) := by rw [cell_of_row _ _ 1 _ _ _ A1.out]; rfl
    have d2 : w1'.cell? ⟨w.heap.size + 1, 2, none⟩ = some (.int .u16 n2) := by rw [cell_of_row _ _ 2 _ _ _ A1.out]; rfl
    have z1 : w.heap.size + 1 < w1'.heap.size := (Array.getElem?_eq_some_iff.1 A1.out).1
    have z0 : w.heap.size < w1'.heap.size := by omega
    clear k1
    go_wp2_with fail
    refine (PJ.out _).mono ?_
    rintro e w3 ⟨rfl, k3⟩
    have B0 := Lib.hid (k3.heap ((Kp.alloc No _ _).heap ((Kp.alloc No _ _).heap A0.out id) id) id)
    have T7 := Lib.hid (k3.heap ((Kp.alloc No _ _).heap (at_new (n := w1'.heap.size) rfl) id) id)
    have K3 := Lib.hid (K1.out.tr (((Kp.alloc No _ _).tr (Kp.alloc No _ _)).tr k3))
    obtain ⟨b0, b1, _, _⟩ := two_cells B0.out
    have y0 : w.heap.size < w3.heap.size := (Array.getElem?_eq_some_iff.1 B0.out).1
    clear k3 c0 c1 d0 d1 d2 A0 A1 z0 z1 K1
    go_wp2_with fail
    refine (DR.out _).mono ?_
    rintro e w4 ⟨rfl, k4⟩
    have T7 := Lib.hid (k4.heap ((Kp.alloc No _ _).heap T7.out id) id)
    have T10 := Lib.hid (k4.heap (at_new (n := w3.heap.size) rfl) id)
    have K4 := Lib.hid (K3.out.tr ((Kp.alloc No _ _).tr k4))
    obtain ⟨c0, c1, _, _⟩ := two_cells T7.out
    obtain ⟨d0, d1, _, _⟩ := two_cells T10.out
    have z0 : w1'.heap.size < w4.heap.size := (Array.getElem?_eq_some_iff.1 T7.out).1
    have z1 : w3.heap.size < w4.heap.size := (Array.getElem?_eq_some_iff.1 T10.out).1
    have AW := Lib.hid awake_any
    clear k4 b0 b1 y0 K3 B0
    go_wp2_with fail
    refine (AW.out _).mono ?_
    rintro e w5 ⟨rfl, k5⟩
    go_wp2_with fail
    go_ret
    exact ⟨rfl, K4.out.tr ((Kp.alloc No _ _).tr k5)⟩
  · have hE : pipE b f p = (0, 0, 2) := by
      unfold pipE
      rw [if_neg]
      intro h
      simp at h
      exact hok h
    rw [hE] at PI
    have PI := Lib.hid PI
    have AW := Lib.hid awake_any
    clear hE hok
    simp only [toeV, ieV, ivV] at PI ⊢
    go_enter Try.func4, Try.ntmps4
    go_wp2_with fail
    refine (PI.out _).mono ?_
    rintro e w1 ⟨rfl, k1⟩
    go_wp2_with fail
    refine (AW.out _).mono ?_
    rintro e w2 ⟨rfl, k2⟩
    go_wp2_with fail
    go_ret
    exact ⟨rfl, (((Kp.alloc No w _).tr (Kp.alloc No _ _)).tr k1).tr ((Kp.alloc No _ _).tr k2)⟩
end Go.Proofs.Ytlieijnhaolnhaa
