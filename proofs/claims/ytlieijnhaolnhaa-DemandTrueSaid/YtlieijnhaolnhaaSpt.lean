/- spans: Root, of the second degree. -/
import Derived.Test.YtlieijnhaolnhaaSpr
import Derived.Test.YtlieijnhaolnhaaSps
namespace Go.Proofs.Ytlieijnhaolnhaa
open Go.RowKit Go.Kq

set_option maxHeartbeats 2000000 in
theorem Root_ok (lo hi : Nat) (w : World) (h1 : lo ≤ hi) (h2 : hi ≤ 4611686018427387904) :
    Calls Try.prog 35 #[ivV lo hi, .int .i64 2] w fun e w' => e = .returned (ieV ((isq lo : Nat), (csq hi : Nat), 0)) ∧ Kp No w w' := by
  have hck : ckE [((lo : Int), (hi : Int))] = 0 := by
    unfold ckE
    have f1 : fits (lo : Int) = true := by unfold fits M62; simp; omega
    have f2 : fits (hi : Int) = true := by unfold fits M62; simp; omega
    rw [if_pos (by intro x hx; simp at hx; subst hx; exact ⟨f1, f2⟩), if_pos (by intro x hx; simp at hx; subst hx; simpa using h1)]
  have HCK := Lib.hid (fun g w0 hc => check_any [((lo : Int), (hi : Int))] g 0 1 1 w0 rfl (by omega) hc)
  rw [hck] at HCK
  have RA := Lib.hid (fun w0 => root_any lo w0 (by omega))
  have RB := Lib.hid (fun w0 => root_any hi w0 h2)
  obtain ⟨i1, i2⟩ := isq_spec hi
  obtain ⟨j1, j2⟩ := isq_spec lo
  have hrb : isq hi < 4294967296 := by
    rcases Nat.lt_or_ge (isq hi) 4294967296 with h | h
    · exact h
    · have := Nat.mul_le_mul h h
      omega
  have hra : isq lo < 4294967296 := Nat.lt_of_le_of_lt (isq_mono h1) hrb
  have PB := fun w0 => power_any (isq hi) w0 hrb
  have hc1 : ((isq hi * isq hi : Nat) : Int) ≤ 4611686018427387904 := by omega
  rw [if_pos hc1, decide_eq_true hc1] at PB
  have hcs : ((csq hi : Nat) : Int) = if ((isq hi * isq hi : Nat) : Int) < (hi : Int) then ((isq hi : Nat) : Int) + 1 else ((isq hi : Nat) : Int) := by
    unfold csq
    by_cases h : isq hi * isq hi < hi
    · rw [if_pos h, if_pos (by omega)]
      omega
    · rw [if_neg h, if_neg (by omega)]
  rw [hcs]
  generalize isq hi * isq hi = sq at *
  have hlo : (0 : Int) ≤ (lo : Int) := by omega
  have hhi : (0 : Int) ≤ (hi : Int) := by omega
  have hlo2 : (lo : Int) ≤ 4611686018427387904 := by omega
  have hhi2 : (hi : Int) ≤ 4611686018427387904 := by omega
  have ha : ((isq lo : Nat) : Int) < 4294967296 := by omega
  have hb : ((isq hi : Nat) : Int) < 4294967296 := by omega
  have ha0 : (0 : Int) ≤ ((isq lo : Nat) : Int) := by omega
  have hb0 : (0 : Int) ≤ ((isq hi : Nat) : Int) := by omega
  clear hck h1 h2 i1 i2 j1 j2 hra hrb hc1 hcs
  generalize ((isq lo : Nat) : Int) = a at *
  generalize ((isq hi : Nat) : Int) = b at *
  generalize ((sq : Nat) : Int) = s at *
  generalize ((lo : Nat) : Int) = x at *
  generalize ((hi : Nat) : Int) = y at *
  have PB := Lib.hid PB
  have wx : IntKind.u64.wrap x = x := by rw [IntKind.wrap_u64]; omega
  have wy : IntKind.u64.wrap y = y := by rw [IntKind.wrap_u64]; omega
  have wb1 : IntKind.u64.wrap (b + 1) = b + 1 := by rw [IntKind.wrap_u64]; omega
  have wa : IntKind.i64.wrap a = a := by rw [IntKind.wrap_i64]; omega
  have wb : IntKind.i64.wrap b = b := by rw [IntKind.wrap_i64]; omega
  have wb2 : IntKind.i64.wrap (b + 1) = b + 1 := by rw [IntKind.wrap_i64]; omega
  have hx0 : ¬ x < 0 := by omega
  clear hlo hlo2 hhi hhi2 ha hb ha0 hb0
  simp only [ieV, ivV]
  obtain ⟨t, ht⟩ : ∃ t, (if s < y then b + 1 else b) = t := ⟨_, rfl⟩
  rw [ht]
  by_cases hs : s < y
  · rw [if_pos hs] at ht
    subst ht
    go_enter Try.func35, Try.ntmps35
    go_wp2_with fail
    refine (HCK.out _ _ (ck1_cells _ _ _ _ (by go_simp) (by go_simp))).mono ?_
    rintro e w1 ⟨rfl, hk⟩
    obtain ⟨c0, c1, _, _⟩ := two_cells (hk.heap (((Kp.alloc No _ _).tr (Kp.alloc No _ _)).heap (at_new (n := w.heap.size) rfl) id) id)
    obtain ⟨r0, r1, z0, z1⟩ := two_cells (hk.heap ((Kp.alloc No _ _).heap (at_new (n := w.heap.size + 1) (by simp)) id) id)
    have KP := ((Kp.alloc No w _).tr ((Kp.alloc No _ _).tr (Kp.alloc No _ _))).tr hk
    go_wp2_with fail
    with_reducible refine (RB.out _).mono ?_
    rintro e w2 ⟨rfl, hw⟩
    subst hw
    go_wp2_with fail
    with_reducible refine (PB.out _).mono ?_
    rintro e w2 ⟨rfl, hw⟩
    subst hw
    go_wp2_with fail
    with_reducible refine (RA.out _).mono ?_
    rintro e w2 ⟨rfl, hw⟩
    subst hw
    go_wp2_with fail
    exact bodyPost_ret (v := .tuple #[.agg #[.int .i64 a, .int .i64 (b + 1)], .int .i64 0]) (by simp [results, Try.results35, go_sem, r0, r1]) rfl ⟨rfl, kp_set2 KP (by omega)⟩
  · rw [if_neg hs] at ht
    subst ht
    go_enter Try.func35, Try.ntmps35
    go_wp2_with fail
    refine (HCK.out _ _ (ck1_cells _ _ _ _ (by go_simp) (by go_simp))).mono ?_
    rintro e w1 ⟨rfl, hk⟩
    obtain ⟨c0, c1, _, _⟩ := two_cells (hk.heap (((Kp.alloc No _ _).tr (Kp.alloc No _ _)).heap (at_new (n := w.heap.size) rfl) id) id)
    obtain ⟨r0, r1, z0, z1⟩ := two_cells (hk.heap ((Kp.alloc No _ _).heap (at_new (n := w.heap.size + 1) (by simp)) id) id)
    have KP := ((Kp.alloc No w _).tr ((Kp.alloc No _ _).tr (Kp.alloc No _ _))).tr hk
    go_wp2_with fail
    with_reducible refine (RB.out _).mono ?_
    rintro e w2 ⟨rfl, hw⟩
    subst hw
    go_wp2_with fail
    with_reducible refine (PB.out _).mono ?_
    rintro e w2 ⟨rfl, hw⟩
    subst hw
    go_wp2_with fail
    with_reducible refine (RA.out _).mono ?_
    rintro e w2 ⟨rfl, hw⟩
    subst hw
    go_wp2_with fail
    exact bodyPost_ret (v := .tuple #[.agg #[.int .i64 a, .int .i64 b], .int .i64 0]) (by simp [results, Try.results35, go_sem, r0, r1]) rfl ⟨rfl, kp_set2 KP (by omega)⟩
end Go.Proofs.Ytlieijnhaolnhaa
