/- spans: Disc, of a small one. -/
import Derived.Test.YtlieijnhaolnhaaSpk
import Derived.Test.YtlieijnhaolnhaaSps
namespace Go.Proofs.Ytlieijnhaolnhaa
open Go.RowKit Go.Kq

set_option maxHeartbeats 2000000 in
theorem Disc_ok (lo hi : Nat) (w : World) (h1 : lo ≤ hi) (h2 : hi ≤ 100000) :
    Calls Try.prog 36 #[ivV lo hi] w fun e w' => e = .returned (ieV (dlo lo, dhi hi, 0)) ∧ Kp No w w' := by
  have hck : ckE [((lo : Int), (hi : Int))] = 0 := by
    unfold ckE
    have f1 : fits (lo : Int) = true := by unfold fits M62; simp; omega
    have f2 : fits (hi : Int) = true := by unfold fits M62; simp; omega
    rw [if_pos (by intro x hx; simp at hx; subst hx; exact ⟨f1, f2⟩), if_pos (by intro x hx; simp at hx; subst hx; simpa using h1)]
  have HCK := Lib.hid (fun g w0 hc => check_any [((lo : Int), (hi : Int))] g 0 1 1 w0 rfl (by omega) hc)
  rw [hck] at HCK
  have d1 := fun w0 => disc_ok lo false w0 (by omega)
  have d2 := fun w0 => disc_ok hi true w0 (by omega)
  simp only [Bool.false_eq_true, if_false, if_true] at d1 d2
  generalize dlo (lo : Int) = a at *
  generalize dhi (hi : Int) = b at *
  have hlo : (0 : Int) ≤ (lo : Int) := by omega
  have hlo2 : (lo : Int) ≤ 100000 := by omega
  have hhi : (0 : Int) ≤ (hi : Int) := by omega
  have hhi2 : (hi : Int) ≤ 100000 := by omega
  clear hck h1 h2
  generalize ((lo : Nat) : Int) = x at *
  generalize ((hi : Nat) : Int) = y at *
  have wx : IntKind.u64.wrap x = x := by rw [IntKind.wrap_u64]; omega
  have wy : IntKind.u64.wrap y = y := by rw [IntKind.wrap_u64]; omega
  have hx0 : ¬ x < 0 := by omega
  have D1 := Lib.hid d1
  have D2 := Lib.hid d2
  clear d1 d2 hlo hlo2 hhi hhi2
  simp only [ieV, ivV]
  go_enter Try.func36, Try.ntmps36
  go_wp2_with fail
  refine (HCK.out _ _ (ck1_cells _ _ _ _ (by go_simp) (by go_simp))).mono ?_
  rintro e w1 ⟨rfl, hk⟩
  obtain ⟨c0, c1, _, _⟩ := two_cells (hk.heap (((Kp.alloc No _ _).tr (Kp.alloc No _ _)).heap (at_new (n := w.heap.size) rfl) id) id)
  have R := hk.heap ((Kp.alloc No _ _).heap (at_new (n := w.heap.size + 1) (by simp)) id) id
  have KP := ((Kp.alloc No w _).tr ((Kp.alloc No _ _).tr (Kp.alloc No _ _))).tr hk
  go_wp2_with fail
  refine (D1.out _).mono ?_
  rintro e w2 ⟨rfl, k2⟩
  have e1 := k2.cell c1 id
  go_wp2_with fail
  refine (D2.out _).mono ?_
  rintro e w3 ⟨rfl, k3⟩
  obtain ⟨r0, r1, z0, z1⟩ := two_cells ((k2.tr k3).heap R id)
  go_wp2_with fail
  exact bodyPost_ret (v := .tuple #[.agg #[.int .i64 a, .int .i64 b], .int .i64 0]) (by simp [results, Try.results36, go_sem, r0, r1]) rfl ⟨rfl, kp_set2 (KP.tr (k2.tr k3)) (by omega)⟩
end Go.Proofs.Ytlieijnhaolnhaa
