/- Chapter 13: toes, pressures, Pipe: walks. -/
import Derived.Test.YtlieijnhaolnhaaTak
namespace Go.Proofs.Ytlieijnhaolnhaa
open Go.RowKit Go.Kq

def toeV (b f : Int) : Value := .agg #[.int .i64 b, .int .i64 f]
def toeB (b f : Int) : Bool := decide (100 ≤ b) && decide (b ≤ 100000) && decide (100 ≤ f) && decide (f ≤ 1000)
def preB (p : Int) : Bool := decide (10 ≤ p) && decide (p ≤ 5000)
theorem toeB_of {b f : Int} (h : toeB b f = true) : (100 ≤ b ∧ b ≤ 100000) ∧ (100 ≤ f ∧ f ≤ 1000) := by
  unfold toeB at h
  simp at h
  omega
theorem preB_of {p : Int} (h : preB p = true) : 10 ≤ p ∧ p ≤ 5000 := by
  unfold preB at h
  simpa using h
theorem valid_any (b f : Int) (w : World) : Calls Try.prog 15 #[toeV b f] w fun e w' => e = .returned (.bool (toeB b f)) ∧ Kp No w w' := by
  simp only [toeV]
  go_enter Try.func15, Try.ntmps15
  go_wp2
  all_goals
    go_ret
    refine ⟨ret_bool ?_, Kp.alloc _ _ _⟩
    unfold toeB
    simp [*] <;> (intros; omega)
theorem press_any (p : Int) (w : World) : Calls Try.prog 16 #[.int .i64 p] w fun e w' => e = .returned (.bool (preB p)) ∧ w = w' := by
  go_enter Try.func16, Try.ntmps16
  go_wp2
  all_goals
    go_ret
    refine ⟨ret_bool ?_, rfl⟩
    unfold preB
    simp [*] <;> (intros; omega)
/-- What Pipe gives. -/
def pipE (b f p : Int) : IvE := if toeB b f && preB p then (tlo b f p, thi b f p, 0) else (0, 0, 2)
set_option maxHeartbeats 2000000 in
theorem Pipe_any (b f p : Int) (w : World) : Calls Try.prog 6 #[toeV b f, .int .i64 p] w fun e w' => e = .returned (ieV (pipE b f p)) ∧ Kp No w w' := by
  unfold pipE
  cases d1 : toeB b f
  · have V1 := Lib.hid (valid_any b f)
    rw [d1] at V1
    simp only [Bool.false_and, Bool.false_eq_true, if_false, ieV, ivV, toeV] at V1 ⊢
    go_enter Try.func6, Try.ntmps6
    go_wp2_with fail
    refine (V1.out _).mono ?_
    rintro e w2 ⟨rfl, k2⟩
    obtain ⟨r0, r1, z0, z1⟩ := two_cells (k2.heap (at_new (n := w.heap.size + 1) (by simp)) id)
    have KP := (((Kp.alloc No w _).tr (Kp.alloc No _ _)).tr k2)
    clear k2
    go_wp2_with fail
    exact bodyPost_ret (v := .tuple #[.agg #[.int .i64 0, .int .i64 0], .int .i64 2]) (by simp [results, Try.results6, go_sem, r0, r1]) rfl ⟨rfl, kp_set2 KP (by omega)⟩
  · cases d2 : preB p
    · have V1 := Lib.hid (valid_any b f)
      have V2 := Lib.hid (press_any p)
      rw [d1] at V1
      rw [d2] at V2
      simp only [Bool.true_and, Bool.false_eq_true, if_false, ieV, ivV, toeV] at V1 ⊢
      go_enter Try.func6, Try.ntmps6
      go_wp2_with fail
      refine (V1.out _).mono ?_
      rintro e w2 ⟨rfl, k2⟩
      obtain ⟨r0, r1, z0, z1⟩ := two_cells (k2.heap (at_new (n := w.heap.size + 1) (by simp)) id)
      have KP := (((Kp.alloc No w _).tr (Kp.alloc No _ _)).tr k2)
      clear k2
      go_wp2_with fail
      refine (V2.out _).mono ?_
      rintro e w3 ⟨rfl, rfl⟩
      go_wp2_with fail
      exact bodyPost_ret (v := .tuple #[.agg #[.int .i64 0, .int .i64 0], .int .i64 2]) (by simp [results, Try.results6, go_sem, r0, r1]) rfl ⟨rfl, kp_set2 KP (by omega)⟩
    · have V1 := Lib.hid (valid_any b f)
      have V2 := Lib.hid (press_any p)
      obtain ⟨t1, t2⟩ := toeB_of d1
      have T := Lib.hid (fun w0 => takes_any b f p w0 t1 t2 (preB_of d2))
      rw [d1] at V1
      rw [d2] at V2
      simp only [Bool.true_and, if_true, ieV, ivV, toeV] at V1 T ⊢
      clear t1 t2
      generalize tlo b f p = x at *
      generalize thi b f p = y at *
      go_enter Try.func6, Try.ntmps6
      go_wp2_with fail
      refine (V1.out _).mono ?_
      rintro e w2 ⟨rfl, k2⟩
      obtain ⟨r0, r1, z0, z1⟩ := two_cells (k2.heap (at_new (n := w.heap.size + 1) (by simp)) id)
      obtain ⟨b0, b1, _, _⟩ := two_cells (k2.heap ((Kp.alloc No _ _).heap (at_new (n := w.heap.size) rfl) id) id)
      have KP := (((Kp.alloc No w _).tr (Kp.alloc No _ _)).tr k2)
      clear k2
      go_wp2_with fail
      refine (V2.out _).mono ?_
      rintro e w3 ⟨rfl, rfl⟩
      go_wp2_with fail
      refine (T.out _).mono ?_
      rintro e w4 ⟨rfl, k4⟩
      have q0 := k4.cell r0 id
      have q1 := k4.cell r1 id
      have y0 := (k4.frozen (World.block_lt_of_cell? _ _ r0) id).trans z0
      have y1 := (k4.frozen (World.block_lt_of_cell? _ _ r1) id).trans z1
      go_wp2_with fail
      exact bodyPost_ret (v := .tuple #[.agg #[.int .i64 x, .int .i64 y], .int .i64 0]) (by simp [results, Try.results6, go_sem, q0, q1]) rfl ⟨rfl, kp_set2 (KP.tr k4) (by omega)⟩
end Go.Proofs.Ytlieijnhaolnhaa
