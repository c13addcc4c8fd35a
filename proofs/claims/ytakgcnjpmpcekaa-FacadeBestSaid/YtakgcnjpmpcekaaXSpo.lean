/- spans: over, a quotient rounded down or up. -/
import Derived.Test.YtakgcnjpmpcekaaXSpd
namespace Go.Proofs.Ytakgcnjpmpcekaa
open Go.RowKit Go.Kq

theorem box3 {w : World} {b : Nat} {x y z : Value} {t : TypeId} (h : w.heap[b]? = some (.cells #[x, y, z] t (0, 0))) : w.cell? ⟨b, 0, none⟩ = some x ∧ w.cell? ⟨b, 1, none⟩ = some y ∧ w.cell? ⟨b, 2, none⟩ = some z :=
  ⟨by simp [World.cell?, h], by simp [World.cell?, h], by simp [World.cell?, h]⟩
theorem boxed (w : World) (x y z : Value) (t : TypeId) {w1 : World} (h : Kp No (w.alloc (.cells #[x, y, z] t)) w1) : w1.cell? ⟨w.heap.size, 0, none⟩ = some x ∧ w1.cell? ⟨w.heap.size, 1, none⟩ = some y ∧ w1.cell? ⟨w.heap.size, 2, none⟩ = some z :=
  box3 (h.heap (MapKept.heap_alloc w _).1 id)
/-- over, by the parts: q and r are what the division gives. -/
def ovA (neg up : Bool) (q r : Int) : Int := if r ≠ 0 ∧ up ≠ neg then q + 1 else q
theorem ov_great (neg up : Bool) (hi lo d : Int) (w : World) (h : d ≤ hi) :
    Calls Try.prog 83 #[.agg #[.bool neg, .int .u64 hi, .int .u64 lo], .int .u64 d, .bool up] w fun e w' => e = .returned (.tuple #[.int .i64 0, .bool false]) ∧ Kp No w w' := by
  go_enter Try.func83, Try.ntmps83
  go_wp2_with fail
  refine bodyPost_ret (v := .tuple #[.int .i64 0, .bool false]) ?_ rfl ⟨rfl, ?_⟩
  · simp [results, Try.results83, go_sem]
  · exact Kp.alloc _ _ _
set_option maxHeartbeats 4000000 in
set_option maxRecDepth 100000 in
theorem ov_parts (neg up : Bool) (hi lo d q r : Int) (w : World) (h : hi < d) (hq0 : 0 ≤ q) (hq1 : q < 18446744073709551616)
    (HD : Hid (∀ w0, Calls Try.prog 90 #[.int .u64 hi, .int .u64 lo, .int .u64 d] w0 fun e w' => e = .returned (.tuple #[.int .u64 q, .int .u64 r]) ∧ Kp No w0 w')) :
    Calls Try.prog 83 #[.agg #[.bool neg, .int .u64 hi, .int .u64 lo], .int .u64 d, .bool up] w fun e w' => e = .returned (.tuple #[.int .i64 (if ovA neg up q r ≤ M62 then (if neg then - ovA neg up q r else ovA neg up q r) else 0), .bool (decide (ovA neg up q r ≤ M62))]) ∧ Kp No w w' := by
  unfold ovA M62
  have hh : ¬ d ≤ hi := by omega
  by_cases hr : r = 0
  · subst hr
    by_cases hM : q ≤ 4611686018427387904
    all_goals
      cases neg <;> cases up <;> simp only [ne_eq, not_true_eq_false, false_and, if_false, hM, decide_true, decide_false, if_true, Bool.false_eq_true]
    all_goals
      go_enter Try.func83, Try.ntmps83
      go_wp2_with fail
      refine (HD.out _).mono ?_
      rintro e w1 ⟨rfl, hk⟩
      obtain ⟨hc0, hc1, hc2⟩ := boxed _ _ _ _ _ hk
      go_wp2_with fail
      all_goals
        refine bodyPost_ret (by simp [results, Try.results83, go_sem]; rfl) rfl ⟨?_, (Kp.alloc _ _ _).tr hk⟩
        first | rfl | go_num
  · have hr' : (r == 0) = false := by rw [beq_eq_false_iff_ne]; exact hr
    by_cases hb : q = 18446744073709551615
    · subst hb
      have hw : IntKind.u64.wrap (18446744073709551615 + 1) = 0 := by decide
      cases neg <;> cases up <;> simp [hr]
      all_goals
        go_enter Try.func83, Try.ntmps83
        go_wp2_with fail
        refine (HD.out _).mono ?_
        rintro e w1 ⟨rfl, hk⟩
        obtain ⟨hc0, hc1, hc2⟩ := boxed _ _ _ _ _ hk
        go_wp2_with fail
        all_goals
          refine bodyPost_ret (by simp [results, Try.results83, go_sem]; rfl) rfl ⟨?_, (Kp.alloc _ _ _).tr hk⟩
          first | rfl | go_num
    · have hw : IntKind.u64.wrap (q + 1) = q + 1 := by rw [IntKind.wrap_u64]; omega
      have hz : ¬ q + 1 = 0 := by omega
      have hz2 : ((q + 1) == 0) = false := by rw [beq_eq_false_iff_ne]; exact hz
      cases neg <;> cases up
      all_goals
        simp only [ne_eq, not_true_eq_false, and_false, and_true, if_false, if_true, Bool.false_eq_true, hr, not_false_eq_true, reduceCtorEq]
      · by_cases hM : q ≤ 4611686018427387904
        all_goals
          simp only [hM, decide_true, decide_false, if_true, if_false]
          go_enter Try.func83, Try.ntmps83
          go_wp2_with fail
          refine (HD.out _).mono ?_
          rintro e w1 ⟨rfl, hk⟩
          obtain ⟨hc0, hc1, hc2⟩ := boxed _ _ _ _ _ hk
          go_wp2_with fail
          all_goals
            refine bodyPost_ret (by simp [results, Try.results83, go_sem]; rfl) rfl ⟨?_, (Kp.alloc _ _ _).tr hk⟩
            first | rfl | go_num
      · by_cases hM : q + 1 ≤ 4611686018427387904
        all_goals
          simp only [hM, decide_true, decide_false, if_true, if_false]
          go_enter Try.func83, Try.ntmps83
          go_wp2_with fail
          refine (HD.out _).mono ?_
          rintro e w1 ⟨rfl, hk⟩
          obtain ⟨hc0, hc1, hc2⟩ := boxed _ _ _ _ _ hk
          go_wp2_with fail
          all_goals
            refine bodyPost_ret (by simp [results, Try.results83, go_sem]; rfl) rfl ⟨?_, (Kp.alloc _ _ _).tr hk⟩
            first | rfl | go_num
      · by_cases hM : q + 1 ≤ 4611686018427387904
        all_goals
          simp only [hM, decide_true, decide_false, if_true, if_false]
          go_enter Try.func83, Try.ntmps83
          go_wp2_with fail
          refine (HD.out _).mono ?_
          rintro e w1 ⟨rfl, hk⟩
          obtain ⟨hc0, hc1, hc2⟩ := boxed _ _ _ _ _ hk
          go_wp2_with fail
          all_goals
            refine bodyPost_ret (by simp [results, Try.results83, go_sem]; rfl) rfl ⟨?_, (Kp.alloc _ _ _).tr hk⟩
            first | rfl | go_num
      · by_cases hM : q ≤ 4611686018427387904
        all_goals
          simp only [hM, decide_true, decide_false, if_true, if_false]
          go_enter Try.func83, Try.ntmps83
          go_wp2_with fail
          refine (HD.out _).mono ?_
          rintro e w1 ⟨rfl, hk⟩
          obtain ⟨hc0, hc1, hc2⟩ := boxed _ _ _ _ _ hk
          go_wp2_with fail
          all_goals
            refine bodyPost_ret (by simp [results, Try.results83, go_sem]; rfl) rfl ⟨?_, (Kp.alloc _ _ _).tr hk⟩
            first | rfl | go_num
theorem rnd_ov (up : Bool) (v : Int) {d : Nat} (hd : 0 < d) : rnd up v d = if decide (v < 0) = true then - ovA (decide (v < 0)) up ((v.natAbs / d : Nat) : Int) ((v.natAbs % d : Nat) : Int) else ovA (decide (v < 0)) up ((v.natAbs / d : Nat) : Int) ((v.natAbs % d : Nat) : Int) := by
  rw [rnd_abs up v hd]
  unfold rndA ovA
  generalize v.natAbs / d = q
  generalize v.natAbs % d = r
  have hr : ((r : Int) ≠ 0) ↔ (r ≠ 0) := by omega
  simp only [hr]
  by_cases hv : v < 0
  · simp only [hv, decide_true, if_true]
    split <;> omega
  · simp only [hv, decide_false, if_false, Bool.false_eq_true]
    split <;> omega
theorem ovA_nonneg (neg up : Bool) (q r : Nat) : 0 ≤ ovA neg up (q : Int) (r : Int) := by
  unfold ovA
  split <;> omega
theorem ovA_ge (neg up : Bool) (q r : Nat) : (q : Int) ≤ ovA neg up (q : Int) (r : Int) := by
  unfold ovA
  split <;> omega
theorem fits_ov (up : Bool) (v : Int) {d : Nat} (hd : 0 < d) : fits (rnd up v d) = decide (ovA (decide (v < 0)) up ((v.natAbs / d : Nat) : Int) ((v.natAbs % d : Nat) : Int) ≤ M62) := by
  rw [rnd_ov up v hd]
  have h0 := ovA_nonneg (decide (v < 0)) up (v.natAbs / d) (v.natAbs % d)
  generalize ovA (decide (v < 0)) up ((v.natAbs / d : Nat) : Int) ((v.natAbs % d : Nat) : Int) = A at *
  unfold fits M62
  rw [Bool.eq_iff_iff]
  simp only [Bool.and_eq_true, decide_eq_true_eq]
  split <;> omega
/-- over: the quotient rounded down or up, and whether it is allowed. -/
theorem over_any (v : Int) (d : Nat) (up : Bool) (w : World) (hd : 0 < d) (hd2 : d < 18446744073709551616) :
    Calls Try.prog 83 #[lgV v, .int .u64 (d : Nat), .bool up] w fun e w' => e = .returned (.tuple #[.int .i64 (if fits (rnd up v d) = true then rnd up v d else 0), .bool (fits (rnd up v d))]) ∧ Kp No w w' := by
  unfold lgV
  by_cases h : d ≤ v.natAbs / 18446744073709551616
  · have hf : fits (rnd up v d) = false := by
      rw [fits_ov up v hd, decide_eq_false_iff_not]
      have h1 : 18446744073709551616 ≤ v.natAbs / d := by
        rw [Nat.le_div_iff_mul_le hd]
        omega
      have h2 := ovA_ge (decide (v < 0)) up (v.natAbs / d) (v.natAbs % d)
      unfold M62
      omega
    rw [hf, if_neg (by simp)]
    exact ov_great _ _ _ _ _ _ (by omega)
  · have hdm := Nat.div_add_mod v.natAbs 18446744073709551616
    have hml := Nat.mod_lt v.natAbs (show 0 < 18446744073709551616 by omega)
    have hD := fun w0 => div_any (v.natAbs / 18446744073709551616) (v.natAbs % 18446744073709551616) d w0 (by omega) hml hd2
    rw [Nat.mul_comm, hdm] at hD
    have hq : v.natAbs / d < 18446744073709551616 := by
      rw [Nat.div_lt_iff_lt_mul hd]
      omega
    have hp := ov_parts (decide (v < 0)) up ((v.natAbs / 18446744073709551616 : Nat) : Int) ((v.natAbs % 18446744073709551616 : Nat) : Int) (d : Int) ((v.natAbs / d : Nat) : Int) ((v.natAbs % d : Nat) : Int) w (by omega) (Int.natCast_nonneg _) (Int.ofNat_lt.2 hq) (Lib.hid hD)
    rw [fits_ov up v hd, rnd_ov up v hd]
    simpa only [decide_eq_true_eq] using hp
end Go.Proofs.Ytakgcnjpmpcekaa
