/- spans: over, a quotient rounded down or up. · spans: the order of two numbers of two words and a sign. · spans: check, Check, fit, Add. · spans: fit, Add, Check. -/
import Derived.Test.YtakgcnjpmpcekaaGreatXSpd
import Derived.Test.YtakgcnjpmpcekaaGreatXLibBitM
namespace Go.Proofs.YtakgcnjpmpcekaaGreat
open Go.RowKit Go.Kq

theorem box3 {w : World} {b : Nat} {x y z : Value} {t : TypeId} (h : w.heap[b]? = some (.cells #[x, y, z] t (0, 0))) : w.cell? ⟨b, 0, none⟩ = some x ∧ w.cell? ⟨b, 1, none⟩ = some y ∧ w.cell? ⟨b, 2, none⟩ = some z :=
  ⟨by simp [World.cell?, h], by simp [World.cell?, h], by simp [World.cell?, h]⟩
theorem boxed (w : World) (x y z : Value) (t : TypeId) {w1 : World} (h : Kp No (w.alloc (.cells #[x, y, z] t)) w1) : w1.cell? ⟨w.heap.size, 0, none⟩ = some x ∧ w1.cell? ⟨w.heap.size, 1, none⟩ = some y ∧ w1.cell? ⟨w.heap.size, 2, none⟩ = some z :=
  box3 (h.heap (MapKept.heap_alloc w _).1 id)
/-- over, by the parts: q and r are what the division gives. -/
def ovA (neg up : Bool) (q r : Int) : Int := if r ≠ 0 ∧ up ≠ neg then q + 1 else q
theorem ov_great (neg up : Bool) (hi lo d : Int) (w : World) (h : d ≤ hi) :
    Calls Tryz.prog 59 #[.agg #[.bool neg, .int .u64 hi, .int .u64 lo], .int .u64 d, .bool up] w fun e w' => e = .returned (.tuple #[.int .i64 0, .bool false]) ∧ Kp No w w' := by
  go_enter Tryz.func59, Tryz.ntmps59
  go_wp2_with fail
  refine bodyPost_ret (v := .tuple #[.int .i64 0, .bool false]) ?_ rfl ⟨rfl, ?_⟩
  · simp [results, Tryz.results59, go_sem]
  · exact Kp.alloc _ _ _
set_option maxHeartbeats 4000000 in
set_option maxRecDepth 100000 in
theorem ov_parts (neg up : Bool) (hi lo d q r : Int) (w : World) (h : hi < d) (hq0 : 0 ≤ q) (hq1 : q < 18446744073709551616)
    (HD : Hid (∀ w0, Calls Tryz.prog 79 #[.int .u64 hi, .int .u64 lo, .int .u64 d] w0 fun e w' => e = .returned (.tuple #[.int .u64 q, .int .u64 r]) ∧ Kp No w0 w')) :
    Calls Tryz.prog 59 #[.agg #[.bool neg, .int .u64 hi, .int .u64 lo], .int .u64 d, .bool up] w fun e w' => e = .returned (.tuple #[.int .i64 (if ovA neg up q r ≤ M62 then (if neg then - ovA neg up q r else ovA neg up q r) else 0), .bool (decide (ovA neg up q r ≤ M62))]) ∧ Kp No w w' := by
  unfold ovA M62
  have hh : ¬ d ≤ hi := by omega
  by_cases hr : r = 0
  · subst hr
    by_cases hM : q ≤ 4611686018427387904
    all_goals
      cases neg <;> cases up <;> simp only [ne_eq, not_true_eq_false, false_and, if_false, hM, decide_true, decide_false, if_true, Bool.false_eq_true]
    all_goals
      go_enter Tryz.func59, Tryz.ntmps59
      go_wp2_with fail
      refine (HD.out _).mono ?_
      rintro e w1 ⟨rfl, hk⟩
      obtain ⟨hc0, hc1, hc2⟩ := boxed _ _ _ _ _ hk
      go_wp2_with fail
      all_goals
        refine bodyPost_ret (by simp [results, Tryz.results59, go_sem]; rfl) rfl ⟨?_, (Kp.alloc _ _ _).tr hk⟩
        first | rfl | go_num
  · have hr' : (r == 0) = false := by rw [beq_eq_false_iff_ne]; exact hr
    by_cases hb : q = 18446744073709551615
    · subst hb
      have hw : IntKind.u64.wrap (18446744073709551615 + 1) = 0 := by decide
      cases neg <;> cases up <;> simp [hr]
      all_goals
        go_enter Tryz.func59, Tryz.ntmps59
        go_wp2_with fail
        refine (HD.out _).mono ?_
        rintro e w1 ⟨rfl, hk⟩
        obtain ⟨hc0, hc1, hc2⟩ := boxed _ _ _ _ _ hk
        go_wp2_with fail
        all_goals
          refine bodyPost_ret (by simp [results, Tryz.results59, go_sem]; rfl) rfl ⟨?_, (Kp.alloc _ _ _).tr hk⟩
          first | rfl | go_num
    · have hw : IntKind.u64.wrap (q + 1) = q + 1 := by rw [IntKind.wrap_u64]; omega
      have hz : ¬ q + 1 = 0 := by omega
      have hz2 : ((q + 1) == 0) = false := by rw [beq_eq_false_iff_ne]; exact hz
      cases neg <;> cases up
      all_goals
        simp only [ne_eq, not_true_eq_false, and_false, and_true, if_false, if_true, Bool.false_eq_true, hr, not_false_eq_true, reduceCtorEq]
      · by_cases hM : q ≤ 4611686018427387904
        all_goals
          simp only [hM, decide_true, decide_false, if_true, if_false]
          go_enter Tryz.func59, Tryz.ntmps59
          go_wp2_with fail
          refine (HD.out _).mono ?_
          rintro e w1 ⟨rfl, hk⟩
          obtain ⟨hc0, hc1, hc2⟩ := boxed _ _ _ _ _ hk
          go_wp2_with fail
          all_goals
            refine bodyPost_ret (by simp [results, Tryz.results59, go_sem]; rfl) rfl ⟨?_, (Kp.alloc _ _ _).tr hk⟩
            first | rfl | go_num
      · by_cases hM : q + 1 ≤ 4611686018427387904
        all_goals
          simp only [hM, decide_true, decide_false, if_true, if_false]
          go_enter Tryz.func59, Tryz.ntmps59
          go_wp2_with fail
          refine (HD.out _).mono ?_
          rintro e w1 ⟨rfl, hk⟩
          obtain ⟨hc0, hc1, hc2⟩ := boxed _ _ _ _ _ hk
          go_wp2_with fail
          all_goals
            refine bodyPost_ret (by simp [results, Tryz.results59, go_sem]; rfl) rfl ⟨?_, (Kp.alloc _ _ _).tr hk⟩
            first | rfl | go_num
      · by_cases hM : q + 1 ≤ 4611686018427387904
        all_goals
          simp only [hM, decide_true, decide_false, if_true, if_false]
          go_enter Tryz.func59, Tryz.ntmps59
          go_wp2_with fail
          refine (HD.out _).mono ?_
          rintro e w1 ⟨rfl, hk⟩
          obtain ⟨hc0, hc1, hc2⟩ := boxed _ _ _ _ _ hk
          go_wp2_with fail
          all_goals
            refine bodyPost_ret (by simp [results, Tryz.results59, go_sem]; rfl) rfl ⟨?_, (Kp.alloc _ _ _).tr hk⟩
            first | rfl | go_num
      · by_cases hM : q ≤ 4611686018427387904
        all_goals
          simp only [hM, decide_true, decide_false, if_true, if_false]
          go_enter Tryz.func59, Tryz.ntmps59
          go_wp2_with fail
          refine (HD.out _).mono ?_
          rintro e w1 ⟨rfl, hk⟩
          obtain ⟨hc0, hc1, hc2⟩ := boxed _ _ _ _ _ hk
          go_wp2_with fail
          all_goals
            refine bodyPost_ret (by simp [results, Tryz.results59, go_sem]; rfl) rfl ⟨?_, (Kp.alloc _ _ _).tr hk⟩
            first | rfl | go_num
theorem rnd_ov (up : Bool) (v : Int) {d : Nat} (hd : 0 < d) : rnd up v d = if decide (v < 0) = true then - ovA (decide (v < 0)) up ((v.natAbs / d : Nat) : Int) ((v.natAbs % d : Nat) : Int) else ovA (decide (v < 0)) up ((v.natAbs / d : Nat) : Int) ((v.natAbs % d : Nat) : Int) := by
  rw [rnd_abs up v hd]
  unfold rndA ovA
  generalize v.natAbs / d = q
  generalize v.natAbs % d = r
  have hr : ((r : Int) ≠ 0) ↔ (r ≠ 0) := by omega
  simp only [hr]
  by_cases hv : v < 0
  · simp only [hv, decide_true, if_true]
    split <;> omega
  · simp only [hv, decide_false, if_false, Bool.false_eq_true]
    split <;> omega
theorem ovA_nonneg (neg up : Bool) (q r : Nat) : 0 ≤ ovA neg up (q : Int) (r : Int) := by
  unfold ovA
  split <;> omega
theorem ovA_ge (neg up : Bool) (q r : Nat) : (q : Int) ≤ ovA neg up (q : Int) (r : Int) := by
  unfold ovA
  split <;> omega
theorem fits_ov (up : Bool) (v : Int) {d : Nat} (hd : 0 < d) : fits (rnd up v d) = decide (ovA (decide (v < 0)) up ((v.natAbs / d : Nat) : Int) ((v.natAbs % d : Nat) : Int) ≤ M62) := by
  rw [rnd_ov up v hd]
  have h0 := ovA_nonneg (decide (v < 0)) up (v.natAbs / d) (v.natAbs % d)
  generalize ovA (decide (v < 0)) up ((v.natAbs / d : Nat) : Int) ((v.natAbs % d : Nat) : Int) = A at *
  unfold fits M62
  rw [Bool.eq_iff_iff]
  simp only [Bool.and_eq_true, decide_eq_true_eq]
  split <;> omega
/-- over: the quotient rounded down or up, and whether it is allowed. -/
theorem over_any (v : Int) (d : Nat) (up : Bool) (w : World) (hd : 0 < d) (hd2 : d < 18446744073709551616) :
    Calls Tryz.prog 59 #[lgV v, .int .u64 (d : Nat), .bool up] w fun e w' => e = .returned (.tuple #[.int .i64 (if fits (rnd up v d) = true then rnd up v d else 0), .bool (fits (rnd up v d))]) ∧ Kp No w w' := by
  unfold lgV
  by_cases h : d ≤ v.natAbs / 18446744073709551616
  · have hf : fits (rnd up v d) = false := by
      rw [fits_ov up v hd, decide_eq_false_iff_not]
      have h1 : 18446744073709551616 ≤ v.natAbs / d := by
        rw [Nat.le_div_iff_mul_le hd]
        omega
      have h2 := ovA_ge (decide (v < 0)) up (v.natAbs / d) (v.natAbs % d)
      unfold M62
      omega
    rw [hf, if_neg (by simp)]
    exact ov_great _ _ _ _ _ _ (by omega)
  · have hdm := Nat.div_add_mod v.natAbs 18446744073709551616
    have hml := Nat.mod_lt v.natAbs (show 0 < 18446744073709551616 by omega)
    have hD := fun w0 => div_any (v.natAbs / 18446744073709551616) (v.natAbs % 18446744073709551616) d w0 (by omega) hml hd2
    rw [Nat.mul_comm, hdm] at hD
    have hq : v.natAbs / d < 18446744073709551616 := by
      rw [Nat.div_lt_iff_lt_mul hd]
      omega
    have hp := ov_parts (decide (v < 0)) up ((v.natAbs / 18446744073709551616 : Nat) : Int) ((v.natAbs % 18446744073709551616 : Nat) : Int) (d : Int) ((v.natAbs / d : Nat) : Int) ((v.natAbs % d : Nat) : Int) w (by omega) (Int.natCast_nonneg _) (Int.ofNat_lt.2 hq) (Lib.hid hD)
    rw [fits_ov up v hd, rnd_ov up v hd]
    simpa only [decide_eq_true_eq] using hp
end Go.Proofs.YtakgcnjpmpcekaaGreat

namespace Go.Proofs.YtakgcnjpmpcekaaGreat
open Go.RowKit Go.Kq

set_option maxRecDepth 100000 in
theorem lg_eql (n1 n2 : Bool) (h1 l1 h2 l2 : Int) (w : World) : Sem.run Tryz.prog (binOp .eql 83 (.agg #[.bool n1, .int .u64 h1, .int .u64 l1]) (.agg #[.bool n2, .int .u64 h2, .int .u64 l2])) w = .ok (.bool (decide (n1 = n2 ∧ h1 = h2 ∧ l1 = l2))) w := by
  have hS : Tryz.prog.underlying 83 = some (.struct (Tryz.prog.fieldsOf 83)) := by kernel_rfl
  have hp : Tryz.prog.stoodInHeld 83 = false := by kernel_rfl
  have u3 := Tryz.underlying4
  have u4 := Tryz.underlying81
  rw [run_eql_struct, show (10000 : Nat) = 9999 + 1 from rfl, run_equalIn_agg w 9999 83 _ _ hS hp]
  simp only [Program.fieldsOf, Tryz.underlying83]
  go_simp
  cases n1 <;> cases n2 <;> by_cases e2 : h1 = h2 <;> by_cases e3 : l1 = l2 <;> simp [e2, e3]
theorem lg_guard (op : BinOp) (a b : Operand) (xs ys : Array Value) (w : World) : Sem.run Tryz.prog (eqGuard op 83 a b (.agg xs) (.agg ys)) w = .ok () w := run_eqGuard_agg w op 83 a b xs ys (by kernel_rfl)
/-- Less, by the parts. -/
def lgLess (n1 n2 : Bool) (h1 l1 h2 l2 : Int) : Bool := if n1 = n2 ∧ h1 = h2 ∧ l1 = l2 then false else if n1 ≠ n2 then n1 else (decide (h1 < h2) || decide (h1 = h2) && decide (l1 < l2)) != n1
theorem lgLess_eq (x y : Int) : lgLess (decide (x < 0)) (decide (y < 0)) ((x.natAbs / 18446744073709551616 : Nat) : Int) ((x.natAbs % 18446744073709551616 : Nat) : Int) ((y.natAbs / 18446744073709551616 : Nat) : Int) ((y.natAbs % 18446744073709551616 : Nat) : Int) = decide (x < y) := by
  unfold lgLess
  have dx := Nat.div_add_mod x.natAbs 18446744073709551616
  have dy := Nat.div_add_mod y.natAbs 18446744073709551616
  have mx := Nat.mod_lt x.natAbs (show 0 < 18446744073709551616 by omega)
  have my := Nat.mod_lt y.natAbs (show 0 < 18446744073709551616 by omega)
  generalize x.natAbs / 18446744073709551616 = a at *
  generalize x.natAbs % 18446744073709551616 = b at *
  generalize y.natAbs / 18446744073709551616 = c at *
  generalize y.natAbs % 18446744073709551616 = d at *
  by_cases hx : x < 0 <;> by_cases hy : y < 0
  · simp only [hx, hy, decide_true, true_and, ne_eq, not_true_eq_false, if_false]
    split
    · rw [decide_eq_false (by omega)]
    · by_cases h : x < y
      · rw [decide_eq_true h]
        by_cases h1 : (a : Int) < c
        · omega
        · rw [decide_eq_false h1]
          by_cases h2 : (a : Int) = c
          · rw [decide_eq_true h2, decide_eq_false (by omega)]; rfl
          · rw [decide_eq_false h2]; rfl
      · rw [decide_eq_false h]
        by_cases h1 : (a : Int) < c
        · rw [decide_eq_true h1]; rfl
        · rw [decide_eq_false h1]
          by_cases h2 : (a : Int) = c
          · rw [decide_eq_true h2, decide_eq_true (by omega)]; rfl
          · omega
  · simp [hx, hy]
    omega
  · simp [hx, hy]
    omega
  · simp only [hx, hy, decide_false, true_and, ne_eq, not_true_eq_false, if_false]
    split
    · rw [decide_eq_false (by omega)]
    · by_cases h : x < y
      · rw [decide_eq_true h]
        by_cases h1 : (a : Int) < c
        · rw [decide_eq_true h1]; rfl
        · rw [decide_eq_false h1]
          by_cases h2 : (a : Int) = c
          · rw [decide_eq_true h2, decide_eq_true (by omega)]; rfl
          · omega
      · rw [decide_eq_false h]
        by_cases h1 : (a : Int) < c
        · omega
        · rw [decide_eq_false h1]
          by_cases h2 : (a : Int) = c
          · rw [decide_eq_true h2, decide_eq_false (by omega)]; rfl
          · rw [decide_eq_false h2]; rfl
set_option maxHeartbeats 2000000 in
theorem less_parts (n1 n2 : Bool) (h1 l1 h2 l2 : Int) (w : World) :
    Calls Tryz.prog 58 #[.agg #[.bool n1, .int .u64 h1, .int .u64 l1], .agg #[.bool n2, .int .u64 h2, .int .u64 l2]] w fun e w' => e = .returned (.bool (lgLess n1 n2 h1 l1 h2 l2)) ∧ Kp No w w' := by
  have hg := lg_guard
  have he := lg_eql n1 n2 h1 l1 h2 l2
  unfold lgLess
  by_cases hq : n1 = n2 ∧ h1 = h2 ∧ l1 = l2
  · rw [if_pos hq]
    simp only [hq, and_self, decide_true] at he
    go_enter Tryz.func58, Tryz.ntmps58
    go_wp2
    all_goals
      go_ret
      exact ⟨rfl, (Kp.alloc _ _ _).tr (Kp.alloc _ _ _)⟩
  · rw [if_neg hq]
    have hd : decide (n1 = n2 ∧ h1 = h2 ∧ l1 = l2) = false := decide_eq_false hq
    rw [hd] at he
    clear hd hq
    by_cases hn : n1 = n2
    · subst hn
      rw [if_neg (by simp)]
      cases n1
      all_goals
        go_enter Tryz.func58, Tryz.ntmps58
        go_wp2
        all_goals
          go_ret
          refine ⟨ret_bool ?_, (Kp.alloc _ _ _).tr (Kp.alloc _ _ _)⟩
          first | (simp [*]; done) | (simp; omega)
    · rw [if_pos hn]
      cases n1 <;> cases n2
      · exact absurd rfl hn
      · clear hn
        go_enter Tryz.func58, Tryz.ntmps58
        go_wp2
        all_goals
          go_ret
          exact ⟨rfl, (Kp.alloc _ _ _).tr (Kp.alloc _ _ _)⟩
      · clear hn
        go_enter Tryz.func58, Tryz.ntmps58
        go_wp2
        all_goals
          go_ret
          exact ⟨rfl, (Kp.alloc _ _ _).tr (Kp.alloc _ _ _)⟩
      · exact absurd rfl hn
theorem less_any (x y : Int) (w : World) : Calls Tryz.prog 58 #[lgV x, lgV y] w fun e w' => e = .returned (.bool (decide (x < y))) ∧ Kp No w w' := by
  have := less_parts (decide (x < 0)) (decide (y < 0)) ((x.natAbs / 18446744073709551616 : Nat) : Int) ((x.natAbs % 18446744073709551616 : Nat) : Int) ((y.natAbs / 18446744073709551616 : Nat) : Int) ((y.natAbs % 18446744073709551616 : Nat) : Int) w
  rw [lgLess_eq] at this
  exact this
end Go.Proofs.YtakgcnjpmpcekaaGreat

namespace Go.Proofs.YtakgcnjpmpcekaaGreat
open Go.RowKit Go.Kq

def ivV (lo hi : Int) : Value := .agg #[.int .i64 lo, .int .i64 hi]
/-- The error of intervals. -/
def ckE (l : List (Int × Int)) : Int := if ∀ x ∈ l, fits x.1 = true ∧ fits x.2 = true then (if ∀ x ∈ l, x.1 ≤ x.2 then 0 else 2) else 7
theorem mem_take {α} {l : List α} {k : Nat} {x : α} (h : l[k]? = some x) : x ∈ l := List.mem_of_getElem? h
theorem all_take {α} {p : α → Prop} {l : List α} {k : Nat} {x : α} (h : ∀ y ∈ l.take k, p y) (hx : l[k]? = some x) (hp : p x) : ∀ y ∈ l.take (k + 1), p y := by
  intro y hy
  rw [List.take_add_one, hx] at hy
  rcases List.mem_append.1 hy with h1 | h1
  · exact h y h1
  · simp at h1
    rw [h1]
    exact hp
set_option maxHeartbeats 4000000 in
theorem check_any (l : List (Int × Int)) (g o n c : Nat) (w : World) (hl : l.length = n) (hn : n ≤ 1000)
    (hc : ∀ k x, l[k]? = some x → w.cell? ⟨g, o + k * 2, none⟩ = some (.int .i64 x.1) ∧ w.cell? ⟨g, o + k * 2 + 1, none⟩ = some (.int .i64 x.2)) :
    Calls Tryz.prog 39 #[.slice (some ⟨g, o, none⟩) n c] w fun e w' => e = .returned (.int .i64 (ckE l)) ∧ Kp No w w' := by
  have HC := Lib.hid hc
  clear hc
  have hnI : (n : Int) ≤ 1000 := by omega
  go_enter Tryz.func39, Tryz.ntmps39
  go_wp2_with fail
  go_loopw [9] (fun i wr => ∃ k : Nat, k ≤ n ∧ i = .int .i64 k ∧ (∀ x ∈ l.take k, fits x.1 = true ∧ fits x.2 = true) ∧ Kp No w wr) (fun i _ => n - (intOf i).toNat)
  case atStart => exact ⟨0, by omega, rfl, by simp, Kp.refl _ _⟩
  case round =>
    obtain ⟨k, hk, rfl, hall, hkp⟩ := hrel
    by_cases hkn : k < n
    · obtain ⟨x, hx⟩ : ∃ x, l[k]? = some x := ⟨l[k], List.getElem?_eq_getElem (by omega)⟩
      have c0 := hkp.cell (HC.out k x hx).1 (fun h => h)
      have c1 := hkp.cell (HC.out k x hx).2 (fun h => h)
      have hkI : (k : Int) < n := by omega
      have hw1 : IntKind.i64.wrap ((k : Int) + 1) = (k : Int) + 1 := by rw [IntKind.wrap_i64]; omega
      have HA := Lib.hid hall
      clear hall
      cases d1 : fits x.1
      · have HE := Lib.hid (show ckE l = 7 from by
          unfold ckE
          rw [if_neg]
          intro h
          have := (h x (mem_take hx)).1
          rw [d1] at this
          exact absurd this (by decide))
        go_wp2_with fail
        refine (number_any x.1 _).mono ?_
        rintro e w2 ⟨rfl, hw2⟩
        rw [d1]
        subst hw2
        go_wp2_with fail
        go_ret
        exact ⟨ret_i64 HE.out.symm, hkp.tr (Kp.alloc _ _ _)⟩
      · cases d2 : fits x.2
        · have HE := Lib.hid (show ckE l = 7 from by
            unfold ckE
            rw [if_neg]
            intro h
            have := (h x (mem_take hx)).2
            rw [d2] at this
            exact absurd this (by decide))
          go_wp2_with fail
          refine (number_any x.1 _).mono ?_
          rintro e w2 ⟨rfl, hw2⟩
          rw [d1]
          subst hw2
          go_wp2_with fail
          refine (number_any x.2 _).mono ?_
          rintro e w2 ⟨rfl, hw2⟩
          rw [d2]
          subst hw2
          go_wp2_with fail
          go_ret
          exact ⟨ret_i64 HE.out.symm, hkp.tr (Kp.alloc _ _ _)⟩
        · go_wp2_with fail
          refine (number_any x.1 _).mono ?_
          rintro e w2 ⟨rfl, hw2⟩
          rw [d1]
          subst hw2
          go_wp2_with fail
          refine (number_any x.2 _).mono ?_
          rintro e w2 ⟨rfl, hw2⟩
          rw [d2]
          subst hw2
          go_wp2_with fail
          go_roundw
          case rel => exact ⟨k + 1, by omega, by first | rfl | go_num, all_take HA.out hx ⟨d1, d2⟩, hkp.tr (Kp.alloc _ _ _)⟩
          case measure => simp [intOf]; omega
    · obtain rfl : k = n := by omega
      rw [List.take_of_length_le (by omega)] at hall
      have HA := Lib.hid hall
      clear hall
      go_wp2_with fail
      go_loopw [26] (fun i wr => ∃ k : Nat, k ≤ l.length ∧ i = .int .i64 k ∧ (∀ x ∈ l.take k, x.1 ≤ x.2) ∧ Kp No w wr) (fun i _ => l.length - (intOf i).toNat)
      case atStart => exact ⟨0, by omega, rfl, by simp, hkp⟩
      case round =>
        obtain ⟨m, hm, rfl, hle, hkp2⟩ := hrel
        by_cases hmn : m < l.length
        · obtain ⟨x, hx⟩ : ∃ x, l[m]? = some x := ⟨l[m], List.getElem?_eq_getElem (by omega)⟩
          have c0 := hkp2.cell (HC.out m x hx).1 (fun h => h)
          have c1 := hkp2.cell (HC.out m x hx).2 (fun h => h)
          have hmI : (m : Int) < k := by omega
          have hw1 : IntKind.i64.wrap ((m : Int) + 1) = (m : Int) + 1 := by rw [IntKind.wrap_i64]; omega
          have HL := Lib.hid hle
          clear hle
          by_cases hlt : x.2 < x.1
          · have HE := Lib.hid (show ckE l = 2 from by
              unfold ckE
              rw [if_pos HA.out, if_neg]
              intro h
              have := h x (mem_take hx)
              omega)
            go_wp2_with fail
            go_ret
            exact ⟨ret_i64 HE.out.symm, hkp2.tr (Kp.alloc _ _ _)⟩
          · have hlt' : x.1 ≤ x.2 := by omega
            go_wp2_with fail
            go_roundw
            case rel => exact ⟨m + 1, by omega, by first | rfl | go_num, all_take HL.out hx hlt', hkp2.tr (Kp.alloc _ _ _)⟩
            case measure => simp [intOf]; omega
        · rw [List.take_of_length_le (by omega)] at hle
          have HE := Lib.hid (show ckE l = 0 from by
            unfold ckE
            rw [if_pos HA.out, if_pos hle])
          have hmI : ¬ (m : Int) < k := by omega
          clear hle
          go_wp2_with fail
          go_ret
          exact ⟨ret_i64 HE.out.symm, hkp2⟩
end Go.Proofs.YtakgcnjpmpcekaaGreat

namespace Go.Proofs.YtakgcnjpmpcekaaGreat
open Go.RowKit Go.Kq

/-- What fit gives. -/
def fitE (lo hi : Int) : Int × Int × Int := if fits lo && fits hi then (lo, hi, 0) else (0, 0, 7)
def ieV (r : Int × Int × Int) : Value := .tuple #[ivV r.1 r.2.1, .int .i64 r.2.2]
theorem two_cells {w : World} {B : Nat} {a b : Value} {t : TypeId} (h : w.heap[B]? = some (.cells #[a, b] t (0, 0))) : w.cell? ⟨B, 0, none⟩ = some a ∧ w.cell? ⟨B, 1, none⟩ = some b ∧ w.frozen? ⟨B, 0, none⟩ = false ∧ w.frozen? ⟨B, 1, none⟩ = false := by
  refine ⟨by rw [cell_of_row w B 0 _ _ _ h]; rfl, by rw [cell_of_row w B 1 _ _ _ h]; rfl, ?_, ?_⟩
  · simp [World.frozen?, h]
  · simp [World.frozen?, h]
theorem at_new {w : World} {o : Obj} {n : Nat} (hn : w.heap.size = n) : (w.alloc o).heap[n]? = some o := by
  subst hn
  exact (MapKept.heap_alloc w o).1
theorem ck_le {l : List (Int × Int)} (h : ckE l = 0) : ∀ x ∈ l, x.1 ≤ x.2 := by
  unfold ckE at h
  by_cases h1 : ∀ x ∈ l, fits x.1 = true ∧ fits x.2 = true
  · rw [if_pos h1] at h
    by_cases h2 : ∀ x ∈ l, x.1 ≤ x.2
    · exact h2
    · rw [if_neg h2] at h
      omega
  · rw [if_neg h1] at h
    omega
theorem kp_set2 {w w1 : World} {B : Nat} {x y : Value} (h : Kp No w w1) (hB : w.heap.size ≤ B) : Kp No w ((w1.setCell ⟨B, 0, none⟩ x).setCell ⟨B, 1, none⟩ y) := by
  have k1 := Kp.setCell (Kq.One B) w1 ⟨B, 0, none⟩ x (fun _ => rfl)
  have k2 := Kp.setCell (Kq.One B) (w1.setCell ⟨B, 0, none⟩ x) ⟨B, 1, none⟩ y (fun _ => rfl)
  exact h.trans (k1.tr k2) (fun k hk t => by unfold Kq.One at t; omega)
/-- What Add gives. -/
def addE (a b : Int × Int) : Int × Int × Int := if ckE [a, b] = 0 then fitE (a.1 + b.1) (a.2 + b.2) else (0, 0, ckE [a, b])
theorem ck_fits {l : List (Int × Int)} (h : ckE l = 0) : ∀ x ∈ l, fits x.1 = true ∧ fits x.2 = true := by
  unfold ckE at h
  by_cases h1 : ∀ x ∈ l, fits x.1 = true ∧ fits x.2 = true
  · exact h1
  · rw [if_neg h1] at h
    omega
theorem fits_bounds {q : Int} (h : fits q = true) : -4611686018427387904 ≤ q ∧ q ≤ 4611686018427387904 := by
  unfold fits M62 at h
  simpa using h
end Go.Proofs.YtakgcnjpmpcekaaGreat
