/- spans: the order of two numbers of two words and a sign. -/
import Derived.Test.YtlieijnhaolnhaaSpa
namespace Go.Proofs.Ytlieijnhaolnhaa
open Go.RowKit Go.Kq

set_option maxRecDepth 100000 in
theorem lg_eql (n1 n2 : Bool) (h1 l1 h2 l2 : Int) (w : World) : Sem.run Try.prog (binOp .eql 96 (.agg #[.bool n1, .int .u64 h1, .int .u64 l1]) (.agg #[.bool n2, .int .u64 h2, .int .u64 l2])) w = .ok (.bool (decide (n1 = n2 ∧ h1 = h2 ∧ l1 = l2))) w := by
  have hS : Try.prog.underlying 96 = some (.struct (Try.prog.fieldsOf 96)) := by kernel_rfl
  have hp : Try.prog.stoodInHeld 96 = false := by kernel_rfl
  have u3 := Try.underlying4
  have u4 := Try.underlying61
  rw [run_eql_struct, show (10000 : Nat) = 9999 + 1 from rfl, run_equalIn_agg w 9999 96 _ _ hS hp]
  simp only [Program.fieldsOf, Try.underlying96]
  go_simp
  cases n1 <;> cases n2 <;> by_cases e2 : h1 = h2 <;> by_cases e3 : l1 = l2 <;> simp [e2, e3]
theorem lg_guard (op : BinOp) (a b : Operand) (xs ys : Array Value) (w : World) : Sem.run Try.prog (eqGuard op 96 a b (.agg xs) (.agg ys)) w = .ok () w := run_eqGuard_agg w op 96 a b xs ys (by kernel_rfl)
/-- Less, by the parts. -/
def lgLess (n1 n2 : Bool) (h1 l1 h2 l2 : Int) : Bool := if n1 = n2 ∧ h1 = h2 ∧ l1 = l2 then false else if n1 ≠ n2 then n1 else (decide (h1 < h2) || decide (h1 = h2) && decide (l1 < l2)) != n1
theorem lgLess_eq (x y : Int) : lgLess (decide (x < 0)) (decide (y < 0)) ((x.natAbs / 18446744073709551616 : Nat) : Int) ((x.natAbs % 18446744073709551616 : Nat) : Int) ((y.natAbs / 18446744073709551616 : Nat) : Int) ((y.natAbs % 18446744073709551616 : Nat) : Int) = decide (x < y) := by
  unfold lgLess
  have dx := Nat.div_add_mod x.natAbs 18446744073709551616
  have dy := Nat.div_add_mod y.natAbs 18446744073709551616
  have mx := Nat.mod_lt x.natAbs (show 0 < 18446744073709551616 by omega)
  have my := Nat.mod_lt y.natAbs (show 0 < 18446744073709551616 by omega)
  generalize x.natAbs / 18446744073709551616 = a at *
  generalize x.natAbs % 18446744073709551616 = b at *
  generalize y.natAbs / 18446744073709551616 = c at *
  generalize y.natAbs % 18446744073709551616 = d at *
  by_cases hx : x < 0 <;> by_cases hy : y < 0
  · simp only [hx, hy, decide_true, true_and, ne_eq, not_true_eq_false, if_false]
    split
    · rw [decide_eq_false (by omega)]
    · by_cases h : x < y
      · rw [decide_eq_true h]
        by_cases h1 : (a : Int) < c
        · omega
        · rw [decide_eq_false h1]
          by_cases h2 : (a : Int) = c
          · rw [decide_eq_true h2, decide_eq_false (by omega)]; rfl
          · rw [decide_eq_false h2]; rfl
      · rw [decide_eq_false h]
        by_cases h1 : (a : Int) < c
        · rw [decide_eq_true h1]; rfl
        · rw [decide_eq_false h1]
          by_cases h2 : (a : Int) = c
          · rw [decide_eq_true h2, decide_eq_true (by omega)]; rfl
          · omega
  · simp [hx, hy]
    omega
  · simp [hx, hy]
    omega
  · simp only [hx, hy, decide_false, true_and, ne_eq, not_true_eq_false, if_false]
    split
    · rw [decide_eq_false (by omega)]
    · by_cases h : x < y
      · rw [decide_eq_true h]
        by_cases h1 : (a : Int) < c
        · rw [decide_eq_true h1]; rfl
        · rw [decide_eq_false h1]
          by_cases h2 : (a : Int) = c
          · rw [decide_eq_true h2, decide_eq_true (by omega)]; rfl
          · omega
      · rw [decide_eq_false h]
        by_cases h1 : (a : Int) < c
        · omega
        · rw [decide_eq_false h1]
          by_cases h2 : (a : Int) = c
          · rw [decide_eq_true h2, decide_eq_false (by omega)]; rfl
          · rw [decide_eq_false h2]; rfl
set_option maxHeartbeats 2000000 in
theorem less_parts (n1 n2 : Bool) (h1 l1 h2 l2 : Int) (w : World) :
    Calls Try.prog 84 #[.agg #[.bool n1, .int .u64 h1, .int .u64 l1], .agg #[.bool n2, .int .u64 h2, .int .u64 l2]] w fun e w' => e = .returned (.bool (lgLess n1 n2 h1 l1 h2 l2)) ∧ Kp No w w' := by
  have hg := lg_guard
  have he := lg_eql n1 n2 h1 l1 h2 l2
  unfold lgLess
  by_cases hq : n1 = n2 ∧ h1 = h2 ∧ l1 = l2
  · rw [if_pos hq]
    simp only [hq, and_self, decide_true] at he
    go_enter Try.func84, Try.ntmps84
    go_wp2
    all_goals
      go_ret
      exact ⟨rfl, (Kp.alloc _ _ _).tr (Kp.alloc _ _ _)⟩
  · rw [if_neg hq]
    have hd : decide (n1 = n2 ∧ h1 = h2 ∧ l1 = l2) = false := decide_eq_false hq
    rw [hd] at he
    clear hd hq
    by_cases hn : n1 = n2
    · subst hn
      rw [if_neg (by simp)]
      cases n1
      all_goals
        go_enter Try.func84, Try.ntmps84
        go_wp2
        all_goals
          go_ret
          refine ⟨ret_bool ?_, (Kp.alloc _ _ _).tr (Kp.alloc _ _ _)⟩
          first | (simp [*]; done) | (simp; omega)
    · rw [if_pos hn]
      cases n1 <;> cases n2
      · exact absurd rfl hn
      · clear hn
        go_enter Try.func84, Try.ntmps84
        go_wp2
        all_goals
          go_ret
          exact ⟨rfl, (Kp.alloc _ _ _).tr (Kp.alloc _ _ _)⟩
      · clear hn
        go_enter Try.func84, Try.ntmps84
        go_wp2
        all_goals
          go_ret
          exact ⟨rfl, (Kp.alloc _ _ _).tr (Kp.alloc _ _ _)⟩
      · exact absurd rfl hn
theorem less_any (x y : Int) (w : World) : Calls Try.prog 84 #[lgV x, lgV y] w fun e w' => e = .returned (.bool (decide (x < y))) ∧ Kp No w w' := by
  have := less_parts (decide (x < 0)) (decide (y < 0)) ((x.natAbs / 18446744073709551616 : Nat) : Int) ((x.natAbs % 18446744073709551616 : Nat) : Int) ((y.natAbs / 18446744073709551616 : Nat) : Int) ((y.natAbs % 18446744073709551616 : Nat) : Int) w
  rw [lgLess_eq] at this
  exact this
end Go.Proofs.Ytlieijnhaolnhaa
