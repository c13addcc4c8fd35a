/- spans: check, Check, fit, Add. · Chapter 09: outside, one, wrong, cut, spot: the small functions. -/
import Derived.Test.YtamjhpdgclbfgaaXSpaM
namespace Go.Proofs.Ytamjhpdgclbfgaa
open Go.RowKit Go.Kq

def ivV (lo hi : Int) : Value := .agg #[.int .i64 lo, .int .i64 hi]
/-- The error of intervals. -/
def ckE (l : List (Int × Int)) : Int := if ∀ x ∈ l, fits x.1 = true ∧ fits x.2 = true then (if ∀ x ∈ l, x.1 ≤ x.2 then 0 else 2) else 7
theorem mem_take {α} {l : List α} {k : Nat} {x : α} (h : l[k]? = some x) : x ∈ l := List.mem_of_getElem? h
theorem all_take {α} {p : α → Prop} {l : List α} {k : Nat} {x : α} (h : ∀ y ∈ l.take k, p y) (hx : l[k]? = some x) (hp : p x) : ∀ y ∈ l.take (k + 1), p y := by
  intro y hy
  rw [List.take_add_one, hx] at hy
  rcases List.mem_append.1 hy with h1 | h1
  · exact h y h1
  · simp at h1
    rw [h1]
    exact hp
set_option maxHeartbeats 4000000 in
theorem check_any (l : List (Int × Int)) (g o n c : Nat) (w : World) (hl : l.length = n) (hn : n ≤ 1000)
    (hc : ∀ k x, l[k]? = some x → w.cell? ⟨g, o + k * 2, none⟩ = some (.int .i64 x.1) ∧ w.cell? ⟨g, o + k * 2 + 1, none⟩ = some (.int .i64 x.2)) :
    Calls Try.prog 70 #[.slice (some ⟨g, o, none⟩) n c] w fun e w' => e = .returned (.int .i64 (ckE l)) ∧ Kp No w w' := by
  have HC := Lib.hid hc
  clear hc
  have hnI : (n : Int) ≤ 1000 := by omega
  go_enter Try.func70, Try.ntmps70
  go_wp2_with fail
  go_loopw [9] (fun i wr => ∃ k : Nat, k ≤ n ∧ i = .int .i64 k ∧ (∀ x ∈ l.take k, fits x.1 = true ∧ fits x.2 = true) ∧ Kp No w wr) (fun i _ => n - (intOf i).toNat)
  case atStart => exact ⟨0, by omega, rfl, by simp, Kp.refl _ _⟩
  case round =>
    obtain ⟨k, hk, rfl, hall, hkp⟩ := hrel
    by_cases hkn : k < n
    · obtain ⟨x, hx⟩ : ∃ x, l[k]? = some x := ⟨l[k], List.getElem?_eq_getElem (by omega)⟩
      have c0 := hkp.cell (HC.out k x hx).1 (fun h => h)
      have c1 := hkp.cell (HC.out k x hx).2 (fun h => h)
      have hkI : (k : Int) < n := by omega
      have hw1 : IntKind.i64.wrap ((k : Int) + 1) = (k : Int) + 1 := by rw [IntKind.wrap_i64]; omega
      have HA := Lib.hid hall
      clear hall
      cases d1 : fits x.1
      · have HE := Lib.hid (show ckE l = 7 from by
          unfold ckE
          rw [if_neg]
          intro h
          have := (h x (mem_take hx)).1
          rw [d1] at this
          exact absurd this (by decide))
        go_wp2_with fail
        refine (number_any x.1 _).mono ?_
        rintro e w2 ⟨rfl, hw2⟩
        rw [d1]
        subst hw2
        go_wp2_with fail
        go_ret
        exact ⟨ret_i64 HE.out.symm, hkp.tr (Kp.alloc _ _ _)⟩
      · cases d2 : fits x.2
        · have HE := Lib.hid (show ckE l = 7 from by
            unfold ckE
            rw [if_neg]
            intro h
            have := (h x (mem_take hx)).2
            rw [d2] at this
            exact absurd this (by decide))
          go_wp2_with fail
          refine (number_any x.1 _).mono ?_
          rintro e w2 ⟨rfl, hw2⟩
          rw [d1]
          subst hw2
          go_wp2_with fail
          refine (number_any x.2 _).mono ?_
          rintro e w2 ⟨rfl, hw2⟩
          rw [d2]
          subst hw2
          go_wp2_with fail
          go_ret
          exact ⟨ret_i64 HE.out.symm, hkp.tr (Kp.alloc _ _ _)⟩
        · go_wp2_with fail
          refine (number_any x.1 _).mono ?_
          rintro e w2 ⟨rfl, hw2⟩
          rw [d1]
          subst hw2
          go_wp2_with fail
          refine (number_any x.2 _).mono ?_
          rintro e w2 ⟨rfl, hw2⟩
          rw [d2]
          subst hw2
          go_wp2_with fail
          go_roundw
          case rel => exact ⟨k + 1, by omega, by first | rfl | go_num, all_take HA.out hx ⟨d1, d2⟩, hkp.tr (Kp.alloc _ _ _)⟩
          case measure => simp [intOf]; omega
    · obtain rfl : k = n := by omega
      rw [List.take_of_length_le (by omega)] at hall
      have HA := Lib.hid hall
      clear hall
      go_wp2_with fail
      go_loopw [26] (fun i wr => ∃ k : Nat, k ≤ l.length ∧ i = .int .i64 k ∧ (∀ x ∈ l.take k, x.1 ≤ x.2) ∧ Kp No w wr) (fun i _ => l.length - (intOf i).toNat)
      case atStart => exact ⟨0, by omega, rfl, by simp, hkp⟩
      case round =>
        obtain ⟨m, hm, rfl, hle, hkp2⟩ := hrel
        by_cases hmn : m < l.length
        · obtain ⟨x, hx⟩ : ∃ x, l[m]? = some x := ⟨l[m], List.getElem?_eq_getElem (by omega)⟩
          have c0 := hkp2.cell (HC.out m x hx).1 (fun h => h)
          have c1 := hkp2.cell (HC.out m x hx).2 (fun h => h)
          have hmI : (m : Int) < k := by omega
          have hw1 : IntKind.i64.wrap ((m : Int) + 1) = (m : Int) + 1 := by rw [IntKind.wrap_i64]; omega
          have HL := Lib.hid hle
          clear hle
          by_cases hlt : x.2 < x.1
          · have HE := Lib.hid (show ckE l = 2 from by
              unfold ckE
              rw [if_pos HA.out, if_neg]
              intro h
              have := h x (mem_take hx)
              omega)
            go_wp2_with fail
            go_ret
            exact ⟨ret_i64 HE.out.symm, hkp2.tr (Kp.alloc _ _ _)⟩
          · have hlt' : x.1 ≤ x.2 := by omega
            go_wp2_with fail
            go_roundw
            case rel => exact ⟨m + 1, by omega, by first | rfl | go_num, all_take HL.out hx hlt', hkp2.tr (Kp.alloc _ _ _)⟩
            case measure => simp [intOf]; omega
        · rw [List.take_of_length_le (by omega)] at hle
          have HE := Lib.hid (show ckE l = 0 from by
            unfold ckE
            rw [if_pos HA.out, if_pos hle])
          have hmI : ¬ (m : Int) < k := by omega
          clear hle
          go_wp2_with fail
          go_ret
          exact ⟨ret_i64 HE.out.symm, hkp2⟩
end Go.Proofs.Ytamjhpdgclbfgaa

namespace Go.Proofs.Ytamjhpdgclbfgaa
open Go.RowKit Go.Kq

def outB (n a b : Int) : Bool := decide (n < a) || decide (b < n)
def badC (c : Ct) : Bool := outB c.w 1 20000000 || outB c.h 1 20000000
theorem outside_any (n a b : Int) (w : World) : Calls Try.prog 43 #[.int .i64 n, .int .i64 a, .int .i64 b] w fun e w' => e = .returned (.bool (outB n a b)) ∧ w' = w := by
  unfold outB
  go_enter Try.func43, Try.ntmps43
  go_wp2
  all_goals
    go_ret
    refine ⟨ret_bool ?_, rfl⟩
    first | (simp [*]; done) | (simp; omega)
theorem one_any (n : Int) (w : World) : Calls Try.prog 45 #[.int .i64 n] w fun e w' => e = .returned (ivV n n) ∧ Kp No w w' := by
  go_enter Try.func45, Try.ntmps45
  go_wp2
  have hk : Kp No w (w.alloc (.cells #[.int .i64 n, .int .i64 n] 40)) := Kp.alloc _ _ _
  have p0 : (w.alloc (.cells #[.int .i64 n, .int .i64 n] 40)).cell? ⟨w.heap.size, 0, none⟩ = some (.int .i64 n) := by go_simp
  have p1 : (w.alloc (.cells #[.int .i64 n, .int .i64 n] 40)).cell? ⟨w.heap.size, 1, none⟩ = some (.int .i64 n) := by go_simp
  generalize (w.alloc (.cells #[.int .i64 n, .int .i64 n] 40)) = w2 at p0 p1 hk ⊢
  exact bodyPost_ret (v := .agg #[.int .i64 n, .int .i64 n]) (by simp [results, Try.results45, go_sem, p0, p1]) rfl ⟨rfl, hk⟩
theorem cut_any (a b : Int) (w : World) : Calls Try.prog 24 #[.int .i64 a, .int .i64 b] w fun e w' => e = .returned (Ct.val ⟨a, b⟩) ∧ Kp No w w' := by
  go_enter Try.func24, Try.ntmps24
  go_wp2
  have hk : Kp No w (w.alloc (.cells #[.int .i64 a, .int .i64 b] 35)) := Kp.alloc _ _ _
  have p0 : (w.alloc (.cells #[.int .i64 a, .int .i64 b] 35)).cell? ⟨w.heap.size, 0, none⟩ = some (.int .i64 a) := by go_simp
  have p1 : (w.alloc (.cells #[.int .i64 a, .int .i64 b] 35)).cell? ⟨w.heap.size, 1, none⟩ = some (.int .i64 b) := by go_simp
  generalize (w.alloc (.cells #[.int .i64 a, .int .i64 b] 35)) = w2 at p0 p1 hk ⊢
  exact bodyPost_ret (v := .agg #[.int .i64 a, .int .i64 b]) (by simp [results, Try.results24, go_sem, p0, p1]) rfl ⟨rfl, hk⟩
theorem spot_any (a b c d : Int) (w : World) : Calls Try.prog 25 #[.int .i64 a, .int .i64 b, .int .i64 c, .int .i64 d] w fun e w' => e = .returned (Spo.val ⟨a, b, c, d⟩) ∧ Kp No w w' := by
  go_enter Try.func25, Try.ntmps25
  go_wp2
  have hk : Kp No w (w.alloc (.cells #[.int .i64 a, .int .i64 b, .int .i64 c, .int .i64 d] 52)) := Kp.alloc _ _ _
  have p0 : (w.alloc (.cells #[.int .i64 a, .int .i64 b, .int .i64 c, .int .i64 d] 52)).cell? ⟨w.heap.size, 0, none⟩ = some (.int .i64 a) := by go_simp
  have p1 : (w.alloc (.cells #[.int .i64 a, .int .i64 b, .int .i64 c, .int .i64 d] 52)).cell? ⟨w.heap.size, 1, none⟩ = some (.int .i64 b) := by go_simp
  have p2 : (w.alloc (.cells #[.int .i64 a, .int .i64 b, .int .i64 c, .int .i64 d] 52)).cell? ⟨w.heap.size, 2, none⟩ = some (.int .i64 c) := by go_simp
  have p3 : (w.alloc (.cells #[.int .i64 a, .int .i64 b, .int .i64 c, .int .i64 d] 52)).cell? ⟨w.heap.size, 3, none⟩ = some (.int .i64 d) := by go_simp
  generalize (w.alloc (.cells #[.int .i64 a, .int .i64 b, .int .i64 c, .int .i64 d] 52)) = w2 at p0 p1 p2 p3 hk ⊢
  exact bodyPost_ret (v := .agg #[.int .i64 a, .int .i64 b, .int .i64 c, .int .i64 d]) (by simp [results, Try.results25, go_sem, p0, p1, p2, p3]) rfl ⟨rfl, hk⟩
end Go.Proofs.Ytamjhpdgclbfgaa
