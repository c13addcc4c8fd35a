/- Chapter 27: the reference's before and many, the statements' before: walks. -/
import Derived.Test.YtjbpdimepckmfaaXChk
import Derived.Test.YtjbpdimepckmfaaXLibHvM
namespace Go.Proofs.Ytjbpdimepckmfaa
open Go.RowKit Go.Kq

set_option maxHeartbeats 2000000 in
set_option maxRecDepth 100000 in
theorem rbefore_any (a b : Wk) (w : World) : Calls Try.prog 43 #[a.val, b.val] w fun e w' => e = .returned (.bool (ltW a b)) ∧ Kp No w w' := by
  obtain ⟨a0, a1, a2, a3, a4, a5, a6, a7, a8, a9, a10⟩ := a
  obtain ⟨b0, b1, b2, b3, b4, b5, b6, b7, b8, b9, b10⟩ := b
  simp only [Wk.val, ltW]
  rcases Int.lt_trichotomy a2 b2 with h2 | h2 | h2
  · have e2 : (a2 != b2) = true := by simp; omega
    go_enter Try.func43, Try.ntmps43
    go_wp2
    all_goals
      go_ret
      exact ⟨ret_bool (by rw [Bool.eq_iff_iff]; simp; omega), (Kp.alloc _ _ _).tr (Kp.alloc _ _ _)⟩
  · subst h2
    rcases Int.lt_trichotomy a0 b0 with h0 | h0 | h0
    · have e0 : (a0 != b0) = true := by simp; omega
      go_enter Try.func43, Try.ntmps43
      go_wp2
      all_goals
        go_ret
        exact ⟨ret_bool (by rw [Bool.eq_iff_iff]; simp; omega), (Kp.alloc _ _ _).tr (Kp.alloc _ _ _)⟩
    · subst h0
      go_enter Try.func43, Try.ntmps43
      go_wp2
      all_goals
        go_ret
        exact ⟨ret_bool (by rw [Bool.eq_iff_iff]; simp), (Kp.alloc _ _ _).tr (Kp.alloc _ _ _)⟩
    · have e0 : (a0 != b0) = true := by simp; omega
      go_enter Try.func43, Try.ntmps43
      go_wp2
      all_goals
        go_ret
        exact ⟨ret_bool (by rw [Bool.eq_iff_iff]; simp; omega), (Kp.alloc _ _ _).tr (Kp.alloc _ _ _)⟩
  · have e2 : (a2 != b2) = true := by simp; omega
    go_enter Try.func43, Try.ntmps43
    go_wp2
    all_goals
      go_ret
      exact ⟨ret_bool (by rw [Bool.eq_iff_iff]; simp; omega), (Kp.alloc _ _ _).tr (Kp.alloc _ _ _)⟩
set_option maxHeartbeats 2000000 in
theorem rmany_any (A : Option Addr) (n ca : Nat) (l : List Wk) (k : Int) (w : World) (hx : RdW w A n l) (hn : n ≤ 1000) : Calls Try.prog 44 #[.slice A n ca, .int .i64 k] w fun e w' => e = .returned (.int .i64 (many l k)) ∧ w' = w := by
  have hl := hx.1
  go_enter Try.func44, Try.ntmps44
  go_wp2_with fail
  go_loop [5, 6] (fun vn vi => ∃ i : Nat, i ≤ n ∧ vi = .int .i64 i ∧ vn = .int .i64 (many (l.take i) k)) (fun _ vi => n - (intOf vi).toNat)
  case atStart => exact ⟨0, by omega, rfl, rfl⟩
  case round =>
    obtain ⟨i, hi, rfl, rfl⟩ := hrel
    by_cases hlt : i < n
    · obtain ⟨v, hv⟩ : ∃ v, l[i]? = some v := ⟨_, List.getElem?_eq_getElem (by omega)⟩
      obtain ⟨b, o, rfl, hb, hat⟩ := RdW.at_ hx hv
      have c0 := hat.1
      have HT := Lib.hid (show many (l.take (i + 1)) k = many (l.take i) k + if v.wk = k then 1 else 0 by rw [List.take_add_one, hv]; exact many_snoc _ _ _)
      have hm : many (l.take i) k ≤ 1000 := by have := many_le (l.take i) k; rw [List.length_take] at this; omega
      clear hat hv
      by_cases h : v.wk = k
      · have e : (v.wk == k) = true := by rw [beq_iff_eq]; exact h
        have HT2 := Lib.hid (HT.out.trans (by rw [if_pos h]))
        clear h
        go_wp2
        go_round
        case rel => exact ⟨i + 1, by omega, by go_num, by rw [HT2.out]; go_num⟩
        case measure => simp [intOf]; omega
      · have e : (v.wk == k) = false := by rw [beq_eq_false_iff_ne]; exact h
        have HT2 : Hid (many (l.take (i + 1)) k = many (l.take i) k) := Lib.hid (by rw [HT.out, if_neg h, Nat.add_zero])
        clear h
        go_wp2
        go_round
        case rel => exact ⟨i + 1, by omega, by go_num, by rw [HT2.out]⟩
        case measure => simp [intOf]; omega
    · obtain rfl : i = n := by omega
      go_wp2
      go_ret
      exact ⟨ret_i64 (by rw [List.take_of_length_le (by omega)]), rfl⟩
end Go.Proofs.Ytjbpdimepckmfaa
