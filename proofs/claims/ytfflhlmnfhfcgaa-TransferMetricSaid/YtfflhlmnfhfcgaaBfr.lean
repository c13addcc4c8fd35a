/- Chapter 33: walks of the reference's before and less. -/
import Derived.Test.YtfflhlmnfhfcgaaRfSr
import Derived.Test.YtfflhlmnfhfcgaaLibGrd
namespace Go.Proofs.Ytfflhlmnfhfcgaa
open Go.RowKit Go.Kq

set_option maxHeartbeats 1000000 in
theorem before_any (a b : Vc) (w : World) : Calls Try.prog 68 #[a.val, b.val] w fun e w' => e = .returned (.bool (decide (Bef a b))) ∧ Kp No w w' := by
  obtain ⟨d, p, f, q⟩ := a
  obtain ⟨d', p', f', q'⟩ := b
  simp only [Vc.val]
  by_cases hd : d = d'
  · subst hd
    by_cases hp : p = p'
    · subst hp
      go_enter Try.func68, Try.ntmps68
      go_wp2
      all_goals
        go_ret
        refine ⟨ret_bool ?_, (Kp.alloc _ _ _).tr (Kp.alloc _ _ _)⟩
        rw [Bool.eq_iff_iff]
        simp [Bef]
    · have hb : (p == p') = false := by rw [beq_eq_false_iff_ne]; exact hp
      have HP := Lib.hid hp
      clear hp
      go_enter Try.func68, Try.ntmps68
      go_wp2
      all_goals
        go_ret
        refine ⟨ret_bool ?_, (Kp.alloc _ _ _).tr (Kp.alloc _ _ _)⟩
        have := HP.out
        rw [Bool.eq_iff_iff]
        simp [Bef, this]
        try omega
  · have hb : (d == d') = false := by rw [beq_eq_false_iff_ne]; exact hd
    have HD := Lib.hid hd
    clear hd
    go_enter Try.func68, Try.ntmps68
    go_wp2
    all_goals
      go_ret
      refine ⟨ret_bool ?_, (Kp.alloc _ _ _).tr (Kp.alloc _ _ _)⟩
      have := HD.out
      rw [Bool.eq_iff_iff]
      simp [Bef, this]
      try omega
theorem lex_step (A B : List Nat) : ∀ (k : Nat), A.take k = B.take k → lexlt A B = lexlt (A.drop k) (B.drop k)
  | 0, _ => rfl
  | k + 1, h => by
    cases A with
    | nil =>
      cases B with
      | nil => rfl
      | cons b B => simp at h
    | cons a A =>
      cases B with
      | nil => simp at h
      | cons b B =>
        simp only [List.take_succ_cons, List.cons.injEq] at h
        obtain ⟨rfl, h⟩ := h
        have := lex_step A B k h
        simp [lexlt, this]
set_option maxHeartbeats 1000000 in
theorem less_any (A B : Option Addr) (n ca cb : Nat) (xs ys : List Nat) (w : World) (hx : RdI w A n (xs.map Int.ofNat)) (hy : RdI w B n (ys.map Int.ofNat)) (hn : n ≤ 100000000) :
    Calls Try.prog 54 #[.slice A n ca, .slice B n cb] w fun e w' => e = .returned (.bool (lexlt xs ys)) ∧ Kp No w w' := by
  have hxl : xs.length = n := by simpa using hx.1
  have hyl : ys.length = n := by simpa using hy.1
  go_enter Try.func54, Try.ntmps54
  go_wp2_with fail
  go_loopw [5] (fun i wr => ∃ k : Nat, k ≤ n ∧ i = .int .i64 k ∧ xs.take k = ys.take k ∧ Kp No w wr) (fun i _ => n - (intOf i).toNat)
  case atStart => exact ⟨0, by omega, rfl, by simp, Kp.refl _ _⟩
  case round =>
    obtain ⟨k, hk, rfl, hno, hkp⟩ := hrel
    by_cases hlt : k < n
    · obtain ⟨x, hxk⟩ : ∃ x, xs[k]? = some x := ⟨_, List.getElem?_eq_getElem (by omega)⟩
      obtain ⟨y, hyk⟩ : ∃ y, ys[k]? = some y := ⟨_, List.getElem?_eq_getElem (by omega)⟩
      obtain ⟨b, o, rfl, c0⟩ := (hx.no hkp).2 k x (by rw [List.getElem?_map, hxk]; rfl)
      obtain ⟨b', o', rfl, c1⟩ := (hy.no hkp).2 k y (by rw [List.getElem?_map, hyk]; rfl)
      replace c0 : wr.cell? ⟨b, o + k, none⟩ = some (.int .i64 (x : Int)) := c0
      replace c1 : wr.cell? ⟨b', o' + k, none⟩ = some (.int .i64 (y : Int)) := c1
      have Ht := Lib.hid hno
      have X := Lib.hid hxk
      have Y := Lib.hid hyk
      clear hno hxk hyk
      by_cases hxy : x = y
      · subst hxy
        go_wp2_with fail
        go_quiet (fail)
        go_wp2_with fail
        go_roundw
        case rel => exact ⟨k + 1, by omega, by go_num, by rw [List.take_add_one, List.take_add_one, Ht.out, X.out, Y.out], hkp.tr (Kp.drewN _ _ _)⟩
        case measure => simp [intOf]; omega
      · have hb : ((x : Int) == (y : Int)) = false := by rw [beq_eq_false_iff_ne]; omega
        have HN := Lib.hid hxy
        have hres : decide (x < y) = lexlt xs ys := by
          rw [lex_step xs ys k Ht.out]
          rw [List.drop_eq_getElem_cons (show k < xs.length by omega), List.drop_eq_getElem_cons (show k < ys.length by omega)]
          have e1 : xs[k]'(by omega) = x := (List.getElem?_eq_some_iff.1 X.out).2
          have e2 : ys[k]'(by omega) = y := (List.getElem?_eq_some_iff.1 Y.out).2
          rw [e1, e2]
          simp [lexlt, HN.out]
        have HR := Lib.hid hres
        clear hxy hres
        go_wp2_with fail
        go_quiet (fail)
        go_wp2_with fail
        go_quiet (fail)
        go_wp2_with fail
        go_ret
        exact ⟨ret_bool (by rw [← HR.out]; try simp), (hkp.tr (Kp.drewN _ _ _)).tr (Kp.drewN _ _ _)⟩
    · have hres : lexlt xs ys = false := by
        rw [List.take_of_length_le (by omega), List.take_of_length_le (by omega)] at hno
        rw [hno]
        exact lex_irr _
      have HE := Lib.hid hres
      clear hres hno
      go_wp2
      go_ret
      exact ⟨ret_bool (by rw [HE.out]), hkp⟩
end Go.Proofs.Ytfflhlmnfhfcgaa
