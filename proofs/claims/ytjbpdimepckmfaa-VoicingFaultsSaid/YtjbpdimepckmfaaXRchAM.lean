/- Chapter 27: slices.Clone of works; cmp.Or of errors. · Chapter 27: the reference's before and many, the statements' before: walks. -/
import Derived.WalkSpells
import Derived.Maps.AppendAt
import Derived.OwnWalk
import Derived.Test.YtjbpdimepckmfaaXLibStiM
import Derived.Test.YtjbpdimepckmfaaXLibAppM
import Derived.Test.YtjbpdimepckmfaaXLibMakeM
import Derived.Test.YtjbpdimepckmfaaXLibHvM
namespace Go.Proofs.Ytjbpdimepckmfaa
open Go.RowKit Go.Kq

theorem info41 : (Try.prog.info? 41).map (fun i => (i.zero, i.size, i.bytes)) = some (some (Wk.val default), 11, 96) := by kernel_rfl
theorem wk_one (l : List Wk) : ∀ u ∈ l.flatMap Wk.cells, u.oneCell' = true := by
  intro u hu
  obtain ⟨v, _, hv⟩ := List.mem_flatMap.1 hu
  simp [Wk.cells] at hv
  rcases hv with rfl | rfl | rfl | rfl | rfl | rfl | rfl | rfl | rfl | rfl | rfl <;> rfl
/-- The cells of a slice of works. -/
theorem rd_news {w : World} {A : Option Addr} {n : Nat} {l : List Wk} (h : RdW w A n l) : ∀ ad, A = some ad → ∀ j u, (l.flatMap Wk.cells)[j]? = some u → w.cell? (ad.add j) = some u := by
  intro ad had j u hj
  have hjl := (List.getElem?_eq_some_iff.1 hj).1
  rw [flat_len wk_len] at hjl
  have hd : j / 11 < l.length := Nat.div_lt_of_lt_mul (by omega)
  obtain ⟨b, o, hA, _, hc⟩ := h.2 (j / 11) l[j / 11] (List.getElem?_eq_getElem hd)
  rw [had] at hA
  cases hA
  have hm : j % 11 < (l[j / 11]).cells.length := by rw [wk_len]; omega
  have h1 := flat_at wk_len l (j / 11) l[j / 11] (j % 11) _ (List.getElem?_eq_getElem hd) (List.getElem?_eq_getElem hm)
  rw [Nat.div_add_mod', hj] at h1
  have h2 := hc (j % 11) _ (List.getElem?_eq_getElem hm)
  rw [add_at, show o + j = o + j / 11 * 11 + j % 11 by omega, h2]
  exact h1.symm
set_option maxHeartbeats 1000000 in
theorem clone_any (A : Option Addr) (n ca : Nat) (l : List Wk) (w : World) (h : RdW w A n l) (hn : n ≤ 1000) (hA : A = none → n = 0 ∧ ca = 0) :
    Calls Try.prog 47 #[.slice A n ca] w fun e w' => ∃ v, e = .returned v ∧ w'.ownsRow w.heap.size 41 11 v n (l.flatMap Wk.cells) ∧ Kp No w w' := by
  obtain ⟨i0, hi0, hz0, hz1, hz2⟩ := info_parts info41
  have hl := h.1
  cases A with
  | none =>
    obtain ⟨rfl, rfl⟩ := hA rfl
    have qT : ∀ (w : World) (a : Option Addr) (n c n' c' : Nat), (binOp .eql 22 (.slice a n c) (.slice none n' c')).run Try.prog w = .ok (.bool a.isNone) w := fun w a n c n' c' => Lib.run_eql_slice_nil w _ _ a n c n' c' Try.underlying22
    have hl0 := List.length_eq_zero_iff.1 hl
    subst hl0
    clear hl h
    go_enter Try.func47, Try.ntmps47
    go_wp2
    go_ret
    exact ⟨_, rfl, ⟨rfl, .inl ⟨rfl, rfl⟩⟩, Kp.refl _ _⟩
  | some ad =>
    have qT : ∀ (w : World) (a : Option Addr) (n c n' c' : Nat), (binOp .eql 22 (.slice a n c) (.slice none n' c')).run Try.prog w = .ok (.bool a.isNone) w := fun w a n c n' c' => Lib.run_eql_slice_nil w _ _ a n c n' c' Try.underlying22
    have hnews := rd_news (h.no (Kp.alloc No w (.cells #[] 41)))
    go_enter Try.func47, Try.ntmps47
    go_wp2_with (at_builtin; refine wpL_append_any rfl _ _ 22 rfl w.heap.size 41 i0 (Wk.val default) 11 96 Try.underlying22 hi0 hz0 hz1 hz2 rfl (by decide) (.slice (some ⟨w.heap.size, 0, none⟩) 0 0) 0 [] rfl (own_empty (Nat.le_refl _)) (some ad) n ca (l.flatMap Wk.cells) rfl (by rw [flat_len wk_len, hl]) (fun h => (by cases h)) hnews (wk_one l) (by unfold maxLen; omega) (by omega) (by simp) ?_; intro v' w1 hown' hgrow hat)
    go_ret
    refine ⟨v', rfl, by simpa using hown', (Kp.alloc _ _ _).trans (Kp.grown (S := Kq.One w.heap.size) hgrow fun k hk _ => by simp [Value.ownBlock] at hk; exact hk.symm) fun k hk hS => ?_⟩
    unfold Kq.One at hS
    omega
set_option maxHeartbeats 1000000 in
theorem orE_any (A : Option Addr) (n cap : Nat) (xs : List Int) (w : World) (hx : RdI .i64 w A n xs) (hn : n ≤ 1000000) :
    Calls Try.prog 45 #[.slice A n cap] w fun e w' => e = .returned (.int .i64 (orL xs)) ∧ w' = w := by
  have hl := hx.1
  go_enter Try.func45, Try.ntmps45
  go_wp2_with fail
  go_loop [8] (fun i => ∃ k : Nat, k ≤ n ∧ i = .int .i64 k ∧ ∀ j x, j < k → xs[j]? = some x → x = 0) (fun i => n - (intOf i).toNat)
  case atStart => exact ⟨0, by omega, rfl, fun j x h => by omega⟩
  case round =>
    obtain ⟨k, hk, rfl, hz⟩ := hrel
    have HZ := Lib.hid hz
    clear hz
    by_cases hlt : k < n
    · obtain ⟨x, hxk⟩ : ∃ x, xs[k]? = some x := ⟨_, List.getElem?_eq_getElem (by omega)⟩
      obtain ⟨b, o, rfl, hb, c0⟩ := hx.2 k x hxk
      have HX := Lib.hid hxk
      clear hxk
      by_cases h0 : x = 0
      · subst h0
        go_wp2
        go_round
        case rel =>
          refine ⟨k + 1, by omega, by go_num, fun j y hj hy => ?_⟩
          by_cases e : j = k
          · subst e
            have := HX.out
            rw [hy] at this
            cases this
            rfl
          · exact HZ.out j y (by omega) hy
        case measure => simp [intOf]; omega
      · have hne : (x == 0) = false := by rw [beq_eq_false_iff_ne]; exact h0
        go_wp2
        go_ret
        refine ⟨ret_i64 ?_, rfl⟩
        rw [orL_drop xs k HZ.out, List.drop_eq_getElem_cons (by omega)]
        have := HX.out
        rw [List.getElem?_eq_getElem (by omega)] at this
        simp at this
        simp [orL, this, h0]
    · go_wp2
      go_ret
      refine ⟨ret_i64 ?_, rfl⟩
      rw [orL_drop xs k HZ.out, List.drop_of_length_le (by omega)]
      rfl
end Go.Proofs.Ytjbpdimepckmfaa

namespace Go.Proofs.Ytjbpdimepckmfaa
open Go.RowKit Go.Kq

set_option maxHeartbeats 2000000 in
set_option maxRecDepth 100000 in
theorem rbefore_any (a b : Wk) (w : World) : Calls Try.prog 43 #[a.val, b.val] w fun e w' => e = .returned (.bool (ltW a b)) ∧ Kp No w w' := by
  obtain ⟨a0, a1, a2, a3, a4, a5, a6, a7, a8, a9, a10⟩ := a
  obtain ⟨b0, b1, b2, b3, b4, b5, b6, b7, b8, b9, b10⟩ := b
  simp only [Wk.val, ltW]
  rcases Int.lt_trichotomy a2 b2 with h2 | h2 | h2
  · have e2 : (a2 != b2) = true := by simp; omega
    go_enter Try.func43, Try.ntmps43
    go_wp2
    all_goals
      go_ret
      exact ⟨ret_bool (by rw [Bool.eq_iff_iff]; simp; omega), (Kp.alloc _ _ _).tr (Kp.alloc _ _ _)⟩
  · subst h2
    rcases Int.lt_trichotomy a0 b0 with h0 | h0 | h0
    · have e0 : (a0 != b0) = true := by simp; omega
      go_enter Try.func43, Try.ntmps43
      go_wp2
      all_goals
        go_ret
        exact ⟨ret_bool (by rw [Bool.eq_iff_iff]; simp; omega), (Kp.alloc _ _ _).tr (Kp.alloc _ _ _)⟩
    · subst h0
      go_enter Try.func43, Try.ntmps43
      go_wp2
      all_goals
        go_ret
        exact ⟨ret_bool (by rw [Bool.eq_iff_iff]; simp), (Kp.alloc _ _ _).tr (Kp.alloc _ _ _)⟩
    · have e0 : (a0 != b0) = true := by simp; omega
      go_enter Try.func43, Try.ntmps43
      go_wp2
      all_goals
        go_ret
        exact ⟨ret_bool (by rw [Bool.eq_iff_iff]; simp; omega), (Kp.alloc _ _ _).tr (Kp.alloc _ _ _)⟩
  · have e2 : (a2 != b2) = true := by simp; omega
    go_enter Try.func43, Try.ntmps43
    go_wp2
    all_goals
      go_ret
      exact ⟨ret_bool (by rw [Bool.eq_iff_iff]; simp; omega), (Kp.alloc _ _ _).tr (Kp.alloc _ _ _)⟩
set_option maxHeartbeats 2000000 in
theorem rmany_any (A : Option Addr) (n ca : Nat) (l : List Wk) (k : Int) (w : World) (hx : RdW w A n l) (hn : n ≤ 1000) : Calls Try.prog 44 #[.slice A n ca, .int .i64 k] w fun e w' => e = .returned (.int .i64 (many l k)) ∧ w' = w := by
  have hl := hx.1
  go_enter Try.func44, Try.ntmps44
  go_wp2_with fail
  go_loop [5, 6] (fun vn vi => ∃ i : Nat, i ≤ n ∧ vi = .int .i64 i ∧ vn = .int .i64 (many (l.take i) k)) (fun _ vi => n - (intOf vi).toNat)
  case atStart => exact ⟨0, by omega, rfl, rfl⟩
  case round =>
    obtain ⟨i, hi, rfl, rfl⟩ := hrel
    by_cases hlt : i < n
    · obtain ⟨v, hv⟩ : ∃ v, l[i]? = some v := ⟨_, List.getElem?_eq_getElem (by omega)⟩
      obtain ⟨b, o, rfl, hb, hat⟩ := RdW.at_ hx hv
      have c0 := hat.1
      have HT := Lib.hid (show many (l.take (i + 1)) k = many (l.take i) k + if v.wk = k then 1 else 0 by rw [List.take_add_one, hv]; exact many_snoc _ _ _)
      have hm : many (l.take i) k ≤ 1000 := by have := many_le (l.take i) k; rw [List.length_take] at this; omega
      clear hat hv
      by_cases h : v.wk = k
      · have e : (v.wk == k) = true := by rw [beq_iff_eq]; exact h
        have HT2 := Lib.hid (HT.out.trans (by rw [if_pos h]))
        clear h
        go_wp2
        go_round
        case rel => exact ⟨i + 1, by omega, by go_num, by rw [HT2.out]; go_num⟩
        case measure => simp [intOf]; omega
      · have e : (v.wk == k) = false := by rw [beq_eq_false_iff_ne]; exact h
        have HT2 : Hid (many (l.take (i + 1)) k = many (l.take i) k) := Lib.hid (by rw [HT.out, if_neg h, Nat.add_zero])
        clear h
        go_wp2
        go_round
        case rel => exact ⟨i + 1, by omega, by go_num, by rw [HT2.out]⟩
        case measure => simp [intOf]; omega
    · obtain rfl : i = n := by omega
      go_wp2
      go_ret
      exact ⟨ret_i64 (by rw [List.take_of_length_le (by omega)]), rfl⟩
end Go.Proofs.Ytjbpdimepckmfaa
