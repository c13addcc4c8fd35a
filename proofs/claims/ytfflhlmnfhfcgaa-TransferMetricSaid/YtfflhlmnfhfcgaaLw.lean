/- Chapter 33: walks of the statements' own functions: valid, Check, sameInts. -/
import Derived.Test.YtfflhlmnfhfcgaaBcs
namespace Go.Proofs.Ytfflhlmnfhfcgaa
open Go.RowKit Go.Kq

set_option maxHeartbeats 1000000 in
theorem valid_any (v : Vc) (w : World) : Calls Try.prog 33 #[v.val] w fun e w' => e = .returned (.bool (!v.bad)) ∧ Kp No w w' := by
  obtain ⟨d, p, f, q⟩ := v
  simp only [Vc.val]
  go_enter Try.func33, Try.ntmps33
  go_wp2
  all_goals
    go_ret
    refine ⟨ret_bool ?_, Kp.alloc _ _ _⟩
    rw [Bool.eq_iff_iff]
    simp [Vc.bad]
    omega

set_option maxHeartbeats 1000000 in
theorem Check_any (A B : Option Addr) (n m ca cb : Nat) (xs ys : List Vc) (most : Int) (w : World) (hx : RdV w A n xs) (hy : RdV w B m ys) (hm : most ≤ 24) :
    Calls Try.prog 14 #[.slice A n ca, .slice B m cb, .int .i64 most] w fun e w' => e = .returned (.int .i64 (chk xs ys most)) ∧ Kp No w w' := by
  have hxl := hx.1
  have hyl := hy.1
  by_cases hl : 24 < xs.length ∨ most < ys.length
  · rw [chk_long hl]
    subst hxl hyl
    rcases Decidable.em (24 < xs.length) with h1 | h1
    · go_enter Try.func14, Try.ntmps14
      go_wp2
      all_goals
        go_ret
        exact ⟨rfl, Kp.refl _ _⟩
    · have h2 : most < ys.length := hl.resolve_left h1
      go_enter Try.func14, Try.ntmps14
      go_wp2
      all_goals
        go_ret
        exact ⟨rfl, Kp.refl _ _⟩
  · have h1 : ¬ 24 < xs.length := fun h => hl (.inl h)
    have h2 : ¬ most < ys.length := fun h => hl (.inr h)
    have Hl := Lib.hid hl
    subst hxl hyl
    clear hl
    go_enter Try.func14, Try.ntmps14
    go_wp2_with fail
    go_loopw [7] (fun i wr => ∃ k : Nat, k ≤ xs.length ∧ i = .int .i64 k ∧ (xs.take k).any Vc.bad = false ∧ Kp No w wr) (fun i _ => xs.length - (intOf i).toNat)
    case atStart => exact ⟨0, by omega, rfl, by simp, Kp.refl _ _⟩
    case round =>
      obtain ⟨k, hk, rfl, hno, hkp⟩ := hrel
      by_cases hlt : k < xs.length
      · obtain ⟨v, hv⟩ : ∃ v, xs[k]? = some v := ⟨_, List.getElem?_eq_getElem hlt⟩
        obtain ⟨b, o, rfl, hb, c0, c1, c2, c3⟩ := (hx.no hkp).2 k v hv
        have Ht := Lib.hid (any_take_succ Vc.bad xs k v hv)
        have Hno := Lib.hid hno
        have Hv := Lib.hid hv
        clear hno hv
        cases hbad : v.bad
        · go_wp2_with (go_at_call 33; refine (valid_any v _).mono ?_; rintro e w' ⟨rfl, hkp'⟩; rw [hbad])
          go_roundw
          case rel => exact ⟨k + 1, by omega, by go_num, by rw [Ht.out, Hno.out, hbad]; rfl, hkp.tr hkp'⟩
          case measure => simp [intOf]; omega
        · go_wp2_with (go_at_call 33; refine (valid_any v _).mono ?_; rintro e w' ⟨rfl, hkp'⟩; rw [hbad])
          go_ret
          have : xs.any Vc.bad = true := List.any_eq_true.2 ⟨v, List.mem_of_getElem? Hv.out, hbad⟩
          exact ⟨ret_i64 (by rw [chk_bad Hl.out (by rw [this]; rfl)]), hkp.tr hkp'⟩
      · have hxa : xs.any Vc.bad = false := by
          rw [List.take_of_length_le (by omega)] at hno
          exact hno
        have HX := Lib.hid hxa
        clear hxa hno
        go_wp2_with fail
        go_loopw [8] (fun i wr => ∃ k : Nat, k ≤ ys.length ∧ i = .int .i64 k ∧ (ys.take k).any Vc.bad = false ∧ Kp No w wr) (fun i _ => ys.length - (intOf i).toNat)
        case atStart => exact ⟨0, by omega, rfl, by simp, hkp⟩
        case round =>
          obtain ⟨k, hk, rfl, hno, hkp⟩ := hrel
          by_cases hlt : k < ys.length
          · obtain ⟨v, hv⟩ : ∃ v, ys[k]? = some v := ⟨_, List.getElem?_eq_getElem hlt⟩
            obtain ⟨b, o, rfl, hb, c0, c1, c2, c3⟩ := (hy.no hkp).2 k v hv
            have Ht := Lib.hid (any_take_succ Vc.bad ys k v hv)
            have Hno := Lib.hid hno
            have Hv := Lib.hid hv
            clear hno hv
            cases hbad : v.bad
            · go_wp2_with (go_at_call 33; refine (valid_any v _).mono ?_; rintro e w' ⟨rfl, hkp'⟩; rw [hbad])
              go_roundw
              case rel => exact ⟨k + 1, by omega, by go_num, by rw [Ht.out, Hno.out, hbad]; rfl, hkp.tr hkp'⟩
              case measure => simp [intOf]; omega
            · go_wp2_with (go_at_call 33; refine (valid_any v _).mono ?_; rintro e w' ⟨rfl, hkp'⟩; rw [hbad])
              go_ret
              have : ys.any Vc.bad = true := List.any_eq_true.2 ⟨v, List.mem_of_getElem? Hv.out, hbad⟩
              exact ⟨ret_i64 (by rw [chk_bad Hl.out (by rw [this]; simp)]), hkp.tr hkp'⟩
          · have hya : ys.any Vc.bad = false := by
              rw [List.take_of_length_le (by omega)] at hno
              exact hno
            have HY := Lib.hid hya
            clear hya hno
            go_wp2
            go_ret
            exact ⟨ret_i64 (by rw [chk_ok Hl.out (by rw [HX.out, HY.out]; rfl)]), hkp⟩

/-- A slice of ints. -/
def RdI (w : World) (A : Option Addr) (n : Nat) (xs : List Int) : Prop :=
  xs.length = n ∧ ∀ i x, xs[i]? = some x → ∃ b o, A = some ⟨b, o, none⟩ ∧ w.cell? ⟨b, o + i, none⟩ = some (.int .i64 x)
theorem RdI.no {w w' : World} {A : Option Addr} {n : Nat} {xs : List Int} (h : RdI w A n xs) (hk : Kp No w w') : RdI w' A n xs := ⟨h.1, fun i x hx => by
  obtain ⟨b, o, h1, h2⟩ := h.2 i x hx
  exact ⟨b, o, h1, hk.cell h2 fun h => h⟩⟩
set_option maxHeartbeats 1000000 in
theorem same_any (A B : Option Addr) (n m ca cb : Nat) (xs ys : List Int) (w : World) (hx : RdI w A n xs) (hy : RdI w B m ys) (hn : n ≤ 100000000) :
    Calls Try.prog 12 #[.slice A n ca, .slice B m cb] w fun e w' => e = .returned (.bool (decide (xs = ys))) ∧ Kp No w w' := by
  have hxl := hx.1
  have hyl := hy.1
  by_cases hl : n = m
  · subst hl
    go_enter Try.func12, Try.ntmps12
    go_wp2_with fail
    go_loopw [5] (fun i wr => ∃ k : Nat, k ≤ n ∧ i = .int .i64 k ∧ xs.take k = ys.take k ∧ Kp No w wr) (fun i _ => n - (intOf i).toNat)
    case atStart => exact ⟨0, by omega, rfl, by simp, Kp.refl _ _⟩
    case round =>
      obtain ⟨k, hk, rfl, hno, hkp⟩ := hrel
      by_cases hlt : k < n
      · obtain ⟨x, hxk⟩ : ∃ x, xs[k]? = some x := ⟨_, List.getElem?_eq_getElem (by omega)⟩
        obtain ⟨y, hyk⟩ : ∃ y, ys[k]? = some y := ⟨_, List.getElem?_eq_getElem (by omega)⟩
        obtain ⟨b, o, rfl, c0⟩ := (hx.no hkp).2 k x hxk
        obtain ⟨b', o', rfl, c1⟩ := (hy.no hkp).2 k y hyk
        have Ht := Lib.hid hno
        have X := Lib.hid hxk
        have Y := Lib.hid hyk
        clear hno hxk hyk
        by_cases hxy : x = y
        · subst hxy
          go_wp2_with fail
          go_quiet (fail)
          go_wp2_with fail
          go_roundw
          case rel => exact ⟨k + 1, by omega, by go_num, by rw [List.take_add_one, List.take_add_one, Ht.out, X.out, Y.out], hkp.tr (Kp.drewN _ _ _)⟩
          case measure => simp [intOf]; omega
        · have hb : (x == y) = false := by rw [beq_eq_false_iff_ne]; exact hxy
          have hne : xs ≠ ys := fun h => hxy (by have := X.out; rw [h, Y.out] at this; cases this; rfl)
          have HN := Lib.hid hne
          clear hxy hne
          go_wp2_with fail
          go_quiet (fail)
          go_wp2_with fail
          go_ret
          exact ⟨ret_bool (by simp [HN.out]), hkp.tr (Kp.drewN _ _ _)⟩
      · have he : xs = ys := by
          rw [List.take_of_length_le (by omega), List.take_of_length_le (by omega)] at hno
          exact hno
        have HE := Lib.hid he
        clear he hno
        go_wp2
        go_ret
        exact ⟨ret_bool (by simp [HE.out]), hkp⟩
  · have hne : xs ≠ ys := fun h => hl (by rw [← hxl, ← hyl, h])
    have hb : ((n : Int) == (m : Int)) = false := by rw [beq_eq_false_iff_ne]; omega
    have HN := Lib.hid hne
    clear hne
    go_enter Try.func12, Try.ntmps12
    go_wp2
    go_ret
    exact ⟨ret_bool (by simp [HN.out]), Kp.refl _ _⟩
end Go.Proofs.Ytfflhlmnfhfcgaa
