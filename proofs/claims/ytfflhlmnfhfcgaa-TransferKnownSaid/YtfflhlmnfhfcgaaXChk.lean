/- Chapter 33: the checks of lists of voices. -/
import Derived.Test.YtfflhlmnfhfcgaaXBaseM
namespace Go.Proofs.Ytfflhlmnfhfcgaa
open Go.RowKit Go.Kq

theorem any_take_succ {α : Type} (p : α → Bool) (l : List α) (k : Nat) (v : α) (h : l[k]? = some v) : (l.take (k + 1)).any p = ((l.take k).any p || p v) := by
  rw [List.take_add_one, h]
  simp

set_option maxHeartbeats 400000 in
theorem index_any (A : Option Addr) (n cap : Nat) (vs : List Vc) (w : World) (h : RdV w A n vs) (hn : n ≤ 100000000) :
    Calls Try.prog 66 #[.slice A n cap, .func (.func 50) #[] #[]] w fun e w' => ∃ i : Int, e = .returned (.int .i64 i) ∧ (decide (0 ≤ i) = vs.any Vc.bad) ∧ Kp No w w' := by
  go_enter Try.func66, Try.ntmps66
  go_wp2_with fail
  go_loopw [8] (fun i wr => ∃ k : Nat, k ≤ n ∧ i = .int .i64 k ∧ (vs.take k).any Vc.bad = false ∧ Kp No w wr) (fun i _ => n - (intOf i).toNat)
  case atStart => exact ⟨0, by omega, rfl, by simp, Kp.refl _ _⟩
  case round =>
    obtain ⟨k, hk, rfl, hno, hkp⟩ := hrel
    by_cases hlt : k < n
    · obtain ⟨v, hv⟩ : ∃ v, vs[k]? = some v := ⟨_, List.getElem?_eq_getElem (by rw [h.1]; exact hlt)⟩
      obtain ⟨b, o, rfl, hb, c0, c1, c2, c3⟩ := (h.no hkp).2 k v hv
      have ht := any_take_succ Vc.bad vs k v hv
      have Ht := Lib.hid ht
      have Hno := Lib.hid hno
      have Hv := Lib.hid hv
      clear ht hno hv
      cases hbad : v.bad
      · go_wp2_with (go_at_call 50; refine (bad_any v _).mono ?_; rintro e w' ⟨rfl, hkp'⟩; rw [hbad])
        go_roundw
        case rel => exact ⟨k + 1, by omega, by go_num, by rw [Ht.out, Hno.out, hbad]; rfl, hkp.tr hkp'⟩
        case measure => simp [intOf]; omega
      · go_wp2_with (go_at_call 50; refine (bad_any v _).mono ?_; rintro e w' ⟨rfl, hkp'⟩; rw [hbad])
        go_ret
        refine ⟨k, rfl, ?_, hkp.tr hkp'⟩
        have : vs.any Vc.bad = true := List.any_eq_true.2 ⟨v, List.mem_of_getElem? Hv.out, hbad⟩
        rw [this]
        simp
    · go_wp2
      go_ret
      refine ⟨-1, rfl, ?_, hkp⟩
      rw [List.take_of_length_le (by rw [h.1]; omega)] at hno
      rw [hno]
      rfl

theorem contains_any (A : Option Addr) (n cap : Nat) (vs : List Vc) (w : World) (h : RdV w A n vs) (hn : n ≤ 100000000) :
    Calls Try.prog 49 #[.slice A n cap, .func (.func 50) #[] #[]] w fun e w' => e = .returned (.bool (vs.any Vc.bad)) ∧ Kp No w w' := by
  go_enter Try.func49, Try.ntmps49
  go_wp2_with (go_at_call 66; refine (index_any A n cap vs _ h hn).mono ?_; rintro e w' ⟨i, rfl, hi, hkp⟩)
  go_ret
  exact ⟨by first | rfl | exact ret_bool hi, hkp⟩

/-- The error of two lists. -/
def chk (want have_ : List Vc) (most : Int) : Int := if 24 < want.length ∨ most < have_.length then 3 else if want.any Vc.bad || have_.any Vc.bad then 2 else 0
theorem chk_long {want have_ : List Vc} {most : Int} (h : 24 < want.length ∨ most < have_.length) : chk want have_ most = 3 := by unfold chk; rw [if_pos h]
theorem chk_bad {want have_ : List Vc} {most : Int} (h : ¬ (24 < want.length ∨ most < have_.length)) (hb : (want.any Vc.bad || have_.any Vc.bad) = true) : chk want have_ most = 2 := by unfold chk; rw [if_neg h, if_pos hb]
theorem chk_ok {want have_ : List Vc} {most : Int} (h : ¬ (24 < want.length ∨ most < have_.length)) (hb : (want.any Vc.bad || have_.any Vc.bad) = false) : chk want have_ most = 0 := by unfold chk; rw [if_neg h, if_neg (by rw [hb]; simp)]

set_option maxHeartbeats 400000 in
theorem check_any (A B : Option Addr) (n m ca cb : Nat) (xs ys : List Vc) (most : Int) (w : World) (hx : RdV w A n xs) (hy : RdV w B m ys) (hm : most ≤ 24) :
    Calls Try.prog 30 #[.slice A n ca, .slice B m cb, .int .i64 most] w fun e w' => e = .returned (.int .i64 (chk xs ys most)) ∧ Kp No w w' := by
  have hxl := hx.1
  have hyl := hy.1
  by_cases hl : 24 < xs.length ∨ most < ys.length
  · rw [chk_long hl]
    subst hxl hyl
    rcases Decidable.em (24 < xs.length) with h1 | h1
    · go_enter Try.func30, Try.ntmps30
      go_wp2
      all_goals
        go_ret
        exact ⟨rfl, Kp.refl _ _⟩
    · have h2 : most < ys.length := hl.resolve_left h1
      go_enter Try.func30, Try.ntmps30
      go_wp2
      all_goals
        go_ret
        exact ⟨rfl, Kp.refl _ _⟩
  · have h1 : ¬ 24 < xs.length := fun h => hl (.inl h)
    have h2 : ¬ most < ys.length := fun h => hl (.inr h)
    subst hxl hyl
    cases hxb : xs.any Vc.bad
    · have Hx := Lib.hid hxb
      clear hxb
      cases hyb : ys.any Vc.bad
      all_goals
        have Hc := Lib.hid (show chk xs ys most = if ys.any Vc.bad then 2 else 0 by unfold chk; rw [if_neg hl, Hx.out]; rfl)
        have Hy := Lib.hid hyb
        clear hyb hl
        go_enter Try.func30, Try.ntmps30
        go_wp2_with fail
        refine (contains_any A _ ca xs _ hx (by omega)).mono ?_
        rintro e w' ⟨rfl, hkp⟩
        rw [Hx.out]
        go_wp2_with fail
        refine (contains_any B _ cb ys _ (hy.no hkp) (by omega)).mono ?_
        rintro e w2 ⟨rfl, hkp2⟩
        rw [Hy.out]
        go_wp2_with fail
        go_ret
        exact ⟨ret_i64 (by rw [Hc.out, Hy.out]; rfl), hkp.tr hkp2⟩
    · rw [chk_bad hl (by rw [hxb]; rfl)]
      have Hx := Lib.hid hxb
      clear hxb hl
      go_enter Try.func30, Try.ntmps30
      go_wp2_with fail
      refine (contains_any A _ ca xs _ hx (by omega)).mono ?_
      rintro e w' ⟨rfl, hkp⟩
      rw [Hx.out]
      go_wp2_with fail
      go_ret
      exact ⟨rfl, hkp⟩
end Go.Proofs.Ytfflhlmnfhfcgaa
