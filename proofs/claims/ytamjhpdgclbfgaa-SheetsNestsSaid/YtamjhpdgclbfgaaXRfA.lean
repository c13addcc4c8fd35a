/- Chapter 09: the reference's from, valid, cuts. -/
import Derived.Test.YtamjhpdgclbfgaaXLibBitM
namespace Go.Proofs.Ytamjhpdgclbfgaa
open Go.RowKit Go.Kq

theorem from_any (n a b : Int) (w : World) : Calls Try.prog 59 #[.int .i64 n, .int .i64 a, .int .i64 b] w fun e w' => e = .returned (.bool (!outB n a b)) ∧ w' = w := by
  unfold outB
  by_cases h1 : a ≤ n
  · by_cases h2 : n ≤ b
    · have e1 : decide (a ≤ n) = true := decide_eq_true h1
      have HE := Lib.hid (show (!(decide (n < a) || decide (b < n))) = true by rw [decide_eq_false (by omega), decide_eq_false (by omega)]; rfl)
      go_enter Try.func59, Try.ntmps59
      go_wp2
      go_ret
      first | exact ⟨rfl, rfl⟩ | exact ⟨by rw [HE.out]; rfl, rfl⟩
    · have e1 : decide (a ≤ n) = true := decide_eq_true h1
      have HE := Lib.hid (show (!(decide (n < a) || decide (b < n))) = false by rw [decide_eq_false (by omega), decide_eq_true (by omega)]; rfl)
      go_enter Try.func59, Try.ntmps59
      go_wp2
      go_ret
      first | exact ⟨rfl, rfl⟩ | exact ⟨by rw [HE.out]; rfl, rfl⟩
  · have e1 : decide (a ≤ n) = false := decide_eq_false h1
    have HE := Lib.hid (show (!(decide (n < a) || decide (b < n))) = false by rw [decide_eq_true (by omega)]; rfl)
    go_enter Try.func59, Try.ntmps59
    go_wp2
    go_ret
    first | exact ⟨rfl, rfl⟩ | exact ⟨by rw [HE.out]; rfl, rfl⟩
set_option maxHeartbeats 2000000 in
theorem valid_any (c : Ct) (w : World) : Calls Try.prog 58 #[c.val] w fun e w' => e = .returned (.bool (!badC c)) ∧ Kp No w w' := by
  have H1 := Lib.hid (fun w0 => from_any c.w 1 20000000 w0)
  have H2 := Lib.hid (fun w0 => from_any c.h 1 20000000 w0)
  unfold badC
  generalize outB c.w 1 20000000 = q1 at *
  generalize outB c.h 1 20000000 = q2 at *
  unfold Ct.val
  have hk0 : Kp No w (w.alloc (.cells #[.int .i64 c.w, .int .i64 c.h] 35)) := Kp.alloc _ _ _
  go_enter Try.func58, Try.ntmps58
  cases q1
  · go_wp2_with fail
    with_reducible refine (H1.out _).mono ?_
    rintro e w1 ⟨rfl, hw⟩
    subst hw
    go_wp2_with fail
    with_reducible refine (H2.out _).mono ?_
    rintro e w1 ⟨rfl, hw⟩
    subst hw
    go_wp2_with fail
    go_ret
    exact ⟨rfl, hk0⟩
  · go_wp2_with fail
    with_reducible refine (H1.out _).mono ?_
    rintro e w1 ⟨rfl, hw⟩
    subst hw
    go_wp2_with fail
    go_ret
    exact ⟨rfl, hk0⟩
def cutE (l : List Ct) (m : Int) : Int := if m < (l.length : Int) then 3 else if l.any badC then 2 else 0
set_option maxHeartbeats 2000000 in
theorem cuts_any (A : Option Addr) (n ca : Nat) (l : List Ct) (m : Int) (w : World) (hx : RdC w A n l) (hn : n ≤ 100000000) :
    Calls Try.prog 60 #[.slice A n ca, .int .i64 m] w fun e w' => e = .returned (.int .i64 (cutE l m)) ∧ Kp No w w' := by
  have HX := Lib.hid hx
  have HL := Lib.hid hx.1
  have HV := Lib.hid (show cutE l m = if m < (n : Int) then 3 else if l.any badC then 2 else 0 by unfold cutE; rw [hx.1])
  clear hx
  go_enter Try.func60, Try.ntmps60
  by_cases hm : m < (n : Int)
  · rw [if_pos hm] at HV
    rw [HV.out]
    go_wp2_with fail
    go_ret
    exact ⟨rfl, Kp.refl _ _⟩
  rw [if_neg hm] at HV
  go_wp2_with fail
  go_loopw [5] (fun i wr => ∃ k : Nat, k ≤ n ∧ i = .int .i64 k ∧ (l.take k).any badC = false ∧ Kp No w wr) (fun i _ => n - (intOf i).toNat)
  case atStart => exact ⟨0, by omega, rfl, by simp, Kp.refl _ _⟩
  case round =>
    obtain ⟨k, hk, rfl, hno, hkp⟩ := hrel
    by_cases hlt : k < n
    · obtain ⟨v, hv⟩ : ∃ v, l[k]? = some v := ⟨_, List.getElem?_eq_getElem (by rw [HL.out]; exact hlt)⟩
      obtain ⟨b, o, rfl, hb, hc⟩ := (HX.out.no hkp).2 k v hv
      have c0 := hc 0 _ rfl
      have c1 := hc 1 _ rfl
      simp only [Nat.add_zero] at c0
      have Ht := Lib.hid (any_take_succ badC l k v hv)
      have Hno := Lib.hid hno
      have HK := Lib.hid hkp
      have Hv := Lib.hid hv
      have HC := Lib.hid (fun w0 => valid_any v w0)
      simp only [Ct.val] at HC
      clear hno hv hc hkp
      cases hbad : badC v
      · rw [hbad] at HC Ht
        clear hbad
        go_wp2_with fail
        with_reducible refine (HC.out _).mono ?_
        rintro e w1 ⟨rfl, k1⟩
        go_wp2_with fail
        go_roundw
        case rel => exact ⟨k + 1, by omega, by go_num, by rw [Ht.out, Hno.out]; rfl, HK.out.tr k1⟩
        case measure => simp [intOf]; omega
      · have HA := Lib.hid (show l.any badC = true from List.any_eq_true.2 ⟨v, List.mem_of_getElem? Hv.out, hbad⟩)
        rw [hbad] at HC
        rw [HA.out] at HV
        clear hbad
        go_wp2_with fail
        with_reducible refine (HC.out _).mono ?_
        rintro e w1 ⟨rfl, k1⟩
        go_wp2_with fail
        go_ret
        exact ⟨by rw [HV.out]; rfl, HK.out.tr k1⟩
    · obtain rfl : k = n := by omega
      have HA := Lib.hid (show l.any badC = false by rw [List.take_of_length_le (by rw [HL.out]; omega)] at hno; exact hno)
      rw [HA.out] at HV
      have HK := Lib.hid hkp
      clear hno hkp
      go_wp2_with fail
      go_ret
      exact ⟨by rw [HV.out]; rfl, HK.out⟩
end Go.Proofs.Ytamjhpdgclbfgaa
