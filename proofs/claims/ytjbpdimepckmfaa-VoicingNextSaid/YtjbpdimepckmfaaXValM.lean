/- Chapter 27: the walk of valid at another kind. Printed by gen_val.py. · Chapter 27: which works are valid: valid at every work, and the reference's. -/
import Derived.Test.YtjbpdimepckmfaaXVaP
import Derived.Test.YtjbpdimepckmfaaXVaA
import Derived.Test.YtjbpdimepckmfaaXVaB
import Derived.Test.YtjbpdimepckmfaaXVaC
import Derived.Test.YtjbpdimepckmfaaXVaD
namespace Go.Proofs.Ytjbpdimepckmfaa
open Go.RowKit Go.Kq
set_option maxHeartbeats 8000000 in
set_option maxRecDepth 100000 in
theorem valid_k0 (b o : Nat) (v : Wk) (w : World) (h : WkAt w b o v) (_hs : v.tx.size ≤ maxLen) (hN : okN v.wk v.num = true) (hC1 : 1 ≤ v.ck) (hC2 : v.ck ≤ 1000000000) (h1 : v.kd ≠ 1) (h2 : v.kd ≠ 2) (h3 : v.kd ≠ 3) (h4 : v.kd ≠ 4) : Calls Try.prog 55 #[.pointer (some ⟨b, o, none⟩)] w fun e w' => e = .returned (.bool (okW v)) ∧ Kp No w w' := by
  have hb := h.lt
  have HW := Lib.hid (show okW v = okK v by unfold okW; rw [hN, decide_eq_true hC1, decide_eq_true hC2]; rfl)
  have HK := Lib.hid (okK0 h1 h2 h3 h4)
  go_enter Try.func55, Try.ntmps55
  go_wp2_with fail
  refine (of_any b o v w h).mono ?_
  rintro e w1 ⟨rfl, hk1⟩
  go_wp2_with fail
  refine (there_any v.wk v.num w1).mono ?_
  rw [hN]
  rintro e w2 ⟨rfl, hk2⟩
  have hk02 := hk1.tr hk2
  have HA := Lib.hid (h.no hk02)
  have hsz := hk02.size
  have hb2 : b < w2.heap.size := by omega
  have hne : b ≠ w2.heap.size := by omega
  obtain ⟨c0, c1, c2, c3, _⟩ := h.no hk02
  clear h hk1 hk2
  go_wp2_with fail
  go_region
  obtain ⟨w3, hw3⟩ : ∃ w3, w3 = (w2.alloc (.cells #[.int .i64 v.wk, .int .i64 v.num, .int .i64 v.ck, .int .i64 v.kd, .int .i64 0, .int .i64 0, .int .i64 0, .int .i64 0, .int .i64 0, .int .i64 0, .string ⟨#[]⟩] 41)).drew := ⟨_, rfl⟩
  rw [← hw3]
  have hb3 : w3.heap[w2.heap.size]? = some (.cells #[.int .i64 v.wk, .int .i64 v.num, .int .i64 v.ck, .int .i64 v.kd, .int .i64 0, .int .i64 0, .int .i64 0, .int .i64 0, .int .i64 0, .int .i64 0, .string ⟨#[]⟩] 41 (0, 0)) := by rw [hw3]; exact heap_alloc_new _ _
  have hk23 : Kp No w2 w3 := by rw [hw3]; exact (Kp.alloc _ _ _).tr (Kp.drew _ _)
  have hk3 := hk02.tr hk23
  have HA3 := Lib.hid (HA.out.no hk23)
  have HB3 := Lib.hid hb3
  have hb3 := (Array.getElem?_eq_some_iff.1 hb3).1
  clear hw3 hk23 hk02 c0 c1 c2 c3 HA
  have e1 : (v.kd == 1) = false := by rw [beq_eq_false_iff_ne]; exact h1
  have e2 : (v.kd == 2) = false := by rw [beq_eq_false_iff_ne]; exact h2
  have e3 : (v.kd == 3) = false := by rw [beq_eq_false_iff_ne]; exact h3
  have e4 : (v.kd == 4) = false := by rw [beq_eq_false_iff_ne]; exact h4
  obtain ⟨_, _, _, c3, _⟩ := HA3.out
  clear h1 h2 h3 h4
  go_wp2_with fail
  go_quiet (fail)
  go_wp2
  go_ret
  exact ⟨ret_bool (by rw [HW.out, HK.out]), hk3.tr (Kp.drewN _ _ _)⟩
end Go.Proofs.Ytjbpdimepckmfaa

namespace Go.Proofs.Ytjbpdimepckmfaa
open Go.RowKit Go.Kq

set_option maxHeartbeats 4000000 in
set_option maxRecDepth 100000 in
theorem valid_any (b o : Nat) (v : Wk) (w : World) (h : WkAt w b o v) (hs : v.tx.size ≤ maxLen) : Calls Try.prog 55 #[.pointer (some ⟨b, o, none⟩)] w fun e w' => e = .returned (.bool (okW v)) ∧ Kp No w w' := by
  cases hN : okN v.wk v.num
  · have HW := Lib.hid (show okW v = false by unfold okW; rw [hN]; rfl)
    go_enter Try.func55, Try.ntmps55
    go_wp2_with fail
    refine (of_any b o v w h).mono ?_
    rintro e w1 ⟨rfl, hk1⟩
    go_wp2_with fail
    refine (there_any v.wk v.num w1).mono ?_
    rw [hN]
    rintro e w2 ⟨rfl, hk2⟩
    go_wp2_with fail
    go_ret
    exact ⟨ret_bool (by rw [HW.out]), hk1.tr hk2⟩
  · by_cases hC : 1 ≤ v.ck ∧ v.ck ≤ 1000000000
    · by_cases h1 : v.kd = 1
      · exact valid_k1 b o v w h hs hN hC.1 hC.2 h1
      by_cases h2 : v.kd = 2
      · exact valid_k2 b o v w h hs hN hC.1 hC.2 h2
      by_cases h3 : v.kd = 3
      · exact valid_k3 b o v w h hs hN hC.1 hC.2 h3
      by_cases h4 : v.kd = 4
      · exact valid_k4 b o v w h hs hN hC.1 hC.2 h4
      exact valid_k0 b o v w h hs hN hC.1 hC.2 h1 h2 h3 h4
    · have HW := Lib.hid (show okW v = false by unfold okW; rw [hN]; by_cases h1 : 1 ≤ v.ck <;> by_cases h2 : v.ck ≤ 1000000000 <;> simp [h1, h2] <;> omega)
      go_enter Try.func55, Try.ntmps55
      go_wp2_with fail
      refine (of_any b o v w h).mono ?_
      rintro e w1 ⟨rfl, hk1⟩
      go_wp2_with fail
      refine (there_any v.wk v.num w1).mono ?_
      rw [hN]
      rintro e w2 ⟨rfl, hk2⟩
      have hk02 := hk1.tr hk2
      obtain ⟨c0, c1, c2, c3, _⟩ := h.no hk02
      go_wp2_with fail
      all_goals first
        | omega
        | (go_ret
           exact ⟨ret_bool (by rw [HW.out]), hk02⟩)
end Go.Proofs.Ytjbpdimepckmfaa
