/- Chapter 09: the law of Nest: the walk. -/
import Derived.Test.YtamjhpdgclbfgaaXNtI
import Derived.Test.YtamjhpdgclbfgaaXAwk
import Derived.Test.YtamjhpdgclbfgaaXAwPM
namespace Go.Proofs.Ytamjhpdgclbfgaa
open Go.RowKit Go.Kq

theorem slice_block {P : Program} {w : World} {r : Reach} {base : Nat} {t e : TypeId} {a : Addr} {n c : Nat} (ht : P.underlying t = some (.slice e)) (h : Value.okWide P w r base t (.slice (some a) n c)) : a.block < w.heap.size := by
  simp only [Value.okWide, ht, Cell.okWide, Cell.ok, World.has] at h
  obtain ⟨_, _, _, _, row, cells, hs, _⟩ := h
  unfold World.shape? at hs
  cases hh : w.heap[a.block]? with
  | none => rw [hh] at hs; cases hs
  | some o => exact (Array.getElem?_eq_some_iff.1 hh).1
set_option maxHeartbeats 8000000 in
set_option maxRecDepth 100000 in
theorem tnests_any (P : Pt) (A : Option Addr) (n ca : Nat) (l : List Ct) (w : World) (hx : RdC w A n l) (hA : ∀ a, A = some a → a.block < w.heap.size) :
    Calls Try.prog 3 #[P.val, .slice A n ca] w fun e w' => e = .returned (.bool true) ∧ Kp No w w' := by
  have hk0 : Kp No w (w.alloc (.cells #[.int .i64 P.w, .int .i64 P.h, .int .i64 P.k] 23)) := Kp.alloc _ _ _
  have hbx : (w.alloc (.cells #[.int .i64 P.w, .int .i64 P.h, .int .i64 P.k] 23)).heap[w.heap.size]? = some (.cells #[.int .i64 P.w, .int .i64 P.h, .int .i64 P.k] 23 (0, 0)) := heap_alloc_new _ _
  obtain ⟨gP, hgP⟩ : ∃ g, w.heap.size = g := ⟨_, rfl⟩
  rw [hgP] at hbx
  obtain ⟨p0, p1, p2⟩ := three_cellsP hbx
  obtain ⟨w0, hw0⟩ : ∃ w0, (w.alloc (.cells #[.int .i64 P.w, .int .i64 P.h, .int .i64 P.k] 23)) = w0 := ⟨_, rfl⟩
  rw [hw0] at hk0 p0 p1 p2
  have HK0 := Lib.hid hk0
  by_cases hbigl : 5 < n ∧ n ≤ 8 ∨ 20 < n
  · clear hx hA hbx
    have h5 : (5 : Int) < n := by omega
    by_cases h8 : n ≤ 8
    · have h8' : (n : Int) ≤ 8 := by omega
      unfold Pt.val
      go_enter Try.func3, Try.ntmps3
      go_wp2_with fail
      with_reducible refine (awake_any _).mono ?_
      rintro e w1 ⟨rfl, k1⟩
      have K1 := Lib.hid (HK0.out.tr k1)
      clear k1
      go_wp2_with fail
      go_ret
      exact ⟨rfl, K1.out⟩
    · have h8' : (8 : Int) < n := by omega
      have h20 : (20 : Int) < n := by omega
      unfold Pt.val
      go_enter Try.func3, Try.ntmps3
      go_wp2_with fail
      with_reducible refine (awake_any _).mono ?_
      rintro e w1 ⟨rfl, k1⟩
      have K1 := Lib.hid (HK0.out.tr k1)
      clear k1
      go_wp2_with fail
      go_ret
      exact ⟨rfl, K1.out⟩
  have HN := Lib.hid (Nest_any P A n ca l w0 (hx.no hk0) (by omega) (fun b o e => Nat.lt_of_lt_of_le (hA _ e) hk0.size))
  have HR := Lib.hid (fun w1 (k : Kp No w0 w1) => rnest_any P A n ca l w1 ((hx.no hk0).no k) (by omega) (by omega))
  have h20 : (n : Int) ≤ 20 := by omega
  generalize nesL P l = nl at *
  generalize nesE P l = ne at *
  unfold Pt.val at *
  clear hx hA hbx hk0
  have hcond : (n : Int) ≤ 5 ∨ (8 : Int) < n := by omega
  rcases hcond with h5 | h8
  all_goals
    go_enter Try.func3, Try.ntmps3
    go_wp2_with fail
    clear hw0 hgP
    with_reducible refine HN.out.mono ?_
    rintro e w1 ⟨A1, m1, c1, rfl, hs1, hm1, k1⟩
    have HRC := Lib.hid (HR.out w1 k1)
    have HS1 := Lib.hid hs1
    have K1 := Lib.hid (HK0.out.tr k1)
    replace p0 := k1.cell p0 id
    replace p1 := k1.cell p1 id
    replace p2 := k1.cell p2 id
    clear hs1 k1 HN HR HK0
    go_wp2_with fail
    with_reducible refine HRC.out.mono ?_
    rintro e w2 ⟨A2, m2, c2, rfl, hs2, k2⟩
    have HSM := Lib.hid (same_any A1 m1 c1 nl A2 m2 c2 nl w2 (HS1.out.no k2) hs2 (by omega))
    simp only [decide_true] at HSM
    have K2 := Lib.hid (K1.out.tr k2)
    clear hs2 k2 HS1 HRC K1 p0 p1 p2
    go_wp2_with fail
    with_reducible refine HSM.out.mono ?_
    rintro e w3 ⟨rfl, k3⟩
    have K3 := Lib.hid (K2.out.tr k3)
    clear k3 HSM K2
    go_wp2_with fail
    with_reducible refine (awake_any w3).mono ?_
    rintro e w4 ⟨rfl, k4⟩
    have K4 := Lib.hid (K3.out.tr k4)
    clear k4
    go_wp2_with fail
    go_ret
    exact ⟨rfl, K4.out⟩
end Go.Proofs.Ytamjhpdgclbfgaa
