/- Chapter 24: the law's comparisons of lists. Printed by gen_lwa.py. -/
import Derived.Test.YtakgcnjpmpcekaaXOrB
import Derived.Test.YtakgcnjpmpcekaaXVaSM
namespace Go.Proofs.Ytakgcnjpmpcekaa
open Go.RowKit Go.Kq

set_option maxHeartbeats 4000000 in
theorem sameI_any (A B : Option Addr) (n m c d : Nat) (xs ys : List Int) (w : World) (hn : n ≤ 100000) (hm : m ≤ 100000) (hx : RdI .i64 w A n xs) (hy : RdI .i64 w B m ys) :
    Calls Try.prog 10 #[.slice A n c, .slice B m d] w fun e w' => e = .returned (.bool (decide (xs = ys))) ∧ ∃ q, w' = w.drewN q := by
  have hxl := hx.1
  have hyl := hy.1
  have HX := Lib.hid hx
  have HY := Lib.hid hy
  by_cases hnm : n = m
  · subst hnm
    have HXL := Lib.hid hxl
    have HYL := Lib.hid hyl
    clear hxl hyl hx hy
    go_enter Try.func10, Try.ntmps10
    go_wp2_with fail
    go_loopw [5] (fun i wr => ∃ k : Nat, k ≤ n ∧ i = .int .i64 k ∧ xs.take k = ys.take k ∧ ∃ q, wr = w.drewN q) (fun i _ => n - (intOf i).toNat)
    case atStart => exact ⟨0, by omega, rfl, rfl, 0, rfl⟩
    case round =>
      obtain ⟨k, hk, rfl, hno, q, hq⟩ := hrel
      have HN := Lib.hid hno
      have HQ := Lib.hid hq
      have hkp : Kp No w wr := by rw [hq]; exact Kp.drewN _ _ _
      clear hno hq
      by_cases hlt : k < n
      · obtain ⟨x, hx⟩ : ∃ x, xs[k]? = some x := ⟨_, List.getElem?_eq_getElem (by rw [HXL.out]; exact hlt)⟩
        obtain ⟨y, hy⟩ : ∃ y, ys[k]? = some y := ⟨_, List.getElem?_eq_getElem (by rw [HYL.out]; exact hlt)⟩
        obtain ⟨b, o, rfl, hb, hc⟩ := (HX.out.no hkp).2 k x hx
        obtain ⟨b', o', rfl, hb', hc'⟩ := (HY.out.no hkp).2 k y hy
        have GX := Lib.hid hx
        have GY := Lib.hid hy
        clear hx hy hkp
        by_cases he : x = y
        · have d1 : (x != y) = false := by simp [he]
          have HE := Lib.hid he
          clear he
          go_wp2_with fail
          go_quiet (fail)
          go_wp2_with fail
          go_roundw
          case rel => exact ⟨k + 1, by omega, by go_num, by rw [List.take_add_one, List.take_add_one, GX.out, GY.out, HN.out, HE.out], q + nq, by rw [HQ.out, World.drewN_drewN]⟩
          case measure => simp [intOf]; omega
        · have d1 : (x != y) = true := by simp [he]
          have HE := Lib.hid he
          clear he
          go_wp2_with fail
          go_quiet (fail)
          go_wp2_with fail
          go_ret
          refine ⟨ret_bool ?_, q + nq, by rw [HQ.out, World.drewN_drewN]⟩
          symm
          rw [decide_eq_false_iff_not]
          intro e
          subst e
          exact HE.out (Option.some.inj (GX.out.symm.trans GY.out))
      · obtain rfl : k = n := by omega
        clear hkp
        go_wp2_with fail
        go_ret
        refine ⟨ret_bool ?_, q, HQ.out⟩
        have h := HN.out
        rw [List.take_of_length_le (by rw [HXL.out]; exact Nat.le_refl _), List.take_of_length_le (by rw [HYL.out]; exact Nat.le_refl _)] at h
        rw [h]
        simp
  · have HE := Lib.hid (show decide (xs = ys) = false by rw [decide_eq_false_iff_not]; intro e; subst e; exact hnm (hxl.symm.trans hyl))
    have d1 : ((n : Int) != (m : Int)) = true := by simp; omega
    rw [HE.out]
    clear hxl hyl hx hy
    go_enter Try.func10, Try.ntmps10
    go_wp2_with fail
    go_ret
    exact ⟨rfl, 0, rfl⟩
set_option maxHeartbeats 4000000 in
theorem sameL_any (A B : Option Addr) (n m c d : Nat) (xs ys : List Int) (w : World) (hn : n ≤ 100000) (hm : m ≤ 100000) (hx : RdI .i64 w A n xs) (hy : RdI .i64 w B m ys) :
    Calls Try.prog 30 #[.slice A n c, .slice B m d] w fun e w' => e = .returned (.bool (decide (xs = ys))) ∧ ∃ q, w' = w.drewN q := by
  have hxl := hx.1
  have hyl := hy.1
  have HX := Lib.hid hx
  have HY := Lib.hid hy
  by_cases hnm : n = m
  · subst hnm
    have HXL := Lib.hid hxl
    have HYL := Lib.hid hyl
    clear hxl hyl hx hy
    go_enter Try.func30, Try.ntmps30
    go_wp2_with fail
    go_loopw [5] (fun i wr => ∃ k : Nat, k ≤ n ∧ i = .int .i64 k ∧ xs.take k = ys.take k ∧ ∃ q, wr = w.drewN q) (fun i _ => n - (intOf i).toNat)
    case atStart => exact ⟨0, by omega, rfl, rfl, 0, rfl⟩
    case round =>
      obtain ⟨k, hk, rfl, hno, q, hq⟩ := hrel
      have HN := Lib.hid hno
      have HQ := Lib.hid hq
      have hkp : Kp No w wr := by rw [hq]; exact Kp.drewN _ _ _
      clear hno hq
      by_cases hlt : k < n
      · obtain ⟨x, hx⟩ : ∃ x, xs[k]? = some x := ⟨_, List.getElem?_eq_getElem (by rw [HXL.out]; exact hlt)⟩
        obtain ⟨y, hy⟩ : ∃ y, ys[k]? = some y := ⟨_, List.getElem?_eq_getElem (by rw [HYL.out]; exact hlt)⟩
        obtain ⟨b, o, rfl, hb, hc⟩ := (HX.out.no hkp).2 k x hx
        obtain ⟨b', o', rfl, hb', hc'⟩ := (HY.out.no hkp).2 k y hy
        have GX := Lib.hid hx
        have GY := Lib.hid hy
        clear hx hy hkp
        by_cases he : x = y
        · have d1 : (x != y) = false := by simp [he]
          have HE := Lib.hid he
          clear he
          go_wp2_with fail
          go_quiet (fail)
          go_wp2_with fail
          go_roundw
          case rel => exact ⟨k + 1, by omega, by go_num, by rw [List.take_add_one, List.take_add_one, GX.out, GY.out, HN.out, HE.out], q + nq, by rw [HQ.out, World.drewN_drewN]⟩
          case measure => simp [intOf]; omega
        · have d1 : (x != y) = true := by simp [he]
          have HE := Lib.hid he
          clear he
          go_wp2_with fail
          go_quiet (fail)
          go_wp2_with fail
          go_ret
          refine ⟨ret_bool ?_, q + nq, by rw [HQ.out, World.drewN_drewN]⟩
          symm
          rw [decide_eq_false_iff_not]
          intro e
          subst e
          exact HE.out (Option.some.inj (GX.out.symm.trans GY.out))
      · obtain rfl : k = n := by omega
        clear hkp
        go_wp2_with fail
        go_ret
        refine ⟨ret_bool ?_, q, HQ.out⟩
        have h := HN.out
        rw [List.take_of_length_le (by rw [HXL.out]; exact Nat.le_refl _), List.take_of_length_le (by rw [HYL.out]; exact Nat.le_refl _)] at h
        rw [h]
        simp
  · have HE := Lib.hid (show decide (xs = ys) = false by rw [decide_eq_false_iff_not]; intro e; subst e; exact hnm (hxl.symm.trans hyl))
    have d1 : ((n : Int) != (m : Int)) = true := by simp; omega
    rw [HE.out]
    clear hxl hyl hx hy
    go_enter Try.func30, Try.ntmps30
    go_wp2_with fail
    go_ret
    exact ⟨rfl, 0, rfl⟩
set_option maxHeartbeats 4000000 in
theorem samePlan_any (A B : Option Addr) (n m c d g g' : Nat) (xs ys : List (List Int)) (w : World) (hn : n ≤ 100000) (hm : m ≤ 100000) (hxb : ∀ x ∈ xs, x.length ≤ 100000) (hyb : ∀ x ∈ ys, x.length ≤ 100000) (hx : RdL g w A n xs) (hy : RdL g' w B m ys) :
    Calls Try.prog 17 #[.slice A n c, .slice B m d] w fun e w' => e = .returned (.bool (decide (xs = ys))) ∧ ∃ q, w' = w.drewN q := by
  have hxl := hx.1
  have hyl := hy.1
  have HX := Lib.hid hx
  have HY := Lib.hid hy
  have HBX := Lib.hid hxb
  have HBY := Lib.hid hyb
  clear hxb hyb
  by_cases hnm : n = m
  · subst hnm
    have HXL := Lib.hid hxl
    have HYL := Lib.hid hyl
    clear hxl hyl hx hy
    go_enter Try.func17, Try.ntmps17
    go_wp2_with fail
    go_loopw [5] (fun i wr => ∃ k : Nat, k ≤ n ∧ i = .int .i64 k ∧ xs.take k = ys.take k ∧ ∃ q, wr = w.drewN q) (fun i _ => n - (intOf i).toNat)
    case atStart => exact ⟨0, by omega, rfl, rfl, 0, rfl⟩
    case round =>
      obtain ⟨k, hk, rfl, hno, q, hq⟩ := hrel
      have HN := Lib.hid hno
      have HQ := Lib.hid hq
      have hkp : Kp No w wr := by rw [hq]; exact Kp.drewN _ _ _
      clear hno hq
      by_cases hlt : k < n
      · obtain ⟨x, hx⟩ : ∃ x, xs[k]? = some x := ⟨_, List.getElem?_eq_getElem (by rw [HXL.out]; exact hlt)⟩
        obtain ⟨y, hy⟩ : ∃ y, ys[k]? = some y := ⟨_, List.getElem?_eq_getElem (by rw [HYL.out]; exact hlt)⟩
        obtain ⟨b, o, A1, n1, c1, rfl, _, hc, _, r1, _⟩ := (HX.out.no hkp).2 k x hx
        obtain ⟨b', o', A2, n2, c2, rfl, _, hc', _, r2, _⟩ := (HY.out.no hkp).2 k y hy
        have h1 := HBX.out x (List.mem_of_getElem? hx)
        have h2 := HBY.out y (List.mem_of_getElem? hy)
        have SI := Lib.hid (fun (w0 : World) (k0 : Kp No wr w0) => sameI_any A1 A2 n1 n2 c1 c2 x y w0 (by rw [← r1.1]; exact h1) (by rw [← r2.1]; exact h2) (r1.no k0) (r2.no k0))
        have KD := Lib.hid (fun z => Kp.drewN No wr z)
        have GX := Lib.hid hx
        have GY := Lib.hid hy
        have hb := (World.block_lt_of_cell? _ _ hc)
        have hb' := (World.block_lt_of_cell? _ _ hc')
        clear hx hy hkp r1 r2 h1 h2
        by_cases he : x = y
        · have HE := Lib.hid he
          rw [decide_eq_true he] at SI
          clear he
          go_wp2_with fail
          go_quiet ((go_at_call 10; exact Calls.quiet_of (SI.out _ (KD.out _))))
          go_wp2_with fail
          go_roundw
          case rel => exact ⟨k + 1, by omega, by go_num, by rw [List.take_add_one, List.take_add_one, GX.out, GY.out, HN.out, HE.out], q + nq, by rw [HQ.out, World.drewN_drewN]⟩
          case measure => simp [intOf]; omega
        · have HE := Lib.hid he
          rw [decide_eq_false he] at SI
          clear he
          go_wp2_with fail
          go_quiet ((go_at_call 10; exact Calls.quiet_of (SI.out _ (KD.out _))))
          go_wp2_with fail
          go_ret
          refine ⟨ret_bool ?_, q + nq, by rw [HQ.out, World.drewN_drewN]⟩
          symm
          rw [decide_eq_false_iff_not]
          intro e
          subst e
          exact HE.out (Option.some.inj (GX.out.symm.trans GY.out))
      · obtain rfl : k = n := by omega
        clear hkp
        go_wp2_with fail
        go_ret
        refine ⟨ret_bool ?_, q, HQ.out⟩
        have h := HN.out
        rw [List.take_of_length_le (by rw [HXL.out]; exact Nat.le_refl _), List.take_of_length_le (by rw [HYL.out]; exact Nat.le_refl _)] at h
        rw [h]
        simp
  · have HE := Lib.hid (show decide (xs = ys) = false by rw [decide_eq_false_iff_not]; intro e; subst e; exact hnm (hxl.symm.trans hyl))
    have d1 : ((n : Int) != (m : Int)) = true := by simp; omega
    rw [HE.out]
    clear hxl hyl hx hy
    go_enter Try.func17, Try.ntmps17
    go_wp2_with fail
    go_ret
    exact ⟨rfl, 0, rfl⟩
end Go.Proofs.Ytakgcnjpmpcekaa
