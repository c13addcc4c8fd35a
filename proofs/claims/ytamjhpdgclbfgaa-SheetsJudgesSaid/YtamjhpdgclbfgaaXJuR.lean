/- Chapter 09: the reference's Judge: the walk. Printed by gen_jur.py. -/
import Derived.StillTailTactics
import Derived.BigQuiet
import Derived.Test.YtamjhpdgclbfgaaXJuA
import Derived.Test.YtamjhpdgclbfgaaXLibHvM
namespace Go.Proofs.Ytamjhpdgclbfgaa
open Go.RowKit Go.Kq

set_option maxHeartbeats 8000000 in
set_option maxRecDepth 100000 in
theorem rJudge_any (P : Pt) (A B : Option Addr) (n m ca cb : Nat) (l : List Ct) (at_ : List Spo) (w : World) (hx : RdC w A n l) (hy : RdS w B m at_) (hn : n ≤ 100000000) (hm : m ≤ 100000000) :
    Calls Try.prog 20 #[P.val, .slice A n ca, .slice B m cb] w fun e w' => e = .returned (.int .i64 (judV P l at_)) ∧ Kp No w w' := by
  have hk0 : Kp No w (w.alloc (.cells #[.int .i64 P.w, .int .i64 P.h, .int .i64 P.k] 23)) := Kp.alloc _ _ _
  have hbx : (w.alloc (.cells #[.int .i64 P.w, .int .i64 P.h, .int .i64 P.k] 23)).heap[w.heap.size]? = some (.cells #[.int .i64 P.w, .int .i64 P.h, .int .i64 P.k] 23 (0, 0)) := heap_alloc_new _ _
  have HC := Lib.hid (plate_any P A n ca l 200 _ (hx.no hk0) hn)
  have HV := Lib.hid (show judV P l at_ = if jchk P l 200 ≠ 0 then jchk P l 200 else if m ≠ n then 2 else if (l.zip at_).any fun q => badS P n q.1 q.2 then 2
    else if (List.range n).any (lapI P.k (l.zip at_)) then 8 else 0 by unfold judV; rw [hx.1, hy.1])
  have HX := Lib.hid hx
  have HY := Lib.hid hy
  have HL := Lib.hid hx.1
  have HM := Lib.hid hy.1
  clear hx hy
  obtain ⟨jv, hjv⟩ : ∃ jv, judV P l at_ = jv := ⟨_, rfl⟩
  rw [hjv] at HV ⊢
  clear hjv
  unfold Pt.val at HC ⊢
  by_cases hc : jchk P l 200 = 0
  rotate_left
  · have HJ := Lib.hid (show jv = jchk P l 200 by rw [HV.out, if_pos hc])
    clear HV HX HY HL HM hbx
    generalize jchk P l 200 = c at *
    have hcn : (c == 0) = false := beq_eq_false_iff_ne.2 hc
    go_enter Try.func20, Try.ntmps20
    go_wp2_with fail
    with_reducible refine HC.out.mono ?_
    rintro e w1 ⟨rfl, k1⟩
    have HK := Lib.hid (hk0.tr k1)
    clear hk0 k1 HC
    go_wp2_with fail
    go_loopw [7, 8] (fun v7 v8 wr => v7 = .int .i64 c ∧ v8 = .int .i64 0 ∧ wr = w1) (fun _ _ _ => 0)
    case atStart => exact ⟨rfl, rfl, rfl⟩
    case round =>
      obtain ⟨rfl, rfl, rfl⟩ := hrel
      by_cases hz : 0 < n
      all_goals
        go_wp2_with fail
        go_loopw [7, 10] (fun v7 v8 wx => v7 = .int .i64 c ∧ v8 = .int .i64 0 ∧ wx = wr) (fun _ _ _ => 0)
        case atStart => exact ⟨rfl, rfl, rfl⟩
        case round =>
          obtain ⟨rfl, rfl, rfl⟩ := hrel
          go_wp2_with fail
          go_ret
          exact ⟨ret_i64 HJ.out.symm, HK.out⟩
  have J := Lib.hid (job_ok hc)
  rw [if_neg (by rw [hc]; decide)] at HV
  rw [hc] at HC
  clear hc
  by_cases hnm : m = n
  rotate_left
  · have HJ := Lib.hid (show jv = 2 by rw [HV.out, if_pos hnm])
    clear HV HX HY HL HM hbx J
    go_enter Try.func20, Try.ntmps20
    go_wp2_with fail
    with_reducible refine HC.out.mono ?_
    rintro e w1 ⟨rfl, k1⟩
    have HK := Lib.hid (hk0.tr k1)
    clear hk0 k1 HC
    go_wp2_with fail
    go_loopw [7, 8] (fun v7 v8 wr => v7 = .int .i64 2 ∧ v8 = .int .i64 0 ∧ wr = w1) (fun _ _ _ => 0)
    case atStart => exact ⟨rfl, rfl, rfl⟩
    case round =>
      obtain ⟨rfl, rfl, rfl⟩ := hrel
      by_cases hz : 0 < n
      all_goals
        go_wp2_with fail
        go_loopw [7, 10] (fun v7 v8 wx => v7 = .int .i64 2 ∧ v8 = .int .i64 0 ∧ wx = wr) (fun _ _ _ => 0)
        case atStart => exact ⟨rfl, rfl, rfl⟩
        case round =>
          obtain ⟨rfl, rfl, rfl⟩ := hrel
          go_wp2_with fail
          go_ret
          exact ⟨ret_i64 HJ.out.symm, HK.out⟩
  subst hnm
  rw [if_neg (by simp)] at HV

  go_enter Try.func20, Try.ntmps20
  go_wp2_with fail
  with_reducible refine HC.out.mono ?_
  rintro e w1 ⟨rfl, k1⟩
  obtain ⟨gp, hgp⟩ : ∃ gp, gp = w.heap.size := ⟨_, rfl⟩
  rw [← hgp] at hbx ⊢
  have HB := Lib.hid (k1.heap hbx id)
  have HK := Lib.hid (hk0.tr k1)
  clear HC hbx hgp hk0 k1
  obtain ⟨bad, hbd⟩ : ∃ f, (fun q : Ct × Spo => badS P m q.1 q.2) = f := ⟨_, rfl⟩
  rw [hbd] at HV
  have HBD := Lib.hid (fun (c : Ct) (s : Spo) => (show bad (c, s) = badS P m c s by rw [← hbd]))
  clear hbd
  go_wp2_with fail
  go_loopw [7, 8] (fun v7 v8 wr => ∃ k : Nat, k ≤ m ∧ v8 = .int .i64 k ∧ ((v7 = .int .i64 0 ∧ ((l.zip at_).take k).any bad = false) ∨ (v7 = .int .i64 2 ∧ (l.zip at_).any bad = true)) ∧ Kp No w1 wr) (fun _ v8 _ => m - (intOf v8).toNat)
  case atStart => exact ⟨0, by omega, rfl, .inl ⟨rfl, by simp⟩, Kp.refl _ _⟩
  case round =>
    obtain ⟨k, hk, rfl, hv7, hkp⟩ := hrel
    rcases hv7 with ⟨rfl, hno⟩ | ⟨rfl, hyes⟩
    rotate_left
    · have HJ := Lib.hid (show jv = 2 by rw [HV.out, if_pos hyes])
      have HK1 := Lib.hid (HK.out.tr hkp)
      clear hyes HV HX HY HL HM HB HK HBD hkp J
      by_cases hz : k < m
      all_goals
        go_wp2_with fail
        go_loopw [7, 10] (fun v7 v8 wx => v7 = .int .i64 2 ∧ v8 = .int .i64 0 ∧ wx = wr) (fun _ _ _ => 0)
        case atStart => exact ⟨rfl, rfl, rfl⟩
        case round =>
          obtain ⟨rfl, rfl, rfl⟩ := hrel
          by_cases hz2 : 0 < m
          all_goals
            go_wp2_with fail
            go_ret
            exact ⟨ret_i64 HJ.out.symm, HK1.out⟩
    by_cases hlt : k < m
    · obtain ⟨c, hc⟩ : ∃ c, l[k]? = some c := ⟨_, List.getElem?_eq_getElem (by rw [HL.out]; exact hlt)⟩
      obtain ⟨s, hs⟩ : ∃ s, at_[k]? = some s := ⟨_, List.getElem?_eq_getElem (by rw [HM.out]; exact hlt)⟩
      obtain ⟨b, o, rfl, _, hcc⟩ := (HX.out.no (HK.out.tr hkp)).2 k c hc
      obtain ⟨b', o', rfl, _, hss⟩ := (HY.out.no (HK.out.tr hkp)).2 k s hs
      have c0 := hcc 0 _ rfl
      have c1 := hcc 1 _ rfl
      simp only [Nat.add_zero] at c0
      have s0 := hss 0 _ rfl
      have s1 := hss 1 _ rfl
      have s2 := hss 2 _ rfl
      have s3 := hss 3 _ rfl
      simp only [Nat.add_zero] at s0
      have hb := hkp.heap HB.out id
      have b0 : wr.cell? ⟨gp, 0, none⟩ = some (.int .i64 P.w) := by rw [cell_of_row _ _ _ _ _ _ hb]; rfl
      have b1 : wr.cell? ⟨gp, 1, none⟩ = some (.int .i64 P.h) := by rw [cell_of_row _ _ _ _ _ _ hb]; rfl
      have hz := ju_zip_at hc hs
      have HT := Lib.hid (any_take_succ bad (l.zip at_) k (c, s) hz)
      have HY2 := Lib.hid (fun (h : bad (c, s) = true) => (List.any_eq_true.2 ⟨(c, s), List.mem_of_getElem? hz, h⟩ : (l.zip at_).any bad = true))
      have HNO := Lib.hid hno
      have jw := J.out.w
      have jh := J.out.h
      have jc := J.out.cut c (List.mem_of_getElem? hc)
      have hw0 : IntKind.i64.wrap (P.w - c.w) = P.w - c.w := IntWalk.i64_in _ (by omega)
      have hw1 : IntKind.i64.wrap (P.h - c.h) = P.h - c.h := IntWalk.i64_in _ (by omega)
      have HB2 := Lib.hid (HBD.out c s)
      rw [badS_c, cB] at HB2
      obtain ⟨w2, hw2⟩ : ∃ w2, wr.alloc (.cells #[.int .i64 s.p, .int .i64 s.s, .int .i64 s.x, .int .i64 s.y] 52) = w2 := ⟨_, rfl⟩
      obtain ⟨g2, hg2⟩ : ∃ g2, wr.heap.size = g2 := ⟨_, rfl⟩
      have k2 : Kp No wr w2 := by rw [← hw2]; exact Kp.alloc _ _ _
      have A2 : w2.heap[g2]? = some (.cells #[.int .i64 s.p, .int .i64 s.s, .int .i64 s.x, .int .i64 s.y] 52 (0, 0)) := by rw [← hw2, ← hg2]; exact heap_alloc_new _ _
      have z0 : w2.cell? ⟨g2, 0, none⟩ = some (.int .i64 s.p) := by rw [cell_of_row _ _ _ _ _ _ A2]; rfl
      have z1 : w2.cell? ⟨g2, 1, none⟩ = some (.int .i64 s.s) := by rw [cell_of_row _ _ _ _ _ _ A2]; rfl
      have z2 : w2.cell? ⟨g2, 2, none⟩ = some (.int .i64 s.x) := by rw [cell_of_row _ _ _ _ _ _ A2]; rfl
      have z3 : w2.cell? ⟨g2, 3, none⟩ = some (.int .i64 s.y) := by rw [cell_of_row _ _ _ _ _ _ A2]; rfl
      have d0 := k2.cell c0 id
      have d1 := k2.cell c1 id
      have e0 := k2.cell b0 id
      have e1 := k2.cell b1 id
      have KP := Lib.hid (hkp.tr k2)
      clear hc hs hcc hss hb hz hno hkp k2 A2 jw jh jc c0 c1 b0 b1 HV HBD
      cases q0 : decide (s.p < 0)
      rotate_left
      · have HY3 := HY2.out (by rw [HB2.out, q0]; rfl)
        go_wp2_with fail
        go_quiet (fail)
        go_wp2_with fail
        clear hw2 hg2
        go_roundw
        case rel => exact ⟨k + 1, by omega, by go_num, .inr ⟨rfl, HY3⟩, KP.out.tr (Kp.drewN _ _ _)⟩
        case measure => simp [intOf]; omega
      cases q1 : decide ((m : Int) ≤ s.p)
      rotate_left
      · have HY3 := HY2.out (by rw [HB2.out, q0, q1]; rfl)
        go_wp2_with fail
        go_quiet (fail)
        go_wp2_with fail
        clear hw2 hg2
        go_roundw
        case rel => exact ⟨k + 1, by omega, by go_num, .inr ⟨rfl, HY3⟩, KP.out.tr (Kp.drewN _ _ _)⟩
        case measure => simp [intOf]; omega
      cases q2 : decide (s.s < 0)
      rotate_left
      · have HY3 := HY2.out (by rw [HB2.out, q0, q1, q2]; rfl)
        go_wp2_with fail
        go_quiet (fail)
        go_wp2_with fail
        clear hw2 hg2
        go_roundw
        case rel => exact ⟨k + 1, by omega, by go_num, .inr ⟨rfl, HY3⟩, KP.out.tr (Kp.drewN _ _ _)⟩
        case measure => simp [intOf]; omega
      cases q3 : decide ((m : Int) ≤ s.s)
      rotate_left
      · have HY3 := HY2.out (by rw [HB2.out, q0, q1, q2, q3]; rfl)
        go_wp2_with fail
        go_quiet (fail)
        go_wp2_with fail
        clear hw2 hg2
        go_roundw
        case rel => exact ⟨k + 1, by omega, by go_num, .inr ⟨rfl, HY3⟩, KP.out.tr (Kp.drewN _ _ _)⟩
        case measure => simp [intOf]; omega
      cases q4 : decide (s.x < 0)
      rotate_left
      · have HY3 := HY2.out (by rw [HB2.out, q0, q1, q2, q3, q4]; rfl)
        go_wp2_with fail
        go_quiet (fail)
        go_wp2_with fail
        clear hw2 hg2
        go_roundw
        case rel => exact ⟨k + 1, by omega, by go_num, .inr ⟨rfl, HY3⟩, KP.out.tr (Kp.drewN _ _ _)⟩
        case measure => simp [intOf]; omega
      cases q5 : decide (P.w - c.w < s.x)
      rotate_left
      · have HY3 := HY2.out (by rw [HB2.out, q0, q1, q2, q3, q4, q5]; rfl)
        go_wp2_with fail
        go_quiet (fail)
        go_wp2_with fail
        clear hw2 hg2
        go_roundw
        case rel => exact ⟨k + 1, by omega, by go_num, .inr ⟨rfl, HY3⟩, KP.out.tr (Kp.drewN _ _ _)⟩
        case measure => simp [intOf]; omega
      cases q6 : decide (s.y < 0)
      rotate_left
      · have HY3 := HY2.out (by rw [HB2.out, q0, q1, q2, q3, q4, q5, q6]; rfl)
        go_wp2_with fail
        go_quiet (fail)
        go_wp2_with fail
        clear hw2 hg2
        go_roundw
        case rel => exact ⟨k + 1, by omega, by go_num, .inr ⟨rfl, HY3⟩, KP.out.tr (Kp.drewN _ _ _)⟩
        case measure => simp [intOf]; omega
      cases q7 : decide (P.h - c.h < s.y)
      rotate_left
      · have HY3 := HY2.out (by rw [HB2.out, q0, q1, q2, q3, q4, q5, q6, q7]; rfl)
        go_wp2_with fail
        go_quiet (fail)
        go_wp2_with fail
        clear hw2 hg2
        go_roundw
        case rel => exact ⟨k + 1, by omega, by go_num, .inr ⟨rfl, HY3⟩, KP.out.tr (Kp.drewN _ _ _)⟩
        case measure => simp [intOf]; omega
      have HN3 : ((l.zip at_).take (k + 1)).any bad = false := by rw [HT.out, HNO.out, HB2.out, q0, q1, q2, q3, q4, q5, q6, q7]; rfl
      go_wp2_with fail
      go_quiet (fail)
      go_wp2_with fail
      clear hw2 hg2
      go_roundw
      case rel => exact ⟨k + 1, by omega, by go_num, .inl ⟨rfl, HN3⟩, KP.out.tr (Kp.drewN _ _ _)⟩
      case measure => simp [intOf]; omega
    obtain rfl : m = k := by omega
    have HA : (l.zip at_).any bad = false := by rw [List.take_of_length_le (by rw [List.length_zip, HL.out, HM.out]; omega)] at hno; exact hno
    have HV2 := Lib.hid (show jv = if (List.range m).any (lapI P.k (l.zip at_)) then 8 else 0 by rw [HV.out, HA]; rfl)
    have GOOD := Lib.hid (fun (i : Nat) (c : Ct) (s : Spo) (h1 : l[i]? = some c) (h2 : at_[i]? = some s) => badS_no (show badS P m c s = false by
      have := List.any_eq_false.1 HA (c, s) (List.mem_of_getElem? (ju_zip_at h1 h2))
      rw [HBD.out] at this
      simpa using this))
    have KA := Lib.hid (HK.out.tr hkp)
    have HB1 := Lib.hid (hkp.heap HB.out id)
    clear HV HA hno HBD hkp HK HB hlt hk
    go_wp2_with fail
    go_loopw [7, 10] (fun v7 v10 wx => ∃ i : Nat, i ≤ m ∧ v10 = .int .i64 i ∧ ((v7 = .int .i64 0 ∧ (List.range i).any (lapI P.k (l.zip at_)) = false) ∨ (v7 = .int .i64 8 ∧ (List.range m).any (lapI P.k (l.zip at_)) = true)) ∧ Kp No wr wx) (fun _ v10 _ => m - (intOf v10).toNat)
    case atStart => exact ⟨0, by omega, rfl, .inl ⟨rfl, by simp⟩, Kp.refl _ _⟩
    case round =>
      rename World => wx
      obtain ⟨i, hi, rfl, hv7, hkp⟩ := hrel
      rcases hv7 with ⟨rfl, hno⟩ | ⟨rfl, hyes⟩
      rotate_left
      · have HJ := Lib.hid (show jv = 8 by rw [HV2.out, hyes]; rfl)
        have HK1 := Lib.hid (KA.out.tr hkp)
        clear hyes HV2 HX HY HL HM HB1 KA GOOD hkp J
        by_cases hz : i < m
        all_goals
          go_wp2_with fail
          go_ret
          exact ⟨ret_i64 HJ.out.symm, HK1.out⟩
      by_cases hlt : i < m
      rotate_left
      · obtain rfl : m = i := by omega
        have HJ := Lib.hid (show jv = 0 by rw [HV2.out, hno]; rfl)
        have HK1 := Lib.hid (KA.out.tr hkp)
        clear hno HV2 HX HY HL HM HB1 KA GOOD hkp J
        go_wp2_with fail
        go_ret
        exact ⟨ret_i64 HJ.out.symm, HK1.out⟩
      obtain ⟨c, hc⟩ : ∃ c, l[i]? = some c := ⟨_, List.getElem?_eq_getElem (by rw [HL.out]; exact hlt)⟩
      obtain ⟨s, hs⟩ : ∃ s, at_[i]? = some s := ⟨_, List.getElem?_eq_getElem (by rw [HM.out]; exact hlt)⟩
      have HXK := Lib.hid (HX.out.no (KA.out.tr hkp))
      have HYK := Lib.hid (HY.out.no (KA.out.tr hkp))
      obtain ⟨b, o, rfl, _, _⟩ := HXK.out.2 i c hc
      obtain ⟨b', o', rfl, _, _⟩ := HYK.out.2 i s hs
      obtain ⟨f, hf0⟩ : ∃ f, (fun r : Ct × Spo => lapB P.k c r.1 s r.2) = f := ⟨_, rfl⟩
      have HF := Lib.hid (fun (d : Ct) (t : Spo) => (show f (d, t) = lapB P.k c d s t by rw [← hf0]))
      have HLI := Lib.hid (show lapI P.k (l.zip at_) i = ((l.zip at_).take i).any f by unfold lapI; rw [ju_zip_at hc hs, ← hf0])
      have HRS := Lib.hid (range_any_succ (lapI P.k (l.zip at_)) i)
      have HNO := Lib.hid hno
      have HRA := Lib.hid (fun (h : ((l.zip at_).take i).any f = true) => (range_any_at hlt (by rw [HLI.out]; exact h) : (List.range m).any (lapI P.k (l.zip at_)) = true))
      have gs := GOOD.out i c s hc hs
      have jw := J.out.w
      have jh := J.out.h
      have jk := J.out.k
      have jc := J.out.cut c (List.mem_of_getElem? hc)
      have HC := Lib.hid hc
      have HS := Lib.hid hs
      have HKP := Lib.hid hkp
      clear hno hf0 hc hs hkp
      go_wp2_with fail
      go_loopw [7, 11] (fun v7 v11 wy => ∃ k : Nat, k ≤ i ∧ v11 = .int .i64 k ∧ ((v7 = .int .i64 0 ∧ ((l.zip at_).take k).any f = false) ∨ (v7 = .int .i64 8 ∧ ((l.zip at_).take i).any f = true)) ∧ Kp No wx wy) (fun _ v11 _ => i - (intOf v11).toNat)
      case atStart => exact ⟨0, by omega, rfl, .inl ⟨rfl, by simp⟩, Kp.refl _ _⟩
      case round =>
        rename World => wy
        obtain ⟨k, hk, rfl, hv7, hkp⟩ := hrel
        rcases hv7 with ⟨rfl, hno⟩ | ⟨rfl, hyes⟩
        rotate_left
        · have HY9 := Lib.hid hyes
          have HK9 := Lib.hid (HKP.out.tr hkp)
          clear hyes hkp
          by_cases hz : k < i
          all_goals
            go_wp2_with fail
            go_roundw
            case rel => exact ⟨i + 1, by omega, by go_num, .inr ⟨rfl, HRA.out HY9.out⟩, HK9.out⟩
            case measure => simp [intOf]; omega
        by_cases hki : k < i
        rotate_left
        · obtain rfl : i = k := by omega
          have HN9 := Lib.hid hno
          have HK9 := Lib.hid (HKP.out.tr hkp)
          clear hno hkp
          go_wp2_with fail
          go_roundw
          case rel => exact ⟨i + 1, by omega, by go_num, .inl ⟨rfl, by rw [HRS.out, HNO.out, HLI.out, HN9.out]; rfl⟩, HK9.out⟩
          case measure => simp [intOf]; omega
        obtain ⟨d, hd0⟩ : ∃ d, l[k]? = some d := ⟨_, List.getElem?_eq_getElem (by rw [HL.out]; omega)⟩
        obtain ⟨t, ht0⟩ : ∃ t, at_[k]? = some t := ⟨_, List.getElem?_eq_getElem (by rw [HM.out]; omega)⟩
        have HXY := HXK.out.no hkp
        have HYY := HYK.out.no hkp
        obtain ⟨c0, c1⟩ := rdc_here HXY HC.out
        obtain ⟨d0, d1⟩ := rdc_here HXY hd0
        obtain ⟨s0, s1, s2, s3⟩ := rds_here HYY HS.out
        obtain ⟨t0, t1, t2, t3⟩ := rds_here HYY ht0
        have hb := hkp.heap (HKP.out.heap HB1.out id) id
        have p2 : wy.cell? ⟨gp, 2, none⟩ = some (.int .i64 P.k) := by rw [cell_of_row _ _ _ _ _ _ hb]; rfl
        have gt := GOOD.out k d t hd0 ht0
        have jd := J.out.cut d (List.mem_of_getElem? hd0)
        have HTK := Lib.hid (any_take_succ f (l.zip at_) k (d, t) (ju_zip_at hd0 ht0))
        have HYE := Lib.hid (fun (h : f (d, t) = true) => (List.any_eq_true.2 ⟨(d, t), List.mem_of_getElem? (i := k) (by rw [List.getElem?_take_of_lt hki]; exact ju_zip_at hd0 ht0), h⟩ : ((l.zip at_).take i).any f = true))
        have HOV := Lib.hid (fun w0 => overlap_any P.k c d s t w0 jk jc jd ⟨⟨gs.1.1, by omega⟩, gs.2.1, by omega⟩ ⟨⟨gt.1.1, by omega⟩, gt.2.1, by omega⟩)
        simp only [Ct.val, Spo.val] at HOV
        rw [← HF.out d t] at HOV
        obtain ⟨lv, hlv⟩ : ∃ lv, f (d, t) = lv := ⟨_, rfl⟩
        simp only [hlv] at HTK HYE HOV
        have HNK := Lib.hid hno
        have HK9 := Lib.hid hkp
        have hkm : k < m := by omega
        clear hlv hno hkp HXY HYY hd0 ht0 hb gt jd gs jc jw jh jk HV2 HLI HRS HRA HF
        go_wp2_with fail
        refine wp_region_each (fun ix uR => match ix with | 0 => uR = .pointer (some ⟨gp, 2, none⟩) | 1 => uR = .int .i64 P.k | 2 => uR = .slice (some ⟨b, o, none⟩) m ca | 3 => uR = .int .i64 (i : Nat) | 4 => uR = .pointer (some ⟨b, o + i * 2, none⟩) | 5 => uR = .agg #[.int .i64 c.w, .int .i64 c.h] | 6 => uR = .slice (some ⟨b, o, none⟩) m ca | 7 => uR = .int .i64 (k : Nat) | 8 => uR = .pointer (some ⟨b, o + k * 2, none⟩) | 9 => uR = .agg #[.int .i64 d.w, .int .i64 d.h] | 10 => uR = .slice (some ⟨b', o', none⟩) m cb | 11 => uR = .int .i64 (i : Nat) | 12 => uR = .pointer (some ⟨b', o' + i * 4, none⟩) | 13 => uR = .agg #[.int .i64 s.p, .int .i64 s.s, .int .i64 s.x, .int .i64 s.y] | 14 => uR = .slice (some ⟨b', o', none⟩) m cb | 15 => uR = .int .i64 (k : Nat) | 16 => uR = .pointer (some ⟨b', o' + k * 4, none⟩) | 17 => uR = .agg #[.int .i64 t.p, .int .i64 t.s, .int .i64 t.x, .int .i64 t.y] | 18 => uR = .bool lv | _ => True) (fun _ w' => Kp No wy w') (by kernel_rfl) (by kernel_rfl) (by kernel_rfl) ?_ ?_ ?_
        · exact Kp.drew _ _
        · refine ⟨?_, ?_, ?_, ?_, ?_, ?_, ?_, ?_, ?_, ?_, ?_, ?_, ?_, ?_, ?_, ?_, ?_, ?_, ?_, trivial⟩
          · intro r a w' hf hg hW hr hd K hK
            refine wpOp_of rfl rfl ?_
            have e0 : a.tmps.getD 3 undef = .pointer (some ⟨gp, 0, none⟩) := hf.evalFree (by kernel_rfl)
            go_simp
            exact hK _ _ rfl (hW)
          · intro r a w' hf hg hW hr hd K hK
            refine wpOp_of rfl rfl ?_
            refine hf.depE hg hd 0 115 (by kernel_rfl) fun u0 e0 g0 h0 => ?_
            replace g0 : u0 = .pointer (some ⟨gp, 2, none⟩) := g0
            subst g0
            have z0 := hW.cell p2 id
            go_simp
            exact hK _ _ rfl (hW)
          · intro r a w' hf hg hW hr hd K hK
            refine wpOp_of rfl rfl ?_
            have e0 : a.tmps.getD 1 undef = .slice (some ⟨b, o, none⟩) m ca := hf.evalFree (by kernel_rfl)
            go_simp
            exact hK _ _ rfl (hW)
          · intro r a w' hf hg hW hr hd K hK
            refine wpOp_of rfl rfl ?_
            have e0 : a.tmps.getD 10 undef = .int .i64 (i : Nat) := hf.evalFree (by kernel_rfl)
            go_simp
            exact hK _ _ rfl (hW)
          · intro r a w' hf hg hW hr hd K hK
            refine wpOp_of rfl rfl ?_
            refine hf.depE hg hd 2 117 (by kernel_rfl) fun u0 e0 g0 h0 => ?_
            replace g0 : u0 = .slice (some ⟨b, o, none⟩) m ca := g0
            subst g0
            refine hf.depE hg hd 3 118 (by kernel_rfl) fun u1 e1 g1 h1 => ?_
            replace g1 : u1 = .int .i64 (i : Nat) := g1
            subst g1
            go_simp
            exact hK _ _ rfl (hW)
          · intro r a w' hf hg hW hr hd K hK
            refine wpOp_of rfl rfl ?_
            refine hf.depE hg hd 4 119 (by kernel_rfl) fun u0 e0 g0 h0 => ?_
            replace g0 : u0 = .pointer (some ⟨b, o + i * 2, none⟩) := g0
            subst g0
            have z0 := hW.cell c0 id
            have z1 := hW.cell c1 id
            go_simp
            exact hK _ _ rfl (hW)
          · intro r a w' hf hg hW hr hd K hK
            refine wpOp_of rfl rfl ?_
            have e0 : a.tmps.getD 1 undef = .slice (some ⟨b, o, none⟩) m ca := hf.evalFree (by kernel_rfl)
            go_simp
            exact hK _ _ rfl (hW)
          · intro r a w' hf hg hW hr hd K hK
            refine wpOp_of rfl rfl ?_
            have e0 : a.tmps.getD 11 undef = .int .i64 (k : Nat) := hf.evalFree (by kernel_rfl)
            go_simp
            exact hK _ _ rfl (hW)
          · intro r a w' hf hg hW hr hd K hK
            refine wpOp_of rfl rfl ?_
            refine hf.depE hg hd 6 121 (by kernel_rfl) fun u0 e0 g0 h0 => ?_
            replace g0 : u0 = .slice (some ⟨b, o, none⟩) m ca := g0
            subst g0
            refine hf.depE hg hd 7 122 (by kernel_rfl) fun u1 e1 g1 h1 => ?_
            replace g1 : u1 = .int .i64 (k : Nat) := g1
            subst g1
            go_simp
            exact hK _ _ rfl (hW)
          · intro r a w' hf hg hW hr hd K hK
            refine wpOp_of rfl rfl ?_
            refine hf.depE hg hd 8 123 (by kernel_rfl) fun u0 e0 g0 h0 => ?_
            replace g0 : u0 = .pointer (some ⟨b, o + k * 2, none⟩) := g0
            subst g0
            have z0 := hW.cell d0 id
            have z1 := hW.cell d1 id
            go_simp
            exact hK _ _ rfl (hW)
          · intro r a w' hf hg hW hr hd K hK
            refine wpOp_of rfl rfl ?_
            have e0 : a.tmps.getD 2 undef = .slice (some ⟨b', o', none⟩) m cb := hf.evalFree (by kernel_rfl)
            go_simp
            exact hK _ _ rfl (hW)
          · intro r a w' hf hg hW hr hd K hK
            refine wpOp_of rfl rfl ?_
            have e0 : a.tmps.getD 10 undef = .int .i64 (i : Nat) := hf.evalFree (by kernel_rfl)
            go_simp
            exact hK _ _ rfl (hW)
          · intro r a w' hf hg hW hr hd K hK
            refine wpOp_of rfl rfl ?_
            refine hf.depE hg hd 10 125 (by kernel_rfl) fun u0 e0 g0 h0 => ?_
            replace g0 : u0 = .slice (some ⟨b', o', none⟩) m cb := g0
            subst g0
            refine hf.depE hg hd 11 126 (by kernel_rfl) fun u1 e1 g1 h1 => ?_
            replace g1 : u1 = .int .i64 (i : Nat) := g1
            subst g1
            go_simp
            exact hK _ _ rfl (hW)
          · intro r a w' hf hg hW hr hd K hK
            refine wpOp_of rfl rfl ?_
            refine hf.depE hg hd 12 127 (by kernel_rfl) fun u0 e0 g0 h0 => ?_
            replace g0 : u0 = .pointer (some ⟨b', o' + i * 4, none⟩) := g0
            subst g0
            have z0 := hW.cell s0 id
            have z1 := hW.cell s1 id
            have z2 := hW.cell s2 id
            have z3 := hW.cell s3 id
            go_simp
            exact hK _ _ rfl (hW)
          · intro r a w' hf hg hW hr hd K hK
            refine wpOp_of rfl rfl ?_
            have e0 : a.tmps.getD 2 undef = .slice (some ⟨b', o', none⟩) m cb := hf.evalFree (by kernel_rfl)
            go_simp
            exact hK _ _ rfl (hW)
          · intro r a w' hf hg hW hr hd K hK
            refine wpOp_of rfl rfl ?_
            have e0 : a.tmps.getD 11 undef = .int .i64 (k : Nat) := hf.evalFree (by kernel_rfl)
            go_simp
            exact hK _ _ rfl (hW)
          · intro r a w' hf hg hW hr hd K hK
            refine wpOp_of rfl rfl ?_
            refine hf.depE hg hd 14 129 (by kernel_rfl) fun u0 e0 g0 h0 => ?_
            replace g0 : u0 = .slice (some ⟨b', o', none⟩) m cb := g0
            subst g0
            refine hf.depE hg hd 15 130 (by kernel_rfl) fun u1 e1 g1 h1 => ?_
            replace g1 : u1 = .int .i64 (k : Nat) := g1
            subst g1
            go_simp
            exact hK _ _ rfl (hW)
          · intro r a w' hf hg hW hr hd K hK
            refine wpOp_of rfl rfl ?_
            refine hf.depE hg hd 16 131 (by kernel_rfl) fun u0 e0 g0 h0 => ?_
            replace g0 : u0 = .pointer (some ⟨b', o' + k * 4, none⟩) := g0
            subst g0
            have z0 := hW.cell t0 id
            have z1 := hW.cell t1 id
            have z2 := hW.cell t2 id
            have z3 := hW.cell t3 id
            go_simp
            exact hK _ _ rfl (hW)
          · intro r a w' hf hg hW hr hd K hK
            refine wpOp_of rfl rfl ?_
            refine hf.depE hg hd 1 116 (by kernel_rfl) fun u0 e0 g0 h0 => ?_
            replace g0 : u0 = .int .i64 P.k := g0
            subst g0
            refine hf.depE hg hd 5 120 (by kernel_rfl) fun u1 e1 g1 h1 => ?_
            replace g1 : u1 = .agg #[.int .i64 c.w, .int .i64 c.h] := g1
            subst g1
            refine hf.depE hg hd 9 124 (by kernel_rfl) fun u2 e2 g2 h2 => ?_
            replace g2 : u2 = .agg #[.int .i64 d.w, .int .i64 d.h] := g2
            subst g2
            refine hf.depE hg hd 13 128 (by kernel_rfl) fun u3 e3 g3 h3 => ?_
            replace g3 : u3 = .agg #[.int .i64 s.p, .int .i64 s.s, .int .i64 s.x, .int .i64 s.y] := g3
            subst g3
            refine hf.depE hg hd 17 132 (by kernel_rfl) fun u4 e4 g4 h4 => ?_
            replace g4 : u4 = .agg #[.int .i64 t.p, .int .i64 t.s, .int .i64 t.x, .int .i64 t.y] := g4
            subst g4
            go_simp
            with_reducible refine (HOV.out w').mono ?_
            rintro e w'' ⟨rfl, k'⟩
            exact hK _ _ rfl (hW.tr k')
        intro r' w9 hg hW hr'
        obtain ⟨q18, hq18⟩ : ∃ u, r' 18 = some u := Option.ne_none_iff_exists'.1 (hr' 18 (by decide))
        simp only [List.length_cons, List.length_nil, Nat.reduceAdd, List.range_succ, List.range_zero, List.nil_append, List.cons_append, List.map_cons, List.map_nil, putAll, Act.put, List.setIfInBounds_toArray, List.set_cons_succ, List.set_cons_zero, hq18, Option.getD_some]
        have hk18 := hg 18 q18 hq18
        replace hk18 : q18 = .bool lv := hk18
        subst hk18
        have HK10 := Lib.hid (HK9.out.tr hW)
        clear hg hW hr' c0 c1 d0 d1 s0 s1 s2 s3 t0 t1 t2 t3 p2 HOV
        cases lv
        · go_wp2_with fail
          go_roundw
          case rel => exact ⟨k + 1, by omega, by go_num, .inl ⟨rfl, by rw [HTK.out, HNK.out]; rfl⟩, HK10.out⟩
          case measure => simp [intOf]; omega
        · go_wp2_with fail
          go_roundw
          case rel => exact ⟨k + 1, by omega, by go_num, .inr ⟨rfl, HYE.out rfl⟩, HK10.out⟩
          case measure => simp [intOf]; omega
end Go.Proofs.Ytamjhpdgclbfgaa
