/- Chapter 09: Quick, its errors too. · Chapter 09: the law of Nest: the walk. · Chapter 09: the law of Quick: the walk. · Chapter 09: Judge: the walk. Printed by gen_jup.py. -/
import Derived.BigQuiet
import Derived.Test.YtamjhpdgclbfgaaXQkX
import Derived.Test.YtamjhpdgclbfgaaXNtCM
import Derived.Test.YtamjhpdgclbfgaaXNtI
import Derived.Test.YtamjhpdgclbfgaaXAwk
import Derived.Test.YtamjhpdgclbfgaaXAwPM
import Derived.Test.YtamjhpdgclbfgaaXQrQ
import Derived.Test.YtamjhpdgclbfgaaXLibHwM
namespace Go.Proofs.Ytamjhpdgclbfgaa
open Go.RowKit Go.Kq

set_option maxHeartbeats 8000000 in
set_option maxRecDepth 100000 in
theorem Quick_err (P : Pt) (A : Option Addr) (n ca : Nat) (l : List Ct) (w : World) (hx : RdC w A n l) (hn : n ≤ 100000000) (he : quiE P l ≠ 0) :
    Calls Try.prog 12 #[P.val, .slice A n ca] w fun e w' => e = .returned (.tuple #[.slice none 0 0, .int .i64 (quiE P l)]) ∧ Kp No w w' := by
  obtain ⟨w1, hw1⟩ : ∃ w1, w1 = (w.alloc (.cells #[.int .i64 P.w, .int .i64 P.h, .int .i64 P.k] 23)).alloc (.cells #[.int .i64 P.w, .int .i64 P.h, .int .i64 P.k, .slice A n ca] 56) := ⟨_, rfl⟩
  obtain ⟨gp, hgp⟩ : ∃ gp, gp = w.heap.size := ⟨_, rfl⟩
  obtain ⟨gj, hgj⟩ : ∃ gj, gj = w.heap.size + 1 := ⟨_, rfl⟩
  have hk1 : Kp No w w1 := by rw [hw1]; exact (Kp.alloc _ _ _).tr (Kp.alloc _ _ _)
  have hjb : w1.heap[gj]? = some (.cells #[.int .i64 P.w, .int .i64 P.h, .int .i64 P.k, .slice A n ca] 56 (0, 0)) := by
    have := heap_alloc_new (w.alloc (.cells #[.int .i64 P.w, .int .i64 P.h, .int .i64 P.k] 23)) (.cells #[.int .i64 P.w, .int .i64 P.h, .int .i64 P.k, .slice A n ca] 56)
    rw [hw1, hgj]
    simpa using this
  have HJB := Lib.hid hjb
  have HW1 := Lib.hid hw1
  have HK1 := Lib.hid hk1
  have HC := Lib.hid (jcheck_any P A n ca l 200 w1 (hx.no hk1) (by omega))
  have HBIG := Lib.hid (fun w2 (k : Kp No w1 w2) => large_any P A n ca l w2 ((hx.no hk1).no k) (by omega))
  have HGP := Lib.hid (show gp = w.heap.size ∧ gj = gp + 1 from ⟨hgp, by rw [hgp, hgj]⟩)
  have HE := Lib.hid (show quiE P l = if jchk P l 200 = 0 then fitV P l else jchk P l 200 from rfl)
  obtain ⟨qe, hqe⟩ : ∃ q, quiE P l = q := ⟨_, rfl⟩
  rw [hqe] at HE he ⊢
  have HNE := Lib.hid he
  simp only [jobV] at HC HBIG
  unfold Pt.val
  clear hx hw1 hgp hgj hk1 hjb hqe he
  go_enter Try.func12, Try.ntmps12
  go_wp2_with fail
  rw [← HW1.out, ← HGP.out.1, ← HGP.out.2]
  with_reducible refine HC.out.mono ?_
  rintro e w2 ⟨rfl, k2⟩
  have hj2 := k2.heap HJB.out id
  have b0 : w2.cell? ⟨gj, 0, none⟩ = some (.int .i64 P.w) := by rw [cell_of_row _ _ _ _ _ _ hj2]; rfl
  have b1 : w2.cell? ⟨gj, 1, none⟩ = some (.int .i64 P.h) := by rw [cell_of_row _ _ _ _ _ _ hj2]; rfl
  have b2 : w2.cell? ⟨gj, 2, none⟩ = some (.int .i64 P.k) := by rw [cell_of_row _ _ _ _ _ _ hj2]; rfl
  have b3 : w2.cell? ⟨gj, 3, none⟩ = some (.slice A n ca) := by rw [cell_of_row _ _ _ _ _ _ hj2]; rfl
  have HK2 := Lib.hid k2
  clear k2 hj2 HC HW1
  by_cases hj : jchk P l 200 = 0
  · rw [hj] at HE ⊢
    rw [if_pos rfl] at HE
    have hbg : l.any (bigC P) = true := by
      cases hb : l.any (bigC P) with
      | true => rfl
      | false =>
        have h := HE.out
        unfold fitV at h
        rw [hb] at h
        exact absurd h HNE.out
    have HV := Lib.hid (show qe = 4 by rw [HE.out]; unfold fitV; rw [if_pos hbg])
    rw [hbg] at HBIG
    clear hj HE hbg
    go_wp2_with fail
    with_reducible refine (HBIG.out w2 HK2.out).mono ?_
    rintro e w3 ⟨rfl, k3⟩
    have HK3 := Lib.hid (HK2.out.tr k3)
    clear b0 b1 b2 b3 HBIG k3 HK2
    go_wp2_with fail
    exact bodyPost_ret (v := .tuple #[.slice none 0 0, .int .i64 4]) (by simp [results, Try.results12, go_sem]) rfl ⟨by rw [HV.out], HK1.out.tr HK3.out⟩
  · have HV := Lib.hid (show qe = jchk P l 200 by rw [HE.out, if_neg hj])
    generalize jchk P l 200 = jv at *
    have hjn : (jv == 0) = false := by rw [beq_eq_false_iff_ne]; exact hj
    have hjn2 : (jv != 0) = true := bne_iff_ne.2 hj
    go_wp2_with fail
    exact bodyPost_ret (v := .tuple #[.slice none 0 0, .int .i64 jv]) (by simp [results, Try.results12, go_sem]) rfl ⟨by rw [HV.out], HK1.out.tr HK2.out⟩
theorem Quick_all (P : Pt) (A : Option Addr) (n ca : Nat) (l : List Ct) (w : World) (hx : RdC w A n l) (hn : n ≤ 40 ∨ 200 < n ∧ n ≤ 100000) (hA : ∀ b o, A = some ⟨b, o, none⟩ → b < w.heap.size) :
    Calls Try.prog 12 #[P.val, .slice A n ca] w fun e w' => ∃ A' m c', e = .returned (.tuple #[.slice A' m c', .int .i64 (quiE P l)]) ∧ RdS w' A' m (quiL P l) ∧ m ≤ 100000 ∧ m ≤ c' ∧ Kp No w w' := by
  by_cases he : quiE P l = 0
  · have hj : jchk P l 200 = 0 := by
      by_cases h : jchk P l 200 = 0
      · exact h
      · unfold quiE at he
        rw [if_neg h] at he
        exact absurd he h
    have hb : l.any (bigC P) = false := by
      unfold quiE at he
      rw [if_pos hj] at he
      unfold fitV at he
      cases hb : l.any (bigC P) with
      | false => rfl
      | true => rw [hb] at he; simp at he
    have hl := (job_ok hj).len
    have h40 : n ≤ 40 := by
      have := hx.1
      omega
    refine (Quick_any P A n ca l w hx h40 hA hj hb).mono ?_
    rintro e w' ⟨g, rfl, hr, hk⟩
    refine ⟨_, _, _, by rw [he], ?_, by omega, Nat.le_refl _, hk⟩
    unfold quiL
    rw [if_pos he]
    exact hr
  · refine (Quick_err P A n ca l w hx (by omega) he).mono ?_
    rintro e w' ⟨rfl, hk⟩
    refine ⟨none, 0, 0, rfl, ?_, by omega, Nat.le_refl _, hk⟩
    unfold quiL
    rw [if_neg he]
    exact Rd.nil _ _
end Go.Proofs.Ytamjhpdgclbfgaa

namespace Go.Proofs.Ytamjhpdgclbfgaa
open Go.RowKit Go.Kq

theorem slice_block {P : Program} {w : World} {r : Reach} {base : Nat} {t e : TypeId} {a : Addr} {n c : Nat} (ht : P.underlying t = some (.slice e)) (h : Value.okWide P w r base t (.slice (some a) n c)) : a.block < w.heap.size := by
  simp only [Value.okWide, ht, Cell.okWide, Cell.ok, World.has] at h
  obtain ⟨_, _, _, _, row, cells, hs, _⟩ := h
  unfold World.shape? at hs
  cases hh : w.heap[a.block]? with
  | none => rw [hh] at hs; cases hs
  | some o => exact (Array.getElem?_eq_some_iff.1 hh).1
end Go.Proofs.Ytamjhpdgclbfgaa

namespace Go.Proofs.Ytamjhpdgclbfgaa
open Go.RowKit Go.Kq

end Go.Proofs.Ytamjhpdgclbfgaa

namespace Go.Proofs.Ytamjhpdgclbfgaa
open Go.RowKit Go.Kq

set_option maxHeartbeats 8000000 in
set_option maxRecDepth 100000 in
theorem Judge_any (P : Pt) (A B : Option Addr) (n m ca cb : Nat) (l : List Ct) (at_ : List Spo) (w : World) (hx : RdC w A n l) (hy : RdS w B m at_) (hn : n ≤ 100000000) (hm : m ≤ 100000000) (hcb : m ≤ cb) :
    Calls Try.prog 19 #[P.val, .slice A n ca, .slice B m cb] w fun e w' => e = .returned (.int .i64 (judV P l at_)) ∧ Kp No w w' := by
  obtain ⟨w1, hw1⟩ : ∃ w1, w.alloc (.cells #[.int .i64 P.w, .int .i64 P.h, .int .i64 P.k] 23) = w1 := ⟨_, rfl⟩
  obtain ⟨gp, hgp⟩ : ∃ g, w.heap.size = g := ⟨_, rfl⟩
  have k1 : Kp No w w1 := by rw [← hw1]; exact Kp.alloc _ _ _
  have A1 : w1.heap[gp]? = some (.cells #[.int .i64 P.w, .int .i64 P.h, .int .i64 P.k] 23 (0, 0)) := by rw [← hw1, ← hgp]; exact heap_alloc_new _ _
  obtain ⟨w2, hw2⟩ : ∃ w2, w1.alloc (.cells #[.int .i64 P.w, .int .i64 P.h, .int .i64 P.k, .slice A n ca] 56) = w2 := ⟨_, rfl⟩
  obtain ⟨gj, hgj⟩ : ∃ g, w1.heap.size = g := ⟨_, rfl⟩
  have k2 : Kp No w1 w2 := by rw [← hw2]; exact Kp.alloc _ _ _
  have A2 : w2.heap[gj]? = some (.cells #[.int .i64 P.w, .int .i64 P.h, .int .i64 P.k, .slice A n ca] 56 (0, 0)) := by rw [← hw2, ← hgj]; exact heap_alloc_new _ _
  have K2 := Lib.hid (k1.tr k2)
  have HP := Lib.hid (k2.heap A1 id)
  have HC := Lib.hid (jcheck_any P A n ca l 200 _ (hx.no K2.out) hn)
  have p0 : w1.cell? ⟨gp, 0, none⟩ = some (.int .i64 P.w) := by rw [cell_of_row _ _ _ _ _ _ A1]; rfl
  have p1 : w1.cell? ⟨gp, 1, none⟩ = some (.int .i64 P.h) := by rw [cell_of_row _ _ _ _ _ _ A1]; rfl
  have p2 : w1.cell? ⟨gp, 2, none⟩ = some (.int .i64 P.k) := by rw [cell_of_row _ _ _ _ _ _ A1]; rfl
  have j0 : w2.cell? ⟨gj, 0, none⟩ = some (.int .i64 P.w) := by rw [cell_of_row _ _ _ _ _ _ A2]; rfl
  have j1 : w2.cell? ⟨gj, 1, none⟩ = some (.int .i64 P.h) := by rw [cell_of_row _ _ _ _ _ _ A2]; rfl
  have j2 : w2.cell? ⟨gj, 2, none⟩ = some (.int .i64 P.k) := by rw [cell_of_row _ _ _ _ _ _ A2]; rfl
  have j3 : w2.cell? ⟨gj, 3, none⟩ = some (.slice A n ca) := by rw [cell_of_row _ _ _ _ _ _ A2]; rfl
  clear k1 A1 k2 A2
  have HV := Lib.hid (show judV P l at_ = if jchk P l 200 ≠ 0 then jchk P l 200 else if m ≠ n then 2 else if (l.zip at_).any fun q => badS P n q.1 q.2 then 2
    else if (List.range n).any (lapI P.k (l.zip at_)) then 8 else 0 by unfold judV; rw [hx.1, hy.1])
  have HX := Lib.hid hx
  have HY := Lib.hid hy
  have HL := Lib.hid hx.1
  have HM := Lib.hid hy.1
  clear hx hy
  obtain ⟨jv, hjv⟩ : ∃ jv, judV P l at_ = jv := ⟨_, rfl⟩
  rw [hjv] at HV ⊢
  clear hjv
  unfold jobV at HC
  unfold Pt.val
  by_cases hc : jchk P l 200 = 0
  rotate_left
  · have HJ := Lib.hid (show jv = jchk P l 200 by rw [HV.out, if_pos hc])
    clear HV HX HY HL HM HP
    generalize jchk P l 200 = c at *
    have hcn : (c != 0) = true := by rw [bne_iff_ne]; exact hc
    go_enter Try.func19, Try.ntmps19
    go_wp2_with fail
    clear hw1 hw2 hgp hgj
    with_reducible refine HC.out.mono ?_
    rintro e w3 ⟨rfl, k3⟩
    have HK := Lib.hid (K2.out.tr k3)
    clear k3 HC p0 p1 p2 j0 j1 j2 j3 K2
    go_wp2_with fail
    go_ret
    exact ⟨ret_i64 HJ.out.symm, HK.out⟩
  have J := Lib.hid (job_ok hc)
  rw [if_neg (by rw [hc]; decide)] at HV
  rw [hc] at HC
  clear hc
  by_cases hnm : m = n
  rotate_left
  · have HJ := Lib.hid (show jv = 2 by rw [HV.out, if_pos hnm])
    clear HV HX HY HL HM HP J
    go_enter Try.func19, Try.ntmps19
    go_wp2_with fail
    clear hw1 hw2 hgp hgj
    with_reducible refine HC.out.mono ?_
    rintro e w3 ⟨rfl, k3⟩
    have HK := Lib.hid (K2.out.tr k3)
    clear k3 HC p0 p1 p2 j0 j1 j2 j3 K2
    go_wp2_with fail
    go_ret
    exact ⟨ret_i64 HJ.out.symm, HK.out⟩
  subst hnm
  rw [if_neg (by simp)] at HV
  go_enter Try.func19, Try.ntmps19
  go_wp2_with fail
  clear hw1 hw2 hgp hgj
  with_reducible refine HC.out.mono ?_
  rintro e w3 ⟨rfl, k3⟩
  have HK := Lib.hid (K2.out.tr k3)
  have HB := Lib.hid (k3.heap HP.out id)
  clear k3 HC p0 p1 p2 j0 j1 j2 j3 K2 HP
  obtain ⟨bad, hbd⟩ : ∃ f, (fun q : Ct × Spo => badS P m q.1 q.2) = f := ⟨_, rfl⟩
  rw [hbd] at HV
  have HBD := Lib.hid (fun (c : Ct) (s : Spo) => (show bad (c, s) = badS P m c s by rw [← hbd]))
  clear hbd
  go_wp2_with fail
  go_loopw [32] (fun v8 wr => ∃ k : Nat, k ≤ m ∧ v8 = .int .i64 k ∧ ((l.zip at_).take k).any bad = false ∧ Kp No w3 wr) (fun v8 _ => m - (intOf v8).toNat)
  case atStart => exact ⟨0, by omega, rfl, by simp, Kp.refl _ _⟩
  case round =>
    obtain ⟨k, hk, rfl, hno, hkp⟩ := hrel
    by_cases hlt : k < m
    · obtain ⟨c, hc⟩ : ∃ c, l[k]? = some c := ⟨_, List.getElem?_eq_getElem (by rw [HL.out]; exact hlt)⟩
      obtain ⟨s, hs⟩ : ∃ s, at_[k]? = some s := ⟨_, List.getElem?_eq_getElem (by rw [HM.out]; exact hlt)⟩
      obtain ⟨b, o, rfl, _, _⟩ := HX.out.2 k c hc
      obtain ⟨b', o', rfl, _, _⟩ := HY.out.2 k s hs
      obtain ⟨c0, c1⟩ := rdc_here (HX.out.no (HK.out.tr hkp)) hc
      obtain ⟨s0, s1, s2, s3⟩ := rds_here (HY.out.no (HK.out.tr hkp)) hs
      have hb := hkp.heap HB.out id
      have b0 : wr.cell? ⟨gp, 0, none⟩ = some (.int .i64 P.w) := by rw [cell_of_row _ _ _ _ _ _ hb]; rfl
      have b1 : wr.cell? ⟨gp, 1, none⟩ = some (.int .i64 P.h) := by rw [cell_of_row _ _ _ _ _ _ hb]; rfl
      have hz := ju_zip_at hc hs
      have HT := Lib.hid (any_take_succ bad (l.zip at_) k (c, s) hz)
      have HY2 := Lib.hid (fun (h : bad (c, s) = true) => (show jv = 2 by rw [HV.out, if_pos (List.any_eq_true.2 ⟨(c, s), List.mem_of_getElem? hz, h⟩)]))
      have HNO := Lib.hid hno
      have jw := J.out.w
      have jh := J.out.h
      have jc := J.out.cut c (List.mem_of_getElem? hc)
      have hv0 : IntKind.i64.wrap (P.w - c.w) = P.w - c.w := IntWalk.i64_in _ (by omega)
      have hv1 : IntKind.i64.wrap (P.h - c.h) = P.h - c.h := IntWalk.i64_in _ (by omega)
      have HB2 := Lib.hid (HBD.out c s)
      rw [badS] at HB2
      obtain ⟨w4, hw4⟩ : ∃ w4, wr.alloc (.cells #[.int .i64 s.p, .int .i64 s.s, .int .i64 s.x, .int .i64 s.y] 52) = w4 := ⟨_, rfl⟩
      obtain ⟨g4, hg4⟩ : ∃ g, wr.heap.size = g := ⟨_, rfl⟩
      have k4 : Kp No wr w4 := by rw [← hw4]; exact Kp.alloc _ _ _
      have A4 : w4.heap[g4]? = some (.cells #[.int .i64 s.p, .int .i64 s.s, .int .i64 s.x, .int .i64 s.y] 52 (0, 0)) := by rw [← hw4, ← hg4]; exact heap_alloc_new _ _
      have z0 : w4.cell? ⟨g4, 0, none⟩ = some (.int .i64 s.p) := by rw [cell_of_row _ _ _ _ _ _ A4]; rfl
      have z1 : w4.cell? ⟨g4, 1, none⟩ = some (.int .i64 s.s) := by rw [cell_of_row _ _ _ _ _ _ A4]; rfl
      have z2 : w4.cell? ⟨g4, 2, none⟩ = some (.int .i64 s.x) := by rw [cell_of_row _ _ _ _ _ _ A4]; rfl
      have z3 : w4.cell? ⟨g4, 3, none⟩ = some (.int .i64 s.y) := by rw [cell_of_row _ _ _ _ _ _ A4]; rfl
      have d0 := k4.cell c0 id
      have d1 := k4.cell c1 id
      have e0 := k4.cell b0 id
      have e1 := k4.cell b1 id
      have KP := Lib.hid (hkp.tr k4)
      have HO1 := Lib.hid (fun w0 => outside_any s.x 0 (P.w - c.w) w0)
      have HO2 := Lib.hid (fun w0 => outside_any s.y 0 (P.h - c.h) w0)
      generalize outB s.x 0 (P.w - c.w) = x1 at *
      generalize outB s.y 0 (P.h - c.h) = x2 at *
      have KR := Lib.hid (fun k => (HK.out.tr KP.out).tr (Kp.drewN No _ k))
      have KS := Lib.hid (fun k => KP.out.tr (Kp.drewN No _ k))
      clear hc hs hb hz hno hkp k4 A4 jw jh jc c0 c1 b0 b1 HV HBD KP HB
      cases q0 : decide (s.p < 0)
      rotate_left
      · have HY3 := Lib.hid (HY2.out (by rw [HB2.out, q0]; rfl))
        go_wp2_with fail
        clear hw4 hg4
        go_quiet (fail)
        go_wp2_with fail
        go_ret
        exact ⟨ret_i64 HY3.out.symm, KR.out _⟩
      cases q1 : decide ((m : Int) ≤ s.p)
      rotate_left
      · have HY3 := Lib.hid (HY2.out (by rw [HB2.out, q0, q1]; rfl))
        go_wp2_with fail
        clear hw4 hg4
        go_quiet (fail)
        go_wp2_with fail
        go_ret
        exact ⟨ret_i64 HY3.out.symm, KR.out _⟩
      cases q2 : decide (s.s < 0)
      rotate_left
      · have HY3 := Lib.hid (HY2.out (by rw [HB2.out, q0, q1, q2]; rfl))
        go_wp2_with fail
        clear hw4 hg4
        go_quiet (fail)
        go_wp2_with fail
        go_ret
        exact ⟨ret_i64 HY3.out.symm, KR.out _⟩
      cases q3 : decide ((m : Int) ≤ s.s)
      rotate_left
      · have HY3 := Lib.hid (HY2.out (by rw [HB2.out, q0, q1, q2, q3]; rfl))
        go_wp2_with fail
        clear hw4 hg4
        go_quiet (fail)
        go_wp2_with fail
        go_ret
        exact ⟨ret_i64 HY3.out.symm, KR.out _⟩
      cases x1
      rotate_left
      · have HY3 := Lib.hid (HY2.out (by rw [HB2.out, q0, q1, q2, q3]; simp))
        go_wp2_with fail
        clear hw4 hg4
        go_quiet (first | (go_at_call 43; with_reducible exact Calls.quiet_of_same (HO1.out _)) | (go_at_call 43; with_reducible exact Calls.quiet_of_same (HO2.out _)))
        go_wp2_with fail
        go_ret
        exact ⟨ret_i64 HY3.out.symm, KR.out _⟩
      cases x2
      rotate_left
      · have HY3 := Lib.hid (HY2.out (by rw [HB2.out, q0, q1, q2, q3]; simp))
        go_wp2_with fail
        clear hw4 hg4
        go_quiet (first | (go_at_call 43; with_reducible exact Calls.quiet_of_same (HO1.out _)) | (go_at_call 43; with_reducible exact Calls.quiet_of_same (HO2.out _)))
        go_wp2_with fail
        go_ret
        exact ⟨ret_i64 HY3.out.symm, KR.out _⟩
      have HN3 : ((l.zip at_).take (k + 1)).any bad = false := by rw [HT.out, HNO.out, HB2.out, q0, q1, q2, q3]; rfl
      go_wp2_with fail
      clear hw4 hg4
      go_quiet (first | (go_at_call 43; with_reducible exact Calls.quiet_of_same (HO1.out _)) | (go_at_call 43; with_reducible exact Calls.quiet_of_same (HO2.out _)))
      go_wp2_with fail
      go_roundw
      case rel => exact ⟨k + 1, by omega, by go_num, HN3, KS.out _⟩
      case measure => simp [intOf]; omega
    obtain rfl : m = k := by omega
    have HA : (l.zip at_).any bad = false := by rw [List.take_of_length_le (by rw [List.length_zip, HL.out, HM.out]; omega)] at hno; exact hno
    have HV2 := Lib.hid (show jv = if (List.range m).any (lapI P.k (l.zip at_)) then 8 else 0 by rw [HV.out, HA]; rfl)
    have GOOD := Lib.hid (fun (i : Nat) (c : Ct) (s : Spo) (h1 : l[i]? = some c) (h2 : at_[i]? = some s) => badS_no (show badS P m c s = false by
      have := List.any_eq_false.1 HA (c, s) (List.mem_of_getElem? (ju_zip_at h1 h2))
      rw [HBD.out] at this
      simpa using this))
    have KA := Lib.hid (HK.out.tr hkp)
    have HB1 := Lib.hid (hkp.heap HB.out id)
    clear HV HA hno HBD hkp HK HB hlt hk
    go_wp2_with fail
    go_loopw [86] (fun v10 wx => ∃ i : Nat, i ≤ m ∧ v10 = .int .i64 i ∧ (List.range i).any (lapI P.k (l.zip at_)) = false ∧ Kp No wr wx) (fun v10 _ => m - (intOf v10).toNat)
    case atStart => exact ⟨0, by omega, rfl, by simp, Kp.refl _ _⟩
    case round =>
      rename World => wx
      obtain ⟨i, hi, rfl, hno, hkp⟩ := hrel
      by_cases hlt : i < m
      rotate_left
      · obtain rfl : m = i := by omega
        have HJ := Lib.hid (show jv = 0 by rw [HV2.out, hno]; rfl)
        have HK1 := Lib.hid (KA.out.tr hkp)
        clear hno HV2 HX HY HL HM HB1 KA GOOD hkp J
        go_wp2_with fail
        go_ret
        exact ⟨ret_i64 HJ.out.symm, HK1.out⟩
      obtain ⟨c, hc⟩ : ∃ c, l[i]? = some c := ⟨_, List.getElem?_eq_getElem (by rw [HL.out]; exact hlt)⟩
      obtain ⟨s, hs⟩ : ∃ s, at_[i]? = some s := ⟨_, List.getElem?_eq_getElem (by rw [HM.out]; exact hlt)⟩
      obtain ⟨b, o, rfl, _, _⟩ := HX.out.2 i c hc
      obtain ⟨b', o', rfl, _, _⟩ := HY.out.2 i s hs
      obtain ⟨s0, s1, s2, s3⟩ := rds_here (HY.out.no (KA.out.tr hkp)) hs
      obtain ⟨f, hf0⟩ : ∃ f, (fun r : Ct × Spo => lapB P.k c r.1 s r.2) = f := ⟨_, rfl⟩
      have HF := Lib.hid (fun (d : Ct) (t : Spo) => (show f (d, t) = lapB P.k c d s t by rw [← hf0]))
      have HLI := Lib.hid (show lapI P.k (l.zip at_) i = ((l.zip at_).take i).any f by unfold lapI; rw [ju_zip_at hc hs, ← hf0])
      have HRS := Lib.hid (range_any_succ (lapI P.k (l.zip at_)) i)
      have HNO := Lib.hid hno
      have HRA := Lib.hid (fun (h : ((l.zip at_).take i).any f = true) => (show jv = 8 by rw [HV2.out, range_any_at hlt (by rw [HLI.out]; exact h)]; rfl))
      have gs := GOOD.out i c s hc hs
      have jw := J.out.w
      have jh := J.out.h
      have jk := J.out.k
      have jc := J.out.cut c (List.mem_of_getElem? hc)
      have HC := Lib.hid hc
      obtain ⟨w4, hw4⟩ : ∃ w4, wx.alloc (.cells #[.int .i64 s.p, .int .i64 s.s, .int .i64 s.x, .int .i64 s.y] 52) = w4 := ⟨_, rfl⟩
      obtain ⟨g4, hg4⟩ : ∃ g, wx.heap.size = g := ⟨_, rfl⟩
      have k4 : Kp No wx w4 := by rw [← hw4]; exact Kp.alloc _ _ _
      have A4 := Lib.hid (show w4.heap[g4]? = some (.cells #[.int .i64 s.p, .int .i64 s.s, .int .i64 s.x, .int .i64 s.y] 52 (0, 0)) by rw [← hw4, ← hg4]; exact heap_alloc_new _ _)
      have HXK := Lib.hid (HX.out.no ((KA.out.tr hkp).tr k4))
      have HYK := Lib.hid (HY.out.no ((KA.out.tr hkp).tr k4))
      have HKP := Lib.hid (hkp.tr k4)
      have hic : i ≤ cb := by omega
      clear hno hf0 hc hs hkp k4
      go_wp2_with fail
      clear hw4 hg4 s0 s1 s2 s3 HX HY
      go_loopw [95] (fun v11 wy => ∃ k : Nat, k ≤ i ∧ v11 = .int .i64 k ∧ ((l.zip at_).take k).any f = false ∧ Kp No w4 wy) (fun v11 _ => i - (intOf v11).toNat)
      case atStart => exact ⟨0, by omega, rfl, by simp, Kp.refl _ _⟩
      case round =>
        rename World => wy
        obtain ⟨k, hk, rfl, hno, hkp⟩ := hrel
        by_cases hki : k < i
        rotate_left
        · obtain rfl : i = k := by omega
          have HN9 := Lib.hid hno
          have HK9 := Lib.hid (HKP.out.tr hkp)
          clear hno hkp
          go_wp2_with fail
          go_roundw
          case rel => exact ⟨i + 1, by omega, by go_num, by rw [HRS.out, HNO.out, HLI.out, HN9.out]; rfl, HK9.out⟩
          case measure => simp [intOf]; omega
        obtain ⟨d, hd0⟩ : ∃ d, l[k]? = some d := ⟨_, List.getElem?_eq_getElem (by rw [HL.out]; omega)⟩
        obtain ⟨t, ht0⟩ : ∃ t, at_[k]? = some t := ⟨_, List.getElem?_eq_getElem (by rw [HM.out]; omega)⟩
        obtain ⟨u0, u1, u2, u3⟩ := rds_here (HYK.out.no hkp) ht0
        obtain ⟨w5, hw5⟩ : ∃ w5, wy.alloc (.cells #[.int .i64 t.p, .int .i64 t.s, .int .i64 t.x, .int .i64 t.y] 52) = w5 := ⟨_, rfl⟩
        obtain ⟨g5, hg5⟩ : ∃ g, wy.heap.size = g := ⟨_, rfl⟩
        have k5 : Kp No wy w5 := by rw [← hw5]; exact Kp.alloc _ _ _
        have A5 : w5.heap[g5]? = some (.cells #[.int .i64 t.p, .int .i64 t.s, .int .i64 t.x, .int .i64 t.y] 52 (0, 0)) := by rw [← hw5, ← hg5]; exact heap_alloc_new _ _
        have HXY := HXK.out.no (hkp.tr k5)
        obtain ⟨c0, c1⟩ := rdc_here HXY HC.out
        obtain ⟨d0, d1⟩ := rdc_here HXY hd0
        have hs4 := (hkp.tr k5).heap A4.out id
        have s0 : w5.cell? ⟨g4, 0, none⟩ = some (.int .i64 s.p) := by rw [cell_of_row _ _ _ _ _ _ hs4]; rfl
        have s2 : w5.cell? ⟨g4, 2, none⟩ = some (.int .i64 s.x) := by rw [cell_of_row _ _ _ _ _ _ hs4]; rfl
        have s3 : w5.cell? ⟨g4, 3, none⟩ = some (.int .i64 s.y) := by rw [cell_of_row _ _ _ _ _ _ hs4]; rfl
        have t0 : w5.cell? ⟨g5, 0, none⟩ = some (.int .i64 t.p) := by rw [cell_of_row _ _ _ _ _ _ A5]; rfl
        have t2 : w5.cell? ⟨g5, 2, none⟩ = some (.int .i64 t.x) := by rw [cell_of_row _ _ _ _ _ _ A5]; rfl
        have t3 : w5.cell? ⟨g5, 3, none⟩ = some (.int .i64 t.y) := by rw [cell_of_row _ _ _ _ _ _ A5]; rfl
        have hb := (hkp.tr k5).heap (HKP.out.heap HB1.out id) id
        have p2 : w5.cell? ⟨gp, 2, none⟩ = some (.int .i64 P.k) := by rw [cell_of_row _ _ _ _ _ _ hb]; rfl
        have gt := GOOD.out k d t hd0 ht0
        have jd := J.out.cut d (List.mem_of_getElem? hd0)
        have HTK := Lib.hid (any_take_succ f (l.zip at_) k (d, t) (ju_zip_at hd0 ht0))
        have HYE := Lib.hid (fun (h : f (d, t) = true) => HRA.out (List.any_eq_true.2 ⟨(d, t), List.mem_of_getElem? (i := k) (by rw [List.getElem?_take_of_lt hki]; exact ju_zip_at hd0 ht0), h⟩ : ((l.zip at_).take i).any f = true))
        have HNK := Lib.hid hno
        have HK9 := Lib.hid (hkp.tr k5)
        have HR9 := Lib.hid ((KA.out.tr HKP.out).tr (hkp.tr k5))
        have hkm : k < m := by omega
        have hfd := HF.out d t
        have HLN := Lib.hid (fun h => (show f (d, t) = false by rw [hfd]; exact lapB_no h))
        have HLY := Lib.hid (fun h0 h1 h2 h3 h4 => (show f (d, t) = true by rw [hfd]; exact lapB_yes h0 h1 h2 h3 h4))
        have HN3 := Lib.hid (fun (h : f (d, t) = false) => (show ((l.zip at_).take (k + 1)).any f = false by rw [HTK.out, HNK.out, h]; rfl))
        clear hno hkp HXY hd0 ht0 hb hs4 A5 k5 HV2 HLI HRS HRA HF hfd HTK
        have v0 : IntKind.i64.wrap (t.x + d.w) = t.x + d.w := IntWalk.i64_in _ (by omega)
        have v0' : IntKind.i64.wrap (t.x + d.w + P.k) = t.x + d.w + P.k := IntWalk.i64_in _ (by omega)
        have v1 : IntKind.i64.wrap (s.x + c.w) = s.x + c.w := IntWalk.i64_in _ (by omega)
        have v1' : IntKind.i64.wrap (s.x + c.w + P.k) = s.x + c.w + P.k := IntWalk.i64_in _ (by omega)
        have v2 : IntKind.i64.wrap (t.y + d.h) = t.y + d.h := IntWalk.i64_in _ (by omega)
        have v2' : IntKind.i64.wrap (t.y + d.h + P.k) = t.y + d.h + P.k := IntWalk.i64_in _ (by omega)
        have v3 : IntKind.i64.wrap (s.y + c.h) = s.y + c.h := IntWalk.i64_in _ (by omega)
        have v3' : IntKind.i64.wrap (s.y + c.h + P.k) = s.y + c.h + P.k := IntWalk.i64_in _ (by omega)
        clear gs gt jd jc jw jh jk
        go_wp2_with fail
        clear hw5 hg5
        dsimp only [List.append]
        by_cases h0 : s.p = t.p
        rotate_left
        · have HN4 := Lib.hid (HN3.out (HLN.out (.inl h0)))
          clear HYE HLN HLY HN3
          have q0 : decide (s.p = t.p) = false := decide_eq_false h0
          have q0' : (s.p == t.p) = false := beq_eq_false_iff_ne.2 h0
          go_big_quiet (fail)
          go_wp2_with fail
          go_roundw
          case rel => exact ⟨k + 1, by omega, by go_num, HN4.out, HK9.out.tr (Kp.drewN _ _ _)⟩
          case measure => simp [intOf]; omega
        have q0 : decide (s.p = t.p) = true := decide_eq_true h0
        have q0' : (s.p == t.p) = true := beq_iff_eq.2 h0
        by_cases h1 : s.x < t.x + d.w + P.k
        rotate_left
        · have HN4 := Lib.hid (HN3.out (HLN.out (.inr (.inl (by omega)))))
          clear HYE HLN HLY HN3
          have q1 : decide (s.x < t.x + d.w + P.k) = false := decide_eq_false h1
          skip
          go_big_quiet (fail)
          go_wp2_with fail
          go_roundw
          case rel => exact ⟨k + 1, by omega, by go_num, HN4.out, HK9.out.tr (Kp.drewN _ _ _)⟩
          case measure => simp [intOf]; omega
        have q1 : decide (s.x < t.x + d.w + P.k) = true := decide_eq_true h1
        skip
        by_cases h2 : t.x < s.x + c.w + P.k
        rotate_left
        · have HN4 := Lib.hid (HN3.out (HLN.out (.inr (.inr (.inl (by omega))))))
          clear HYE HLN HLY HN3
          have q2 : decide (t.x < s.x + c.w + P.k) = false := decide_eq_false h2
          skip
          go_big_quiet (fail)
          go_wp2_with fail
          go_roundw
          case rel => exact ⟨k + 1, by omega, by go_num, HN4.out, HK9.out.tr (Kp.drewN _ _ _)⟩
          case measure => simp [intOf]; omega
        have q2 : decide (t.x < s.x + c.w + P.k) = true := decide_eq_true h2
        skip
        by_cases h3 : s.y < t.y + d.h + P.k
        rotate_left
        · have HN4 := Lib.hid (HN3.out (HLN.out (.inr (.inr (.inr (.inl (by omega)))))))
          clear HYE HLN HLY HN3
          have q3 : decide (s.y < t.y + d.h + P.k) = false := decide_eq_false h3
          skip
          go_big_quiet (fail)
          go_wp2_with fail
          go_roundw
          case rel => exact ⟨k + 1, by omega, by go_num, HN4.out, HK9.out.tr (Kp.drewN _ _ _)⟩
          case measure => simp [intOf]; omega
        have q3 : decide (s.y < t.y + d.h + P.k) = true := decide_eq_true h3
        skip
        by_cases h4 : t.y < s.y + c.h + P.k
        rotate_left
        · have HN4 := Lib.hid (HN3.out (HLN.out (.inr (.inr (.inr (.inr (by omega)))))))
          clear HYE HLN HLY HN3
          have q4 : decide (t.y < s.y + c.h + P.k) = false := decide_eq_false h4
          skip
          go_big_quiet (fail)
          go_wp2_with fail
          go_roundw
          case rel => exact ⟨k + 1, by omega, by go_num, HN4.out, HK9.out.tr (Kp.drewN _ _ _)⟩
          case measure => simp [intOf]; omega
        have q4 : decide (t.y < s.y + c.h + P.k) = true := decide_eq_true h4
        skip
        have HJ := Lib.hid (HYE.out (HLY.out h0 h1 h2 h3 h4))
        clear HYE HLN HLY HN3
        go_big_quiet (fail)
        go_wp2_with fail
        go_ret
        exact ⟨ret_i64 HJ.out.symm, HR9.out.tr (Kp.drewN _ _ _)⟩
end Go.Proofs.Ytamjhpdgclbfgaa
