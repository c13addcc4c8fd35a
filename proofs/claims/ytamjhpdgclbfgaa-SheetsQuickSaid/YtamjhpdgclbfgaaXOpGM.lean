/- Chapter 09: Quick, its errors too. · Chapter 09: the law of Nest: the walk. · Chapter 09: the law of Quick: the walk. · Chapter 09: how a plate, cuts and spots that came in are read. -/
import Derived.ProofKit
import Derived.OpenShut
import Derived.Deep.Slices
import Derived.Deep.Fields
import Derived.ChangeSame
import Derived.Test.YtamjhpdgclbfgaaXQkX
import Derived.Test.YtamjhpdgclbfgaaXNtCM
import Derived.Test.YtamjhpdgclbfgaaXNtI
import Derived.Test.YtamjhpdgclbfgaaXAwk
import Derived.Test.YtamjhpdgclbfgaaXAwPM
import Derived.Test.YtamjhpdgclbfgaaXQrQ
import Derived.Test.YtamjhpdgclbfgaaXSpaM
namespace Go.Proofs.Ytamjhpdgclbfgaa
open Go.RowKit Go.Kq

set_option maxHeartbeats 8000000 in
set_option maxRecDepth 100000 in
theorem Quick_err (P : Pt) (A : Option Addr) (n ca : Nat) (l : List Ct) (w : World) (hx : RdC w A n l) (hn : n ≤ 100000000) (he : quiE P l ≠ 0) :
    Calls Try.prog 12 #[P.val, .slice A n ca] w fun e w' => e = .returned (.tuple #[.slice none 0 0, .int .i64 (quiE P l)]) ∧ Kp No w w' := by
  obtain ⟨w1, hw1⟩ : ∃ w1, w1 = (w.alloc (.cells #[.int .i64 P.w, .int .i64 P.h, .int .i64 P.k] 23)).alloc (.cells #[.int .i64 P.w, .int .i64 P.h, .int .i64 P.k, .slice A n ca] 56) := ⟨_, rfl⟩
  obtain ⟨gp, hgp⟩ : ∃ gp, gp = w.heap.size := ⟨_, rfl⟩
  obtain ⟨gj, hgj⟩ : ∃ gj, gj = w.heap.size + 1 := ⟨_, rfl⟩
  have hk1 : Kp No w w1 := by rw [hw1]; exact (Kp.alloc _ _ _).tr (Kp.alloc _ _ _)
  have hjb : w1.heap[gj]? = some (.cells #[.int .i64 P.w, .int .i64 P.h, .int .i64 P.k, .slice A n ca] 56 (0, 0)) := by
    have := heap_alloc_new (w.alloc (.cells #[.int .i64 P.w, .int .i64 P.h, .int .i64 P.k] 23)) (.cells #[.int .i64 P.w, .int .i64 P.h, .int .i64 P.k, .slice A n ca] 56)
    rw [hw1, hgj]
    simpa using this
  have HJB := Lib.hid hjb
  have HW1 := Lib.hid hw1
  have HK1 := Lib.hid hk1
  have HC := Lib.hid (jcheck_any P A n ca l 200 w1 (hx.no hk1) (by omega))
  have HBIG := Lib.hid (fun w2 (k : Kp No w1 w2) => large_any P A n ca l w2 ((hx.no hk1).no k) (by omega))
  have HGP := Lib.hid (show gp = w.heap.size ∧ gj = gp + 1 from ⟨hgp, by rw [hgp, hgj]⟩)
  have HE := Lib.hid (show quiE P l = if jchk P l 200 = 0 then fitV P l else jchk P l 200 from rfl)
  obtain ⟨qe, hqe⟩ : ∃ q, quiE P l = q := ⟨_, rfl⟩
  rw [hqe] at HE he ⊢
  have HNE := Lib.hid he
  simp only [jobV] at HC HBIG
  unfold Pt.val
  clear hx hw1 hgp hgj hk1 hjb hqe he
  go_enter Try.func12, Try.ntmps12
  go_wp2_with fail
  rw [← HW1.out, ← HGP.out.1, ← HGP.out.2]
  with_reducible refine HC.out.mono ?_
  rintro e w2 ⟨rfl, k2⟩
  have hj2 := k2.heap HJB.out id
  have b0 : w2.cell? ⟨gj, 0, none⟩ = some (.int .i64 P.w) := by rw [cell_of_row _ _ _ _ _ _ hj2]; rfl
  have b1 : w2.cell? ⟨gj, 1, none⟩ = some (.int .i64 P.h) := by rw [cell_of_row _ _ _ _ _ _ hj2]; rfl
  have b2 : w2.cell? ⟨gj, 2, none⟩ = some (.int .i64 P.k) := by rw [cell_of_row _ _ _ _ _ _ hj2]; rfl
  have b3 : w2.cell? ⟨gj, 3, none⟩ = some (.slice A n ca) := by rw [cell_of_row _ _ _ _ _ _ hj2]; rfl
  have HK2 := Lib.hid k2
  clear k2 hj2 HC HW1
  by_cases hj : jchk P l 200 = 0
  · rw [hj] at HE ⊢
    rw [if_pos rfl] at HE
    have hbg : l.any (bigC P) = true := by
      cases hb : l.any (bigC P) with
      | true => rfl
      | false =>
        have h := HE.out
        unfold fitV at h
        rw [hb] at h
        exact absurd h HNE.out
    have HV := Lib.hid (show qe = 4 by rw [HE.out]; unfold fitV; rw [if_pos hbg])
    rw [hbg] at HBIG
    clear hj HE hbg
    go_wp2_with fail
    with_reducible refine (HBIG.out w2 HK2.out).mono ?_
    rintro e w3 ⟨rfl, k3⟩
    have HK3 := Lib.hid (HK2.out.tr k3)
    clear b0 b1 b2 b3 HBIG k3 HK2
    go_wp2_with fail
    exact bodyPost_ret (v := .tuple #[.slice none 0 0, .int .i64 4]) (by simp [results, Try.results12, go_sem]) rfl ⟨by rw [HV.out], HK1.out.tr HK3.out⟩
  · have HV := Lib.hid (show qe = jchk P l 200 by rw [HE.out, if_neg hj])
    generalize jchk P l 200 = jv at *
    have hjn : (jv == 0) = false := by rw [beq_eq_false_iff_ne]; exact hj
    have hjn2 : (jv != 0) = true := bne_iff_ne.2 hj
    go_wp2_with fail
    exact bodyPost_ret (v := .tuple #[.slice none 0 0, .int .i64 jv]) (by simp [results, Try.results12, go_sem]) rfl ⟨by rw [HV.out], HK1.out.tr HK2.out⟩
theorem Quick_all (P : Pt) (A : Option Addr) (n ca : Nat) (l : List Ct) (w : World) (hx : RdC w A n l) (hn : n ≤ 40 ∨ 200 < n ∧ n ≤ 100000) (hA : ∀ b o, A = some ⟨b, o, none⟩ → b < w.heap.size) :
    Calls Try.prog 12 #[P.val, .slice A n ca] w fun e w' => ∃ A' m c', e = .returned (.tuple #[.slice A' m c', .int .i64 (quiE P l)]) ∧ RdS w' A' m (quiL P l) ∧ m ≤ 100000 ∧ m ≤ c' ∧ Kp No w w' := by
  by_cases he : quiE P l = 0
  · have hj : jchk P l 200 = 0 := by
      by_cases h : jchk P l 200 = 0
      · exact h
      · unfold quiE at he
        rw [if_neg h] at he
        exact absurd he h
    have hb : l.any (bigC P) = false := by
      unfold quiE at he
      rw [if_pos hj] at he
      unfold fitV at he
      cases hb : l.any (bigC P) with
      | false => rfl
      | true => rw [hb] at he; simp at he
    have hl := (job_ok hj).len
    have h40 : n ≤ 40 := by
      have := hx.1
      omega
    refine (Quick_any P A n ca l w hx h40 hA hj hb).mono ?_
    rintro e w' ⟨g, rfl, hr, hk⟩
    refine ⟨_, _, _, by rw [he], ?_, by omega, Nat.le_refl _, hk⟩
    unfold quiL
    rw [if_pos he]
    exact hr
  · refine (Quick_err P A n ca l w hx (by omega) he).mono ?_
    rintro e w' ⟨rfl, hk⟩
    refine ⟨none, 0, 0, rfl, ?_, by omega, Nat.le_refl _, hk⟩
    unfold quiL
    rw [if_neg he]
    exact Rd.nil _ _
end Go.Proofs.Ytamjhpdgclbfgaa

namespace Go.Proofs.Ytamjhpdgclbfgaa
open Go.RowKit Go.Kq

theorem slice_block {P : Program} {w : World} {r : Reach} {base : Nat} {t e : TypeId} {a : Addr} {n c : Nat} (ht : P.underlying t = some (.slice e)) (h : Value.okWide P w r base t (.slice (some a) n c)) : a.block < w.heap.size := by
  simp only [Value.okWide, ht, Cell.okWide, Cell.ok, World.has] at h
  obtain ⟨_, _, _, _, row, cells, hs, _⟩ := h
  unfold World.shape? at hs
  cases hh : w.heap[a.block]? with
  | none => rw [hh] at hs; cases hs
  | some o => exact (Array.getElem?_eq_some_iff.1 hh).1
set_option maxHeartbeats 8000000 in
set_option maxRecDepth 100000 in
theorem tnests_any (P : Pt) (A : Option Addr) (n ca : Nat) (l : List Ct) (w : World) (hx : RdC w A n l) (hA : ∀ a, A = some a → a.block < w.heap.size) :
    Calls Try.prog 3 #[P.val, .slice A n ca] w fun e w' => e = .returned (.bool true) ∧ Kp No w w' := by
  have hk0 : Kp No w (w.alloc (.cells #[.int .i64 P.w, .int .i64 P.h, .int .i64 P.k] 23)) := Kp.alloc _ _ _
  have hbx : (w.alloc (.cells #[.int .i64 P.w, .int .i64 P.h, .int .i64 P.k] 23)).heap[w.heap.size]? = some (.cells #[.int .i64 P.w, .int .i64 P.h, .int .i64 P.k] 23 (0, 0)) := heap_alloc_new _ _
  obtain ⟨gP, hgP⟩ : ∃ g, w.heap.size = g := ⟨_, rfl⟩
  rw [hgP] at hbx
  obtain ⟨p0, p1, p2⟩ := three_cellsP hbx
  obtain ⟨w0, hw0⟩ : ∃ w0, (w.alloc (.cells #[.int .i64 P.w, .int .i64 P.h, .int .i64 P.k] 23)) = w0 := ⟨_, rfl⟩
  rw [hw0] at hk0 p0 p1 p2
  have HK0 := Lib.hid hk0
  by_cases hbigl : 5 < n ∧ n ≤ 8 ∨ 20 < n
  · clear hx hA hbx
    have h5 : (5 : Int) < n := by omega
    by_cases h8 : n ≤ 8
    · have h8' : (n : Int) ≤ 8 := by omega
      unfold Pt.val
      go_enter Try.func3, Try.ntmps3
      go_wp2_with fail
      with_reducible refine (awake_any _).mono ?_
      rintro e w1 ⟨rfl, k1⟩
      have K1 := Lib.hid (HK0.out.tr k1)
      clear k1
      go_wp2_with fail
      go_ret
      exact ⟨rfl, K1.out⟩
    · have h8' : (8 : Int) < n := by omega
      have h20 : (20 : Int) < n := by omega
      unfold Pt.val
      go_enter Try.func3, Try.ntmps3
      go_wp2_with fail
      with_reducible refine (awake_any _).mono ?_
      rintro e w1 ⟨rfl, k1⟩
      have K1 := Lib.hid (HK0.out.tr k1)
      clear k1
      go_wp2_with fail
      go_ret
      exact ⟨rfl, K1.out⟩
  have HN := Lib.hid (Nest_any P A n ca l w0 (hx.no hk0) (by omega) (fun b o e => Nat.lt_of_lt_of_le (hA _ e) hk0.size))
  have HR := Lib.hid (fun w1 (k : Kp No w0 w1) => rnest_any P A n ca l w1 ((hx.no hk0).no k) (by omega) (by omega))
  have h20 : (n : Int) ≤ 20 := by omega
  generalize nesL P l = nl at *
  generalize nesE P l = ne at *
  unfold Pt.val at *
  clear hx hA hbx hk0
  have hcond : (n : Int) ≤ 5 ∨ (8 : Int) < n := by omega
  rcases hcond with h5 | h8
  all_goals
    go_enter Try.func3, Try.ntmps3
    go_wp2_with fail
    clear hw0 hgP
    with_reducible refine HN.out.mono ?_
    rintro e w1 ⟨A1, m1, c1, rfl, hs1, hm1, k1⟩
    have HRC := Lib.hid (HR.out w1 k1)
    have HS1 := Lib.hid hs1
    have K1 := Lib.hid (HK0.out.tr k1)
    replace p0 := k1.cell p0 id
    replace p1 := k1.cell p1 id
    replace p2 := k1.cell p2 id
    clear hs1 k1 HN HR HK0
    go_wp2_with fail
    with_reducible refine HRC.out.mono ?_
    rintro e w2 ⟨A2, m2, c2, rfl, hs2, k2⟩
    have HSM := Lib.hid (same_any A1 m1 c1 nl A2 m2 c2 nl w2 (HS1.out.no k2) hs2 (by omega))
    simp only [decide_true] at HSM
    have K2 := Lib.hid (K1.out.tr k2)
    clear hs2 k2 HS1 HRC K1 p0 p1 p2
    go_wp2_with fail
    with_reducible refine HSM.out.mono ?_
    rintro e w3 ⟨rfl, k3⟩
    have K3 := Lib.hid (K2.out.tr k3)
    clear k3 HSM K2
    go_wp2_with fail
    with_reducible refine (awake_any w3).mono ?_
    rintro e w4 ⟨rfl, k4⟩
    have K4 := Lib.hid (K3.out.tr k4)
    clear k4
    go_wp2_with fail
    go_ret
    exact ⟨rfl, K4.out⟩
end Go.Proofs.Ytamjhpdgclbfgaa

namespace Go.Proofs.Ytamjhpdgclbfgaa
open Go.RowKit Go.Kq

set_option maxHeartbeats 8000000 in
set_option maxRecDepth 100000 in
theorem tquick_any (P : Pt) (A : Option Addr) (n ca : Nat) (l : List Ct) (w : World) (hx : RdC w A n l) (hA : ∀ a, A = some a → a.block < w.heap.size) :
    Calls Try.prog 4 #[P.val, .slice A n ca] w fun e w' => e = .returned (.bool true) ∧ Kp No w w' := by
  have hk0 : Kp No w (w.alloc (.cells #[.int .i64 P.w, .int .i64 P.h, .int .i64 P.k] 23)) := Kp.alloc _ _ _
  have hbx : (w.alloc (.cells #[.int .i64 P.w, .int .i64 P.h, .int .i64 P.k] 23)).heap[w.heap.size]? = some (.cells #[.int .i64 P.w, .int .i64 P.h, .int .i64 P.k] 23 (0, 0)) := heap_alloc_new _ _
  obtain ⟨gP, hgP⟩ : ∃ g, w.heap.size = g := ⟨_, rfl⟩
  rw [hgP] at hbx
  obtain ⟨p0, p1, p2⟩ := three_cellsP hbx
  obtain ⟨w0, hw0⟩ : ∃ w0, (w.alloc (.cells #[.int .i64 P.w, .int .i64 P.h, .int .i64 P.k] 23)) = w0 := ⟨_, rfl⟩
  rw [hw0] at hk0 p0 p1 p2
  have HK0 := Lib.hid hk0
  by_cases hbigl : 40 < n ∧ n ≤ 200 ∨ 210 < n
  · clear hx hA hbx
    have h5 : (40 : Int) < n := by omega
    by_cases h8 : n ≤ 200
    · have h8' : (n : Int) ≤ 200 := by omega
      unfold Pt.val
      go_enter Try.func4, Try.ntmps4
      go_wp2_with fail
      with_reducible refine (awake_any _).mono ?_
      rintro e w1 ⟨rfl, k1⟩
      have K1 := Lib.hid (HK0.out.tr k1)
      clear k1
      go_wp2_with fail
      go_ret
      exact ⟨rfl, K1.out⟩
    · have h8' : (200 : Int) < n := by omega
      have h20 : (210 : Int) < n := by omega
      unfold Pt.val
      go_enter Try.func4, Try.ntmps4
      go_wp2_with fail
      with_reducible refine (awake_any _).mono ?_
      rintro e w1 ⟨rfl, k1⟩
      have K1 := Lib.hid (HK0.out.tr k1)
      clear k1
      go_wp2_with fail
      go_ret
      exact ⟨rfl, K1.out⟩
  have HN := Lib.hid (Quick_all P A n ca l w0 (hx.no hk0) (by omega) (fun b o e => Nat.lt_of_lt_of_le (hA _ e) hk0.size))
  have HR := Lib.hid (fun w1 (k : Kp No w0 w1) => rquick_any P A n ca l w1 ((hx.no hk0).no k) (by omega))
  have h20 : (n : Int) ≤ 210 := by omega
  generalize quiL P l = nl at *
  generalize quiE P l = ne at *
  unfold Pt.val at *
  clear hx hA hbx hk0
  have hcond : (n : Int) ≤ 40 ∨ (200 : Int) < n := by omega
  rcases hcond with h5 | h8
  all_goals
    go_enter Try.func4, Try.ntmps4
    go_wp2_with fail
    clear hw0 hgP
    with_reducible refine HN.out.mono ?_
    rintro e w1 ⟨A1, m1, c1, rfl, hs1, hm1, _, k1⟩
    have HRC := Lib.hid (HR.out w1 k1)
    have HS1 := Lib.hid hs1
    have K1 := Lib.hid (HK0.out.tr k1)
    replace p0 := k1.cell p0 id
    replace p1 := k1.cell p1 id
    replace p2 := k1.cell p2 id
    clear hs1 k1 HN HR HK0
    go_wp2_with fail
    with_reducible refine HRC.out.mono ?_
    rintro e w2 ⟨A2, m2, c2, rfl, hs2, k2⟩
    have HSM := Lib.hid (same_any A1 m1 c1 nl A2 m2 c2 nl w2 (HS1.out.no k2) hs2 (by omega))
    simp only [decide_true] at HSM
    have K2 := Lib.hid (K1.out.tr k2)
    clear hs2 k2 HS1 HRC K1 p0 p1 p2
    go_wp2_with fail
    with_reducible refine HSM.out.mono ?_
    rintro e w3 ⟨rfl, k3⟩
    have K3 := Lib.hid (K2.out.tr k3)
    clear k3 HSM K2
    go_wp2_with fail
    with_reducible refine (awake_any w3).mono ?_
    rintro e w4 ⟨rfl, k4⟩
    have K4 := Lib.hid (K3.out.tr k4)
    clear k4
    go_wp2_with fail
    go_ret
    exact ⟨rfl, K4.out⟩
end Go.Proofs.Ytamjhpdgclbfgaa

namespace Go.Proofs.Ytamjhpdgclbfgaa
open Go.ChangeShapes Go.WideShapes Go.RowKit Go.Deep Go.Kq

theorem choose_list {α : Type} {P : Nat → α → Prop} : ∀ n : Nat, (∀ i, i < n → ∃ a, P i a) → ∃ l : List α, l.length = n ∧ ∀ i a, l[i]? = some a → P i a
  | 0, _ => ⟨[], rfl, fun i a h => by simp at h⟩
  | n + 1, h => by
    obtain ⟨l, hl, hp⟩ := choose_list n fun i hi => h i (by omega)
    obtain ⟨a, ha⟩ := h n (by omega)
    refine ⟨l ++ [a], by simp [hl], fun i b hb => ?_⟩
    rcases Nat.lt_trichotomy i n with h1 | h1 | h1
    · rw [List.getElem?_append_left (by omega)] at hb
      exact hp i b hb
    · subst h1
      rw [List.getElem?_append_right (by omega), hl] at hb
      simp at hb
      exact hb ▸ ha
    · rw [List.getElem?_eq_none (by simp; omega)] at hb
      cases hb
section
variable {H : Type} {enc : TypeId × Value → H} {W : World} {base : Nat} {spare : Nat → Bool} {held : Bool}
theorem one_long {fuel : Nat} {v : Value} {y : DataW H × List MemPlace} (h : DataW.trod enc Try.prog W base spare held fuel 2 [v] = some y) : ∃ x : Int, v = .int .i64 x := by
  obtain ⟨x, h1, _⟩ := DataW.trod_int Try.underlying2 h
  simp at h1
  exact ⟨x, h1⟩
theorem one_num {fuel : Nat} {v : Value} {y : DataW H × List MemPlace} (h : DataW.trod enc Try.prog W base spare held fuel 3 [v] = some y) : ∃ x : Int, v = .int .i64 x := by
  obtain ⟨x, h1, _⟩ := DataW.trod_int Try.underlying3 h
  simp at h1
  exact ⟨x, h1⟩
theorem cLong : Try.prog.cellsOf 2 = 1 := by kernel_rfl
theorem cCut : Try.prog.cellsOf 35 = 2 := by kernel_rfl
theorem cSpot : Try.prog.cellsOf 52 = 4 := by kernel_rfl
theorem cPlate : Try.prog.cellsOf 23 = 3 := by kernel_rfl
theorem cInt : Try.prog.cellsOf 3 = 1 := by kernel_rfl
theorem fld {t : TypeId} {fs : Array Field} {fuel : Nat} {cs : List Value} {y : DataW H × List MemPlace} (ht : Try.prog.underlying t = some (.struct fs)) (h : DataW.trod enc Try.prog W base spare held fuel t cs = some y) (i : Nat) (f : Field) (o k : Nat) (e : TypeId) (hf : fs[i]? = some f) (ho : f.offset = o) (he : f.type = e) (hk : Try.prog.cellsOf e = k) :
    ∃ n y, DataW.trod enc Try.prog W base spare held n e ((cs.drop o).take k) = some y := by
  obtain ⟨xs, n, _, _, _, hl, hx⟩ := DataW.trod_struct ht h
  have g := hx i f hf
  have hi := (Array.getElem?_eq_some_iff.1 hf).1
  rw [ho, he, hk, List.getElem?_eq_getElem (by omega)] at g
  exact ⟨n, _, g⟩
set_option maxRecDepth 100000 in
theorem cut_cells {cs : List Value} {n : Nat} {y : DataW H × List MemPlace} (h : DataW.trod enc Try.prog W base spare held n 35 cs = some y) : ∃ t : Ct, cs = t.cells := by
  obtain ⟨_, _, _, _, hlen, _, _⟩ := DataW.trod_struct Try.underlying35 h
  rw [cCut] at hlen
  match cs, hlen with
  | [a0, a1], _ =>
    obtain ⟨n0, y0, h0⟩ := fld Try.underlying35 h 0 _ 0 1 2 rfl rfl rfl cLong
    obtain ⟨n1, y1, h1⟩ := fld Try.underlying35 h 1 _ 1 1 2 rfl rfl rfl cLong
    obtain ⟨a, rfl⟩ := one_long (by simpa using h0)
    obtain ⟨b, rfl⟩ := one_long (by simpa using h1)
    exact ⟨⟨a, b⟩, rfl⟩
theorem open_rd {α : Type} (f : α → List Value) (s : Nat) (hs : 0 < s) (_hfl : ∀ x, (f x).length = s) {t e : TypeId} (ht : Try.prog.underlying t = some (.slice e)) (ce : Try.prog.cellsOf e = s)
    (he : ∀ (fuel : Nat) (cs : List Value) (y : DataW H × List MemPlace), DataW.trod enc Try.prog W base (fun _ => true) held fuel e cs = some y → ∃ x, cs = f x)
    {fuel : Nat} {a : Option Addr} {len cap : Nat} {y : DataW H × List MemPlace} (h : DataW.trod enc Try.prog W base (fun _ => true) held fuel t [.slice a len cap] = some y) : (∃ xs, Rd f s W a len xs) ∧ len ≤ cap := by
  rcases open_slice ht h with ⟨hcs, _⟩ | ⟨x, l, c, m, n, D, Pl, hcs, hb, hl, hm, hmm, _, hi⟩
  · simp at hcs
    obtain ⟨rfl, rfl, rfl⟩ := hcs
    exact ⟨⟨[], rfl, fun i v h => by simp at h⟩, Nat.le_refl _⟩
  · simp at hcs
    obtain ⟨rfl, rfl, rfl⟩ := hcs
    refine ⟨?_, hl⟩
    simp at hmm
    subst hmm
    rw [ce] at hi
    by_cases hz : len = 0
    · subst hz
      exact ⟨[], rfl, fun i v h => by simp at h⟩
    obtain ⟨b0, o0, sp⟩ := x
    have hsp : sp = none := by
      obtain ⟨cs', hc, ht⟩ := hi 0 (by omega)
      obtain ⟨_, hln, hat⟩ := World.cells?_some hc
      have e0 := hat 0 (by omega)
      rw [List.getElem?_eq_getElem (by omega)] at e0
      simpa [Addr.add] using World.cell?_spot e0
    subst hsp
    obtain ⟨vs, hvl, hvs⟩ := choose_list (P := fun i (v : α) => b0 < W.heap.size ∧ ∀ j u, (f v)[j]? = some u → W.cell? ⟨b0, o0 + i * s + j, none⟩ = some u) len (fun i hil => by
      obtain ⟨cs', hc, ht⟩ := hi i (by omega)
      obtain ⟨v, rfl⟩ := he _ _ _ ht
      obtain ⟨_, hln, hat⟩ := World.cells?_some hc
      refine ⟨v, ?_, fun j u hj => ?_⟩
      · have e0 := hat 0 (by omega)
        rw [List.getElem?_eq_getElem (by omega)] at e0
        simp only [Addr.add_lit, Nat.add_zero] at e0
        exact World.block_lt_of_cell? W _ e0
      · have hjl := (List.getElem?_eq_some_iff.1 hj).1
        have e0 := hat j (by omega)
        simp only [Addr.add_lit] at e0
        rw [e0, hj])
    exact ⟨vs, hvl, fun i v hv => ⟨b0, o0, rfl, (hvs i v hv).1, (hvs i v hv).2⟩⟩
set_option maxRecDepth 100000 in
theorem spot_cells {cs : List Value} {n : Nat} {y : DataW H × List MemPlace} (h : DataW.trod enc Try.prog W base spare held n 52 cs = some y) : ∃ t : Spo, cs = t.cells := by
  obtain ⟨_, _, _, _, hlen, _, _⟩ := DataW.trod_struct Try.underlying52 h
  rw [cSpot] at hlen
  match cs, hlen with
  | [a0, a1, a2, a3], _ =>
    obtain ⟨n0, y0, h0⟩ := fld Try.underlying52 h 0 _ 0 1 3 rfl rfl rfl cInt
    obtain ⟨n1, y1, h1⟩ := fld Try.underlying52 h 1 _ 1 1 3 rfl rfl rfl cInt
    obtain ⟨n2, y2, h2⟩ := fld Try.underlying52 h 2 _ 2 1 2 rfl rfl rfl cLong
    obtain ⟨n3, y3, h3⟩ := fld Try.underlying52 h 3 _ 3 1 2 rfl rfl rfl cLong
    obtain ⟨a, rfl⟩ := one_num (by simpa using h0)
    obtain ⟨b, rfl⟩ := one_num (by simpa using h1)
    obtain ⟨c, rfl⟩ := one_long (by simpa using h2)
    obtain ⟨d, rfl⟩ := one_long (by simpa using h3)
    exact ⟨⟨a, b, c, d⟩, rfl⟩
/-- Cuts that came in. -/
theorem open_cuts {a : Option Addr} {len cap : Nat} {d : DataW H} {p : List MemPlace} (h : DataW.Trod enc Try.prog W base (fun _ => true) held 24 (.slice a len cap) d p) : ∃ l : List Ct, RdC W a len l ∧ len ≤ cap := by
  obtain ⟨fuel, hf⟩ := h
  obtain ⟨⟨ts, hts⟩, hc⟩ := open_rd Ct.cells 2 (by omega) (fun _ => rfl) Try.underlying24 cCut (fun fuel cs y h => cut_cells h) (by simpa [Value.cells] using hf)
  exact ⟨ts, hts, hc⟩
/-- Spots that came in. -/
theorem open_spots {a : Option Addr} {len cap : Nat} {d : DataW H} {p : List MemPlace} (h : DataW.Trod enc Try.prog W base (fun _ => true) held 26 (.slice a len cap) d p) : ∃ l : List Spo, RdS W a len l ∧ len ≤ cap := by
  obtain ⟨fuel, hf⟩ := h
  obtain ⟨⟨ts, hts⟩, hc⟩ := open_rd Spo.cells 4 (by omega) (fun _ => rfl) Try.underlying26 cSpot (fun fuel cs y h => spot_cells h) (by simpa [Value.cells] using hf)
  exact ⟨ts, hts, hc⟩
set_option maxRecDepth 100000 in
/-- A plate that came in. -/
theorem open_plate {v : Value} {d : DataW H} {p : List MemPlace} {r : Reach} {b0 : Nat} (hv : Value.okWide Try.prog W r b0 23 v) (h : DataW.Trod enc Try.prog W base (fun _ => true) held 23 v d p) : ∃ x : Pt, v = x.val := by
  obtain ⟨cs, rfl, hsz⟩ := okWide_struct Try.underlying23 hv
  rw [cPlate] at hsz
  obtain ⟨fuel, hf⟩ := h
  obtain ⟨l⟩ := cs
  match l, hsz with
  | [a0, a1, a2], _ =>
    obtain ⟨n0, y0, h0⟩ := fld Try.underlying23 hf 0 _ 0 1 2 rfl rfl rfl cLong
    obtain ⟨n1, y1, h1⟩ := fld Try.underlying23 hf 1 _ 1 1 2 rfl rfl rfl cLong
    obtain ⟨n2, y2, h2⟩ := fld Try.underlying23 hf 2 _ 2 1 2 rfl rfl rfl cLong
    simp [Value.cells] at h0 h1 h2
    obtain ⟨x, rfl⟩ := one_long h0
    obtain ⟨y, rfl⟩ := one_long h1
    obtain ⟨z, rfl⟩ := one_long h2
    exact ⟨⟨x, y, z⟩, rfl⟩
end
end Go.Proofs.Ytamjhpdgclbfgaa
