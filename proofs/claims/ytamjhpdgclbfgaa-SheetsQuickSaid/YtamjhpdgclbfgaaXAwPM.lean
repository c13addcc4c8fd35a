/- Chapter 09: Weight, Least. · Chapter 09: same: two lists of spots. · Chapter 09: the example of awake: what the functions give there. -/
import Derived.BigQuiet
import Derived.Test.YtamjhpdgclbfgaaXBodM
import Derived.Test.YtamjhpdgclbfgaaXSpaM
import Derived.Test.YtamjhpdgclbfgaaXQkW
import Derived.Test.YtamjhpdgclbfgaaXSptM
import Derived.Test.YtamjhpdgclbfgaaXFt
namespace Go.Proofs.Ytamjhpdgclbfgaa
open Go.RowKit Go.Kq

def wgtE (a t d : Int) : Bool := outB a 0 100000000000000000 || outB t 1 10000 || outB d 1 30000
def wgtV (a t d : Int) : Int × Int × Int := if wgtE a t d then (0, 0, 2) else spanV 1000000000000 (a * (t * d)) [a * (t * d)]
set_option maxHeartbeats 4000000 in
theorem Weight_any (a t d : Int) (w : World) : Calls Try.prog 23 #[.int .i64 a, .int .i64 t, .int .i64 d] w fun e w' => e = .returned (ieV (wgtV a t d)) ∧ Kp No w w' := by
  have O1 := Lib.hid (fun w0 => outside_any a 0 100000000000000000 w0)
  have O2 := Lib.hid (fun w0 => outside_any t 1 10000 w0)
  have O3 := Lib.hid (fun w0 => outside_any d 1 30000 w0)
  have HV := Lib.hid (show wgtV a t d = if wgtE a t d then (0, 0, 2) else spanV 1000000000000 (a * (t * d)) [a * (t * d)] from rfl)
  have HB : wgtE a t d = (outB a 0 100000000000000000 || outB t 1 10000 || outB d 1 30000) := rfl
  have hq1 : outB a 0 100000000000000000 = false → 0 ≤ a ∧ a ≤ 100000000000000000 := outB_no
  have hq2 : outB t 1 10000 = false → 1 ≤ t ∧ t ≤ 10000 := outB_no
  have hq3 : outB d 1 30000 = false → 1 ≤ d ∧ d ≤ 30000 := outB_no
  generalize wgtE a t d = be at *
  generalize outB a 0 100000000000000000 = q1 at *
  generalize outB t 1 10000 = q2 at *
  generalize outB d 1 30000 = q3 at *
  have HK0 := Lib.hid (show Kp No w (w.alloc (.cells #[.int .i64 0, .int .i64 0] 40)) from Kp.alloc _ _ _)
  have p0 : (w.alloc (.cells #[.int .i64 0, .int .i64 0] 40)).cell? ⟨w.heap.size, 0, none⟩ = some (.int .i64 0) := by go_simp
  have p1 : (w.alloc (.cells #[.int .i64 0, .int .i64 0] 40)).cell? ⟨w.heap.size, 1, none⟩ = some (.int .i64 0) := by go_simp
  simp only [HV.out, ieV, ivV]
  clear HV
  cases q1
  rotate_left
  · obtain rfl : be = true := by rw [HB]; rfl
    rw [if_pos rfl]
    clear HB hq1 hq2 hq3
    go_enter Try.func23, Try.ntmps23
    go_wp2_with fail
    with_reducible refine (O1.out _).mono ?_
    rintro e w1 ⟨rfl, hw⟩
    subst hw
    go_wp2_with fail
    exact bodyPost_ret (v := .tuple #[.agg #[.int .i64 0, .int .i64 0], .int .i64 2]) (by simp [results, Try.results23, go_sem, p0, p1]) rfl ⟨rfl, HK0.out⟩
  cases q2
  rotate_left
  · obtain rfl : be = true := by rw [HB]; rfl
    rw [if_pos rfl]
    clear HB hq1 hq2 hq3
    go_enter Try.func23, Try.ntmps23
    go_wp2_with fail
    with_reducible refine (O1.out _).mono ?_
    rintro e w1 ⟨rfl, hw⟩
    subst hw
    go_wp2_with fail
    with_reducible refine (O2.out _).mono ?_
    rintro e w1 ⟨rfl, hw⟩
    subst hw
    go_wp2_with fail
    exact bodyPost_ret (v := .tuple #[.agg #[.int .i64 0, .int .i64 0], .int .i64 2]) (by simp [results, Try.results23, go_sem, p0, p1]) rfl ⟨rfl, HK0.out⟩
  cases q3
  rotate_left
  · obtain rfl : be = true := by rw [HB]; rfl
    rw [if_pos rfl]
    clear HB hq1 hq2 hq3
    go_enter Try.func23, Try.ntmps23
    go_wp2_with fail
    with_reducible refine (O1.out _).mono ?_
    rintro e w1 ⟨rfl, hw⟩
    subst hw
    go_wp2_with fail
    with_reducible refine (O2.out _).mono ?_
    rintro e w1 ⟨rfl, hw⟩
    subst hw
    go_wp2_with fail
    with_reducible refine (O3.out _).mono ?_
    rintro e w1 ⟨rfl, hw⟩
    subst hw
    go_wp2_with fail
    exact bodyPost_ret (v := .tuple #[.agg #[.int .i64 0, .int .i64 0], .int .i64 2]) (by simp [results, Try.results23, go_sem, p0, p1]) rfl ⟨rfl, HK0.out⟩
  obtain rfl : be = false := by rw [HB]; rfl
  rw [if_neg (by decide)]
  have b1 := hq1 rfl
  have b2 := hq2 rfl
  have b3 := hq3 rfl
  have ht : 1 ≤ t * d ∧ t * d ≤ 300000000 := by
    constructor
    · have := Int.mul_le_mul b2.1 b3.1 (by omega) (by omega)
      omega
    · have := Int.mul_le_mul b2.2 b3.2 (by omega) (by omega)
      omega
  have S1 := Lib.hid (fun w0 => scale_ok a a (t * d) 1000000000000 w0 (ck_one a (by omega) (by omega)) (by omega) (by decide) (by unfold fits M62; simp; omega))
  have ce : ((1000000000000 : Nat) : Int) = 1000000000000 := rfl
  rw [ce] at S1
  generalize spanV 1000000000000 (a * (t * d)) [a * (t * d)] = sv at *
  obtain ⟨v1, v2, v3⟩ := sv
  simp only [ieV, ivV] at S1
  have ON := Lib.hid (fun w0 => one_any a w0)
  simp only [ivV] at ON
  clear HB hq1 hq2 hq3 ce
  go_enter Try.func23, Try.ntmps23
  go_wp2_with fail
  with_reducible refine (O1.out _).mono ?_
  rintro e w1 ⟨rfl, hw⟩
  subst hw
  go_wp2_with fail
  with_reducible refine (O2.out _).mono ?_
  rintro e w1 ⟨rfl, hw⟩
  subst hw
  go_wp2_with fail
  with_reducible refine (O3.out _).mono ?_
  rintro e w1 ⟨rfl, hw⟩
  subst hw
  go_wp2_with fail
  with_reducible refine (ON.out _).mono ?_
  rintro e w1 ⟨rfl, k1⟩
  go_wp2_with fail
  with_reducible refine (S1.out _).mono ?_
  rintro e w2 ⟨rfl, k2⟩
  have k02 := k1.tr k2
  have HK2 := Lib.hid (HK0.out.tr k02)
  have g2 := k02.heap (heap_alloc_new w (.cells #[.int .i64 0, .int .i64 0] 40)) id
  obtain ⟨g0, g1, z0, z1⟩ := two_cells g2
  have hs : w.heap.size < w2.heap.size := World.block_lt_of_cell? _ _ g0
  clear k1 k2 p0 p1 g2
  go_wp2_with fail
  have f0 : ((w2.setCell ⟨w.heap.size, 0, none⟩ (.int .i64 v1)).setCell ⟨w.heap.size, 1, none⟩ (.int .i64 v2)).cell? ⟨w.heap.size, 0, none⟩ = some (.int .i64 v1) := by go_simp
  have f1 : ((w2.setCell ⟨w.heap.size, 0, none⟩ (.int .i64 v1)).setCell ⟨w.heap.size, 1, none⟩ (.int .i64 v2)).cell? ⟨w.heap.size, 1, none⟩ = some (.int .i64 v2) := by go_simp
  have hk3 : Kp No w ((w2.setCell ⟨w.heap.size, 0, none⟩ (.int .i64 v1)).setCell ⟨w.heap.size, 1, none⟩ (.int .i64 v2)) := kp_set2 HK2.out (Nat.le_refl _)
  generalize ((w2.setCell ⟨w.heap.size, 0, none⟩ (.int .i64 v1)).setCell ⟨w.heap.size, 1, none⟩ (.int .i64 v2)) = w3 at f0 f1 hk3 ⊢
  exact bodyPost_ret (v := .tuple #[.agg #[.int .i64 v1, .int .i64 v2], .int .i64 v3]) (by simp [results, Try.results23, go_sem, f0, f1]) rfl ⟨rfl, hk3⟩
end Go.Proofs.Ytamjhpdgclbfgaa

namespace Go.Proofs.Ytamjhpdgclbfgaa
open Go.RowKit Go.Kq

def eqS (a b : Spo) : Bool := a.p == b.p && a.s == b.s && a.x == b.x && a.y == b.y
theorem eqS_iff (a b : Spo) : eqS a b = true ↔ a = b := by
  obtain ⟨a1, a2, a3, a4⟩ := a
  obtain ⟨b1, b2, b3, b4⟩ := b
  simp [eqS, and_assoc]
set_option maxHeartbeats 2000000 in
theorem spo_equal (w : World) (a b : Spo) : (Op.equalIn 10000 52 a.val b.val).run Try.prog w = .ok (eqS a b) w := by
  have hS : Try.prog.underlying 52 = some (.struct (Try.prog.fieldsOf 52)) := by kernel_rfl
  have hp : Try.prog.stoodInHeld 52 = false := by kernel_rfl
  have u3 := Try.underlying3
  have u2 := Try.underlying2
  obtain ⟨a0, a1, a2, a3⟩ := a
  obtain ⟨b0, b1, b2, b3⟩ := b
  simp only [Spo.val, eqS]
  rw [show (10000 : Nat) = 9999 + 1 from rfl, run_equalIn_agg w 9999 52 _ _ hS hp]
  simp only [Program.fieldsOf, Try.underlying52]
  go_simp
  by_cases h0 : a0 = b0 <;> by_cases h1 : a1 = b1 <;> by_cases h2 : a2 = b2 <;> by_cases h3 : a3 = b3 <;> simp [h0, h1, h2, h3]
theorem take_ext {α : Type} {a b : List α} {k : Nat} {x : α} (h : a.take k = b.take k) (hx : a[k]? = some x) (hy : b[k]? = some x) : a.take (k + 1) = b.take (k + 1) := by
  rw [List.take_add_one, List.take_add_one, h, hx, hy]
set_option maxHeartbeats 4000000 in
set_option maxRecDepth 100000 in
theorem same_any (A : Option Addr) (n ca : Nat) (a : List Spo) (B : Option Addr) (m cb : Nat) (b : List Spo) (w : World) (hx : RdS w A n a) (hy : RdS w B m b) (hn : n ≤ 100000000) :
    Calls Try.prog 11 #[.slice A n ca, .slice B m cb] w fun e w' => e = .returned (.bool (decide (a = b))) ∧ Kp No w w' := by
  have HX := Lib.hid hx
  have HY := Lib.hid hy
  have HN := Lib.hid hx.1
  have HM := Lib.hid hy.1
  clear hx hy
  by_cases hnm : n = m
  rotate_left
  · have hne : decide (a = b) = false := decide_eq_false fun e => hnm (by rw [← HN.out, ← HM.out, e])
    rw [hne]
    go_enter Try.func11, Try.ntmps11
    go_wp2_with fail
    go_ret
    exact ⟨rfl, Kp.refl _ _⟩
  subst hnm
  have HD := Lib.hid (show decide (a = b) = decide (a = b) from rfl)
  generalize hq : decide (a = b) = q at HD ⊢
  have HQ := Lib.hid hq
  clear hq HD
  go_enter Try.func11, Try.ntmps11
  go_wp2_with fail
  go_loopw [5] (fun i wr => ∃ k : Nat, k ≤ n ∧ i = .int .i64 k ∧ a.take k = b.take k ∧ Kp No w wr) (fun i _ => n - (intOf i).toNat)
  case atStart => exact ⟨0, by omega, rfl, rfl, Kp.refl _ _⟩
  case round =>
    obtain ⟨k, hk, rfl, ht, hkp⟩ := hrel
    have HT := Lib.hid ht
    have HK := Lib.hid hkp
    clear ht hkp
    by_cases hlt : k < n
    · obtain ⟨x, hv⟩ : ∃ x, a[k]? = some x := ⟨_, List.getElem?_eq_getElem (by rw [HN.out]; exact hlt)⟩
      obtain ⟨y, hu⟩ : ∃ y, b[k]? = some y := ⟨_, List.getElem?_eq_getElem (by rw [HM.out]; exact hlt)⟩
      obtain ⟨g, o, rfl, hb, hc⟩ := (HX.out.no HK.out).2 k x hv
      obtain ⟨g', o', rfl, hb', hd⟩ := (HY.out.no HK.out).2 k y hu
      have c0 := hc 0 _ rfl
      have c1 := hc 1 _ rfl
      have c2 := hc 2 _ rfl
      have c3 := hc 3 _ rfl
      have d0 := hd 0 _ rfl
      have d1 := hd 1 _ rfl
      have d2 := hd 2 _ rfl
      have d3 := hd 3 _ rfl
      simp only [Nat.add_zero] at c0 d0
      have HV := Lib.hid hv
      have HU := Lib.hid hu
      have hse : ∀ w', (Op.equalIn 10000 52 x.val y.val).run Try.prog w' = .ok (eqS x y) w' := fun w' => spo_equal w' x y
      clear hv hu hc hd
      simp only [Spo.val] at hse
      cases he : eqS x y with
      | true =>
        rw [he] at hse
        obtain rfl := (eqS_iff x y).1 he
        clear he
        go_wp2_with fail
        go_quiet (fail)
        go_wp2_with fail
        go_roundw
        case rel => exact ⟨k + 1, by omega, by go_num, take_ext HT.out HV.out HU.out, HK.out.tr (Kp.drewN _ _ _)⟩
        case measure => simp [intOf]; omega
      | false =>
        rw [he] at hse
        have HNE := Lib.hid (show a ≠ b from fun e => by
          have h1 := HV.out
          rw [e, HU.out] at h1
          cases h1
          have := (eqS_iff x x).2 rfl
          rw [he] at this
          cases this)
        clear he
        go_wp2_with fail
        go_quiet (fail)
        go_wp2_with fail
        go_ret
        exact ⟨by rw [← HQ.out, decide_eq_false HNE.out]; rfl, HK.out.tr (Kp.drewN _ _ _)⟩
    · obtain rfl : k = n := by omega
      go_wp2_with fail
      go_ret
      refine ⟨?_, HK.out⟩
      have ht := HT.out
      rw [List.take_of_length_le (by rw [HN.out]; omega), List.take_of_length_le (by rw [HM.out]; omega)] at ht
      rw [← HQ.out, decide_eq_true ht]
      rfl
end Go.Proofs.Ytamjhpdgclbfgaa

namespace Go.Proofs.Ytamjhpdgclbfgaa
open Go.RowKit Go.Kq

def exL : List Ct := [⟨4, 4⟩, ⟨9, 5⟩, ⟨5, 3⟩]
def exP : Pt := ⟨10, 10, 0⟩
theorem ex_body : bodyV 100000 1000000 5000 = (⟨319160, 1000000⟩, 0) := by kernel_rfl
theorem ex_wgt : wgtV 1000000000000 1000 11340 = (11340000, 11340000, 0) := by kernel_rfl
theorem ex_lst : lstV exP [⟨5, 8⟩, ⟨5, 8⟩, ⟨5, 8⟩] = (2, 0) := by kernel_rfl
theorem ex_nesE : nesE exP exL = 0 := by kernel_rfl
theorem ex_nesL : nesL exP exL = [⟨0, 0, 0, 0⟩, ⟨0, 1, 0, 4⟩, ⟨0, 0, 4, 0⟩] := by
  unfold nesL
  rw [if_pos ex_nesE]
  exact nest_ex
theorem ex_chk : jchk exP exL 200 = 0 := by kernel_rfl
theorem ex_big : exL.any (bigC exP) = false := by kernel_rfl
theorem ex_quick : (quickG exP exL (ordI exL)).out = [⟨0, 1, 0, 5⟩, ⟨0, 0, 0, 0⟩, ⟨0, 1, 4, 5⟩] := by kernel_rfl
theorem ex_isq : isq 170000000000 = 412310 := (isq_unique (r := 412310) (by decide) (by decide)).symm
theorem ex_slr : (slR 100000 0 200000).toNat = 170000000000 := by kernel_rfl
theorem ex_csq : csq 170000000000 = 412311 := by
  unfold csq
  rw [ex_isq]
  rfl
theorem ex_footH : footH 100000 0 200000 = 266000 := by
  unfold footH slH slL
  rw [ex_slr, ex_isq, ex_csq]
  kernel_rfl
theorem ex_foot : footV 100000 0 200000 0 = (⟨314160, 266000⟩, 0) := by
  unfold footV
  rw [ex_footH]
  kernel_rfl
theorem ct_equal (w : World) (a b c d : Int) : (Op.equalIn 10000 35 (.agg #[.int .i64 a, .int .i64 b]) (.agg #[.int .i64 c, .int .i64 d])).run Try.prog w = .ok (a == c && b == d) w := by
  have hS : Try.prog.underlying 35 = some (.struct (Try.prog.fieldsOf 35)) := by kernel_rfl
  have hp : Try.prog.stoodInHeld 35 = false := by kernel_rfl
  have u2 := Try.underlying2
  rw [show (10000 : Nat) = 9999 + 1 from rfl, run_equalIn_agg w 9999 35 _ _ hS hp]
  simp only [Program.fieldsOf, Try.underlying35]
  go_simp
  by_cases h0 : a = c <;> by_cases h1 : b = d <;> simp [h0, h1]
theorem iv_equal (w : World) (a b c d : Int) : (Op.equalIn 10000 40 (.agg #[.int .i64 a, .int .i64 b]) (.agg #[.int .i64 c, .int .i64 d])).run Try.prog w = .ok (a == c && b == d) w := by
  have hS : Try.prog.underlying 40 = some (.struct (Try.prog.fieldsOf 40)) := by kernel_rfl
  have hp : Try.prog.stoodInHeld 40 = false := by kernel_rfl
  have u2 := Try.underlying2
  rw [show (10000 : Nat) = 9999 + 1 from rfl, run_equalIn_agg w 9999 40 _ _ hS hp]
  simp only [Program.fieldsOf, Try.underlying40]
  go_simp
  by_cases h0 : a = c <;> by_cases h1 : b = d <;> simp [h0, h1]
def SpF (L : List Spo) (w : World) (u : Value) : Prop := ∃ g, u = .slice (some ⟨g, 0, none⟩) 3 3 ∧ RdS w (some ⟨g, 0, none⟩) 3 L
theorem SpF.no {L : List Spo} {w w' : World} {u : Value} (h : SpF L w u) (k : Kp No w w') : SpF L w' u := by
  obtain ⟨g, h1, h2⟩ := h
  exact ⟨g, h1, h2.no k⟩
theorem rds3 (w : World) (a b c : Spo) : SpF [a, b, c] (w.alloc (.cells #[.int .i64 a.p, .int .i64 a.s, .int .i64 a.x, .int .i64 a.y, .int .i64 b.p, .int .i64 b.s, .int .i64 b.x, .int .i64 b.y, .int .i64 c.p, .int .i64 c.s, .int .i64 c.x, .int .i64 c.y] 52)) (.slice (some ⟨w.heap.size, 0, none⟩) 3 3) :=
  ⟨_, rfl, Rd.of_own (base := 0) (e := 52) (cap := 3) spo_len (by decide) (own_made (s := 4) (n := 3) (xs := [a, b, c].flatMap Spo.cells) w rfl (Nat.zero_le _) (by unfold maxLen; omega))⟩
theorem rdc3 (w : World) (a b c : Ct) : RdC (w.alloc (.cells #[.int .i64 a.w, .int .i64 a.h, .int .i64 b.w, .int .i64 b.h, .int .i64 c.w, .int .i64 c.h] 35)) (some ⟨w.heap.size, 0, none⟩) 3 [a, b, c] :=
  Rd.of_own (base := 0) (e := 35) (cap := 3) ct_len (by decide) (own_made (s := 2) (n := 3) (xs := [a, b, c].flatMap Ct.cells) w rfl (Nat.zero_le _) (by unfold maxLen; omega))
end Go.Proofs.Ytamjhpdgclbfgaa
