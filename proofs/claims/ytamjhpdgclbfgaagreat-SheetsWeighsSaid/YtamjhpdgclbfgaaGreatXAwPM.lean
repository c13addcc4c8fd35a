/- Chapter 09: same: two lists of spots. · Chapter 09: the example of awake: what the functions give there. -/
import Derived.BigQuiet
import Derived.Test.YtamjhpdgclbfgaaGreatXShAM
import Derived.Test.YtamjhpdgclbfgaaGreatXQkW
import Derived.Test.YtamjhpdgclbfgaaGreatXSpzM
import Derived.Test.YtamjhpdgclbfgaaGreatXFt
import Derived.Test.YtamjhpdgclbfgaaGreatXRfAM
namespace Go.Proofs.YtamjhpdgclbfgaaGreat
open Go.RowKit Go.Kq

def eqS (a b : Spo) : Bool := a.p == b.p && a.s == b.s && a.x == b.x && a.y == b.y
theorem eqS_iff (a b : Spo) : eqS a b = true ↔ a = b := by
  obtain ⟨a1, a2, a3, a4⟩ := a
  obtain ⟨b1, b2, b3, b4⟩ := b
  simp [eqS, and_assoc]
set_option maxHeartbeats 2000000 in
theorem spo_equal (w : World) (a b : Spo) : (Op.equalIn 10000 58 a.val b.val).run Tryz.prog w = .ok (eqS a b) w := by
  have hS : Tryz.prog.underlying 58 = some (.struct (Tryz.prog.fieldsOf 58)) := by kernel_rfl
  have hp : Tryz.prog.stoodInHeld 58 = false := by kernel_rfl
  have u3 := Tryz.underlying3
  have u2 := Tryz.underlying2
  obtain ⟨a0, a1, a2, a3⟩ := a
  obtain ⟨b0, b1, b2, b3⟩ := b
  simp only [Spo.val, eqS]
  rw [show (10000 : Nat) = 9999 + 1 from rfl, run_equalIn_agg w 9999 58 _ _ hS hp]
  simp only [Program.fieldsOf, Tryz.underlying58]
  go_simp
  by_cases h0 : a0 = b0 <;> by_cases h1 : a1 = b1 <;> by_cases h2 : a2 = b2 <;> by_cases h3 : a3 = b3 <;> simp [h0, h1, h2, h3]
theorem take_ext {α : Type} {a b : List α} {k : Nat} {x : α} (h : a.take k = b.take k) (hx : a[k]? = some x) (hy : b[k]? = some x) : a.take (k + 1) = b.take (k + 1) := by
  rw [List.take_add_one, List.take_add_one, h, hx, hy]
set_option maxHeartbeats 4000000 in
set_option maxRecDepth 100000 in
theorem same_any (A : Option Addr) (n ca : Nat) (a : List Spo) (B : Option Addr) (m cb : Nat) (b : List Spo) (w : World) (hx : RdS w A n a) (hy : RdS w B m b) (hn : n ≤ 100000000) :
    Calls Tryz.prog 30 #[.slice A n ca, .slice B m cb] w fun e w' => e = .returned (.bool (decide (a = b))) ∧ Kp No w w' := by
  have HX := Lib.hid hx
  have HY := Lib.hid hy
  have HN := Lib.hid hx.1
  have HM := Lib.hid hy.1
  clear hx hy
  by_cases hnm : n = m
  rotate_left
  · have hne : decide (a = b) = false := decide_eq_false fun e => hnm (by rw [← HN.out, ← HM.out, e])
    rw [hne]
    go_enter Tryz.func30, Tryz.ntmps30
    go_wp2_with fail
    go_ret
    exact ⟨rfl, Kp.refl _ _⟩
  subst hnm
  have HD := Lib.hid (show decide (a = b) = decide (a = b) from rfl)
  generalize hq : decide (a = b) = q at HD ⊢
  have HQ := Lib.hid hq
  clear hq HD
  go_enter Tryz.func30, Tryz.ntmps30
  go_wp2_with fail
  go_loopw [5] (fun i wr => ∃ k : Nat, k ≤ n ∧ i = .int .i64 k ∧ a.take k = b.take k ∧ Kp No w wr) (fun i _ => n - (intOf i).toNat)
  case atStart => exact ⟨0, by omega, rfl, rfl, Kp.refl _ _⟩
  case round =>
    obtain ⟨k, hk, rfl, ht, hkp⟩ := hrel
    have HT := Lib.hid ht
    have HK := Lib.hid hkp
    clear ht hkp
    by_cases hlt : k < n
    · obtain ⟨x, hv⟩ : ∃ x, a[k]? = some x := ⟨_, List.getElem?_eq_getElem (by rw [HN.out]; exact hlt)⟩
      obtain ⟨y, hu⟩ : ∃ y, b[k]? = some y := ⟨_, List.getElem?_eq_getElem (by rw [HM.out]; exact hlt)⟩
      obtain ⟨g, o, rfl, hb, hc⟩ := (HX.out.no HK.out).2 k x hv
      obtain ⟨g', o', rfl, hb', hd⟩ := (HY.out.no HK.out).2 k y hu
      have c0 := hc 0 _ rfl
      have c1 := hc 1 _ rfl
      have c2 := hc 2 _ rfl
      have c3 := hc 3 _ rfl
      have d0 := hd 0 _ rfl
      have d1 := hd 1 _ rfl
      have d2 := hd 2 _ rfl
      have d3 := hd 3 _ rfl
      simp only [Nat.add_zero] at c0 d0
      have HV := Lib.hid hv
      have HU := Lib.hid hu
      have hse : ∀ w', (Op.equalIn 10000 58 x.val y.val).run Tryz.prog w' = .ok (eqS x y) w' := fun w' => spo_equal w' x y
      clear hv hu hc hd
      simp only [Spo.val] at hse
      cases he : eqS x y with
      | true =>
        rw [he] at hse
        obtain rfl := (eqS_iff x y).1 he
        clear he
        go_wp2_with fail
        go_quiet (fail)
        go_wp2_with fail
        go_roundw
        case rel => exact ⟨k + 1, by omega, by go_num, take_ext HT.out HV.out HU.out, HK.out.tr (Kp.drewN _ _ _)⟩
        case measure => simp [intOf]; omega
      | false =>
        rw [he] at hse
        have HNE := Lib.hid (show a ≠ b from fun e => by
          have h1 := HV.out
          rw [e, HU.out] at h1
          cases h1
          have := (eqS_iff x x).2 rfl
          rw [he] at this
          cases this)
        clear he
        go_wp2_with fail
        go_quiet (fail)
        go_wp2_with fail
        go_ret
        exact ⟨by rw [← HQ.out, decide_eq_false HNE.out]; rfl, HK.out.tr (Kp.drewN _ _ _)⟩
    · obtain rfl : k = n := by omega
      go_wp2_with fail
      go_ret
      refine ⟨?_, HK.out⟩
      have ht := HT.out
      rw [List.take_of_length_le (by rw [HN.out]; omega), List.take_of_length_le (by rw [HM.out]; omega)] at ht
      rw [← HQ.out, decide_eq_true ht]
      rfl
end Go.Proofs.YtamjhpdgclbfgaaGreat

namespace Go.Proofs.YtamjhpdgclbfgaaGreat
open Go.RowKit Go.Kq

def exL : List Ct := [⟨4, 4⟩, ⟨9, 5⟩, ⟨5, 3⟩]
def exP : Pt := ⟨10, 10, 0⟩
theorem ex_body : bodyV 100000 1000000 5000 = (⟨319160, 1000000⟩, 0) := by kernel_rfl
theorem ex_wgt : wgtV 1000000000000 1000 11340 = (11340000, 11340000, 0) := by kernel_rfl
theorem ex_lst : lstV exP [⟨5, 8⟩, ⟨5, 8⟩, ⟨5, 8⟩] = (2, 0) := by kernel_rfl
theorem ex_nesE : nesE exP exL = 0 := by kernel_rfl
theorem ex_nesL : nesL exP exL = [⟨0, 0, 0, 0⟩, ⟨0, 1, 0, 4⟩, ⟨0, 0, 4, 0⟩] := by
  unfold nesL
  rw [if_pos ex_nesE]
  exact nest_ex
theorem ex_chk : jchk exP exL 200 = 0 := by kernel_rfl
theorem ex_big : exL.any (bigC exP) = false := by kernel_rfl
theorem ex_quick : (quickG exP exL (ordI exL)).out = [⟨0, 1, 0, 5⟩, ⟨0, 0, 0, 0⟩, ⟨0, 1, 4, 5⟩] := by kernel_rfl
theorem ex_isq : isq 170000000000 = 412310 := (isq_unique (r := 412310) (by decide) (by decide)).symm
theorem ex_slr : (slR 100000 0 200000).toNat = 170000000000 := by kernel_rfl
theorem ex_csq : csq 170000000000 = 412311 := by
  unfold csq
  rw [ex_isq]
  rfl
theorem ex_footH : footH 100000 0 200000 = 266000 := by
  unfold footH slH slL
  rw [ex_slr, ex_isq, ex_csq]
  kernel_rfl
theorem ex_foot : footV 100000 0 200000 0 = (⟨314160, 266000⟩, 0) := by
  unfold footV
  rw [ex_footH]
  kernel_rfl
theorem ct_equal (w : World) (a b c d : Int) : (Op.equalIn 10000 25 (.agg #[.int .i64 a, .int .i64 b]) (.agg #[.int .i64 c, .int .i64 d])).run Tryz.prog w = .ok (a == c && b == d) w := by
  have hS : Tryz.prog.underlying 25 = some (.struct (Tryz.prog.fieldsOf 25)) := by kernel_rfl
  have hp : Tryz.prog.stoodInHeld 25 = false := by kernel_rfl
  have u2 := Tryz.underlying2
  rw [show (10000 : Nat) = 9999 + 1 from rfl, run_equalIn_agg w 9999 25 _ _ hS hp]
  simp only [Program.fieldsOf, Tryz.underlying25]
  go_simp
  by_cases h0 : a = c <;> by_cases h1 : b = d <;> simp [h0, h1]
theorem iv_equal (w : World) (a b c d : Int) : (Op.equalIn 10000 38 (.agg #[.int .i64 a, .int .i64 b]) (.agg #[.int .i64 c, .int .i64 d])).run Tryz.prog w = .ok (a == c && b == d) w := by
  have hS : Tryz.prog.underlying 38 = some (.struct (Tryz.prog.fieldsOf 38)) := by kernel_rfl
  have hp : Tryz.prog.stoodInHeld 38 = false := by kernel_rfl
  have u2 := Tryz.underlying2
  rw [show (10000 : Nat) = 9999 + 1 from rfl, run_equalIn_agg w 9999 38 _ _ hS hp]
  simp only [Program.fieldsOf, Tryz.underlying38]
  go_simp
  by_cases h0 : a = c <;> by_cases h1 : b = d <;> simp [h0, h1]
def SpF (L : List Spo) (w : World) (u : Value) : Prop := ∃ g, u = .slice (some ⟨g, 0, none⟩) 3 3 ∧ RdS w (some ⟨g, 0, none⟩) 3 L
theorem SpF.no {L : List Spo} {w w' : World} {u : Value} (h : SpF L w u) (k : Kp No w w') : SpF L w' u := by
  obtain ⟨g, h1, h2⟩ := h
  exact ⟨g, h1, h2.no k⟩
theorem rds3 (w : World) (a b c : Spo) : SpF [a, b, c] (w.alloc (.cells #[.int .i64 a.p, .int .i64 a.s, .int .i64 a.x, .int .i64 a.y, .int .i64 b.p, .int .i64 b.s, .int .i64 b.x, .int .i64 b.y, .int .i64 c.p, .int .i64 c.s, .int .i64 c.x, .int .i64 c.y] 58)) (.slice (some ⟨w.heap.size, 0, none⟩) 3 3) :=
  ⟨_, rfl, Rd.of_own (base := 0) (e := 58) (cap := 3) spo_len (by decide) (own_made (s := 4) (n := 3) (xs := [a, b, c].flatMap Spo.cells) w rfl (Nat.zero_le _) (by unfold maxLen; omega))⟩
theorem rdc3 (w : World) (a b c : Ct) : RdC (w.alloc (.cells #[.int .i64 a.w, .int .i64 a.h, .int .i64 b.w, .int .i64 b.h, .int .i64 c.w, .int .i64 c.h] 25)) (some ⟨w.heap.size, 0, none⟩) 3 [a, b, c] :=
  Rd.of_own (base := 0) (e := 25) (cap := 3) ct_len (by decide) (own_made (s := 2) (n := 3) (xs := [a, b, c].flatMap Ct.cells) w rfl (Nat.zero_le _) (by unfold maxLen; omega))
end Go.Proofs.YtamjhpdgclbfgaaGreat
