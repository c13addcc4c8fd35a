/- Chapter 09: Nest: the walk. · spans: power, of the second degree. · spans: root, of the second degree. · spans: Root, of the second degree. -/
import Derived.Test.YtamjhpdgclbfgaaXNwF
import Derived.Test.YtamjhpdgclbfgaaXCspM
import Derived.Test.YtamjhpdgclbfgaaXSpn
import Derived.Test.YtamjhpdgclbfgaaXFtPM
import Derived.Test.YtamjhpdgclbfgaaXSpsM
namespace Go.Proofs.Ytamjhpdgclbfgaa
open Go.RowKit Go.Kq

def nesE (P : Pt) (l : List Ct) : Int := if jchk P l 8 = 0 then (if l.any (bigC P) then 4 else 0) else jchk P l 8
def nesL (P : Pt) (l : List Ct) : List Spo := if nesE P l = 0 then nestF P l else []
theorem sok_start {P : Pt} {l : List Ct} (h : JobOk P l 8) : SOk P l.length l [] [] [] :=
  ⟨by have := h.len; omega, rfl, by simp, fun s hs => (by cases hs), rfl, by simp, fun u hu => (by cases hu), fun u hu => (by cases hu), fun c hc => by have := h.cut c hc; omega, h.k, by have := h.h; omega, by have := h.w; omega⟩
set_option maxHeartbeats 8000000 in
set_option maxRecDepth 100000 in
theorem Nest_cap (P : Pt) (A : Option Addr) (n ca : Nat) (l : List Ct) (w : World) (hx : RdC w A n l) (hn : n ≤ 100000000) (hA : ∀ b o, A = some ⟨b, o, none⟩ → b < w.heap.size) :
    Calls Try.prog 9 #[P.val, .slice A n ca] w fun e w' => ∃ A' m ca', e = .returned (.tuple #[.slice A' m ca', .int .i64 (nesE P l)]) ∧ RdS w' A' m (nesL P l) ∧ m ≤ 8 ∧ m ≤ ca' ∧ Kp No w w' := by
  have HV := Lib.hid (show nesE P l = if jchk P l 8 = 0 then (if l.any (bigC P) then 4 else 0) else jchk P l 8 from rfl)
  have HLV := Lib.hid (show nesL P l = if nesE P l = 0 then nestF P l else [] from rfl)
  have HX := Lib.hid hx
  have HL := Lib.hid hx.1
  have HA := Lib.hid hA
  have hk0 : Kp No w (w.alloc (.cells #[.int .i64 P.w, .int .i64 P.h, .int .i64 P.k] 23)) := Kp.alloc _ _ _
  obtain ⟨w1, hw1⟩ : ∃ w1, w1 = (w.alloc (.cells #[.int .i64 P.w, .int .i64 P.h, .int .i64 P.k] 23)).alloc (.cells #[.int .i64 P.w, .int .i64 P.h, .int .i64 P.k, .slice A n ca, .slice none 0 0, .slice none 0 0, .slice none 0 0, .slice none 0 0, .slice none 0 0, .int .i64 0, .slice none 0 0, .int .i64 0, .int .i64 0] 61) := ⟨_, rfl⟩
  obtain ⟨gn, hgn⟩ : ∃ gn, gn = w.heap.size + 1 := ⟨_, rfl⟩
  have hk1 : Kp No w w1 := by rw [hw1]; exact hk0.tr (Kp.alloc _ _ _)
  have hbx : w1.heap[gn]? = some (.cells #[.int .i64 P.w, .int .i64 P.h, .int .i64 P.k, .slice A n ca, .slice none 0 0, .slice none 0 0, .slice none 0 0, .slice none 0 0, .slice none 0 0, .int .i64 0, .slice none 0 0, .int .i64 0, .int .i64 0] 61 (0, 0)) := by
    have := heap_alloc_new (w.alloc (.cells #[.int .i64 P.w, .int .i64 P.h, .int .i64 P.k] 23)) (.cells #[.int .i64 P.w, .int .i64 P.h, .int .i64 P.k, .slice A n ca, .slice none 0 0, .slice none 0 0, .slice none 0 0, .slice none 0 0, .slice none 0 0, .int .i64 0, .slice none 0 0, .int .i64 0, .int .i64 0] 61)
    rw [hw1, hgn]
    simpa using this
  have HW1 := Lib.hid hw1
  have HC := Lib.hid (jcheck_any P A n ca l 8 w1 (hx.no hk1) hn)
  have HBIG := Lib.hid (fun w2 (k : Kp No w w2) => large_any P A n ca l w2 (hx.no k) hn)
  have HBX := Lib.hid hbx
  have HK1 := Lib.hid hk1
  have HGN := Lib.hid hgn
  simp only [jobV] at HC HBIG
  unfold Pt.val
  clear hx hbx hk0 hk1 hgn hw1 hA
  go_enter Try.func9, Try.ntmps9
  go_wp2_with fail
  rw [← HW1.out, ← HGN.out]
  with_reducible refine HC.out.mono ?_
  rintro e w2 ⟨rfl, k2⟩
  have HK2 := Lib.hid (HK1.out.tr k2)
  have hb2 := k2.heap HBX.out id
  have b0 : w2.cell? ⟨gn, 0, none⟩ = some (.int .i64 P.w) := by rw [cell_of_row _ _ _ _ _ _ hb2]; rfl
  have b1 : w2.cell? ⟨gn, 1, none⟩ = some (.int .i64 P.h) := by rw [cell_of_row _ _ _ _ _ _ hb2]; rfl
  have b2 : w2.cell? ⟨gn, 2, none⟩ = some (.int .i64 P.k) := by rw [cell_of_row _ _ _ _ _ _ hb2]; rfl
  have b3 : w2.cell? ⟨gn, 3, none⟩ = some (.slice A n ca) := by rw [cell_of_row _ _ _ _ _ _ hb2]; rfl
  have HB2 := Lib.hid hb2
  clear k2 hb2 HC HW1
  by_cases hc : jchk P l 8 = 0
  rotate_left
  · have HE := Lib.hid (show nesE P l = jchk P l 8 by rw [HV.out, if_neg hc])
    have HLE := Lib.hid (show nesL P l = [] by rw [HLV.out, if_neg (by rw [HE.out]; exact hc)])
    have hcn : (jchk P l 8 == 0) = false := by rw [beq_eq_false_iff_ne]; exact hc
    have hcm : (jchk P l 8 != 0) = true := by rw [bne_iff_ne]; exact hc
    generalize jchk P l 8 = c at *
    clear HV HLV
    go_wp2_with fail
    exact bodyPost_ret (v := .tuple #[.slice none 0 0, .int .i64 c]) (by simp [results, Try.results9, go_sem]) rfl ⟨none, 0, 0, by rw [HE.out], by rw [HLE.out]; exact Rd.nil _ _, by omega, by omega, HK2.out⟩
  have HJ := Lib.hid (job_ok hc)
  rw [if_pos hc] at HV
  rw [hc]
  go_wp2_with fail
  with_reducible refine (HBIG.out w2 HK2.out).mono ?_
  rintro e w3 ⟨rfl, k3⟩
  have HK3 := Lib.hid (HK2.out.tr k3)
  have hb3 := k3.heap HB2.out id
  clear b0 b1 b2 b3 HBIG
  cases hbg : l.any (bigC P) with
  | true =>
    have HE := Lib.hid (show nesE P l = 4 by rw [HV.out, hbg]; rfl)
    have HLE := Lib.hid (show nesL P l = [] by rw [HLV.out, if_neg (by rw [HE.out]; decide)])
    clear hbg HV HLV
    go_wp2_with fail
    exact bodyPost_ret (v := .tuple #[.slice none 0 0, .int .i64 4]) (by simp [results, Try.results9, go_sem]) rfl ⟨none, 0, 0, by rw [HE.out], by rw [HLE.out]; exact Rd.nil _ _, by omega, by omega, HK3.out⟩
  | false =>
    have HE := Lib.hid (show nesE P l = 0 by rw [HV.out, hbg]; rfl)
    have HLE := Lib.hid (show nesL P l = nestF P l by rw [HLV.out, if_pos HE.out])
    have hnil : ∀ e : TypeId, w3.ownsRow (gn + 1) e 1 (.slice none 0 0) 0 [] := fun e => ⟨by simp, .inl ⟨rfl, rfl⟩⟩
    have hN : NSt gn P A n ca l [] [] [] [] [] none w3 := ⟨.slice none 0 0, .slice none 0 0, .slice none 0 0, .slice none 0 0, .slice none 0 0, .slice none 0 0, 0, 0,
      ⟨hb3, fun j hj => (by match j, hj with | 0, _ => exact hnil _ | 1, _ => exact hnil _ | 2, _ => exact hnil _ | 3, _ => exact hnil _ | 4, _ => exact hnil _),
        fun i j hi hj _ g hg => (by match i, hi, hg with | 0, _, hg => cases hg | 1, _, hg => cases hg | 2, _, hg => cases hg | 3, _, hg => cases hg | 4, _, hg => cases hg), rfl, HX.out.no HK3.out, fun b o e => by have := HA.out b o e; have := HGN.out; omega⟩⟩
    have HS := Lib.hid (shelves_any P A n ca l gn _ [] [] [] none w3 rfl hN (by rw [← HL.out]; exact sok_start HJ.out) (fun b c d e => by cases e))
    simp only [List.length_nil, Int.natCast_zero] at HS
    clear hnil hN hb3 hbg HV HLV
    go_wp2_with fail
    with_reducible refine HS.out.mono ?_
    rintro e w4 ⟨rfl, hN4, hB4, hk4⟩
    have HK4 := Lib.hid (show Kp No w w4 from HK3.out.trans hk4 fun k hk s => by have := s.1; have := HGN.out; omega)
    obtain ⟨vS, vO, vW, vH, vU, bv, l0, l1, h4⟩ := hN4
    have hnf : nestF P l = (match HF P l [] [] [] none with | some (b, _) => b | none => []) := rfl
    have hres : ∃ a m c, bv = .slice a m c ∧ RdS w4 a m (nestF P l) ∧ m ≤ 8 ∧ m ≤ c := by
      have hbst := h4.bst
      cases hq : HF P l [] [] [] none with
      | none =>
        rw [hq] at hbst hnf
        exact ⟨none, 0, 0, hbst, by rw [hnf]; exact Rd.nil _ _, by omega, by omega⟩
      | some q =>
        obtain ⟨b, c, d⟩ := q
        rw [hq] at hbst hnf hB4
        obtain ⟨⟨g, cp, hbv⟩, ho, _⟩ := hbst
        rw [hbv] at ho
        obtain ⟨_, _, e, hcap, _⟩ := own_form ho
        cases e
        refine ⟨_, _, _, hbv, ?_, hB4 b c d rfl, hcap⟩
        rw [hnf]
        exact Rd.of_own spo_len (by decide) ho
    obtain ⟨a, m, c, rfl, hr, hm, hmc⟩ := hres
    have b10 : w4.cell? ⟨gn, 10, none⟩ = some (.slice a m c) := by rw [cell_of_row _ _ _ _ _ _ h4.box]; rfl
    have HR := Lib.hid hr
    clear h4 hnf hr HS hk4 hB4
    go_wp2_with fail
    exact bodyPost_ret (v := .tuple #[.slice a m c, .int .i64 0]) (by simp [results, Try.results9, go_sem]) rfl ⟨a, m, c, by rw [HE.out], by rw [HLE.out]; exact HR.out, hm, hmc, HK4.out⟩
theorem Nest_any (P : Pt) (A : Option Addr) (n ca : Nat) (l : List Ct) (w : World) (hx : RdC w A n l) (hn : n ≤ 100000000) (hA : ∀ b o, A = some ⟨b, o, none⟩ → b < w.heap.size) :
    Calls Try.prog 9 #[P.val, .slice A n ca] w fun e w' => ∃ A' m ca', e = .returned (.tuple #[.slice A' m ca', .int .i64 (nesE P l)]) ∧ RdS w' A' m (nesL P l) ∧ m ≤ 8 ∧ Kp No w w' := by
  refine (Nest_cap P A n ca l w hx hn hA).mono ?_
  rintro e w' ⟨A', m, c, h1, h2, h3, _, h4⟩
  exact ⟨A', m, c, h1, h2, h3, h4⟩
end Go.Proofs.Ytamjhpdgclbfgaa

namespace Go.Proofs.Ytamjhpdgclbfgaa
open Go.RowKit Go.Kq

set_option maxHeartbeats 2000000 in
theorem power_parts (n s : Int) (w : World) (h0 : 0 ≤ n) (h1 : n < 4294967296) (hs : n < 2 → s = n)
    (M1 : Hid (∀ w0, Calls Try.prog 99 #[.int .u64 1, .int .u64 n] w0 fun e w' => e = .returned (.tuple #[.int .u64 0, .int .u64 n]) ∧ w' = w0))
    (M2 : Hid (∀ w0, Calls Try.prog 99 #[.int .u64 n, .int .u64 n] w0 fun e w' => e = .returned (.tuple #[.int .u64 0, .int .u64 s]) ∧ w' = w0)) :
    Calls Try.prog 74 #[.int .u64 n, .int .i64 2] w fun e w' => e = .returned (.tuple #[.int .u64 (if s ≤ 4611686018427387904 then s else 0), .bool (decide (s ≤ 4611686018427387904))]) ∧ w' = w := by
  by_cases hn : n < 2
  · have hs1 := hs hn
    subst hs1
    have hle : s ≤ 4611686018427387904 := by omega
    rw [if_pos hle, decide_eq_true hle]
    clear M1 M2 hs
    go_enter Try.func74, Try.ntmps74
    go_wp2_with fail
    exact bodyPost_ret (v := .tuple #[.int .u64 s, .bool true]) (by simp [results, Try.results74, go_sem]) rfl ⟨rfl, rfl⟩
  · clear hs
    have hn2 : 2 ≤ n := by omega
    go_enter Try.func74, Try.ntmps74
    go_wp2_with fail
    go_loop [6, 17] (fun o i => (o = .int .u64 1 ∧ i = .int .i64 0) ∨ (o = .int .u64 n ∧ i = .int .i64 1) ∨ (o = .int .u64 s ∧ i = .int .i64 2 ∧ s ≤ 4611686018427387904)) (fun _ i => 2 - (intOf i).toNat)
    case atStart => exact .inl ⟨rfl, rfl⟩
    case round =>
      rcases hrel with ⟨rfl, rfl⟩ | ⟨rfl, rfl⟩ | ⟨rfl, rfl, hle⟩
      · have hnM : n ≤ 4611686018427387904 := by omega
        go_wp2_with fail
        refine (M1.out _).mono ?_
        rintro e w1 ⟨rfl, hw⟩
        subst hw
        go_wp2_with fail
        go_round
        case rel => exact .inr (.inl ⟨rfl, rfl⟩)
        case measure => simp [intOf]
      · by_cases hle : s ≤ 4611686018427387904
        · go_wp2_with fail
          refine (M2.out _).mono ?_
          rintro e w1 ⟨rfl, hw⟩
          subst hw
          go_wp2_with fail
          go_round
          case rel => exact .inr (.inr ⟨rfl, rfl, hle⟩)
          case measure => simp [intOf]
        · have hd : decide (s ≤ 4611686018427387904) = false := decide_eq_false hle
          have hr : (if s ≤ 4611686018427387904 then s else 0) = 0 := if_neg hle
          have HD := Lib.hid (And.intro hd hr)
          clear hd hr
          go_wp2_with fail
          refine (M2.out _).mono ?_
          rintro e w1 ⟨rfl, hw⟩
          subst hw
          go_wp2_with fail
          exact bodyPost_ret (v := .tuple #[.int .u64 0, .bool false]) (by simp [results, Try.results74, go_sem]) rfl ⟨by first | rw [HD.out.1, HD.out.2] | rfl, rfl⟩
      · have hd : decide (s ≤ 4611686018427387904) = true := decide_eq_true hle
        have hr : (if s ≤ 4611686018427387904 then s else 0) = s := if_pos hle
        have HD := Lib.hid (And.intro hd hr)
        clear hd hr
        go_wp2_with fail
        exact bodyPost_ret (v := .tuple #[.int .u64 s, .bool true]) (by simp [results, Try.results74, go_sem]) rfl ⟨by first | rw [HD.out.1, HD.out.2] | rfl, rfl⟩
/-- power at k = 2, of less than 2^32. -/
theorem power_any (n : Nat) (w : World) (hn : n < 4294967296) :
    Calls Try.prog 74 #[.int .u64 (n : Nat), .int .i64 2] w fun e w' => e = .returned (.tuple #[.int .u64 (if ((n * n : Nat) : Int) ≤ 4611686018427387904 then ((n * n : Nat) : Int) else 0), .bool (decide (((n * n : Nat) : Int) ≤ 4611686018427387904))]) ∧ w' = w := by
  have hm : n * n < 18446744073709551616 := by
    have h := Nat.mul_le_mul (show n ≤ 4294967295 by omega) (show n ≤ 4294967295 by omega)
    omega
  have M1 := Lib.hid (fun w0 => Any.bits_Mul64 mul64 1 n (by omega) (by omega) w0)
  have M2 := Lib.hid (fun w0 => Any.bits_Mul64 mul64 n n (by omega) (by omega) w0)
  rw [Nat.one_mul, Nat.div_eq_of_lt (show n < 18446744073709551616 by omega), Nat.mod_eq_of_lt (show n < 18446744073709551616 by omega)] at M1
  rw [Nat.div_eq_of_lt hm, Nat.mod_eq_of_lt hm] at M2
  have hs : (n : Int) < 2 → ((n * n : Nat) : Int) = (n : Int) := by
    intro h
    have : n = 0 ∨ n = 1 := by omega
    rcases this with rfl | rfl <;> rfl
  exact power_parts n (n * n : Nat) w (by omega) (by omega) hs M1 M2
end Go.Proofs.Ytamjhpdgclbfgaa

namespace Go.Proofs.Ytamjhpdgclbfgaa
open Go.RowKit Go.Kq

set_option maxHeartbeats 2000000 in
theorem root_any (n : Nat) (w : World) (hn : n ≤ 4611686018427387904) :
    Calls Try.prog 73 #[.int .u64 (n : Nat), .int .i64 2] w fun e w' => e = .returned (.int .u64 ((isq n : Nat) : Int)) ∧ w' = w := by
  have hw1 : IntKind.u64.wrap ((n : Int) + 1) = ((n + 1 : Nat) : Int) := by rw [IntKind.wrap_u64]; omega
  obtain ⟨h0, hh0⟩ : ∃ h0, (if n + 1 ≤ 4294967296 then n + 1 else 4294967296) = h0 := ⟨_, rfl⟩
  have hh1 : 0 < h0 := by rw [← hh0]; split <;> omega
  have hh2 : h0 ≤ 4294967296 := by rw [← hh0]; split <;> omega
  have hh3 : n < h0 * h0 := by
    rw [← hh0]
    split
    · exact Nat.lt_of_lt_of_le (Nat.lt_succ_self n) (Nat.le_mul_of_pos_left _ (by omega))
    · omega
  have hmin : min ((n + 1 : Nat) : Int) 4294967296 = ((h0 : Nat) : Int) := by rw [← hh0]; split <;> omega
  have HH := Lib.hid (And.intro hh1 (And.intro hh2 hh3))
  have HM := Lib.hid hmin
  clear hh0 hh1 hh2 hh3 hmin
  go_enter Try.func73, Try.ntmps73
  go_wp2_with fail
  go_loop [5, 6] (fun lo hi => ∃ a b : Nat, lo = .int .u64 (a : Nat) ∧ hi = .int .u64 (b : Nat) ∧ a < b ∧ b ≤ 4294967296 ∧ a * a ≤ n ∧ n < b * b) (fun lo hi => (intOf hi - intOf lo).toNat)
  case atStart => exact ⟨0, h0, rfl, by rw [← HM.out, Int.natCast_add]; rfl, HH.out.1, HH.out.2.1, by omega, HH.out.2.2⟩
  case round =>
    obtain ⟨a, b, rfl, rfl, h1, h2, h3, h4⟩ := hrel
    clear HM HH
    obtain ⟨d, hd⟩ : ∃ d, b - a = d := ⟨_, rfl⟩
    obtain ⟨e, he⟩ : ∃ e, d / 2 = e := ⟨_, rfl⟩
    obtain ⟨m, hm⟩ : ∃ m, a + e = m := ⟨_, rfl⟩
    have s1 : (b : Int) - (a : Int) = (d : Int) := by omega
    have s2 : (d : Int) / 2 = (e : Int) := by omega
    have s3 : (a : Int) + (e : Int) = (m : Int) := by omega
    have w1 : IntKind.u64.wrap (d : Int) = (d : Int) := by rw [IntKind.wrap_u64]; omega
    have w2 : IntKind.u64.wrap (m : Int) = (m : Int) := by rw [IntKind.wrap_u64]; omega
    have w3 : IntKind.u64.wrap (e : Int) = (e : Int) := by rw [IntKind.wrap_u64]; omega
    by_cases hgt : (1 : Int) < (d : Int)
    · have hma : a < m := by omega
      have hmb : m < b := by omega
      have PW := fun w0 => power_any m w0 (by omega)
      by_cases hle : m * m ≤ n
      · have hc1 : ((m * m : Nat) : Int) ≤ 4611686018427387904 := by omega
        have hc2 : ((m * m : Nat) : Int) ≤ (n : Int) := by omega
        rw [if_pos hc1, decide_eq_true hc1] at PW
        obtain ⟨q, hq⟩ : ∃ q, m * m = q := ⟨_, rfl⟩
        rw [hq] at hc2 PW
        have P := Lib.hid PW
        have F := Lib.hid (And.intro hmb (And.intro h2 (And.intro hle (And.intro h4 hma))))
        clear PW hc1 hmb h1 h2 h3 h4 hle hq hd he hm hn
        go_wp2_with fail
        with_reducible refine (P.out _).mono ?_
        rintro e w3 ⟨rfl, hw⟩
        subst hw
        go_wp2_with fail
        go_round
        case rel => exact ⟨m, b, rfl, rfl, F.out.1, F.out.2.1, F.out.2.2.1, F.out.2.2.2.1⟩
        case measure => have := F.out; simp [intOf]; omega
      · by_cases hc1 : ((m * m : Nat) : Int) ≤ 4611686018427387904
        · have hc2 : ¬ ((m * m : Nat) : Int) ≤ (n : Int) := by omega
          rw [if_pos hc1, decide_eq_true hc1] at PW
          obtain ⟨q, hq⟩ : ∃ q, m * m = q := ⟨_, rfl⟩
          have F := Lib.hid (And.intro hma (And.intro (show m ≤ 4294967296 by omega) (And.intro h3 (And.intro (show n < m * m by omega) hmb))))
          rw [hq] at hc2 PW
          have P := Lib.hid PW
          clear PW hc1 hma hmb h1 h2 h3 h4 hle hq hd he hm hn
          go_wp2_with fail
          with_reducible refine (P.out _).mono ?_
          rintro e w3 ⟨rfl, hw⟩
          subst hw
          go_wp2_with fail
          go_round
          case rel => exact ⟨a, m, rfl, rfl, F.out.1, F.out.2.1, F.out.2.2.1, F.out.2.2.2.1⟩
          case measure => have := F.out; simp [intOf]; omega
        · rw [if_neg hc1, decide_eq_false hc1] at PW
          have F := Lib.hid (And.intro hma (And.intro (show m ≤ 4294967296 by omega) (And.intro h3 (And.intro (show n < m * m by omega) hmb))))
          have P := Lib.hid PW
          clear PW hc1 hma hmb h1 h2 h3 h4 hle hd he hm hn
          go_wp2_with fail
          with_reducible refine (P.out _).mono ?_
          rintro e w3 ⟨rfl, hw⟩
          subst hw
          go_wp2_with fail
          go_round
          case rel => exact ⟨a, m, rfl, rfl, F.out.1, F.out.2.1, F.out.2.2.1, F.out.2.2.2.1⟩
          case measure => have := F.out; simp [intOf]; omega
    · have hb1 : b = a + 1 := by omega
      have hr : a = isq n := isq_unique h3 (by rw [← hb1]; exact h4)
      have HR := Lib.hid hr
      clear hr h2 h3 h4
      go_wp2_with fail
      go_ret
      exact ⟨by rw [← HR.out]; rfl, rfl⟩
end Go.Proofs.Ytamjhpdgclbfgaa

namespace Go.Proofs.Ytamjhpdgclbfgaa
open Go.RowKit Go.Kq

set_option maxHeartbeats 2000000 in
theorem Root_ok (lo hi : Nat) (w : World) (h1 : lo ≤ hi) (h2 : hi ≤ 4611686018427387904) :
    Calls Try.prog 46 #[ivV lo hi, .int .i64 2] w fun e w' => e = .returned (ieV ((isq lo : Nat), (csq hi : Nat), 0)) ∧ Kp No w w' := by
  have hck : ckE [((lo : Int), (hi : Int))] = 0 := by
    unfold ckE
    have f1 : fits (lo : Int) = true := by unfold fits M62; simp; omega
    have f2 : fits (hi : Int) = true := by unfold fits M62; simp; omega
    rw [if_pos (by intro x hx; simp at hx; subst hx; exact ⟨f1, f2⟩), if_pos (by intro x hx; simp at hx; subst hx; simpa using h1)]
  have HCK := Lib.hid (fun g w0 hc => check_any [((lo : Int), (hi : Int))] g 0 1 1 w0 rfl (by omega) hc)
  rw [hck] at HCK
  have RA := Lib.hid (fun w0 => root_any lo w0 (by omega))
  have RB := Lib.hid (fun w0 => root_any hi w0 h2)
  obtain ⟨i1, i2⟩ := isq_spec hi
  obtain ⟨j1, j2⟩ := isq_spec lo
  have hrb : isq hi < 4294967296 := by
    rcases Nat.lt_or_ge (isq hi) 4294967296 with h | h
    · exact h
    · have := Nat.mul_le_mul h h
      omega
  have hra : isq lo < 4294967296 := Nat.lt_of_le_of_lt (isq_mono h1) hrb
  have PB := fun w0 => power_any (isq hi) w0 hrb
  have hc1 : ((isq hi * isq hi : Nat) : Int) ≤ 4611686018427387904 := by omega
  rw [if_pos hc1, decide_eq_true hc1] at PB
  have hcs : ((csq hi : Nat) : Int) = if ((isq hi * isq hi : Nat) : Int) < (hi : Int) then ((isq hi : Nat) : Int) + 1 else ((isq hi : Nat) : Int) := by
    unfold csq
    by_cases h : isq hi * isq hi < hi
    · rw [if_pos h, if_pos (by omega)]
      omega
    · rw [if_neg h, if_neg (by omega)]
  rw [hcs]
  generalize isq hi * isq hi = sq at *
  have hlo : (0 : Int) ≤ (lo : Int) := by omega
  have hhi : (0 : Int) ≤ (hi : Int) := by omega
  have hlo2 : (lo : Int) ≤ 4611686018427387904 := by omega
  have hhi2 : (hi : Int) ≤ 4611686018427387904 := by omega
  have ha : ((isq lo : Nat) : Int) < 4294967296 := by omega
  have hb : ((isq hi : Nat) : Int) < 4294967296 := by omega
  have ha0 : (0 : Int) ≤ ((isq lo : Nat) : Int) := by omega
  have hb0 : (0 : Int) ≤ ((isq hi : Nat) : Int) := by omega
  clear hck h1 h2 i1 i2 j1 j2 hra hrb hc1 hcs
  generalize ((isq lo : Nat) : Int) = a at *
  generalize ((isq hi : Nat) : Int) = b at *
  generalize ((sq : Nat) : Int) = s at *
  generalize ((lo : Nat) : Int) = x at *
  generalize ((hi : Nat) : Int) = y at *
  have PB := Lib.hid PB
  have wx : IntKind.u64.wrap x = x := by rw [IntKind.wrap_u64]; omega
  have wy : IntKind.u64.wrap y = y := by rw [IntKind.wrap_u64]; omega
  have wb1 : IntKind.u64.wrap (b + 1) = b + 1 := by rw [IntKind.wrap_u64]; omega
  have wa : IntKind.i64.wrap a = a := by rw [IntKind.wrap_i64]; omega
  have wb : IntKind.i64.wrap b = b := by rw [IntKind.wrap_i64]; omega
  have wb2 : IntKind.i64.wrap (b + 1) = b + 1 := by rw [IntKind.wrap_i64]; omega
  have hx0 : ¬ x < 0 := by omega
  clear hlo hlo2 hhi hhi2 ha hb ha0 hb0
  simp only [ieV, ivV]
  obtain ⟨t, ht⟩ : ∃ t, (if s < y then b + 1 else b) = t := ⟨_, rfl⟩
  rw [ht]
  by_cases hs : s < y
  · rw [if_pos hs] at ht
    subst ht
    go_enter Try.func46, Try.ntmps46
    go_wp2_with fail
    refine (HCK.out _ _ (ck1_cells _ _ _ _ (by go_simp) (by go_simp))).mono ?_
    rintro e w1 ⟨rfl, hk⟩
    obtain ⟨c0, c1, _, _⟩ := two_cells (hk.heap (((Kp.alloc No _ _).tr (Kp.alloc No _ _)).heap (at_new (n := w.heap.size) rfl) id) id)
    obtain ⟨r0, r1, z0, z1⟩ := two_cells (hk.heap ((Kp.alloc No _ _).heap (at_new (n := w.heap.size + 1) (by simp)) id) id)
    have KP := ((Kp.alloc No w _).tr ((Kp.alloc No _ _).tr (Kp.alloc No _ _))).tr hk
    go_wp2_with fail
    with_reducible refine (RB.out _).mono ?_
    rintro e w2 ⟨rfl, hw⟩
    subst hw
    go_wp2_with fail
    with_reducible refine (PB.out _).mono ?_
    rintro e w2 ⟨rfl, hw⟩
    subst hw
    go_wp2_with fail
    with_reducible refine (RA.out _).mono ?_
    rintro e w2 ⟨rfl, hw⟩
    subst hw
    go_wp2_with fail
    exact bodyPost_ret (v := .tuple #[.agg #[.int .i64 a, .int .i64 (b + 1)], .int .i64 0]) (by simp [results, Try.results46, go_sem, r0, r1]) rfl ⟨rfl, kp_set2 KP (by omega)⟩
  · rw [if_neg hs] at ht
    subst ht
    go_enter Try.func46, Try.ntmps46
    go_wp2_with fail
    refine (HCK.out _ _ (ck1_cells _ _ _ _ (by go_simp) (by go_simp))).mono ?_
    rintro e w1 ⟨rfl, hk⟩
    obtain ⟨c0, c1, _, _⟩ := two_cells (hk.heap (((Kp.alloc No _ _).tr (Kp.alloc No _ _)).heap (at_new (n := w.heap.size) rfl) id) id)
    obtain ⟨r0, r1, z0, z1⟩ := two_cells (hk.heap ((Kp.alloc No _ _).heap (at_new (n := w.heap.size + 1) (by simp)) id) id)
    have KP := ((Kp.alloc No w _).tr ((Kp.alloc No _ _).tr (Kp.alloc No _ _))).tr hk
    go_wp2_with fail
    with_reducible refine (RB.out _).mono ?_
    rintro e w2 ⟨rfl, hw⟩
    subst hw
    go_wp2_with fail
    with_reducible refine (PB.out _).mono ?_
    rintro e w2 ⟨rfl, hw⟩
    subst hw
    go_wp2_with fail
    with_reducible refine (RA.out _).mono ?_
    rintro e w2 ⟨rfl, hw⟩
    subst hw
    go_wp2_with fail
    exact bodyPost_ret (v := .tuple #[.agg #[.int .i64 a, .int .i64 b], .int .i64 0]) (by simp [results, Try.results46, go_sem, r0, r1]) rfl ⟨rfl, kp_set2 KP (by omega)⟩
end Go.Proofs.Ytamjhpdgclbfgaa
