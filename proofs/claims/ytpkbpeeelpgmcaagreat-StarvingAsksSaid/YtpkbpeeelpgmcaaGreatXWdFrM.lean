/- A made row of booleans. · Chapter 15: the document's Rising (parted from WdR). · Chapter 15: the document's asked (parted from WdA). · Chapter 15: the document's Demand (parted from WdF). -/
import Derived.Test.YtpkbpeeelpgmcaaGreatXNwRckM
import Derived.Test.YtpkbpeeelpgmcaaGreatXLibMakeM
import Derived.Test.YtpkbpeeelpgmcaaGreatXWdFM
import Derived.Test.YtpkbpeeelpgmcaaGreatXWdEM
namespace Go.Proofs.YtpkbpeeelpgmcaaGreat
open Go.RowKit Go.Kq Go.Flow

theorem infoBl : (Tryz.prog.info? 4).map (fun i => (i.zero, i.size, i.bytes)) = some (some (.bool false), 1, 1) := by kernel_rfl
theorem rep_b1 : ∀ m : Nat, (List.replicate m false).flatMap b1 = List.replicate m (Value.bool false)
  | 0 => rfl
  | m + 1 => by rw [List.replicate_succ, List.flatMap_cons, rep_b1 m]; rfl
theorem make_bools (m : Nat) (hm : m ≤ 100000) (w : World) : (Instr.makeSlice 74 (.int .i64 (m : Nat)) (.int .i64 (m : Nat))).run Tryz.prog w = .ok (.slice (some ⟨w.heap.size, 0, none⟩) m m) (w.alloc (.cells ((List.replicate m (Value.bool false)).toArray) 4)) := by
  obtain ⟨i0, hi, hz0, hz1, hz2⟩ := info_parts infoBl
  have := run_make_flat w b1 false _ _ i0 _ 1 1 m Tryz.underlying74 hi hz0 hz1 hz2 (by decide) rfl rfl (by omega) (by omega)
  rw [this, rep_b1]
end Go.Proofs.YtpkbpeeelpgmcaaGreat

namespace Go.Proofs.YtpkbpeeelpgmcaaGreat
open Go.RowKit Go.Kq Go.Flow

set_option maxHeartbeats 8000000 in
set_option maxRecDepth 100000 in
theorem rRising_any (A : Option Addr) (n c many : Nat) (l : List Int) (w : World) (hR : RdI .i64 w A n l) (hn : n ≤ 9223372036854775807) :
    Calls Tryz.prog 46 #[.slice A n c, .int .i64 (many : Nat)] w fun e w' => e = .returned (.bool (risB many l)) ∧ ∃ q, w' = w.drewN q := by
  have HR := Lib.hid hR
  have HL := Lib.hid hR.1
  have HB := Lib.hid (fun k (h : k < l.length) => ris_bad (many := many) h)
  clear hR
  go_enter Tryz.func46, Tryz.ntmps46
  go_wp2_with fail
  go_loopw [5] (fun i wr => ∃ k : Nat, k ≤ n ∧ i = .int .i64 (k : Nat) ∧ (List.range k).all (risG many l) = true ∧ ∃ q, wr = w.drewN q) (fun i _ => n - (intOf i).toNat)
  case atStart => exact ⟨0, by omega, rfl, rfl, 0, rfl⟩
  case round =>
    obtain ⟨k, hk, rfl, hno, q, hq⟩ := hrel
    have HN := Lib.hid hno
    have HQ := Lib.hid hq
    have hkp : Kp No w wr := by rw [hq]; exact Kp.drewN _ _ _
    clear hno hq
    by_cases hlt : k < n
    · obtain ⟨x, hx⟩ : ∃ x, l[k]? = some x := ⟨_, List.getElem?_eq_getElem (by rw [HL.out]; exact hlt)⟩
      obtain ⟨b, o, rfl, hb, hc⟩ := (HR.out.no hkp).2 k x hx
      have HT := Lib.hid (ris_succ many l k)
      have HGE := Lib.hid (show risG many l k = (decide (0 ≤ x) && decide (x < many) && (decide (k = 0) || decide (l.getD (k - 1) 0 < x))) by unfold risG; rw [List.getD_eq_getElem?_getD (l := l) (i := k), hx]; rfl)
      have HBB := Lib.hid (HB.out k (by rw [HL.out]; exact hlt))
      clear hx
      by_cases h1 : x < 0
      · have d1 : decide (x < 0) = true := by simp [h1]
        have HEE := Lib.hid (show risB many l = false from HBB.out (by rw [HGE.out]; simp; omega))
        clear hkp h1
        go_wp2_with fail
        go_quiet (fail)
        go_wp2_with fail
        go_ret
        exact ⟨ret_bool HEE.out.symm, q + nq, by rw [HQ.out, World.drewN_drewN]⟩
      · have d1 : decide (x < 0) = false := by simp; omega
        by_cases h2 : (many : Int) ≤ x
        · have d2 : decide ((many : Int) ≤ x) = true := by simp [h2]
          have HEE := Lib.hid (show risB many l = false from HBB.out (by rw [HGE.out]; simp; omega))
          clear hkp h1 h2
          go_wp2_with fail
          go_quiet (fail)
          go_wp2_with fail
          go_ret
          exact ⟨ret_bool HEE.out.symm, q + nq, by rw [HQ.out, World.drewN_drewN]⟩
        · have d2 : decide ((many : Int) ≤ x) = false := by simp; omega
          by_cases h0 : 0 < k
          rotate_left
          · have HG := Lib.hid (show risG many l k = true by rw [HGE.out]; simp; omega)
            have d0 : decide ((0 : Int) < (k : Int)) = false := by simp; omega
            clear hkp h1 h2
            go_wp2_with fail
            go_quiet (fail)
            go_wp2_with fail
            go_roundw
            case rel => exact ⟨k + 1, by omega, by go_num, by rw [HT.out, HN.out, HG.out]; rfl, q + nq, by rw [HQ.out, World.drewN_drewN]⟩
            case measure => simp [intOf]; omega
          · obtain ⟨y, hy⟩ : ∃ y, l[k - 1]? = some y := ⟨_, List.getElem?_eq_getElem (by rw [HL.out]; omega)⟩
            obtain ⟨b', o', e', _, hc'⟩ := (HR.out.no hkp).2 (k - 1) y hy
            injection e' with e'
            injection e' with e1 e2
            subst e1 e2
            have HY := Lib.hid (show l.getD (k - 1) 0 = y by rw [List.getD_eq_getElem?_getD, hy]; rfl)
            obtain ⟨j, hjk⟩ : ∃ j, j = k - 1 := ⟨k - 1, rfl⟩
            rw [← hjk] at hc' HY HGE
            have hw : IntKind.i64.wrap ((k : Int) - 1) = (j : Int) := by rw [IntKind.wrap_i64]; omega
            have hj : (k : Int) - 1 = (j : Int) := by omega
            have hjn : j < n := by omega
            clear hjk
            clear hy hkp
            have d0 : decide ((0 : Int) < (k : Int)) = true := by simp; omega
            by_cases h3 : x ≤ y
            · have d3 : decide (x ≤ y) = true := by simp [h3]
              have HEE := Lib.hid (show risB many l = false from HBB.out (by rw [HGE.out, HY.out]; simp; omega))
              clear h1 h2 h3
              go_wp2_with fail
              go_quiet (fail)
              go_wp2_with fail
              go_ret
              exact ⟨ret_bool HEE.out.symm, q + nq, by rw [HQ.out, World.drewN_drewN]⟩
            · have d3 : decide (x ≤ y) = false := by simp; omega
              have HG := Lib.hid (show risG many l k = true by rw [HGE.out, HY.out]; simp; omega)
              clear h1 h2 h3
              go_wp2_with fail
              go_quiet (fail)
              go_wp2_with fail
              go_roundw
              case rel => exact ⟨k + 1, by omega, by go_num, by rw [HT.out, HN.out, HG.out]; rfl, q + nq, by rw [HQ.out, World.drewN_drewN]⟩
              case measure => simp [intOf]; omega
    · obtain rfl : k = n := by omega
      have HEE := Lib.hid (show risB many l = true by rw [ris_is, HL.out]; exact HN.out)
      clear hkp
      go_wp2_with fail
      go_ret
      exact ⟨ret_bool HEE.out.symm, q, HQ.out⟩
end Go.Proofs.YtpkbpeeelpgmcaaGreat

namespace Go.Proofs.YtpkbpeeelpgmcaaGreat
open Go.RowKit Go.Kq Go.Flow

set_option maxHeartbeats 8000000 in
set_option maxRecDepth 100000 in
theorem rAsked_any (Z : Nz) (l : List Sto) (vs : List Sv) (A B C P Q : Option Addr) (ca cb n cc p cp q cq : Nat) (S K : List Int) (w : World) (hR : RdNz w A B Z) (hS : RdSt w C n vs l) (hP : RdI .i64 w P p S) (hQ : RdI .i64 w Q q K) (hp : p ≤ 9223372036854775807) (hq : q ≤ 9223372036854775807) :
    Calls Tryz.prog 22 #[windV Z A B C ca cb n cc, comboV P p cp Q q cq] w fun e w' => ∃ c, e = .returned (.int .i64 c) ∧ AskW Z l S K c ∧ Kp No w w' := by
  unfold comboV
  obtain ⟨g, hg⟩ : ∃ g, g = w.heap.size := ⟨_, rfl⟩
  obtain ⟨w0, hw0⟩ : ∃ w0, (w.alloc (.cells #[.int .i64 Z.n, .slice A Z.tr.length ca, .slice B Z.ch.length cb, .slice C n cc] 28)).alloc (.cells #[.slice P p cp, .slice Q q cq] 30) = w0 := ⟨_, rfl⟩
  have hk0 : Kp No w w0 := by rw [← hw0]; exact (Kp.alloc _ _ _).tr (Kp.alloc _ _ _)
  have HBX := Lib.hid (show w0.heap[g]? = some (.cells #[.int .i64 Z.n, .slice A Z.tr.length ca, .slice B Z.ch.length cb, .slice C n cc] 28 (0, 0)) by rw [← hw0, hg]; exact (Kp.alloc No _ _).heap (heap_alloc_new w _) id)
  have HBC := Lib.hid (show w0.heap[g + 1]? = some (.cells #[.slice P p cp, .slice Q q cq] 30 (0, 0)) by
    rw [← hw0, hg]
    have := heap_alloc_new (w.alloc (.cells #[.int .i64 Z.n, .slice A Z.tr.length ca, .slice B Z.ch.length cb, .slice C n cc] 28)) (.cells #[.slice P p cp, .slice Q q cq] 30)
    simpa using this)
  have CK := rWcheck_any Z l vs A B C ca cb n cc w0 (hR.no hk0) (hS.no hk0)
  unfold windV at CK ⊢
  replace CK := Lib.hid CK
  have HK := Lib.hid hk0
  have HS := Lib.hid (hS.no hk0)
  have HL := Lib.hid hS.len
  have HP := Lib.hid (hP.no hk0)
  have HQ := Lib.hid (hQ.no hk0)
  clear hk0 hR hS hP hQ
  obtain ⟨p0, p1, p2, p3⟩ := four_at HBX.out
  obtain ⟨q0, q1, _, _⟩ := cell_head HBC.out
  subst hg
  go_enter Tryz.func22, Tryz.ntmps22
  go_wp2_with fail
  with_reducible refine CK.out.mono ?_
  rintro e w1 ⟨c0, rfl, hc0, k1⟩
  have K1 := Lib.hid (HK.out.tr k1)
  have S1 := Lib.hid (HS.out.no k1)
  have B1 := Lib.hid (k1.heap HBX.out id)
  have C1 := Lib.hid (k1.heap HBC.out id)
  have HC := Lib.hid hc0
  have R1 := Lib.hid (fun W (k : Kp No w1 W) => rRising_any P p cp n S W ((HP.out.no k1).no k) hp)
  have R2 := fun KK W (k : Kp No w1 W) => rRising_any Q q cq KK K W ((HQ.out.no k1).no k) hq
  have KD := Lib.hid (fun z => Kp.drewN No w1 z)
  clear k1 CK p0 p1 p2 p3 q0 q1 hc0 hp hq
  obtain ⟨p0, p1, p2, p3⟩ := four_at B1.out
  obtain ⟨q0, q1, _, _⟩ := cell_head C1.out
  by_cases hc : c0 = 0
  rotate_left
  · have d1 : (c0 != 0) = true := by rw [bne_iff_ne]; exact hc
    have d2 : (c0 == 0) = false := by rw [beq_eq_false_iff_ne]; exact hc
    have HZ := Lib.hid hc
    clear hc
    go_wp2_with fail
    go_quiet (fail)
    go_wp2_with fail
    go_ret
    exact ⟨c0, rfl, .inl ⟨HC.out, HZ.out⟩, K1.out.tr (Kp.drewN _ _ _)⟩
  subst hc
  have OK := Lib.hid (fun c (h : c = if risB l.length S && risB (keysN l) K then 0 else 2) => show AskW Z l S K c from .inr ⟨HC.out, h⟩)
  rw [HL.out] at OK
  have hok : StoOk Z.ch.length l := by
    rcases HC.out with ⟨_, h⟩ | ⟨_, h⟩
    · exact absurd rfl h
    · exact stE_ok h.symm
  have hl1 := hok.l1
  rw [HL.out] at hl1
  obtain ⟨s0, hs0⟩ : ∃ s, l[0]? = some s := ⟨_, List.getElem?_eq_getElem (by rw [HL.out]; omega)⟩
  obtain ⟨v0, b, o, hv0, rfl, hb, x0, x1, is0⟩ := S1.out.at_ hs0
  have HK0 := Lib.hid (show keysN l = v0.n by unfold keysN; rw [List.getD_eq_getElem?_getD, hs0]; exact is0.2.1.symm)
  rw [Nat.zero_mul, Nat.add_zero] at x0 x1
  obtain ⟨ch0, A0, KK, c0⟩ := v0
  dsimp only at x0 x1 HK0
  rw [HK0.out] at OK
  replace R2 := Lib.hid (R2 KK)
  clear is0 hs0 hv0 hok
  cases hr1 : risB n S
  · rw [hr1] at R1 OK
    have HO := Lib.hid (OK.out 2 rfl)
    clear hr1 R2 OK
    go_wp2_with fail
    go_quiet ((go_at_call 46; with_reducible exact Calls.quiet_of (R1.out _ (KD.out _))))
    go_wp2_with fail
    go_ret
    exact ⟨2, rfl, HO.out, K1.out.tr (Kp.drewN _ _ _)⟩
  · rw [hr1] at R1 OK
    clear hr1
    cases hr2 : risB KK K
    · rw [hr2] at R2 OK
      have HO := Lib.hid (OK.out 2 rfl)
      clear hr2 OK
      go_wp2_with fail
      go_quiet ((first | (go_at_call 46; with_reducible exact Calls.quiet_of (R1.out _ (KD.out _))) | (go_at_call 46; with_reducible exact Calls.quiet_of (R2.out _ (KD.out _)))))
      go_wp2_with fail
      go_ret
      exact ⟨2, rfl, HO.out, K1.out.tr (Kp.drewN _ _ _)⟩
    · rw [hr2] at R2 OK
      have HO := Lib.hid (OK.out 0 rfl)
      clear hr2 OK
      go_wp2_with fail
      go_quiet ((first | (go_at_call 46; with_reducible exact Calls.quiet_of (R1.out _ (KD.out _))) | (go_at_call 46; with_reducible exact Calls.quiet_of (R2.out _ (KD.out _)))))
      go_wp2_with fail
      go_ret
      exact ⟨0, rfl, HO.out, K1.out.tr (Kp.drewN _ _ _)⟩
end Go.Proofs.YtpkbpeeelpgmcaaGreat

namespace Go.Proofs.YtpkbpeeelpgmcaaGreat
open Go.RowKit Go.Kq Go.Flow

theorem rAsked_is (Z : Nz) (l : List Sto) (vs : List Sv) (A B C P Q : Option Addr) (ca cb n cc p cp q cq : Nat) (S K : List Int) (c : Int) (w : World) (hR : RdNz w A B Z) (hS : RdSt w C n vs l) (hP : RdI .i64 w P p S) (hQ : RdI .i64 w Q q K) (hp : p ≤ 9223372036854775807) (hq : q ≤ 9223372036854775807) (hc : AskW Z l S K c) :
    Calls Tryz.prog 22 #[windV Z A B C ca cb n cc, comboV P p cp Q q cq] w fun e w' => e = .returned (.int .i64 c) ∧ Kp No w w' := by
  refine (rAsked_any Z l vs A B C P Q ca cb n cc p cp q cq S K w hR hS hP hQ hp hq).mono ?_
  rintro e w' ⟨d, rfl, hd, k⟩
  rw [hd.uniq hc]
  exact ⟨rfl, k⟩
set_option maxHeartbeats 4000000 in
set_option maxRecDepth 100000 in
theorem rDemand_bad (Z : Nz) (l : List Sto) (vs : List Sv) (A B C P Q : Option Addr) (ca cb n cc p cp q cq : Nat) (S K : List Int) (c : Int) (w : World) (hR : RdNz w A B Z) (hS : RdSt w C n vs l) (hP : RdI .i64 w P p S) (hQ : RdI .i64 w Q q K) (hp : p ≤ 9223372036854775807) (hq : q ≤ 9223372036854775807) (hc : AskW Z l S K c) (hz : c ≠ 0) :
    Calls Tryz.prog 8 #[windV Z A B C ca cb n cc, comboV P p cp Q q cq] w fun e w' => e = .returned (.tuple #[.slice none 0 0, .int .i64 c]) ∧ Kp No w w' := by
  obtain ⟨g, hg⟩ : ∃ g, g = w.heap.size := ⟨_, rfl⟩
  obtain ⟨w0, hw0⟩ : ∃ w0, (w.alloc (.cells #[.int .i64 Z.n, .slice A Z.tr.length ca, .slice B Z.ch.length cb, .slice C n cc] 28)).alloc (.cells #[.slice P p cp, .slice Q q cq] 30) = w0 := ⟨_, rfl⟩
  have hk0 : Kp No w w0 := by rw [← hw0]; exact (Kp.alloc _ _ _).tr (Kp.alloc _ _ _)
  have HBX := Lib.hid (show w0.heap[g]? = some (.cells #[.int .i64 Z.n, .slice A Z.tr.length ca, .slice B Z.ch.length cb, .slice C n cc] 28 (0, 0)) by rw [← hw0, hg]; exact (Kp.alloc No _ _).heap (heap_alloc_new w _) id)
  have HBC := Lib.hid (show w0.heap[g + 1]? = some (.cells #[.slice P p cp, .slice Q q cq] 30 (0, 0)) by
    rw [← hw0, hg]
    have := heap_alloc_new (w.alloc (.cells #[.int .i64 Z.n, .slice A Z.tr.length ca, .slice B Z.ch.length cb, .slice C n cc] 28)) (.cells #[.slice P p cp, .slice Q q cq] 30)
    simpa using this)
  have HK := Lib.hid hk0
  have AK := rAsked_is Z l vs A B C P Q ca cb n cc p cp q cq S K c w0 (hR.no hk0) (hS.no hk0) (hP.no hk0) (hQ.no hk0) hp hq hc
  unfold windV comboV at AK ⊢
  replace AK := Lib.hid AK
  clear hk0 hR hS hP hQ hc
  obtain ⟨p0, p1, p2, p3⟩ := four_at HBX.out
  obtain ⟨q0, q1, _, _⟩ := cell_head HBC.out
  subst hg
  have d1 : (c != 0) = true := by rw [bne_iff_ne]; exact hz
  clear hz
  go_enter Tryz.func8, Tryz.ntmps8
  go_wp2_with fail
  with_reducible refine AK.out.mono ?_
  rintro e w1 ⟨rfl, k1⟩
  go_wp2_with fail
  exact bodyPost_ret (v := .tuple #[.slice none 0 0, .int .i64 c]) (by simp [results, Tryz.results8, go_sem]) rfl ⟨rfl, HK.out.tr k1⟩
set_option maxHeartbeats 4000000 in
set_option maxRecDepth 100000 in
theorem rDemand_ok (Z : Nz) (l : List Sto) (vs : List Sv) (A B C P Q : Option Addr) (ca cb n cc p cp q cq : Nat) (ss ks : List Nat) (w : World) (hR : RdNz w A B Z) (hS : RdSt w C n vs l) (hP : RdI .i64 w P p (ss.map Int.ofNat)) (hQ : RdI .i64 w Q q (ks.map Int.ofNat)) (hc : AskW Z l (ss.map Int.ofNat) (ks.map Int.ofNat) 0) (hn : Z.ch.length ≤ 1000) :
    Calls Tryz.prog 8 #[windV Z A B C ca cb n cc, comboV P p cp Q q cq] w fun e w' => ∃ G, e = .returned (.tuple #[.slice (some ⟨G, 0, none⟩) Z.ch.length Z.ch.length, .int .i64 0]) ∧ w'.ownsRow w.heap.size 2 1 (.slice (some ⟨G, 0, none⟩) Z.ch.length Z.ch.length) Z.ch.length ((dmd Z.ch.length l ss ks).map (Value.int .i64)) ∧ Kp No w w' := by
  obtain ⟨g, hg⟩ : ∃ g, g = w.heap.size := ⟨_, rfl⟩
  obtain ⟨w0, hw0⟩ : ∃ w0, (w.alloc (.cells #[.int .i64 Z.n, .slice A Z.tr.length ca, .slice B Z.ch.length cb, .slice C n cc] 28)).alloc (.cells #[.slice P p cp, .slice Q q cq] 30) = w0 := ⟨_, rfl⟩
  have hk0 : Kp No w w0 := by rw [← hw0]; exact (Kp.alloc _ _ _).tr (Kp.alloc _ _ _)
  have HBX := Lib.hid (show w0.heap[g]? = some (.cells #[.int .i64 Z.n, .slice A Z.tr.length ca, .slice B Z.ch.length cb, .slice C n cc] 28 (0, 0)) by rw [← hw0, hg]; exact (Kp.alloc No _ _).heap (heap_alloc_new w _) id)
  have HBC := Lib.hid (show w0.heap[g + 1]? = some (.cells #[.slice P p cp, .slice Q q cq] 30 (0, 0)) by
    rw [← hw0, hg]
    have := heap_alloc_new (w.alloc (.cells #[.int .i64 Z.n, .slice A Z.tr.length ca, .slice B Z.ch.length cb, .slice C n cc] 28)) (.cells #[.slice P p cp, .slice Q q cq] 30)
    simpa using this)
  have HK := Lib.hid hk0
  obtain ⟨hok, s1, s2, s3, k1, k2, k3⟩ := ask_ok hc
  have hpl : ss.length = p := by have := hP.1; simpa using this
  have hql : ks.length = q := by have := hQ.1; simpa using this
  have hl := hS.len
  have AK := rAsked_is Z l vs A B C P Q ca cb n cc p cp q cq _ _ 0 w0 (hR.no hk0) (hS.no hk0) (hP.no hk0) (hQ.no hk0) (by omega) (by omega) hc
  have DM := fun W (k : Kp No w0 W) => rdemand_any Z l vs A B C P Q ca cb n cc p cp q cq ss ks W hok hn ((hS.no hk0).no k) ((hP.no hk0).no k) ((hQ.no hk0).no k) (by rw [← hl]; exact s2) k2 s3 k3
  unfold windV comboV at AK DM ⊢
  unfold DmR at DM
  replace AK := Lib.hid AK
  replace DM := Lib.hid DM
  clear hk0 hR hS hP hQ hc hok s1 s2 s3 k1 k2 k3 hpl hql hl
  obtain ⟨p0, p1, p2, p3⟩ := four_at HBX.out
  obtain ⟨q0, q1, _, _⟩ := cell_head HBC.out
  subst hg
  go_enter Tryz.func8, Tryz.ntmps8
  go_wp2_with fail
  with_reducible refine AK.out.mono ?_
  rintro e w1 ⟨rfl, k1⟩
  have K1 := Lib.hid k1
  have B1 := Lib.hid (k1.heap HBX.out id)
  have C1 := Lib.hid (k1.heap HBC.out id)
  clear p0 p1 p2 p3 q0 q1 k1
  obtain ⟨p0, p1, p2, p3⟩ := four_at B1.out
  obtain ⟨q0, q1, _, _⟩ := cell_head C1.out
  go_wp2_with fail
  with_reducible refine (DM.out _ K1.out).mono ?_
  rintro e w2 ⟨G, rfl, ho, k2⟩
  have HO := Lib.hid ho
  have K2 := Lib.hid (HK.out.tr (K1.out.tr k2))
  have HZ := Lib.hid (HK.out.tr K1.out).size
  clear ho k2
  go_wp2_with fail
  exact bodyPost_ret (v := .tuple #[.slice (some ⟨G, 0, none⟩) Z.ch.length Z.ch.length, .int .i64 0]) (by simp [results, Tryz.results8, go_sem]) rfl ⟨G, rfl, own_mono HO.out HZ.out, K2.out⟩
end Go.Proofs.YtpkbpeeelpgmcaaGreat
