/- Chapter 13: law 2 (DemandSums): the walk. · Chapter 13: law 3 (DemandKeys): the walk. -/
import Derived.Test.YtlieijnhaolnhaaGreatXKypM
import Derived.Test.YtlieijnhaolnhaaGreatXAwk
import Derived.Test.YtlieijnhaolnhaaGreatXKywM
import Derived.Test.YtlieijnhaolnhaaGreatXRsk
namespace Go.Proofs.YtlieijnhaolnhaaGreat
open Go.RowKit Go.Kq

def farB (n : Nat) : Bool := decide ((60 < n ∧ n ≤ 2000) ∨ 2010 < n)
set_option maxHeartbeats 1000000 in
theorem far13_is (A : Option Addr) (n ca : Nat) (w : World) : Calls Tryz.prog 13 #[.slice A n ca] w fun e w' => e = .returned (.bool (farB n)) ∧ w = w' := by
  by_cases h1 : 2010 < n
  · rw [show farB n = true by unfold farB; exact decide_eq_true (.inr h1)]
    have g1 : (60 : Int) < (n : Int) := by omega
    have g2 : ¬ (n : Int) ≤ 2000 := by omega
    have g3 : (2010 : Int) < (n : Int) := by omega
    go_enter Tryz.func13, Tryz.ntmps13
    go_wp2_with fail
    go_ret
    exact ⟨rfl, rfl⟩
  by_cases h2 : 2000 < n
  · rw [show farB n = false by unfold farB; exact decide_eq_false (by omega)]
    have g1 : (60 : Int) < (n : Int) := by omega
    have g2 : ¬ (n : Int) ≤ 2000 := by omega
    have g3 : ¬ (2010 : Int) < (n : Int) := by omega
    go_enter Tryz.func13, Tryz.ntmps13
    go_wp2_with fail
    go_ret
    exact ⟨rfl, rfl⟩
  by_cases h3 : 60 < n
  · rw [show farB n = true by unfold farB; exact decide_eq_true (by omega)]
    have g1 : (60 : Int) < (n : Int) := by omega
    have g2 : (n : Int) ≤ 2000 := by omega
    go_enter Tryz.func13, Tryz.ntmps13
    go_wp2_with fail
    go_ret
    exact ⟨rfl, rfl⟩
  · rw [show farB n = false by unfold farB; exact decide_eq_false (by omega)]
    have g1 : ¬ (60 : Int) < (n : Int) := by omega
    have g3 : ¬ (2010 : Int) < (n : Int) := by omega
    go_enter Tryz.func13, Tryz.ntmps13
    go_wp2_with fail
    go_ret
    exact ⟨rfl, rfl⟩
set_option maxHeartbeats 2000000 in
set_option maxRecDepth 100000 in
theorem tsums_far (A P Q : Option Addr) (n ca pn cp np cq : Nat) (chest : Int) (w : World) (hf : farB n = true ∨ 20 < pn ∨ (60 < np ∧ np ≤ 2000) ∨ 2010 < np) :
    Calls Tryz.prog 4 #[.slice A n ca, .agg #[.slice P pn cp, .int .i64 chest], .slice Q np cq] w fun e w' => e = .returned (.bool true) ∧ Kp No w w' := by
  have AW := Lib.hid awake_any
  have FA := fun w0 => far13_is A n ca w0
  have KA := Lib.hid (Kp.alloc No w (.cells #[.slice P pn cp, .int .i64 chest] 35))
  have BX := Lib.hid (heap_alloc_new w (.cells #[.slice P pn cp, .int .i64 chest] 35))
  cases hfb : farB n
  · rw [hfb] at FA hf
    replace FA := Lib.hid FA
    have hf := hf.resolve_left (by decide)
    clear hfb
    by_cases h1 : 20 < pn
    · have g1 : (20 : Int) < (pn : Int) := by omega
      go_enter Tryz.func4, Tryz.ntmps4
      go_wp2_with fail
      refine (FA.out _).mono ?_
      rintro _ _ ⟨rfl, rfl⟩
      go_wp2_with fail
      refine (AW.out _).mono ?_
      rintro _ w2 ⟨rfl, k2⟩
      go_wp2_with fail
      go_ret
      exact ⟨rfl, KA.out.tr k2⟩
    · have g1 : ¬ (20 : Int) < (pn : Int) := by omega
      by_cases h2 : 2010 < np
      · have g2 : (60 : Int) < (np : Int) := by omega
        have g3 : ¬ (np : Int) ≤ 2000 := by omega
        have g4 : (2010 : Int) < (np : Int) := by omega
        go_enter Tryz.func4, Tryz.ntmps4
        go_wp2_with fail
        refine (FA.out _).mono ?_
        rintro _ _ ⟨rfl, rfl⟩
        go_wp2_with fail
        refine (AW.out _).mono ?_
        rintro _ w2 ⟨rfl, k2⟩
        go_wp2_with fail
        go_ret
        exact ⟨rfl, KA.out.tr k2⟩
      · have g2 : (60 : Int) < (np : Int) := by omega
        have g3 : (np : Int) ≤ 2000 := by omega
        go_enter Tryz.func4, Tryz.ntmps4
        go_wp2_with fail
        refine (FA.out _).mono ?_
        rintro _ _ ⟨rfl, rfl⟩
        go_wp2_with fail
        refine (AW.out _).mono ?_
        rintro _ w2 ⟨rfl, k2⟩
        go_wp2_with fail
        go_ret
        exact ⟨rfl, KA.out.tr k2⟩
  · rw [hfb] at FA
    replace FA := Lib.hid FA
    clear hfb hf
    go_enter Tryz.func4, Tryz.ntmps4
    go_wp2_with fail
    refine (FA.out _).mono ?_
    rintro _ _ ⟨rfl, rfl⟩
    go_wp2_with fail
    refine (AW.out _).mono ?_
    rintro _ w2 ⟨rfl, k2⟩
    go_wp2_with fail
    go_ret
    exact ⟨rfl, KA.out.tr k2⟩
theorem sumV_len (l : List Rw) (ps : List Int) (pipes : List Pp) : (sumV l ps pipes).length ≤ ps.length := by
  unfold sumV
  split
  · rw [addL_len]; omega
  · simp
set_option maxHeartbeats 4000000 in
set_option maxRecDepth 100000 in
theorem tsums_in (A P Q : Option Addr) (n ca pn cp np cq : Nat) (chest : Int) (l : List Rw) (ps : List Int) (pipes : List Pp) (w : World) (hx : Rd rwC 5 w A n l) (hp : RdI .i64 w P pn ps) (hq : Rd pcells 2 w Q np pipes) (hf : ¬ (farB n = true ∨ 20 < pn ∨ (60 < np ∧ np ≤ 2000) ∨ 2010 < np)) :
    Calls Tryz.prog 4 #[.slice A n ca, .agg #[.slice P pn cp, .int .i64 chest], .slice Q np cq] w fun e w' => e = .returned (.bool true) ∧ Kp No w w' := by
  have AW := Lib.hid awake_any
  have FA := fun w0 => far13_is A n ca w0
  have hfar : farB n = false := Bool.eq_false_iff.2 fun h => hf (.inl h)
  have hn : n ≤ 2010 := by
    unfold farB at hfar
    simp at hfar
    omega
  rw [hfar] at FA
  replace FA := Lib.hid FA
  have KA := Lib.hid (Kp.alloc No w (.cells #[.slice P pn cp, .int .i64 chest] 35))
  have BX := Lib.hid (heap_alloc_new w (.cells #[.slice P pn cp, .int .i64 chest] 35))
  have hpl := hp.1
  have SU := Lib.hid (fun w0 (h : Kp No w w0) => Sum_any A P Q n pn np ca cp cq l ps pipes w0 (hx.no h) (hp.no h) (hq.no h) (by omega))
  have RS := Lib.hid (fun w0 (h : Kp No w w0) => rsum_any A P Q n pn np ca cp cq l ps pipes w0 (hx.no h) (hp.no h) (hq.no h) (by omega) (by omega))
  have CK := Lib.hid (fun w0 (h : Kp No w w0) => Check_any A n ca l w0 (hx.no h))
  have CR := Lib.hid (fun w0 (h : Kp No w w0) => check13_is A n ca l w0 (hx.no h))
  have hvl := sumV_len l ps pipes
  unfold SumP at SU RS
  generalize sumE l ps pipes = E at *
  generalize sumV l ps pipes = V at *
  generalize chkE l = C at *
  have g1 : ¬ (20 : Int) < (pn : Int) := by omega
  have g4 : ¬ (2010 : Int) < (np : Int) := by omega
  clear hx hp hq hfar
  by_cases h60 : 60 < np
  · have g2 : (60 : Int) < (np : Int) := by omega
    have g3 : ¬ (np : Int) ≤ 2000 := by omega
    clear hf
    go_enter Tryz.func4, Tryz.ntmps4
    go_wp2_with fail
    refine (FA.out _).mono ?_
    rintro _ _ ⟨rfl, rfl⟩
    obtain ⟨a0, a1, _, _⟩ := two_cells BX.out
    go_wp2_with fail
    refine (SU.out _ KA.out).mono ?_
    rintro _ w2 ⟨u, rfl, hu, k2⟩
    have K2 := Lib.hid (KA.out.tr k2)
    obtain ⟨au, cu, rfl, _, _, _⟩ := own_form hu
    have HU := Lib.hid (Rd.of_own ivC_len (by omega) hu)
    have BX2 := Lib.hid (k2.heap BX.out id)
    clear hu k2 a0 a1 FA SU
    obtain ⟨a0, a1, _, _⟩ := two_cells BX2.out
    go_wp2_with fail
    refine (RS.out _ K2.out).mono ?_
    rintro _ w3 ⟨v, rfl, hv, k3⟩
    have HU3 := Lib.hid (HU.out.no k3)
    have K3 := Lib.hid (K2.out.tr k3)
    obtain ⟨av, cv, rfl, _, _, _⟩ := own_form hv
    have HV := Lib.hid (Rd.of_own ivC_len (by omega) hv)
    clear hv k3 a0 a1 RS HU BX2
    go_wp2_with fail
    refine (CK.out _ K3.out).mono ?_
    rintro _ w4 ⟨rfl, k4⟩
    have K4 := Lib.hid (K3.out.tr k4)
    have HU4 := Lib.hid (HU3.out.no k4)
    have HV4 := Lib.hid (HV.out.no k4)
    clear k4 HU3 HV CK
    go_wp2_with fail
    refine (CR.out _ K4.out).mono ?_
    rintro _ w5 ⟨rfl, k5⟩
    have K5 := Lib.hid (K4.out.tr k5)
    have SA := same_any au av _ _ cu cv _ _ w5 (HU4.out.no k5) (HV4.out.no k5) (by omega)
    rw [decide_eq_true rfl] at SA
    replace SA := Lib.hid SA
    clear k5 HU4 HV4 CR
    go_wp2_with fail
    refine SA.out.mono ?_
    rintro _ w6 ⟨rfl, k6⟩
    have K6 := Lib.hid (K5.out.tr k6)
    clear k6
    go_wp2_with fail
    refine (AW.out _).mono ?_
    rintro _ w7 ⟨rfl, k7⟩
    go_wp2_with fail
    go_ret
    exact ⟨rfl, K6.out.tr k7⟩
  · have g2 : ¬ (60 : Int) < (np : Int) := by omega
    clear hf
    go_enter Tryz.func4, Tryz.ntmps4
    go_wp2_with fail
    refine (FA.out _).mono ?_
    rintro _ _ ⟨rfl, rfl⟩
    obtain ⟨a0, a1, _, _⟩ := two_cells BX.out
    go_wp2_with fail
    refine (SU.out _ KA.out).mono ?_
    rintro _ w2 ⟨u, rfl, hu, k2⟩
    have K2 := Lib.hid (KA.out.tr k2)
    obtain ⟨au, cu, rfl, _, _, _⟩ := own_form hu
    have HU := Lib.hid (Rd.of_own ivC_len (by omega) hu)
    have BX2 := Lib.hid (k2.heap BX.out id)
    clear hu k2 a0 a1 FA SU
    obtain ⟨a0, a1, _, _⟩ := two_cells BX2.out
    go_wp2_with fail
    refine (RS.out _ K2.out).mono ?_
    rintro _ w3 ⟨v, rfl, hv, k3⟩
    have HU3 := Lib.hid (HU.out.no k3)
    have K3 := Lib.hid (K2.out.tr k3)
    obtain ⟨av, cv, rfl, _, _, _⟩ := own_form hv
    have HV := Lib.hid (Rd.of_own ivC_len (by omega) hv)
    clear hv k3 a0 a1 RS HU BX2
    go_wp2_with fail
    refine (CK.out _ K3.out).mono ?_
    rintro _ w4 ⟨rfl, k4⟩
    have K4 := Lib.hid (K3.out.tr k4)
    have HU4 := Lib.hid (HU3.out.no k4)
    have HV4 := Lib.hid (HV.out.no k4)
    clear k4 HU3 HV CK
    go_wp2_with fail
    refine (CR.out _ K4.out).mono ?_
    rintro _ w5 ⟨rfl, k5⟩
    have K5 := Lib.hid (K4.out.tr k5)
    have SA := same_any au av _ _ cu cv _ _ w5 (HU4.out.no k5) (HV4.out.no k5) (by omega)
    rw [decide_eq_true rfl] at SA
    replace SA := Lib.hid SA
    clear k5 HU4 HV4 CR
    go_wp2_with fail
    refine SA.out.mono ?_
    rintro _ w6 ⟨rfl, k6⟩
    have K6 := Lib.hid (K5.out.tr k6)
    clear k6
    go_wp2_with fail
    refine (AW.out _).mono ?_
    rintro _ w7 ⟨rfl, k7⟩
    go_wp2_with fail
    go_ret
    exact ⟨rfl, K6.out.tr k7⟩
theorem tsums_any (A P Q : Option Addr) (n ca pn cp np cq : Nat) (chest : Int) (l : List Rw) (ps : List Int) (pipes : List Pp) (w : World) (hx : Rd rwC 5 w A n l) (hp : RdI .i64 w P pn ps) (hq : Rd pcells 2 w Q np pipes) :
    Calls Tryz.prog 4 #[.slice A n ca, .agg #[.slice P pn cp, .int .i64 chest], .slice Q np cq] w fun e w' => e = .returned (.bool true) ∧ Kp No w w' := by
  by_cases hf : farB n = true ∨ 20 < pn ∨ (60 < np ∧ np ≤ 2000) ∨ 2010 < np
  · exact tsums_far A P Q n ca pn cp np cq chest w hf
  · exact tsums_in A P Q n ca pn cp np cq chest l ps pipes w hx hp hq hf
end Go.Proofs.YtlieijnhaolnhaaGreat

namespace Go.Proofs.YtlieijnhaolnhaaGreat
open Go.RowKit Go.Kq

theorem pkeys_any (A P Q : Option Addr) (n m kn ca cp cq : Nat) (chest : Int) (l : List Rw) (ps : List Int) (ks : List Ky) (w : World) (hx : Rd rwC 5 w A n l) (hp : RdI .i64 w P m ps) (hks : RdK w Q kn ks) (hm : m ≤ 1000000) :
    Calls Tryz.prog 23 #[.slice A n ca, .slice P m cp, .int .i64 chest, .slice Q kn cq] w (KeysP l ps chest ks w) := by
  by_cases h0 : opnE l ps = 0
  · by_cases hc : chest < 0 ∨ (m : Int) ≤ chest
    · exact pkeys_chest A P Q n m kn ca cp cq chest l ps ks w hx hp h0 hc
    · obtain ⟨c, rfl⟩ : ∃ c : Nat, chest = (c : Int) := ⟨chest.toNat, by omega⟩
      by_cases hk : 128 < kn
      · exact pkeys_many A P Q n m kn ca cp cq c l ps ks w hx hp hks.row.1 h0 (by omega) hk
      · exact pkeys_in A P Q n m kn ca cp cq c l ps ks w hx hp hks h0 (by omega) (by omega)
  · exact pkeys_opn A P Q n m kn ca cp cq chest l ps ks w hx hp hm h0
set_option maxHeartbeats 2000000 in
set_option maxRecDepth 100000 in
theorem tkeys_far (A P Q : Option Addr) (n ca pn cp kn cq : Nat) (chest : Int) (w : World) (hf : farB n = true ∨ 20 < pn ∨ (20 < kn ∧ kn ≤ 128) ∨ 140 < kn) :
    Calls Tryz.prog 7 #[.slice A n ca, .agg #[.slice P pn cp, .int .i64 chest], .slice Q kn cq] w fun e w' => e = .returned (.bool true) ∧ Kp No w w' := by
  have AW := Lib.hid awake_any
  have FA := fun w0 => far13_is A n ca w0
  have KA := Lib.hid (Kp.alloc No w (.cells #[.slice P pn cp, .int .i64 chest] 35))
  cases hfb : farB n
  · rw [hfb] at FA hf
    replace FA := Lib.hid FA
    have hf := hf.resolve_left (by decide)
    clear hfb
    by_cases h1 : 20 < pn
    · have g1 : (20 : Int) < (pn : Int) := by omega
      go_enter Tryz.func7, Tryz.ntmps7
      go_wp2_with fail
      refine (FA.out _).mono ?_
      rintro _ _ ⟨rfl, rfl⟩
      go_wp2_with fail
      refine (AW.out _).mono ?_
      rintro _ w2 ⟨rfl, k2⟩
      go_wp2_with fail
      go_ret
      exact ⟨rfl, KA.out.tr k2⟩
    · have g1 : ¬ (20 : Int) < (pn : Int) := by omega
      have g2 : (20 : Int) < (kn : Int) := by omega
      by_cases h2 : 140 < kn
      · have g3 : ¬ (kn : Int) ≤ 128 := by omega
        have g4 : (140 : Int) < (kn : Int) := by omega
        go_enter Tryz.func7, Tryz.ntmps7
        go_wp2_with fail
        refine (FA.out _).mono ?_
        rintro _ _ ⟨rfl, rfl⟩
        go_wp2_with fail
        refine (AW.out _).mono ?_
        rintro _ w2 ⟨rfl, k2⟩
        go_wp2_with fail
        go_ret
        exact ⟨rfl, KA.out.tr k2⟩
      · have g3 : (kn : Int) ≤ 128 := by omega
        go_enter Tryz.func7, Tryz.ntmps7
        go_wp2_with fail
        refine (FA.out _).mono ?_
        rintro _ _ ⟨rfl, rfl⟩
        go_wp2_with fail
        refine (AW.out _).mono ?_
        rintro _ w2 ⟨rfl, k2⟩
        go_wp2_with fail
        go_ret
        exact ⟨rfl, KA.out.tr k2⟩
  · rw [hfb] at FA
    replace FA := Lib.hid FA
    clear hfb hf
    go_enter Tryz.func7, Tryz.ntmps7
    go_wp2_with fail
    refine (FA.out _).mono ?_
    rintro _ _ ⟨rfl, rfl⟩
    go_wp2_with fail
    refine (AW.out _).mono ?_
    rintro _ w2 ⟨rfl, k2⟩
    go_wp2_with fail
    go_ret
    exact ⟨rfl, KA.out.tr k2⟩
set_option maxHeartbeats 4000000 in
set_option maxRecDepth 100000 in
theorem tkeys_in (A P Q : Option Addr) (n ca pn cp kn cq : Nat) (chest : Int) (l : List Rw) (ps : List Int) (ks : List Ky) (w : World) (hx : Rd rwC 5 w A n l) (hp : RdI .i64 w P pn ps) (hks : RdK w Q kn ks) (hf : ¬ (farB n = true ∨ 20 < pn ∨ (20 < kn ∧ kn ≤ 128) ∨ 140 < kn)) :
    Calls Tryz.prog 7 #[.slice A n ca, .agg #[.slice P pn cp, .int .i64 chest], .slice Q kn cq] w fun e w' => e = .returned (.bool true) ∧ Kp No w w' := by
  have AW := Lib.hid awake_any
  have FA := fun w0 => far13_is A n ca w0
  have hfar : farB n = false := Bool.eq_false_iff.2 fun h => hf (.inl h)
  have hn : n ≤ 2010 := by
    unfold farB at hfar
    simp at hfar
    omega
  rw [hfar] at FA
  replace FA := Lib.hid FA
  have KA := Lib.hid (Kp.alloc No w (.cells #[.slice P pn cp, .int .i64 chest] 35))
  have BX := Lib.hid (heap_alloc_new w (.cells #[.slice P pn cp, .int .i64 chest] 35))
  have HKL := Lib.hid hks.row.1
  have HK := Lib.hid hks
  have PK := Lib.hid (fun w0 (h : Kp No w w0) => pkeys_any A P Q n pn kn ca cp cq chest l ps ks w0 (hx.no h) (hp.no h) (hks.no h) (by omega))
  have RK := Lib.hid (fun w0 (h : Kp No w w0) => rkeys_any A P Q n pn kn ca cp cq chest l ps ks w0 (hx.no h) (hp.no h) (hks.no h) (by omega) (by omega))
  have hvl := keysV_len l ps chest ks
  rw [HKL.out] at hvl
  unfold KeysP at PK RK
  generalize keysE l ps chest ks = E at *
  generalize keysV l ps chest ks = V at *
  have g1 : ¬ (20 : Int) < (pn : Int) := by omega
  have g4 : ¬ (140 : Int) < (kn : Int) := by omega
  clear hx hp hks hfar
  by_cases h20 : 20 < kn
  · have g2 : (20 : Int) < (kn : Int) := by omega
    have g3 : ¬ (kn : Int) ≤ 128 := by omega
    clear hf
    go_enter Tryz.func7, Tryz.ntmps7
    go_wp2_with fail
    refine (FA.out _).mono ?_
    rintro _ _ ⟨rfl, rfl⟩
    go_wp2_with fail
    generalize w.alloc (.cells #[.slice P pn cp, .int .i64 chest] 35) = wa at *
    go_loopw [7] (fun i wr => ∃ k : Nat, k ≤ kn ∧ i = .int .i64 k ∧ Kp No wa wr) (fun i _ => kn - (intOf i).toNat)
    case atStart => exact ⟨0, by omega, rfl, Kp.refl _ _⟩
    case round =>
      obtain ⟨k, hk, rfl, hkp⟩ := hrel
      have KX := Lib.hid hkp
      have KR := Lib.hid (KA.out.tr hkp)
      have BR := Lib.hid (hkp.heap BX.out id)
      clear hkp
      by_cases hlt : k < kn
      · obtain ⟨y, hyk⟩ : ∃ x, ks[k]? = some x := ⟨_, List.getElem?_eq_getElem (by have := HKL.out; omega)⟩
        obtain ⟨b, o, rfl, hbb, hcy⟩ := HK.out.row.2 k y hyk
        have c0 := KR.out.cell (hcy 0 _ rfl) id
        simp only [Nat.add_zero, Nat.mul_one] at c0
        have hk0 : (0 : Int) ≤ (k : Int) := by omega
        have hkn : (k : Int) < (kn : Int) := by omega
        clear hyk hcy
        by_cases l1 : 210 < y.n
        · have d1 : (20 : Int) < (y.n : Int) := by omega
          have d2 : ¬ (y.n : Int) ≤ 200 := by omega
          have d3 : (210 : Int) < (y.n : Int) := by omega
          go_wp2_with fail
          refine (AW.out _).mono ?_
          rintro _ w2 ⟨rfl, k2⟩
          go_wp2_with fail
          go_ret
          exact ⟨rfl, KR.out.tr k2⟩
        · have d3 : ¬ (210 : Int) < (y.n : Int) := by omega
          by_cases l2 : 20 < y.n
          · have d1 : (20 : Int) < (y.n : Int) := by omega
            by_cases l3 : y.n ≤ 200
            · have d2 : (y.n : Int) ≤ 200 := by omega
              go_wp2_with fail
              refine (AW.out _).mono ?_
              rintro _ w2 ⟨rfl, k2⟩
              go_wp2_with fail
              go_ret
              exact ⟨rfl, KR.out.tr k2⟩
            · have d2 : ¬ (y.n : Int) ≤ 200 := by omega
              go_wp2_with fail
              go_round
              case rel => exact ⟨k + 1, by omega, by go_num, KX.out⟩
              case measure => simp [intOf] <;> omega
          · have d1 : ¬ (20 : Int) < (y.n : Int) := by omega
            go_wp2_with fail
            go_round
            case rel => exact ⟨k + 1, by omega, by go_num, KX.out⟩
            case measure => simp [intOf] <;> omega
      · obtain rfl : kn = k := by omega
        obtain ⟨a0, a1, _, _⟩ := two_cells BR.out
        go_wp2_with fail
        refine (PK.out _ KR.out).mono ?_
        rintro _ w2 ⟨u, rfl, hu, k2⟩
        have K2 := Lib.hid (KR.out.tr k2)
        obtain ⟨au, cu, rfl, _, _, _⟩ := own_form hu
        have HU := Lib.hid (Rd.of_own ivC_len (by omega) hu)
        have B2 := Lib.hid (k2.heap BR.out id)
        clear hu k2 a0 a1
        obtain ⟨a0, a1, _, _⟩ := two_cells B2.out
        go_wp2_with fail
        refine (RK.out _ K2.out).mono ?_
        rintro _ w3 ⟨v, rfl, hv, k3⟩
        have HU3 := Lib.hid (HU.out.no k3)
        have K3 := Lib.hid (K2.out.tr k3)
        obtain ⟨av, cv, rfl, _, _, _⟩ := own_form hv
        have HV := Lib.hid (Rd.of_own ivC_len (by omega) hv)
        have SA := same_any au av _ _ cu cv _ _ w3 HU3.out HV.out (by omega)
        rw [decide_eq_true rfl] at SA
        replace SA := Lib.hid SA
        clear hv k3 a0 a1 HU HU3 HV
        go_wp2_with fail
        refine SA.out.mono ?_
        rintro _ w6 ⟨rfl, k6⟩
        have K6 := Lib.hid (K3.out.tr k6)
        clear k6
        go_wp2_with fail
        refine (AW.out _).mono ?_
        rintro _ w7 ⟨rfl, k7⟩
        go_wp2_with fail
        go_ret
        exact ⟨rfl, K6.out.tr k7⟩
  · have g2 : ¬ (20 : Int) < (kn : Int) := by omega
    clear hf
    go_enter Tryz.func7, Tryz.ntmps7
    go_wp2_with fail
    refine (FA.out _).mono ?_
    rintro _ _ ⟨rfl, rfl⟩
    go_wp2_with fail
    generalize w.alloc (.cells #[.slice P pn cp, .int .i64 chest] 35) = wa at *
    go_loopw [7] (fun i wr => ∃ k : Nat, k ≤ kn ∧ i = .int .i64 k ∧ Kp No wa wr) (fun i _ => kn - (intOf i).toNat)
    case atStart => exact ⟨0, by omega, rfl, Kp.refl _ _⟩
    case round =>
      obtain ⟨k, hk, rfl, hkp⟩ := hrel
      have KX := Lib.hid hkp
      have KR := Lib.hid (KA.out.tr hkp)
      have BR := Lib.hid (hkp.heap BX.out id)
      clear hkp
      by_cases hlt : k < kn
      · obtain ⟨y, hyk⟩ : ∃ x, ks[k]? = some x := ⟨_, List.getElem?_eq_getElem (by have := HKL.out; omega)⟩
        obtain ⟨b, o, rfl, hbb, hcy⟩ := HK.out.row.2 k y hyk
        have c0 := KR.out.cell (hcy 0 _ rfl) id
        simp only [Nat.add_zero, Nat.mul_one] at c0
        have hk0 : (0 : Int) ≤ (k : Int) := by omega
        have hkn : (k : Int) < (kn : Int) := by omega
        clear hyk hcy
        by_cases l1 : 210 < y.n
        · have d1 : (20 : Int) < (y.n : Int) := by omega
          have d2 : ¬ (y.n : Int) ≤ 200 := by omega
          have d3 : (210 : Int) < (y.n : Int) := by omega
          go_wp2_with fail
          refine (AW.out _).mono ?_
          rintro _ w2 ⟨rfl, k2⟩
          go_wp2_with fail
          go_ret
          exact ⟨rfl, KR.out.tr k2⟩
        · have d3 : ¬ (210 : Int) < (y.n : Int) := by omega
          by_cases l2 : 20 < y.n
          · have d1 : (20 : Int) < (y.n : Int) := by omega
            by_cases l3 : y.n ≤ 200
            · have d2 : (y.n : Int) ≤ 200 := by omega
              go_wp2_with fail
              refine (AW.out _).mono ?_
              rintro _ w2 ⟨rfl, k2⟩
              go_wp2_with fail
              go_ret
              exact ⟨rfl, KR.out.tr k2⟩
            · have d2 : ¬ (y.n : Int) ≤ 200 := by omega
              go_wp2_with fail
              go_round
              case rel => exact ⟨k + 1, by omega, by go_num, KX.out⟩
              case measure => simp [intOf] <;> omega
          · have d1 : ¬ (20 : Int) < (y.n : Int) := by omega
            go_wp2_with fail
            go_round
            case rel => exact ⟨k + 1, by omega, by go_num, KX.out⟩
            case measure => simp [intOf] <;> omega
      · obtain rfl : kn = k := by omega
        obtain ⟨a0, a1, _, _⟩ := two_cells BR.out
        go_wp2_with fail
        refine (PK.out _ KR.out).mono ?_
        rintro _ w2 ⟨u, rfl, hu, k2⟩
        have K2 := Lib.hid (KR.out.tr k2)
        obtain ⟨au, cu, rfl, _, _, _⟩ := own_form hu
        have HU := Lib.hid (Rd.of_own ivC_len (by omega) hu)
        have B2 := Lib.hid (k2.heap BR.out id)
        clear hu k2 a0 a1
        obtain ⟨a0, a1, _, _⟩ := two_cells B2.out
        go_wp2_with fail
        refine (RK.out _ K2.out).mono ?_
        rintro _ w3 ⟨v, rfl, hv, k3⟩
        have HU3 := Lib.hid (HU.out.no k3)
        have K3 := Lib.hid (K2.out.tr k3)
        obtain ⟨av, cv, rfl, _, _, _⟩ := own_form hv
        have HV := Lib.hid (Rd.of_own ivC_len (by omega) hv)
        have SA := same_any au av _ _ cu cv _ _ w3 HU3.out HV.out (by omega)
        rw [decide_eq_true rfl] at SA
        replace SA := Lib.hid SA
        clear hv k3 a0 a1 HU HU3 HV
        go_wp2_with fail
        refine SA.out.mono ?_
        rintro _ w6 ⟨rfl, k6⟩
        have K6 := Lib.hid (K3.out.tr k6)
        clear k6
        go_wp2_with fail
        refine (AW.out _).mono ?_
        rintro _ w7 ⟨rfl, k7⟩
        go_wp2_with fail
        go_ret
        exact ⟨rfl, K6.out.tr k7⟩
theorem tkeys_any (A P Q : Option Addr) (n ca pn cp kn cq : Nat) (chest : Int) (l : List Rw) (ps : List Int) (ks : List Ky) (w : World) (hx : Rd rwC 5 w A n l) (hp : RdI .i64 w P pn ps) (hks : RdK w Q kn ks) :
    Calls Tryz.prog 7 #[.slice A n ca, .agg #[.slice P pn cp, .int .i64 chest], .slice Q kn cq] w fun e w' => e = .returned (.bool true) ∧ Kp No w w' := by
  by_cases hf : farB n = true ∨ 20 < pn ∨ (20 < kn ∧ kn ≤ 128) ∨ 140 < kn
  · exact tkeys_far A P Q n ca pn cp kn cq chest w hf
  · exact tkeys_in A P Q n ca pn cp kn cq chest l ps ks w hx hp hks hf
end Go.Proofs.YtlieijnhaolnhaaGreat
