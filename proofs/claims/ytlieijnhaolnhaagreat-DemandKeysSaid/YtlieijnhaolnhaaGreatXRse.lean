/- Chapter 13: the reference's at: the walk. Printed by gen_rse.py. -/
import Derived.Test.YtlieijnhaolnhaaGreatXRscM
namespace Go.Proofs.YtlieijnhaolnhaaGreat
open Go.RowKit Go.Kq

set_option maxHeartbeats 4000000 in
set_option maxRecDepth 100000 in
theorem at13_bad (A P : Option Addr) (n m ca cp : Nat) (l : List Rw) (ps : List Int) (w : World) (hx : Rd rwC 5 w A n l) (hp : RdI .i64 w P m ps) (hm : m ≤ 1000000) (hc : chkE l ≠ 0) :
    Calls Tryz.prog 42 #[.slice A n ca, .slice P m cp] w fun e w' => e = .returned (.int .i64 (opnE l ps)) ∧ Kp No w w' := by
  have HPL := Lib.hid hp.1
  have hl := hx.1
  have HX := Lib.hid hx
  have HP := Lib.hid hp
  have CK := check13_is A n ca l w hx
  have HE := Lib.hid (show opnE l ps = chkE l by unfold opnE; rw [if_neg hc])
  have he : (chkE l == 0) = false := beq_eq_false_iff_ne.2 hc
  generalize chkE l = E at *
  replace CK := Lib.hid CK
  clear hx hp
  go_enter Tryz.func42, Tryz.ntmps42
  go_wp2_with fail
  refine CK.out.mono ?_
  rintro _ w1 ⟨rfl, k1⟩
  have K1 := Lib.hid k1
  clear k1 CK
  go_wp2_with fail
  go_loopw [5, 6] (fun e i wr => e = .int .i64 E ∧ i = .int .i64 0 ∧ Kp No w wr) (fun _ _ _ => 0)
  case atStart => exact ⟨rfl, rfl, K1.out⟩
  case round =>
    obtain ⟨rfl, rfl, hkp⟩ := hrel
    have KG := Lib.hid hkp
    clear hkp
    rcases Nat.eq_zero_or_pos m with hm0 | hm0
    · have hm1 : ¬ (0 : Int) < (m : Int) := by omega
      go_wp2_with fail
      go_loopw [5, 7] (fun e i wr => e = .int .i64 E ∧ i = .int .i64 0 ∧ Kp No w wr) (fun _ _ _ => 0)
      case atStart => exact ⟨rfl, rfl, KG.out⟩
      case round =>
        obtain ⟨rfl, rfl, hkp⟩ := hrel
        have KF := Lib.hid hkp
        clear hkp
        rcases Nat.eq_zero_or_pos n with hn0 | hn0
        · have hn1 : decide ((0 : Int) < (n : Int)) = false := decide_eq_false (by omega)
          have hn2 : ¬ (0 : Int) < (n : Int) := by omega
          go_wp2_with fail
          go_ret
          exact ⟨ret_i64 HE.out.symm, KF.out⟩
        · have hn1 : decide ((0 : Int) < (n : Int)) = true := decide_eq_true (by omega)
          have hn2 : (0 : Int) < (n : Int) := by omega
          go_wp2_with fail
          go_ret
          exact ⟨ret_i64 HE.out.symm, KF.out⟩
    · have hm1 : (0 : Int) < (m : Int) := by omega
      go_wp2_with fail
      go_loopw [5, 7] (fun e i wr => e = .int .i64 E ∧ i = .int .i64 0 ∧ Kp No w wr) (fun _ _ _ => 0)
      case atStart => exact ⟨rfl, rfl, KG.out⟩
      case round =>
        obtain ⟨rfl, rfl, hkp⟩ := hrel
        have KF := Lib.hid hkp
        clear hkp
        rcases Nat.eq_zero_or_pos n with hn0 | hn0
        · have hn1 : decide ((0 : Int) < (n : Int)) = false := decide_eq_false (by omega)
          have hn2 : ¬ (0 : Int) < (n : Int) := by omega
          go_wp2_with fail
          go_ret
          exact ⟨ret_i64 HE.out.symm, KF.out⟩
        · have hn1 : decide ((0 : Int) < (n : Int)) = true := decide_eq_true (by omega)
          have hn2 : (0 : Int) < (n : Int) := by omega
          go_wp2_with fail
          go_ret
          exact ⟨ret_i64 HE.out.symm, KF.out⟩
set_option maxHeartbeats 4000000 in
set_option maxRecDepth 100000 in
theorem at13_len (A P : Option Addr) (n m ca cp : Nat) (l : List Rw) (ps : List Int) (w : World) (hx : Rd rwC 5 w A n l) (hp : RdI .i64 w P m ps) (hm : m ≤ 1000000) (hc : chkE l = 0) (hb : m < 1 ∨ 16 < m) :
    Calls Tryz.prog 42 #[.slice A n ca, .slice P m cp] w fun e w' => e = .returned (.int .i64 (opnE l ps)) ∧ Kp No w w' := by
  have HPL := Lib.hid hp.1
  have hl := hx.1
  have HX := Lib.hid hx
  have HP := Lib.hid hp
  have CK := check13_is A n ca l w hx
  have HE := Lib.hid (show opnE l ps = 2 by
    unfold opnE
    have := HPL.out
    rw [if_pos hc, if_pos (by omega)])
  rw [hc] at CK
  replace CK := Lib.hid CK
  clear hx hp
  go_enter Tryz.func42, Tryz.ntmps42
  go_wp2_with fail
  refine CK.out.mono ?_
  rintro _ w1 ⟨rfl, k1⟩
  have K1 := Lib.hid k1
  clear k1 CK
  rcases hb with hb | hb
  · have hb1 : (m : Int) < 1 := by omega
    go_wp2_with fail
    go_loopw [5, 6] (fun e i wr => e = .int .i64 2 ∧ i = .int .i64 0 ∧ Kp No w wr) (fun _ _ _ => 0)
    case atStart => exact ⟨rfl, rfl, K1.out⟩
    case round =>
      obtain ⟨rfl, rfl, hkp⟩ := hrel
      have KG := Lib.hid hkp
      clear hkp
      rcases Nat.eq_zero_or_pos m with hm0 | hm0
      · have hm1 : ¬ (0 : Int) < (m : Int) := by omega
        go_wp2_with fail
        go_loopw [5, 7] (fun e i wr => e = .int .i64 2 ∧ i = .int .i64 0 ∧ Kp No w wr) (fun _ _ _ => 0)
        case atStart => exact ⟨rfl, rfl, KG.out⟩
        case round =>
          obtain ⟨rfl, rfl, hkp⟩ := hrel
          have KF := Lib.hid hkp
          clear hkp
          rcases Nat.eq_zero_or_pos n with hn0 | hn0
          · have hn1 : decide ((0 : Int) < (n : Int)) = false := decide_eq_false (by omega)
            have hn2 : ¬ (0 : Int) < (n : Int) := by omega
            go_wp2_with fail
            go_ret
            exact ⟨ret_i64 HE.out.symm, KF.out⟩
          · have hn1 : decide ((0 : Int) < (n : Int)) = true := decide_eq_true (by omega)
            have hn2 : (0 : Int) < (n : Int) := by omega
            go_wp2_with fail
            go_ret
            exact ⟨ret_i64 HE.out.symm, KF.out⟩
      · have hm1 : (0 : Int) < (m : Int) := by omega
        go_wp2_with fail
        go_loopw [5, 7] (fun e i wr => e = .int .i64 2 ∧ i = .int .i64 0 ∧ Kp No w wr) (fun _ _ _ => 0)
        case atStart => exact ⟨rfl, rfl, KG.out⟩
        case round =>
          obtain ⟨rfl, rfl, hkp⟩ := hrel
          have KF := Lib.hid hkp
          clear hkp
          rcases Nat.eq_zero_or_pos n with hn0 | hn0
          · have hn1 : decide ((0 : Int) < (n : Int)) = false := decide_eq_false (by omega)
            have hn2 : ¬ (0 : Int) < (n : Int) := by omega
            go_wp2_with fail
            go_ret
            exact ⟨ret_i64 HE.out.symm, KF.out⟩
          · have hn1 : decide ((0 : Int) < (n : Int)) = true := decide_eq_true (by omega)
            have hn2 : (0 : Int) < (n : Int) := by omega
            go_wp2_with fail
            go_ret
            exact ⟨ret_i64 HE.out.symm, KF.out⟩
  · have hb1 : ¬ (m : Int) < 1 := by omega
    have hb2 : (16 : Int) < (m : Int) := by omega
    go_wp2_with fail
    go_loopw [5, 6] (fun e i wr => e = .int .i64 2 ∧ i = .int .i64 0 ∧ Kp No w wr) (fun _ _ _ => 0)
    case atStart => exact ⟨rfl, rfl, K1.out⟩
    case round =>
      obtain ⟨rfl, rfl, hkp⟩ := hrel
      have KG := Lib.hid hkp
      clear hkp
      rcases Nat.eq_zero_or_pos m with hm0 | hm0
      · have hm1 : ¬ (0 : Int) < (m : Int) := by omega
        go_wp2_with fail
        go_loopw [5, 7] (fun e i wr => e = .int .i64 2 ∧ i = .int .i64 0 ∧ Kp No w wr) (fun _ _ _ => 0)
        case atStart => exact ⟨rfl, rfl, KG.out⟩
        case round =>
          obtain ⟨rfl, rfl, hkp⟩ := hrel
          have KF := Lib.hid hkp
          clear hkp
          rcases Nat.eq_zero_or_pos n with hn0 | hn0
          · have hn1 : decide ((0 : Int) < (n : Int)) = false := decide_eq_false (by omega)
            have hn2 : ¬ (0 : Int) < (n : Int) := by omega
            go_wp2_with fail
            go_ret
            exact ⟨ret_i64 HE.out.symm, KF.out⟩
          · have hn1 : decide ((0 : Int) < (n : Int)) = true := decide_eq_true (by omega)
            have hn2 : (0 : Int) < (n : Int) := by omega
            go_wp2_with fail
            go_ret
            exact ⟨ret_i64 HE.out.symm, KF.out⟩
      · have hm1 : (0 : Int) < (m : Int) := by omega
        go_wp2_with fail
        go_loopw [5, 7] (fun e i wr => e = .int .i64 2 ∧ i = .int .i64 0 ∧ Kp No w wr) (fun _ _ _ => 0)
        case atStart => exact ⟨rfl, rfl, KG.out⟩
        case round =>
          obtain ⟨rfl, rfl, hkp⟩ := hrel
          have KF := Lib.hid hkp
          clear hkp
          rcases Nat.eq_zero_or_pos n with hn0 | hn0
          · have hn1 : decide ((0 : Int) < (n : Int)) = false := decide_eq_false (by omega)
            have hn2 : ¬ (0 : Int) < (n : Int) := by omega
            go_wp2_with fail
            go_ret
            exact ⟨ret_i64 HE.out.symm, KF.out⟩
          · have hn1 : decide ((0 : Int) < (n : Int)) = true := decide_eq_true (by omega)
            have hn2 : (0 : Int) < (n : Int) := by omega
            go_wp2_with fail
            go_ret
            exact ⟨ret_i64 HE.out.symm, KF.out⟩
set_option maxHeartbeats 4000000 in
set_option maxRecDepth 100000 in
theorem at13_in (A P : Option Addr) (n m ca cp : Nat) (l : List Rw) (ps : List Int) (w : World) (hx : Rd rwC 5 w A n l) (hp : RdI .i64 w P m ps) (hm : m ≤ 1000000) (hc : chkE l = 0) (hb1 : 1 ≤ m) (hb2 : m ≤ 16) :
    Calls Tryz.prog 42 #[.slice A n ca, .slice P m cp] w fun e w' => e = .returned (.int .i64 (opnE l ps)) ∧ Kp No w w' := by
  have HPL := Lib.hid hp.1
  have hl := hx.1
  have HX := Lib.hid hx
  have HP := Lib.hid hp
  have CK := check13_is A n ca l w hx
  have HC := Lib.hid hc
  have hn2 : n ≤ 2000 := by
    rcases Nat.lt_or_ge 2000 n with h | h
    · unfold chkE at hc
      rw [if_pos (by omega)] at hc
      cases hc
    · exact h
  rw [hc] at CK
  replace CK := Lib.hid CK
  have hI1 : (1 : Int) ≤ (m : Int) := by omega
  have hI2 : (m : Int) ≤ 16 := by omega
  clear hx hp hc
  go_enter Tryz.func42, Tryz.ntmps42
  go_wp2_with fail
  refine CK.out.mono ?_
  rintro _ w1 ⟨rfl, k1⟩
  have K1 := Lib.hid k1
  clear k1 CK
  go_wp2_with fail
  go_loopw [5, 6] (fun e i wr => ∃ k : Nat, k ≤ m ∧ i = .int .i64 k ∧ ((e = .int .i64 0 ∧ ∀ p ∈ ps.take k, preB p = true) ∨ (e = .int .i64 2 ∧ ps.any (fun p => !preB p) = true)) ∧ Kp No w wr) (fun _ i _ => m - (intOf i).toNat)
  case atStart => exact ⟨0, by omega, rfl, .inl ⟨rfl, fun x hx => by simp at hx⟩, K1.out⟩
  case round =>
    obtain ⟨k, hk, rfl, hE, hkp⟩ := hrel
    have HK := Lib.hid hkp
    clear hkp
    rcases hE with ⟨rfl, hg⟩ | ⟨rfl, hb⟩
    · have HG := Lib.hid hg
      clear hg
      by_cases hlt : k < m
      · obtain ⟨p, hpk⟩ : ∃ x, ps[k]? = some x := ⟨_, List.getElem?_eq_getElem (by have := HPL.out; omega)⟩
        obtain ⟨b, o, rfl, hb, hcp⟩ := HP.out.2 k p hpk
        have c0 := HK.out.cell hcp id
        have TK := Lib.hid (show ps.take (k + 1) = ps.take k ++ [p] by rw [List.take_add_one, hpk]; rfl)
        have HPK := Lib.hid hpk
        have hk0 : (0 : Int) ≤ (k : Int) := by omega
        have hkn : (k : Int) < (m : Int) := by omega
        have PR := fun w0 => pressure13_is p w0
        clear hpk hcp
        cases hpb : preB p
        · rw [hpb] at PR
          replace PR := Lib.hid PR
          have HB := Lib.hid (show ps.any (fun p => !preB p) = true from List.any_eq_true.2 ⟨p, List.mem_of_getElem? HPK.out, by rw [hpb]; rfl⟩)
          clear hpb
          go_wp2_with fail
          refine (PR.out _).mono ?_
          rintro _ _ ⟨rfl, rfl⟩
          go_wp2_with fail
          go_round
          case rel => exact ⟨k + 1, by omega, by go_num, .inr ⟨rfl, HB.out⟩, HK.out⟩
          case measure => simp [intOf] <;> omega
        · rw [hpb] at PR
          replace PR := Lib.hid PR
          have HB := Lib.hid hpb
          clear hpb
          go_wp2_with fail
          refine (PR.out _).mono ?_
          rintro _ _ ⟨rfl, rfl⟩
          go_wp2_with fail
          go_round
          case rel =>
            refine ⟨k + 1, by omega, by go_num, .inl ⟨rfl, fun y hy => ?_⟩, HK.out⟩
            rw [TK.out] at hy
            rcases List.mem_append.1 hy with hy | hy
            · exact HG.out y hy
            · rw [List.mem_singleton.1 hy]
              exact HB.out
          case measure => simp [intOf] <;> omega
      · obtain rfl : k = m := by omega
        have hg := HG.out
        rw [List.take_of_length_le (by have := HPL.out; omega)] at hg
        have HGP := Lib.hid hg
        clear hg HG
        go_wp2_with fail
        go_loopw [5, 7] (fun e i wr => ∃ k : Nat, k ≤ n ∧ i = .int .i64 k ∧ ((e = .int .i64 0 ∧ ∀ x ∈ l.take k, ¬ (ps.length : Int) ≤ x.c) ∨ (e = .int .i64 2 ∧ l.any (fun x => decide ((ps.length : Int) ≤ x.c)) = true)) ∧ Kp No w wr) (fun _ i _ => n - (intOf i).toNat)
        case atStart => exact ⟨0, by omega, rfl, .inl ⟨rfl, fun x hx => by simp at hx⟩, HK.out⟩
        case round =>
          obtain ⟨k2, hk2, rfl, hE2, hkp2⟩ := hrel
          have HK2 := Lib.hid hkp2
          clear hkp2
          rcases hE2 with ⟨rfl, hg2⟩ | ⟨rfl, hb2⟩
          · have HG2 := Lib.hid hg2
            clear hg2
            by_cases hlt2 : k2 < n
            · obtain ⟨x, hxk⟩ : ∃ x, l[k2]? = some x := ⟨_, List.getElem?_eq_getElem (by omega)⟩
              obtain ⟨b, o, rfl, hb, hc⟩ := HX.out.2 k2 x hxk
              have c4 := HK2.out.cell (hc 4 _ rfl) id
              have TK := Lib.hid (show l.take (k2 + 1) = l.take k2 ++ [x] by rw [List.take_add_one, hxk]; rfl)
              have HXK := Lib.hid hxk
              have hk0 : (0 : Int) ≤ (k2 : Int) := by omega
              have hkn : (k2 : Int) < (n : Int) := by omega
              clear hxk hc
              by_cases hcm : (k : Int) ≤ x.c
              · have HB2 := Lib.hid (show l.any (fun x => decide ((ps.length : Int) ≤ x.c)) = true from List.any_eq_true.2 ⟨x, List.mem_of_getElem? HXK.out, decide_eq_true (by rw [HPL.out]; exact hcm)⟩)
                go_wp2_with fail
                go_round
                case rel => exact ⟨k2 + 1, by omega, by go_num, .inr ⟨rfl, HB2.out⟩, HK2.out⟩
                case measure => simp [intOf] <;> omega
              · have HB2 := Lib.hid (show ¬ (ps.length : Int) ≤ x.c by rw [HPL.out]; exact hcm)
                go_wp2_with fail
                go_round
                case rel =>
                  refine ⟨k2 + 1, by omega, by go_num, .inl ⟨rfl, fun y hy => ?_⟩, HK2.out⟩
                  rw [TK.out] at hy
                  rcases List.mem_append.1 hy with hy | hy
                  · exact HG2.out y hy
                  · rw [List.mem_singleton.1 hy]
                    exact HB2.out
                case measure => simp [intOf] <;> omega
            · obtain rfl : k2 = n := by omega
              have hg := HG2.out
              rw [List.take_of_length_le (by omega)] at hg
              have hz0 : opnE l ps = 0 := by
                unfold opnE
                rw [if_pos HC.out, if_neg]
                have hl1 := HPL.out
                rintro (h | h | h | h)
                · omega
                · omega
                · obtain ⟨p, hp, hn⟩ := List.any_eq_true.1 h
                  rw [HGP.out p hp] at hn
                  cases hn
                · obtain ⟨x, hx, hn⟩ := List.any_eq_true.1 h
                  exact hg x hx (of_decide_eq_true hn)
              have HZ0 := Lib.hid hz0
              clear hg hz0
              go_wp2_with fail
              go_ret
              exact ⟨ret_i64 HZ0.out.symm, HK2.out⟩
          · have HZ2 := Lib.hid (show opnE l ps = 2 by unfold opnE; rw [if_pos HC.out, if_pos (.inr (.inr (.inr hb2)))])
            clear hb2
            by_cases hlt2 : k2 < n
            · have hkn : (k2 : Int) < (n : Int) := by omega
              go_wp2_with fail
              go_ret
              exact ⟨ret_i64 HZ2.out.symm, HK2.out⟩
            · have hkn : ¬ (k2 : Int) < (n : Int) := by omega
              go_wp2_with fail
              go_ret
              exact ⟨ret_i64 HZ2.out.symm, HK2.out⟩
    · have HE := Lib.hid (show opnE l ps = 2 by unfold opnE; rw [if_pos HC.out, if_pos (.inr (.inr (.inl hb)))])
      clear hb
      by_cases hlt : k < m
      · have hkn : (k : Int) < (m : Int) := by omega
        go_wp2_with fail
        go_loopw [5, 7] (fun e i wr => e = .int .i64 2 ∧ i = .int .i64 0 ∧ Kp No w wr) (fun _ _ _ => 0)
        case atStart => exact ⟨rfl, rfl, HK.out⟩
        case round =>
          obtain ⟨rfl, rfl, hkp⟩ := hrel
          have KF := Lib.hid hkp
          clear hkp
          rcases Nat.eq_zero_or_pos n with hn0 | hn0
          · have hn1 : decide ((0 : Int) < (n : Int)) = false := decide_eq_false (by omega)
            have hn2 : ¬ (0 : Int) < (n : Int) := by omega
            go_wp2_with fail
            go_ret
            exact ⟨ret_i64 HE.out.symm, KF.out⟩
          · have hn1 : decide ((0 : Int) < (n : Int)) = true := decide_eq_true (by omega)
            have hn2 : (0 : Int) < (n : Int) := by omega
            go_wp2_with fail
            go_ret
            exact ⟨ret_i64 HE.out.symm, KF.out⟩
      · have hkn : ¬ (k : Int) < (m : Int) := by omega
        go_wp2_with fail
        go_loopw [5, 7] (fun e i wr => e = .int .i64 2 ∧ i = .int .i64 0 ∧ Kp No w wr) (fun _ _ _ => 0)
        case atStart => exact ⟨rfl, rfl, HK.out⟩
        case round =>
          obtain ⟨rfl, rfl, hkp⟩ := hrel
          have KF := Lib.hid hkp
          clear hkp
          rcases Nat.eq_zero_or_pos n with hn0 | hn0
          · have hn1 : decide ((0 : Int) < (n : Int)) = false := decide_eq_false (by omega)
            have hn2 : ¬ (0 : Int) < (n : Int) := by omega
            go_wp2_with fail
            go_ret
            exact ⟨ret_i64 HE.out.symm, KF.out⟩
          · have hn1 : decide ((0 : Int) < (n : Int)) = true := decide_eq_true (by omega)
            have hn2 : (0 : Int) < (n : Int) := by omega
            go_wp2_with fail
            go_ret
            exact ⟨ret_i64 HE.out.symm, KF.out⟩
theorem at13_is (A P : Option Addr) (n m ca cp : Nat) (l : List Rw) (ps : List Int) (w : World) (hx : Rd rwC 5 w A n l) (hp : RdI .i64 w P m ps) (hm : m ≤ 1000000) :
    Calls Tryz.prog 42 #[.slice A n ca, .slice P m cp] w fun e w' => e = .returned (.int .i64 (opnE l ps)) ∧ Kp No w w' := by
  by_cases hc : chkE l = 0
  · by_cases hb : m < 1 ∨ 16 < m
    · exact at13_len A P n m ca cp l ps w hx hp hm hc hb
    · exact at13_in A P n m ca cp l ps w hx hp hm hc (by omega) (by omega)
  · exact at13_bad A P n m ca cp l ps w hx hp hm hc
end Go.Proofs.YtlieijnhaolnhaaGreat
