/- Chapter 13: the reference's Keys: the walk. Printed by gen_rsk.py. -/
import Derived.Test.YtlieijnhaolnhaaGreatXKypM
namespace Go.Proofs.YtlieijnhaolnhaaGreat
open Go.RowKit Go.Kq

set_option maxHeartbeats 4000000 in
set_option maxRecDepth 100000 in
theorem rkeys_opn (A P Q : Option Addr) (n m kn ca cp cq : Nat) (chest : Int) (l : List Rw) (ps : List Int) (ks : List Ky) (w : World) (hx : Rd rwC 5 w A n l) (hp : RdI .i64 w P m ps) (hkl : ks.length = kn) (hm : m ≤ 1000000) (h0 : opnE l ps ≠ 0) :
    Calls Tryz.prog 24 #[.slice A n ca, .slice P m cp, .int .i64 chest, .slice Q kn cq] w (KeysP l ps chest ks w) := by
  have hpl := hp.1
  have AT := at13_is A P n m ca cp l ps w hx hp hm
  have he : (opnE l ps == 0) = false := beq_eq_false_iff_ne.2 h0
  have FIN := Lib.hid (fun w' hk' => keys_nil (w := w) (w' := w') (keysE_opn (chest := chest) (ks := ks) h0) h0 hk')
  generalize opnE l ps = E at *
  have he2 : (E != 0) = true := bne_iff_ne.2 h0
  replace AT := Lib.hid AT
  clear hx hp h0
  go_enter Tryz.func24, Tryz.ntmps24
  go_wp2_with fail
  refine AT.out.mono ?_
  rintro _ w1 ⟨rfl, k1⟩
  have K1 := Lib.hid k1
  clear k1 AT
  rcases Nat.eq_zero_or_pos kn with h00 | h00
  · have h01 : ¬ (0 : Int) < (kn : Int) := by omega
    go_wp2_with fail
    go_loopw [10, 11] (fun e i wr => e = .int .i64 E ∧ i = .int .i64 0 ∧ Kp No w wr) (fun _ _ _ => 0)
    case atStart => exact ⟨rfl, rfl, K1.out⟩
    case round =>
      obtain ⟨rfl, rfl, hkp⟩ := hrel
      have KX11 := Lib.hid hkp
      clear hkp
      go_wp2_with fail
      go_loopw [10, 12] (fun e i wr => e = .int .i64 E ∧ i = .int .i64 0 ∧ Kp No w wr) (fun _ _ _ => 0)
      case atStart => exact ⟨rfl, rfl, KX11.out⟩
      case round =>
        obtain ⟨rfl, rfl, hkp⟩ := hrel
        have KX12 := Lib.hid hkp
        clear hkp
        go_wp2_with fail
        go_loopw [10, 13] (fun e i wr => e = .int .i64 E ∧ i = .int .i64 0 ∧ Kp No w wr) (fun _ _ _ => 0)
        case atStart => exact ⟨rfl, rfl, KX12.out⟩
        case round =>
          obtain ⟨rfl, rfl, hkp⟩ := hrel
          have KX13 := Lib.hid hkp
          clear hkp
          go_wp2_with fail
          exact bodyPost_ret (v := .tuple #[.slice none 0 0, .int .i64 E]) (by simp [results, Tryz.results24, go_sem]) rfl (FIN.out _ KX13.out)
  · have h01 : (0 : Int) < (kn : Int) := by omega
    go_wp2_with fail
    go_loopw [10, 11] (fun e i wr => e = .int .i64 E ∧ i = .int .i64 0 ∧ Kp No w wr) (fun _ _ _ => 0)
    case atStart => exact ⟨rfl, rfl, K1.out⟩
    case round =>
      obtain ⟨rfl, rfl, hkp⟩ := hrel
      have KX11 := Lib.hid hkp
      clear hkp
      go_wp2_with fail
      go_loopw [10, 12] (fun e i wr => e = .int .i64 E ∧ i = .int .i64 0 ∧ Kp No w wr) (fun _ _ _ => 0)
      case atStart => exact ⟨rfl, rfl, KX11.out⟩
      case round =>
        obtain ⟨rfl, rfl, hkp⟩ := hrel
        have KX12 := Lib.hid hkp
        clear hkp
        go_wp2_with fail
        go_loopw [10, 13] (fun e i wr => e = .int .i64 E ∧ i = .int .i64 0 ∧ Kp No w wr) (fun _ _ _ => 0)
        case atStart => exact ⟨rfl, rfl, KX12.out⟩
        case round =>
          obtain ⟨rfl, rfl, hkp⟩ := hrel
          have KX13 := Lib.hid hkp
          clear hkp
          go_wp2_with fail
          exact bodyPost_ret (v := .tuple #[.slice none 0 0, .int .i64 E]) (by simp [results, Tryz.results24, go_sem]) rfl (FIN.out _ KX13.out)
set_option maxHeartbeats 4000000 in
set_option maxRecDepth 100000 in
theorem rkeys_chest (A P Q : Option Addr) (n m kn ca cp cq : Nat) (chest : Int) (l : List Rw) (ps : List Int) (ks : List Ky) (w : World) (hx : Rd rwC 5 w A n l) (hp : RdI .i64 w P m ps) (hkl : ks.length = kn) (hm : m ≤ 1000000) (h0 : opnE l ps = 0) (hc : chest < 0 ∨ (m : Int) ≤ chest) :
    Calls Tryz.prog 24 #[.slice A n ca, .slice P m cp, .int .i64 chest, .slice Q kn cq] w (KeysP l ps chest ks w) := by
  have hpl := hp.1
  have AT := at13_is A P n m ca cp l ps w hx hp hm
  have FIN := Lib.hid (fun w' hk' => keys_nil (w := w) (w' := w') (keysE_chest (chest := chest) (ks := ks) h0 (by omega)) (by omega) hk')
  rw [h0] at AT
  replace AT := Lib.hid AT
  clear hx hp h0
  go_enter Tryz.func24, Tryz.ntmps24
  go_wp2_with fail
  refine AT.out.mono ?_
  rintro _ w1 ⟨rfl, k1⟩
  have K1 := Lib.hid k1
  clear k1 AT
  rcases hc with hc | hc
  · rcases Nat.eq_zero_or_pos kn with h00 | h00
    · have h01 : ¬ (0 : Int) < (kn : Int) := by omega
      go_wp2_with fail
      go_loopw [10, 11] (fun e i wr => e = .int .i64 2 ∧ i = .int .i64 0 ∧ Kp No w wr) (fun _ _ _ => 0)
      case atStart => exact ⟨rfl, rfl, K1.out⟩
      case round =>
        obtain ⟨rfl, rfl, hkp⟩ := hrel
        have KX11 := Lib.hid hkp
        clear hkp
        go_wp2_with fail
        go_loopw [10, 12] (fun e i wr => e = .int .i64 2 ∧ i = .int .i64 0 ∧ Kp No w wr) (fun _ _ _ => 0)
        case atStart => exact ⟨rfl, rfl, KX11.out⟩
        case round =>
          obtain ⟨rfl, rfl, hkp⟩ := hrel
          have KX12 := Lib.hid hkp
          clear hkp
          go_wp2_with fail
          go_loopw [10, 13] (fun e i wr => e = .int .i64 2 ∧ i = .int .i64 0 ∧ Kp No w wr) (fun _ _ _ => 0)
          case atStart => exact ⟨rfl, rfl, KX12.out⟩
          case round =>
            obtain ⟨rfl, rfl, hkp⟩ := hrel
            have KX13 := Lib.hid hkp
            clear hkp
            go_wp2_with fail
            exact bodyPost_ret (v := .tuple #[.slice none 0 0, .int .i64 2]) (by simp [results, Tryz.results24, go_sem]) rfl (FIN.out _ KX13.out)
    · have h01 : (0 : Int) < (kn : Int) := by omega
      go_wp2_with fail
      go_loopw [10, 11] (fun e i wr => e = .int .i64 2 ∧ i = .int .i64 0 ∧ Kp No w wr) (fun _ _ _ => 0)
      case atStart => exact ⟨rfl, rfl, K1.out⟩
      case round =>
        obtain ⟨rfl, rfl, hkp⟩ := hrel
        have KX11 := Lib.hid hkp
        clear hkp
        go_wp2_with fail
        go_loopw [10, 12] (fun e i wr => e = .int .i64 2 ∧ i = .int .i64 0 ∧ Kp No w wr) (fun _ _ _ => 0)
        case atStart => exact ⟨rfl, rfl, KX11.out⟩
        case round =>
          obtain ⟨rfl, rfl, hkp⟩ := hrel
          have KX12 := Lib.hid hkp
          clear hkp
          go_wp2_with fail
          go_loopw [10, 13] (fun e i wr => e = .int .i64 2 ∧ i = .int .i64 0 ∧ Kp No w wr) (fun _ _ _ => 0)
          case atStart => exact ⟨rfl, rfl, KX12.out⟩
          case round =>
            obtain ⟨rfl, rfl, hkp⟩ := hrel
            have KX13 := Lib.hid hkp
            clear hkp
            go_wp2_with fail
            exact bodyPost_ret (v := .tuple #[.slice none 0 0, .int .i64 2]) (by simp [results, Tryz.results24, go_sem]) rfl (FIN.out _ KX13.out)
  · have hc2 : (0 : Int) ≤ chest := by omega
    rcases Nat.eq_zero_or_pos kn with h00 | h00
    · have h01 : ¬ (0 : Int) < (kn : Int) := by omega
      go_wp2_with fail
      go_loopw [10, 11] (fun e i wr => e = .int .i64 2 ∧ i = .int .i64 0 ∧ Kp No w wr) (fun _ _ _ => 0)
      case atStart => exact ⟨rfl, rfl, K1.out⟩
      case round =>
        obtain ⟨rfl, rfl, hkp⟩ := hrel
        have KX11 := Lib.hid hkp
        clear hkp
        go_wp2_with fail
        go_loopw [10, 12] (fun e i wr => e = .int .i64 2 ∧ i = .int .i64 0 ∧ Kp No w wr) (fun _ _ _ => 0)
        case atStart => exact ⟨rfl, rfl, KX11.out⟩
        case round =>
          obtain ⟨rfl, rfl, hkp⟩ := hrel
          have KX12 := Lib.hid hkp
          clear hkp
          go_wp2_with fail
          go_loopw [10, 13] (fun e i wr => e = .int .i64 2 ∧ i = .int .i64 0 ∧ Kp No w wr) (fun _ _ _ => 0)
          case atStart => exact ⟨rfl, rfl, KX12.out⟩
          case round =>
            obtain ⟨rfl, rfl, hkp⟩ := hrel
            have KX13 := Lib.hid hkp
            clear hkp
            go_wp2_with fail
            exact bodyPost_ret (v := .tuple #[.slice none 0 0, .int .i64 2]) (by simp [results, Tryz.results24, go_sem]) rfl (FIN.out _ KX13.out)
    · have h01 : (0 : Int) < (kn : Int) := by omega
      go_wp2_with fail
      go_loopw [10, 11] (fun e i wr => e = .int .i64 2 ∧ i = .int .i64 0 ∧ Kp No w wr) (fun _ _ _ => 0)
      case atStart => exact ⟨rfl, rfl, K1.out⟩
      case round =>
        obtain ⟨rfl, rfl, hkp⟩ := hrel
        have KX11 := Lib.hid hkp
        clear hkp
        go_wp2_with fail
        go_loopw [10, 12] (fun e i wr => e = .int .i64 2 ∧ i = .int .i64 0 ∧ Kp No w wr) (fun _ _ _ => 0)
        case atStart => exact ⟨rfl, rfl, KX11.out⟩
        case round =>
          obtain ⟨rfl, rfl, hkp⟩ := hrel
          have KX12 := Lib.hid hkp
          clear hkp
          go_wp2_with fail
          go_loopw [10, 13] (fun e i wr => e = .int .i64 2 ∧ i = .int .i64 0 ∧ Kp No w wr) (fun _ _ _ => 0)
          case atStart => exact ⟨rfl, rfl, KX12.out⟩
          case round =>
            obtain ⟨rfl, rfl, hkp⟩ := hrel
            have KX13 := Lib.hid hkp
            clear hkp
            go_wp2_with fail
            exact bodyPost_ret (v := .tuple #[.slice none 0 0, .int .i64 2]) (by simp [results, Tryz.results24, go_sem]) rfl (FIN.out _ KX13.out)
set_option maxHeartbeats 4000000 in
set_option maxRecDepth 100000 in
theorem rkeys_long (A P Q : Option Addr) (n m kn ca cp cq c : Nat) (l : List Rw) (ps : List Int) (ks : List Ky) (w : World) (hx : Rd rwC 5 w A n l) (hp : RdI .i64 w P m ps) (hkl : ks.length = kn) (hm : m ≤ 1000000) (h0 : opnE l ps = 0) (hcm : c < m) (hk : 128 < kn) :
    Calls Tryz.prog 24 #[.slice A n ca, .slice P m cp, .int .i64 (c : Nat), .slice Q kn cq] w (KeysP l ps c ks w) := by
  have hpl := hp.1
  have AT := at13_is A P n m ca cp l ps w hx hp hm
  have hc1 : (0 : Int) ≤ (c : Int) := by omega
  have hc2 : (c : Int) < (m : Int) := by omega
  have hmc : decide (m ≤ c) = false := decide_eq_false (by omega)
  have hc3 : decide ((c : Int) < 0) = false := decide_eq_false (by omega)
  have FIN := Lib.hid (fun w' hk' => keys_nil (w := w) (w' := w') (keysE_long (chest := c) (ks := ks) h0 (by omega) (.inl (by omega))) (by omega) hk')
  rw [h0] at AT
  replace AT := Lib.hid AT
  have hk2 : (128 : Int) < (kn : Int) := by omega
  have h01 : (0 : Int) < (kn : Int) := by omega
  clear hx hp h0
  go_enter Tryz.func24, Tryz.ntmps24
  go_wp2_with fail
  refine AT.out.mono ?_
  rintro _ w1 ⟨rfl, k1⟩
  have K1 := Lib.hid k1
  clear k1 AT
  go_wp2_with fail
  go_loopw [10, 11] (fun e i wr => e = .int .i64 3 ∧ i = .int .i64 0 ∧ Kp No w wr) (fun _ _ _ => 0)
  case atStart => exact ⟨rfl, rfl, K1.out⟩
  case round =>
    obtain ⟨rfl, rfl, hkp⟩ := hrel
    have KX11 := Lib.hid hkp
    clear hkp
    go_wp2_with fail
    go_loopw [10, 12] (fun e i wr => e = .int .i64 3 ∧ i = .int .i64 0 ∧ Kp No w wr) (fun _ _ _ => 0)
    case atStart => exact ⟨rfl, rfl, KX11.out⟩
    case round =>
      obtain ⟨rfl, rfl, hkp⟩ := hrel
      have KX12 := Lib.hid hkp
      clear hkp
      go_wp2_with fail
      go_loopw [10, 13] (fun e i wr => e = .int .i64 3 ∧ i = .int .i64 0 ∧ Kp No w wr) (fun _ _ _ => 0)
      case atStart => exact ⟨rfl, rfl, KX12.out⟩
      case round =>
        obtain ⟨rfl, rfl, hkp⟩ := hrel
        have KX13 := Lib.hid hkp
        clear hkp
        go_wp2_with fail
        exact bodyPost_ret (v := .tuple #[.slice none 0 0, .int .i64 3]) (by simp [results, Tryz.results24, go_sem]) rfl (FIN.out _ KX13.out)
set_option maxHeartbeats 4000000 in
set_option maxRecDepth 100000 in
theorem rkeys_in (A P Q : Option Addr) (n m kn ca cp cq c : Nat) (l : List Rw) (ps : List Int) (ks : List Ky) (w : World) (hx : Rd rwC 5 w A n l) (hp : RdI .i64 w P m ps) (hkl : ks.length = kn) (hm : m ≤ 1000000) (h0 : opnE l ps = 0) (hcm : c < m) (hkn128 : kn ≤ 128) (hks : RdK w Q kn ks) (hn : n ≤ 1000000) :
    Calls Tryz.prog 24 #[.slice A n ca, .slice P m cp, .int .i64 (c : Nat), .slice Q kn cq] w (KeysP l ps c ks w) := by
  have hpl := hp.1
  have AT := at13_is A P n m ca cp l ps w hx hp hm
  have hc1 : (0 : Int) ≤ (c : Int) := by omega
  have hc2 : (c : Int) < (m : Int) := by omega
  have hmc : decide (m ≤ c) = false := decide_eq_false (by omega)
  have hc3 : decide ((c : Int) < 0) = false := decide_eq_false (by omega)
  obtain ⟨i0, hi, hz0, hz1, hz2⟩ := info_parts infoIv
  have HI := Lib.hid hi
  rw [h0] at AT
  replace AT := Lib.hid AT
  have HC0 := Lib.hid h0
  have HCH := Lib.hid (show ¬ ((c : Int) < 0 ∨ (ps.length : Int) ≤ (c : Int)) by omega)
  have HKL := Lib.hid hkl
  have HK := Lib.hid hks
  have HX := Lib.hid hx
  have HP := Lib.hid hp
  have hk2 : (kn : Int) ≤ 128 := by omega
  clear hx hp h0 hks hkl hi
  go_enter Tryz.func24, Tryz.ntmps24
  go_wp2_with fail
  refine AT.out.mono ?_
  rintro _ w1 ⟨rfl, k1⟩
  have K1 := Lib.hid k1
  clear k1 AT
  go_wp2_with fail
  go_loopw [10, 11] (fun e i wr => ∃ k : Nat, k ≤ kn ∧ i = .int .i64 k ∧ ((e = .int .i64 0 ∧ ∀ y ∈ ks.take k, kLong y = false) ∨ (e = .int .i64 3 ∧ ks.any (kLong) = true)) ∧ Kp No w wr) (fun _ i _ => kn - (intOf i).toNat)
  case atStart => exact ⟨0, by omega, rfl, .inl ⟨rfl, fun x hx => by simp at hx⟩, K1.out⟩
  case round =>
    obtain ⟨k, hk, rfl, hE, hkp⟩ := hrel
    have K11 := Lib.hid hkp
    clear hkp
    rcases hE with ⟨rfl, hg⟩ | ⟨rfl, hb⟩
    · have HG := Lib.hid hg
      clear hg
      by_cases hlt : k < kn
      · obtain ⟨y, hyk⟩ : ∃ x, ks[k]? = some x := ⟨_, List.getElem?_eq_getElem (by have := HKL.out; omega)⟩
        obtain ⟨b, o, rfl, hbb, hcy⟩ := HK.out.row.2 k y hyk
        have c0 := K11.out.cell (hcy 0 _ rfl) id
        simp only [Nat.add_zero, Nat.mul_one] at c0
        have HYK := Lib.hid hyk
        have HYM := Lib.hid (List.mem_of_getElem? hyk)
        have hk0 : (0 : Int) ≤ (k : Int) := by omega
        have hkn : (k : Int) < (kn : Int) := by omega
        clear hyk hcy
        have KN := Lib.hid K11.out
        by_cases hl : 200 < y.n
        · have HB := Lib.hid (show kLong y = true from decide_eq_true hl)
          have hl2 : (200 : Int) < (y.n : Int) := by omega
          go_wp2_with fail
          go_round
          case rel => exact ⟨k + 1, by omega, by go_num, .inr ⟨rfl, List.any_eq_true.2 ⟨y, HYM.out, HB.out⟩⟩, KN.out⟩
          case measure => simp [intOf] <;> omega
        · have HB := Lib.hid (show kLong y = false from decide_eq_false hl)
          have hl2 : ¬ (200 : Int) < (y.n : Int) := by omega
          go_wp2_with fail
          go_round
          case rel => exact ⟨k + 1, by omega, by go_num, .inl ⟨rfl, take_no HG.out HYK.out HB.out⟩, KN.out⟩
          case measure => simp [intOf] <;> omega
      · obtain rfl : kn = k := by omega
        have hg := HG.out
        rw [List.take_of_length_le (by have := HKL.out; omega)] at hg
        have HA11 := Lib.hid hg
        clear hg HG
        go_wp2_with fail
        go_loopw [10, 12] (fun e i wr => ∃ k : Nat, k ≤ kn ∧ i = .int .i64 k ∧ ((e = .int .i64 0 ∧ ∀ y ∈ ks.take k, kForm y = false) ∨ (e = .int .i64 6 ∧ ks.any (kForm) = true)) ∧ Kp No w wr) (fun _ i _ => kn - (intOf i).toNat)
        case atStart => exact ⟨0, by omega, rfl, .inl ⟨rfl, fun x hx => by simp at hx⟩, K11.out⟩
        case round =>
          obtain ⟨k, hk, rfl, hE, hkp⟩ := hrel
          have K12 := Lib.hid hkp
          clear hkp
          rcases hE with ⟨rfl, hg⟩ | ⟨rfl, hb⟩
          · have HG := Lib.hid hg
            clear hg
            by_cases hlt : k < kn
            · obtain ⟨y, hyk⟩ : ∃ x, ks[k]? = some x := ⟨_, List.getElem?_eq_getElem (by have := HKL.out; omega)⟩
              obtain ⟨b, o, rfl, hbb, hcy⟩ := HK.out.row.2 k y hyk
              have c0 := K12.out.cell (hcy 0 _ rfl) id
              simp only [Nat.add_zero, Nat.mul_one] at c0
              have HYK := Lib.hid hyk
              have HYM := Lib.hid (List.mem_of_getElem? hyk)
              have hk0 : (0 : Int) ≤ (k : Int) := by omega
              have hkn : (k : Int) < (kn : Int) := by omega
              clear hyk hcy
              have hyn : y.n ≤ 1000000 := by
                have := HA11.out y HYM.out
                unfold kLong at this
                have := of_decide_eq_false this
                omega
              have AS := asc13_is y.A y.n y.c y.ps wr ((HK.out.key y HYM.out).no K12.out) hyn
              cases hr : risB y.ps
              · rw [hr] at AS
                replace AS := Lib.hid AS
                have HB := Lib.hid (show kForm y = true by unfold kForm; rw [hr]; rfl)
                clear hr
                go_wp2_with fail
                refine AS.out.mono ?_
                rintro _ w3 ⟨rfl, k3⟩
                have KN := Lib.hid (K12.out.tr k3)
                clear k3
                go_wp2_with fail
                go_round
                case rel => exact ⟨k + 1, by omega, by go_num, .inr ⟨rfl, List.any_eq_true.2 ⟨y, HYM.out, HB.out⟩⟩, KN.out⟩
                case measure => simp [intOf] <;> omega
              · rw [hr] at AS
                replace AS := Lib.hid AS
                have HB := Lib.hid (show kForm y = false by unfold kForm; rw [hr]; rfl)
                clear hr
                go_wp2_with fail
                refine AS.out.mono ?_
                rintro _ w3 ⟨rfl, k3⟩
                have KN := Lib.hid (K12.out.tr k3)
                clear k3
                go_wp2_with fail
                go_round
                case rel => exact ⟨k + 1, by omega, by go_num, .inl ⟨rfl, take_no HG.out HYK.out HB.out⟩, KN.out⟩
                case measure => simp [intOf] <;> omega
            · obtain rfl : kn = k := by omega
              have hg := HG.out
              rw [List.take_of_length_le (by have := HKL.out; omega)] at hg
              have HA12 := Lib.hid hg
              clear hg HG
              go_wp2_with fail
              go_loopw [10, 13] (fun e i wr => ∃ k : Nat, k ≤ kn ∧ i = .int .i64 k ∧ ((e = .int .i64 0 ∧ ∀ y ∈ ks.take k, (kUnk l) y = false) ∨ (e = .int .i64 4 ∧ ks.any ((kUnk l)) = true)) ∧ Kp No w wr) (fun _ i _ => kn - (intOf i).toNat)
              case atStart => exact ⟨0, by omega, rfl, .inl ⟨rfl, fun x hx => by simp at hx⟩, K12.out⟩
              case round =>
                obtain ⟨k, hk, rfl, hE, hkp⟩ := hrel
                have K13 := Lib.hid hkp
                clear hkp
                rcases hE with ⟨rfl, hg⟩ | ⟨rfl, hb⟩
                · have HG := Lib.hid hg
                  clear hg
                  by_cases hlt : k < kn
                  · obtain ⟨y, hyk⟩ : ∃ x, ks[k]? = some x := ⟨_, List.getElem?_eq_getElem (by have := HKL.out; omega)⟩
                    obtain ⟨b, o, rfl, hbb, hcy⟩ := HK.out.row.2 k y hyk
                    have c0 := K13.out.cell (hcy 0 _ rfl) id
                    simp only [Nat.add_zero, Nat.mul_one] at c0
                    have HYK := Lib.hid hyk
                    have HYM := Lib.hid (List.mem_of_getElem? hyk)
                    have hk0 : (0 : Int) ≤ (k : Int) := by omega
                    have hkn : (k : Int) < (kn : Int) := by omega
                    clear hyk hcy
                    have hyn : y.n ≤ 1000000 := by
                      have := HA11.out y HYM.out
                      unfold kLong at this
                      have := of_decide_eq_false this
                      omega
                    have KW := known13_is A y.A n ca y.n y.c l y.ps wr (HX.out.no K13.out) ((HK.out.key y HYM.out).no K13.out) hn hyn
                    rw [knownE_of (HA12.out y HYM.out)] at KW
                    cases hr : kUnk l y
                    · rw [hr, if_neg (by decide)] at KW
                      replace KW := Lib.hid KW
                      have HB := Lib.hid hr
                      clear hr
                      go_wp2_with fail
                      refine KW.out.mono ?_
                      rintro _ w3 ⟨rfl, k3⟩
                      have KN := Lib.hid (K13.out.tr k3)
                      clear k3
                      go_wp2_with fail
                      go_round
                      case rel => exact ⟨k + 1, by omega, by go_num, .inl ⟨rfl, take_no HG.out HYK.out HB.out⟩, KN.out⟩
                      case measure => simp [intOf] <;> omega
                    · rw [hr, if_pos rfl] at KW
                      replace KW := Lib.hid KW
                      have HB := Lib.hid hr
                      clear hr
                      go_wp2_with fail
                      refine KW.out.mono ?_
                      rintro _ w3 ⟨rfl, k3⟩
                      have KN := Lib.hid (K13.out.tr k3)
                      clear k3
                      go_wp2_with fail
                      go_round
                      case rel => exact ⟨k + 1, by omega, by go_num, .inr ⟨rfl, List.any_eq_true.2 ⟨y, HYM.out, HB.out⟩⟩, KN.out⟩
                      case measure => simp [intOf] <;> omega
                  · obtain rfl : kn = k := by omega
                    have hg := HG.out
                    rw [List.take_of_length_le (by have := HKL.out; omega)] at hg
                    have HA13 := Lib.hid hg
                    clear hg HG
                    go_wp2_with fail
                    have hE0 := keysE_ok HC0.out HCH.out (fun h => h.elim (fun h => by have := HKL.out; omega) (any_no HA11.out)) (any_no HA12.out) (any_no HA13.out)
                    have hV : keysV l ps c ks = ks.map (fun k => sumAt l ps k.ps c) := by
                      unfold keysV
                      rw [if_pos hE0, Int.toNat_natCast]
                    have FIN := Lib.hid (fun w' (v : Value) (h1 : w'.ownsRow w.heap.size 25 2 v (ks.map (fun k => sumAt l ps k.ps c)).length ((ks.map (fun k => sumAt l ps k.ps c)).flatMap ivC)) (h2 : Kp No w w') => show KeysP l ps c ks w (.returned (.tuple #[v, .int .i64 0])) w' from ⟨v, by rw [hE0], by rw [hV]; exact h1, h2⟩)
                    clear hE0 hV
                    go_loopw [14, 15] (fun s i wr => ∃ j : Nat, j ≤ kn ∧ i = .int .i64 j ∧ wr.ownsRow w.heap.size 25 2 s j (((ks.map (fun k => sumAt l ps k.ps c)).take j).flatMap ivC) ∧ Kp No w wr) (fun _ i _ => kn - (intOf i).toNat)
                    case atStart => exact ⟨0, by omega, rfl, ⟨rfl, .inl ⟨rfl, rfl⟩⟩, K13.out⟩
                    case round =>
                      obtain ⟨j, hj, rfl, hown, hkp⟩ := hrel
                      have HOW := Lib.hid hown
                      have HKJ := Lib.hid hkp
                      obtain ⟨av, cv, rfl, _, _, _⟩ := own_form hown
                      clear hown hkp
                      by_cases hlt : j < kn
                      · obtain ⟨y, hyk⟩ : ∃ x, ks[j]? = some x := ⟨_, List.getElem?_eq_getElem (by have := HKL.out; omega)⟩
                        obtain ⟨b, o, rfl, hbb, hcy⟩ := HK.out.row.2 j y hyk
                        have c0 := HKJ.out.cell (hcy 0 _ rfl) id
                        simp only [Nat.add_zero, Nat.mul_one] at c0
                        have hym := List.mem_of_getElem? hyk
                        have hyn : y.n ≤ 200 := by
                          have := HA11.out y hym
                          unfold kLong at this
                          have := of_decide_eq_false this
                          omega
                        have TA := taken13_is A P y.A n m y.n ca cp y.c c l ps y.ps wr (HX.out.no HKJ.out) (HP.out.no HKJ.out) ((HK.out.key y hym).no HKJ.out) hn hm (by omega) (good_of HC0.out) (by
                          intro p hp
                          have := HA13.out y hym
                          unfold kUnk at this
                          rw [List.any_eq_false] at this
                          have := this p hp
                          cases hi : (rowOf l p).isSome
                          · rw [hi] at this; exact absurd rfl this
                          · rfl) hcm
                        obtain ⟨S, hS⟩ : ∃ S, sumAt l ps y.ps c = S := ⟨_, rfl⟩
                        rw [hS] at TA
                        have HSN := Lib.hid (show (ks.map (fun k => sumAt l ps k.ps c)).take (j + 1) = (ks.map (fun k => sumAt l ps k.ps c)).take j ++ [S] by rw [List.take_add_one, List.getElem?_map, hyk, ← hS]; rfl)
                        obtain ⟨s1, s2⟩ := S
                        simp only [ivV] at TA
                        have TK := Lib.hid TA
                        have hk0 : (0 : Int) ≤ (j : Int) := by omega
                        have hkn : (j : Int) < (kn : Int) := by omega
                        clear hyk hcy hS TA hym
                        go_wp2_with fail
                        refine TK.out.mono ?_
                        rintro _ w4 ⟨rfl, k4⟩
                        have K4 := Lib.hid (HKJ.out.tr k4)
                        have OW2 := Lib.hid (own_kp (own_kp HOW.out k4 (fun _ _ h => h)) (Kp.alloc No w4 (.cells #[.int .i64 s1, .int .i64 s2] 25)) (fun _ _ h => h))
                        have HNW := Lib.hid (newsIv w4 (.int .i64 s1) (.int .i64 s2) 25)
                        have SZ := Lib.hid (show w.heap.size ≤ w4.heap.size from K4.out.size)
                        clear k4 TK
                        go_wp2_with (at_builtin; refine stop_in ?_)
                        refine stop_out ?_
                        refine wpL_append_any rfl _ _ 38 rfl w.heap.size 25 i0 _ 2 16 Tryz.underlying38 HI.out hz0 hz1 hz2 rfl (by decide) (.slice av j cv) j (((ks.map (fun k => sumAt l ps k.ps c)).take j).flatMap ivC) rfl OW2.out (some ⟨w4.heap.size, 0, none⟩) 1 1 (ivC (s1, s2)) rfl rfl (fun h => by cases h) (fun ad had j u hu => by cases had; exact HNW.out j u hu) (ivC_one' _) (by unfold maxLen; omega) (by omega) (by have := SZ.out; simp; omega) ?_
                        intro v' w5 hown' hgrow _
                        have hk5 : Kp No w w5 := K4.out.trans ((Kp.alloc (fun g => w.heap.size ≤ g) _ _).tr (Kp.grown hgrow fun g hg _ => (own_ge HOW.out hg).1)) (fun g hg h => absurd h (Nat.not_le.2 hg))
                        have HO5 := Lib.hid hown'
                        have HK5 := Lib.hid hk5
                        clear hown' hgrow hk5
                        go_wp2_with fail
                        go_round
                        case rel => exact ⟨j + 1, by omega, by go_num, by rw [HSN.out, flat_snoc]; exact HO5.out, HK5.out⟩
                        case measure => simp [intOf] <;> omega
                      · obtain rfl : kn = j := by omega
                        have hO := HOW.out
                        have hlen : (ks.map (fun k => sumAt l ps k.ps c)).length = kn := by rw [List.length_map]; exact HKL.out
                        rw [List.take_of_length_le (by omega)] at hO
                        have HO := Lib.hid (FIN.out wr (.slice av kn cv) (by rw [hlen]; exact hO) HKJ.out)
                        clear hO
                        go_wp2_with fail
                        exact bodyPost_ret (v := .tuple #[.slice av kn cv, .int .i64 0]) (by simp [results, Tryz.results24, go_sem]) rfl HO.out
                · have FIN := Lib.hid (fun w' hk' => keys_nil (w := w) (w' := w') (show keysE l ps c ks = 4 from keysE_unk HC0.out HCH.out (fun h => h.elim (fun h => by have := HKL.out; omega) (any_no HA11.out)) (any_no HA12.out) hb) (by omega) hk')
                  have h01 : (0 : Int) < (kn : Int) := by
                    have := HKL.out
                    have h2 : ks ≠ [] := fun e => by rw [e] at hb; cases hb
                    have := List.length_pos_iff.2 h2
                    omega
                  clear hb
                  by_cases hlt : k < kn
                  · have hkn : (k : Int) < (kn : Int) := by omega
                    go_wp2_with fail
                    exact bodyPost_ret (v := .tuple #[.slice none 0 0, .int .i64 4]) (by simp [results, Tryz.results24, go_sem]) rfl (FIN.out _ K13.out)
                  · have hkn : ¬ (k : Int) < (kn : Int) := by omega
                    go_wp2_with fail
                    exact bodyPost_ret (v := .tuple #[.slice none 0 0, .int .i64 4]) (by simp [results, Tryz.results24, go_sem]) rfl (FIN.out _ K13.out)
          · have FIN := Lib.hid (fun w' hk' => keys_nil (w := w) (w' := w') (show keysE l ps c ks = 6 from keysE_form HC0.out HCH.out (fun h => h.elim (fun h => by have := HKL.out; omega) (any_no HA11.out)) hb) (by omega) hk')
            have h01 : (0 : Int) < (kn : Int) := by
              have := HKL.out
              have h2 : ks ≠ [] := fun e => by rw [e] at hb; cases hb
              have := List.length_pos_iff.2 h2
              omega
            clear hb
            by_cases hlt : k < kn
            · have hkn : (k : Int) < (kn : Int) := by omega
              go_wp2_with fail
              go_loopw [10, 13] (fun e i wr => e = .int .i64 6 ∧ i = .int .i64 0 ∧ Kp No w wr) (fun _ _ _ => 0)
              case atStart => exact ⟨rfl, rfl, K12.out⟩
              case round =>
                obtain ⟨rfl, rfl, hkp⟩ := hrel
                have KX13 := Lib.hid hkp
                clear hkp
                go_wp2_with fail
                exact bodyPost_ret (v := .tuple #[.slice none 0 0, .int .i64 6]) (by simp [results, Tryz.results24, go_sem]) rfl (FIN.out _ KX13.out)
            · have hkn : ¬ (k : Int) < (kn : Int) := by omega
              go_wp2_with fail
              go_loopw [10, 13] (fun e i wr => e = .int .i64 6 ∧ i = .int .i64 0 ∧ Kp No w wr) (fun _ _ _ => 0)
              case atStart => exact ⟨rfl, rfl, K12.out⟩
              case round =>
                obtain ⟨rfl, rfl, hkp⟩ := hrel
                have KX13 := Lib.hid hkp
                clear hkp
                go_wp2_with fail
                exact bodyPost_ret (v := .tuple #[.slice none 0 0, .int .i64 6]) (by simp [results, Tryz.results24, go_sem]) rfl (FIN.out _ KX13.out)
    · have FIN := Lib.hid (fun w' hk' => keys_nil (w := w) (w' := w') (show keysE l ps c ks = 3 from keysE_long HC0.out HCH.out (.inr hb)) (by omega) hk')
      have h01 : (0 : Int) < (kn : Int) := by
        have := HKL.out
        have h2 : ks ≠ [] := fun e => by rw [e] at hb; cases hb
        have := List.length_pos_iff.2 h2
        omega
      clear hb
      by_cases hlt : k < kn
      · have hkn : (k : Int) < (kn : Int) := by omega
        go_wp2_with fail
        go_loopw [10, 12] (fun e i wr => e = .int .i64 3 ∧ i = .int .i64 0 ∧ Kp No w wr) (fun _ _ _ => 0)
        case atStart => exact ⟨rfl, rfl, K11.out⟩
        case round =>
          obtain ⟨rfl, rfl, hkp⟩ := hrel
          have KX12 := Lib.hid hkp
          clear hkp
          go_wp2_with fail
          go_loopw [10, 13] (fun e i wr => e = .int .i64 3 ∧ i = .int .i64 0 ∧ Kp No w wr) (fun _ _ _ => 0)
          case atStart => exact ⟨rfl, rfl, KX12.out⟩
          case round =>
            obtain ⟨rfl, rfl, hkp⟩ := hrel
            have KX13 := Lib.hid hkp
            clear hkp
            go_wp2_with fail
            exact bodyPost_ret (v := .tuple #[.slice none 0 0, .int .i64 3]) (by simp [results, Tryz.results24, go_sem]) rfl (FIN.out _ KX13.out)
      · have hkn : ¬ (k : Int) < (kn : Int) := by omega
        go_wp2_with fail
        go_loopw [10, 12] (fun e i wr => e = .int .i64 3 ∧ i = .int .i64 0 ∧ Kp No w wr) (fun _ _ _ => 0)
        case atStart => exact ⟨rfl, rfl, K11.out⟩
        case round =>
          obtain ⟨rfl, rfl, hkp⟩ := hrel
          have KX12 := Lib.hid hkp
          clear hkp
          go_wp2_with fail
          go_loopw [10, 13] (fun e i wr => e = .int .i64 3 ∧ i = .int .i64 0 ∧ Kp No w wr) (fun _ _ _ => 0)
          case atStart => exact ⟨rfl, rfl, KX12.out⟩
          case round =>
            obtain ⟨rfl, rfl, hkp⟩ := hrel
            have KX13 := Lib.hid hkp
            clear hkp
            go_wp2_with fail
            exact bodyPost_ret (v := .tuple #[.slice none 0 0, .int .i64 3]) (by simp [results, Tryz.results24, go_sem]) rfl (FIN.out _ KX13.out)
theorem rkeys_any (A P Q : Option Addr) (n m kn ca cp cq : Nat) (chest : Int) (l : List Rw) (ps : List Int) (ks : List Ky) (w : World) (hx : Rd rwC 5 w A n l) (hp : RdI .i64 w P m ps) (hks : RdK w Q kn ks) (hm : m ≤ 1000000) (hn : n ≤ 1000000) :
    Calls Tryz.prog 24 #[.slice A n ca, .slice P m cp, .int .i64 chest, .slice Q kn cq] w (KeysP l ps chest ks w) := by
  by_cases h0 : opnE l ps = 0
  · by_cases hc : chest < 0 ∨ (m : Int) ≤ chest
    · exact rkeys_chest A P Q n m kn ca cp cq chest l ps ks w hx hp hks.row.1 hm h0 hc
    · obtain ⟨c, rfl⟩ : ∃ c : Nat, chest = (c : Int) := ⟨chest.toNat, by omega⟩
      by_cases hk : 128 < kn
      · exact rkeys_long A P Q n m kn ca cp cq c l ps ks w hx hp hks.row.1 hm h0 (by omega) hk
      · exact rkeys_in A P Q n m kn ca cp cq c l ps ks w hx hp hks.row.1 hm h0 (by omega) (by omega) hks hn
  · exact rkeys_opn A P Q n m kn ca cp cq chest l ps ks w hx hp hks.row.1 hm h0
end Go.Proofs.YtlieijnhaolnhaaGreat
