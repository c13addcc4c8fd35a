/- Chapter 15: law StarvingProves. Printed by gen_lpr.py. -/
import Derived.Test.YtpkbpeeelpgmcaaXShnM
import Derived.Test.YtpkbpeeelpgmcaaXLprQM
import Derived.Test.YtpkbpeeelpgmcaaXLibHxM
import Derived.Test.YtpkbpeeelpgmcaaXWdL
namespace Go.Proofs.Ytpkbpeeelpgmcaa
open Go.RowKit Go.Kq Go.Flow

theorem ask_nok {Z : Nz} {l : List Sto} {S K : List Int} (h : AskW Z l S K 0) : AskW Z l S [] 0 := by
  obtain ⟨h1, h2, _⟩ := ask_zero h
  exact .inr ⟨h1, by rw [h2]; rfl⟩
theorem dmd_nil (nch : Nat) (l : List Sto) (ss : List Nat) : dmd nch l ss [] = List.replicate nch 0 := by
  unfold dmd dmF
  have h : ∀ (ss : List Nat) (o : List Int), ss.foldl (fun o i => dmS (l.getD i default) [] o) o = o := by
    intro ss
    induction ss with
    | nil => intro o; rfl
    | cons x ss ih => intro o; rw [List.foldl_cons, ih]; rfl
  exact h ss _
theorem sumZ_zero : ∀ n, sumZ (List.replicate n 0) = 0
  | 0 => rfl
  | n + 1 => by rw [List.replicate_succ]; unfold sumZ; rw [sumZ_zero n]; rfl
theorem held_nn {R : Nat → Bool} : ∀ L : List (Nat × Int), (∀ x ∈ L, 0 ≤ x.2) → 0 ≤ held R L
  | [], _ => by simp [held]
  | x :: L, h => by
    have h1 := held_nn (R := R) L fun y hy => h y (by simp [hy])
    have h2 := h x (by simp)
    unfold held
    split <;> omega
/-- No keys: nothing is starved. -/
theorem star_nil {N : Net} (hN : N.Ok) (l : List Sto) (ss : List Nat) : starB N l ss [] = false := by
  rw [← Bool.not_eq_true, starB_iff]
  rintro ⟨R, _, h⟩
  rw [dmd_nil, sumZ_zero] at h
  have h1 := out_nn hN false R
  have h2 := held_nn (R := R) (N.ch.zip (List.replicate N.ch.length 0)) fun x hx => by
    have := (List.of_mem_zip hx).2
    rw [(List.mem_replicate.1 this).2]
    exact Int.le_refl _
  unfold Net.wt at h
  omega
theorem allB_one (ss : List Nat) (k : Nat) : allB (ss.map Int.ofNat) [(k : Int)] = decide (k ∈ ss) := by
  unfold allB
  rw [List.all_cons, List.all_nil, Bool.and_true, Bool.eq_iff_iff, decide_eq_true_eq, decide_eq_true_eq]
  constructor
  · intro h
    obtain ⟨x, hx, e⟩ := List.mem_map.1 h
    have : x = k := by simp at e; omega
    exact this ▸ hx
  · intro h
    exact List.mem_map.2 ⟨k, h, rfl⟩
/-- The bits of a set. -/
def bitsR (R : Nat → Bool) (n : Nat) : List Bool := (List.range n).map R
set_option maxHeartbeats 8000000 in
set_option maxRecDepth 100000 in
theorem proves_any (Z : Nz) (l : List Sto) (vs : List Sv) (A B C P Q : Option Addr) (ca cb n cc p cp q cq : Nat) (S K : List Int) (m : Int) (w : World) (hR : RdNz w A B Z) (hS : RdSt w C n vs l) (hP : RdI .i64 w P p S) (hQ : RdI .i64 w Q q K) (hm : 0 ≤ m ∧ m < 256) (hpb : p ≤ maxLen) (hqb : q ≤ maxLen) :
    Calls Try.prog 4 #[windV Z A B C ca cb n cc, comboV P p cp Q q cq, .int .u8 m] w fun e w' => e = .returned (.bool true) ∧ Kp No w w' := by
  obtain ⟨g, hg⟩ : ∃ g, g = w.heap.size := ⟨_, rfl⟩
  obtain ⟨w0, hw0⟩ : ∃ w0, (w.alloc (.cells #[.int .i64 Z.n, .slice A Z.tr.length ca, .slice B Z.ch.length cb, .slice C n cc] 28)).alloc (.cells #[.slice P p cp, .slice Q q cq] 30) = w0 := ⟨_, rfl⟩
  have hk0 : Kp No w w0 := by rw [← hw0]; exact (Kp.alloc _ _ _).tr (Kp.alloc _ _ _)
  have HBX := Lib.hid (show w0.heap[g]? = some (.cells #[.int .i64 Z.n, .slice A Z.tr.length ca, .slice B Z.ch.length cb, .slice C n cc] 28 (0, 0)) by rw [← hw0, hg]; exact (Kp.alloc No _ _).heap (heap_alloc_new w _) id)
  have HBC := Lib.hid (show w0.heap[g + 1]? = some (.cells #[.slice P p cp, .slice Q q cq] 30 (0, 0)) by
    rw [← hw0, hg]
    have := heap_alloc_new (w.alloc (.cells #[.int .i64 Z.n, .slice A Z.tr.length ca, .slice B Z.ch.length cb, .slice C n cc] 28)) (.cells #[.slice P p cp, .slice Q q cq] 30)
    simpa using this)
  have HK := Lib.hid hk0
  have HR := Lib.hid (hR.no hk0)
  have HS := Lib.hid (hS.no hk0)
  have HP := Lib.hid (hP.no hk0)
  have HQ := Lib.hid (hQ.no hk0)
  have FA := far_any Z l vs A B C ca cb n cc w0 HS.out
  have RC := fun W (k : Kp No w0 W) => rWcheck_any Z l vs A B C ca cb n cc W (HR.out.no k) (HS.out.no k)
  have DB := fun c W (k : Kp No w0 W) (hp : p ≤ 9223372036854775807) (hq : q ≤ 9223372036854775807) (hc : AskW Z l S K c) (hz : c ≠ 0) => Demand_bad Z l vs A B C P Q ca cb n cc p cp q cq S K c W (HR.out.no k) (HS.out.no k) (HP.out.no k) (HQ.out.no k) hp hq hc hz
  unfold maxLen at hpb hqb
  unfold windV at FA RC DB ⊢
  unfold comboV at DB ⊢
  replace FA := Lib.hid FA
  replace RC := Lib.hid RC
  replace DB := Lib.hid DB
  clear hk0 hR hS hP hQ
  obtain ⟨p0, p1, p2, p3⟩ := four_at HBX.out
  obtain ⟨q0, q1, _, _⟩ := cell_head HBC.out
  subst hg
  go_enter Try.func4, Try.ntmps4
  go_wp2_with fail
  with_reducible refine FA.out.mono ?_
  rintro e w1 ⟨b, rfl, k1⟩
  have K1 := Lib.hid k1
  have B1 := Lib.hid (k1.heap HBX.out id)
  have C1 := Lib.hid (k1.heap HBC.out id)
  clear p0 p1 p2 p3 q0 q1 k1
  obtain ⟨p0, p1, p2, p3⟩ := four_at B1.out
  obtain ⟨q0, q1, _, _⟩ := cell_head C1.out
  cases b with
  | true =>
    go_wp2_with fail
    with_reducible refine (shown_any _).mono ?_
    rintro e w2 ⟨rfl, k2⟩
    go_wp2_with fail
    go_ret
    exact ⟨rfl, HK.out.tr (K1.out.tr k2)⟩
  | false =>
    obtain ⟨eN, heN⟩ : ∃ eN, wrap64 ((p : Int) + (q : Int)) = eN := ⟨_, rfl⟩
    by_cases h100 : 100 < eN
    · have d0 : decide (100 < eN) = true := decide_eq_true h100
      clear h100
      go_wp2_with fail
      with_reducible refine (shown_any _).mono ?_
      rintro e w2 ⟨rfl, k2⟩
      go_wp2_with fail
      go_ret
      exact ⟨rfl, HK.out.tr (K1.out.tr k2)⟩
    · have d0 : decide (100 < eN) = false := decide_eq_false h100
      clear h100
      go_wp2_with fail
      with_reducible refine (RC.out _ K1.out).mono ?_
      rintro e w2 ⟨cz, rfl, hcz, k2⟩
      have K2 := Lib.hid (K1.out.tr k2)
      have B2 := Lib.hid (k2.heap B1.out id)
      have C2 := Lib.hid (k2.heap C1.out id)
      have HCZ := Lib.hid hcz
      clear p0 p1 p2 p3 q0 q1 k2 hcz
      obtain ⟨p0, p1, p2, p3⟩ := four_at B2.out
      obtain ⟨q0, q1, _, _⟩ := cell_head C2.out
      by_cases hz : cz = 0
      rotate_left
      · have d1 : (cz != 0) = true := by rw [bne_iff_ne]; exact hz
        clear hz
        go_wp2_with fail
        with_reducible refine (shown_any _).mono ?_
        rintro e w3 ⟨rfl, k3⟩
        go_wp2_with fail
        go_ret
        exact ⟨rfl, HK.out.tr (K2.out.tr k3)⟩
      subst hz
      obtain ⟨ca', hca⟩ := ask_total Z l S K
      by_cases hz : ca' = 0
      rotate_left
      · have DX := Lib.hid (DB.out ca' w2 K2.out (by omega) (by omega) hca hz)
        have d1 : (ca' != 0) = true := by rw [bne_iff_ne]; exact hz
        clear hz hca
        go_wp2_with fail
        with_reducible refine DX.out.mono ?_
        rintro e w3 ⟨rfl, k3⟩
        have K3 := Lib.hid (K2.out.tr k3)
        clear k3
        go_wp2_with fail
        with_reducible refine (shown_any _).mono ?_
        rintro e w4 ⟨rfl, k4⟩
        go_wp2_with fail
        go_ret
        exact ⟨rfl, HK.out.tr (K3.out.tr k4)⟩
      subst hz
      obtain ⟨N, hN, rfl, hok⟩ := chk_net HCZ.out
      obtain ⟨ss, ks, rfl, rfl⟩ := ask_nat hca
      have HAK := Lib.hid hca
      have hcb := ask_cb hca
      have DO := Demand_ok (nz N) l vs A B C P Q ca cb n cc p cp q cq ss ks w2 (HR.out.no K2.out) (HS.out.no K2.out) (HP.out.no K2.out) (HQ.out.no K2.out) hca (by have := hN.c1; rw [nz_ch]; omega)
      obtain ⟨s1, s2, s3, s4, t1, t2, t3⟩ := ask_ok hca
      have hl := HS.out.len
      have hl1 := hok.l1
      have hl8 := hok.l8
      have SO := fun W (k : Kp No w0 W) => Starves_ok N hN l vs A B C P Q ca cb n cc p cp q cq ss ks W (rdnet_z (HR.out.no k)) (HS.out.no k) (HP.out.no k) (HQ.out.no k) hca
      have SF := fun W (k : Kp No w0 W) => Safe_ok N hN l vs A B C P ca cb n cc p cp ss W (rdnet_z (HR.out.no k)) (HS.out.no k) (HP.out.no k) (ask_nok hca)
      have hnn := safN_nn (K := keysN l) (star_nil hN l ss)
      have hlt : starB N l ss ks = true → safN (keysN l) (starB N l ss) < ks.length := fun h => safN_lt t1 t2 h
      have HDB := Lib.hid (dmd_bd hok s4 t3)
      have HDL := Lib.hid (dmd_len N.ch.length l ss ks)
      have hpl : ss.length = p := by have := HP.out.1; simpa using this
      have hql : ks.length = q := by have := HQ.out.1; simpa using this
      rw [hql] at hlt
      have hp8 : p ≤ 8 := by omega
      have hq8 : q ≤ 8 := by omega
      have HLT := Lib.hid hlt
      unfold comboV at DO SO
      unfold windV at DO SO SF
      rw [nz_ch, nz_tr] at DO SO SF
      rw [nz_ch] at p2
      rw [nz_tr] at p1
      simp only [show (nz N).n = (N.n : Int) from rfl] at DO SO SF p0
      unfold StaR at SO
      generalize hsf : safN (keysN l) (starB N l ss) = sf at *
      have HSFE := Lib.hid hsf
      clear hsf
      replace DO := Lib.hid DO
      replace SO := Lib.hid SO
      replace SF := Lib.hid SF
      have HCB := Lib.hid hcb
      clear hlt hql hpl hca hcb s1 s2 s3 s4 t1 t2 t3
      go_wp2_with fail
      with_reducible refine DO.out.mono ?_
      rintro e w3 ⟨G, rfl, ho, k3⟩
      have HDR := Lib.hid (show RdI .i64 w3 (some ⟨G, 0, none⟩) N.ch.length (dmd N.ch.length l ss ks) from RdI.of_own ho)
      have K3 := Lib.hid (K2.out.tr k3)
      have B3 := Lib.hid (show w3.heap[w.heap.size]? = some (.cells #[.int .i64 N.n, .slice A N.tr.length ca, .slice B N.ch.length cb, .slice C n cc] 28 (0, 0)) from by
        have h := k3.heap B2.out id
        rw [nz_ch, nz_tr] at h
        exact h)
      have C3 := Lib.hid (k3.heap C2.out id)
      have S3 := Lib.hid (SO.out w3 K3.out)
      clear p0 p1 p2 p3 q0 q1 ho k3
      obtain ⟨p0, p1, p2, p3⟩ := four_at B3.out
      obtain ⟨q0, q1, _, _⟩ := cell_head C3.out
      go_wp2_with fail
      with_reducible refine S3.out.mono ?_
      rintro e w4 ⟨k4, hcase⟩
      have K4 := Lib.hid (K3.out.tr k4)
      have B4 := Lib.hid (k4.heap B3.out id)
      have C4 := Lib.hid (k4.heap C3.out id)
      have HDR4 := Lib.hid (HDR.out.no k4)
      have F4 := Lib.hid (SF.out w4 K4.out)
      have HK43 := Lib.hid k4
      clear p0 p1 p2 p3 q0 q1 k4
      obtain ⟨p0, p1, p2, p3⟩ := four_at B4.out
      obtain ⟨q0, q1, _, _⟩ := cell_head C4.out
      rcases hcase with ⟨hns, rfl⟩ | ⟨R, v, hmin, hlt2, rfl, hown⟩
      · have HNS := Lib.hid hns
        clear hns
        go_wp2_with fail
        with_reducible refine F4.out.mono ?_
        rintro e w5 ⟨rfl, k5⟩
        have K5 := Lib.hid (K4.out.tr k5)
        have B5 := Lib.hid (k5.heap B4.out id)
        have C5 := Lib.hid (k5.heap C4.out id)
        clear p0 p1 p2 p3 q0 q1 k5
        obtain ⟨p0, p1, p2, p3⟩ := four_at B5.out
        obtain ⟨q0, q1, _, _⟩ := cell_head C5.out
        have hn0 : (1 : Int) ≤ (n : Int) := by omega
        go_wp2_with fail
        obtain ⟨kk, hkk⟩ : ∃ kk, m % (n : Int) = kk := ⟨_, rfl⟩
        rw [hkk]
        clear hkk
        go_loopw [16, 17] (fun vo vi wr => ∃ (k : Nat) (D : Option Addr) (c : Nat), k ≤ n ∧ vi = .int .i64 (k : Nat) ∧ vo = .slice D (moreT ss kk k).length c ∧ OwI wr w5.heap.size (.slice D (moreT ss kk k).length c) ((moreT ss kk k).map Int.ofNat) ∧ Kp No w5 wr) (fun _ vi _ => n - (intOf vi).toNat)
        case atStart => exact ⟨0, none, 0, by omega, rfl, rfl, World.ownsRow_nil _ _ _ _, Kp.refl _ _⟩
        case round =>
          obtain ⟨k, D, c, hk, rfl, rfl, hown2, hkp⟩ := hrel
          have HO2 := Lib.hid hown2
          have HKP := Lib.hid hkp
          have BW := Lib.hid (hkp.heap B5.out id)
          have CW := Lib.hid (hkp.heap C5.out id)
          have HKW := Lib.hid (K5.out.tr hkp)
          clear p0 p1 p2 p3 q0 q1 hown2 hkp
          obtain ⟨p0, p1, p2, p3⟩ := four_at BW.out
          obtain ⟨q0, q1, _, _⟩ := cell_head CW.out
          by_cases hlt3 : k < n
          · have HMT0 := Lib.hid (moreT_succ ss kk k)
            by_cases hkk : (k : Int) = kk
            · have HMT := Lib.hid (show moreT ss kk (k + 1) = moreT ss kk k ++ [k] by rw [HMT0.out, decide_eq_true hkk]; simp)
              have d1 : ((k : Int) == kk) = true := by rw [beq_iff_eq]; exact hkk
              clear hkk
              go_wp2_with (at_builtin; refine stop_in ?_)
              refine stop_out ?_
              refine push_int rfl _ _ rfl w5.heap.size D (moreT ss kk k).length c ((moreT ss kk k).map Int.ofNat) (k : Int) rfl rfl rfl (List.length_map _) HO2.out (by have := moreT_len ss kk k; omega) HKP.out (Nat.le_refl _) HKP.out.size ?_
              intro G7 c7 w7 hown7 hk7 _
              have O7 := Lib.hid hown7
              have K7 := Lib.hid hk7
              clear hown7 hk7 p0 p1 p2 p3 q0 q1
              go_wp2_with fail
              go_roundw
              case rel =>
                refine ⟨k + 1, some ⟨G7, 0, none⟩, c7, by omega, by go_num, by rw [HMT.out]; simp, ?_, K7.out⟩
                rw [HMT.out]
                have h := O7.out
                simp only [List.map_append, List.map_cons, List.map_nil, List.length_append, List.length_cons, List.length_nil, Nat.zero_add] at h ⊢
                exact h
              case measure => simp [intOf]; omega

            · have d1 : ((k : Int) == kk) = false := by rw [beq_eq_false_iff_ne]; exact hkk
              have HKN := Lib.hid hkk
              have AL := all_any P (some ⟨wr.heap.size, 0, none⟩) p cp 1 1 (ss.map Int.ofNat) [(k : Int)] (wr.alloc (.cells #[.int .i64 (k : Nat)] 3)) (((HP.out.no HKW.out)).no (Kp.alloc _ _ _)) (rdi_new (w := wr) (e := 3) (xs := [(k : Int)]) rfl) (by omega) (by omega)
              rw [allB_one] at AL
              replace AL := Lib.hid AL
              clear hkk
              cases hq : decide (k ∈ ss) with
              | true =>
                have HMT := Lib.hid (show moreT ss kk (k + 1) = moreT ss kk k ++ [k] by rw [HMT0.out, hq]; simp)
                rw [hq] at AL
                clear hq
                go_wp2_with fail
                with_reducible refine AL.out.mono ?_
                rintro e w6 ⟨rfl, k6⟩
                have KZ := Lib.hid ((Kp.alloc No wr (.cells #[.int .i64 (k : Nat)] 3)).tr k6)
                have HO3 := Lib.hid (own_kp HO2.out KZ.out fun _ _ e => e)
                have HKP3 := Lib.hid (HKP.out.tr KZ.out)
                clear p0 p1 p2 p3 q0 q1 k6
                go_wp2_with (at_builtin; refine stop_in ?_)
                refine stop_out ?_
                refine push_int rfl _ _ rfl w5.heap.size D (moreT ss kk k).length c ((moreT ss kk k).map Int.ofNat) (k : Int) rfl rfl rfl (List.length_map _) HO3.out (by have := moreT_len ss kk k; omega) HKP3.out (Nat.le_refl _) HKP3.out.size ?_
                intro G7 c7 w7 hown7 hk7 _
                have O7 := Lib.hid hown7
                have K7 := Lib.hid hk7
                clear hown7 hk7
                go_wp2_with fail
                go_roundw
                case rel =>
                  refine ⟨k + 1, some ⟨G7, 0, none⟩, c7, by omega, by go_num, by rw [HMT.out]; simp, ?_, K7.out⟩
                  rw [HMT.out]
                  have h := O7.out
                  simp only [List.map_append, List.map_cons, List.map_nil, List.length_append, List.length_cons, List.length_nil, Nat.zero_add] at h ⊢
                  exact h
                case measure => simp [intOf]; omega

              | false =>
                have HMT := Lib.hid (show moreT ss kk (k + 1) = moreT ss kk k by rw [HMT0.out, hq, decide_eq_false HKN.out]; simp)
                rw [hq] at AL
                clear hq
                go_wp2_with fail
                with_reducible refine AL.out.mono ?_
                rintro e w6 ⟨rfl, k6⟩
                have KZ := Lib.hid ((Kp.alloc No wr (.cells #[.int .i64 (k : Nat)] 3)).tr k6)
                have HO3 := Lib.hid (own_kp HO2.out KZ.out fun _ _ e => e)
                have HKP3 := Lib.hid (HKP.out.tr KZ.out)
                clear p0 p1 p2 p3 q0 q1 k6
                go_wp2_with fail
                go_roundw
                case rel => exact ⟨k + 1, D, c, by omega, by go_num, by rw [HMT.out], by rw [HMT.out]; exact HO3.out, HKP3.out⟩
                case measure => simp [intOf]; omega
          · obtain rfl : k = n := by omega
            have HB2 := Lib.hid (show CbOk l.length (keysN l) ⟨moreT ss kk k, ks⟩ from ⟨moreT_up _ _ _, fun x hx => by have := moreT_lt hx; omega, HCB.out.k1, HCB.out.k2⟩)
            have hak2 := cb_ask HCZ.out HB2.out
            have hst : RdI .i64 wr D (moreT ss kk k).length ((moreT ss kk k).map Int.ofNat) := RdI.of_own (base := w5.heap.size) (e := 3) (cap := c) (by have h := HO2.out; unfold OwI at h; rwa [List.length_map] at h)
            have SO2 := Starves_ok N hN l vs A B C D Q ca cb k cc (moreT ss kk k).length c q cq (moreT ss kk k) ks wr (rdnet_z (HR.out.no HKW.out)) (HS.out.no HKW.out) hst (HQ.out.no HKW.out) hak2
            have F7 := fun W (kz : Kp No wr W) => Safe_ok N hN l vs A B C D ca cb k cc (moreT ss kk k).length c (moreT ss kk k) W (rdnet_z (HR.out.no (HKW.out.tr kz))) (HS.out.no (HKW.out.tr kz)) (hst.no kz) (ask_nok hak2)
            have HIN := Lib.hid (show ∀ x ∈ ss, x ∈ moreT ss kk k from fun x hx => moreT_in (by have := HCB.out.s2 x hx; rw [hl] at this; exact this) hx)
            have HMON := Lib.hid (show ∀ kl : List Nat, kl.Nodup → starB N l ss kl = true → starB N l (moreT ss kk k) kl = true from fun kl hn h => star_more hok (up_nodup HCB.out.s1) hn HIN.out h)
            have HLE := Lib.hid (show safN (keysN l) (starB N l (moreT ss kk k)) ≤ sf by rw [← HSFE.out]; exact safN_mono' fun s h => HMON.out _ (up_nodup (numB_up _ _)) h)
            unfold comboV at SO2
            unfold windV at SO2 F7
            rw [nz_ch, nz_tr] at SO2 F7
            simp only [show (nz N).n = (N.n : Int) from rfl] at SO2 F7
            unfold StaR at SO2
            replace SO2 := Lib.hid SO2
            replace F7 := Lib.hid F7
            have hle := HLE.out
            generalize safN (keysN l) (starB N l (moreT ss kk k)) = sf2 at *
            have dle : decide (sf2 ≤ sf) = true := decide_eq_true hle
            have K6 := Lib.hid HKW.out
            clear hle hst hak2
            go_wp2_with fail
            with_reducible refine SO2.out.mono ?_
            rintro e w9 ⟨k9, hcase9⟩
            have B9 := Lib.hid (k9.heap BW.out id)
            have C9 := Lib.hid (k9.heap CW.out id)
            clear p0 p1 p2 p3 q0 q1
            obtain ⟨p0, p1, p2, p3⟩ := four_at B9.out
            obtain ⟨q0, q1, _, _⟩ := cell_head C9.out
            rcases hcase9 with ⟨hns9, rfl⟩ | ⟨R9, v9, _, _, rfl, _⟩
            · go_wp2_with fail
              with_reducible refine (F7.out _ k9).mono ?_
              rintro e w10 ⟨rfl, k10⟩
              have K10 := Lib.hid ((K6.out.tr k9).tr k10)
              clear k9 k10
              go_wp2_with fail
              with_reducible refine (shown_any _).mono ?_
              rintro e w11 ⟨rfl, k11⟩
              go_wp2_with fail
              go_ret
              exact ⟨rfl, HK.out.tr (K10.out.tr k11)⟩

            · go_wp2_with fail
              with_reducible refine (F7.out _ k9).mono ?_
              rintro e w10 ⟨rfl, k10⟩
              have K10 := Lib.hid ((K6.out.tr k9).tr k10)
              clear k9 k10
              go_wp2_with fail
              with_reducible refine (shown_any _).mono ?_
              rintro e w11 ⟨rfl, k11⟩
              go_wp2_with fail
              go_ret
              exact ⟨rfl, HK.out.tr (K10.out.tr k11)⟩
      · obtain ⟨Dv, cv, rfl, _, _, _⟩ := own_form hown
        have HIS := Lib.hid (show starB N l ss ks = true from starB_iff.2 ⟨R, hmin.1, hlt2⟩)
        have hsq := HLT.out HIS.out
        have HRL0 := Lib.hid (show RdI .i64 w4 Dv (mem R N.n).length ((mem R N.n).map Int.ofNat) from RdI.of_own (base := w3.heap.size) (e := 3) (cap := cv) (by rw [List.map_map]; exact hown))
        have hA0 := hmin.1
        have HA0 := Lib.hid hA0.1
        have HML := Lib.hid (mem_up R N.n)
        have HMM := Lib.hid (fun x (h : x ∈ mem R N.n) => mem_lt h)
        have HM0 := Lib.hid (show 0 ∈ mem R N.n from List.mem_filter.2 ⟨List.mem_range.2 hN.n1, hA0.1⟩)
        have hmle := mem_le R N.n
        have hn24 := hN.n2
        have hn1 := hN.n1
        have HLT2 := Lib.hid hlt2
        have HOI := Lib.hid (fun v hv => of_in (N := N) R v hv)
        generalize hml : mem R N.n = ml at *
        have hmk := make_bools N.n (by omega)
        have d3 : decide ((q : Int) ≤ sf) = false := decide_eq_false (by omega)
        clear hmin hlt2 hown hA0 hml hsq
        go_wp2_with fail
        with_reducible refine F4.out.mono ?_
        rintro e u5 ⟨rfl, k5⟩
        have KU := Lib.hid (K4.out.tr k5)
        have BU := Lib.hid (k5.heap B4.out id)
        have CU := Lib.hid (k5.heap C4.out id)
        have HDU := Lib.hid (HDR4.out.no k5)
        have HRL := Lib.hid (HRL0.out.no k5)
        clear p0 p1 p2 p3 q0 q1 k5
        obtain ⟨p0, p1, p2, p3⟩ := four_at BU.out
        obtain ⟨q0, q1, _, _⟩ := cell_head CU.out
        have hn0 : (1 : Int) ≤ (n : Int) := by omega
        go_wp2_with fail
        obtain ⟨u6, hu6⟩ : ∃ u6, u5.alloc (.cells (Array.replicate N.n (Value.bool false)) 4) = u6 := ⟨_, rfl⟩
        have hk6 : Kp No u5 u6 := by rw [← hu6]; exact Kp.alloc _ _ _
        have H0 := Lib.hid (show u6.heap[u5.heap.size]? = some (.cells (inRow N.n []).toArray 4 (0, 0)) from by rw [← hu6, inRow_nil, List.toArray_replicate]; exact heap_alloc_new u5 _)
        rw [hu6]
        clear hu6 hmk p0 p1 p2 p3 q0 q1
        obtain ⟨gi, hgi⟩ : ∃ gi, gi = u5.heap.size := ⟨_, rfl⟩
        rw [← hgi] at H0 ⊢
        have HGI := Lib.hid hgi
        have HK6 := Lib.hid hk6
        clear hgi hk6
        go_loopw [14] (fun vi wr => ∃ k : Nat, k ≤ ml.length ∧ vi = .int .i64 (k : Nat) ∧ wr.heap[gi]? = some (.cells (inRow N.n (ml.take k)).toArray 4 (0, 0)) ∧ Kp (Kq.One gi) u6 wr) (fun vi _ => ml.length - (intOf vi).toNat)
        case atStart => exact ⟨0, by omega, rfl, by rw [List.take_zero]; exact H0.out, Kp.refl _ _⟩
        case round =>
          obtain ⟨k, hk, rfl, hin, hkp⟩ := hrel
          have HIN := Lib.hid hin
          have HKP := Lib.hid hkp
          have HKU := Lib.hid (show Kp No u5 wr from HK6.out.trans hkp fun b hb e => by have e : b = gi := e; have := HGI.out; omega)
          have BW := Lib.hid (HKU.out.heap BU.out id)
          have CW := Lib.hid (HKU.out.heap CU.out id)
          obtain ⟨p0, p1, p2, p3⟩ := four_at BW.out
          obtain ⟨q0, q1, _, _⟩ := cell_head CW.out
          have hgw : gi < wr.heap.size := (Array.getElem?_eq_some_iff.1 hin).1
          clear hin hkp
          by_cases hlt3 : k < ml.length
          · obtain ⟨x, hx⟩ : ∃ x, ml[k]? = some x := ⟨_, List.getElem?_eq_getElem hlt3⟩
            obtain ⟨bV, oV, rfl, hbV, z0⟩ := (HRL.out.no HKU.out).2 k _ (map_at hx)
            have hxn := HMM.out x (List.mem_of_getElem? hx)
            have hxn' : (x : Int) < N.n := by omega
            have z1 : wr.cell? ⟨gi, x, none⟩ = some (.bool false) := by
              rw [cell_of_row _ _ _ _ _ _ HIN.out]
              have h := inRow_at hxn (ml.take k)
              rw [decide_eq_false (up_not_take HML.out hx)] at h
              simpa using h
            have z2 : wr.frozen? ⟨gi, x, none⟩ = false := by simp [World.frozen?, HIN.out]
            have HTK := Lib.hid (show ml.take (k + 1) = ml.take k ++ [x] by rw [List.take_add_one, hx]; rfl)
            clear hx
            go_wp2_with fail
            go_roundw
            case rel =>
              refine ⟨k + 1, by omega, by go_num, ?_, HKP.out.tr (kp_setOne _ _ _ _)⟩
              rw [HTK.out, ← inRow_set]
              exact heap_set HIN.out _
            case measure => simp [intOf]; omega
          · obtain rfl : k = ml.length := by omega
            rw [List.take_of_length_le (Nat.le_refl _)] at HIN
            have hin0 : wr.cell? ⟨gi, 0, none⟩ = some (.bool true) := by
              rw [cell_of_row _ _ _ _ _ _ HIN.out]
              have h := inRow_at (show 0 < N.n by omega) ml
              rw [decide_eq_true HM0.out] at h
              simpa using h
            have OA := Outside_any N hN A B (some ⟨G, 0, none⟩) (some ⟨gi, 0, none⟩) ca cb N.ch.length N.n (dmd N.ch.length l ss ks) _ wr (rdnet_z (HR.out.no (KU.out.tr HKU.out))) (HDU.out.no HKU.out) (rd_in HIN.out) (fun d hd => by have := HDB.out d hd; omega)
            rw [wt_congr hN _ HOI.out] at OA
            unfold netV at OA
            have HLX := HLT2.out
            obtain ⟨dv, hdv⟩ : ∃ dv, sumZ (dmd N.ch.length l ss ks) - N.wt false (dmd N.ch.length l ss ks) R = dv := ⟨_, rfl⟩
            rw [hdv] at OA
            have d4 : decide (dv ≤ 0) = false := decide_eq_false (by omega)
            replace OA := Lib.hid OA
            have KWR := Lib.hid (KU.out.tr HKU.out)
            clear hdv HLX
            go_wp2_with fail
            with_reducible refine OA.out.mono ?_
            rintro e w5 ⟨rfl, k5⟩
            have K5 := Lib.hid (KWR.out.tr k5)
            have B5 := Lib.hid (k5.heap BW.out id)
            have C5 := Lib.hid (k5.heap CW.out id)
            clear p0 p1 p2 p3 q0 q1 k5 hin0 hgw BW CW
            obtain ⟨p0, p1, p2, p3⟩ := four_at B5.out
            obtain ⟨q0, q1, _, _⟩ := cell_head C5.out
            go_wp2_with fail
            obtain ⟨kk, hkk⟩ : ∃ kk, m % (n : Int) = kk := ⟨_, rfl⟩
            rw [hkk]
            clear hkk
            go_loopw [16, 17] (fun vo vi wr => ∃ (k : Nat) (D : Option Addr) (c : Nat), k ≤ n ∧ vi = .int .i64 (k : Nat) ∧ vo = .slice D (moreT ss kk k).length c ∧ OwI wr w5.heap.size (.slice D (moreT ss kk k).length c) ((moreT ss kk k).map Int.ofNat) ∧ Kp No w5 wr) (fun _ vi _ => n - (intOf vi).toNat)
            case atStart => exact ⟨0, none, 0, by omega, rfl, rfl, World.ownsRow_nil _ _ _ _, Kp.refl _ _⟩
            case round =>
              obtain ⟨k, D, c, hk, rfl, rfl, hown2, hkp⟩ := hrel
              have HO2 := Lib.hid hown2
              have HKP := Lib.hid hkp
              have BW := Lib.hid (hkp.heap B5.out id)
              have CW := Lib.hid (hkp.heap C5.out id)
              have HKW := Lib.hid (K5.out.tr hkp)
              clear p0 p1 p2 p3 q0 q1 hown2 hkp
              obtain ⟨p0, p1, p2, p3⟩ := four_at BW.out
              obtain ⟨q0, q1, _, _⟩ := cell_head CW.out
              by_cases hlt3 : k < n
              · have HMT0 := Lib.hid (moreT_succ ss kk k)
                by_cases hkk : (k : Int) = kk
                · have HMT := Lib.hid (show moreT ss kk (k + 1) = moreT ss kk k ++ [k] by rw [HMT0.out, decide_eq_true hkk]; simp)
                  have d1 : ((k : Int) == kk) = true := by rw [beq_iff_eq]; exact hkk
                  clear hkk
                  go_wp2_with (at_builtin; refine stop_in ?_)
                  refine stop_out ?_
                  refine push_int rfl _ _ rfl w5.heap.size D (moreT ss kk k).length c ((moreT ss kk k).map Int.ofNat) (k : Int) rfl rfl rfl (List.length_map _) HO2.out (by have := moreT_len ss kk k; omega) HKP.out (Nat.le_refl _) HKP.out.size ?_
                  intro G7 c7 w7 hown7 hk7 _
                  have O7 := Lib.hid hown7
                  have K7 := Lib.hid hk7
                  clear hown7 hk7 p0 p1 p2 p3 q0 q1
                  go_wp2_with fail
                  go_roundw
                  case rel =>
                    refine ⟨k + 1, some ⟨G7, 0, none⟩, c7, by omega, by go_num, by rw [HMT.out]; simp, ?_, K7.out⟩
                    rw [HMT.out]
                    have h := O7.out
                    simp only [List.map_append, List.map_cons, List.map_nil, List.length_append, List.length_cons, List.length_nil, Nat.zero_add] at h ⊢
                    exact h
                  case measure => simp [intOf]; omega

                · have d1 : ((k : Int) == kk) = false := by rw [beq_eq_false_iff_ne]; exact hkk
                  have HKN := Lib.hid hkk
                  have AL := all_any P (some ⟨wr.heap.size, 0, none⟩) p cp 1 1 (ss.map Int.ofNat) [(k : Int)] (wr.alloc (.cells #[.int .i64 (k : Nat)] 3)) (((HP.out.no HKW.out)).no (Kp.alloc _ _ _)) (rdi_new (w := wr) (e := 3) (xs := [(k : Int)]) rfl) (by omega) (by omega)
                  rw [allB_one] at AL
                  replace AL := Lib.hid AL
                  clear hkk
                  cases hq : decide (k ∈ ss) with
                  | true =>
                    have HMT := Lib.hid (show moreT ss kk (k + 1) = moreT ss kk k ++ [k] by rw [HMT0.out, hq]; simp)
                    rw [hq] at AL
                    clear hq
                    go_wp2_with fail
                    with_reducible refine AL.out.mono ?_
                    rintro e w6 ⟨rfl, k6⟩
                    have KZ := Lib.hid ((Kp.alloc No wr (.cells #[.int .i64 (k : Nat)] 3)).tr k6)
                    have HO3 := Lib.hid (own_kp HO2.out KZ.out fun _ _ e => e)
                    have HKP3 := Lib.hid (HKP.out.tr KZ.out)
                    clear p0 p1 p2 p3 q0 q1 k6
                    go_wp2_with (at_builtin; refine stop_in ?_)
                    refine stop_out ?_
                    refine push_int rfl _ _ rfl w5.heap.size D (moreT ss kk k).length c ((moreT ss kk k).map Int.ofNat) (k : Int) rfl rfl rfl (List.length_map _) HO3.out (by have := moreT_len ss kk k; omega) HKP3.out (Nat.le_refl _) HKP3.out.size ?_
                    intro G7 c7 w7 hown7 hk7 _
                    have O7 := Lib.hid hown7
                    have K7 := Lib.hid hk7
                    clear hown7 hk7
                    go_wp2_with fail
                    go_roundw
                    case rel =>
                      refine ⟨k + 1, some ⟨G7, 0, none⟩, c7, by omega, by go_num, by rw [HMT.out]; simp, ?_, K7.out⟩
                      rw [HMT.out]
                      have h := O7.out
                      simp only [List.map_append, List.map_cons, List.map_nil, List.length_append, List.length_cons, List.length_nil, Nat.zero_add] at h ⊢
                      exact h
                    case measure => simp [intOf]; omega

                  | false =>
                    have HMT := Lib.hid (show moreT ss kk (k + 1) = moreT ss kk k by rw [HMT0.out, hq, decide_eq_false HKN.out]; simp)
                    rw [hq] at AL
                    clear hq
                    go_wp2_with fail
                    with_reducible refine AL.out.mono ?_
                    rintro e w6 ⟨rfl, k6⟩
                    have KZ := Lib.hid ((Kp.alloc No wr (.cells #[.int .i64 (k : Nat)] 3)).tr k6)
                    have HO3 := Lib.hid (own_kp HO2.out KZ.out fun _ _ e => e)
                    have HKP3 := Lib.hid (HKP.out.tr KZ.out)
                    clear p0 p1 p2 p3 q0 q1 k6
                    go_wp2_with fail
                    go_roundw
                    case rel => exact ⟨k + 1, D, c, by omega, by go_num, by rw [HMT.out], by rw [HMT.out]; exact HO3.out, HKP3.out⟩
                    case measure => simp [intOf]; omega
              · obtain rfl : k = n := by omega
                have HB2 := Lib.hid (show CbOk l.length (keysN l) ⟨moreT ss kk k, ks⟩ from ⟨moreT_up _ _ _, fun x hx => by have := moreT_lt hx; omega, HCB.out.k1, HCB.out.k2⟩)
                have hak2 := cb_ask HCZ.out HB2.out
                have hst : RdI .i64 wr D (moreT ss kk k).length ((moreT ss kk k).map Int.ofNat) := RdI.of_own (base := w5.heap.size) (e := 3) (cap := c) (by have h := HO2.out; unfold OwI at h; rwa [List.length_map] at h)
                have SO2 := Starves_ok N hN l vs A B C D Q ca cb k cc (moreT ss kk k).length c q cq (moreT ss kk k) ks wr (rdnet_z (HR.out.no HKW.out)) (HS.out.no HKW.out) hst (HQ.out.no HKW.out) hak2
                have F7 := fun W (kz : Kp No wr W) => Safe_ok N hN l vs A B C D ca cb k cc (moreT ss kk k).length c (moreT ss kk k) W (rdnet_z (HR.out.no (HKW.out.tr kz))) (HS.out.no (HKW.out.tr kz)) (hst.no kz) (ask_nok hak2)
                have HIN := Lib.hid (show ∀ x ∈ ss, x ∈ moreT ss kk k from fun x hx => moreT_in (by have := HCB.out.s2 x hx; rw [hl] at this; exact this) hx)
                have HMON := Lib.hid (show ∀ kl : List Nat, kl.Nodup → starB N l ss kl = true → starB N l (moreT ss kk k) kl = true from fun kl hn h => star_more hok (up_nodup HCB.out.s1) hn HIN.out h)
                have HLE := Lib.hid (show safN (keysN l) (starB N l (moreT ss kk k)) ≤ sf by rw [← HSFE.out]; exact safN_mono' fun s h => HMON.out _ (up_nodup (numB_up _ _)) h)
                unfold comboV at SO2
                unfold windV at SO2 F7
                rw [nz_ch, nz_tr] at SO2 F7
                simp only [show (nz N).n = (N.n : Int) from rfl] at SO2 F7
                unfold StaR at SO2
                replace SO2 := Lib.hid SO2
                replace F7 := Lib.hid F7
                have hle := HLE.out
                generalize safN (keysN l) (starB N l (moreT ss kk k)) = sf2 at *
                have dle : decide (sf2 ≤ sf) = true := decide_eq_true hle
                have K6 := Lib.hid HKW.out
                clear hle hst hak2
                go_wp2_with fail
                with_reducible refine SO2.out.mono ?_
                rintro e w9 ⟨k9, hcase9⟩
                have B9 := Lib.hid (k9.heap BW.out id)
                have C9 := Lib.hid (k9.heap CW.out id)
                clear p0 p1 p2 p3 q0 q1
                obtain ⟨p0, p1, p2, p3⟩ := four_at B9.out
                obtain ⟨q0, q1, _, _⟩ := cell_head C9.out
                rcases hcase9 with ⟨hns9, rfl⟩ | ⟨R9, v9, _, _, rfl, _⟩
                · exact absurd (starB_iff.1 (HMON.out ks (up_nodup HCB.out.k1) HIS.out)) hns9
                · go_wp2_with fail
                  with_reducible refine (F7.out _ k9).mono ?_
                  rintro e w10 ⟨rfl, k10⟩
                  have K10 := Lib.hid ((K6.out.tr k9).tr k10)
                  clear k9 k10
                  go_wp2_with fail
                  with_reducible refine (shown_any _).mono ?_
                  rintro e w11 ⟨rfl, k11⟩
                  go_wp2_with fail
                  go_ret
                  exact ⟨rfl, HK.out.tr (K10.out.tr k11)⟩
end Go.Proofs.Ytpkbpeeelpgmcaa
