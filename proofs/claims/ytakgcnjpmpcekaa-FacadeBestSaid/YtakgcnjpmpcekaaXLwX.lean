/- Chapter 24: the law Best: the walk. Printed by gen_lwx.py. -/
import Derived.Test.YtakgcnjpmpcekaaXLwDM
import Derived.Test.YtakgcnjpmpcekaaXAwA
namespace Go.Proofs.Ytakgcnjpmpcekaa
open Go.RowKit Go.Kq

def wantV (least : Int) (B : Option Addr) (q cb : Nat) : Value := .agg #[.int .i64 least, .slice B q cb]
theorem want_cells {w : World} {g : Nat} {a b : Value} {t : TypeId} (h : w.heap[g]? = some (.cells #[a, b] t (0, 0))) : w.cell? ⟨g, 0, none⟩ = some a ∧ w.cell? ⟨g, 1, none⟩ = some b := by
  refine ⟨?_, ?_⟩ <;> (rw [cell_of_row _ _ _ _ _ _ h]; rfl)
set_option maxHeartbeats 8000000 in
set_option maxRecDepth 100000 in
theorem Best_any (A R B : Option Addr) (n ca m cr q cb : Nat) (l : List Fc) (r : List Int) (least : Int) (nums : List Int) (w : World) (hA : RdF w A n l) (hR : RdI .i64 w R m r) (hB : RdI .i64 w B q nums) :
    Calls Try.prog 6 #[.slice A n ca, .slice R m cr, wantV least B q cb] w fun e w' => e = .returned (.bool true) ∧ Kp No w w' := by
  have hk : Kp No w (w.alloc (.cells #[.int .i64 least, .slice B q cb] 45)) := Kp.alloc _ _ _
  have BX : (w.alloc (.cells #[.int .i64 least, .slice B q cb] 45)).heap[w.heap.size]? = some (.cells #[.int .i64 least, .slice B q cb] 45 (0, 0)) := heap_alloc_new _ _
  have HA := Lib.hid (hA.no hk)
  have HR := Lib.hid (hR.no hk)
  have HN := Lib.hid (hB.no hk)
  have HAL := Lib.hid hA.1
  have HRL := Lib.hid hR.1
  have HK := Lib.hid hk
  have HBX := Lib.hid BX
  clear hA hR hB hk BX
  unfold wantV
  generalize hw0 : w.alloc (.cells #[.int .i64 least, .slice B q cb] 45) = w0 at *
  obtain ⟨p0, p1⟩ := want_cells HBX.out
  by_cases h1 : 12 < n
  · go_enter Try.func6, Try.ntmps6
    go_wp2_with fail
    refine (awake_any _).mono ?_
    rintro e w4 ⟨rfl, k4⟩
    go_wp2_with fail
    go_ret
    exact ⟨rfl, HK.out.tr k4⟩
  by_cases h2 : 60 < m
  · go_enter Try.func6, Try.ntmps6
    go_wp2_with fail
    refine (awake_any _).mono ?_
    rintro e w4 ⟨rfl, k4⟩
    go_wp2_with fail
    go_ret
    exact ⟨rfl, HK.out.tr k4⟩
  by_cases h3 : 10 < q
  · go_enter Try.func6, Try.ntmps6
    go_wp2_with fail
    refine (awake_any _).mono ?_
    rintro e w4 ⟨rfl, k4⟩
    go_wp2_with fail
    go_ret
    exact ⟨rfl, HK.out.tr k4⟩
  have P1 := Lib.hid (Plan_any A R n ca m cr l r least w0 HA.out HR.out (by omega) (by omega))
  go_enter Try.func6, Try.ntmps6
  go_wp2_with fail
  refine P1.out.mono ?_
  clear P1
  rintro e w2 ⟨k2, hres⟩
  have HK2 := Lib.hid (HK.out.tr k2)
  have HK02 := Lib.hid k2
  have HBX2 := Lib.hid (k2.heap HBX.out id)
  clear p0 p1 k2
  obtain ⟨p0, p1⟩ := want_cells HBX2.out
  by_cases hEE : plnE l r least = 0 ∨ plnE l r least = 4
  rotate_left
  · rcases hres with ⟨_, rfl⟩ | ⟨hE, _⟩
    rotate_left
    · exact absurd (.inl hE) hEE
    have d1 : (plnE l r least != 0) = true := by simp; omega
    have d2 : (plnE l r least != 4) = true := by simp; omega
    generalize plnE l r least = E at *
    clear hEE
    go_wp2_with fail
    refine (awake_any _).mono ?_
    rintro e w4 ⟨rfl, k4⟩
    go_wp2_with fail
    go_ret
    exact ⟨rfl, HK2.out.tr k4⟩
  obtain ⟨hc, hp, ho⟩ := pln_parts hEE
  have HOK := Lib.hid (chk_ok hc)
  have HRX := Lib.hid (pip_ok hp)
  have HKD := Lib.hid (show ∀ f ∈ l, 1 ≤ f.k ∧ f.k ≤ 4 from fun f hf => by have := kind_of (HOK.out.2.1 f hf); omega)
  have DV := Lib.hid (fun w1 (k : Kp No w0 w1) => rDivided_any A B n ca m q cb l nums w1 (HA.out.no k) (HN.out.no k) (by omega) (by omega) (by omega) HKD.out)
  have WD := Lib.hid (fun g C cb plan w1 (k : Kp No w0 w1) (hB : RdL g w1 C n plan) (hpl : ∀ S ∈ plan, S.length ≤ 60 ∧ ∀ p ∈ S, 0 ≤ p ∧ p < (m : Int)) => rWidest_any g A R C n ca m cr cb l r plan w1 (HA.out.no k) (HR.out.no k) hB HOK.out.2.1 (by omega) (by omega) HRX.out.2 hpl)
  have D1 := Lib.hid (DV.out w2 HK02.out)
  clear hc hp ho DV
  rcases hres with ⟨hE, rfl⟩ | ⟨hE, g2, rfl, hr2⟩
  · have h4 : plnE l r least = 4 := by omega
    have HNO := Lib.hid (pln_none h4 (nums.map Int.toNat))
    rw [h4]
    clear hE hEE h4
    go_wp2_with fail
    refine D1.out.mono ?_
    clear D1
    rintro e w3 ⟨k3, ⟨hd, rfl⟩ | ⟨hd, g3, he3, hr3⟩⟩
    · have HK3 := Lib.hid (HK2.out.tr k3)
      have HK03 := Lib.hid (HK02.out.tr k3)
      have HBX3 := Lib.hid (k3.heap HBX2.out id)

      clear k3 p0 p1 hd
      obtain ⟨p0, p1⟩ := want_cells HBX3.out
      go_wp2_with fail
      refine (awake_any _).mono ?_
      rintro e w9 ⟨rfl, k9⟩
      go_wp2_with fail
      go_ret
      exact ⟨rfl, HK3.out.tr k9⟩
    · have hdn := dvJ_toNat _ _ _ _ _ hd
      obtain ⟨ns, hns⟩ : ∃ ns, ns = nums.map Int.toNat := ⟨_, rfl⟩
      rw [← hns] at HNO
      rw [← hns] at hdn hr3
      rw [HAL.out] at he3
      rw [HAL.out] at hr3
      subst he3
      have HD := Lib.hid (show dvN l.length r.length ((l.length + 1) / 2) 0 ns = true by rw [HRL.out]; exact hdn)
      have hpl := plan_in hdn (by omega)
      have HK3 := Lib.hid (HK2.out.tr k3)
      have HK03 := Lib.hid (HK02.out.tr k3)
      have HBX3 := Lib.hid (k3.heap HBX2.out id)

      have HR3 := Lib.hid (hr3.rd)
      have W1 := WD.out _ (some ⟨g3, 0, none⟩) n (intP (planN l ns)) w3 HK03.out HR3.out hpl
      rw [wid_int] at W1
      clear k3 p0 p1 hd hdn hns hr3 hpl
      obtain ⟨p0, p1⟩ := want_cells HBX3.out
      cases hz : widN l r (planN l ns) with
      | none =>
        rw [hz] at W1
        have W1 := Lib.hid W1
        unfold wid3 at W1
        dsimp only at W1
        clear hz
        go_wp2_with fail
        refine W1.out.mono ?_
        clear W1
        rintro e w4 ⟨rfl, k4⟩
        have HK4 := Lib.hid (HK3.out.tr k4)
        have HK04 := Lib.hid (HK03.out.tr k4)
        have HBX4 := Lib.hid (k4.heap HBX3.out id)

        clear k4 p0 p1
        obtain ⟨p0, p1⟩ := want_cells HBX4.out
        go_wp2_with fail
        refine (awake_any _).mono ?_
        rintro e w9 ⟨rfl, k9⟩
        go_wp2_with fail
        go_ret
        exact ⟨rfl, HK4.out.tr k9⟩
      | some pp =>
        obtain ⟨M, lo⟩ := pp
        have HRV := Lib.hid (refV_some (least := least) HD.out hz)
        rw [hz] at W1
        have W1 := Lib.hid W1
        unfold wid3 at W1
        dsimp only at W1 HRV
        clear hz
        go_wp2_with fail
        refine W1.out.mono ?_
        clear W1
        rintro e w4 ⟨rfl, k4⟩
        have HK4 := Lib.hid (HK3.out.tr k4)
        have HK04 := Lib.hid (HK03.out.tr k4)
        have HBX4 := Lib.hid (k4.heap HBX3.out id)
        replace HR3 := Lib.hid (HR3.out.no k4)

        clear k4 p0 p1
        obtain ⟨p0, p1⟩ := want_cells HBX4.out
        by_cases hlo : least ≤ lo
        · have h := HRV.out
          rw [HNO.out, if_pos hlo] at h
          cases h
        · go_wp2_with fail
          refine (awake_any _).mono ?_
          rintro e w9 ⟨rfl, k9⟩
          go_wp2_with fail
          go_ret
          exact ⟨ret_bool (by simp <;> omega), HK4.out.tr k9⟩
  · obtain ⟨gs, v, hpk⟩ := pln_known hE
    have HTD := Lib.hid (hpk.told hE)
    rw [hpk.list] at hr2
    rw [HAL.out] at hr2 ⊢
    have hdg : dvN l.length m ((l.length + 1) / 2) 0 gs = true := by
      have h := hpk.dv
      rwa [HRL.out] at h
    have HPM := Lib.hid (plan_perm l gs m hdg)
    have HPI := Lib.hid (plan_in hdg (by omega))
    have HB70 := Lib.hid (show ∀ S ∈ intP (planN l gs), S.length ≤ 70 from fun S hS => by have := (HPI.out S hS).1; omega)
    obtain ⟨lo2, hwi, hlo2⟩ := hpk.wid
    have HWI := Lib.hid hwi
    have HPK := Lib.hid hpk
    have HT2 := Lib.hid hr2.rd
    clear hpk hr2 hdg hwi hE hEE
    go_wp2_with fail
    refine D1.out.mono ?_
    clear D1
    rintro e w3 ⟨k3, ⟨hd, rfl⟩ | ⟨hd, g3, he3, hr3⟩⟩
    · have HK3 := Lib.hid (HK2.out.tr k3)
      have HK03 := Lib.hid (HK02.out.tr k3)
      have HBX3 := Lib.hid (k3.heap HBX2.out id)
      have HT3 := Lib.hid (HT2.out.no k3)
      clear k3 p0 p1 hd
      obtain ⟨p0, p1⟩ := want_cells HBX3.out
      have G1 := Gap_any _ A R (some ⟨g2, 0, none⟩) n ca m cr n n l r (intP (planN l gs)) _ (HA.out.no HK03.out) (HR.out.no HK03.out) HT3.out (by omega) (by omega) (by omega) HB70.out
      rw [HTD.out.1, HTD.out.2.1] at G1
      have G1 := Lib.hid G1
      go_wp2_with fail
      refine G1.out.mono ?_
      clear G1
      rintro e w5 ⟨rfl, k5⟩
      have HK5 := Lib.hid (HK3.out.tr k5)
      have HK05 := Lib.hid (HK03.out.tr k5)
      have HBX5 := Lib.hid (k5.heap HBX3.out id)
      have HT5 := Lib.hid (HT3.out.no k5)
      clear k5 p0 p1
      have M1 := Mirrored_any _ A (some ⟨g2, 0, none⟩) n ca n n l (intP (planN l gs)) _ (HA.out.no HK05.out) HT5.out (by omega) (by omega) HB70.out
      rw [HTD.out.2.2.1, HTD.out.2.2.2] at M1
      have M1 := Lib.hid M1
      go_wp2_with fail
      refine M1.out.mono ?_
      clear M1
      rintro e w6 ⟨rfl, k6⟩
      have HK6 := Lib.hid (HK5.out.tr k6)
      have HK06 := Lib.hid (HK05.out.tr k6)
      have HBX6 := Lib.hid (k6.heap HBX5.out id)
      have HT6 := Lib.hid (HT5.out.no k6)
      clear k6
      go_wp2_with fail
      refine (once_yes _ (some ⟨g2, 0, none⟩) n n m (planN l gs) _ HT6.out (by omega) (by omega) HPM.out).mono ?_
      rintro e w7 ⟨rfl, k7⟩
      have HK7 := Lib.hid (HK6.out.tr k7)
      have HK07 := Lib.hid (HK06.out.tr k7)
      have HBX7 := Lib.hid (k7.heap HBX6.out id)
      have HT7 := Lib.hid (HT6.out.no k7)
      clear k7
      have W2 := WD.out _ (some ⟨g2, 0, none⟩) n (intP (planN l gs)) w7 HK07.out HT7.out HPI.out
      rw [wid_int, HWI.out] at W2
      have W2 := Lib.hid W2
      unfold wid3 at W2
      dsimp only at W2
      go_wp2_with fail
      refine W2.out.mono ?_
      clear W2
      rintro e w8 ⟨rfl, k8⟩
      have HK8 := Lib.hid (HK7.out.tr k8)
      have HBX8 := Lib.hid (k8.heap HBX7.out id)
      have HT8 := Lib.hid (HT7.out.no k8)
      clear k8
      obtain ⟨p0, p1⟩ := want_cells HBX8.out
      go_wp2_with fail
      refine (awake_any _).mono ?_
      rintro e w9 ⟨rfl, k9⟩
      go_wp2_with fail
      go_ret
      exact ⟨rfl, HK8.out.tr k9⟩
    · have hdn := dvJ_toNat _ _ _ _ _ hd
      obtain ⟨ns, hns⟩ : ∃ ns, ns = nums.map Int.toNat := ⟨_, rfl⟩
      rw [← hns] at hdn hr3
      rw [HAL.out] at he3
      rw [HAL.out] at hr3
      subst he3
      have HD := Lib.hid (show dvN l.length r.length ((l.length + 1) / 2) 0 ns = true by rw [HRL.out]; exact hdn)
      have hpl := plan_in hdn (by omega)
      have HK3 := Lib.hid (HK2.out.tr k3)
      have HK03 := Lib.hid (HK02.out.tr k3)
      have HBX3 := Lib.hid (k3.heap HBX2.out id)
      have HT3 := Lib.hid (HT2.out.no k3)
      have HR3 := Lib.hid (hr3.rd)
      have W1 := WD.out _ (some ⟨g3, 0, none⟩) n (intP (planN l ns)) w3 HK03.out HR3.out hpl
      rw [wid_int] at W1
      clear k3 p0 p1 hd hdn hns hr3 hpl
      obtain ⟨p0, p1⟩ := want_cells HBX3.out
      cases hz : widN l r (planN l ns) with
      | none =>
        rw [hz] at W1
        have W1 := Lib.hid W1
        unfold wid3 at W1
        dsimp only at W1
        clear hz
        go_wp2_with fail
        refine W1.out.mono ?_
        clear W1
        rintro e w4 ⟨rfl, k4⟩
        have HK4 := Lib.hid (HK3.out.tr k4)
        have HK04 := Lib.hid (HK03.out.tr k4)
        have HBX4 := Lib.hid (k4.heap HBX3.out id)
        have HT4 := Lib.hid (HT3.out.no k4)
        clear k4 p0 p1
        obtain ⟨p0, p1⟩ := want_cells HBX4.out
        have G1 := Gap_any _ A R (some ⟨g2, 0, none⟩) n ca m cr n n l r (intP (planN l gs)) _ (HA.out.no HK04.out) (HR.out.no HK04.out) HT4.out (by omega) (by omega) (by omega) HB70.out
        rw [HTD.out.1, HTD.out.2.1] at G1
        have G1 := Lib.hid G1
        go_wp2_with fail
        refine G1.out.mono ?_
        clear G1
        rintro e w5 ⟨rfl, k5⟩
        have HK5 := Lib.hid (HK4.out.tr k5)
        have HK05 := Lib.hid (HK04.out.tr k5)
        have HBX5 := Lib.hid (k5.heap HBX4.out id)
        have HT5 := Lib.hid (HT4.out.no k5)
        clear k5 p0 p1
        have M1 := Mirrored_any _ A (some ⟨g2, 0, none⟩) n ca n n l (intP (planN l gs)) _ (HA.out.no HK05.out) HT5.out (by omega) (by omega) HB70.out
        rw [HTD.out.2.2.1, HTD.out.2.2.2] at M1
        have M1 := Lib.hid M1
        go_wp2_with fail
        refine M1.out.mono ?_
        clear M1
        rintro e w6 ⟨rfl, k6⟩
        have HK6 := Lib.hid (HK5.out.tr k6)
        have HK06 := Lib.hid (HK05.out.tr k6)
        have HBX6 := Lib.hid (k6.heap HBX5.out id)
        have HT6 := Lib.hid (HT5.out.no k6)
        clear k6
        go_wp2_with fail
        refine (once_yes _ (some ⟨g2, 0, none⟩) n n m (planN l gs) _ HT6.out (by omega) (by omega) HPM.out).mono ?_
        rintro e w7 ⟨rfl, k7⟩
        have HK7 := Lib.hid (HK6.out.tr k7)
        have HK07 := Lib.hid (HK06.out.tr k7)
        have HBX7 := Lib.hid (k7.heap HBX6.out id)
        have HT7 := Lib.hid (HT6.out.no k7)
        clear k7
        have W2 := WD.out _ (some ⟨g2, 0, none⟩) n (intP (planN l gs)) w7 HK07.out HT7.out HPI.out
        rw [wid_int, HWI.out] at W2
        have W2 := Lib.hid W2
        unfold wid3 at W2
        dsimp only at W2
        go_wp2_with fail
        refine W2.out.mono ?_
        clear W2
        rintro e w8 ⟨rfl, k8⟩
        have HK8 := Lib.hid (HK7.out.tr k8)
        have HBX8 := Lib.hid (k8.heap HBX7.out id)
        have HT8 := Lib.hid (HT7.out.no k8)
        clear k8
        obtain ⟨p0, p1⟩ := want_cells HBX8.out
        go_wp2_with fail
        refine (awake_any _).mono ?_
        rintro e w9 ⟨rfl, k9⟩
        go_wp2_with fail
        go_ret
        exact ⟨rfl, HK8.out.tr k9⟩
      | some pp =>
        obtain ⟨M, lo⟩ := pp
        have HRV := Lib.hid (refV_some (least := least) HD.out hz)
        rw [hz] at W1
        have W1 := Lib.hid W1
        unfold wid3 at W1
        dsimp only at W1 HRV
        clear hz
        go_wp2_with fail
        refine W1.out.mono ?_
        clear W1
        rintro e w4 ⟨rfl, k4⟩
        have HK4 := Lib.hid (HK3.out.tr k4)
        have HK04 := Lib.hid (HK03.out.tr k4)
        have HBX4 := Lib.hid (k4.heap HBX3.out id)
        replace HR3 := Lib.hid (HR3.out.no k4)
        have HT4 := Lib.hid (HT3.out.no k4)
        clear k4 p0 p1
        obtain ⟨p0, p1⟩ := want_cells HBX4.out
        by_cases hlo : least ≤ lo
        · have HRS := Lib.hid (show refV l r least ns = some M by rw [HRV.out, if_pos hlo])
          have hvM := (HPK.out.best ns M HRS.out).1
          by_cases hlt : v < M
          · have G1 := Gap_any _ A R (some ⟨g2, 0, none⟩) n ca m cr n n l r (intP (planN l gs)) _ (HA.out.no HK04.out) (HR.out.no HK04.out) HT4.out (by omega) (by omega) (by omega) HB70.out
            rw [HTD.out.1, HTD.out.2.1] at G1
            have G1 := Lib.hid G1
            go_wp2_with fail
            refine G1.out.mono ?_
            clear G1
            rintro e w5 ⟨rfl, k5⟩
            have HK5 := Lib.hid (HK4.out.tr k5)
            have HK05 := Lib.hid (HK04.out.tr k5)
            have HBX5 := Lib.hid (k5.heap HBX4.out id)
            have HT5 := Lib.hid (HT4.out.no k5)
            clear k5 p0 p1
            have M1 := Mirrored_any _ A (some ⟨g2, 0, none⟩) n ca n n l (intP (planN l gs)) _ (HA.out.no HK05.out) HT5.out (by omega) (by omega) HB70.out
            rw [HTD.out.2.2.1, HTD.out.2.2.2] at M1
            have M1 := Lib.hid M1
            go_wp2_with fail
            refine M1.out.mono ?_
            clear M1
            rintro e w6 ⟨rfl, k6⟩
            have HK6 := Lib.hid (HK5.out.tr k6)
            have HK06 := Lib.hid (HK05.out.tr k6)
            have HBX6 := Lib.hid (k6.heap HBX5.out id)
            have HT6 := Lib.hid (HT5.out.no k6)
            clear k6
            go_wp2_with fail
            refine (once_yes _ (some ⟨g2, 0, none⟩) n n m (planN l gs) _ HT6.out (by omega) (by omega) HPM.out).mono ?_
            rintro e w7 ⟨rfl, k7⟩
            have HK7 := Lib.hid (HK6.out.tr k7)
            have HK07 := Lib.hid (HK06.out.tr k7)
            have HBX7 := Lib.hid (k7.heap HBX6.out id)
            have HT7 := Lib.hid (HT6.out.no k7)
            clear k7
            have W2 := WD.out _ (some ⟨g2, 0, none⟩) n (intP (planN l gs)) w7 HK07.out HT7.out HPI.out
            rw [wid_int, HWI.out] at W2
            have W2 := Lib.hid W2
            unfold wid3 at W2
            dsimp only at W2
            go_wp2_with fail
            refine W2.out.mono ?_
            clear W2
            rintro e w8 ⟨rfl, k8⟩
            have HK8 := Lib.hid (HK7.out.tr k8)
            have HBX8 := Lib.hid (k8.heap HBX7.out id)
            have HT8 := Lib.hid (HT7.out.no k8)
            clear k8
            obtain ⟨p0, p1⟩ := want_cells HBX8.out
            go_wp2_with fail
            refine (awake_any _).mono ?_
            rintro e w9 ⟨rfl, k9⟩
            go_wp2_with fail
            go_ret
            exact ⟨rfl, HK8.out.tr k9⟩
          · obtain rfl : M = v := by omega
            have HLS := Lib.hid (show lesB (lensN (planN l ns)) (lensN (planN l gs)) ((n + 1) / 2) = false by
              have h := HPK.out.least HD.out HRS.out
              rwa [HAL.out] at h)
            have G1 := Gap_any _ A R (some ⟨g2, 0, none⟩) n ca m cr n n l r (intP (planN l gs)) _ (HA.out.no HK04.out) (HR.out.no HK04.out) HT4.out (by omega) (by omega) (by omega) HB70.out
            rw [HTD.out.1, HTD.out.2.1] at G1
            have G1 := Lib.hid G1
            go_wp2_with fail
            refine G1.out.mono ?_
            clear G1
            rintro e w5 ⟨rfl, k5⟩
            have HK5 := Lib.hid (HK4.out.tr k5)
            have HK05 := Lib.hid (HK04.out.tr k5)
            have HBX5 := Lib.hid (k5.heap HBX4.out id)
            have HT5 := Lib.hid (HT4.out.no k5)
            replace HR3 := Lib.hid (HR3.out.no k5)
            clear k5 p0 p1
            have M1 := Mirrored_any _ A (some ⟨g2, 0, none⟩) n ca n n l (intP (planN l gs)) _ (HA.out.no HK05.out) HT5.out (by omega) (by omega) HB70.out
            rw [HTD.out.2.2.1, HTD.out.2.2.2] at M1
            have M1 := Lib.hid M1
            go_wp2_with fail
            refine M1.out.mono ?_
            clear M1
            rintro e w6 ⟨rfl, k6⟩
            have HK6 := Lib.hid (HK5.out.tr k6)
            have HK06 := Lib.hid (HK05.out.tr k6)
            have HBX6 := Lib.hid (k6.heap HBX5.out id)
            have HT6 := Lib.hid (HT5.out.no k6)
            replace HR3 := Lib.hid (HR3.out.no k6)
            clear k6
            go_wp2_with fail
            refine (once_yes _ (some ⟨g2, 0, none⟩) n n m (planN l gs) _ HT6.out (by omega) (by omega) HPM.out).mono ?_
            rintro e w7 ⟨rfl, k7⟩
            have HK7 := Lib.hid (HK6.out.tr k7)
            have HK07 := Lib.hid (HK06.out.tr k7)
            have HBX7 := Lib.hid (k7.heap HBX6.out id)
            have HT7 := Lib.hid (HT6.out.no k7)
            replace HR3 := Lib.hid (HR3.out.no k7)
            clear k7
            have W2 := WD.out _ (some ⟨g2, 0, none⟩) n (intP (planN l gs)) w7 HK07.out HT7.out HPI.out
            rw [wid_int, HWI.out] at W2
            have W2 := Lib.hid W2
            unfold wid3 at W2
            dsimp only at W2
            go_wp2_with fail
            refine W2.out.mono ?_
            clear W2
            rintro e w8 ⟨rfl, k8⟩
            have HK8 := Lib.hid (HK7.out.tr k8)
            have HBX8 := Lib.hid (k8.heap HBX7.out id)
            have HT8 := Lib.hid (HT7.out.no k8)
            replace HR3 := Lib.hid (HR3.out.no k8)
            clear k8
            obtain ⟨p0, p1⟩ := want_cells HBX8.out
            have L1 := lessB_any _ _ A (some ⟨g3, 0, none⟩) (some ⟨g2, 0, none⟩) n ca n n (planN l ns) (planN l gs) w8 HR3.out HT8.out (by omega)
            rw [HLS.out] at L1
            have L1 := Lib.hid L1
            go_wp2_with fail
            refine L1.out.mono ?_
            clear L1
            rintro e w10 ⟨rfl, k10⟩
            have HK10 := Lib.hid (HK8.out.tr k10)
            clear k10
            go_wp2_with fail
            refine (awake_any _).mono ?_
            rintro e w9 ⟨rfl, k9⟩
            go_wp2_with fail
            go_ret
            exact ⟨rfl, HK10.out.tr k9⟩
        · have G1 := Gap_any _ A R (some ⟨g2, 0, none⟩) n ca m cr n n l r (intP (planN l gs)) _ (HA.out.no HK04.out) (HR.out.no HK04.out) HT4.out (by omega) (by omega) (by omega) HB70.out
          rw [HTD.out.1, HTD.out.2.1] at G1
          have G1 := Lib.hid G1
          go_wp2_with fail
          refine G1.out.mono ?_
          clear G1
          rintro e w5 ⟨rfl, k5⟩
          have HK5 := Lib.hid (HK4.out.tr k5)
          have HK05 := Lib.hid (HK04.out.tr k5)
          have HBX5 := Lib.hid (k5.heap HBX4.out id)
          have HT5 := Lib.hid (HT4.out.no k5)
          clear k5 p0 p1
          have M1 := Mirrored_any _ A (some ⟨g2, 0, none⟩) n ca n n l (intP (planN l gs)) _ (HA.out.no HK05.out) HT5.out (by omega) (by omega) HB70.out
          rw [HTD.out.2.2.1, HTD.out.2.2.2] at M1
          have M1 := Lib.hid M1
          go_wp2_with fail
          refine M1.out.mono ?_
          clear M1
          rintro e w6 ⟨rfl, k6⟩
          have HK6 := Lib.hid (HK5.out.tr k6)
          have HK06 := Lib.hid (HK05.out.tr k6)
          have HBX6 := Lib.hid (k6.heap HBX5.out id)
          have HT6 := Lib.hid (HT5.out.no k6)
          clear k6
          go_wp2_with fail
          refine (once_yes _ (some ⟨g2, 0, none⟩) n n m (planN l gs) _ HT6.out (by omega) (by omega) HPM.out).mono ?_
          rintro e w7 ⟨rfl, k7⟩
          have HK7 := Lib.hid (HK6.out.tr k7)
          have HK07 := Lib.hid (HK06.out.tr k7)
          have HBX7 := Lib.hid (k7.heap HBX6.out id)
          have HT7 := Lib.hid (HT6.out.no k7)
          clear k7
          have W2 := WD.out _ (some ⟨g2, 0, none⟩) n (intP (planN l gs)) w7 HK07.out HT7.out HPI.out
          rw [wid_int, HWI.out] at W2
          have W2 := Lib.hid W2
          unfold wid3 at W2
          dsimp only at W2
          go_wp2_with fail
          refine W2.out.mono ?_
          clear W2
          rintro e w8 ⟨rfl, k8⟩
          have HK8 := Lib.hid (HK7.out.tr k8)
          have HBX8 := Lib.hid (k8.heap HBX7.out id)
          have HT8 := Lib.hid (HT7.out.no k8)
          clear k8
          obtain ⟨p0, p1⟩ := want_cells HBX8.out
          go_wp2_with fail
          refine (awake_any _).mono ?_
          rintro e w9 ⟨rfl, k9⟩
          go_wp2_with fail
          go_ret
          exact ⟨rfl, HK8.out.tr k9⟩
end Go.Proofs.Ytakgcnjpmpcekaa
