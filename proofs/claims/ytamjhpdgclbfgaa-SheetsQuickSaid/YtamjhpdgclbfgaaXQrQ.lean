/- Chapter 09: the reference's Quick: the walk. Printed by gen_qrq.py. -/
import Derived.Deep.RegionHeld
import Derived.Test.YtamjhpdgclbfgaaXNtCM
import Derived.Test.YtamjhpdgclbfgaaXNtI
import Derived.Test.YtamjhpdgclbfgaaXRfAM
import Derived.Test.YtamjhpdgclbfgaaXLibAppS
namespace Go.Proofs.Ytamjhpdgclbfgaa
open Go.RowKit Go.Kq

theorem qNew_new {P : Pt} {c : Ct} {q : Qs} (h : firstI (topB P c) q.tp = q.tp.length) : qNew P c q = ⟨q.sh ++ [⟨(q.tp.length : Nat), (q.sh.length : Nat), 0, 0⟩], q.tp ++ [c.h + P.k], q.out⟩ := by
  have e : firstI (fun y => decide (y + c.h ≤ P.h)) q.tp = q.tp.length := h
  simp only [qNew, e, if_true]
  have e2 : (q.tp ++ [0]).getD q.tp.length 0 = 0 := by simp
  rw [e2]
  simp
theorem qNew_old {P : Pt} {c : Ct} {q : Qs} {on : Nat} {y : Int} (h : firstI (topB P c) q.tp = on) (hn : on ≠ q.tp.length) (hy : q.tp[on]? = some y) : qNew P c q = ⟨q.sh ++ [⟨(on : Nat), (q.sh.length : Nat), 0, y⟩], q.tp.set on (y + (c.h + P.k)), q.out⟩ := by
  have e : firstI (fun y => decide (y + c.h ≤ P.h)) q.tp = on := h
  simp only [qNew, e, if_neg hn, List.getD_eq_getElem?_getD, hy, Option.getD_some]
theorem qStep_at {P : Pt} {l : List Ct} {q q2 : Qs} {i ki : Nat} {c : Ct} (hc : l[i]? = some c) (hk : firstI (roomB P c) q.sh = ki) (h2 : q2 = if ki = q.sh.length then qNew P c q else q) : qStep P l q i = qPut P c i ki q2 := by
  unfold qStep
  have e : firstI (fun s : Spo => decide (s.x + c.w ≤ P.w)) q.sh = ki := hk
  simp only [getD_of hc, e, h2]
theorem sh_new {P : Pt} {c : Ct} {q q2 : Qs} {ki : Nat} (hk : ki ≤ q.sh.length) (h2 : q2 = if ki = q.sh.length then qNew P c q else q) : ∃ s, q2.sh[ki]? = some s := by
  rw [h2]
  split
  · rename_i h
    refine ⟨_, List.getElem?_eq_getElem ?_⟩
    simp [qNew, h]
  · exact ⟨_, List.getElem?_eq_getElem (by omega)⟩
set_option maxHeartbeats 16000000 in
set_option maxRecDepth 100000 in
theorem rquick_any (P : Pt) (A : Option Addr) (n ca : Nat) (l : List Ct) (w : World) (hx : RdC w A n l) (hn : n ≤ 100000000) :
    Calls Try.prog 13 #[P.val, .slice A n ca] w fun e w' => ∃ A' m ca', e = .returned (.tuple #[.slice A' m ca', .int .i64 (quiE P l)]) ∧ RdS w' A' m (quiL P l) ∧ Kp No w w' := by
  have mixed : Try.prog.follows .mixedOrders = true := by kernel_rfl
  obtain ⟨i1, hi1, hz11, hz12, hz13⟩ := info_parts infoL
  obtain ⟨i2, hi2, hz21, hz22, hz23⟩ := info_parts infoSh
  have hLl := hx.1
  have hk0 : Kp No w (w.alloc (.cells #[.int .i64 P.w, .int .i64 P.h, .int .i64 P.k] 23)) := Kp.alloc _ _ _
  have hbx : (w.alloc (.cells #[.int .i64 P.w, .int .i64 P.h, .int .i64 P.k] 23)).heap[w.heap.size]? = some (.cells #[.int .i64 P.w, .int .i64 P.h, .int .i64 P.k] 23 (0, 0)) := heap_alloc_new _ _
  obtain ⟨gp, hgP⟩ : ∃ g, w.heap.size = g := ⟨_, rfl⟩
  rw [hgP] at hbx
  obtain ⟨p0, p1, p2⟩ := three_cellsP hbx
  have HPL := Lib.hid (plate_any P A n ca l 200 _ (hx.no hk0) hn)
  have HFT := Lib.hid (fun w0 (k : Kp No w w0) => rfits_any P A n ca l w0 (hx.no k) hn)
  have HE := Lib.hid (show quiE P l = if jchk P l 200 = 0 then fitV P l else jchk P l 200 from rfl)
  have HNL := Lib.hid (show quiL P l = if quiE P l = 0 then quickF P l else [] from rfl)
  obtain ⟨nv, hnv⟩ : ∃ v, quiE P l = v := ⟨_, rfl⟩
  rw [hnv] at HE HNL ⊢
  have HJO := Lib.hid (fun (h : jchk P l 200 = 0) => job_ok h)
  have HX := Lib.hid hx
  have HL := Lib.hid hx.1
  have HK0 := Lib.hid hk0
  have MS := Lib.hid make_s
  unfold Pt.val at *
  obtain ⟨w0, hw0⟩ : ∃ w0, (w.alloc (.cells #[.int .i64 P.w, .int .i64 P.h, .int .i64 P.k] 23)) = w0 := ⟨_, rfl⟩
  rw [hw0] at HPL HK0 p0 p1 p2 hbx
  have HP0 := Lib.hid hbx
  clear hx hk0 hbx hnv
  go_enter Try.func13, Try.ntmps13
  go_wp2_with fail
  clear hw0 hgP
  with_reducible refine HPL.out.mono ?_
  rintro e w1 ⟨rfl, k1⟩
  have HK1 := Lib.hid (HK0.out.tr k1)
  have HP1 := Lib.hid (k1.heap HP0.out id)
  replace p0 := k1.cell p0 id
  replace p1 := k1.cell p1 id
  replace p2 := k1.cell p2 id
  clear k1 HPL HK0 HP0
  by_cases hj : jchk P l 200 = 0
  rotate_left
  · have HE2 := Lib.hid (show nv = jchk P l 200 by rw [HE.out, if_neg hj])
    have HL2 := Lib.hid (show quiL P l = [] by rw [HNL.out, if_neg (by rw [HE2.out]; exact hj)])
    generalize jchk P l 200 = jv at *
    have hjn : (jv == 0) = false := by rw [beq_eq_false_iff_ne]; exact hj
    have hjn2 : (jv != 0) = true := bne_iff_ne.2 hj
    go_wp2_with fail
    exact bodyPost_ret (v := .tuple #[.slice none 0 0, .int .i64 jv]) (by simp [results, Try.results13, go_sem]) rfl ⟨none, 0, 0, by rw [HE2.out], by rw [HL2.out]; exact Rd.nil _ _, HK1.out⟩
  have HJ := Lib.hid (HJO.out hj)
  rw [hj] at HE ⊢
  rw [if_pos rfl] at HE
  have hn5 : n ≤ 200 := by
    have := HJ.out.len
    omega
  clear HJO hj hn
  go_wp2_with fail
  with_reducible refine (HFT.out w1 HK1.out).mono ?_
  rintro e w2 ⟨rfl, k2⟩
  have HK2 := Lib.hid (HK1.out.tr k2)
  have HP2 := Lib.hid (k2.heap HP1.out id)
  replace p0 := k2.cell p0 id
  replace p1 := k2.cell p1 id
  replace p2 := k2.cell p2 id
  clear k2 HFT HK1 HP1
  by_cases hf : fitV P l = 0
  rotate_left
  · have HE2 := Lib.hid (show nv = fitV P l by rw [HE.out])
    have HL2 := Lib.hid (show quiL P l = [] by rw [HNL.out, if_neg (by rw [HE2.out]; exact hf)])
    generalize fitV P l = jv at *
    have hjn : (jv == 0) = false := by rw [beq_eq_false_iff_ne]; exact hf
    have hjn2 : (jv != 0) = true := bne_iff_ne.2 hf
    go_wp2_with fail
    exact bodyPost_ret (v := .tuple #[.slice none 0 0, .int .i64 jv]) (by simp [results, Try.results13, go_sem]) rfl ⟨none, 0, 0, by rw [HE2.out], by rw [HL2.out]; exact Rd.nil _ _, HK2.out⟩
  have HE2 := Lib.hid (show nv = 0 by rw [HE.out, hf])
  have HL2 := Lib.hid (show quiL P l = quickF P l by rw [HNL.out, if_pos HE2.out])
  rw [hf]
  clear hf HE HNL p0 p1 p2
  generalize w1 = wdead at *
  obtain ⟨w1, rfl⟩ : ∃ w1, w1 = w2 := ⟨_, rfl⟩
  have HP := Lib.hid HP2.out
  have HKW := Lib.hid HK2.out
  have mk := MS.out n (by omega) w1
  clear HP2 HK2
  go_wp2_with fail
  have hk4 : Kp No w1 (w1.alloc (.cells (zSp n) 52)) := Kp.alloc _ _ _
  obtain ⟨go, hgo⟩ : ∃ go, go = w1.heap.size := ⟨_, rfl⟩
  have HO4 := Lib.hid (show (w1.alloc (.cells (zSp n) 52)).ownsRow w1.heap.size 52 4 (.slice (some ⟨go, 0, none⟩) n n) n ((List.replicate n (default : Spo)).flatMap Spo.cells) by
    rw [hgo]
    exact own_made (e := 52) (s := 4) (n := n) w1 (by rw [flat_len spo_len, List.length_replicate]) (Nat.le_refl _) (by unfold maxLen; omega))
  have HK4 := Lib.hid hk4
  rw [← hgo]
  clear mk hk4
  generalize w1.alloc (.cells (zSp n) 52) = w4 at *
  have HFA := Lib.hid (falling_any A n ca l w4 ((HX.out.no HKW.out).no HK4.out) (by omega))
  with_reducible refine HFA.out.mono ?_
  rintro e w5 ⟨vor, rfl, hor, k5⟩
  have HG0 := Lib.hid hgo
  clear hgo HFA
  obtain ⟨aor, cor, rfl, _, _, hfo⟩ := own_form hor
  have HFO := Lib.hid hfo
  obtain ⟨ord, hord⟩ : ∃ ord, ord = ordF l := ⟨_, rfl⟩
  have HORL := Lib.hid (show ord.length = n by rw [hord, ← HL.out, (ordF_perm l).length_eq, List.length_range])
  have HORT := Lib.hid (show ∀ i ∈ ord, i < n by rw [hord, ← HL.out]; exact fun _ hi => List.mem_range.1 ((ordF_perm l).mem_iff.1 hi))
  have HORD := Lib.hid hord
  have HQ0 := Lib.hid (show QRo w1 w1.heap.size go n (.slice aor n cor) ord P.k (quickG P l (ord.take 0)) (.slice none 0 0) (.slice none 0 0) w5 from
    ⟨HK4.out.tr k5, World.ownsRow_nil _ _ _ _, World.ownsRow_nil _ _ _ _, by
      show World.ownsRow _ _ _ _ _ _ ((List.replicate l.length (default : Spo)).flatMap Spo.cells)
      rw [HL.out]
      exact k5.owns HO4.out fun _ _ h => h, by rw [hord]; exact own_mono hor HK4.out.size⟩)
  have HQOK0 := Lib.hid (show QOk n 0 (quickG P l (ord.take 0)) from ⟨by show (List.replicate l.length (default : Spo)).length = n; rw [List.length_replicate, HL.out], Nat.le_refl _, Nat.le_refl _, fun s hs => (by cases hs), fun s hs => (by cases hs)⟩)
  have HIX0 := Lib.hid (show IdxS (quickG P l (ord.take 0)) from fun j s h => by cases h)
  have HGO := Lib.hid (show gp ≠ go ∧ w1.heap.size ≤ go by
    have h1 := (Array.getElem?_eq_some_iff.1 HP.out).1
    have := HG0.out
    omega)
  have hbw : w1.heap.size ≤ w1.heap.size := Nat.le_refl _
  clear hor k5 hfo hord HO4 HK4 HG0
  generalize w5 = w6 at *
  go_wp2_with fail
  go_loopw [8, 9, 11] (fun v8 v9 v wr => ∃ (k : Nat) (u8 u9 : Value), k ≤ n ∧ v = .int .i64 k ∧ v8 = u8 ∧ v9 = u9 ∧ QRo w1 w1.heap.size go n (.slice aor n cor) ord P.k (quickG P l (ord.take k)) u8 u9 wr ∧ QOk n k (quickG P l (ord.take k)) ∧ IdxS (quickG P l (ord.take k))) (fun _ _ v _ => n - (intOf v).toNat)
  case atStart => exact ⟨0, _, _, by omega, rfl, rfl, rfl, HQ0.out, HQOK0.out, HIX0.out⟩
  case round =>
    clear HQ0 HQOK0 HIX0
    obtain ⟨k, v8, v9, hk, rfl, rfl, rfl, hq, hqok, hix⟩ := hrel
    by_cases hlt : k < n
    · obtain ⟨i, hi⟩ : ∃ i, ord[k]? = some i := ⟨_, List.getElem?_eq_getElem (by rw [HORL.out]; exact hlt)⟩
      have hin : i < n := HORT.out i (List.mem_of_getElem? hi)
      obtain ⟨⟨cw, ch⟩, hc⟩ : ∃ c, l[i]? = some c := ⟨_, List.getElem?_eq_getElem (by rw [HL.out]; exact hin)⟩
      obtain ⟨q, hqe⟩ : ∃ q, q = quickG P l (ord.take k) := ⟨_, rfl⟩
      rw [← hqe] at hq hqok hix
      have HQOK := Lib.hid hqok
      have HIXS := Lib.hid hix
      have HIK := Lib.hid hi
      have HCI := Lib.hid hc
      have HCB := Lib.hid (show (0 ≤ cw ∧ cw ≤ 20000000) ∧ 0 ≤ ch ∧ ch ≤ 20000000 by have := HJ.out.cut _ (List.mem_of_getElem? hc); dsimp only at this; omega)
      have HQE := Lib.hid hqe
      obtain ⟨gor, rfl⟩ := HFO.out (by omega)
      have cord : wr.cell? ⟨gor, k, none⟩ = some (.int .i64 (i : Nat)) := own_cell hq.ord (map_at' natI hi)
      obtain ⟨bl, ol, rfl, hbl, hcl⟩ := ((HX.out.no HKW.out).no hq.kp).2 i _ hc
      have l0 := hcl 0 _ rfl
      have l1 := hcl 1 _ rfl
      simp only [Nat.add_zero] at l0
      have hin' : (i : Int) < (n : Nat) := by omega
      have hlt' : (k : Int) < (n : Nat) := by omega
      have HQR := Lib.hid hq
      clear hq hqok hix hi hc hcl hqe
      go_upto_block 2 with fail
      have hkc : Kp No wr (wr.alloc (.cells #[.int .i64 cw, .int .i64 ch] 35)) := Kp.alloc _ _ _
      obtain ⟨gx, hgx⟩ : ∃ gx, gx = wr.heap.size := ⟨_, rfl⟩
      have HCX := Lib.hid (show (wr.alloc (.cells #[.int .i64 cw, .int .i64 ch] 35)).heap[gx]? = some (.cells #[.int .i64 cw, .int .i64 ch] 35 (0, 0)) by rw [hgx]; exact heap_alloc_new _ _)
      have HNG := Lib.hid (show gx ≠ go by have := (own_ge HQR.out.out (g := go) rfl).2; omega)
      have hqa := HQR.out.no hkc
      rw [← hgx]
      clear hkc hgx l0 l1 cord HQR hbl
      generalize wr.alloc (.cells #[.int .i64 cw, .int .i64 ch] 35) = wa at *
      obtain ⟨a8, c8, rfl, _, _, _⟩ := own_form hqa.sh
      obtain ⟨a9, c9, rfl, _, _, hf9⟩ := own_form hqa.tp
      obtain ⟨m8, hm8⟩ : ∃ m, q.sh.length = m := ⟨_, rfl⟩
      obtain ⟨m9, hm9⟩ : ∃ m, q.tp.length = m := ⟨_, rfl⟩
      rw [hm8] at hqa ⊢
      rw [hm9] at hqa hf9 ⊢
      have hb8 : m8 ≤ 200 := by have := HQOK.out.sl; omega
      have hb9 : m9 ≤ 200 := by have := HQOK.out.tl; omega
      have HQ := Lib.hid hqa
      have HM8 := Lib.hid hm8
      have HM9 := Lib.hid hm9
      have HF9 := Lib.hid hf9
      clear hqa hm8 hm9 hf9
      go_cut [13] from 32 to 169 (fun vx wx => vx = .int .i64 ((firstI (roomB P ⟨cw, ch⟩) q.sh : Nat) : Int) ∧ QRo w1 w1.heap.size go n (.slice (some ⟨gor, 0, none⟩) n cor) ord P.k q (.slice a8 m8 c8) (.slice a9 m9 c9) wx ∧ wx.heap[gx]? = some (.cells #[.int .i64 cw, .int .i64 ch] 35 (0, 0)))
      case first =>
        go_wp2_with fail
        go_loopw [13] (fun vx wx => ∃ j : Nat, j ≤ m8 ∧ vx = .int .i64 (j : Nat) ∧ (q.sh.take j).any (roomB P ⟨cw, ch⟩) = false ∧ QRo w1 w1.heap.size go n (.slice (some ⟨gor, 0, none⟩) n cor) ord P.k q (.slice a8 m8 c8) (.slice a9 m9 c9) wx ∧ wx.heap[gx]? = some (.cells #[.int .i64 cw, .int .i64 ch] 35 (0, 0))) (fun vx _ => m8 - (intOf vx).toNat)
        case atStart => exact ⟨0, by omega, rfl, by simp, HQ.out, HCX.out⟩
        case round =>
          obtain ⟨j, hj, rfl, hany, hq, hcx⟩ := hrel
          have HANY := Lib.hid hany
          have HQI := Lib.hid hq
          have HCI2 := Lib.hid hcx
          clear hany hq hcx
          by_cases hjl : j < m8
          · have hd0 : decide ((j : Int) < (m8 : Nat)) = true := decide_eq_true (by omega)
            have hd1 : decide (j < m8) = true := decide_eq_true hjl
            have hjl' : (j : Int) < (m8 : Nat) := by omega
            obtain ⟨s, hel⟩ : ∃ s, q.sh[j]? = some s := ⟨_, List.getElem?_eq_getElem (by rw [HM8.out]; exact hjl)⟩
            have hsb := HQOK.out.sx s (List.mem_of_getElem? hel)
            obtain ⟨gs, zgs, _, _, hks, zs⟩ := own_at (shC_len P.k) (show wr.ownsRow w1.heap.size 84 3 (.slice a8 m8 c8) m8 (q.sh.flatMap (shC P.k)) by have h := HQI.out.sh; rw [HM8.out] at h; exact h) hel (by decide)
            subst zgs
            have y2 := (zs 2 _ rfl).1
            clear zs hks
            have hx0 : wr.cell? ⟨gx, 0, none⟩ = some (.int .i64 cw) := by rw [cell_of_row _ _ _ _ _ _ HCI2.out]; rfl
            have hpb := HQI.out.kp.heap HP.out id
            have p2 : wr.cell? ⟨gp, 2, none⟩ = some (.int .i64 P.k) := by rw [cell_of_row _ _ _ _ _ _ hpb]; rfl
            have p0 : wr.cell? ⟨gp, 0, none⟩ = some (.int .i64 P.w) := by rw [cell_of_row _ _ _ _ _ _ hpb]; rfl
            clear hpb
            have hkb := HJ.out.k
            have hcb := HCB.out
            obtain ⟨U, hU⟩ : ∃ U, s.x - P.k = U := ⟨_, rfl⟩
            have hUb : -50000 ≤ U ∧ U ≤ 200 * 20050000 := by omega
            rw [hU] at y2
            have hX1 : U + P.k + cw = s.x + cw := by omega
            obtain ⟨Y, hY⟩ : ∃ Y, s.x + cw = Y := ⟨_, rfl⟩
            rw [hY] at hX1
            have HBO := Lib.hid (show roomB P ⟨cw, ch⟩ s = decide (Y ≤ P.w) by rw [← hY]; rfl)
            have HEL := Lib.hid hel
            have hw0 : IntKind.i64.wrap (U + P.k) = U + P.k := by rw [IntKind.wrap_i64]; omega
            have hw1 : IntKind.i64.wrap (U + P.k + cw) = Y := by rw [IntKind.wrap_i64]; omega
            clear hU hY hel
            by_cases hrm : Y ≤ P.w
            · have hdn : decide (P.w < Y) = false := decide_eq_false (by omega)
              have HB1 := Lib.hid (show roomB P ⟨cw, ch⟩ s = true by rw [HBO.out]; exact decide_eq_true hrm)
              clear hrm
              go_wp2_with fail
              go_quiet (fail)
              go_wp2_with fail
              go_meet
              exact ⟨by rw [firstI_at HANY.out HEL.out HB1.out], HQI.out.no (Kp.drewN No _ _), (Kp.drewN No _ _).heap HCI2.out id⟩
            · have hdn : decide (P.w < Y) = true := decide_eq_true (by omega)
              have HB1 := Lib.hid (show roomB P ⟨cw, ch⟩ s = false by rw [HBO.out]; exact decide_eq_false hrm)
              clear hrm
              go_wp2_with fail
              go_quiet (fail)
              go_wp2_with fail
              go_roundw
              case rel => exact ⟨j + 1, by omega, by go_num, any_step HANY.out HEL.out HB1.out, HQI.out.no (Kp.drewN No _ _), (Kp.drewN No _ _).heap HCI2.out id⟩
              case measure => simp [intOf]; omega
          · have hd0 : decide ((j : Int) < (m8 : Nat)) = false := decide_eq_false (by omega)
            have hd1 : decide (j < m8) = false := decide_eq_false hjl
            have HJL := Lib.hid (show j = m8 by omega)
            clear hjl
            go_wp2_with fail
            go_quiet (fail)
            go_wp2_with fail
            go_meet
            exact ⟨by rw [firstI_none (by have h := HANY.out; rw [List.take_of_length_le (by rw [HJL.out, HM8.out]; exact Nat.le_refl _)] at h; exact h), HM8.out, HJL.out], HQI.out.no (Kp.drewN No _ _), (Kp.drewN No _ _).heap HCI2.out id⟩
      case rest =>
      clear HQ HCX
      obtain ⟨rfl, hq, hcx⟩ := hcut
      have HQ := Lib.hid hq
      have HCX := Lib.hid hcx
      obtain ⟨ki, hki⟩ : ∃ ki, firstI (roomB P ⟨cw, ch⟩) q.sh = ki := ⟨_, rfl⟩
      have hkl : ki ≤ m8 := by rw [← hki, ← HM8.out]; exact firstI_le _ _
      rw [hki]
      have HKI := Lib.hid hki
      clear hq hcx hki
      go_upto_if 70 with fail
      go_cut [8, 9, 14] from 32 to 169 (fun v8 v9 v14 wx => ∃ (u8 u9 : Value) (q2 : Qs), v8 = u8 ∧ v9 = u9 ∧ q2 = (if ki = q.sh.length then qNew P ⟨cw, ch⟩ q else q) ∧ QRo w1 w1.heap.size go n (.slice (some ⟨gor, 0, none⟩) n cor) ord P.k q2 u8 u9 wx ∧ wx.heap[gx]? = some (.cells #[.int .i64 cw, .int .i64 ch] 35 (0, 0)))
      case first =>
        by_cases hkm : ki = m8
        · subst hkm
          go_upto_block 4 with fail
          go_cut [14] from 32 to 169 (fun vx wx => vx = .int .i64 ((firstI (topB P ⟨cw, ch⟩) q.tp : Nat) : Int) ∧ QRo w1 w1.heap.size go n (.slice (some ⟨gor, 0, none⟩) n cor) ord P.k q (.slice a8 ki c8) (.slice a9 m9 c9) wx ∧ wx.heap[gx]? = some (.cells #[.int .i64 cw, .int .i64 ch] 35 (0, 0)))
          case first =>
            go_wp2_with fail
            go_loopw [14] (fun vx wx => ∃ j : Nat, j ≤ m9 ∧ vx = .int .i64 (j : Nat) ∧ (q.tp.take j).any (topB P ⟨cw, ch⟩) = false ∧ QRo w1 w1.heap.size go n (.slice (some ⟨gor, 0, none⟩) n cor) ord P.k q (.slice a8 ki c8) (.slice a9 m9 c9) wx ∧ wx.heap[gx]? = some (.cells #[.int .i64 cw, .int .i64 ch] 35 (0, 0))) (fun vx _ => m9 - (intOf vx).toNat)
            case atStart => exact ⟨0, by omega, rfl, by simp, HQ.out, HCX.out⟩
            case round =>
              obtain ⟨j, hj, rfl, hany, hq, hcx⟩ := hrel
              have HANY := Lib.hid hany
              have HQI := Lib.hid hq
              have HCI2 := Lib.hid hcx
              clear hany hq hcx
              by_cases hjl : j < m9
              · have hd0 : decide ((j : Int) < (m9 : Nat)) = true := decide_eq_true (by omega)
                have hd1 : decide (j < m9) = true := decide_eq_true hjl
                have hjl' : (j : Int) < (m9 : Nat) := by omega
                obtain ⟨yt, hel⟩ : ∃ y, q.tp[j]? = some y := ⟨_, List.getElem?_eq_getElem (by rw [HM9.out]; exact hjl)⟩
                have hsb := HQOK.out.tx yt (List.mem_of_getElem? hel)
                obtain ⟨gt, rfl⟩ := HF9.out (by omega)
                have y2 := own_cell (show wr.ownsRow w1.heap.size 2 1 (.slice (some ⟨gt, 0, none⟩) m9 c9) m9 (q.tp.map (tpC P.k)) by have h := HQI.out.tp; rw [HM9.out] at h; exact h) (tpC_at (K := P.k) hel)
                have hx1 : wr.cell? ⟨gx, 1, none⟩ = some (.int .i64 ch) := by rw [cell_of_row _ _ _ _ _ _ HCI2.out]; rfl
                have hpb := HQI.out.kp.heap HP.out id
                have p2 : wr.cell? ⟨gp, 2, none⟩ = some (.int .i64 P.k) := by rw [cell_of_row _ _ _ _ _ _ hpb]; rfl
                have p1 : wr.cell? ⟨gp, 1, none⟩ = some (.int .i64 P.h) := by rw [cell_of_row _ _ _ _ _ _ hpb]; rfl
                clear hpb
                have hkb := HJ.out.k
                have hcb := HCB.out
                obtain ⟨U, hU⟩ : ∃ U, yt - P.k = U := ⟨_, rfl⟩
                have hUb : -50000 ≤ U ∧ U ≤ 200 * 20050000 := by omega
                rw [hU] at y2
                have hX1 : U + P.k + ch = yt + ch := by omega
                obtain ⟨Y, hY⟩ : ∃ Y, yt + ch = Y := ⟨_, rfl⟩
                rw [hY] at hX1
                have HBO := Lib.hid (show topB P ⟨cw, ch⟩ yt = decide (Y ≤ P.h) by rw [← hY]; rfl)
                have HEL := Lib.hid hel
                have hw0 : IntKind.i64.wrap (U + P.k) = U + P.k := by rw [IntKind.wrap_i64]; omega
                have hw1 : IntKind.i64.wrap (U + P.k + ch) = Y := by rw [IntKind.wrap_i64]; omega
                clear hU hY hel
                by_cases hrm : Y ≤ P.h
                · have hdn : decide (P.h < Y) = false := decide_eq_false (by omega)
                  have HB1 := Lib.hid (show topB P ⟨cw, ch⟩ yt = true by rw [HBO.out]; exact decide_eq_true hrm)
                  clear hrm
                  go_wp2_with fail
                  go_quiet (fail)
                  go_wp2_with fail
                  go_meet
                  exact ⟨by rw [firstI_at HANY.out HEL.out HB1.out], HQI.out.no (Kp.drewN No _ _), (Kp.drewN No _ _).heap HCI2.out id⟩
                · have hdn : decide (P.h < Y) = true := decide_eq_true (by omega)
                  have HB1 := Lib.hid (show topB P ⟨cw, ch⟩ yt = false by rw [HBO.out]; exact decide_eq_false hrm)
                  clear hrm
                  go_wp2_with fail
                  go_quiet (fail)
                  go_wp2_with fail
                  go_roundw
                  case rel => exact ⟨j + 1, by omega, by go_num, any_step HANY.out HEL.out HB1.out, HQI.out.no (Kp.drewN No _ _), (Kp.drewN No _ _).heap HCI2.out id⟩
                  case measure => simp [intOf]; omega
              · have hd0 : decide ((j : Int) < (m9 : Nat)) = false := decide_eq_false (by omega)
                have hd1 : decide (j < m9) = false := decide_eq_false hjl
                have HJL := Lib.hid (show j = m9 by omega)
                clear hjl
                go_wp2_with fail
                go_quiet (fail)
                go_wp2_with fail
                go_meet
                exact ⟨by rw [firstI_none (by have h := HANY.out; rw [List.take_of_length_le (by rw [HJL.out, HM9.out]; exact Nat.le_refl _)] at h; exact h), HM9.out, HJL.out], HQI.out.no (Kp.drewN No _ _), (Kp.drewN No _ _).heap HCI2.out id⟩
          case rest =>
          clear HQ HCX
          obtain ⟨rfl, hq, hcx⟩ := hcut
          have HCX := Lib.hid hcx
          obtain ⟨on, hon⟩ : ∃ on, firstI (topB P ⟨cw, ch⟩) q.tp = on := ⟨_, rfl⟩
          have honl : on ≤ m9 := by rw [← hon, ← HM9.out]; exact firstI_le _ _
          rw [hon]
          have HON := Lib.hid hon
          have hpb := hq.kp.heap HP.out id
          have p2 : wc.cell? ⟨gp, 2, none⟩ = some (.int .i64 P.k) := by rw [cell_of_row _ _ _ _ _ _ hpb]; rfl
          have x1 : wc.cell? ⟨gx, 1, none⟩ = some (.int .i64 ch) := by rw [cell_of_row _ _ _ _ _ _ hcx]; rfl
          have HQ := Lib.hid hq
          have hkb := HJ.out.k
          have hcb := HCB.out
          have hwn : IntKind.i64.wrap (-P.k) = -P.k := by rw [IntKind.wrap_i64]; omega
          have HTPW := Lib.hid (show wc.ownsRow w1.heap.size 2 1 (.slice a9 m9 c9) m9 (q.tp.map (tpC P.k)) by have h := hq.tp; rw [HM9.out] at h; exact h)
          clear hq hcx hon hpb
          by_cases hom : on = m9
          · obtain ⟨m, rfl⟩ : ∃ m, m = on := ⟨_, rfl⟩
            have HOM := Lib.hid hom
            have hom1 : (m9 : Int) = (m : Int) := by omega
            have hom2 : m9 = m := hom.symm
            subst hom2
            clear hom hom1
            go_wp2_with (at_builtin; refine stop_in ?_)
            refine stop_out ?_
            refine wpL_append_any rfl _ _ 58 rfl w1.heap.size 2 i1 (.int .i64 0) 1 8 Try.underlying58 hi1 hz11 hz12 hz13 rfl (by decide) (.slice a9 m9 c9) m9 (q.tp.map (tpC P.k)) rfl (HTPW.out.alloc _) (some ⟨wc.heap.size, 0, none⟩) 1 1 [.int .i64 ch] rfl rfl (fun h => by cases h) (fun ad had j u hu => by cases had; exact new_cells wc [.int .i64 ch] (by unfold maxLen; simp) j u hu) (fun u hu => by simp at hu; subst hu; rfl) (by unfold maxLen; omega) (by omega) (by have := HQ.out.kp.size; simp; omega) ?_
            intro v9' w9 hown9 hgrow9 _
            have hown9b : w9.ownsRow w1.heap.size 2 1 v9' (q.tp ++ [ch + P.k]).length ((q.tp ++ [ch + P.k]).map (tpC P.k)) := by
              rw [List.length_append, List.map_append, HM9.out]
              have e : [ch + P.k].map (tpC P.k) = [.int .i64 ch] := by
                show [Value.int .i64 (ch + P.k - P.k)] = _
                rw [Int.add_sub_cancel]
              rw [e]
              exact hown9
            have hq9 := (HQ.out.no (Kp.alloc No wc (.cells #[.int .i64 ch] 2))).appTp hbw hown9b hgrow9
            have hkx : Kp (fun g => Value.ownBlock (.slice a9 m9 c9) = some g) wc w9 := ((Kp.alloc No wc _).of_no).tr (Kp.grown hgrow9 fun k hk _ => hk)
            have HCX9 := Lib.hid (hkx.heap HCX.out (fun e => own_other HTPW.out HCX.out (by decide) e))
            have HQ9 := Lib.hid hq9
            have HSHW := Lib.hid (show w9.ownsRow w1.heap.size 84 3 (.slice a8 ki c8) ki (q.sh.flatMap (shC P.k)) by have h := hq9.sh; rw [show ({ q with tp := q.tp ++ [ch + P.k] } : Qs).sh.length = ki from HM8.out] at h; exact h)
            have hpb := hq9.kp.heap HP.out id
            have p2' : w9.cell? ⟨gp, 2, none⟩ = some (.int .i64 P.k) := by rw [cell_of_row _ _ _ _ _ _ hpb]; rfl
            obtain ⟨a9', c9', rfl, _⟩ := own_form hown9
            clear hown9 hown9b hgrow9 hq9 hkx p2 x1 hpb HTPW HCX HQ
            have p2 := p2'
            clear p2'
            go_wp2_with (at_builtin; refine stop_in ?_)
            refine stop_out ?_
            refine wpL_append_any rfl _ _ 81 rfl w1.heap.size 84 i2 (.agg #[.int .i64 0, .int .i64 0, .int .i64 0]) 3 24 Try.underlying81 hi2 hz21 hz22 hz23 rfl (by decide) (.slice a8 ki c8) ki (q.sh.flatMap (shC P.k)) rfl (HSHW.out.alloc _) (some ⟨w9.heap.size, 0, none⟩) 1 1 [.int .i64 (m9 : Nat), .int .i64 0, .int .i64 (-P.k)] rfl rfl (fun h => by cases h) (fun ad had j u hu => by cases had; exact new_cells w9 [.int .i64 (m9 : Nat), .int .i64 0, .int .i64 (-P.k)] (by unfold maxLen; simp) j u hu) (fun u hu => by simp at hu; rcases hu with rfl | rfl | rfl <;> rfl) (by unfold maxLen; omega) (by omega) (by have := HQ9.out.kp.size; simp; omega) ?_
            intro v8' wA hownA hgrowA _
            have hqA := (HQ9.out.no (Kp.alloc No w9 (.cells #[.int .i64 (m9 : Nat), .int .i64 0, .int .i64 (-P.k)] 84))).appSh hbw (v' := v8') (sh := q.sh ++ [⟨(m9 : Nat), (ki : Nat), 0, 0⟩]) (by
              rw [List.length_append, flat_snoc, HM8.out]
              have e : shC P.k ⟨(m9 : Nat), (ki : Nat), 0, 0⟩ = [.int .i64 (m9 : Nat), .int .i64 0, .int .i64 (-P.k)] := by
                show [Value.int .i64 _, Value.int .i64 _, Value.int .i64 (0 - P.k)] = _
                rw [Int.zero_sub]
              rw [e]
              exact hownA) hgrowA
            have hkx : Kp (fun g => Value.ownBlock (.slice a8 ki c8) = some g) w9 wA := ((Kp.alloc No w9 _).of_no).tr (Kp.grown hgrowA fun k hk _ => hk)
            have HCXA := Lib.hid (hkx.heap HCX9.out (fun e => own_other HSHW.out HCX9.out (by decide) e))
            have HQA := Lib.hid hqA
            have HQN := Lib.hid (show qNew P ⟨cw, ch⟩ q = ⟨q.sh ++ [⟨(m9 : Nat), (ki : Nat), 0, 0⟩], q.tp ++ [ch + P.k], q.out⟩ by
              have h := qNew_new (P := P) (c := ⟨cw, ch⟩) (q := q) (by rw [HON.out, HM9.out])
              rw [HM8.out, HM9.out] at h
              exact h)
            clear hownA hgrowA hqA hkx HQ9 HCX9 HSHW p2
            go_wp2_with fail
            go_meet
            exact ⟨_, _, _, rfl, rfl, by rw [if_pos HM8.out.symm, HQN.out], HQA.out, HCXA.out⟩
          · have hol : on < m9 := by omega
            have hol' : (on : Int) < (m9 : Nat) := by omega
            have hne : ((on : Int) = (m9 : Int)) = False := eq_false (by omega)
            have hne2 : (on = m9) = False := eq_false hom
            obtain ⟨y, hy⟩ : ∃ y, q.tp[on]? = some y := ⟨_, List.getElem?_eq_getElem (by rw [HM9.out]; exact hol)⟩
            have hyb := HQOK.out.tx y (List.mem_of_getElem? hy)
            obtain ⟨gt, rfl⟩ := HF9.out (by omega)
            have c0 := own_cell HTPW.out (tpC_at (K := P.k) hy)
            obtain ⟨U, hU⟩ : ∃ U, y - P.k = U := ⟨_, rfl⟩
            rw [hU] at c0
            have hUy : U + P.k = y := by omega
            have hwU : IntKind.i64.wrap (U + P.k) = y := by rw [IntKind.wrap_i64]; omega
            have hwy : IntKind.i64.wrap y = y := by rw [IntKind.wrap_i64]; omega
            have hwc : IntKind.i64.wrap (y + ch) = y + ch := by rw [IntKind.wrap_i64]; omega
            have hUb : -50000 ≤ U ∧ U ≤ 200 * 20050000 := by omega
            have HY := Lib.hid hy
            have HOM := Lib.hid hom
            have HSHW := Lib.hid (show wc.ownsRow w1.heap.size 84 3 (.slice a8 ki c8) ki (q.sh.flatMap (shC P.k)) by have h := HQ.out.sh; rw [HM8.out] at h; exact h)
            have h63 : ki + 1 ≤ maxLen := by unfold maxLen; omega
            have hbytes : (ki + 1) * 24 ≤ 140737488355328 := by omega
            have HNO := Lib.hid (show ∀ b : Nat, (some (⟨b, 0, none⟩ : Addr) = none → (1 : Nat) = 0 ∧ (1 : Nat) = 0) from fun b h => by cases h)
            have HNC := Lib.hid (show ∀ (W : World) j u, [Value.int .i64 (on : Nat), .int .i64 y, .int .i64 (-P.k)][j]? = some u → (W.alloc (.cells #[.int .i64 (on : Nat), .int .i64 y, .int .i64 (-P.k)] 84)).cell? ((⟨W.heap.size, 0, none⟩ : Addr).add j) = some u from fun W j u hu => new_cells W [.int .i64 (on : Nat), .int .i64 y, .int .i64 (-P.k)] (by unfold maxLen; simp) j u hu)
            have HONE := Lib.hid (show ∀ u ∈ [Value.int .i64 (on : Nat), .int .i64 y, .int .i64 (-P.k)], u.oneCell' = true from fun u hu => by simp at hu; rcases hu with rfl | rfl | rfl <;> rfl)
            have hws := HQ.out.kp.size
            have hog := own_ge HTPW.out (g := gt) rfl
            have hgt8 : ¬ (Value.slice a8 ki c8).ownBlock = some gt := fun e => own_apart HSHW.out HTPW.out (by decide) e rfl
            have hgp8 : ¬ (Value.slice a8 ki c8).ownBlock = some gp := fun e => by
              have h1 := (own_ge HSHW.out e).1
              have h2 := (Array.getElem?_eq_some_iff.1 HP.out).1
              omega
            clear hom hy hU
            go_wp2_with fail
            go_region_held3 (fun w' => w'.cell? ⟨gt, on, none⟩ = some (.int .i64 U) ∧ w'.cell? ⟨gp, 2, none⟩ = some (.int .i64 P.k)) (first | exact ⟨c0, p2⟩ | go_keep | exact ⟨KG.cell c0 hgt8, KG.cell p2 hgp8⟩)
              ((first | (refine stepS_append (by rfl) _ _ 81 (by rfl) w1.heap.size 84 i2 (.agg #[.int .i64 0, .int .i64 0, .int .i64 0]) 3 24 Try.underlying81 hi2 hz21 hz22 hz23 (by rfl) (by decide) (.slice a8 ki c8) ki (q.sh.flatMap (shC P.k)) (by rfl) (own_kp HSHW.out ((Kp.drew No _).tr (Kp.alloc No _ _)) (fun _ _ h => h)) (some ⟨wc.heap.size, 0, none⟩) 1 1 [.int .i64 (on : Nat), .int .i64 y, .int .i64 (-P.k)] (by rfl) (by rfl) (HNO.out _) (fun ad had => by cases had; exact HNC.out _) HONE.out h63 hbytes (by simp; omega) (ki + 1) rfl _ rfl ?_; intro v5 w5 hown5 hgrow5 hnz5; have KG : Kp (fun g => (Value.slice a8 ki c8).ownBlock = some g) wc w5 := (((Kp.drew No wc).tr (Kp.alloc No _ _)).of_no).tr (Kp.grown hgrow5 fun k hk _ => hk))))
            have hq5 := (HQ.out.no ((Kp.drew No wc).tr (Kp.alloc No _ (.cells #[.int .i64 (on : Nat), .int .i64 y, .int .i64 (-P.k)] 84)))).appSh hbw (v' := v5) (sh := q.sh ++ [⟨(on : Nat), (ki : Nat), 0, y⟩]) (by
              rw [List.length_append, flat_snoc, HM8.out]
              have e : shC P.k ⟨(on : Nat), (ki : Nat), 0, y⟩ = [.int .i64 (on : Nat), .int .i64 y, .int .i64 (-P.k)] := by
                show [Value.int .i64 _, Value.int .i64 _, Value.int .i64 (0 - P.k)] = _
                rw [Int.zero_sub]
              rw [e]
              exact hown5) hgrow5
            have HCX5 := Lib.hid (KG.heap HCX.out (fun e => own_other HSHW.out HCX.out (by decide) e))
            have HNGT := Lib.hid (show gx ≠ gt from fun e => own_other HTPW.out HCX.out (by decide) (by rw [e]; rfl))
            have ct := KG.cell c0 hgt8
            have pt := KG.cell p2 hgp8
            have xt : w5.cell? ⟨gx, 1, none⟩ = some (.int .i64 ch) := by rw [cell_of_row _ _ _ _ _ _ HCX5.out]; rfl
            have HQ5 := Lib.hid hq5
            have HQN := Lib.hid (show qNew P ⟨cw, ch⟩ q = ⟨q.sh ++ [⟨(on : Nat), (ki : Nat), 0, y⟩], q.tp.set on (y + (ch + P.k)), q.out⟩ by
              have h := qNew_old (P := P) (c := ⟨cw, ch⟩) (q := q) (on := on) (y := y) HON.out (by rw [HM9.out]; exact HOM.out) HY.out
              rw [HM8.out] at h
              exact h)
            clear c0 p2 x1 KG hq5 hown5 hgrow5 hnz5 HNC HONE HNO HSHW HTPW HQ HCX hgt8 hgp8
            go_wp2_with fail
            refine wp_region_still_tail 13 (by kernel_rfl) (by kernel_rfl) ?_
            simp only [List.take_succ_cons, List.take_zero, List.drop_succ_cons, List.drop_zero]
            repeat still_step
            refine wpStill_nil ?_
            change wpList _ _ _ _ _ w5.drew
            have HQa := Lib.hid (HQ5.out.no (Kp.drew _ _))
            have HCXa := Lib.hid ((Kp.drew No w5).heap HCX5.out id)
            clear ct pt xt HQ5 HCX5
            generalize w5.drew = wa2 at *
            have hqb : QRo w1 w1.heap.size go n (.slice (some ⟨gor, 0, none⟩) n cor) ord P.k ⟨q.sh ++ [⟨(on : Nat), (ki : Nat), 0, y⟩], q.tp, q.out⟩ v5 (.slice (some ⟨gt, 0, none⟩) (⟨q.sh ++ [⟨(on : Nat), (ki : Nat), 0, y⟩], q.tp, q.out⟩ : Qs).tp.length c9) wa2 := by
              show QRo w1 w1.heap.size go n (.slice (some ⟨gor, 0, none⟩) n cor) ord P.k _ v5 (.slice (some ⟨gt, 0, none⟩) q.tp.length c9) wa2
              rw [HM9.out]
              exact HQa.out
            have hqc := hqb.setTp hbw on (x := y + (ch + P.k)) (u := y + ch) (by omega)
            have cya : wa2.cell? ⟨gt, on, none⟩ = some (.int .i64 (y - P.k)) := own_cell hqb.tp (tpC_at (K := P.k) HY.out)
            have fya := own_free hqb.tp on
            have HQC := Lib.hid (show QRo w1 w1.heap.size go n (.slice (some ⟨gor, 0, none⟩) n cor) ord P.k ⟨q.sh ++ [⟨(on : Nat), (ki : Nat), 0, y⟩], q.tp.set on (y + (ch + P.k)), q.out⟩ v5 (.slice (some ⟨gt, 0, none⟩) m9 c9) (wa2.setCell ⟨gt, on, none⟩ (.int .i64 (y + ch))) by
              have h := hqc
              dsimp only at h
              rw [HM9.out] at h
              exact h)
            have HCXC := Lib.hid ((kp_setOne wa2 gt on (.int .i64 (y + ch))).heap HCXa.out (fun e => HNGT.out e))
            clear hqb hqc HQa HCXa
            go_wp2_with fail
            go_meet
            exact ⟨_, _, _, rfl, rfl, by rw [if_pos HM8.out.symm, HQN.out], HQC.out, HCXC.out⟩
        · have hne : ((ki : Int) = (m8 : Int)) = False := eq_false (by omega)
          have hne2 : (ki = m8) = False := eq_false hkm
          go_wp2_with fail
          go_meet
          exact ⟨_, _, q, rfl, rfl, by rw [if_neg (by rw [HM8.out]; exact hkm)], HQ.out, HCX.out⟩
      case rest =>
      clear HQ HCX HF9 HM9 hb9
      obtain ⟨u8', u9', q2, rfl, rfl, hq2, hq, hcx⟩ := hcut
      have HKL := Lib.hid (show ki ≤ q.sh.length by rw [HM8.out]; exact hkl)
      obtain ⟨s, hs⟩ := sh_new HKL.out hq2
      have HST := Lib.hid (show qStep P l (quickG P l (ord.take k)) i = qPut P ⟨cw, ch⟩ i ki q2 by rw [← HQE.out]; exact qStep_at HCI.out HKI.out hq2)
      have hq2ok : QOk n (k + 1) q2 := by
        rw [hq2]
        split
        · exact HQOK.out.new HCB.out.2 HJ.out.k
        · exact HQOK.out.up
      have hix2 : IdxS q2 := by
        rw [hq2]
        split
        · exact HIXS.out.new
        · exact HIXS.out
      have hsx : 0 ≤ s.x ∧ s.x ≤ k * 20050000 := by
        by_cases h : ki = q.sh.length
        · have e := hq2
          rw [if_pos h] at e
          rw [e, h] at hs
          simp [qNew] at hs
          rw [← hs]
          dsimp only
          omega
        · have e := hq2
          rw [if_neg h] at e
          rw [e] at hs
          exact HQOK.out.sx s (List.mem_of_getElem? hs)
      have hss : s.s = (ki : Nat) := hix2 ki s hs
      obtain ⟨a8', c8', rfl, _, _, _⟩ := own_form hq.sh
      obtain ⟨n8, hn8⟩ : ∃ m, q2.sh.length = m := ⟨_, rfl⟩
      have hkn8 : ki < n8 := by rw [← hn8]; exact (List.getElem?_eq_some_iff.1 hs).1
      have hkn8' : (ki : Int) < (n8 : Nat) := by omega
      rw [hn8] at hq ⊢
      obtain ⟨gs, zgs, _, _, hks, zs⟩ := own_at (shC_len P.k) (show wc.ownsRow w1.heap.size 84 3 (.slice a8' n8 c8') n8 (q2.sh.flatMap (shC P.k)) by have h := hq.sh; rw [hn8] at h; exact h) hs (by decide)
      subst zgs
      have s0 := (zs 0 _ rfl).1
      have s1 := (zs 1 _ rfl).1
      have s2 := (zs 2 _ rfl).1
      simp only [Nat.add_zero] at s0
      obtain ⟨U, hU⟩ : ∃ U, s.x - P.k = U := ⟨_, rfl⟩
      rw [hU] at s2
      have hkb := HJ.out.k
      have hcb := HCB.out
      have hUx : U + P.k = s.x := by omega
      have hwU : IntKind.i64.wrap (U + P.k) = s.x := by rw [IntKind.wrap_i64]; omega
      have hwx : IntKind.i64.wrap s.x = s.x := by rw [IntKind.wrap_i64]; omega
      have hwc : IntKind.i64.wrap (s.x + cw) = s.x + cw := by rw [IntKind.wrap_i64]; omega
      have HS := Lib.hid hs
      have HSS := Lib.hid hss
      have HIX2 := Lib.hid hix2
      have HN8 := Lib.hid hn8
      have HQK := Lib.hid (hq2ok.put (i := i) (c := ⟨cw, ch⟩) hs hsx hcb.1 hkb)
      have HIX3 := Lib.hid (hix2.put (P := P) (c := ⟨cw, ch⟩) (i := i) hs)
      have HOL := Lib.hid hq2ok.ol
      have HQ := Lib.hid hq
      have HCX := Lib.hid hcx
      have HQ2 := Lib.hid hq2
      clear hq hcx hq2ok hix2 hss hn8 hq2 zs hks hU hs hkl
      go_upto_region 27 with fail
      have hkc : Kp No wc (wc.alloc (.cells #[.int .i64 s.p, .int .i64 s.y, .int .i64 U] 84)) := Kp.alloc _ _ _
      obtain ⟨gy, hgy⟩ : ∃ gy, gy = wc.heap.size := ⟨_, rfl⟩
      have HCY := Lib.hid (show (wc.alloc (.cells #[.int .i64 s.p, .int .i64 s.y, .int .i64 U] 84)).heap[gy]? = some (.cells #[.int .i64 s.p, .int .i64 s.y, .int .i64 U] 84 (0, 0)) by rw [hgy]; exact heap_alloc_new _ _)
      have HNY := Lib.hid (show gy ≠ go ∧ gy ≠ gs by
        have h1 := (own_ge HQ.out.out (g := go) rfl).2
        have h2 := (own_ge HQ.out.sh (g := gs) rfl).2
        omega)
      have HQa := Lib.hid (HQ.out.no hkc)
      have HCXa := Lib.hid (hkc.heap HCX.out id)
      rw [← hgy]
      clear hkc hgy s0 s1 s2 HQ HCX
      generalize wc.alloc (.cells #[.int .i64 s.p, .int .i64 s.y, .int .i64 U] 84) = wb at *
      have cord : wb.cell? ⟨gor, k, none⟩ = some (.int .i64 (i : Nat)) := own_cell HQa.out.ord (map_at' natI HIK.out)
      have y0 : wb.cell? ⟨gy, 0, none⟩ = some (.int .i64 s.p) := by rw [cell_of_row _ _ _ _ _ _ HCY.out]; rfl
      have y1 : wb.cell? ⟨gy, 1, none⟩ = some (.int .i64 s.y) := by rw [cell_of_row _ _ _ _ _ _ HCY.out]; rfl
      have y2 : wb.cell? ⟨gy, 2, none⟩ = some (.int .i64 U) := by rw [cell_of_row _ _ _ _ _ _ HCY.out]; rfl
      have hpb := HQa.out.kp.heap HP.out id
      have p2 : wb.cell? ⟨gp, 2, none⟩ = some (.int .i64 P.k) := by rw [cell_of_row _ _ _ _ _ _ hpb]; rfl
      clear hpb
      refine wp_region_still_tail 17 (by kernel_rfl) (by kernel_rfl) ?_
      simp only [List.take_succ_cons, List.take_zero, List.drop_succ_cons, List.drop_zero]
      repeat still_step
      refine wpStill_nil ?_
      change wpList _ _ _ _ _ wb.drew
      have HQb := Lib.hid (HQa.out.no (Kp.drew _ _))
      have HCXb := Lib.hid ((Kp.drew No wb).heap HCXa.out id)
      have HCYb := Lib.hid ((Kp.drew No wb).heap HCY.out id)
      clear cord y0 y1 y2 p2 HQa HCXa HCY
      generalize wb.drew = wz at *
      have hio : q2.out[i]? = some (q2.out.getD i default) := by
        rw [List.getD_eq_getElem?_getD, List.getElem?_eq_getElem (by rw [HOL.out]; exact hin)]
        rfl
      obtain ⟨zg, zge, _, _, _, zc⟩ := own_at spo_len HQb.out.out hio (by decide)
      cases zge
      have o0 := (zc 0 _ rfl).1
      have o1 := (zc 1 _ rfl).1
      have o2 := (zc 2 _ rfl).1
      have o3 := (zc 3 _ rfl).1
      have f0 := (zc 0 _ rfl).2
      have f1 := (zc 1 _ rfl).2
      have f2 := (zc 2 _ rfl).2
      have f3 := (zc 3 _ rfl).2
      simp only [Nat.add_zero] at o0 f0
      have HQo := HQb.out.setOut hbw hio s
      rw [HSS.out] at HQo
      have HQ3 := Lib.hid HQo
      have hkz : Kp (One go) wz ((((wz.setCell ⟨go, i * 4, none⟩ (.int .i64 s.p)).setCell ⟨go, i * 4 + 1, none⟩ (.int .i64 (ki : Nat))).setCell ⟨go, i * 4 + 2, none⟩ (.int .i64 s.x)).setCell ⟨go, i * 4 + 3, none⟩ (.int .i64 s.y)) := (((kp_setOne _ _ _ _).tr (kp_setOne _ _ _ _)).tr (kp_setOne _ _ _ _)).tr (kp_setOne _ _ _ _)
      have HCX3 := Lib.hid (hkz.heap HCXb.out (fun e => HNG.out e))
      have HCY3 := Lib.hid (hkz.heap HCYb.out (fun e => HNY.out.1 e))
      clear HQo hio zc hkz HQb HCXb HCYb
      go_upto_region 28 with fail
      clear o0 o1 o2 o3 f0 f1 f2 f3
      generalize ((((wz.setCell ⟨go, i * 4, none⟩ (.int .i64 s.p)).setCell ⟨go, i * 4 + 1, none⟩ (.int .i64 (ki : Nat))).setCell ⟨go, i * 4 + 2, none⟩ (.int .i64 s.x)).setCell ⟨go, i * 4 + 3, none⟩ (.int .i64 s.y)) = wy at *
      have hpb := HQ3.out.kp.heap HP.out id
      have p2 : wy.cell? ⟨gp, 2, none⟩ = some (.int .i64 P.k) := by rw [cell_of_row _ _ _ _ _ _ hpb]; rfl
      have y2 : wy.cell? ⟨gy, 2, none⟩ = some (.int .i64 U) := by rw [cell_of_row _ _ _ _ _ _ HCY3.out]; rfl
      have x0 : wy.cell? ⟨gx, 0, none⟩ = some (.int .i64 cw) := by rw [cell_of_row _ _ _ _ _ _ HCX3.out]; rfl
      obtain ⟨zg, zge, _, _, _, zc⟩ := own_at (shC_len P.k) (show wy.ownsRow w1.heap.size 84 3 (.slice (some ⟨gs, 0, none⟩) n8 c8') n8 (q2.sh.flatMap (shC P.k)) by have h := HQ3.out.sh; rw [show (⟨q2.sh, q2.tp, q2.out.set i s⟩ : Qs).sh.length = n8 from HN8.out] at h; exact h) HS.out (by decide)
      cases zge
      have s2 := (zc 2 _ rfl).1
      have f2 := (zc 2 _ rfl).2
      have hq4 : QRo w1 w1.heap.size go n (.slice (some ⟨gor, 0, none⟩) n cor) ord P.k ⟨q2.sh, q2.tp, q2.out.set i s⟩ (.slice (some ⟨gs, 0, none⟩) (⟨q2.sh, q2.tp, q2.out.set i s⟩ : Qs).sh.length c8') u9 wy := by
        show QRo w1 w1.heap.size go n (.slice (some ⟨gor, 0, none⟩) n cor) ord P.k _ (.slice (some ⟨gs, 0, none⟩) q2.sh.length c8') u9 wy
        rw [HN8.out]
        exact HQ3.out
      have HQ4 := Lib.hid (hq4.setSh hbw (k := ki) HS.out (x := s.x + (cw + P.k)) (u := s.x + cw) (by omega))
      have HQE2 := Lib.hid (show qPut P ⟨cw, ch⟩ i ki q2 = ⟨q2.sh.set ki { s with x := s.x + (cw + P.k) }, q2.tp, q2.out.set i s⟩ by
        simp only [qPut, getD_of HS.out])
      clear hq4 zc hpb HCX3 HCY3 HQ3
      go_wp2_with fail
      go_roundw
      case rel =>
        refine ⟨k + 1, _, _, by omega, by go_num, rfl, rfl, ?_, ?_, ?_⟩
        · rw [quickG_take HIK.out, HST.out, HQE2.out]
          have h := HQ4.out
          dsimp only at h
          rw [HN8.out] at h
          exact h
        · rw [quickG_take HIK.out, HST.out]
          exact HQK.out
        · rw [quickG_take HIK.out, HST.out]
          exact HIX3.out
      case measure => simp [intOf]; omega
    · obtain rfl : k = n := by omega
      have HQF := Lib.hid hq
      have HF := Lib.hid (show quickF P l = (quickG P l (ord.take k)).out by rw [List.take_of_length_le (by rw [HORL.out]; exact Nat.le_refl _), HORD.out]; rfl)
      clear hq hqok hix
      go_wp2_with fail
      exact bodyPost_ret (v := .tuple #[.slice (some ⟨go, 0, none⟩) k k, .int .i64 0]) (by simp [results, Try.results13, go_sem]) rfl ⟨some ⟨go, 0, none⟩, k, k, by rw [HE2.out], by rw [HL2.out, HF.out]; exact Rd.of_own spo_len (by decide) HQF.out.out, HKW.out.tr HQF.out.kp⟩
end Go.Proofs.Ytamjhpdgclbfgaa
