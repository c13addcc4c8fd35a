/- Chapter 09: Quick of at most 40 cuts: the walk. Printed by gen_qkx.py. -/
import Derived.StillTailTactics
import Derived.Test.YtamjhpdgclbfgaaXBodM
import Derived.Test.YtamjhpdgclbfgaaXSsHM
import Derived.Test.YtamjhpdgclbfgaaXNwC
namespace Go.Proofs.Ytamjhpdgclbfgaa
open Go.RowKit Go.Kq

theorem ordF_len (l : List Ct) : (ordF l).length = l.length := by
  rw [(ordF_perm l).length_eq, List.length_range]
theorem ordF_lt (l : List Ct) : ∀ i ∈ ordF l, i < l.length := fun _ hi => List.mem_range.1 ((ordF_perm l).mem_iff.1 hi)
set_option maxHeartbeats 16000000 in
set_option maxRecDepth 100000 in
theorem Quick_any (P : Pt) (A : Option Addr) (n ca : Nat) (l : List Ct) (w : World) (hx : RdC w A n l) (hn : n ≤ 40) (hA : ∀ b o, A = some ⟨b, o, none⟩ → b < w.heap.size) (hc : jchk P l 200 = 0) (hbg : l.any (bigC P) = false) :
    Calls Try.prog 12 #[P.val, .slice A n ca] w fun e w' => ∃ g, e = .returned (.tuple #[.slice (some ⟨g, 0, none⟩) n n, .int .i64 0]) ∧ RdS w' (some ⟨g, 0, none⟩) n (quickG P l (ordF l)).out ∧ Kp No w w' := by
  obtain ⟨i1, hi1, hy0, hy1, hy2⟩ := info_parts infoL
  obtain ⟨i2, hi2, hx0, hx1, hx2⟩ := info_parts infoSp
  have HX := Lib.hid hx
  have HL := Lib.hid hx.1
  have HJ := Lib.hid (job_ok hc)
  obtain ⟨w1, hw1⟩ : ∃ w1, w1 = (w.alloc (.cells #[.int .i64 P.w, .int .i64 P.h, .int .i64 P.k] 23)).alloc (.cells #[.int .i64 P.w, .int .i64 P.h, .int .i64 P.k, .slice A n ca] 56) := ⟨_, rfl⟩
  obtain ⟨gp, hgp⟩ : ∃ gp, gp = w.heap.size := ⟨_, rfl⟩
  obtain ⟨gj, hgj⟩ : ∃ gj, gj = w.heap.size + 1 := ⟨_, rfl⟩
  have hk1 : Kp No w w1 := by rw [hw1]; exact (Kp.alloc _ _ _).tr (Kp.alloc _ _ _)
  have HP := Lib.hid (show w1.heap[gp]? = some (.cells #[.int .i64 P.w, .int .i64 P.h, .int .i64 P.k] 23 (0, 0)) by
    rw [hw1, hgp]
    exact (Kp.alloc No _ _).heap (heap_alloc_new w _) id)
  have hjb : w1.heap[gj]? = some (.cells #[.int .i64 P.w, .int .i64 P.h, .int .i64 P.k, .slice A n ca] 56 (0, 0)) := by
    have := heap_alloc_new (w.alloc (.cells #[.int .i64 P.w, .int .i64 P.h, .int .i64 P.k] 23)) (.cells #[.int .i64 P.w, .int .i64 P.h, .int .i64 P.k, .slice A n ca] 56)
    rw [hw1, hgj]
    simpa using this
  have HJB := Lib.hid hjb
  have HW1 := Lib.hid hw1
  have HK1 := Lib.hid hk1
  have HX1 := Lib.hid (hx.no hk1)
  have HA1 := Lib.hid (show ∀ b o, A = some ⟨b, o, none⟩ → b < w1.heap.size from fun b o e => Nat.lt_of_lt_of_le (hA b o e) hk1.size)
  have HC := Lib.hid (jcheck_any P A n ca l 200 w1 (hx.no hk1) (by omega))
  have HBIG := Lib.hid (fun w2 (k : Kp No w1 w2) => large_any P A n ca l w2 ((hx.no hk1).no k) (by omega))
  have HGP := Lib.hid (show gp = w.heap.size ∧ gj = gp + 1 from ⟨hgp, by rw [hgp, hgj]⟩)
  rw [hc] at HC
  rw [hbg] at HBIG
  simp only [jobV] at HC HBIG
  have MN := Lib.hid make_n
  have MS := Lib.hid make_s
  unfold Pt.val
  clear hx hA hc hbg hw1 hgp hgj hk1 hjb
  go_enter Try.func12, Try.ntmps12
  go_wp2_with fail
  rw [← HW1.out, ← HGP.out.1, ← HGP.out.2]
  with_reducible refine HC.out.mono ?_
  rintro e w2 ⟨rfl, k2⟩
  have hj2 := k2.heap HJB.out id
  have b0 : w2.cell? ⟨gj, 0, none⟩ = some (.int .i64 P.w) := by rw [cell_of_row _ _ _ _ _ _ hj2]; rfl
  have b1 : w2.cell? ⟨gj, 1, none⟩ = some (.int .i64 P.h) := by rw [cell_of_row _ _ _ _ _ _ hj2]; rfl
  have b2 : w2.cell? ⟨gj, 2, none⟩ = some (.int .i64 P.k) := by rw [cell_of_row _ _ _ _ _ _ hj2]; rfl
  have b3 : w2.cell? ⟨gj, 3, none⟩ = some (.slice A n ca) := by rw [cell_of_row _ _ _ _ _ _ hj2]; rfl
  have HK2 := Lib.hid k2
  clear k2 hj2 HC HW1
  go_wp2_with fail
  with_reducible refine (HBIG.out w2 HK2.out).mono ?_
  rintro e w3 ⟨rfl, k3⟩
  have HK3 := Lib.hid (HK2.out.tr k3)
  have mk := MN.out n (by omega) w3
  clear b0 b1 b2 b3 HBIG k3 HK2
  go_wp2_with fail
  have hk4 : Kp No w3 (w3.alloc (.cells (zN n) 3)) := Kp.alloc _ _ _
  obtain ⟨gor, hgor⟩ : ∃ gor, gor = w3.heap.size := ⟨_, rfl⟩
  have HO4 := Lib.hid (show (w3.alloc (.cells (zN n) 3)).ownsRow w1.heap.size 3 1 (.slice (some ⟨gor, 0, none⟩) n n) n ((List.replicate n 0).map natI) by
    rw [hgor]
    exact own_made w3 (by simp) HK3.out.size (by unfold maxLen; omega))
  have HK4 := Lib.hid (HK3.out.tr hk4)
  rw [← hgor]
  clear mk hk4 hgor HK3
  generalize w3.alloc (.cells (zN n) 3) = w4 at *
  go_loopw [34] (fun v wr => ∃ k : Nat, k ≤ n ∧ v = .int .i64 k ∧ wr.ownsRow w1.heap.size 3 1 (.slice (some ⟨gor, 0, none⟩) n n) n ((List.range k ++ List.replicate (n - k) 0).map natI) ∧ Kp No w1 wr) (fun v _ => n - (intOf v).toNat)
  case atStart => exact ⟨0, by omega, rfl, by simpa using HO4.out, HK4.out⟩
  case round =>
    clear HO4 HK4
    obtain ⟨k, hk, rfl, hor, hkr⟩ := hrel
    have HOR := Lib.hid hor
    have HKR := Lib.hid hkr
    by_cases hlt : k < n
    · obtain ⟨old, y0⟩ : ∃ old, wr.cell? ⟨gor, k, none⟩ = some old := ⟨_, own_cell hor (List.getElem?_eq_getElem (by simp; omega))⟩
      have y1 := own_free hor k
      clear hor hkr
      go_wp2_with fail
      go_roundw
      case rel =>
        refine ⟨k + 1, by omega, by go_num, ?_, HKR.out.trans (kp_setOne _ _ _ _) fun g hg e => by have e : g = gor := e; have := (own_ge HOR.out (g := gor) rfl).1; omega⟩
        have h := own_set HOR.out k (natI k)
        have e := set_pad (List.range k) k 0 (n - (k + 1))
        rw [List.length_range, show n - (k + 1) + 1 = n - k by omega] at e
        rw [← List.map_set, e, ← List.range_succ] at h
        exact h
      case measure => simp [intOf]; omega
    · obtain rfl : n = k := by omega
      have HOS := Lib.hid (show wr.ownsRow w1.heap.size 3 1 (.slice (some ⟨gor, 0, none⟩) n n) n ((List.range n).map natI) by simpa using hor)
      clear hor hkr HOR
      have hj5 := HKR.out.heap HJB.out id
      have b0 : wr.cell? ⟨gj, 0, none⟩ = some (.int .i64 P.w) := by rw [cell_of_row _ _ _ _ _ _ hj5]; rfl
      have b1 : wr.cell? ⟨gj, 1, none⟩ = some (.int .i64 P.h) := by rw [cell_of_row _ _ _ _ _ _ hj5]; rfl
      have b2 : wr.cell? ⟨gj, 2, none⟩ = some (.int .i64 P.k) := by rw [cell_of_row _ _ _ _ _ _ hj5]; rfl
      have b3 : wr.cell? ⟨gj, 3, none⟩ = some (.slice A n ca) := by rw [cell_of_row _ _ _ _ _ _ hj5]; rfl
      have HSO := Lib.hid (sortR_any P A n ca l gor n w1.heap.size wr (HX1.out.no HKR.out) (fun b o e => by have h1 := HA1.out b o e; have h2 := (own_ge HOS.out (g := gor) rfl).1; omega) HOS.out (by omega))
      simp only [befV, jobV] at HSO
      clear hj5 hlt hk
      go_wp2_with fail
      with_reducible refine HSO.out.mono ?_
      rintro e w5 ⟨rfl, ho5, hk5⟩
      have HOO := Lib.hid (show w5.ownsRow w1.heap.size 3 1 (.slice (some ⟨gor, 0, none⟩) n n) n ((ordF l).map natI) from ho5)
      have HK5 := Lib.hid (show Kp No w1 w5 from HKR.out.trans hk5 fun g hg e => by have e : g = gor := e; have := (own_ge HOS.out (g := gor) rfl).1; omega)
      have mk := MS.out n (by omega) w5
      clear b0 b1 b2 b3 HSO ho5 hk5 HOS HKR
      go_wp2_with fail
      obtain ⟨go, hgo⟩ : ∃ go, go = w5.heap.size := ⟨_, rfl⟩
      obtain ⟨ord, hord⟩ : ∃ ord, ord = ordF l := ⟨_, rfl⟩
      have HORL := Lib.hid (show ord.length = n by rw [hord, ordF_len, HL.out])
      have HORT := Lib.hid (show ∀ i ∈ ord, i < n by rw [hord, ← HL.out]; exact ordF_lt l)
      have HORD := Lib.hid hord
      have hk6 : Kp No w5 (w5.alloc (.cells (zSp n) 52)) := Kp.alloc _ _ _
      have HQ0 := Lib.hid (show QWo w1 w1.heap.size go gor n ord (quickG P l (ord.take 0)) (.slice none 0 0) (.slice none 0 0) (w5.alloc (.cells (zSp n) 52)) from
        ⟨HK5.out.tr hk6, ⟨rfl, .inl ⟨rfl, rfl⟩⟩, ⟨rfl, .inl ⟨rfl, rfl⟩⟩, by
          rw [hgo]
          have := own_made (e := 52) (s := 4) (n := n) (xs := (List.replicate n (default : Spo)).flatMap Spo.cells) w5 (by rw [flat_len spo_len, List.length_replicate]) HK5.out.size (by unfold maxLen; omega)
          show World.ownsRow _ _ _ _ _ _ ((List.replicate l.length (default : Spo)).flatMap Spo.cells)
          rw [HL.out]
          exact this, by rw [hord]; exact hk6.owns HOO.out fun _ _ h => h, by intro h; cases h⟩)
      have HQOK0 := Lib.hid (show QOk n 0 (quickG P l (ord.take 0)) from ⟨by show (List.replicate l.length (default : Spo)).length = n; rw [List.length_replicate, HL.out], Nat.le_refl _, Nat.le_refl _, fun s hs => (by cases hs), fun s hs => (by cases hs)⟩)
      rw [← hgo]
      have HGO := Lib.hid (show gp ≠ go ∧ w1.heap.size ≤ go by
        have h1 := (Array.getElem?_eq_some_iff.1 HP.out).1
        have h2 := HK5.out.size
        omega)
      have hbw : w1.heap.size ≤ w1.heap.size := Nat.le_refl _
      clear mk hgo hk6 HOO HK5 hord
      generalize w5.alloc (.cells (zSp n) 52) = w6 at *
      go_loopw [11, 12, 51] (fun v11 v12 v wr => ∃ (k : Nat) (u11 u12 : Value), k ≤ n ∧ v = .int .i64 k ∧ v11 = u11 ∧ v12 = u12 ∧ QWo w1 w1.heap.size go gor n ord (quickG P l (ord.take k)) u11 u12 wr ∧ QOk n k (quickG P l (ord.take k))) (fun _ _ v _ => n - (intOf v).toNat)
      case atStart => exact ⟨0, _, _, by omega, rfl, rfl, rfl, HQ0.out, HQOK0.out⟩
      case round =>
        clear HQ0 HQOK0
        obtain ⟨k, v11, v12, hk, rfl, rfl, rfl, hq, hqok⟩ := hrel
        have HQR := Lib.hid hq
        by_cases hlt : k < n
        · obtain ⟨i, hi⟩ : ∃ i, ord[k]? = some i := ⟨_, List.getElem?_eq_getElem (by rw [HORL.out]; exact hlt)⟩
          have hin : i < n := HORT.out i (List.mem_of_getElem? hi)
          obtain ⟨c, hc⟩ : ∃ c, l[i]? = some c := ⟨_, List.getElem?_eq_getElem (by rw [HL.out]; exact hin)⟩
          obtain ⟨q, hqe⟩ : ∃ q, q = quickG P l (ord.take k) := ⟨_, rfl⟩
          rw [← hqe] at HQR hqok
          have HQOK := Lib.hid hqok
          have HIK := Lib.hid hi
          have HCI := Lib.hid hc
          have HCB := Lib.hid (show (0 ≤ c.w ∧ c.w ≤ 20000000) ∧ 0 ≤ c.h ∧ c.h ≤ 20000000 by have := HJ.out.cut c (List.mem_of_getElem? hc); omega)
          have cor : wr.cell? ⟨gor, k, none⟩ = some (.int .i64 (i : Nat)) := own_cell HQR.out.ord (map_at' natI hi)
          have hkw := HQR.out.kp
          obtain ⟨bl, ol, rfl, hbl, hcl⟩ := (HX1.out.no hkw).2 i c hc
          have l0 := hcl 0 _ rfl
          have l1 := hcl 1 _ rfl
          simp only [Nat.add_zero] at l0
          have HQE := Lib.hid hqe
          clear hq hqok hi hc hcl hqe hkw
          go_wp2_with fail
          have hkc : Kp No wr (wr.alloc (.cells #[.int .i64 c.w, .int .i64 c.h] 35)) := Kp.alloc _ _ _
          obtain ⟨gx, hgx⟩ : ∃ gx, gx = wr.heap.size := ⟨_, rfl⟩
          have HCX0 := Lib.hid (show (wr.alloc (.cells #[.int .i64 c.w, .int .i64 c.h] 35)).heap[gx]? = some (.cells #[.int .i64 c.w, .int .i64 c.h] 35 (0, 0)) by rw [hgx]; exact heap_alloc_new _ _)
          have HNG := Lib.hid (show gx ≠ go by have := (own_ge HQR.out.out (g := go) rfl).2; omega)
          have HQC := Lib.hid (HQR.out.no hkc)
          rw [← hgx]
          clear hkc hgx l0 l1 cor HQR
          generalize wr.alloc (.cells #[.int .i64 c.w, .int .i64 c.h] 35) = wc at *
          obtain ⟨a11, c11, rfl, _, _, _⟩ := own_form HQC.out.sh
          obtain ⟨a12, c12, rfl, _, _, hg12⟩ := own_form HQC.out.tp
          have hsl : q.sh.length ≤ 40 := by have := HQOK.out.sl; omega
          have htl : q.tp.length ≤ 40 := by have := HQOK.out.tl; omega
          have HIR := Lib.hid (index_roomM (cv := .pointer (some ⟨gx, 0, none⟩)) (cu := .pointer (some ⟨gp, 0, none⟩)) a11 q.sh.length c11 q.sh (roomB P c) wc (Rd.of_own spo_len (by decide) HQC.out.sh) (by omega) (fun v w' hv k => room_any P c v gx gp w' (k.heap HCX0.out id) ((HQC.out.kp.tr k).heap HP.out id) (by have := HQOK.out.sx v hv; omega) (by have := HCB.out; omega)))
          have HIT := Lib.hid (fun w2 (k2 : Kp No wc w2) => index_topM (cv := .pointer (some ⟨gx, 0, none⟩)) (cu := .pointer (some ⟨gp, 0, none⟩)) a12 q.tp.length c12 q.tp (topB P c) w2 ((rdi_int HQC.out.tp).no k2) (by omega) (fun v w' hv k => top_any P c v gx gp w' ((k2.tr k).heap HCX0.out id) ((HQC.out.kp.tr (k2.tr k)).heap HP.out id) (by have := HQOK.out.tx v hv; omega) (by have := HCB.out; omega)))
          go_wp2_with fail
          with_reducible refine HIR.out.mono ?_
          rintro e w7 ⟨rfl, k7⟩
          have HQ7 := Lib.hid (HQC.out.no k7)
          have HCX7 := Lib.hid (k7.heap HCX0.out id)
          have HK7 := Lib.hid k7
          obtain ⟨kr, hkr⟩ : ∃ kr, kr = firstI (roomB P c) q.sh := ⟨_, rfl⟩
          clear k7 HIR HQC HCX0
          by_cases hfound : kr < q.sh.length
          · have hix : ixI (roomB P c) q.sh = (kr : Nat) := by
              unfold ixI
              rw [← hkr, if_pos hfound]
            rw [hix]
            obtain ⟨s, hs⟩ : ∃ s, q.sh[kr]? = some s := ⟨_, List.getElem?_eq_getElem hfound⟩
            have HST := Lib.hid (show qStep P l (quickG P l (ord.take k)) i = qPut P c i kr q by
              rw [← HQE.out]
              unfold qStep
              simp only [getD_of HCI.out]
              have e : firstI (fun s : Spo => decide (s.x + c.w ≤ P.w)) q.sh = kr := hkr.symm
              rw [e, if_neg (by omega)])
            have HSK := Lib.hid hs
            have HSX := Lib.hid (HQOK.out.sx s (List.mem_of_getElem? hs))
            have HQK := Lib.hid HQOK.out.up
            have HQ := Lib.hid HQ7.out
            have HCX := Lib.hid HCX7.out
            have hkineg : ¬ ((kr : Nat) : Int) < 0 := by omega
            have hkineg' : decide (((kr : Nat) : Int) < 0) = false := decide_eq_false hkineg
            clear hkr hix hs HQ7 HCX7 HQOK HIT HK7
            generalize w7 = wz at *
            have hio : q.out[i]? = some (q.out.getD i default) := by
              rw [List.getD_eq_getElem?_getD, List.getElem?_eq_getElem (by rw [HQK.out.ol]; exact hin)]
              rfl
            obtain ⟨zg, zge, _, _, _, zc⟩ := own_at spo_len HQ.out.out hio (by decide)
            cases zge
            have o0 := (zc 0 _ rfl).1
            have o1 := (zc 1 _ rfl).1
            have o2 := (zc 2 _ rfl).1
            have o3 := (zc 3 _ rfl).1
            have p0 := (zc 0 _ rfl).2
            have p1 := (zc 1 _ rfl).2
            have p2 := (zc 2 _ rfl).2
            have p3 := (zc 3 _ rfl).2
            obtain ⟨gs, zgs, _, _, hks, zs⟩ := own_at spo_len HQ.out.sh HSK.out (by decide)
            subst zgs
            have s0 := (zs 0 _ rfl).1
            have s1 := (zs 1 _ rfl).1
            have s2 := (zs 2 _ rfl).1
            have s3 := (zs 3 _ rfl).1
            simp only [Nat.add_zero] at o0 p0 s0
            have hksz : (kr : Int) < (q.sh.length : Nat) := by omega
            have hinz : (i : Int) < (n : Nat) := by omega
            have HIO := Lib.hid hio
            clear hio zc zs
            go_wp2_with fail
            have HQ2 := Lib.hid (HQ.out.setOut hbw HIO.out s)
            have hkz : Kp (One go) wz ((((wz.setCell ⟨go, i * 4, none⟩ (.int .i64 s.p)).setCell ⟨go, i * 4 + 1, none⟩ (.int .i64 s.s)).setCell ⟨go, i * 4 + 2, none⟩ (.int .i64 s.x)).setCell ⟨go, i * 4 + 3, none⟩ (.int .i64 s.y)) := (((kp_setOne _ _ _ _).tr (kp_setOne _ _ _ _)).tr (kp_setOne _ _ _ _)).tr (kp_setOne _ _ _ _)
            have HCX2 := Lib.hid (hkz.heap HCX.out (fun e => by have e : gx = go := e; exact HNG.out e))
            clear o0 o1 o2 o3 p0 p1 p2 p3 s0 s1 s2 s3 hkz HQ HCX
            generalize ((((wz.setCell ⟨go, i * 4, none⟩ (.int .i64 s.p)).setCell ⟨go, i * 4 + 1, none⟩ (.int .i64 s.s)).setCell ⟨go, i * 4 + 2, none⟩ (.int .i64 s.x)).setCell ⟨go, i * 4 + 3, none⟩ (.int .i64 s.y)) = wy at *
            have HPY := Lib.hid (HQ2.out.kp.heap HP.out id)
            have hsk2 : ({ q with out := q.out.set i s } : Qs).sh[kr]? = some s := HSK.out
            obtain ⟨zg, zge, _, _, _, zc⟩ := own_at spo_len HQ2.out.sh hsk2 (by decide)
            cases zge
            have s2 := (zc 2 _ rfl).1
            have x0 : wy.cell? ⟨gx, 0, none⟩ = some (.int .i64 c.w) := by rw [cell_of_row _ _ _ _ _ _ HCX2.out]; rfl
            have p2 : wy.cell? ⟨gp, 2, none⟩ = some (.int .i64 P.k) := by rw [cell_of_row _ _ _ _ _ _ HPY.out]; rfl
            have hsx := HSX.out
            have hcb := HCB.out.1
            have hkb := HJ.out.k
            clear zc hsk2
            refine wp_region_still_tail 13 (by kernel_rfl) (by kernel_rfl) ?_
            simp only [List.take_succ_cons, List.take_zero, List.drop_succ_cons, List.drop_zero]
            repeat still_step
            refine wpStill_nil ?_
            change wpList _ _ _ _ _ wy.drew
            have HQ3 := Lib.hid (HQ2.out.no (Kp.drew _ _))
            clear s2 x0 p2 HQ2 HCX2 HPY
            generalize wy.drew = wx at *
            have hsk3 : ({ q with out := q.out.set i s } : Qs).sh[kr]? = some s := HSK.out
            obtain ⟨zg, zge, _, _, _, zc⟩ := own_at spo_len HQ3.out.sh hsk3 (by decide)
            cases zge
            have s2 := (zc 2 _ rfl).1
            have f2 := (zc 2 _ rfl).2
            clear zc hsk3
            go_wp2_with fail
            go_roundw
            case rel =>
              refine ⟨k + 1, _, _, by omega, by go_num, rfl, rfl, ?_, ?_⟩
              rotate_left
              · rw [quickG_take HIK.out, HST.out]
                exact HQK.out.put HSK.out hsx hcb hkb
              · have h4 := HQ3.out.setSh hbw (k := kr) HSK.out (s.x + (c.w + P.k))
                have e : ({ q with out := q.out.set i s, sh := q.sh.set kr { s with x := s.x + (c.w + P.k) } } : Qs) = quickG P l (ord.take (k + 1)) := by
                  rw [quickG_take HIK.out, HST.out]
                  simp only [qPut, getD_of HSK.out]
                rw [← e]
                have e2 : (q.sh.set kr { s with x := s.x + (c.w + P.k) }).length = q.sh.length := List.length_set ..
                simpa using h4
            case measure => simp [intOf]; omega
          · have hix : ixI (roomB P c) q.sh = -1 := by
              unfold ixI
              rw [← hkr, if_neg hfound]
            rw [hix]
            have hkq : kr = q.sh.length := by have := firstI_le (roomB P c) q.sh; omega
            have HFS := Lib.hid (show firstI (fun s : Spo => decide (s.x + c.w ≤ P.w)) q.sh = q.sh.length by
              have e : firstI (roomB P c) q.sh = q.sh.length := by rw [← hkr, hkq]
              exact e)
            clear hkr hix hfound hkq kr
            have hneg1 : decide ((-1 : Int) < 0) = true := rfl
            go_wp2_with fail
            with_reducible refine (HIT.out w7 HK7.out).mono ?_
            rintro e w8 ⟨rfl, k8⟩
            have HQ8 := Lib.hid (HQ7.out.no k8)
            have HCX8 := Lib.hid (k8.heap HCX7.out id)
            obtain ⟨on, hon⟩ : ∃ on, on = firstI (topB P c) q.tp := ⟨_, rfl⟩
            clear k8 HQ7 HCX7 HIT HK7
            by_cases hft : on < q.tp.length
            · have hix : ixI (topB P c) q.tp = (on : Nat) := by
                unfold ixI
                rw [← hon, if_pos hft]
              rw [hix]
              have HNW := Lib.hid (show ∀ yv, yv = q.tp.getD on 0 → qNew P c q = ⟨q.sh ++ [⟨(on : Nat), (q.sh.length : Nat), 0, yv⟩], q.tp.set on (yv + (c.h + P.k)), q.out⟩ from fun yv hy => by
                have e : firstI (fun y => decide (y + c.h ≤ P.h)) q.tp = on := hon.symm
                simp only [qNew, e, if_neg (show ¬ on = q.tp.length by omega)]
                rw [← hy])
              have HON := Lib.hid hft
              have HTB := Lib.hid (bdL_at (M := k * 20050000) HQOK.out.tx (by omega) on)
              have HQ1 := Lib.hid (show QWo w1 w1.heap.size go gor n ord { q with tp := q.tp } (.slice a11 q.sh.length c11) (.slice a12 q.tp.length c12) w8 from HQ8.out)
              have honneg : ¬ ((on : Nat) : Int) < 0 := by omega
              clear hon hix hft HQ8
              generalize w8 = wn at *
              have hon : on < q.tp.length := HON.out
              obtain ⟨yv, hyv⟩ : ∃ yv, yv = q.tp.getD on 0 := ⟨_, rfl⟩
              have hytp : (q.tp.map i64V)[on]? = some (.int .i64 yv) := map_at' i64V (by rw [hyv]; exact getD_at' hon)
              obtain ⟨gt, hgt⟩ := hg12 (by omega)
              subst hgt
              have cy : wn.cell? ⟨gt, on, none⟩ = some (.int .i64 yv) := own_cell HQ1.out.tp hytp
              have hyb := HTB.out
              rw [← hyv] at hyb
              have hontz : (on : Int) < (q.tp.length : Nat) := by omega
              have HYV := Lib.hid hyv
              have HYT := Lib.hid hytp
              have HOZ := Lib.hid hontz
              have HYB := Lib.hid hyb
              clear hyv hytp
              go_wp2_with (at_builtin; refine stop_in ?_)
              refine stop_out ?_
              refine wpList_append_own_at _ rfl _ _ 26 rfl w1.heap.size 52 i2 (.agg #[.int .i64 0, .int .i64 0, .int .i64 0, .int .i64 0]) 4 32 Try.underlying26 hi2 hx0 hx1 hx2 rfl (by decide) (.slice a11 q.sh.length c11) q.sh.length _ rfl (HQ1.out.sh.alloc (.cells #[.int .i64 (on : Nat), .int .i64 (q.sh.length : Nat), .int .i64 0, .int .i64 yv] 52)) ⟨wn.heap.size, 0, none⟩ 1 1 (Spo.cells ⟨(on : Nat), (q.sh.length : Nat), 0, yv⟩) rfl rfl (new_cells (e := 52) wn (Spo.cells ⟨(on : Nat), (q.sh.length : Nat), 0, yv⟩) (by simp [Spo.cells, maxLen])) (spo_one _) (by unfold maxLen; omega) (by omega) (by have := HQ1.out.kp.size; simp; omega) ?_
              intro v' w9 hown' hgrow hnil hat
              have q9 := (HQ1.out.no (Kp.alloc No wn (.cells #[.int .i64 (on : Nat), .int .i64 (q.sh.length : Nat), .int .i64 0, .int .i64 yv] 52))).appSh hbw (v' := v') (sh := q.sh ++ [⟨(on : Nat), (q.sh.length : Nat), 0, yv⟩]) (by rw [flat_snoc, List.length_append]; exact hown') hgrow hat
              have hkx : Kp (fun g => Value.ownBlock (.slice a11 q.sh.length c11) = some g) wn w9 := ((Kp.alloc No wn _).of_no).tr (Kp.grown hgrow fun k hk _ => hk)
              have HCX9 := Lib.hid (hkx.heap HCX8.out (fun e => own_other HQ1.out.sh HCX8.out (by decide) e))
              have HQ9 := Lib.hid q9
              obtain ⟨av, cv, hv', _⟩ := own_form hown'
              subst hv'
              clear q9 hkx hown' hgrow hnil hat cy HQ1 HCX8
              have HP9 := Lib.hid (HQ9.out.kp.heap HP.out id)
              have cy9 : w9.cell? ⟨gt, on, none⟩ = some (.int .i64 yv) := own_cell HQ9.out.tp HYT.out
              have x1 : w9.cell? ⟨gx, 1, none⟩ = some (.int .i64 c.h) := by rw [cell_of_row _ _ _ _ _ _ HCX9.out]; rfl
              have p2 : w9.cell? ⟨gp, 2, none⟩ = some (.int .i64 P.k) := by rw [cell_of_row _ _ _ _ _ _ HP9.out]; rfl
              have hcb := HCB.out.2
              have hkb := HJ.out.k
              go_wp2_with fail
              refine wp_region_still_tail 11 (by kernel_rfl) (by kernel_rfl) ?_
              simp only [List.take_succ_cons, List.take_zero, List.drop_succ_cons, List.drop_zero]
              repeat still_step
              refine wpStill_nil ?_
              change wpList _ _ _ _ _ w9.drew
              have HQa := Lib.hid (HQ9.out.no (Kp.drew _ _))
              have HCXa := Lib.hid ((Kp.drew No w9).heap HCX9.out id)
              clear cy9 x1 p2 HQ9 HCX9 HP9
              generalize w9.drew = wa at *
              have cya : wa.cell? ⟨gt, on, none⟩ = some (.int .i64 yv) := own_cell HQa.out.tp HYT.out
              have fya := own_free HQa.out.tp on
              have HQb := Lib.hid (HQa.out.setTp hbw on (yv + (c.h + P.k)))
              have hcxb := (kp_setOne wa gt on (.int .i64 (yv + (c.h + P.k)))).heap HCXa.out (fun e => by have e : gx = gt := e; subst e; exact own_other HQa.out.tp HCXa.out (by decide) rfl)
              obtain ⟨q2, hq2⟩ : ∃ q2 : Qs, q2 = ⟨q.sh ++ [⟨(on : Nat), (q.sh.length : Nat), 0, yv⟩], q.tp.set on (yv + (c.h + P.k)), q.out⟩ := ⟨_, rfl⟩
              have HQN := Lib.hid (show qNew P c q = q2 by rw [hq2]; exact HNW.out yv HYV.out)
              obtain ⟨ki, hki⟩ : ∃ ki, ki = q.sh.length := ⟨_, rfl⟩
              obtain ⟨s, hs⟩ : ∃ s : Spo, s = ⟨(on : Nat), (q.sh.length : Nat), 0, yv⟩ := ⟨_, rfl⟩
              have HSK := Lib.hid (show q2.sh[ki]? = some s by rw [hq2, hki, hs]; simp)
              have HSX := Lib.hid (show 0 ≤ s.x ∧ s.x ≤ k * 20050000 by rw [hs]; show 0 ≤ (0 : Int) ∧ (0 : Int) ≤ _; omega)
              have HST := Lib.hid (show qStep P l (quickG P l (ord.take k)) i = qPut P c i ki q2 by
                rw [← HQE.out]
                unfold qStep
                simp only [getD_of HCI.out]
                have e := HFS.out
                rw [e, if_pos rfl, HQN.out, hki])
              have HQK := Lib.hid (show QOk n (k + 1) q2 by rw [← HQN.out]; exact HQOK.out.new hcb hkb)
              have hl1 : q.sh.length + 1 = q2.sh.length := by rw [hq2]; simp
              have hl2 : q.tp.length = q2.tp.length := by rw [hq2]; simp
              obtain ⟨wz, hwz⟩ : ∃ wz, wa.setCell ⟨gt, on, none⟩ (.int .i64 (yv + (c.h + P.k))) = wz := ⟨_, rfl⟩
              have HQ := Lib.hid (show QWo w1 w1.heap.size go gor n ord q2 (.slice av q2.sh.length cv) (.slice (some ⟨gt, 0, none⟩) q2.tp.length c12) wz by
                have h9 := HQb.out
                rw [hwz] at h9
                rw [← hl1, ← hl2, hq2]
                exact h9)
              have HCX := Lib.hid (hwz ▸ hcxb)
              rw [← hki] at *
              rw [hl1, hl2] at *
              clear HQb HCXa hq2 hs HQN HNW HYV HON HTB HFS HQOK hcxb HQa HYT HOZ HYB hontz hon
              have hio : q2.out[i]? = some (q2.out.getD i default) := by
                rw [List.getD_eq_getElem?_getD, List.getElem?_eq_getElem (by rw [HQK.out.ol]; exact hin)]
                rfl
              obtain ⟨zg, zge, _, _, _, zc⟩ := own_at spo_len HQ.out.out hio (by decide)
              cases zge
              have o0 := (zc 0 _ rfl).1
              have o1 := (zc 1 _ rfl).1
              have o2 := (zc 2 _ rfl).1
              have o3 := (zc 3 _ rfl).1
              have p0 := (zc 0 _ rfl).2
              have p1 := (zc 1 _ rfl).2
              have p2 := (zc 2 _ rfl).2
              have p3 := (zc 3 _ rfl).2
              obtain ⟨gs, zgs, _, _, hks, zs⟩ := own_at spo_len HQ.out.sh HSK.out (by decide)
              subst zgs
              have s0 := (zs 0 _ rfl).1
              have s1 := (zs 1 _ rfl).1
              have s2 := (zs 2 _ rfl).1
              have s3 := (zs 3 _ rfl).1
              simp only [Nat.add_zero] at o0 p0 s0
              have hksz : (ki : Int) < (q2.sh.length : Nat) := by omega
              have hinz : (i : Int) < (n : Nat) := by omega
              have HIO := Lib.hid hio
              clear hio zc zs
              go_wp2_with fail
              have HQ2 := Lib.hid (HQ.out.setOut hbw HIO.out s)
              have hkz : Kp (One go) wz ((((wz.setCell ⟨go, i * 4, none⟩ (.int .i64 s.p)).setCell ⟨go, i * 4 + 1, none⟩ (.int .i64 s.s)).setCell ⟨go, i * 4 + 2, none⟩ (.int .i64 s.x)).setCell ⟨go, i * 4 + 3, none⟩ (.int .i64 s.y)) := (((kp_setOne _ _ _ _).tr (kp_setOne _ _ _ _)).tr (kp_setOne _ _ _ _)).tr (kp_setOne _ _ _ _)
              have HCX2 := Lib.hid (hkz.heap HCX.out (fun e => by have e : gx = go := e; exact HNG.out e))
              clear o0 o1 o2 o3 p0 p1 p2 p3 s0 s1 s2 s3 hkz HQ HCX
              generalize ((((wz.setCell ⟨go, i * 4, none⟩ (.int .i64 s.p)).setCell ⟨go, i * 4 + 1, none⟩ (.int .i64 s.s)).setCell ⟨go, i * 4 + 2, none⟩ (.int .i64 s.x)).setCell ⟨go, i * 4 + 3, none⟩ (.int .i64 s.y)) = wy at *
              have HPY := Lib.hid (HQ2.out.kp.heap HP.out id)
              have hsk2 : ({ q2 with out := q2.out.set i s } : Qs).sh[ki]? = some s := HSK.out
              obtain ⟨zg, zge, _, _, _, zc⟩ := own_at spo_len HQ2.out.sh hsk2 (by decide)
              cases zge
              have s2 := (zc 2 _ rfl).1
              have x0 : wy.cell? ⟨gx, 0, none⟩ = some (.int .i64 c.w) := by rw [cell_of_row _ _ _ _ _ _ HCX2.out]; rfl
              have p2 : wy.cell? ⟨gp, 2, none⟩ = some (.int .i64 P.k) := by rw [cell_of_row _ _ _ _ _ _ HPY.out]; rfl
              have hsx := HSX.out
              have hcb := HCB.out.1
              have hkb := HJ.out.k
              clear zc hsk2
              refine wp_region_still_tail 13 (by kernel_rfl) (by kernel_rfl) ?_
              simp only [List.take_succ_cons, List.take_zero, List.drop_succ_cons, List.drop_zero]
              repeat still_step
              refine wpStill_nil ?_
              change wpList _ _ _ _ _ wy.drew
              have HQ3 := Lib.hid (HQ2.out.no (Kp.drew _ _))
              clear s2 x0 p2 HQ2 HCX2 HPY
              generalize wy.drew = wx at *
              have hsk3 : ({ q2 with out := q2.out.set i s } : Qs).sh[ki]? = some s := HSK.out
              obtain ⟨zg, zge, _, _, _, zc⟩ := own_at spo_len HQ3.out.sh hsk3 (by decide)
              cases zge
              have s2 := (zc 2 _ rfl).1
              have f2 := (zc 2 _ rfl).2
              clear zc hsk3
              go_wp2_with fail
              go_roundw
              case rel =>
                refine ⟨k + 1, _, _, by omega, by go_num, rfl, rfl, ?_, ?_⟩
                rotate_left
                · rw [quickG_take HIK.out, HST.out]
                  exact HQK.out.put HSK.out hsx hcb hkb
                · have h4 := HQ3.out.setSh hbw (k := ki) HSK.out (s.x + (c.w + P.k))
                  have e : ({ q2 with out := q2.out.set i s, sh := q2.sh.set ki { s with x := s.x + (c.w + P.k) } } : Qs) = quickG P l (ord.take (k + 1)) := by
                    rw [quickG_take HIK.out, HST.out]
                    simp only [qPut, getD_of HSK.out]
                  rw [← e]
                  have e2 : (q2.sh.set ki { s with x := s.x + (c.w + P.k) }).length = q2.sh.length := List.length_set ..
                  simpa using h4
              case measure => simp [intOf]; omega
            · have hot : on = q.tp.length := by have := firstI_le (topB P c) q.tp; omega
              have hix : ixI (topB P c) q.tp = -1 := by
                unfold ixI
                rw [← hon, if_neg hft]
              rw [hix]
              have HTI := Lib.hid hot
              have HNW0 := Lib.hid (show ∀ yv, yv = (q.tp ++ [0]).getD on 0 → qNew P c q = ⟨q.sh ++ [⟨(on : Nat), (q.sh.length : Nat), 0, yv⟩], (q.tp ++ [0]).set on (yv + (c.h + P.k)), q.out⟩ from fun yv hy => by
                have e : firstI (fun y => decide (y + c.h ≤ P.h)) q.tp = on := hon.symm
                simp only [qNew, e, if_pos hot]
                rw [← hy])
              clear hon hix hft hot
              have hneg2 : decide ((-1 : Int) < 0) = true := rfl
              go_wp2_with (at_builtin; refine stop_in ?_)
              refine stop_out ?_
              refine wpList_append_own_at _ rfl _ _ 58 rfl w1.heap.size 2 i1 (.int .i64 0) 1 8 Try.underlying58 hi1 hy0 hy1 hy2 rfl (by decide) (.slice a12 q.tp.length c12) q.tp.length (q.tp.map i64V) rfl (HQ8.out.tp.alloc (.cells #[.int .i64 0] 2)) ⟨w8.heap.size, 0, none⟩ 1 1 [.int .i64 0] rfl rfl (new_cells (e := 2) w8 [.int .i64 0] (by simp [maxLen])) (fun u hu => by simp at hu; subst hu; rfl) (by unfold maxLen; omega) (by omega) (by have := HQ8.out.kp.size; simp; omega) ?_
              intro vt wn hown' hgrow hnil hat
              obtain ⟨tp1, htp1⟩ : ∃ tp1, tp1 = q.tp ++ [0] := ⟨_, rfl⟩
              have htl1 : q.tp.length + 1 = tp1.length := by rw [htp1]; simp
              have hown1 : wn.ownsRow w1.heap.size 2 1 vt tp1.length (tp1.map i64V) := by
                rw [← htl1, htp1, List.map_append]
                exact hown'
              have q1' := (HQ8.out.no (Kp.alloc No w8 (.cells #[.int .i64 0] 2))).appTp hbw (v' := vt) (tp := tp1) hown1 hgrow
              have hkt : Kp (fun g => Value.ownBlock (.slice a12 q.tp.length c12) = some g) w8 wn := ((Kp.alloc No w8 _).of_no).tr (Kp.grown hgrow fun k hk _ => hk)
              have hcx := hkt.heap HCX8.out (fun e => own_other HQ8.out.tp HCX8.out (by decide) e)
              obtain ⟨aT, cT, hvt, _, _, hgT⟩ := own_form hown1
              subst hvt
              have HQ1 := Lib.hid (show QWo w1 w1.heap.size go gor n ord { q with tp := tp1 } (.slice a11 q.sh.length c11) (.slice aT tp1.length cT) wn from q1')
              have HON := Lib.hid (show on < tp1.length by rw [← htl1, HTI.out]; omega)
              have HTB := Lib.hid (bdL_at (M := k * 20050000) (T := tp1) (fun t ht => by
                rw [htp1] at ht
                rcases List.mem_append.1 ht with ht | ht
                · exact HQOK.out.tx t ht
                · simp at ht
                  omega) (by omega) on)
              have HNW := Lib.hid (show ∀ yv, yv = tp1.getD on 0 → qNew P c q = ⟨q.sh ++ [⟨(on : Nat), (q.sh.length : Nat), 0, yv⟩], tp1.set on (yv + (c.h + P.k)), q.out⟩ by rw [htp1]; exact HNW0.out)
              have htl2 : tp1.length ≤ 41 := by omega
              clear HQ8 q1' hkt hown' hown1 hgrow hnil hat HNW0 htp1 hg12
              replace HCX8 := Lib.hid hcx
              rw [← HTI.out] at *
              clear hcx htl1 HTI
              have hon : on < tp1.length := HON.out
              obtain ⟨yv, hyv⟩ : ∃ yv, yv = tp1.getD on 0 := ⟨_, rfl⟩
              have hytp : (tp1.map i64V)[on]? = some (.int .i64 yv) := map_at' i64V (by rw [hyv]; exact getD_at' hon)
              obtain ⟨gt, hgt⟩ := hgT (by omega)
              subst hgt
              have cy : wn.cell? ⟨gt, on, none⟩ = some (.int .i64 yv) := own_cell HQ1.out.tp hytp
              have hyb := HTB.out
              rw [← hyv] at hyb
              have hontz : (on : Int) < (tp1.length : Nat) := by omega
              have HYV := Lib.hid hyv
              have HYT := Lib.hid hytp
              have HOZ := Lib.hid hontz
              have HYB := Lib.hid hyb
              clear hyv hytp
              go_wp2_with (at_builtin; refine stop_in ?_)
              refine stop_out ?_
              refine wpList_append_own_at _ rfl _ _ 26 rfl w1.heap.size 52 i2 (.agg #[.int .i64 0, .int .i64 0, .int .i64 0, .int .i64 0]) 4 32 Try.underlying26 hi2 hx0 hx1 hx2 rfl (by decide) (.slice a11 q.sh.length c11) q.sh.length _ rfl (HQ1.out.sh.alloc (.cells #[.int .i64 (on : Nat), .int .i64 (q.sh.length : Nat), .int .i64 0, .int .i64 yv] 52)) ⟨wn.heap.size, 0, none⟩ 1 1 (Spo.cells ⟨(on : Nat), (q.sh.length : Nat), 0, yv⟩) rfl rfl (new_cells (e := 52) wn (Spo.cells ⟨(on : Nat), (q.sh.length : Nat), 0, yv⟩) (by simp [Spo.cells, maxLen])) (spo_one _) (by unfold maxLen; omega) (by omega) (by have := HQ1.out.kp.size; simp; omega) ?_
              intro v' w9 hown' hgrow hnil hat
              have q9 := (HQ1.out.no (Kp.alloc No wn (.cells #[.int .i64 (on : Nat), .int .i64 (q.sh.length : Nat), .int .i64 0, .int .i64 yv] 52))).appSh hbw (v' := v') (sh := q.sh ++ [⟨(on : Nat), (q.sh.length : Nat), 0, yv⟩]) (by rw [flat_snoc, List.length_append]; exact hown') hgrow hat
              have hkx : Kp (fun g => Value.ownBlock (.slice a11 q.sh.length c11) = some g) wn w9 := ((Kp.alloc No wn _).of_no).tr (Kp.grown hgrow fun k hk _ => hk)
              have HCX9 := Lib.hid (hkx.heap HCX8.out (fun e => own_other HQ1.out.sh HCX8.out (by decide) e))
              have HQ9 := Lib.hid q9
              obtain ⟨av, cv, hv', _⟩ := own_form hown'
              subst hv'
              clear q9 hkx hown' hgrow hnil hat cy HQ1 HCX8
              have HP9 := Lib.hid (HQ9.out.kp.heap HP.out id)
              have cy9 : w9.cell? ⟨gt, on, none⟩ = some (.int .i64 yv) := own_cell HQ9.out.tp HYT.out
              have x1 : w9.cell? ⟨gx, 1, none⟩ = some (.int .i64 c.h) := by rw [cell_of_row _ _ _ _ _ _ HCX9.out]; rfl
              have p2 : w9.cell? ⟨gp, 2, none⟩ = some (.int .i64 P.k) := by rw [cell_of_row _ _ _ _ _ _ HP9.out]; rfl
              have hcb := HCB.out.2
              have hkb := HJ.out.k
              go_wp2_with fail
              refine wp_region_still_tail 11 (by kernel_rfl) (by kernel_rfl) ?_
              simp only [List.take_succ_cons, List.take_zero, List.drop_succ_cons, List.drop_zero]
              repeat still_step
              refine wpStill_nil ?_
              change wpList _ _ _ _ _ w9.drew
              have HQa := Lib.hid (HQ9.out.no (Kp.drew _ _))
              have HCXa := Lib.hid ((Kp.drew No w9).heap HCX9.out id)
              clear cy9 x1 p2 HQ9 HCX9 HP9
              generalize w9.drew = wa at *
              have cya : wa.cell? ⟨gt, on, none⟩ = some (.int .i64 yv) := own_cell HQa.out.tp HYT.out
              have fya := own_free HQa.out.tp on
              have HQb := Lib.hid (HQa.out.setTp hbw on (yv + (c.h + P.k)))
              have hcxb := (kp_setOne wa gt on (.int .i64 (yv + (c.h + P.k)))).heap HCXa.out (fun e => by have e : gx = gt := e; subst e; exact own_other HQa.out.tp HCXa.out (by decide) rfl)
              obtain ⟨q2, hq2⟩ : ∃ q2 : Qs, q2 = ⟨q.sh ++ [⟨(on : Nat), (q.sh.length : Nat), 0, yv⟩], tp1.set on (yv + (c.h + P.k)), q.out⟩ := ⟨_, rfl⟩
              have HQN := Lib.hid (show qNew P c q = q2 by rw [hq2]; exact HNW.out yv HYV.out)
              obtain ⟨ki, hki⟩ : ∃ ki, ki = q.sh.length := ⟨_, rfl⟩
              obtain ⟨s, hs⟩ : ∃ s : Spo, s = ⟨(on : Nat), (q.sh.length : Nat), 0, yv⟩ := ⟨_, rfl⟩
              have HSK := Lib.hid (show q2.sh[ki]? = some s by rw [hq2, hki, hs]; simp)
              have HSX := Lib.hid (show 0 ≤ s.x ∧ s.x ≤ k * 20050000 by rw [hs]; show 0 ≤ (0 : Int) ∧ (0 : Int) ≤ _; omega)
              have HST := Lib.hid (show qStep P l (quickG P l (ord.take k)) i = qPut P c i ki q2 by
                rw [← HQE.out]
                unfold qStep
                simp only [getD_of HCI.out]
                have e := HFS.out
                rw [e, if_pos rfl, HQN.out, hki])
              have HQK := Lib.hid (show QOk n (k + 1) q2 by rw [← HQN.out]; exact HQOK.out.new hcb hkb)
              have hl1 : q.sh.length + 1 = q2.sh.length := by rw [hq2]; simp
              have hl2 : tp1.length = q2.tp.length := by rw [hq2]; simp
              obtain ⟨wz, hwz⟩ : ∃ wz, wa.setCell ⟨gt, on, none⟩ (.int .i64 (yv + (c.h + P.k))) = wz := ⟨_, rfl⟩
              have HQ := Lib.hid (show QWo w1 w1.heap.size go gor n ord q2 (.slice av q2.sh.length cv) (.slice (some ⟨gt, 0, none⟩) q2.tp.length cT) wz by
                have h9 := HQb.out
                rw [hwz] at h9
                rw [← hl1, ← hl2, hq2]
                exact h9)
              have HCX := Lib.hid (hwz ▸ hcxb)
              rw [← hki] at *
              rw [hl1, hl2] at *
              clear HQb HCXa hq2 hs HQN HNW HYV HON HTB HFS HQOK hcxb HQa HYT HOZ HYB hontz hon
              have hio : q2.out[i]? = some (q2.out.getD i default) := by
                rw [List.getD_eq_getElem?_getD, List.getElem?_eq_getElem (by rw [HQK.out.ol]; exact hin)]
                rfl
              obtain ⟨zg, zge, _, _, _, zc⟩ := own_at spo_len HQ.out.out hio (by decide)
              cases zge
              have o0 := (zc 0 _ rfl).1
              have o1 := (zc 1 _ rfl).1
              have o2 := (zc 2 _ rfl).1
              have o3 := (zc 3 _ rfl).1
              have p0 := (zc 0 _ rfl).2
              have p1 := (zc 1 _ rfl).2
              have p2 := (zc 2 _ rfl).2
              have p3 := (zc 3 _ rfl).2
              obtain ⟨gs, zgs, _, _, hks, zs⟩ := own_at spo_len HQ.out.sh HSK.out (by decide)
              subst zgs
              have s0 := (zs 0 _ rfl).1
              have s1 := (zs 1 _ rfl).1
              have s2 := (zs 2 _ rfl).1
              have s3 := (zs 3 _ rfl).1
              simp only [Nat.add_zero] at o0 p0 s0
              have hksz : (ki : Int) < (q2.sh.length : Nat) := by omega
              have hinz : (i : Int) < (n : Nat) := by omega
              have HIO := Lib.hid hio
              clear hio zc zs
              go_wp2_with fail
              have HQ2 := Lib.hid (HQ.out.setOut hbw HIO.out s)
              have hkz : Kp (One go) wz ((((wz.setCell ⟨go, i * 4, none⟩ (.int .i64 s.p)).setCell ⟨go, i * 4 + 1, none⟩ (.int .i64 s.s)).setCell ⟨go, i * 4 + 2, none⟩ (.int .i64 s.x)).setCell ⟨go, i * 4 + 3, none⟩ (.int .i64 s.y)) := (((kp_setOne _ _ _ _).tr (kp_setOne _ _ _ _)).tr (kp_setOne _ _ _ _)).tr (kp_setOne _ _ _ _)
              have HCX2 := Lib.hid (hkz.heap HCX.out (fun e => by have e : gx = go := e; exact HNG.out e))
              clear o0 o1 o2 o3 p0 p1 p2 p3 s0 s1 s2 s3 hkz HQ HCX
              generalize ((((wz.setCell ⟨go, i * 4, none⟩ (.int .i64 s.p)).setCell ⟨go, i * 4 + 1, none⟩ (.int .i64 s.s)).setCell ⟨go, i * 4 + 2, none⟩ (.int .i64 s.x)).setCell ⟨go, i * 4 + 3, none⟩ (.int .i64 s.y)) = wy at *
              have HPY := Lib.hid (HQ2.out.kp.heap HP.out id)
              have hsk2 : ({ q2 with out := q2.out.set i s } : Qs).sh[ki]? = some s := HSK.out
              obtain ⟨zg, zge, _, _, _, zc⟩ := own_at spo_len HQ2.out.sh hsk2 (by decide)
              cases zge
              have s2 := (zc 2 _ rfl).1
              have x0 : wy.cell? ⟨gx, 0, none⟩ = some (.int .i64 c.w) := by rw [cell_of_row _ _ _ _ _ _ HCX2.out]; rfl
              have p2 : wy.cell? ⟨gp, 2, none⟩ = some (.int .i64 P.k) := by rw [cell_of_row _ _ _ _ _ _ HPY.out]; rfl
              have hsx := HSX.out
              have hcb := HCB.out.1
              have hkb := HJ.out.k
              clear zc hsk2
              refine wp_region_still_tail 13 (by kernel_rfl) (by kernel_rfl) ?_
              simp only [List.take_succ_cons, List.take_zero, List.drop_succ_cons, List.drop_zero]
              repeat still_step
              refine wpStill_nil ?_
              change wpList _ _ _ _ _ wy.drew
              have HQ3 := Lib.hid (HQ2.out.no (Kp.drew _ _))
              clear s2 x0 p2 HQ2 HCX2 HPY
              generalize wy.drew = wx at *
              have hsk3 : ({ q2 with out := q2.out.set i s } : Qs).sh[ki]? = some s := HSK.out
              obtain ⟨zg, zge, _, _, _, zc⟩ := own_at spo_len HQ3.out.sh hsk3 (by decide)
              cases zge
              have s2 := (zc 2 _ rfl).1
              have f2 := (zc 2 _ rfl).2
              clear zc hsk3
              go_wp2_with fail
              go_roundw
              case rel =>
                refine ⟨k + 1, _, _, by omega, by go_num, rfl, rfl, ?_, ?_⟩
                rotate_left
                · rw [quickG_take HIK.out, HST.out]
                  exact HQK.out.put HSK.out hsx hcb hkb
                · have h4 := HQ3.out.setSh hbw (k := ki) HSK.out (s.x + (c.w + P.k))
                  have e : ({ q2 with out := q2.out.set i s, sh := q2.sh.set ki { s with x := s.x + (c.w + P.k) } } : Qs) = quickG P l (ord.take (k + 1)) := by
                    rw [quickG_take HIK.out, HST.out]
                    simp only [qPut, getD_of HSK.out]
                  rw [← e]
                  have e2 : (q2.sh.set ki { s with x := s.x + (c.w + P.k) }).length = q2.sh.length := List.length_set ..
                  simpa using h4
              case measure => simp [intOf]; omega
        · obtain rfl : k = n := by omega
          have HF := Lib.hid (show ord.take k = ordF l by rw [List.take_of_length_le (by rw [HORL.out]; omega), HORD.out])
          have HR := Lib.hid (Rd.of_own spo_len (by decide) hq.out)
          rw [HF.out] at HR
          have HKF := Lib.hid (HK1.out.tr hq.kp)
          clear hq hqok HQR
          go_wp2_with fail
          exact bodyPost_ret (v := .tuple #[.slice (some ⟨go, 0, none⟩) k k, .int .i64 0]) (by simp [results, Try.results12, go_sem]) rfl ⟨go, rfl, HR.out, HKF.out⟩
end Go.Proofs.Ytamjhpdgclbfgaa
