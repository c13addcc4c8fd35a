/- Chapter 15: the demand of a combination: the document's. -/
import Derived.Test.YtpkbpeeelpgmcaaGreatXWdFM
namespace Go.Proofs.YtpkbpeeelpgmcaaGreat
open Go.RowKit Go.Kq Go.Flow

set_option maxHeartbeats 8000000 in
set_option maxRecDepth 100000 in
theorem rdemand_any (Z : Nz) (l : List Sto) (vs : List Sv) (A B C P Q : Option Addr) (ca cb n cc p cp q cq : Nat) (ss ks : List Nat) (w : World) (hok : StoOk Z.ch.length l) (hnc : Z.ch.length ≤ 1000) (hS : RdSt w C n vs l) (hP : RdI .i64 w P p (ss.map Int.ofNat)) (hQ : RdI .i64 w Q q (ks.map Int.ofNat)) (hss : ∀ x ∈ ss, x < n) (hks : ∀ x ∈ ks, x < keysN l) (h8 : ss.length ≤ 8) (k8 : ks.length ≤ 8) :
    Calls Tryz.prog 23 #[windV Z A B C ca cb n cc, comboV P p cp Q q cq] w (DmR Z.ch.length l ss ks w) := by
  unfold comboV windV DmR
  generalize Z.ch.length = nc at *
  obtain ⟨g, hg⟩ : ∃ g, g = w.heap.size := ⟨_, rfl⟩
  obtain ⟨w0, hw0⟩ : ∃ w0, (w.alloc (.cells #[.int .i64 Z.n, .slice A Z.tr.length ca, .slice B nc cb, .slice C n cc] 28)).alloc (.cells #[.slice P p cp, .slice Q q cq] 30) = w0 := ⟨_, rfl⟩
  have hk0 : Kp No w w0 := by rw [← hw0]; exact (Kp.alloc _ _ _).tr (Kp.alloc _ _ _)
  have hz0 : w0.heap.size = g + 2 := by rw [← hw0, hg]; simp
  have HBX := Lib.hid (show w0.heap[g]? = some (.cells #[.int .i64 Z.n, .slice A Z.tr.length ca, .slice B nc cb, .slice C n cc] 28 (0, 0)) by rw [← hw0, hg]; exact (Kp.alloc No _ _).heap (heap_alloc_new w _) id)
  have HBC := Lib.hid (show w0.heap[g + 1]? = some (.cells #[.slice P p cp, .slice Q q cq] 30 (0, 0)) by
    rw [← hw0, hg]
    have := heap_alloc_new (w.alloc (.cells #[.int .i64 Z.n, .slice A Z.tr.length ca, .slice B nc cb, .slice C n cc] 28)) (.cells #[.slice P p cp, .slice Q q cq] 30)
    simpa using this)
  have HK := Lib.hid hk0
  have HS := Lib.hid (hS.no hk0)
  have HL := Lib.hid hS.len
  have HP := Lib.hid (hP.no hk0)
  have HQ := Lib.hid (hQ.no hk0)
  have HPL := Lib.hid (show ss.length = p by have := hP.1; simpa using this)
  have HQL := Lib.hid (show ks.length = q by have := hQ.1; simpa using this)
  have HSS := Lib.hid hss
  have HKS := Lib.hid hks
  have HOK := Lib.hid hok
  have hp8 : p ≤ 8 := by rw [← HPL.out]; exact h8
  have hq8 : q ≤ 8 := by rw [← HQL.out]; exact k8
  have HBD := Lib.hid (fun i k j c => part_bd hok h8 k8 i k j c)
  have hmk := make_longs nc (by omega)
  clear hk0 hS hP hQ hss hks hok h8 k8
  obtain ⟨p0, p1, p2, p3⟩ := four_at HBX.out
  obtain ⟨q0, q1, _, _⟩ := cell_head HBC.out
  have HG := Lib.hid hz0
  subst hg
  have hb1 : w.heap.size + 1 < w0.heap.size := by omega
  clear hz0
  go_enter Tryz.func23, Tryz.ntmps23
  go_wp2_with fail
  clear hmk
  obtain ⟨G, hGe⟩ : ∃ G, G = w0.heap.size := ⟨_, rfl⟩
  rw [← hGe]
  have HGE := Lib.hid hGe
  have HGS := Lib.hid HG.out
  clear hGe
  go_loopw [6] (fun i wr => ∃ k : Nat, k ≤ p ∧ i = .int .i64 (k : Nat) ∧ wr.ownsRow w0.heap.size 2 1 (.slice (some ⟨G, 0, none⟩) nc nc) nc ((dmF l ks (ss.take k) (List.replicate nc 0)).map (Value.int .i64)) ∧ Kp No w0 wr) (fun i _ => p - (intOf i).toNat)
  case atStart =>
    refine ⟨0, by omega, rfl, ?_, Kp.alloc _ _ _⟩
    rw [HGE.out]
    have h := own_made w0 (e := 2) (n := nc) (s := 1) (base := w0.heap.size) (xs := List.replicate nc (Value.int .i64 0)) (by simp) (Nat.le_refl _) (by unfold maxLen; omega)
    have e : (dmF l ks (ss.take 0) (List.replicate nc 0)).map (Value.int .i64) = List.replicate nc (Value.int .i64 0) := by
      show (List.replicate nc (0 : Int)).map (Value.int .i64) = _
      rw [List.map_replicate]
    rw [e]
    exact h
  case round =>
    obtain ⟨k, hk, rfl, hown, hkp⟩ := hrel
    have HO := Lib.hid hown
    have HKP := Lib.hid hkp
    by_cases hlt : k < p
    · obtain ⟨i, hi⟩ : ∃ i, ss[k]? = some i := ⟨_, List.getElem?_eq_getElem (by rw [HPL.out]; exact hlt)⟩
      obtain ⟨bP, oP, rfl, hbP, xx0⟩ := HP.out.2 k (i : Int) (by rw [List.getElem?_map, hi]; rfl)
      have hin := HSS.out i (List.mem_of_getElem? hi)
      obtain ⟨s, hs⟩ : ∃ s, l[i]? = some s := ⟨_, List.getElem?_eq_getElem (by rw [HL.out]; exact hin)⟩
      obtain ⟨v, bC, oC, hv, rfl, hbC, y0, y1, is⟩ := HS.out.at_ hs
      have hso := HOK.out.ok s (List.mem_of_getElem? hs)
      obtain ⟨vch, TA, m, tc⟩ := v
      have is1 := is.1
      have is2 := is.2.1
      have is3 := is.2.2
      dsimp only at y0 y1 is1 is2 is3
      obtain ⟨ch, hch⟩ : ∃ ch : Nat, vch = (ch : Int) := ⟨vch.toNat, by omega⟩
      subst hch
      have hchn : ch < nc := by omega
      have HCT := Lib.hid (show s.ch.toNat = ch by omega)
      have HSD := Lib.hid (show l.getD i default = s by rw [List.getD_eq_getElem?_getD, hs]; rfl)
      have HIS := Lib.hid is3
      have HTL := Lib.hid (show s.tk.length = m by omega)
      have HKN := Lib.hid hso.2.1
      have HTK := Lib.hid hso.2.2
      have HFS := Lib.hid (show dmF l ks (ss.take (k + 1)) (List.replicate nc 0) = dmS s ks (dmF l ks (ss.take k) (List.replicate nc 0)) by
        rw [List.take_add_one, hi, Option.toList_some]
        unfold dmF
        rw [List.foldl_append, ← HSD.out]
        rfl)
      have HD0 := Lib.hid (show dmS s (ks.take 0) (dmF l ks (ss.take k) (List.replicate nc 0)) = dmF l ks (ss.take k) (List.replicate nc 0) from rfl)
      have HBD1 := Lib.hid (fun j c => HBD.out i k j c)
      rw [HSD.out] at HBD1
      have hchi : (ch : Int) < nc := by omega
      have x0 := hkp.cell xx0 id
      have z0 := hkp.cell q0 id
      have z1 := hkp.cell q1 id
      have hkp2 := hkp
      clear hi hs hv is hso is1 is2 is3 hown hkp
      have yy0 := hkp2.cell y0 id
      have yy1 := hkp2.cell y1 id
      have r3 := hkp2.cell p3 id
      have hini : (i : Int) < n := by omega
      have hbC2 : bC < wr.heap.size := Nat.lt_of_lt_of_le hbC hkp2.size
      have hbP2 : bP < wr.heap.size := Nat.lt_of_lt_of_le hbP hkp2.size
      have hb2 : w.heap.size + 1 < wr.heap.size := Nat.lt_of_lt_of_le hb1 hkp2.size
      have hb3 : w.heap.size < wr.heap.size := by omega
      clear hkp2
      go_wp2_with fail
      go_region
      obtain ⟨wo, hwo⟩ : ∃ wo, wo = (wr.alloc (.cells #[.int .i64 (ch : Nat), .slice TA m tc] 45)).drew := ⟨_, rfl⟩
      have hk1 : Kp No wr wo := by rw [hwo]; exact (Kp.alloc _ _ _).tr (Kp.drew _ _)
      obtain ⟨gb, hgb⟩ : ∃ gb, gb = wr.heap.size := ⟨_, rfl⟩
      have HBB := Lib.hid (show wo.heap[gb]? = some (.cells #[.int .i64 (ch : Nat), .slice TA m tc] 45 (0, 0)) by rw [hwo, hgb]; exact (Kp.drew No _).heap (heap_alloc_new wr _) id)
      have HGB := Lib.hid (show w0.heap.size ≤ gb ∧ gb ≠ G by
        have h1 := HKP.out.size
        have h2 := own_ge HO.out (g := G) rfl
        omega)
      rw [← hwo, ← hgb]
      have HOB := Lib.hid (own_kp HO.out hk1 (fun _ _ h => h))
      have HKB := Lib.hid (HKP.out.tr hk1)
      have zb0 := hk1.cell z0 id
      have zb1 := hk1.cell z1 id
      clear x0 z0 z1 yy0 yy1 r3 hk1 hbC2 hbP2 hb2 hb3 hwo hgb y0 y1
      go_wp2_with fail
      go_loopw [8] (fun i wr => ∃ j : Nat, j ≤ q ∧ i = .int .i64 (j : Nat) ∧ wr.ownsRow w0.heap.size 2 1 (.slice (some ⟨G, 0, none⟩) nc nc) nc ((dmS s (ks.take j) (dmF l ks (ss.take k) (List.replicate nc 0))).map (Value.int .i64)) ∧ Kp No w0 wr ∧ Kp (One G) wo wr) (fun i _ => q - (intOf i).toNat)
      case atStart => exact ⟨0, by omega, rfl, by rw [HD0.out]; exact HOB.out, HKB.out, Kp.refl _ _⟩
      case round =>
        obtain ⟨j, hj, rfl, hown, hkw, hko⟩ := hrel
        have HOW := Lib.hid hown
        have HKW := Lib.hid hkw
        have HKO := Lib.hid hko
        have hbb := hko.heap HBB.out (fun e => HGB.out.2 e)
        obtain ⟨e0, e1, _, _⟩ := cell_head hbb
        have f0 := hkw.cell q0 id
        have f1 := hkw.cell q1 id
        clear zb0 zb1 hbb hko
        by_cases hlt2 : j < q
        · obtain ⟨kk, hkk⟩ : ∃ kk, ks[j]? = some kk := ⟨_, List.getElem?_eq_getElem (by rw [HQL.out]; exact hlt2)⟩
          obtain ⟨bQ, oQ, rfl, hbQ, uu0⟩ := HQ.out.2 j (kk : Int) (by rw [List.getElem?_map, hkk]; rfl)
          have hkm : kk < m := by have := HKS.out kk (List.mem_of_getElem? hkk); rw [← HKN.out, HTL.out] at this; exact this
          obtain ⟨x, hx⟩ : ∃ x, s.tk[kk]? = some x := ⟨_, List.getElem?_eq_getElem (by rw [HTL.out]; exact hkm)⟩
          obtain ⟨bT, oT, rfl, hbT, tt0⟩ := HIS.out.2 kk x hx
          have hxb := HTK.out x (List.mem_of_getElem? hx)
          have HDS := Lib.hid (show dmS s (ks.take (j + 1)) (dmF l ks (ss.take k) (List.replicate nc 0)) = addAt (dmS s (ks.take j) (dmF l ks (ss.take k) (List.replicate nc 0))) ch x by
            rw [List.take_add_one, hkk, Option.toList_some]
            unfold dmS
            rw [List.foldl_append, List.foldl_cons, List.foldl_nil, HCT.out, show s.tk.getD kk 0 = x by rw [List.getD_eq_getElem?_getD, hx]; rfl])
          have hbd := HBD1.out j ch
          have HDL := Lib.hid (show (dmS s (ks.take j) (dmF l ks (ss.take k) (List.replicate nc 0))).length = nc by rw [dmS_len, dmF_len, List.length_replicate])
          clear hkk hx
          generalize dmS s (ks.take j) (dmF l ks (ss.take k) (List.replicate nc 0)) = D at *
          obtain ⟨d, hd⟩ : ∃ d, D[ch]? = some d := ⟨_, List.getElem?_eq_getElem (by rw [HDL.out]; exact hchn)⟩
          rw [List.getD_eq_getElem?_getD, hd, Option.getD_some] at hbd
          have HAA := Lib.hid (show addAt D ch x = D.set ch (d + x) by unfold addAt; rw [List.getD_eq_getElem?_getD, hd]; rfl)
          have yg := own_cell HOW.out (show (D.map (Value.int .i64))[ch]? = some (.int .i64 d) by rw [List.getElem?_map, hd]; rfl)
          have yf := own_free HOW.out ch
          have HPUT := Lib.hid (row_put HOW.out HKW.out ch (d + x))
          have hw64 : IntKind.i64.wrap (d + x) = d + x := IntWalk.i64_in _ (by omega)
          have hkki : (kk : Int) < m := by omega
          have u0 := hkw.cell uu0 id
          have t0 := hkw.cell tt0 id
          have HPO := Lib.hid ((HKO.out.tr (kp_setOne wr G ch (.int .i64 (d + x)))).no (Kp.drew No _))
          clear hd hown hkw p0 p1 p2 p3 q0 q1 uu0 tt0 xx0
          go_wp2_with fail
          go_still_tail 19, (by kernel_rfl)
          go_wp2_with fail
          generalize (wr.setCell ⟨G, ch, none⟩ (.int .i64 (d + x))).drew = w3 at *
          obtain ⟨o3, k3⟩ := HPUT.out
          have O3 := Lib.hid o3
          have K3 := Lib.hid k3
          have K4 := Lib.hid HPO.out
          clear o3 k3 yg yf u0 t0 e0 e1 f0 f1 HPO
          go_wp2_with fail
          go_roundw
          case rel => exact ⟨j + 1, by omega, by go_num, by rw [HDS.out, HAA.out]; exact O3.out, K3.out, K4.out⟩
          case measure => simp [intOf]; omega
        · obtain rfl : j = q := by omega
          have HFE := Lib.hid (show ks.take j = ks from List.take_of_length_le (by rw [HQL.out]; exact Nat.le_refl _))
          clear hown hkw
          go_wp2_with fail
          go_roundw
          case rel => exact ⟨k + 1, by omega, by go_num, by rw [HFS.out]; have := HOW.out; rw [HFE.out] at this; exact this, HKW.out⟩
          case measure => simp [intOf]; omega
    · obtain rfl : k = p := by omega
      have HFE := Lib.hid (show ss.take k = ss from List.take_of_length_le (by rw [HPL.out]; exact Nat.le_refl _))
      have z0 := hkp.cell q0 id
      clear hown hkp
      go_wp2_with fail
      go_ret
      refine ⟨G, rfl, ?_, HK.out.tr HKP.out⟩
      have h := HO.out
      rw [HFE.out] at h
      exact own_mono h HK.out.size
end Go.Proofs.YtpkbpeeelpgmcaaGreat
