/- Chapter 09: shelves, its loop: the walk. Printed by gen_nwf.py. -/
import Derived.Test.YtamjhpdgclbfgaaXNwE
namespace Go.Proofs.Ytamjhpdgclbfgaa
open Go.RowKit Go.Kq

set_option maxHeartbeats 16000000 in
set_option maxRecDepth 100000 in
theorem shelves_step (P : Pt) (A : Option Addr) (n ca : Nat) (l : List Ct) (S : List Nat) (W H : List Int) (B : Bst) (nb : Nat) (w : World)
    (IH : ∀ (S' : List Nat) (W' H' : List Int) (B' : Bst) (w' : World), S'.length = S.length + 1 → NSt nb P A n ca l S' [] W' H' [] B' w' → SOk P n l S' W' H' → BOk B' → Calls Try.prog 28 #[.pointer (some ⟨nb, 0, none⟩), .int .i64 (S'.length : Nat)] w' fun e w'' => e = .returned (.tuple #[]) ∧ NSt nb P A n ca l S' [] W' H' [] (HF P l S' W' H' B') w'' ∧ BOk (HF P l S' W' H' B') ∧ Kp (Sn nb w') w' w'')
    (hN : NSt nb P A n ca l S [] W H [] B w) (hK : SOk P n l S W H) (hB : BOk B) (hS : S.length < n) :
    Calls Try.prog 28 #[.pointer (some ⟨nb, 0, none⟩), .int .i64 (S.length : Nat)] w fun e w' => e = .returned (.tuple #[]) ∧ NSt nb P A n ca l S [] W H [] (HF P l S W H B) w' ∧ BOk (HF P l S W H B) ∧ Kp (Sn nb w) w w' := by
  obtain ⟨i0, hi0, hz0, hz1, hz2⟩ := info_parts infoN
  obtain ⟨i1, hi1, hy0, hy1, hy2⟩ := info_parts infoL
  have HOK := Lib.hid hK
  have HBO := Lib.hid hB
  have HIH := Lib.hid IH
  obtain ⟨x, hx⟩ : ∃ x, l[S.length]? = some x := ⟨_, List.getElem?_eq_getElem (by rw [hK.len]; exact hS)⟩
  have hxb := hK.cb x (List.mem_of_getElem? hx)
  have HSF := Lib.hid (HF_cons (P := P) (W := W) (H := H) (B := B) hx)
  have HPU := Lib.hid (hK.push hx)
  obtain ⟨xS, xO, xW, xH, xU, xb, x0, x1, hN1⟩ := hN
  have HN0 := Lib.hid hN1
  have b3 : w.cell? ⟨nb, 3, none⟩ = some (.slice A n ca) := by rw [cell_of_row _ _ _ _ _ _ hN1.box]; rfl
  have hnb := hN1.lt
  obtain ⟨ba, oa, hA, hba, hc⟩ := hN1.rd.2 S.length x hx
  have hlo := hN1.lo ba oa hA
  subst hA
  have c0 := hc 0 _ rfl
  have c1 := hc 1 _ rfl
  simp only [Nat.add_zero] at c0
  have hS' : ¬ ((S.length : Nat) : Int) = (n : Nat) := by omega
  have hS2 : (((S.length : Nat) : Int) == ((n : Nat) : Int)) = false := by rw [beq_eq_false_iff_ne]; omega
  have hwl : W.length ≤ 8 := by have := hK.wl; have := hK.n8; omega
  have HHL := Lib.hid (show H.length = W.length from hK.wh)
  have hhl8 : H.length ≤ 8 := by rw [HHL.out]; exact hwl
  have hsl : S.length < 8 := by have := hK.n8; omega
  clear hN1 hc hK hB IH hx
  go_enter Try.func28, Try.ntmps28
  go_wp2_with fail
  have hka : Kp No w (w.alloc (.cells #[.int .i64 x.w, .int .i64 x.h] 35)) := Kp.alloc _ _ _
  have HXA := Lib.hid (show (w.alloc (.cells #[.int .i64 x.w, .int .i64 x.h] 35)).heap[w.heap.size]? = some (.cells #[.int .i64 x.w, .int .i64 x.h] 35 (0, 0)) from heap_alloc_new _ _)
  have HN1 := Lib.hid (HN0.out.no hka)
  have HKA := Lib.hid (hka.of_no (S := Sn nb w))
  obtain ⟨gx, hgx⟩ : ∃ gx, gx = w.heap.size := ⟨_, rfl⟩
  rw [← hgx] at HXA ⊢
  generalize w.alloc (.cells #[.int .i64 x.w, .int .i64 x.h] 35) = wa at *
  clear hka HN0 b3 c0 c1 hnb hgx hba hS' hS2
  go_loopw [5] (fun v wr => ∃ k : Nat, k ≤ W.length ∧ v = .int .i64 k ∧ NSt nb P (some ⟨ba, oa, none⟩) n ca l S [] W H [] (HG P l S W H x k B) wr ∧ BOk (HG P l S W H x k B) ∧ Kp (Sn nb wa) wa wr) (fun v _ => W.length + 1 - (intOf v).toNat)
  case atStart => exact ⟨0, by omega, rfl, ⟨_, _, _, _, _, _, _, _, HN1.out⟩, HBO.out, Kp.refl _ _⟩
  case round =>
    obtain ⟨k, hk, rfl, hNr, hBr, hkr⟩ := hrel
    clear HN1
    obtain ⟨B2, hB2⟩ : ∃ B2, B2 = HG P l S W H x k B := ⟨_, rfl⟩
    rw [← hB2] at hNr hBr
    have HB2 := Lib.hid hB2
    clear hB2
    obtain ⟨vS, vO, vW, vH, vU, bv, l0, l1, hN⟩ := hNr
    have oW : wr.ownsRow (nb + 1) 2 1 vW W.length (W.map i64V) := hN.own 2 (by decide)
    have oH : wr.ownsRow (nb + 1) 2 1 vH H.length (H.map i64V) := hN.own 3 (by decide)
    have oS : wr.ownsRow (nb + 1) 3 1 vS S.length (S.map natI) := hN.own 0 (by decide)
    obtain ⟨aW, cW, rfl, hcW, _, hgW⟩ := own_form oW
    obtain ⟨aH, cH, rfl, hcH, _, hgH⟩ := own_form oH
    obtain ⟨aS, cS, rfl, hcS, _, hgS⟩ := own_form oS
    have b6 : wr.cell? ⟨nb, 6, none⟩ = some (.slice aW W.length cW) := by rw [cell_of_row _ _ _ _ _ _ hN.box]; rfl
    have hx0 := hkr.heap HXA.out (fun s => s.2 _ _ HXA.out)
    have HNX := Lib.hid (fun (s : Sn nb wr gx) => s.2 _ _ hx0)
    have cx0 : wr.cell? ⟨gx, 0, none⟩ = some (.int .i64 x.w) := by rw [cell_of_row _ _ _ _ _ _ hx0]; rfl
    have cx1 : wr.cell? ⟨gx, 1, none⟩ = some (.int .i64 x.h) := by rw [cell_of_row _ _ _ _ _ _ hx0]; rfl
    have HXR := Lib.hid hx0
    have HN := Lib.hid hN
    have HBR := Lib.hid hBr
    have HKR := Lib.hid hkr
    by_cases hlt : k < W.length
    · obtain ⟨gW, rfl⟩ := hgW (by omega)
      obtain ⟨gH, rfl⟩ := hgH (by rw [HHL.out]; omega)
      obtain ⟨wv, hwv⟩ : ∃ wv, wv = W.getD k 0 := ⟨_, rfl⟩
      obtain ⟨hv, hhv⟩ : ∃ hv, hv = H.getD k 0 := ⟨_, rfl⟩
      have hwb := bdL_at HOK.out.wb (by omega) k
      have hhb := bdL_at HOK.out.hb (by omega) k
      rw [← hwv] at hwb
      rw [← hhv] at hhb
      have hltH : k < H.length := by rw [HHL.out]; exact hlt
      have HWK := Lib.hid (show (W.map i64V)[k]? = some (.int .i64 wv) from map_at' i64V (by rw [hwv]; exact getD_at' hlt))
      have HHK := Lib.hid (show (H.map i64V)[k]? = some (.int .i64 hv) from map_at' i64V (by rw [hhv]; exact getD_at' hltH))
      have cW' : wr.cell? ⟨gW, k, none⟩ = some (.int .i64 wv) := own_cell oW HWK.out
      have cH' : wr.cell? ⟨gH, k, none⟩ = some (.int .i64 hv) := own_cell oH HHK.out
      have b7 : wr.cell? ⟨nb, 7, none⟩ = some (.slice (some ⟨gH, 0, none⟩) H.length cH) := by rw [cell_of_row _ _ _ _ _ _ hN.box]; rfl
      have b0 : wr.cell? ⟨nb, 0, none⟩ = some (.int .i64 P.w) := by rw [cell_of_row _ _ _ _ _ _ hN.box]; rfl
      have b2 : wr.cell? ⟨nb, 2, none⟩ = some (.int .i64 P.k) := by rw [cell_of_row _ _ _ _ _ _ hN.box]; rfl
      have HWV := Lib.hid hwv
      have HHV := Lib.hid hhv
      have hkb := HOK.out.kb
      have hpw := HOK.out.pw
      clear hwv hhv hN oW oH oS hgW hgH hgS hBr hkr hx0
      have hkl : ¬ ((k : Nat) : Int) = (W.length : Nat) := by omega
      have hltz : (k : Int) < (H.length : Nat) := by omega
      have hltw : (k : Int) < (W.length : Nat) := by omega
      by_cases hgt : P.w < wv + P.k + x.w
      · have HSG := Lib.hid (show HG P l S W H x (k + 1) B = B2 by rw [HG_succ, ← HWV.out, if_pos hgt, ← HB2.out])
        have hgt' : decide (P.w < wv + P.k + x.w) = true := decide_eq_true hgt
        go_wp2_with fail
        go_quiet (fail)
        go_wp2_with fail
        go_quiet (fail)
        go_wp2_with fail
        go_roundw
        case rel => exact ⟨k + 1, by omega, by go_num, by rw [HSG.out]; exact ⟨_, _, _, _, _, _, _, _, HN.out.no (Kp.drewN _ _ _)⟩, by rw [HSG.out]; exact HBR.out, HKR.out.no (Kp.drewN _ _ _)⟩
        case measure => simp [intOf]; omega
      · have HSG := Lib.hid (show HG P l S W H x (k + 1) B = HF P l (S ++ [k]) (W.set k (wv + P.k + x.w)) (H.set k (max hv x.h)) B2 by rw [HG_succ, ← HWV.out, ← HHV.out, if_neg hgt, ← HB2.out])
        have hmx : 0 ≤ max hv x.h ∧ max hv x.h ≤ 20000000 := by omega
        have HPT := Lib.hid (HOK.out.put hS hlt (v := wv + P.k + x.w) (u := max hv x.h) (by omega) hmx)
        have hgt' : decide (P.w < wv + P.k + x.w) = false := decide_eq_false hgt
        have hmxe : (if hv < x.h then x.h else hv) = max hv x.h := by split <;> omega
        have hwr1 : IntKind.i64.wrap (wv + P.k) = wv + P.k := IntWalk.i64_in _ (by omega)
        have hwr2 : IntKind.i64.wrap (wv + P.k + x.w) = wv + P.k + x.w := IntWalk.i64_in _ (by omega)
        go_wp2_with fail
        go_quiet (fail)
        obtain ⟨n1, hn1⟩ : ∃ n1, n1 = nq := ⟨_, rfl⟩
        rw [← hn1]
        clear hn1
        go_wp2_with fail
        go_quiet (fail)
        have hq : Kp No wr ((wr.drewN n1).drewN nq) := (Kp.drewN _ _ _).tr (Kp.drewN _ _ _)
        have HNQ := Lib.hid (HN.out.no hq)
        have HKQ := Lib.hid (HKR.out.no hq)
        have hxq := hq.heap HXR.out id
        have HNX2 := Lib.hid (fun (s : Sn nb ((wr.drewN n1).drewN nq) gx) => s.2 _ _ hxq)
        have cx0' := hq.cell cx0 id
        have cx1' := hq.cell cx1 id
        clear HN HKR hq b6 b7 b0 b2 cW' cH' cx0 cx1 hxq HNX HXR
        generalize (wr.drewN n1).drewN nq = wq at *
        go_wp2_with fail
        refine wp_region_each (fun ix uR => match ix with | 0 => uR = .pointer (some ⟨nb, 0, none⟩) | 1 => uR = .pointer (some ⟨nb, 0, none⟩) | 2 => uR = .pointer (some ⟨nb, 6, none⟩) | 3 => uR = .slice (some ⟨gW, 0, none⟩) W.length cW | 4 => uR = .int .i64 (k : Nat) | 5 => uR = .pointer (some ⟨nb, 0, none⟩) | 6 => uR = .pointer (some ⟨nb, 0, none⟩) | 7 => uR = .pointer (some ⟨nb, 7, none⟩) | 8 => uR = .slice (some ⟨gH, 0, none⟩) H.length cH | 9 => uR = .int .i64 (k : Nat) | 10 => uR = .int .i64 wv | 11 => uR = .pointer (some ⟨nb, 0, none⟩) | 12 => uR = .pointer (some ⟨nb, 0, none⟩) | 13 => uR = .pointer (some ⟨nb, 0, none⟩) | 14 => uR = .pointer (some ⟨nb, 0, none⟩) | 15 => uR = .pointer (some ⟨nb, 2, none⟩) | 16 => uR = .int .i64 P.k | 17 => uR = .int .i64 (wv + P.k) | 18 => uR = .pointer (some ⟨gx, 0, none⟩) | 19 => uR = .int .i64 x.w | 20 => uR = .int .i64 (wv + P.k + x.w) | 21 => uR = .int .i64 hv | 22 => uR = .pointer (some ⟨gx, 1, none⟩) | 23 => uR = .int .i64 x.h | 24 => uR = .int .i64 (max hv x.h) | 25 => uR = .pointer (some ⟨gW, k, none⟩) | 27 => uR = .pointer (some ⟨gH, k, none⟩) | _ => True) (Tw wq nb P (some ⟨ba, oa, none⟩) n ca l (mkF (.slice aS S.length cS) S vO [] (.slice (some ⟨gW, 0, none⟩) W.length cW) W (.slice (some ⟨gH, 0, none⟩) H.length cH) H vU []) bv l0 l1 B2 2 3 (fSet (.slice (some ⟨gW, 0, none⟩) W.length cW) W.length (W.map i64V) k (.int .i64 (wv + P.k + x.w))) (fSet (.slice (some ⟨gH, 0, none⟩) H.length cH) H.length (H.map i64V) k (.int .i64 (max hv x.h))) 90 26 94 91 28 95 (.int .i64 (wv + P.k + x.w)) (.int .i64 (max hv x.h)) []) (by kernel_rfl) (by kernel_rfl) (by kernel_rfl) ?_ ?_ ?_
        · exact Tw.start HNQ.out rfl rfl
        · refine ⟨?_, ?_, ?_, ?_, ?_, ?_, ?_, ?_, ?_, ?_, ?_, ?_, ?_, ?_, ?_, ?_, ?_, ?_, ?_, ?_, ?_, ?_, ?_, ?_, ?_, ?_, ?_, ?_, ?_, trivial⟩
          · intro r a w' hf hg hW hr hd K hK
            refine wpOp_of rfl rfl ?_
            have e0 : a.tmps.getD 0 undef = .pointer (some ⟨nb, 0, none⟩) := hf.evalFree (by kernel_rfl)
            go_simp
            exact hK _ _ rfl (hW.upd 0 _ (by decide) (fun c hc => by cases hc))
          · intro r a w' hf hg hW hr hd K hK
            refine wpOp_of rfl rfl ?_
            refine hf.depE hg hd 0 153 (by kernel_rfl) fun u0 e0 g0 h0 => ?_
            replace g0 : u0 = .pointer (some ⟨nb, 0, none⟩) := g0
            subst g0
            go_simp
            exact hK _ _ rfl (hW.upd 1 _ (by decide) (fun c hc => by cases hc))
          · intro r a w' hf hg hW hr hd K hK
            refine wpOp_of rfl rfl ?_
            refine hf.depE hg hd 1 154 (by kernel_rfl) fun u0 e0 g0 h0 => ?_
            replace g0 : u0 = .pointer (some ⟨nb, 0, none⟩) := g0
            subst g0
            go_simp
            exact hK _ _ rfl (hW.upd 2 _ (by decide) (fun c hc => by cases hc))
          · intro r a w' hf hg hW hr hd K hK
            refine wpOp_of rfl rfl ?_
            refine hf.depE hg hd 2 155 (by kernel_rfl) fun u0 e0 g0 h0 => ?_
            replace g0 : u0 = .pointer (some ⟨nb, 6, none⟩) := g0
            subst g0
            have z0 := hW.cell 6 (v := .slice (some ⟨gW, 0, none⟩) W.length cW) rfl
            go_simp
            exact hK _ _ rfl (hW.upd 3 _ (by decide) (fun c hc => by cases hc))
          · intro r a w' hf hg hW hr hd K hK
            refine wpOp_of rfl rfl ?_
            have e0 : a.tmps.getD 5 undef = .int .i64 (k : Nat) := hf.evalFree (by kernel_rfl)
            go_simp
            exact hK _ _ rfl (hW.upd 4 _ (by decide) (fun c hc => by cases hc))
          · intro r a w' hf hg hW hr hd K hK
            refine wpOp_of rfl rfl ?_
            have e0 : a.tmps.getD 0 undef = .pointer (some ⟨nb, 0, none⟩) := hf.evalFree (by kernel_rfl)
            go_simp
            exact hK _ _ rfl (hW.upd 5 _ (by decide) (fun c hc => by cases hc))
          · intro r a w' hf hg hW hr hd K hK
            refine wpOp_of rfl rfl ?_
            refine hf.depE hg hd 5 158 (by kernel_rfl) fun u0 e0 g0 h0 => ?_
            replace g0 : u0 = .pointer (some ⟨nb, 0, none⟩) := g0
            subst g0
            go_simp
            exact hK _ _ rfl (hW.upd 6 _ (by decide) (fun c hc => by cases hc))
          · intro r a w' hf hg hW hr hd K hK
            refine wpOp_of rfl rfl ?_
            refine hf.depE hg hd 6 159 (by kernel_rfl) fun u0 e0 g0 h0 => ?_
            replace g0 : u0 = .pointer (some ⟨nb, 0, none⟩) := g0
            subst g0
            go_simp
            exact hK _ _ rfl (hW.upd 7 _ (by decide) (fun c hc => by cases hc))
          · intro r a w' hf hg hW hr hd K hK
            refine wpOp_of rfl rfl ?_
            refine hf.depE hg hd 7 160 (by kernel_rfl) fun u0 e0 g0 h0 => ?_
            replace g0 : u0 = .pointer (some ⟨nb, 7, none⟩) := g0
            subst g0
            have z0 := hW.cell 7 (v := .slice (some ⟨gH, 0, none⟩) H.length cH) rfl
            go_simp
            exact hK _ _ rfl (hW.upd 8 _ (by decide) (fun c hc => by cases hc))
          · intro r a w' hf hg hW hr hd K hK
            refine wpOp_of rfl rfl ?_
            have e0 : a.tmps.getD 5 undef = .int .i64 (k : Nat) := hf.evalFree (by kernel_rfl)
            go_simp
            exact hK _ _ rfl (hW.upd 9 _ (by decide) (fun c hc => by cases hc))
          · intro r a w' hf hg hW hr hd K hK
            refine wpOp_of rfl rfl ?_
            have e0 : a.tmps.getD 6 undef = .int .i64 wv := hf.evalFree (by kernel_rfl)
            go_simp
            exact hK _ _ rfl (hW.upd 10 _ (by decide) (fun c hc => by cases hc))
          · intro r a w' hf hg hW hr hd K hK
            refine wpOp_of rfl rfl ?_
            have e0 : a.tmps.getD 0 undef = .pointer (some ⟨nb, 0, none⟩) := hf.evalFree (by kernel_rfl)
            go_simp
            exact hK _ _ rfl (hW.upd 11 _ (by decide) (fun c hc => by cases hc))
          · intro r a w' hf hg hW hr hd K hK
            refine wpOp_of rfl rfl ?_
            refine hf.depE hg hd 11 164 (by kernel_rfl) fun u0 e0 g0 h0 => ?_
            replace g0 : u0 = .pointer (some ⟨nb, 0, none⟩) := g0
            subst g0
            go_simp
            exact hK _ _ rfl (hW.upd 12 _ (by decide) (fun c hc => by cases hc))
          · intro r a w' hf hg hW hr hd K hK
            refine wpOp_of rfl rfl ?_
            refine hf.depE hg hd 12 165 (by kernel_rfl) fun u0 e0 g0 h0 => ?_
            replace g0 : u0 = .pointer (some ⟨nb, 0, none⟩) := g0
            subst g0
            go_simp
            exact hK _ _ rfl (hW.upd 13 _ (by decide) (fun c hc => by cases hc))
          · intro r a w' hf hg hW hr hd K hK
            refine wpOp_of rfl rfl ?_
            refine hf.depE hg hd 13 166 (by kernel_rfl) fun u0 e0 g0 h0 => ?_
            replace g0 : u0 = .pointer (some ⟨nb, 0, none⟩) := g0
            subst g0
            go_simp
            exact hK _ _ rfl (hW.upd 14 _ (by decide) (fun c hc => by cases hc))
          · intro r a w' hf hg hW hr hd K hK
            refine wpOp_of rfl rfl ?_
            refine hf.depE hg hd 14 167 (by kernel_rfl) fun u0 e0 g0 h0 => ?_
            replace g0 : u0 = .pointer (some ⟨nb, 0, none⟩) := g0
            subst g0
            go_simp
            exact hK _ _ rfl (hW.upd 15 _ (by decide) (fun c hc => by cases hc))
          · intro r a w' hf hg hW hr hd K hK
            refine wpOp_of rfl rfl ?_
            refine hf.depE hg hd 15 168 (by kernel_rfl) fun u0 e0 g0 h0 => ?_
            replace g0 : u0 = .pointer (some ⟨nb, 2, none⟩) := g0
            subst g0
            have z0 := hW.cell 2 (v := .int .i64 P.k) rfl
            go_simp
            exact hK _ _ rfl (hW.upd 16 _ (by decide) (fun c hc => by cases hc))
          · intro r a w' hf hg hW hr hd K hK
            refine wpOp_of rfl rfl ?_
            refine hf.depE hg hd 10 163 (by kernel_rfl) fun u0 e0 g0 h0 => ?_
            replace g0 : u0 = .int .i64 wv := g0
            subst g0
            refine hf.depE hg hd 16 169 (by kernel_rfl) fun u1 e1 g1 h1 => ?_
            replace g1 : u1 = .int .i64 P.k := g1
            subst g1
            go_simp
            exact hK _ _ rfl (hW.upd 17 _ (by decide) (fun c hc => by cases hc))
          · intro r a w' hf hg hW hr hd K hK
            refine wpOp_of rfl rfl ?_
            have e0 : a.tmps.getD 4 undef = .pointer (some ⟨gx, 0, none⟩) := hf.evalFree (by kernel_rfl)
            go_simp
            exact hK _ _ rfl (hW.upd 18 _ (by decide) (fun c hc => by cases hc))
          · intro r a w' hf hg hW hr hd K hK
            refine wpOp_of rfl rfl ?_
            refine hf.depE hg hd 18 171 (by kernel_rfl) fun u0 e0 g0 h0 => ?_
            replace g0 : u0 = .pointer (some ⟨gx, 0, none⟩) := g0
            subst g0
            have z0 := hW.kp.cell cx0' HNX2.out
            go_simp
            exact hK _ _ rfl (hW.upd 19 _ (by decide) (fun c hc => by cases hc))
          · intro r a w' hf hg hW hr hd K hK
            refine wpOp_of rfl rfl ?_
            refine hf.depE hg hd 17 170 (by kernel_rfl) fun u0 e0 g0 h0 => ?_
            replace g0 : u0 = .int .i64 (wv + P.k) := g0
            subst g0
            refine hf.depE hg hd 19 172 (by kernel_rfl) fun u1 e1 g1 h1 => ?_
            replace g1 : u1 = .int .i64 x.w := g1
            subst g1
            go_simp
            exact hK _ _ rfl (hW.upd 20 _ (by decide) (fun c hc => by cases hc))
          · intro r a w' hf hg hW hr hd K hK
            refine wpOp_of rfl rfl ?_
            have e0 : a.tmps.getD 7 undef = .int .i64 hv := hf.evalFree (by kernel_rfl)
            go_simp
            exact hK _ _ rfl (hW.upd 21 _ (by decide) (fun c hc => by cases hc))
          · intro r a w' hf hg hW hr hd K hK
            refine wpOp_of rfl rfl ?_
            have e0 : a.tmps.getD 4 undef = .pointer (some ⟨gx, 0, none⟩) := hf.evalFree (by kernel_rfl)
            go_simp
            exact hK _ _ rfl (hW.upd 22 _ (by decide) (fun c hc => by cases hc))
          · intro r a w' hf hg hW hr hd K hK
            refine wpOp_of rfl rfl ?_
            refine hf.depE hg hd 22 175 (by kernel_rfl) fun u0 e0 g0 h0 => ?_
            replace g0 : u0 = .pointer (some ⟨gx, 1, none⟩) := g0
            subst g0
            have z0 := hW.kp.cell cx1' HNX2.out
            go_simp
            exact hK _ _ rfl (hW.upd 23 _ (by decide) (fun c hc => by cases hc))
          · intro r a w' hf hg hW hr hd K hK
            refine wpOp_of rfl rfl ?_
            refine hf.depE hg hd 21 174 (by kernel_rfl) fun u0 e0 g0 h0 => ?_
            replace g0 : u0 = .int .i64 hv := g0
            subst g0
            refine hf.depE hg hd 23 176 (by kernel_rfl) fun u1 e1 g1 h1 => ?_
            replace g1 : u1 = .int .i64 x.h := g1
            subst g1
            go_simp
            exact hK _ _ rfl (hW.upd 24 _ (by decide) (fun c hc => by cases hc))
          · intro r a w' hf hg hW hr hd K hK
            refine wpOp_of rfl rfl ?_
            refine hf.depE hg hd 3 156 (by kernel_rfl) fun u0 e0 g0 h0 => ?_
            replace g0 : u0 = .slice (some ⟨gW, 0, none⟩) W.length cW := g0
            subst g0
            refine hf.depE hg hd 4 157 (by kernel_rfl) fun u1 e1 g1 h1 => ?_
            replace g1 : u1 = .int .i64 (k : Nat) := g1
            subst g1
            go_simp
            exact hK _ _ rfl (hW.upd 25 _ (by decide) (fun c hc => by cases hc))
          · intro r a w' hf hg hW hr hd K hK
            refine wpOp_of rfl rfl ?_
            refine hf.depE hg hd 25 178 (by kernel_rfl) fun u0 e0 g0 h0 => ?_
            replace g0 : u0 = .pointer (some ⟨gW, k, none⟩) := g0
            subst g0
            refine hf.depE hg hd 20 173 (by kernel_rfl) fun u1 e1 g1 h1 => ?_
            replace g1 : u1 = .int .i64 (wv + P.k + x.w) := g1
            subst g1
            obtain ⟨⟨old, y0⟩, y1⟩ := hW.setOwn (by decide) (by rw [List.length_map]; exact hlt)
            go_simp
            exact hK undef _ trivial (hW.putSet (by decide) hr (by decide) (fun c hc e => by cases hc) undef)
          · intro r a w' hf hg hW hr hd K hK
            refine wpOp_of rfl rfl ?_
            refine hf.depE hg hd 8 161 (by kernel_rfl) fun u0 e0 g0 h0 => ?_
            replace g0 : u0 = .slice (some ⟨gH, 0, none⟩) H.length cH := g0
            subst g0
            refine hf.depE hg hd 9 162 (by kernel_rfl) fun u1 e1 g1 h1 => ?_
            replace g1 : u1 = .int .i64 (k : Nat) := g1
            subst g1
            go_simp
            exact hK _ _ rfl (hW.upd 27 _ (by decide) (fun c hc => by cases hc))
          · intro r a w' hf hg hW hr hd K hK
            refine wpOp_of rfl rfl ?_
            refine hf.depE hg hd 27 179 (by kernel_rfl) fun u0 e0 g0 h0 => ?_
            replace g0 : u0 = .pointer (some ⟨gH, k, none⟩) := g0
            subst g0
            refine hf.depE hg hd 24 177 (by kernel_rfl) fun u1 e1 g1 h1 => ?_
            replace g1 : u1 = .int .i64 (max hv x.h) := g1
            subst g1
            obtain ⟨⟨old, y0⟩, y1⟩ := (hW.swap (by decide)).setOwn (by decide) (by rw [List.length_map]; exact hltH)
            go_simp
            exact hK undef _ trivial (((hW.swap (by decide)).putSet (by decide) hr (by decide) (fun c hc e => by cases hc) undef).swap (by decide))
        intro r' w3 hg hW hr'
        simp only [List.length_cons, List.length_nil, Nat.reduceAdd, List.range_succ, List.range_zero, List.nil_append, List.cons_append, List.map_cons, List.map_nil, putAll, Act.put, List.setIfInBounds_toArray, List.set_cons_succ, List.set_cons_zero]
        have n9 := hW.nw
        rw [fSet_fin (hr' 26 (by decide))] at n9
        rw [fSet_fin (hr' 28 (by decide))] at n9
        have k9 := hW.kp
        clear hg hW hr'
        have HK3 := Lib.hid (sn_tr HKQ.out k9)
        obtain ⟨W2, hW2⟩ : ∃ W2, W2 = W.set k (wv + P.k + x.w) := ⟨_, rfl⟩
        obtain ⟨H2, hH2⟩ : ∃ H2, H2 = H.set k (max hv x.h) := ⟨_, rfl⟩
        have N3 := Lib.hid (show NW nb P (some ⟨ba, oa, none⟩) n ca l (mkF (.slice aS S.length cS) S vO [] (.slice (some ⟨gW, 0, none⟩) W.length cW) W2 (.slice (some ⟨gH, 0, none⟩) H.length cH) H2 vU []) bv l0 l1 B2 w3 from n9.congr (fun j hj => by
          match j, hj with
          | 0, _ => rfl
          | 1, _ => rfl
          | 2, _ => rw [hW2]; simp [F2, setF, mkF, List.map_set, i64V]
          | 3, _ => rw [hH2]; simp [F2, setF, mkF, List.map_set, i64V]
          | 4, _ => rfl))
        have HW2 := Lib.hid (show W2.length = W.length ∧ W2.map i64V = (W.map i64V).set k (i64V (wv + P.k + x.w)) by rw [hW2]; exact ⟨by simp, by rw [List.map_set]⟩)
        have HH2 := Lib.hid (show H2.length = H.length ∧ H2.map i64V = (H.map i64V).set k (i64V (max hv x.h)) by rw [hH2]; exact ⟨by simp, by rw [List.map_set]⟩)
        rw [← hW2, ← hH2] at HSG HPT
        clear n9 k9 hW2 hH2 HNQ HKQ cx0' cx1' HNX2
        have b4 : w3.cell? ⟨nb, 4, none⟩ = some (.slice aS S.length cS) := by rw [cell_of_row _ _ _ _ _ _ N3.out.box]; rfl
        have hnb3 := N3.out.lt
        have OS3 := Lib.hid (show w3.ownsRow (nb + 1) 3 1 (.slice aS S.length cS) S.length (S.map natI) from N3.out.own 0 (by decide))
        go_wp2_with (at_builtin; refine stop_in ?_)
        refine stop_out ?_
        refine wpList_append_own_at _ rfl _ _ 57 rfl (nb + 1) 3 i0 (.int .i64 0) 1 8 Try.underlying57 hi0 hz0 hz1 hz2 rfl (by decide) (.slice aS S.length cS) S.length (S.map natI) rfl (OS3.out.alloc (.cells #[.int .i64 (k : Nat)] 3)) ⟨w3.heap.size, 0, none⟩ 1 1 [.int .i64 (k : Nat)] rfl rfl (new_cells (e := 3) w3 [.int .i64 (k : Nat)] (by simp [maxLen])) (int_one _) (by unfold maxLen; omega) (by omega) (by simp; omega) ?_
        intro v' w7 hown' hgrow hnil hat
        have n7 := (N3.out.no (Kp.alloc No w3 (.cells #[.int .i64 (k : Nat)] 3))).app (p := 0) (by decide) hown' hgrow hat
        have k7 : Kp (Sn nb wa) wa w7 := by
          refine sn_step ((HK3.out).no (Kp.alloc No w3 (.cells #[.int .i64 (k : Nat)] 3))) (Kp.grown (S := fun g => Value.ownBlock (.slice aS S.length cS) = some g) hgrow fun g hg _ => hg) fun g hg _ => ?_
          have ho := OS3.out.alloc (.cells #[.int .i64 (k : Nat)] 3)
          obtain ⟨cur, hcur⟩ := own_obj ho hg
          exact ⟨by have := (own_ge ho hg).1; omega, _, _, _, hcur, by decide⟩
        have n8 := n7.put (p := 0) (by decide) v'
        have k8 : Kp (Sn nb wa) wa (w7.setCell ⟨nb, 4, none⟩ v') := sn_step k7 (kp_setOne _ _ _ _) fun g e _ => by have e : g = nb := e; subst e; exact ⟨Nat.le_refl _, _, _, _, n7.box, by decide⟩
        have b4' : w7.cell? ⟨nb, 4, none⟩ = some (.slice aS S.length cS) := by rw [cell_of_row _ _ _ _ _ _ n7.box]; rfl
        have f4' : w7.frozen? ⟨nb, 4, none⟩ = false := by simp [World.frozen?, n7.box]
        obtain ⟨S2, hS2⟩ : ∃ S2, S2 = S ++ [k] := ⟨_, rfl⟩
        have hSL2 : S2.length = S.length + 1 := by rw [hS2]; simp
        have HSL2 := Lib.hid hSL2
        have HSB := Lib.hid (show S2.map natI = S.map natI ++ [natI k] by rw [hS2]; simp)
        have n8' : NSt nb P (some ⟨ba, oa, none⟩) n ca l S2 [] W2 H2 [] B2 (w7.setCell ⟨nb, 4, none⟩ v') := ⟨v', vO, .slice (some ⟨gW, 0, none⟩) W.length cW, .slice (some ⟨gH, 0, none⟩) H.length cH, vU, bv, l0, l1, n8.congr (fun j hj => by
          match j, hj with
          | 0, _ => rw [hS2]; simp [setF, mkF, natI]
          | 1, _ => rfl
          | 2, _ => rfl
          | 3, _ => rfl
          | 4, _ => rfl)⟩
        rw [← hS2] at HSG HPT
        have HC := Lib.hid (HIH.out S2 W2 H2 B2 (w7.setCell ⟨nb, 4, none⟩ v') hSL2 n8' HPT.out HBR.out)
        rw [hSL2] at HC
        have hcast : ((S.length + 1 : Nat) : Int) = (S.length : Int) + 1 := by omega
        rw [hcast] at HC
        have HK7 := Lib.hid k8
        obtain ⟨av, cv, hv', _⟩ := own_form hown'
        subst hv'
        clear n7 k7 n8 k8 n8' hS2 hSL2 hcast N3 HK3 OS3 b4 hown' hgrow hnil hat hnb3
        go_wp2_with fail
        with_reducible refine HC.out.mono ?_
        rintro e w5 ⟨rfl, hN5, hB5, hk5⟩
        have HK5 := Lib.hid (sn_tr HK7.out hk5)
        obtain ⟨B5, hB5e⟩ : ∃ B5, B5 = HF P l S2 W2 H2 B2 := ⟨_, rfl⟩
        rw [← hB5e] at hN5 hB5 HSG
        obtain ⟨uS, uO, uW, uH, uU, ub, u0, u1, hN5⟩ := hN5
        have oS5 : w5.ownsRow (nb + 1) 3 1 uS S2.length (S2.map natI) := hN5.own 0 (by decide)
        have oW5 : w5.ownsRow (nb + 1) 2 1 uW W2.length (W2.map i64V) := hN5.own 2 (by decide)
        have oH5 : w5.ownsRow (nb + 1) 2 1 uH H2.length (H2.map i64V) := hN5.own 3 (by decide)
        obtain ⟨aS5, cS5, rfl, hcS5, _, hgS5⟩ := own_form oS5
        obtain ⟨gS5, rfl⟩ := hgS5 (by rw [HSL2.out]; omega)
        obtain ⟨aW5, cW5, rfl, hcW5, _, hgW5⟩ := own_form oW5
        obtain ⟨aH5, cH5, rfl, hcH5, _, hgH5⟩ := own_form oH5
        obtain ⟨gW5, rfl⟩ := hgW5 (by have := HW2.out.1; omega)
        obtain ⟨gH5, rfl⟩ := hgH5 (by have := HH2.out.1; have := HHL.out; omega)
        have hcs : S.length ≤ cS5 := by have := HSL2.out; omega
        have hcs' : (S.length : Int) ≤ (cS5 : Int) := by omega
        have b45 : w5.cell? ⟨nb, 4, none⟩ = some (.slice (some ⟨gS5, 0, none⟩) S2.length cS5) := by rw [cell_of_row _ _ _ _ _ _ hN5.box]; rfl
        have f45 : w5.frozen? ⟨nb, 4, none⟩ = false := by simp [World.frozen?, hN5.box]
        have HB5 := Lib.hid hB5
        have n6 := (hN5.put (p := 0) (by decide) (.slice (some ⟨gS5, 0, none⟩) S.length cS5)).short (p := 0) (by decide) rfl (own_take (((kp_setOne w5 nb 4 (.slice (some ⟨gS5, 0, none⟩) S.length cS5)).owns oS5 fun g hg e => by have e : g = nb := e; have := (own_ge oS5 hg).1; omega)) (k := S.length) (by have := HSL2.out; omega)) rfl
        have N6 := Lib.hid (show NW nb P (some ⟨ba, oa, none⟩) n ca l (mkF (.slice (some ⟨gS5, 0, none⟩) S.length cS5) S uO [] (.slice (some ⟨gW5, 0, none⟩) W2.length cW5) W2 (.slice (some ⟨gH5, 0, none⟩) H2.length cH5) H2 uU []) ub u0 u1 B5 (w5.setCell ⟨nb, 4, none⟩ (.slice (some ⟨gS5, 0, none⟩) S.length cS5)) from n6.congr (fun j hj => by
          match j, hj with
          | 0, _ => simp [setF, mkF, HSB.out]
          | 1, _ => rfl
          | 2, _ => rfl
          | 3, _ => rfl
          | 4, _ => rfl))
        have HK6 := Lib.hid (show Kp (Sn nb wa) wa (w5.setCell ⟨nb, 4, none⟩ (.slice (some ⟨gS5, 0, none⟩) S.length cS5)) from sn_step HK5.out (kp_setOne _ _ _ _) fun g e _ => by have e : g = nb := e; subst e; exact ⟨Nat.le_refl _, _, _, _, hN5.box, by decide⟩)
        clear hN5 hB5 hk5 hgS5 HC HK7 HK5 oS5 oW5 oH5 hB5e n6
        go_wp2_with fail
        clear b45 f45 b4' f4'
        generalize w5.setCell ⟨nb, 4, none⟩ (.slice (some ⟨gS5, 0, none⟩) S.length cS5) = w6 at *
        have hlW5 : k < W2.length := by rw [HW2.out.1]; exact hlt
        have hlH5 : k < H2.length := by rw [HH2.out.1]; exact hltH
        have hlW5' : (k : Int) < (W2.length : Nat) := by omega
        have hlH5' : (k : Int) < (H2.length : Nat) := by omega
        refine wp_region_each (fun ix uR => match ix with | 0 => uR = .pointer (some ⟨nb, 0, none⟩) | 1 => uR = .pointer (some ⟨nb, 0, none⟩) | 2 => uR = .pointer (some ⟨nb, 6, none⟩) | 3 => uR = .slice (some ⟨gW5, 0, none⟩) W2.length cW5 | 4 => uR = .int .i64 (k : Nat) | 5 => uR = .pointer (some ⟨nb, 0, none⟩) | 6 => uR = .pointer (some ⟨nb, 0, none⟩) | 7 => uR = .pointer (some ⟨nb, 7, none⟩) | 8 => uR = .slice (some ⟨gH5, 0, none⟩) H2.length cH5 | 9 => uR = .int .i64 (k : Nat) | 10 => uR = .int .i64 wv | 11 => uR = .int .i64 hv | 12 => uR = .pointer (some ⟨gW5, k, none⟩) | 14 => uR = .pointer (some ⟨gH5, k, none⟩) | _ => True) (Tw w6 nb P (some ⟨ba, oa, none⟩) n ca l (mkF (.slice (some ⟨gS5, 0, none⟩) S.length cS5) S uO [] (.slice (some ⟨gW5, 0, none⟩) W2.length cW5) W2 (.slice (some ⟨gH5, 0, none⟩) H2.length cH5) H2 uU []) ub u0 u1 B5 2 3 (fSet (.slice (some ⟨gW5, 0, none⟩) W2.length cW5) W2.length (W2.map i64V) k (.int .i64 wv)) (fSet (.slice (some ⟨gH5, 0, none⟩) H2.length cH5) H2.length (H2.map i64V) k (.int .i64 hv)) 90 13 94 91 15 95 (.int .i64 wv) (.int .i64 hv) []) (by kernel_rfl) (by kernel_rfl) (by kernel_rfl) ?_ ?_ ?_
        · exact Tw.start N6.out rfl rfl
        · refine ⟨?_, ?_, ?_, ?_, ?_, ?_, ?_, ?_, ?_, ?_, ?_, ?_, ?_, ?_, ?_, ?_, trivial⟩
          · intro r a w' hf hg hW hr hd K hK
            refine wpOp_of rfl rfl ?_
            have e0 : a.tmps.getD 0 undef = .pointer (some ⟨nb, 0, none⟩) := hf.evalFree (by kernel_rfl)
            go_simp
            exact hK _ _ rfl (hW.upd 0 _ (by decide) (fun c hc => by cases hc))
          · intro r a w' hf hg hW hr hd K hK
            refine wpOp_of rfl rfl ?_
            refine hf.depE hg hd 0 203 (by kernel_rfl) fun u0 e0 g0 h0 => ?_
            replace g0 : u0 = .pointer (some ⟨nb, 0, none⟩) := g0
            subst g0
            go_simp
            exact hK _ _ rfl (hW.upd 1 _ (by decide) (fun c hc => by cases hc))
          · intro r a w' hf hg hW hr hd K hK
            refine wpOp_of rfl rfl ?_
            refine hf.depE hg hd 1 204 (by kernel_rfl) fun u0 e0 g0 h0 => ?_
            replace g0 : u0 = .pointer (some ⟨nb, 0, none⟩) := g0
            subst g0
            go_simp
            exact hK _ _ rfl (hW.upd 2 _ (by decide) (fun c hc => by cases hc))
          · intro r a w' hf hg hW hr hd K hK
            refine wpOp_of rfl rfl ?_
            refine hf.depE hg hd 2 205 (by kernel_rfl) fun u0 e0 g0 h0 => ?_
            replace g0 : u0 = .pointer (some ⟨nb, 6, none⟩) := g0
            subst g0
            have z0 := hW.cell 6 (v := .slice (some ⟨gW5, 0, none⟩) W2.length cW5) rfl
            go_simp
            exact hK _ _ rfl (hW.upd 3 _ (by decide) (fun c hc => by cases hc))
          · intro r a w' hf hg hW hr hd K hK
            refine wpOp_of rfl rfl ?_
            have e0 : a.tmps.getD 5 undef = .int .i64 (k : Nat) := hf.evalFree (by kernel_rfl)
            go_simp
            exact hK _ _ rfl (hW.upd 4 _ (by decide) (fun c hc => by cases hc))
          · intro r a w' hf hg hW hr hd K hK
            refine wpOp_of rfl rfl ?_
            have e0 : a.tmps.getD 0 undef = .pointer (some ⟨nb, 0, none⟩) := hf.evalFree (by kernel_rfl)
            go_simp
            exact hK _ _ rfl (hW.upd 5 _ (by decide) (fun c hc => by cases hc))
          · intro r a w' hf hg hW hr hd K hK
            refine wpOp_of rfl rfl ?_
            refine hf.depE hg hd 5 208 (by kernel_rfl) fun u0 e0 g0 h0 => ?_
            replace g0 : u0 = .pointer (some ⟨nb, 0, none⟩) := g0
            subst g0
            go_simp
            exact hK _ _ rfl (hW.upd 6 _ (by decide) (fun c hc => by cases hc))
          · intro r a w' hf hg hW hr hd K hK
            refine wpOp_of rfl rfl ?_
            refine hf.depE hg hd 6 209 (by kernel_rfl) fun u0 e0 g0 h0 => ?_
            replace g0 : u0 = .pointer (some ⟨nb, 0, none⟩) := g0
            subst g0
            go_simp
            exact hK _ _ rfl (hW.upd 7 _ (by decide) (fun c hc => by cases hc))
          · intro r a w' hf hg hW hr hd K hK
            refine wpOp_of rfl rfl ?_
            refine hf.depE hg hd 7 210 (by kernel_rfl) fun u0 e0 g0 h0 => ?_
            replace g0 : u0 = .pointer (some ⟨nb, 7, none⟩) := g0
            subst g0
            have z0 := hW.cell 7 (v := .slice (some ⟨gH5, 0, none⟩) H2.length cH5) rfl
            go_simp
            exact hK _ _ rfl (hW.upd 8 _ (by decide) (fun c hc => by cases hc))
          · intro r a w' hf hg hW hr hd K hK
            refine wpOp_of rfl rfl ?_
            have e0 : a.tmps.getD 5 undef = .int .i64 (k : Nat) := hf.evalFree (by kernel_rfl)
            go_simp
            exact hK _ _ rfl (hW.upd 9 _ (by decide) (fun c hc => by cases hc))
          · intro r a w' hf hg hW hr hd K hK
            refine wpOp_of rfl rfl ?_
            have e0 : a.tmps.getD 6 undef = .int .i64 wv := hf.evalFree (by kernel_rfl)
            go_simp
            exact hK _ _ rfl (hW.upd 10 _ (by decide) (fun c hc => by cases hc))
          · intro r a w' hf hg hW hr hd K hK
            refine wpOp_of rfl rfl ?_
            have e0 : a.tmps.getD 7 undef = .int .i64 hv := hf.evalFree (by kernel_rfl)
            go_simp
            exact hK _ _ rfl (hW.upd 11 _ (by decide) (fun c hc => by cases hc))
          · intro r a w' hf hg hW hr hd K hK
            refine wpOp_of rfl rfl ?_
            refine hf.depE hg hd 3 206 (by kernel_rfl) fun u0 e0 g0 h0 => ?_
            replace g0 : u0 = .slice (some ⟨gW5, 0, none⟩) W2.length cW5 := g0
            subst g0
            refine hf.depE hg hd 4 207 (by kernel_rfl) fun u1 e1 g1 h1 => ?_
            replace g1 : u1 = .int .i64 (k : Nat) := g1
            subst g1
            go_simp
            exact hK _ _ rfl (hW.upd 12 _ (by decide) (fun c hc => by cases hc))
          · intro r a w' hf hg hW hr hd K hK
            refine wpOp_of rfl rfl ?_
            refine hf.depE hg hd 12 215 (by kernel_rfl) fun u0 e0 g0 h0 => ?_
            replace g0 : u0 = .pointer (some ⟨gW5, k, none⟩) := g0
            subst g0
            refine hf.depE hg hd 10 213 (by kernel_rfl) fun u1 e1 g1 h1 => ?_
            replace g1 : u1 = .int .i64 wv := g1
            subst g1
            obtain ⟨⟨old, y0⟩, y1⟩ := hW.setOwn (by decide) (by rw [List.length_map]; exact hlW5)
            go_simp
            exact hK undef _ trivial (hW.putSet (by decide) hr (by decide) (fun c hc e => by cases hc) undef)
          · intro r a w' hf hg hW hr hd K hK
            refine wpOp_of rfl rfl ?_
            refine hf.depE hg hd 8 211 (by kernel_rfl) fun u0 e0 g0 h0 => ?_
            replace g0 : u0 = .slice (some ⟨gH5, 0, none⟩) H2.length cH5 := g0
            subst g0
            refine hf.depE hg hd 9 212 (by kernel_rfl) fun u1 e1 g1 h1 => ?_
            replace g1 : u1 = .int .i64 (k : Nat) := g1
            subst g1
            go_simp
            exact hK _ _ rfl (hW.upd 14 _ (by decide) (fun c hc => by cases hc))
          · intro r a w' hf hg hW hr hd K hK
            refine wpOp_of rfl rfl ?_
            refine hf.depE hg hd 14 216 (by kernel_rfl) fun u0 e0 g0 h0 => ?_
            replace g0 : u0 = .pointer (some ⟨gH5, k, none⟩) := g0
            subst g0
            refine hf.depE hg hd 11 214 (by kernel_rfl) fun u1 e1 g1 h1 => ?_
            replace g1 : u1 = .int .i64 hv := g1
            subst g1
            obtain ⟨⟨old, y0⟩, y1⟩ := (hW.swap (by decide)).setOwn (by decide) (by rw [List.length_map]; exact hlH5)
            go_simp
            exact hK undef _ trivial (((hW.swap (by decide)).putSet (by decide) hr (by decide) (fun c hc e => by cases hc) undef).swap (by decide))
        intro r' w8 hg hW hr'
        simp only [List.length_cons, List.length_nil, Nat.reduceAdd, List.range_succ, List.range_zero, List.nil_append, List.cons_append, List.map_cons, List.map_nil, putAll, Act.put, List.setIfInBounds_toArray, List.set_cons_succ, List.set_cons_zero]
        have n9 := hW.nw
        rw [fSet_fin (hr' 13 (by decide))] at n9
        rw [fSet_fin (hr' 15 (by decide))] at n9
        have k9 := hW.kp
        clear hg hW hr'
        have HK8 := Lib.hid (sn_tr HK6.out k9)
        have N8 := Lib.hid (show NSt nb P (some ⟨ba, oa, none⟩) n ca l S [] W H [] B5 w8 from ⟨.slice (some ⟨gS5, 0, none⟩) S.length cS5, uO, .slice (some ⟨gW5, 0, none⟩) W2.length cW5, .slice (some ⟨gH5, 0, none⟩) H2.length cH5, uU, ub, u0, u1, n9.congr (fun j hj => by
          match j, hj with
          | 0, _ => rfl
          | 1, _ => rfl
          | 2, _ =>
            have e1 : (W2.map i64V).set k (.int .i64 wv) = W.map i64V := by
              rw [HW2.out.2, List.set_set]
              exact set_same HWK.out
            have e2 := HW2.out.1
            simp only [F2, setF, mkF]
            simp [e1, e2]
          | 3, _ =>
            have e1 : (H2.map i64V).set k (.int .i64 hv) = H.map i64V := by
              rw [HH2.out.2, List.set_set]
              exact set_same HHK.out
            have e2 := HH2.out.1
            simp only [F2, setF, mkF]
            simp [e1, e2]
          | 4, _ => rfl)⟩)
        clear n9 k9 N6
        go_wp2_with fail
        go_roundw
        case rel => first | exact ⟨k + 1, by omega, by go_num, by rw [HSG.out]; exact N8.out, by rw [HSG.out]; exact HB5.out, HK8.out⟩ | ((repeat apply Exists.intro); exact ⟨⟨k + 1, by omega, by go_num, by rw [HSG.out]; exact N8.out, by rw [HSG.out]; exact HB5.out, HK8.out⟩, rfl⟩)
        case measure => simp [intOf]; omega
    · obtain rfl : k = W.length := by omega
      rw [← HB2.out] at HSF
      clear hN oW oH oS hgW hgH hgS hBr hkr hx0
      go_wp2_with fail
      clear b6
      refine wp_region_each (fun ix uR => match ix with | 0 => uR = .pointer (some ⟨nb, 0, none⟩) | 1 => uR = .pointer (some ⟨nb, 0, none⟩) | 2 => uR = .pointer (some ⟨nb, 0, none⟩) | 3 => uR = .pointer (some ⟨nb, 0, none⟩) | 4 => uR = .pointer (some ⟨nb, 6, none⟩) | 5 => uR = .slice aW W.length cW | 6 => uR = .pointer (some ⟨gx, 0, none⟩) | 7 => uR = .int .i64 x.w | 10 => uR = .pointer (some ⟨nb, 0, none⟩) | 11 => uR = .pointer (some ⟨nb, 0, none⟩) | 12 => uR = .pointer (some ⟨nb, 7, none⟩) | 13 => uR = .slice aH H.length cH | 14 => uR = .pointer (some ⟨gx, 1, none⟩) | 15 => uR = .int .i64 x.h | 18 => uR = .pointer (some ⟨nb, 0, none⟩) | 19 => uR = .pointer (some ⟨nb, 6, none⟩) | 21 => uR = .pointer (some ⟨nb, 0, none⟩) | 22 => uR = .pointer (some ⟨nb, 7, none⟩) | _ => True) (Tw wr nb P (some ⟨ba, oa, none⟩) n ca l (mkF (.slice aS S.length cS) S vO [] (.slice aW W.length cW) W (.slice aH H.length cH) H vU []) bv l0 l1 B2 2 3 (fApp (.slice aW W.length cW) W.length (W.map i64V) (.int .i64 x.w)) (fApp (.slice aH H.length cH) H.length (H.map i64V) (.int .i64 x.h)) 9 20 8 17 23 16 (.int .i64 x.w) (.int .i64 x.h) [(20, 9), (9, 5), (23, 17), (17, 13)]) (by kernel_rfl) (by kernel_rfl) (by kernel_rfl) ?_ ?_ ?_
      · exact Tw.start HN.out rfl rfl
      · refine ⟨?_, ?_, ?_, ?_, ?_, ?_, ?_, ?_, ?_, ?_, ?_, ?_, ?_, ?_, ?_, ?_, ?_, ?_, ?_, ?_, ?_, ?_, ?_, ?_, trivial⟩
        · intro r a w' hf hg hW hr hd K hK
          refine wpOp_of rfl rfl ?_
          have e0 : a.tmps.getD 0 undef = .pointer (some ⟨nb, 0, none⟩) := hf.evalFree (by kernel_rfl)
          go_simp
          exact hK _ _ rfl (hW.upd 0 _ (by decide) (by decide))
        · intro r a w' hf hg hW hr hd K hK
          refine wpOp_of rfl rfl ?_
          have e0 : a.tmps.getD 0 undef = .pointer (some ⟨nb, 0, none⟩) := hf.evalFree (by kernel_rfl)
          go_simp
          exact hK _ _ rfl (hW.upd 1 _ (by decide) (by decide))
        · intro r a w' hf hg hW hr hd K hK
          refine wpOp_of rfl rfl ?_
          have e0 : a.tmps.getD 0 undef = .pointer (some ⟨nb, 0, none⟩) := hf.evalFree (by kernel_rfl)
          go_simp
          exact hK _ _ rfl (hW.upd 2 _ (by decide) (by decide))
        · intro r a w' hf hg hW hr hd K hK
          refine wpOp_of rfl rfl ?_
          refine hf.depE hg hd 2 60 (by kernel_rfl) fun u0 e0 g0 h0 => ?_
          replace g0 : u0 = .pointer (some ⟨nb, 0, none⟩) := g0
          subst g0
          go_simp
          exact hK _ _ rfl (hW.upd 3 _ (by decide) (by decide))
        · intro r a w' hf hg hW hr hd K hK
          refine wpOp_of rfl rfl ?_
          refine hf.depE hg hd 3 61 (by kernel_rfl) fun u0 e0 g0 h0 => ?_
          replace g0 : u0 = .pointer (some ⟨nb, 0, none⟩) := g0
          subst g0
          go_simp
          exact hK _ _ rfl (hW.upd 4 _ (by decide) (by decide))
        · intro r a w' hf hg hW hr hd K hK
          refine wpOp_of rfl rfl ?_
          refine hf.depE hg hd 4 62 (by kernel_rfl) fun u0 e0 g0 h0 => ?_
          replace g0 : u0 = .pointer (some ⟨nb, 6, none⟩) := g0
          subst g0
          have hs0 : r 20 = none := hW.back (x := 20) (y := 9) (by decide) (hW.back (x := 9) (y := 5) (by decide) hr)
          have z0 := hW.cell 6 (v := .slice aW W.length cW) (by rw [hs0]; rfl)
          go_simp
          exact hK _ _ rfl (hW.upd 5 _ (by decide) (by decide))
        · intro r a w' hf hg hW hr hd K hK
          refine wpOp_of rfl rfl ?_
          have e0 : a.tmps.getD 4 undef = .pointer (some ⟨gx, 0, none⟩) := hf.evalFree (by kernel_rfl)
          go_simp
          exact hK _ _ rfl (hW.upd 6 _ (by decide) (by decide))
        · intro r a w' hf hg hW hr hd K hK
          refine wpOp_of rfl rfl ?_
          refine hf.depE hg hd 6 64 (by kernel_rfl) fun u0 e0 g0 h0 => ?_
          replace g0 : u0 = .pointer (some ⟨gx, 0, none⟩) := g0
          subst g0
          have z0 := hW.kp.cell cx0 HNX.out
          go_simp
          exact hK _ _ rfl (hW.upd 7 _ (by decide) (by decide))
        · intro r a w' hf hg hW hr hd K hK
          refine wpOp_of rfl rfl ?_
          refine hf.depE hg hd 7 65 (by kernel_rfl) fun u0 e0 g0 h0 => ?_
          replace g0 : u0 = .int .i64 x.w := g0
          subst g0
          have e0' := get_of_getD e0
          go_simp
          exact hK _ _ trivial (hW.lay 2 (by decide) (by decide))
        · intro r a w' hf hg hW hr hd K hK
          refine wpOp_of rfl rfl ?_
          refine hf.depE hg hd 5 63 (by kernel_rfl) fun u0 e0 g0 h0 => ?_
          replace g0 : u0 = .slice aW W.length cW := g0
          subst g0
          refine hf.depE hg hd 8 66 (by kernel_rfl) fun u1 e1 g1 h1 => ?_
          have hs0 : r 20 = none := hW.back (x := 20) (y := 9) (by decide) hr
          obtain ⟨gq, hq, _, hcc, _⟩ := hW.tp u1 h1 hr
          subst hq
          exact wpo_append (.tmp 63) (.tmp 66) 58 rfl (nb + 1) 2 i1 (.int .i64 0) 1 8 Try.underlying58 hi1 hy0 hy1 hy2 rfl (by decide) (.slice aW W.length cW) W.length (W.map i64V) e0 (hW.ownP (by decide) hr) ⟨gq, 0, none⟩ 1 1 [.int .i64 x.w] e1 rfl (news1 hcc) (int_one _) (by unfold maxLen; omega) (by omega) (by have := hW.nw.lt; omega) (fun v' w'' ho hgr hat => hK _ _ trivial (hW.app (by decide) hr hs0 (by decide) (by intro c hc e; simp only [List.mem_cons, List.not_mem_nil, or_false] at hc; rcases hc with rfl | rfl | rfl | rfl <;> first | (exact absurd e (by decide)) | (rw [h0]; simp) | (rw [h1]; simp)) ho hgr hat))
        · intro r a w' hf hg hW hr hd K hK
          refine wpOp_of rfl rfl ?_
          have e0 : a.tmps.getD 0 undef = .pointer (some ⟨nb, 0, none⟩) := hf.evalFree (by kernel_rfl)
          go_simp
          exact hK _ _ rfl (hW.upd 10 _ (by decide) (by decide))
        · intro r a w' hf hg hW hr hd K hK
          refine wpOp_of rfl rfl ?_
          refine hf.depE hg hd 10 68 (by kernel_rfl) fun u0 e0 g0 h0 => ?_
          replace g0 : u0 = .pointer (some ⟨nb, 0, none⟩) := g0
          subst g0
          go_simp
          exact hK _ _ rfl (hW.upd 11 _ (by decide) (by decide))
        · intro r a w' hf hg hW hr hd K hK
          refine wpOp_of rfl rfl ?_
          refine hf.depE hg hd 11 69 (by kernel_rfl) fun u0 e0 g0 h0 => ?_
          replace g0 : u0 = .pointer (some ⟨nb, 0, none⟩) := g0
          subst g0
          go_simp
          exact hK _ _ rfl (hW.upd 12 _ (by decide) (by decide))
        · intro r a w' hf hg hW hr hd K hK
          refine wpOp_of rfl rfl ?_
          refine hf.depE hg hd 12 70 (by kernel_rfl) fun u0 e0 g0 h0 => ?_
          replace g0 : u0 = .pointer (some ⟨nb, 7, none⟩) := g0
          subst g0
          have hs0 : r 23 = none := hW.back (x := 23) (y := 17) (by decide) (hW.back (x := 17) (y := 13) (by decide) hr)
          have z0 := hW.cell 7 (v := .slice aH H.length cH) (by rw [hs0]; rfl)
          go_simp
          exact hK _ _ rfl (hW.upd 13 _ (by decide) (by decide))
        · intro r a w' hf hg hW hr hd K hK
          refine wpOp_of rfl rfl ?_
          have e0 : a.tmps.getD 4 undef = .pointer (some ⟨gx, 0, none⟩) := hf.evalFree (by kernel_rfl)
          go_simp
          exact hK _ _ rfl (hW.upd 14 _ (by decide) (by decide))
        · intro r a w' hf hg hW hr hd K hK
          refine wpOp_of rfl rfl ?_
          refine hf.depE hg hd 14 72 (by kernel_rfl) fun u0 e0 g0 h0 => ?_
          replace g0 : u0 = .pointer (some ⟨gx, 1, none⟩) := g0
          subst g0
          have z0 := hW.kp.cell cx1 HNX.out
          go_simp
          exact hK _ _ rfl (hW.upd 15 _ (by decide) (by decide))
        · intro r a w' hf hg hW hr hd K hK
          refine wpOp_of rfl rfl ?_
          refine hf.depE hg hd 15 73 (by kernel_rfl) fun u0 e0 g0 h0 => ?_
          replace g0 : u0 = .int .i64 x.h := g0
          subst g0
          have e0' := get_of_getD e0
          go_simp
          exact hK _ _ trivial (((hW.swap (by decide)).lay 2 (by decide) (by decide)).swap (by decide))
        · intro r a w' hf hg hW hr hd K hK
          refine wpOp_of rfl rfl ?_
          refine hf.depE hg hd 13 71 (by kernel_rfl) fun u0 e0 g0 h0 => ?_
          replace g0 : u0 = .slice aH H.length cH := g0
          subst g0
          refine hf.depE hg hd 16 74 (by kernel_rfl) fun u1 e1 g1 h1 => ?_
          have hs0 : r 23 = none := hW.back (x := 23) (y := 17) (by decide) hr
          obtain ⟨gq, hq, _, hcc, _⟩ := hW.tq u1 h1 hr
          subst hq
          exact wpo_append (.tmp 71) (.tmp 74) 58 rfl (nb + 1) 2 i1 (.int .i64 0) 1 8 Try.underlying58 hi1 hy0 hy1 hy2 rfl (by decide) (.slice aH H.length cH) H.length (H.map i64V) e0 ((hW.swap (by decide)).ownP (by decide) hr) ⟨gq, 0, none⟩ 1 1 [.int .i64 x.h] e1 rfl (news1 hcc) (int_one _) (by unfold maxLen; omega) (by omega) (by have := hW.nw.lt; omega) (fun v' w'' ho hgr hat => hK _ _ trivial (((hW.swap (by decide)).app (by decide) hr hs0 (by decide) (by intro c hc e; simp only [List.mem_cons, List.not_mem_nil, or_false] at hc; rcases hc with rfl | rfl | rfl | rfl <;> first | (exact absurd e (by decide)) | (rw [h0]; simp) | (rw [h1]; simp)) ho hgr hat).swap (by decide)))
        · intro r a w' hf hg hW hr hd K hK
          refine wpOp_of rfl rfl ?_
          refine hf.depE hg hd 0 58 (by kernel_rfl) fun u0 e0 g0 h0 => ?_
          replace g0 : u0 = .pointer (some ⟨nb, 0, none⟩) := g0
          subst g0
          go_simp
          exact hK _ _ rfl (hW.upd 18 _ (by decide) (by decide))
        · intro r a w' hf hg hW hr hd K hK
          refine wpOp_of rfl rfl ?_
          refine hf.depE hg hd 18 76 (by kernel_rfl) fun u0 e0 g0 h0 => ?_
          replace g0 : u0 = .pointer (some ⟨nb, 0, none⟩) := g0
          subst g0
          go_simp
          exact hK _ _ rfl (hW.upd 19 _ (by decide) (by decide))
        · intro r a w' hf hg hW hr hd K hK
          refine wpOp_of rfl rfl ?_
          refine hf.depE hg hd 19 77 (by kernel_rfl) fun u0 e0 g0 h0 => ?_
          replace g0 : u0 = .pointer (some ⟨nb, 6, none⟩) := g0
          subst g0
          refine hf.depE hg hd 9 67 (by kernel_rfl) fun u1 e1 g1 h1 => ?_
          obtain ⟨old, y0⟩ := hW.old (c := 6) (by decide)
          have y1 := hW.free 6
          obtain ⟨fa, fc, hfa⟩ := hW.formP (by decide) h1
          subst hfa
          go_simp
          exact hK undef _ trivial (hW.putApp (by decide) h1 (by decide) (by intro c hc e; simp only [List.mem_cons, List.not_mem_nil, or_false] at hc; rcases hc with rfl | rfl | rfl | rfl <;> first | (exact absurd e (by decide)) | (rw [h1]; simp)) undef)
        · intro r a w' hf hg hW hr hd K hK
          refine wpOp_of rfl rfl ?_
          refine hf.depE hg hd 1 59 (by kernel_rfl) fun u0 e0 g0 h0 => ?_
          replace g0 : u0 = .pointer (some ⟨nb, 0, none⟩) := g0
          subst g0
          go_simp
          exact hK _ _ rfl (hW.upd 21 _ (by decide) (by decide))
        · intro r a w' hf hg hW hr hd K hK
          refine wpOp_of rfl rfl ?_
          refine hf.depE hg hd 21 78 (by kernel_rfl) fun u0 e0 g0 h0 => ?_
          replace g0 : u0 = .pointer (some ⟨nb, 0, none⟩) := g0
          subst g0
          go_simp
          exact hK _ _ rfl (hW.upd 22 _ (by decide) (by decide))
        · intro r a w' hf hg hW hr hd K hK
          refine wpOp_of rfl rfl ?_
          refine hf.depE hg hd 22 79 (by kernel_rfl) fun u0 e0 g0 h0 => ?_
          replace g0 : u0 = .pointer (some ⟨nb, 7, none⟩) := g0
          subst g0
          refine hf.depE hg hd 17 75 (by kernel_rfl) fun u1 e1 g1 h1 => ?_
          obtain ⟨old, y0⟩ := hW.old (c := 7) (by decide)
          have y1 := hW.free 7
          obtain ⟨fa, fc, hfa⟩ := (hW.swap (by decide)).formP (by decide) h1
          subst hfa
          go_simp
          exact hK undef _ trivial (((hW.swap (by decide)).putApp (by decide) h1 (by decide) (by intro c hc e; simp only [List.mem_cons, List.not_mem_nil, or_false] at hc; rcases hc with rfl | rfl | rfl | rfl <;> first | (exact absurd e (by decide)) | (rw [h1]; simp)) undef).swap (by decide))
      intro r' w3 hg hW hr'
      simp only [List.length_cons, List.length_nil, Nat.reduceAdd, List.range_succ, List.range_zero, List.nil_append, List.cons_append, List.map_cons, List.map_nil, putAll, Act.put, List.setIfInBounds_toArray, List.set_cons_succ, List.set_cons_zero]
      have n9 := hW.nw
      obtain ⟨vp, hvp⟩ := fApp_fin (v0 := .slice aW W.length cW) (m := W.length) (xs := W.map i64V) (x := .int .i64 x.w) (hr' 9 (by decide)) (hr' 20 (by decide))
      rw [hvp] at n9
      clear hvp
      obtain ⟨vq, hvq⟩ := fApp_fin (v0 := .slice aH H.length cH) (m := H.length) (xs := H.map i64V) (x := .int .i64 x.h) (hr' 17 (by decide)) (hr' 23 (by decide))
      rw [hvq] at n9
      clear hvq
      have k9 := hW.kp
      clear hg hW hr'
      have HK3 := Lib.hid (sn_tr HKR.out k9)
      obtain ⟨W2, hW2⟩ : ∃ W2, W2 = W ++ [x.w] := ⟨_, rfl⟩
      obtain ⟨H2, hH2⟩ : ∃ H2, H2 = H ++ [x.h] := ⟨_, rfl⟩
      have N3 := Lib.hid (show NW nb P (some ⟨ba, oa, none⟩) n ca l (mkF (.slice aS S.length cS) S vO [] vp W2 vq H2 vU []) bv l0 l1 B2 w3 from n9.congr (fun j hj => by
        match j, hj with
        | 0, _ => rfl
        | 1, _ => rfl
        | 2, _ => rw [hW2]; simp [F2, setF, mkF, i64V]
        | 3, _ => rw [hH2]; simp [F2, setF, mkF, i64V]
        | 4, _ => rfl))
      have HW2 := Lib.hid (show W2.length = W.length + 1 ∧ W2.map i64V = W.map i64V ++ [i64V x.w] by rw [hW2]; simp)
      have HH2 := Lib.hid (show H2.length = H.length + 1 ∧ H2.map i64V = H.map i64V ++ [i64V x.h] by rw [hH2]; simp)
      rw [← hW2, ← hH2] at HSF HPU
      clear n9 k9 hW2 hH2 HN HKR cx0 cx1 HNX HXR
      have b4 : w3.cell? ⟨nb, 4, none⟩ = some (.slice aS S.length cS) := by rw [cell_of_row _ _ _ _ _ _ N3.out.box]; rfl
      have hnb3 := N3.out.lt
      have OS3 := Lib.hid (show w3.ownsRow (nb + 1) 3 1 (.slice aS S.length cS) S.length (S.map natI) from N3.out.own 0 (by decide))
      go_wp2_with (at_builtin; refine stop_in ?_)
      refine stop_out ?_
      refine wpList_append_own_at _ rfl _ _ 57 rfl (nb + 1) 3 i0 (.int .i64 0) 1 8 Try.underlying57 hi0 hz0 hz1 hz2 rfl (by decide) (.slice aS S.length cS) S.length (S.map natI) rfl (OS3.out.alloc (.cells #[.int .i64 (W.length : Nat)] 3)) ⟨w3.heap.size, 0, none⟩ 1 1 [.int .i64 (W.length : Nat)] rfl rfl (new_cells (e := 3) w3 [.int .i64 (W.length : Nat)] (by simp [maxLen])) (int_one _) (by unfold maxLen; omega) (by omega) (by simp; omega) ?_
      intro v' w7 hown' hgrow hnil hat
      have n7 := (N3.out.no (Kp.alloc No w3 (.cells #[.int .i64 (W.length : Nat)] 3))).app (p := 0) (by decide) hown' hgrow hat
      have k7 : Kp (Sn nb wa) wa w7 := by
        refine sn_step ((HK3.out).no (Kp.alloc No w3 (.cells #[.int .i64 (W.length : Nat)] 3))) (Kp.grown (S := fun g => Value.ownBlock (.slice aS S.length cS) = some g) hgrow fun g hg _ => hg) fun g hg _ => ?_
        have ho := OS3.out.alloc (.cells #[.int .i64 (W.length : Nat)] 3)
        obtain ⟨cur, hcur⟩ := own_obj ho hg
        exact ⟨by have := (own_ge ho hg).1; omega, _, _, _, hcur, by decide⟩
      have n8 := n7.put (p := 0) (by decide) v'
      have k8 : Kp (Sn nb wa) wa (w7.setCell ⟨nb, 4, none⟩ v') := sn_step k7 (kp_setOne _ _ _ _) fun g e _ => by have e : g = nb := e; subst e; exact ⟨Nat.le_refl _, _, _, _, n7.box, by decide⟩
      have b4' : w7.cell? ⟨nb, 4, none⟩ = some (.slice aS S.length cS) := by rw [cell_of_row _ _ _ _ _ _ n7.box]; rfl
      have f4' : w7.frozen? ⟨nb, 4, none⟩ = false := by simp [World.frozen?, n7.box]
      obtain ⟨S2, hS2⟩ : ∃ S2, S2 = S ++ [W.length] := ⟨_, rfl⟩
      have hSL2 : S2.length = S.length + 1 := by rw [hS2]; simp
      have HSL2 := Lib.hid hSL2
      have HSB := Lib.hid (show S2.map natI = S.map natI ++ [natI W.length] by rw [hS2]; simp)
      have n8' : NSt nb P (some ⟨ba, oa, none⟩) n ca l S2 [] W2 H2 [] B2 (w7.setCell ⟨nb, 4, none⟩ v') := ⟨v', vO, vp, vq, vU, bv, l0, l1, n8.congr (fun j hj => by
        match j, hj with
        | 0, _ => rw [hS2]; simp [setF, mkF, natI]
        | 1, _ => rfl
        | 2, _ => rfl
        | 3, _ => rfl
        | 4, _ => rfl)⟩
      rw [← hS2] at HSF HPU
      have HC := Lib.hid (HIH.out S2 W2 H2 B2 (w7.setCell ⟨nb, 4, none⟩ v') hSL2 n8' HPU.out HBR.out)
      rw [hSL2] at HC
      have hcast : ((S.length + 1 : Nat) : Int) = (S.length : Int) + 1 := by omega
      rw [hcast] at HC
      have HK7 := Lib.hid k8
      obtain ⟨av, cv, hv', _⟩ := own_form hown'
      subst hv'
      clear n7 k7 n8 k8 n8' hS2 hSL2 hcast N3 HK3 OS3 b4 hown' hgrow hnil hat hnb3
      go_wp2_with fail
      with_reducible refine HC.out.mono ?_
      rintro e w5 ⟨rfl, hN5, hB5, hk5⟩
      have HK5 := Lib.hid (sn_tr HK7.out hk5)
      obtain ⟨B5, hB5e⟩ : ∃ B5, B5 = HF P l S2 W2 H2 B2 := ⟨_, rfl⟩
      rw [← hB5e] at hN5 hB5 HSF
      obtain ⟨uS, uO, uW, uH, uU, ub, u0, u1, hN5⟩ := hN5
      have oS5 : w5.ownsRow (nb + 1) 3 1 uS S2.length (S2.map natI) := hN5.own 0 (by decide)
      have oW5 : w5.ownsRow (nb + 1) 2 1 uW W2.length (W2.map i64V) := hN5.own 2 (by decide)
      have oH5 : w5.ownsRow (nb + 1) 2 1 uH H2.length (H2.map i64V) := hN5.own 3 (by decide)
      obtain ⟨aS5, cS5, rfl, hcS5, _, hgS5⟩ := own_form oS5
      obtain ⟨gS5, rfl⟩ := hgS5 (by rw [HSL2.out]; omega)
      obtain ⟨aW5, cW5, rfl, hcW5, _, hgW5⟩ := own_form oW5
      obtain ⟨aH5, cH5, rfl, hcH5, _, hgH5⟩ := own_form oH5
      obtain ⟨gW5, rfl⟩ := hgW5 (by have := HW2.out.1; omega)
      obtain ⟨gH5, rfl⟩ := hgH5 (by have := HH2.out.1; have := HHL.out; omega)
      have hcs : S.length ≤ cS5 := by have := HSL2.out; omega
      have hcs' : (S.length : Int) ≤ (cS5 : Int) := by omega
      have b45 : w5.cell? ⟨nb, 4, none⟩ = some (.slice (some ⟨gS5, 0, none⟩) S2.length cS5) := by rw [cell_of_row _ _ _ _ _ _ hN5.box]; rfl
      have f45 : w5.frozen? ⟨nb, 4, none⟩ = false := by simp [World.frozen?, hN5.box]
      have HB5 := Lib.hid hB5
      have n6 := (hN5.put (p := 0) (by decide) (.slice (some ⟨gS5, 0, none⟩) S.length cS5)).short (p := 0) (by decide) rfl (own_take (((kp_setOne w5 nb 4 (.slice (some ⟨gS5, 0, none⟩) S.length cS5)).owns oS5 fun g hg e => by have e : g = nb := e; have := (own_ge oS5 hg).1; omega)) (k := S.length) (by have := HSL2.out; omega)) rfl
      have N6 := Lib.hid (show NW nb P (some ⟨ba, oa, none⟩) n ca l (mkF (.slice (some ⟨gS5, 0, none⟩) S.length cS5) S uO [] (.slice (some ⟨gW5, 0, none⟩) W2.length cW5) W2 (.slice (some ⟨gH5, 0, none⟩) H2.length cH5) H2 uU []) ub u0 u1 B5 (w5.setCell ⟨nb, 4, none⟩ (.slice (some ⟨gS5, 0, none⟩) S.length cS5)) from n6.congr (fun j hj => by
        match j, hj with
        | 0, _ => simp [setF, mkF, HSB.out]
        | 1, _ => rfl
        | 2, _ => rfl
        | 3, _ => rfl
        | 4, _ => rfl))
      have HK6 := Lib.hid (show Kp (Sn nb wa) wa (w5.setCell ⟨nb, 4, none⟩ (.slice (some ⟨gS5, 0, none⟩) S.length cS5)) from sn_step HK5.out (kp_setOne _ _ _ _) fun g e _ => by have e : g = nb := e; subst e; exact ⟨Nat.le_refl _, _, _, _, hN5.box, by decide⟩)
      clear hN5 hB5 hk5 hgS5 HC HK7 HK5 oS5 oW5 oH5 hB5e n6
      go_wp2_with fail
      clear b45 f45 b4' f4'
      generalize w5.setCell ⟨nb, 4, none⟩ (.slice (some ⟨gS5, 0, none⟩) S.length cS5) = w6 at *
      have hcw : W.length ≤ cW5 := by have := HW2.out.1; omega
      have hcw' : (W.length : Int) ≤ (cW5 : Int) := by omega
      have hch : W.length ≤ cH5 := by have := HH2.out.1; have := HHL.out; omega
      have hch' : (W.length : Int) ≤ (cH5 : Int) := by omega
      refine wp_region_each (fun ix uR => match ix with | 0 => uR = .pointer (some ⟨nb, 0, none⟩) | 1 => uR = .pointer (some ⟨nb, 0, none⟩) | 2 => uR = .pointer (some ⟨nb, 0, none⟩) | 3 => uR = .pointer (some ⟨nb, 0, none⟩) | 4 => uR = .pointer (some ⟨nb, 6, none⟩) | 5 => uR = .slice (some ⟨gW5, 0, none⟩) W2.length cW5 | 6 => uR = .int .i64 (W.length : Nat) | 7 => uR = .slice (some ⟨gW5, 0, none⟩) W.length cW5 | 8 => uR = .pointer (some ⟨nb, 0, none⟩) | 9 => uR = .pointer (some ⟨nb, 0, none⟩) | 10 => uR = .pointer (some ⟨nb, 7, none⟩) | 11 => uR = .slice (some ⟨gH5, 0, none⟩) H2.length cH5 | 12 => uR = .int .i64 (W.length : Nat) | 13 => uR = .slice (some ⟨gH5, 0, none⟩) W.length cH5 | 14 => uR = .pointer (some ⟨nb, 0, none⟩) | 15 => uR = .pointer (some ⟨nb, 6, none⟩) | 17 => uR = .pointer (some ⟨nb, 0, none⟩) | 18 => uR = .pointer (some ⟨nb, 7, none⟩) | _ => True) (Tw w6 nb P (some ⟨ba, oa, none⟩) n ca l (mkF (.slice (some ⟨gS5, 0, none⟩) S.length cS5) S uO [] (.slice (some ⟨gW5, 0, none⟩) W2.length cW5) W2 (.slice (some ⟨gH5, 0, none⟩) H2.length cH5) H2 uU []) ub u0 u1 B5 2 3 (fRes (.slice (some ⟨gW5, 0, none⟩) W2.length cW5) (.slice (some ⟨gW5, 0, none⟩) W.length cW5) W2.length (W2.map i64V)) (fRes (.slice (some ⟨gH5, 0, none⟩) H2.length cH5) (.slice (some ⟨gH5, 0, none⟩) W.length cH5) H2.length (H2.map i64V)) 90 16 94 91 19 95 (undef) (undef) [(16, 7), (7, 5), (19, 13), (13, 11)]) (by kernel_rfl) (by kernel_rfl) (by kernel_rfl) ?_ ?_ ?_
      · exact Tw.start N6.out rfl rfl
      · refine ⟨?_, ?_, ?_, ?_, ?_, ?_, ?_, ?_, ?_, ?_, ?_, ?_, ?_, ?_, ?_, ?_, ?_, ?_, ?_, ?_, trivial⟩
        · intro r a w' hf hg hW hr hd K hK
          refine wpOp_of rfl rfl ?_
          have e0 : a.tmps.getD 0 undef = .pointer (some ⟨nb, 0, none⟩) := hf.evalFree (by kernel_rfl)
          go_simp
          exact hK _ _ rfl (hW.upd 0 _ (by decide) (by decide))
        · intro r a w' hf hg hW hr hd K hK
          refine wpOp_of rfl rfl ?_
          have e0 : a.tmps.getD 0 undef = .pointer (some ⟨nb, 0, none⟩) := hf.evalFree (by kernel_rfl)
          go_simp
          exact hK _ _ rfl (hW.upd 1 _ (by decide) (by decide))
        · intro r a w' hf hg hW hr hd K hK
          refine wpOp_of rfl rfl ?_
          have e0 : a.tmps.getD 0 undef = .pointer (some ⟨nb, 0, none⟩) := hf.evalFree (by kernel_rfl)
          go_simp
          exact hK _ _ rfl (hW.upd 2 _ (by decide) (by decide))
        · intro r a w' hf hg hW hr hd K hK
          refine wpOp_of rfl rfl ?_
          refine hf.depE hg hd 2 105 (by kernel_rfl) fun u0 e0 g0 h0 => ?_
          replace g0 : u0 = .pointer (some ⟨nb, 0, none⟩) := g0
          subst g0
          go_simp
          exact hK _ _ rfl (hW.upd 3 _ (by decide) (by decide))
        · intro r a w' hf hg hW hr hd K hK
          refine wpOp_of rfl rfl ?_
          refine hf.depE hg hd 3 106 (by kernel_rfl) fun u0 e0 g0 h0 => ?_
          replace g0 : u0 = .pointer (some ⟨nb, 0, none⟩) := g0
          subst g0
          go_simp
          exact hK _ _ rfl (hW.upd 4 _ (by decide) (by decide))
        · intro r a w' hf hg hW hr hd K hK
          refine wpOp_of rfl rfl ?_
          refine hf.depE hg hd 4 107 (by kernel_rfl) fun u0 e0 g0 h0 => ?_
          replace g0 : u0 = .pointer (some ⟨nb, 6, none⟩) := g0
          subst g0
          have hs0 : r 16 = none := hW.back (x := 16) (y := 7) (by decide) (hW.back (x := 7) (y := 5) (by decide) hr)
          have z0 := hW.cell 6 (v := .slice (some ⟨gW5, 0, none⟩) W2.length cW5) (by rw [hs0]; rfl)
          go_simp
          exact hK _ _ rfl (hW.upd 5 _ (by decide) (by decide))
        · intro r a w' hf hg hW hr hd K hK
          refine wpOp_of rfl rfl ?_
          have e0 : a.tmps.getD 5 undef = .int .i64 (W.length : Nat) := hf.evalFree (by kernel_rfl)
          go_simp
          exact hK _ _ rfl (hW.upd 6 _ (by decide) (by decide))
        · intro r a w' hf hg hW hr hd K hK
          refine wpOp_of rfl rfl ?_
          refine hf.depE hg hd 5 108 (by kernel_rfl) fun u0 e0 g0 h0 => ?_
          replace g0 : u0 = .slice (some ⟨gW5, 0, none⟩) W2.length cW5 := g0
          subst g0
          refine hf.depE hg hd 6 109 (by kernel_rfl) fun u1 e1 g1 h1 => ?_
          replace g1 : u1 = .int .i64 (W.length : Nat) := g1
          subst g1
          go_simp
          exact hK _ _ rfl (hW.updL 7 _ (by decide) (by intro c hc e; simp only [List.mem_cons, List.not_mem_nil, or_false] at hc; rcases hc with rfl | rfl | rfl | rfl <;> first | (exact absurd e (by decide)) | (rw [h0]; simp)))
        · intro r a w' hf hg hW hr hd K hK
          refine wpOp_of rfl rfl ?_
          have e0 : a.tmps.getD 0 undef = .pointer (some ⟨nb, 0, none⟩) := hf.evalFree (by kernel_rfl)
          go_simp
          exact hK _ _ rfl (hW.upd 8 _ (by decide) (by decide))
        · intro r a w' hf hg hW hr hd K hK
          refine wpOp_of rfl rfl ?_
          refine hf.depE hg hd 8 111 (by kernel_rfl) fun u0 e0 g0 h0 => ?_
          replace g0 : u0 = .pointer (some ⟨nb, 0, none⟩) := g0
          subst g0
          go_simp
          exact hK _ _ rfl (hW.upd 9 _ (by decide) (by decide))
        · intro r a w' hf hg hW hr hd K hK
          refine wpOp_of rfl rfl ?_
          refine hf.depE hg hd 9 112 (by kernel_rfl) fun u0 e0 g0 h0 => ?_
          replace g0 : u0 = .pointer (some ⟨nb, 0, none⟩) := g0
          subst g0
          go_simp
          exact hK _ _ rfl (hW.upd 10 _ (by decide) (by decide))
        · intro r a w' hf hg hW hr hd K hK
          refine wpOp_of rfl rfl ?_
          refine hf.depE hg hd 10 113 (by kernel_rfl) fun u0 e0 g0 h0 => ?_
          replace g0 : u0 = .pointer (some ⟨nb, 7, none⟩) := g0
          subst g0
          have hs0 : r 19 = none := hW.back (x := 19) (y := 13) (by decide) (hW.back (x := 13) (y := 11) (by decide) hr)
          have z0 := hW.cell 7 (v := .slice (some ⟨gH5, 0, none⟩) H2.length cH5) (by rw [hs0]; rfl)
          go_simp
          exact hK _ _ rfl (hW.upd 11 _ (by decide) (by decide))
        · intro r a w' hf hg hW hr hd K hK
          refine wpOp_of rfl rfl ?_
          have e0 : a.tmps.getD 5 undef = .int .i64 (W.length : Nat) := hf.evalFree (by kernel_rfl)
          go_simp
          exact hK _ _ rfl (hW.upd 12 _ (by decide) (by decide))
        · intro r a w' hf hg hW hr hd K hK
          refine wpOp_of rfl rfl ?_
          refine hf.depE hg hd 11 114 (by kernel_rfl) fun u0 e0 g0 h0 => ?_
          replace g0 : u0 = .slice (some ⟨gH5, 0, none⟩) H2.length cH5 := g0
          subst g0
          refine hf.depE hg hd 12 115 (by kernel_rfl) fun u1 e1 g1 h1 => ?_
          replace g1 : u1 = .int .i64 (W.length : Nat) := g1
          subst g1
          go_simp
          exact hK _ _ rfl (hW.updL 13 _ (by decide) (by intro c hc e; simp only [List.mem_cons, List.not_mem_nil, or_false] at hc; rcases hc with rfl | rfl | rfl | rfl <;> first | (exact absurd e (by decide)) | (rw [h0]; simp)))
        · intro r a w' hf hg hW hr hd K hK
          refine wpOp_of rfl rfl ?_
          refine hf.depE hg hd 0 103 (by kernel_rfl) fun u0 e0 g0 h0 => ?_
          replace g0 : u0 = .pointer (some ⟨nb, 0, none⟩) := g0
          subst g0
          go_simp
          exact hK _ _ rfl (hW.upd 14 _ (by decide) (by decide))
        · intro r a w' hf hg hW hr hd K hK
          refine wpOp_of rfl rfl ?_
          refine hf.depE hg hd 14 117 (by kernel_rfl) fun u0 e0 g0 h0 => ?_
          replace g0 : u0 = .pointer (some ⟨nb, 0, none⟩) := g0
          subst g0
          go_simp
          exact hK _ _ rfl (hW.upd 15 _ (by decide) (by decide))
        · intro r a w' hf hg hW hr hd K hK
          refine wpOp_of rfl rfl ?_
          refine hf.depE hg hd 15 118 (by kernel_rfl) fun u0 e0 g0 h0 => ?_
          replace g0 : u0 = .pointer (some ⟨nb, 6, none⟩) := g0
          subst g0
          refine hf.depE hg hd 7 110 (by kernel_rfl) fun u1 e1 g1 h1 => ?_
          replace g1 : u1 = .slice (some ⟨gW5, 0, none⟩) W.length cW5 := g1
          subst g1
          obtain ⟨old, y0⟩ := hW.old (c := 6) (by decide)
          have y1 := hW.free 6
          go_simp
          exact hK undef _ trivial (hW.putRes (by decide) (by decide) (by intro c hc e; simp only [List.mem_cons, List.not_mem_nil, or_false] at hc; rcases hc with rfl | rfl | rfl | rfl <;> first | (exact absurd e (by decide)) | (rw [h1]; simp)) undef)
        · intro r a w' hf hg hW hr hd K hK
          refine wpOp_of rfl rfl ?_
          refine hf.depE hg hd 1 104 (by kernel_rfl) fun u0 e0 g0 h0 => ?_
          replace g0 : u0 = .pointer (some ⟨nb, 0, none⟩) := g0
          subst g0
          go_simp
          exact hK _ _ rfl (hW.upd 17 _ (by decide) (by decide))
        · intro r a w' hf hg hW hr hd K hK
          refine wpOp_of rfl rfl ?_
          refine hf.depE hg hd 17 119 (by kernel_rfl) fun u0 e0 g0 h0 => ?_
          replace g0 : u0 = .pointer (some ⟨nb, 0, none⟩) := g0
          subst g0
          go_simp
          exact hK _ _ rfl (hW.upd 18 _ (by decide) (by decide))
        · intro r a w' hf hg hW hr hd K hK
          refine wpOp_of rfl rfl ?_
          refine hf.depE hg hd 18 120 (by kernel_rfl) fun u0 e0 g0 h0 => ?_
          replace g0 : u0 = .pointer (some ⟨nb, 7, none⟩) := g0
          subst g0
          refine hf.depE hg hd 13 116 (by kernel_rfl) fun u1 e1 g1 h1 => ?_
          replace g1 : u1 = .slice (some ⟨gH5, 0, none⟩) W.length cH5 := g1
          subst g1
          obtain ⟨old, y0⟩ := hW.old (c := 7) (by decide)
          have y1 := hW.free 7
          go_simp
          exact hK undef _ trivial (((hW.swap (by decide)).putRes (by decide) (by decide) (by intro c hc e; simp only [List.mem_cons, List.not_mem_nil, or_false] at hc; rcases hc with rfl | rfl | rfl | rfl <;> first | (exact absurd e (by decide)) | (rw [h1]; simp)) undef).swap (by decide))
      intro r' w8 hg hW hr'
      simp only [List.length_cons, List.length_nil, Nat.reduceAdd, List.range_succ, List.range_zero, List.nil_append, List.cons_append, List.map_cons, List.map_nil, putAll, Act.put, List.setIfInBounds_toArray, List.set_cons_succ, List.set_cons_zero]
      have n9 := hW.nw
      rw [fRes_fin (hr' 16 (by decide))] at n9
      rw [fRes_fin (hr' 19 (by decide))] at n9
      have k9 := hW.kp
      clear hg hW hr'
      have HK8 := Lib.hid (sn_tr HK6.out k9)
      have n10 := n9.short (p := 2) (by decide) rfl (own_take (show w8.ownsRow (nb + 1) 2 1 (.slice (some ⟨gW5, 0, none⟩) W2.length cW5) W2.length (W2.map i64V) from n9.own 2 (by decide)) (k := W.length) (by have := HW2.out.1; omega)) rfl
      have n11 := n10.short (p := 3) (by decide) rfl (own_take (show w8.ownsRow (nb + 1) 2 1 (.slice (some ⟨gH5, 0, none⟩) H2.length cH5) H2.length (H2.map i64V) from n9.own 3 (by decide)) (k := W.length) (by have := HH2.out.1; have := HHL.out; omega)) rfl
      have N8 := Lib.hid (show NSt nb P (some ⟨ba, oa, none⟩) n ca l S [] W H [] B5 w8 from ⟨.slice (some ⟨gS5, 0, none⟩) S.length cS5, uO, .slice (some ⟨gW5, 0, none⟩) W.length cW5, .slice (some ⟨gH5, 0, none⟩) W.length cH5, uU, ub, u0, u1, n11.congr (fun j hj => by
        match j, hj with
        | 0, _ => rfl
        | 1, _ => rfl
        | 2, _ => simp [F2, setF, mkF, HW2.out.2]
        | 3, _ => simp [F2, setF, mkF, HH2.out.2, ← HHL.out]
        | 4, _ => rfl)⟩)
      clear n9 k9 n10 n11 N6
      go_wp2_with fail
      refine bodyPost_ret (results_none rfl _ _ _) rfl ?_
      exact ⟨rfl, by rw [HSF.out]; exact N8.out, by rw [HSF.out]; exact HB5.out, sn_tr HKA.out HK8.out⟩
theorem shelves_any (P : Pt) (A : Option Addr) (n ca : Nat) (l : List Ct) (nb : Nat) : ∀ (m : Nat) (S : List Nat) (W H : List Int) (B : Bst) (w : World), n - S.length = m → NSt nb P A n ca l S [] W H [] B w → SOk P n l S W H → BOk B →
    Calls Try.prog 28 #[.pointer (some ⟨nb, 0, none⟩), .int .i64 (S.length : Nat)] w fun e w' => e = .returned (.tuple #[]) ∧ NSt nb P A n ca l S [] W H [] (HF P l S W H B) w' ∧ BOk (HF P l S W H B) ∧ Kp (Sn nb w) w w' := by
  intro m
  induction m with
  | zero => exact fun S W H B w hm hN hK hB => shelves_end P A n ca l S W H B nb w hN hK hB (by have := hK.sl; omega)
  | succ m ih => exact fun S W H B w hm hN hK hB => shelves_step P A n ca l S W H B nb w (fun S' W' H' B' w' h1 h2 h3 h4 => ih S' W' H' B' w' (by omega) h2 h3 h4) hN hK hB (by omega)
end Go.Proofs.Ytamjhpdgclbfgaa
