/- Chapter 27: the reference's History: the walk. Printed by gen_rhi.py. -/
import Derived.Test.YtjbpdimepckmfaaXHisP
import Derived.Test.YtjbpdimepckmfaaXRud
import Derived.Test.YtjbpdimepckmfaaXPlc
import Derived.Test.YtjbpdimepckmfaaXLibStopM
import Derived.Test.YtjbpdimepckmfaaXLibStiM
import Derived.Test.YtjbpdimepckmfaaXLibHvM
namespace Go.Proofs.Ytjbpdimepckmfaa
open Go.RowKit Go.Kq

theorem set_same {α : Type} {l : List α} {i : Nat} {x : α} (h : l[i]? = some x) : l.set i x = l := by
  apply List.ext_getElem?
  intro j
  rw [List.getElem?_set]
  by_cases e : i = j
  · subst e
    rw [if_pos rfl, h]
    split
    · rfl
    · rename_i hh
      exact absurd (List.getElem?_eq_some_iff.1 h).1 hh
  · rw [if_neg e]
theorem rokP_ep (p : Pp) (w : World) : Calls Try.prog 72 #[ep p] w fun e w' => e = .returned (.bool (okP p.1 p.2)) ∧ Kp No w w' := rpipe_any p.1 p.2 w
set_option maxHeartbeats 6000000 in
set_option maxRecDepth 100000 in
theorem rHistory_any (A : Option Addr) (n ca : Nat) (l : List Wk) (p : Pp) (w : World) (hx : RdW w A n l) (hf : Fits l) (hca : n ≤ ca) :
    Calls Try.prog 37 #[.slice A n ca, ep p] w fun e w' => ∃ v, e = .returned (.tuple #[v, .int .i64 (hisE l p)]) ∧ w'.ownsRow w.heap.size 3 1 v (hisV l p).length ((hisV l p).map (Value.int .i64)) ∧ Kp No w w' := by
  obtain ⟨i0, hi0, hz0, hz1, hz2⟩ := info_parts info3
  have HC := Lib.hid (fun w' (k : Kp No w w') => rCheck_any A n ca l w' (hx.no k) hf hca)
  have HX := Lib.hid hx
  clear hx hf
  simp only [ep]
  by_cases h1 : chkL l = 0
  rotate_left
  · have q1 : (chkL l != 0) = true := by rw [bne_iff_ne]; exact h1
    have HE := Lib.hid (show hisE l p = chkL l from if_pos h1)
    have HV := Lib.hid (show hisV l p = [] by unfold hisV; rw [HE.out, if_neg h1])
    rw [HE.out]
    generalize chkL l = x at HC q1 ⊢
    clear h1 HE
    go_enter Try.func37, Try.ntmps37
    go_wp2_with fail
    have hk0 : Kp No w (w.alloc (.cells #[.int .i64 p.1, .int .i64 p.2] 39)) := Kp.alloc _ _ _
    generalize w.alloc (.cells #[.int .i64 p.1, .int .i64 p.2] 39) = w0 at hk0 ⊢
    with_reducible refine (HC.out w0 hk0).mono ?_
    rintro e w1 ⟨rfl, hk1⟩
    go_wp2_with fail
    refine bodyPost_ret (v := .tuple #[.slice none 0 0, .int .i64 x]) (by simp [results, Try.results37, go_sem]) rfl ⟨.slice none 0 0, rfl, by rw [HV.out]; exact ⟨rfl, .inl ⟨rfl, rfl⟩⟩, hk0.tr hk1⟩
  have HR := Lib.hid (rec_of h1)
  have HL := Lib.hid HX.out.1
  have hn : n ≤ 400 := by rw [← HL.out]; exact HR.out.len
  have HE0 := Lib.hid (show hisE l p = if okP p.1 p.2 then 0 else 2 by unfold hisE; rw [if_neg (by rw [h1]; simp)])
  rw [h1] at HC
  clear h1
  have HPA := Lib.hid (fun w' => rokP_ep p w')
  cases hok : okP p.1 p.2 with
  | false =>
    have HE := Lib.hid (show hisE l p = 2 by rw [HE0.out, hok]; rfl)
    have HV := Lib.hid (show hisV l p = [] by unfold hisV; rw [HE.out]; rfl)
    rw [HE.out]
    rw [hok] at HPA
    clear HE HE0 hok
    go_enter Try.func37, Try.ntmps37
    go_wp2_with fail
    have hk0 : Kp No w (w.alloc (.cells #[.int .i64 p.1, .int .i64 p.2] 39)) := Kp.alloc _ _ _
    have hbx : (w.alloc (.cells #[.int .i64 p.1, .int .i64 p.2] 39)).heap[w.heap.size]? = some (.cells #[.int .i64 p.1, .int .i64 p.2] 39 (0, 0)) := heap_alloc_new _ _
    generalize w.alloc (.cells #[.int .i64 p.1, .int .i64 p.2] 39) = w0 at hk0 hbx ⊢
    obtain ⟨gp, hgp⟩ : ∃ gp, gp = w.heap.size := ⟨_, rfl⟩
    rw [← hgp] at hbx ⊢
    with_reducible refine (HC.out w0 hk0).mono ?_
    rintro e w1 ⟨rfl, hk1⟩
    have hbx1 := hk1.heap hbx id
    have b0 : w1.cell? ⟨gp, 0, none⟩ = some (.int .i64 p.1) := by rw [cell_of_row _ _ _ _ _ _ hbx1]; rfl
    have b1 : w1.cell? ⟨gp, 1, none⟩ = some (.int .i64 p.2) := by rw [cell_of_row _ _ _ _ _ _ hbx1]; rfl
    clear hbx hbx1 hgp
    go_wp2_with fail
    change Calls _ _ #[ep p] _ _
    with_reducible refine (HPA.out w1).mono ?_
    rintro e w2 ⟨rfl, hk2⟩
    go_wp2_with fail
    refine bodyPost_ret (v := .tuple #[.slice none 0 0, .int .i64 2]) (by simp [results, Try.results37, go_sem]) rfl ⟨.slice none 0 0, rfl, by rw [HV.out]; exact ⟨rfl, .inl ⟨rfl, rfl⟩⟩, (hk0.tr hk1).tr hk2⟩
  | true =>
  have HE := Lib.hid (show hisE l p = 0 by rw [HE0.out, hok]; rfl)
  have HV := Lib.hid (show hisV l p = (hisS l p n).2 by unfold hisV; rw [HE.out, HL.out]; rfl)
  rw [HE.out]
  rw [hok] at HPA
  have hmk := fun w => make_bools n (by omega) w
  clear HE HE0 hok
  go_enter Try.func37, Try.ntmps37
  go_wp2_with fail
  have hk0 : Kp No w (w.alloc (.cells #[.int .i64 p.1, .int .i64 p.2] 39)) := Kp.alloc _ _ _
  have hbx : (w.alloc (.cells #[.int .i64 p.1, .int .i64 p.2] 39)).heap[w.heap.size]? = some (.cells #[.int .i64 p.1, .int .i64 p.2] 39 (0, 0)) := heap_alloc_new _ _
  generalize w.alloc (.cells #[.int .i64 p.1, .int .i64 p.2] 39) = w0 at hk0 hbx ⊢
  obtain ⟨gp, hgp⟩ : ∃ gp, gp = w.heap.size := ⟨_, rfl⟩
  rw [← hgp] at hbx ⊢
  have HGP := Lib.hid hgp
  clear hgp
  with_reducible refine (HC.out w0 hk0).mono ?_
  rintro e w1 ⟨rfl, hk1⟩
  have hbx1 := hk1.heap hbx id
  have b0 : w1.cell? ⟨gp, 0, none⟩ = some (.int .i64 p.1) := by rw [cell_of_row _ _ _ _ _ _ hbx1]; rfl
  have b1 : w1.cell? ⟨gp, 1, none⟩ = some (.int .i64 p.2) := by rw [cell_of_row _ _ _ _ _ _ hbx1]; rfl
  go_wp2_with fail
  change Calls _ _ #[ep p] _ _
  with_reducible refine (HPA.out w1).mono ?_
  rintro e w2 ⟨rfl, hk2⟩
  have hk02 := (hk0.tr hk1).tr hk2
  have HBX2 := Lib.hid (hk2.heap hbx1 id)
  have hgl := (Array.getElem?_eq_some_iff.1 HBX2.out).1
  clear hbx hbx1 b0 b1 hk0 hk1 hk2 HPA HC
  go_wp2_with fail
  obtain ⟨w3, hw3⟩ : ∃ w3, w3 = w2.alloc (.cells (List.replicate n (Value.bool false)).toArray 4) := ⟨_, rfl⟩
  have hown : w3.ownsRow w2.heap.size 4 1 (.slice (some ⟨w2.heap.size, 0, none⟩) n n) n ((hisR l p n 0).map Value.bool) := by
    rw [hw3, hisR_zero, List.map_replicate]
    exact own_made w2 (by simp) (Nat.le_refl _) (by unfold maxLen; omega)
  have hkN : Kp No w2 w3 := by rw [hw3]; exact Kp.alloc _ _ _
  have hG3 : w2.heap.size < w3.heap.size := by rw [hw3]; simp
  simp only [List.toArray_replicate] at hw3
  rw [← hw3]
  obtain ⟨G, hG⟩ : ∃ G, G = w2.heap.size := ⟨_, rfl⟩
  rw [← hG] at hown hG3 hgl ⊢
  have hwG : w.heap.size ≤ G := by rw [hG]; exact hk02.size
  have hkw3 := hk02.tr hkN
  have HB3 := Lib.hid (hkN.heap HBX2.out id)
  have HOG := Lib.hid hown
  clear hown hkN hmk HBX2 hw3 hG
  go_loopw [8, 9] (fun vo vi wr => ∃ i : Nat, i ≤ n ∧ vi = .int .i64 i ∧ wr.ownsRow G 4 1 (.slice (some ⟨G, 0, none⟩) n n) n ((hisR l p n i).map Value.bool) ∧ wr.ownsRow w3.heap.size 3 1 vo (hisS l p i).2.length ((hisS l p i).2.map (Value.int .i64)) ∧ Kp (Kq.One G) w3 wr) (fun _ vi _ => n - (intOf vi).toNat)
  case atStart => exact ⟨0, by omega, rfl, HOG.out, ⟨rfl, .inl ⟨rfl, rfl⟩⟩, Kp.refl _ _⟩
  case round =>
    obtain ⟨i, hi, rfl, hog, hoo, hkp⟩ := hrel
    have HOGi := Lib.hid hog
    have HOO := Lib.hid hoo
    have hM0 := (hisS_len l p i).2
    obtain ⟨M, hM⟩ : ∃ M, M = (hisS l p i).2.length := ⟨_, rfl⟩
    rw [← hM] at HOO hM0
    have HM := Lib.hid hM
    obtain ⟨ao, co, rfl, _, _, _⟩ := own_form HOO.out
    have hkwr : Kp No w wr := hkw3.trans hkp fun j hj e => by have e : j = G := e; omega
    have HBR := Lib.hid (hkp.heap HB3.out fun e => by have e : gp = G := e; omega)
    clear hog hoo hM HOG
    by_cases hlt : i < n
    · obtain ⟨v, hv⟩ : ∃ v, l[i]? = some v := ⟨_, List.getElem?_eq_getElem (by rw [HL.out]; omega)⟩
      obtain ⟨b, o, rfl, _, c0, c1, c2, c3, c4, c5, c6, c7, c8, c9, c10⟩ := RdW.at_ (HX.out.no hkwr) hv
      have HBB := Lib.hid (show hisB l p (hisS l p i).1 i = if v.kd = 4 then (match tgt l i with | some k => (hisS l p i).1.getD k false | none => false) else decide (v.pp = p) by unfold hisB; rw [hv]; rfl)
      have HVV := Lib.hid hv
      have HSET := Lib.hid (hisR_set l p hlt)
      have HS2 := Lib.hid (show (hisS l p (i + 1)).2 = (hisS l p i).2 ++ if hisB l p (hisS l p i).1 i then [(i : Int)] else [] from rfl)
      have hin : (i : Int) < (n : Int) := by omega
      have ga : wr.cell? ⟨G, i, none⟩ = some (.bool false) := own_cell HOGi.out (by rw [List.getElem?_map, hisR_at l p hlt]; rfl)
      have gf : wr.frozen? ⟨G, i, none⟩ = false := own_free HOGi.out i
      have hbr := HBR.out
      have b0 : wr.cell? ⟨gp, 0, none⟩ = some (.int .i64 p.1) := by rw [cell_of_row _ _ _ _ _ _ hbr]; rfl
      have b1 : wr.cell? ⟨gp, 1, none⟩ = some (.int .i64 p.2) := by rw [cell_of_row _ _ _ _ _ _ hbr]; rfl
      have hgpG : gp ≠ G := by omega
      have hbG : b ≠ G := fun e => by
        obtain ⟨b2, o2, h5, h6, _⟩ := HX.out.2 i v HVV.out
        cases h5
        omega
      clear hv hbr
      by_cases h4 : v.kd = 4
      · have p4 : (v.kd == 4) = true := by rw [beq_iff_eq]; exact h4
        have p4' : (v.kd != 4) = false := by rw [h4]; rfl
        rw [if_pos h4] at HBB
        have HTI := Lib.hid (tgtI_find HR.out.names HVV.out h4)
        clear h4
        go_wp2_with fail
        refine wp_region_each (fun ix uR => match ix with | 0 => uR = .slice (some ⟨G, 0, none⟩) n n | 1 => uR = .int .i64 (i : Int) | 2 => uR = .slice (some ⟨b, o, none⟩) n ca | 3 => uR = .int .i64 (i : Int) | 4 => uR = .pointer (some ⟨b, o + i * 11, none⟩) | 5 => uR = .pointer (some ⟨b, o + i * 11 + 3, none⟩) | 6 => uR = .int .i64 v.kd | 7 => uR = .bool false | 8 => uR = .bool false | 9 => uR = undef | 10 => uR = undef | 11 => uR = undef | 12 => uR = undef | 13 => uR = undef | 14 => uR = undef | 15 => uR = undef | 16 => uR = .bool false | 17 => uR = .pointer (some ⟨G, i, none⟩) | _ => True) (StI wr (⟨G, i, none⟩) (.bool false) 18 16 8) (by kernel_rfl) (by kernel_rfl) (by kernel_rfl) ?_ ?_ ?_
        · exact StI.start _ _ _ _ _ _
        · refine ⟨?_, ?_, ?_, ?_, ?_, ?_, ?_, ?_, ?_, ?_, ?_, ?_, ?_, ?_, ?_, ?_, ?_, ?_, ?_, trivial⟩
          · intro r a w' hf hg hW hr hd K hK
            refine wpOp_of rfl rfl ?_
            have e0 : a.tmps.getD 7 undef = .slice (some ⟨G, 0, none⟩) n n := hf.evalFree (by kernel_rfl)
            go_simp
            exact hK _ _ rfl (hW.upd 0 _ (by decide) (by decide))
          · intro r a w' hf hg hW hr hd K hK
            refine wpOp_of rfl rfl ?_
            have e0 : a.tmps.getD 9 undef = .int .i64 (i : Int) := hf.evalFree (by kernel_rfl)
            go_simp
            exact hK _ _ rfl (hW.upd 1 _ (by decide) (by decide))
          · intro r a w' hf hg hW hr hd K hK
            refine wpOp_of rfl rfl ?_
            have e0 : a.tmps.getD 0 undef = .slice (some ⟨b, o, none⟩) n ca := hf.evalFree (by kernel_rfl)
            go_simp
            exact hK _ _ rfl (hW.upd 2 _ (by decide) (by decide))
          · intro r a w' hf hg hW hr hd K hK
            refine wpOp_of rfl rfl ?_
            have e0 : a.tmps.getD 9 undef = .int .i64 (i : Int) := hf.evalFree (by kernel_rfl)
            go_simp
            exact hK _ _ rfl (hW.upd 3 _ (by decide) (by decide))
          · intro r a w' hf hg hW hr hd K hK
            refine wpOp_of rfl rfl ?_
            refine hf.depE hg hd 2 30 (by kernel_rfl) fun u0 e0 g0 h0 => ?_
            replace g0 : u0 = .slice (some ⟨b, o, none⟩) n ca := g0
            subst g0
            refine hf.depE hg hd 3 31 (by kernel_rfl) fun u1 e1 g1 h1 => ?_
            replace g1 : u1 = .int .i64 (i : Int) := g1
            subst g1
            go_simp
            exact hK _ _ rfl (hW.upd 4 _ (by decide) (by decide))
          · intro r a w' hf hg hW hr hd K hK
            refine wpOp_of rfl rfl ?_
            refine hf.depE hg hd 4 32 (by kernel_rfl) fun u0 e0 g0 h0 => ?_
            replace g0 : u0 = .pointer (some ⟨b, o + i * 11, none⟩) := g0
            subst g0
            go_simp
            exact hK _ _ rfl (hW.upd 5 _ (by decide) (by decide))
          · intro r a w' hf hg hW hr hd K hK
            refine wpOp_of rfl rfl ?_
            refine hf.depE hg hd 5 33 (by kernel_rfl) fun u0 e0 g0 h0 => ?_
            replace g0 : u0 = .pointer (some ⟨b, o + i * 11 + 3, none⟩) := g0
            subst g0
            have z0 := hW.at_ c3 hbG
            go_simp
            exact hK _ _ rfl (hW.upd 6 _ (by decide) (by decide))
          · intro r a w' hf hg hW hr hd K hK
            refine wpOp_of rfl rfl ?_
            refine hf.depE hg hd 6 34 (by kernel_rfl) fun u0 e0 g0 h0 => ?_
            replace g0 : u0 = .int .i64 v.kd := g0
            subst g0
            go_simp
            exact hK _ _ rfl (hW.upd 7 _ (by decide) (by decide))
          · intro r a w' hf hg hW hr hd K hK
            refine wpOp_of rfl rfl ?_
            refine hf.depE hg hd 7 35 (by kernel_rfl) fun u0 e0 g0 h0 => ?_
            replace g0 : u0 = .bool false := g0
            subst g0
            go_simp
            exact hK _ _ rfl (hW.upd 8 _ (by decide) (by decide))
          · intro r a w' hf hg hW hr hd K hK
            refine hf.depE hg hd 8 36 (by kernel_rfl) fun uG eG gG _ => ?_
            replace gG : uG = .bool false := gG
            subst gG
            refine wpOp_skip rfl rfl rfl rfl eG (by decide) ?_
            exact hK _ _ rfl (hW.upd 9 _ (by decide) (by decide))
          · intro r a w' hf hg hW hr hd K hK
            refine hf.depE hg hd 8 36 (by kernel_rfl) fun uG eG gG _ => ?_
            replace gG : uG = .bool false := gG
            subst gG
            refine wpOp_skip rfl rfl rfl rfl eG (by decide) ?_
            exact hK _ _ rfl (hW.upd 10 _ (by decide) (by decide))
          · intro r a w' hf hg hW hr hd K hK
            refine hf.depE hg hd 8 36 (by kernel_rfl) fun uG eG gG _ => ?_
            replace gG : uG = .bool false := gG
            subst gG
            refine wpOp_skip rfl rfl rfl rfl eG (by decide) ?_
            exact hK _ _ rfl (hW.upd 11 _ (by decide) (by decide))
          · intro r a w' hf hg hW hr hd K hK
            refine hf.depE hg hd 8 36 (by kernel_rfl) fun uG eG gG _ => ?_
            replace gG : uG = .bool false := gG
            subst gG
            refine wpOp_skip rfl rfl rfl rfl eG (by decide) ?_
            exact hK _ _ rfl (hW.upd 12 _ (by decide) (by decide))
          · intro r a w' hf hg hW hr hd K hK
            refine hf.depE hg hd 8 36 (by kernel_rfl) fun uG eG gG _ => ?_
            replace gG : uG = .bool false := gG
            subst gG
            refine wpOp_skip rfl rfl rfl rfl eG (by decide) ?_
            exact hK _ _ rfl (hW.upd 13 _ (by decide) (by decide))
          · intro r a w' hf hg hW hr hd K hK
            refine hf.depE hg hd 8 36 (by kernel_rfl) fun uG eG gG _ => ?_
            replace gG : uG = .bool false := gG
            subst gG
            refine wpOp_skip rfl rfl rfl rfl eG (by decide) ?_
            exact hK _ _ rfl (hW.upd 14 _ (by decide) (by decide))
          · intro r a w' hf hg hW hr hd K hK
            refine hf.depE hg hd 8 36 (by kernel_rfl) fun uG eG gG _ => ?_
            replace gG : uG = .bool false := gG
            subst gG
            refine wpOp_skip rfl rfl rfl rfl eG (by decide) ?_
            exact hK _ _ rfl (hW.upd 15 _ (by decide) (by decide))
          · intro r a w' hf hg hW hr hd K hK
            refine wpOp_of rfl rfl ?_
            refine hf.depE hg hd 8 36 (by kernel_rfl) fun u0 e0 g0 h0 => ?_
            replace g0 : u0 = .bool false := g0
            subst g0
            have e0' := get_of_getD e0
            refine hf.depE hg hd 15 43 (by kernel_rfl) fun u1 e1 g1 h1 => ?_
            replace g1 : u1 = undef := g1
            subst g1
            have e1' := get_of_getD e1
            have HDEP : r 8 ≠ none := by rw [h0]; simp
            go_simp
            exact hK _ _ rfl (hW.updA _ (by decide) HDEP)
          · intro r a w' hf hg hW hr hd K hK
            refine wpOp_of rfl rfl ?_
            refine hf.depE hg hd 0 28 (by kernel_rfl) fun u0 e0 g0 h0 => ?_
            replace g0 : u0 = .slice (some ⟨G, 0, none⟩) n n := g0
            subst g0
            refine hf.depE hg hd 1 29 (by kernel_rfl) fun u1 e1 g1 h1 => ?_
            replace g1 : u1 = .int .i64 (i : Int) := g1
            subst g1
            go_simp
            exact hK _ _ rfl (hW.upd 17 _ (by decide) (by decide))
          · intro r a w' hf hg hW hr hd K hK
            refine wpOp_of rfl rfl ?_
            refine hf.depE hg hd 17 45 (by kernel_rfl) fun u0 e0 g0 h0 => ?_
            replace g0 : u0 = .pointer (some ⟨G, i, none⟩) := g0
            subst g0
            refine hf.depE hg hd 16 44 (by kernel_rfl) fun u1 e1 g1 h1 => ?_
            replace g1 : u1 = .bool false := g1
            subst g1
            have hw' := hW.b0 hr
            subst hw'
            have p1 : wr.drew.cell? ⟨G, i, none⟩ = some (.bool false) := ga
            have p2 : wr.drew.frozen? ⟨G, i, none⟩ = false := gf
            go_simp
            exact hK undef _ trivial (hW.store hr (by decide) (by decide) (by rw [h1]; simp) _)
        intro r' w4 hg hW hr'
        have hwE := hW.b1 (hr' 18 (by decide))
        simp only [List.length_cons, List.length_nil, Nat.reduceAdd, List.range_succ, List.range_zero, List.nil_append, List.cons_append, List.map_cons, List.map_nil, putAll, Act.put, List.setIfInBounds_toArray, List.set_cons_succ, List.set_cons_zero]
        clear hg hW hr'
        have hkd : Kp (Kq.One G) wr w4 := by rw [hwE]; exact (Kp.drew _ _).tr (kp_setOne _ _ _ _)
        have hog4 : w4.ownsRow G 4 1 (.slice (some ⟨G, 0, none⟩) n n) n ((hisR l p n i).map Value.bool) := by
          have h := own_set ((Kp.drew No wr).owns HOGi.out fun _ _ h => h) i (.bool false)
          rw [← List.map_set, set_same (hisR_at l p hlt)] at h
          rw [hwE]
          exact h
        have HOG4 := Lib.hid hog4
        have HOO4 := Lib.hid (hkd.owns HOO.out fun x hx e => by have e : x = G := e; have := (own_ge HOO.out hx).1; omega)
        have hkp4 := hkp.tr hkd
        clear c0 c1 c2 c3 c4 c5 c6 c7 c8 c9 c10 ga gf b0 b1 hog4 hkd hwE
        have hkw4 : Kp No w w4 := hkw3.trans hkp4 fun j hj e => by have e : j = G := e; omega
        obtain ⟨b', o', hbo, _, c0, c1, c2, c3, c4, c5, c6, c7, c8, c9, c10⟩ := RdW.at_ (HX.out.no hkw4) HVV.out
        cases hbo
        have HFD := Lib.hid (fun w' (k : Kp No w4 w') => rfind_any (some ⟨b, o, none⟩) i ca (l.take i) v.ow v.on w' (RdW.take (HX.out.no (hkw4.tr k)) (by omega)) (by omega))
        have KD := Lib.hid (fun k : Nat => Kp.drewN No w4 k)
        have hic : i ≤ ca := by omega
        rw [show findI (l.take i) (v.ow, v.on) = tgtI l i from HTI.out] at HFD
        obtain ⟨ti, hti⟩ : ∃ ti, ti = tgtI l i := ⟨_, rfl⟩
        rw [← hti] at HFD
        have HT := Lib.hid hti
        clear hti
        go_wp2_with fail
        go_quiet (first | (go_at_call 57; with_reducible exact Calls.quiet_of_same (HFD.out _ (KD.out _))))
        have hkq := Kp.drewN No w4 nq
        have HOG5 := Lib.hid (hkq.owns HOG4.out fun _ _ h => h)
        have HOO5 := Lib.hid (hkq.owns HOO4.out fun _ _ h => h)
        have hkp5 := hkp4.no hkq
        clear c0 c1 c2 c3 c4 c5 c6 c7 c8 c9 c10 HFD KD hkq HOG4 HOO4 hkp4 hkw4
        generalize w4.drewN nq = w5 at hkp5 HOG5 HOO5 ⊢
        have ga5 : w5.cell? ⟨G, i, none⟩ = some (.bool false) := own_cell HOG5.out (by rw [List.getElem?_map, hisR_at l p hlt]; rfl)
        have gf5 : w5.frozen? ⟨G, i, none⟩ = false := own_free HOG5.out i
        cases ht : tgt l i with
        | none =>
          obtain rfl : ti = -1 := by rw [HT.out]; unfold tgtI; rw [ht]
          rw [ht] at HBB
          clear ht
          have hkG : Kp (Kq.One G) w5 (w5.setCell ⟨G, i, none⟩ (.bool false)) := kp_setOne _ _ _ _
          have HOG7 := Lib.hid (show (w5.setCell ⟨G, i, none⟩ (.bool false)).ownsRow G 4 1 (.slice (some ⟨G, 0, none⟩) n n) n ((hisR l p n (i + 1)).map Value.bool) from by
            have h := own_set HOG5.out i (.bool false)
            rw [← List.map_set, show (false : Bool) = hisB l p (hisS l p i).1 i from HBB.out.symm, HSET.out, HBB.out] at h
            exact h)
          have HOO7 := Lib.hid (hkG.owns HOO5.out fun x hx e => by have e : x = G := e; have := (own_ge HOO5.out hx).1; omega)
          have hkp7 := hkp5.tr hkG
          go_wp2_with (with_reducible refine stop_load 79 ?_)
          refine stop_out ?_
          generalize w5.setCell ⟨G, i, none⟩ (.bool false) = w7 at hkp7 HOG7 HOO7 ⊢
          clear hkG ga5 gf5
          have ga7 : w7.cell? ⟨G, i, none⟩ = some (.bool false) := own_cell HOG7.out (by rw [List.getElem?_map, ← HSET.out, HBB.out, List.getElem?_set_self (by rw [hisR_len l p (by omega)]; exact hlt)]; rfl)
          go_wp2_with fail
          go_roundw
          case rel => exact ⟨i + 1, by omega, by go_num, HOG7.out, by rw [HS2.out, HBB.out, if_neg (by decide), List.append_nil, ← HM.out]; exact HOO7.out, hkp7⟩
          case measure => simp [intOf]; omega
        | some k =>
          obtain rfl : ti = k := by rw [HT.out]; unfold tgtI; rw [ht]
          have hki := tgt_lt ht
          rw [ht] at HBB
          obtain ⟨q, hq⟩ : ∃ q, q = (hisS l p i).1.getD k false := ⟨_, rfl⟩
          have gk : w5.cell? ⟨G, k, none⟩ = some (.bool q) := own_cell HOG5.out (by rw [List.getElem?_map, hisR_get l p hki (by omega), hq]; rfl)
          have hk0 : decide ((0 : Int) ≤ (k : Int)) = true := by rw [decide_eq_true_eq]; omega
          have hkn : (k : Int) < (n : Int) := by omega
          replace HBB : Hid (hisB l p (hisS l p i).1 i = q) := Lib.hid (by rw [hq]; exact HBB.out)
          clear ht hq
          cases q with
          | true =>
            have hkG : Kp (Kq.One G) w5 (w5.setCell ⟨G, i, none⟩ (.bool true)) := kp_setOne _ _ _ _
            have HOG7 := Lib.hid (show (w5.setCell ⟨G, i, none⟩ (.bool true)).ownsRow G 4 1 (.slice (some ⟨G, 0, none⟩) n n) n ((hisR l p n (i + 1)).map Value.bool) from by
              have h := own_set HOG5.out i (.bool true)
              rw [← List.map_set, show (true : Bool) = hisB l p (hisS l p i).1 i from HBB.out.symm, HSET.out, HBB.out] at h
              exact h)
            have HOO7 := Lib.hid (hkG.owns HOO5.out fun x hx e => by have e : x = G := e; have := (own_ge HOO5.out hx).1; omega)
            have hkp7 := hkp5.tr hkG
            go_wp2_with (with_reducible refine stop_load 79 ?_)
            refine stop_out ?_
            generalize w5.setCell ⟨G, i, none⟩ (.bool true) = w7 at hkp7 HOG7 HOO7 ⊢
            clear hkG ga5 gf5
            have ga7 : w7.cell? ⟨G, i, none⟩ = some (.bool true) := own_cell HOG7.out (by rw [List.getElem?_map, ← HSET.out, HBB.out, List.getElem?_set_self (by rw [hisR_len l p (by omega)]; exact hlt)]; rfl)
            go_wp2_with (at_builtin; refine stop_in ?_)
            refine stop_out ?_
            refine wpL_append_any rfl _ _ 52 rfl w3.heap.size 3 i0 (.int .i64 0) 1 8 Try.underlying52 hi0 hz0 hz1 hz2 rfl (by decide) (.slice ao M co) M _ rfl (HOO7.out.alloc (.cells #[.int .i64 i] 3)) (some ⟨w7.heap.size, 0, none⟩) 1 1 [.int .i64 i] rfl rfl (fun h => (by cases h)) (fun ad had => by cases had; exact cell_one_new w7 _ _) (ints_oneCell .i64 [(i : Int)]) (by unfold maxLen; omega) (by omega) (by have := hkp7.size; simp; omega) ?_
            intro v' wz hown' hgrow hat
            have hgg : Kp (fun g => (Value.slice ao M co).ownBlock = some g) w7 wz := (Kp.alloc _ _ _).tr (Kp.grown hgrow fun _ hg _ => hg)
            have HOGz := Lib.hid (own_app HOO7.out HOG7.out (by decide) hgrow)
            have hkpz : Kp (Kq.One G) w3 wz := hkp7.trans hgg fun k hk e => by have := (own_ge HOO7.out e).1; omega
            obtain ⟨az, cz, rfl, _, _, _⟩ := own_form hown'
            have HOOz := Lib.hid hown'
            clear hown' hgrow hat hgg
            go_wp2_with fail
            go_roundw
            case rel => exact ⟨i + 1, by omega, by go_num, HOGz.out, by rw [HS2.out, HBB.out, if_pos rfl, List.length_append, ← HM.out, List.map_append]; exact HOOz.out, hkpz⟩
            case measure => simp [intOf]; omega
          | false =>
            have hkG : Kp (Kq.One G) w5 (w5.setCell ⟨G, i, none⟩ (.bool false)) := kp_setOne _ _ _ _
            have HOG7 := Lib.hid (show (w5.setCell ⟨G, i, none⟩ (.bool false)).ownsRow G 4 1 (.slice (some ⟨G, 0, none⟩) n n) n ((hisR l p n (i + 1)).map Value.bool) from by
              have h := own_set HOG5.out i (.bool false)
              rw [← List.map_set, show (false : Bool) = hisB l p (hisS l p i).1 i from HBB.out.symm, HSET.out, HBB.out] at h
              exact h)
            have HOO7 := Lib.hid (hkG.owns HOO5.out fun x hx e => by have e : x = G := e; have := (own_ge HOO5.out hx).1; omega)
            have hkp7 := hkp5.tr hkG
            go_wp2_with (with_reducible refine stop_load 79 ?_)
            refine stop_out ?_
            generalize w5.setCell ⟨G, i, none⟩ (.bool false) = w7 at hkp7 HOG7 HOO7 ⊢
            clear hkG ga5 gf5
            have ga7 : w7.cell? ⟨G, i, none⟩ = some (.bool false) := own_cell HOG7.out (by rw [List.getElem?_map, ← HSET.out, HBB.out, List.getElem?_set_self (by rw [hisR_len l p (by omega)]; exact hlt)]; rfl)
            go_wp2_with fail
            go_roundw
            case rel => exact ⟨i + 1, by omega, by go_num, HOG7.out, by rw [HS2.out, HBB.out, if_neg (by decide), List.append_nil, ← HM.out]; exact HOO7.out, hkp7⟩
            case measure => simp [intOf]; omega
      · have p4 : (v.kd == 4) = false := by rw [beq_eq_false_iff_ne]; exact h4
        have p4' : (v.kd != 4) = true := by rw [bne_iff_ne]; exact h4
        rw [if_neg h4] at HBB
        obtain ⟨q, hq⟩ : ∃ q, q = decide (v.pp = p) := ⟨_, rfl⟩
        have HE := fun w' => (show (Op.equalIn 10000 39 (ep v.pp) (ep p)).run Try.prog w' = .ok q w' by rw [hq]; exact pp_equal w' v.pp p)
        rw [← hq] at HBB
        simp only [ep, Wk.pp] at HE
        clear h4 hq
        go_wp2_with fail
        refine wp_region_each (fun ix uR => match ix with | 0 => uR = .slice (some ⟨G, 0, none⟩) n n | 1 => uR = .int .i64 (i : Int) | 2 => uR = .slice (some ⟨b, o, none⟩) n ca | 3 => uR = .int .i64 (i : Int) | 4 => uR = .pointer (some ⟨b, o + i * 11, none⟩) | 5 => uR = .pointer (some ⟨b, o + i * 11 + 3, none⟩) | 6 => uR = .int .i64 v.kd | 7 => uR = .bool true | 8 => uR = .bool true | 9 => uR = .slice (some ⟨b, o, none⟩) n ca | 10 => uR = .int .i64 (i : Int) | 11 => uR = .pointer (some ⟨b, o + i * 11, none⟩) | 12 => uR = .pointer (some ⟨b, o + i * 11 + 4, none⟩) | 13 => uR = .agg #[.int .i64 v.rk, .int .i64 v.nt] | 14 => uR = .agg #[.int .i64 p.1, .int .i64 p.2] | 15 => uR = .bool q | 16 => uR = .bool q | 17 => uR = .pointer (some ⟨G, i, none⟩) | _ => True) (StI wr (⟨G, i, none⟩) (.bool q) 18 16 8) (by kernel_rfl) (by kernel_rfl) (by kernel_rfl) ?_ ?_ ?_
        · exact StI.start _ _ _ _ _ _
        · refine ⟨?_, ?_, ?_, ?_, ?_, ?_, ?_, ?_, ?_, ?_, ?_, ?_, ?_, ?_, ?_, ?_, ?_, ?_, ?_, trivial⟩
          · intro r a w' hf hg hW hr hd K hK
            refine wpOp_of rfl rfl ?_
            have e0 : a.tmps.getD 7 undef = .slice (some ⟨G, 0, none⟩) n n := hf.evalFree (by kernel_rfl)
            go_simp
            exact hK _ _ rfl (hW.upd 0 _ (by decide) (by decide))
          · intro r a w' hf hg hW hr hd K hK
            refine wpOp_of rfl rfl ?_
            have e0 : a.tmps.getD 9 undef = .int .i64 (i : Int) := hf.evalFree (by kernel_rfl)
            go_simp
            exact hK _ _ rfl (hW.upd 1 _ (by decide) (by decide))
          · intro r a w' hf hg hW hr hd K hK
            refine wpOp_of rfl rfl ?_
            have e0 : a.tmps.getD 0 undef = .slice (some ⟨b, o, none⟩) n ca := hf.evalFree (by kernel_rfl)
            go_simp
            exact hK _ _ rfl (hW.upd 2 _ (by decide) (by decide))
          · intro r a w' hf hg hW hr hd K hK
            refine wpOp_of rfl rfl ?_
            have e0 : a.tmps.getD 9 undef = .int .i64 (i : Int) := hf.evalFree (by kernel_rfl)
            go_simp
            exact hK _ _ rfl (hW.upd 3 _ (by decide) (by decide))
          · intro r a w' hf hg hW hr hd K hK
            refine wpOp_of rfl rfl ?_
            refine hf.depE hg hd 2 30 (by kernel_rfl) fun u0 e0 g0 h0 => ?_
            replace g0 : u0 = .slice (some ⟨b, o, none⟩) n ca := g0
            subst g0
            refine hf.depE hg hd 3 31 (by kernel_rfl) fun u1 e1 g1 h1 => ?_
            replace g1 : u1 = .int .i64 (i : Int) := g1
            subst g1
            go_simp
            exact hK _ _ rfl (hW.upd 4 _ (by decide) (by decide))
          · intro r a w' hf hg hW hr hd K hK
            refine wpOp_of rfl rfl ?_
            refine hf.depE hg hd 4 32 (by kernel_rfl) fun u0 e0 g0 h0 => ?_
            replace g0 : u0 = .pointer (some ⟨b, o + i * 11, none⟩) := g0
            subst g0
            go_simp
            exact hK _ _ rfl (hW.upd 5 _ (by decide) (by decide))
          · intro r a w' hf hg hW hr hd K hK
            refine wpOp_of rfl rfl ?_
            refine hf.depE hg hd 5 33 (by kernel_rfl) fun u0 e0 g0 h0 => ?_
            replace g0 : u0 = .pointer (some ⟨b, o + i * 11 + 3, none⟩) := g0
            subst g0
            have z0 := hW.at_ c3 hbG
            go_simp
            exact hK _ _ rfl (hW.upd 6 _ (by decide) (by decide))
          · intro r a w' hf hg hW hr hd K hK
            refine wpOp_of rfl rfl ?_
            refine hf.depE hg hd 6 34 (by kernel_rfl) fun u0 e0 g0 h0 => ?_
            replace g0 : u0 = .int .i64 v.kd := g0
            subst g0
            go_simp
            exact hK _ _ rfl (hW.upd 7 _ (by decide) (by decide))
          · intro r a w' hf hg hW hr hd K hK
            refine wpOp_of rfl rfl ?_
            refine hf.depE hg hd 7 35 (by kernel_rfl) fun u0 e0 g0 h0 => ?_
            replace g0 : u0 = .bool true := g0
            subst g0
            go_simp
            exact hK _ _ rfl (hW.upd 8 _ (by decide) (by decide))
          · intro r a w' hf hg hW hr hd K hK
            refine hf.depE hg hd 8 36 (by kernel_rfl) fun uG eG gG _ => ?_
            replace gG : uG = .bool true := gG
            subst gG
            refine wpOp_run rfl rfl rfl rfl eG ?_
            have e0 : a.tmps.getD 0 undef = .slice (some ⟨b, o, none⟩) n ca := hf.evalFree (by kernel_rfl)
            go_simp
            exact hK _ _ rfl (hW.upd 9 _ (by decide) (by decide))
          · intro r a w' hf hg hW hr hd K hK
            refine hf.depE hg hd 8 36 (by kernel_rfl) fun uG eG gG _ => ?_
            replace gG : uG = .bool true := gG
            subst gG
            refine wpOp_run rfl rfl rfl rfl eG ?_
            have e0 : a.tmps.getD 9 undef = .int .i64 (i : Int) := hf.evalFree (by kernel_rfl)
            go_simp
            exact hK _ _ rfl (hW.upd 10 _ (by decide) (by decide))
          · intro r a w' hf hg hW hr hd K hK
            refine hf.depE hg hd 8 36 (by kernel_rfl) fun uG eG gG _ => ?_
            replace gG : uG = .bool true := gG
            subst gG
            refine wpOp_run rfl rfl rfl rfl eG ?_
            refine hf.depE hg hd 9 37 (by kernel_rfl) fun u0 e0 g0 h0 => ?_
            replace g0 : u0 = .slice (some ⟨b, o, none⟩) n ca := g0
            subst g0
            refine hf.depE hg hd 10 38 (by kernel_rfl) fun u1 e1 g1 h1 => ?_
            replace g1 : u1 = .int .i64 (i : Int) := g1
            subst g1
            go_simp
            exact hK _ _ rfl (hW.upd 11 _ (by decide) (by decide))
          · intro r a w' hf hg hW hr hd K hK
            refine hf.depE hg hd 8 36 (by kernel_rfl) fun uG eG gG _ => ?_
            replace gG : uG = .bool true := gG
            subst gG
            refine wpOp_run rfl rfl rfl rfl eG ?_
            refine hf.depE hg hd 11 39 (by kernel_rfl) fun u0 e0 g0 h0 => ?_
            replace g0 : u0 = .pointer (some ⟨b, o + i * 11, none⟩) := g0
            subst g0
            go_simp
            exact hK _ _ rfl (hW.upd 12 _ (by decide) (by decide))
          · intro r a w' hf hg hW hr hd K hK
            refine hf.depE hg hd 8 36 (by kernel_rfl) fun uG eG gG _ => ?_
            replace gG : uG = .bool true := gG
            subst gG
            refine wpOp_run rfl rfl rfl rfl eG ?_
            refine hf.depE hg hd 12 40 (by kernel_rfl) fun u0 e0 g0 h0 => ?_
            replace g0 : u0 = .pointer (some ⟨b, o + i * 11 + 4, none⟩) := g0
            subst g0
            have z0 := hW.at_ c4 hbG
            have z1 := hW.at_ c5 hbG
            go_simp
            exact hK _ _ rfl (hW.upd 13 _ (by decide) (by decide))
          · intro r a w' hf hg hW hr hd K hK
            refine hf.depE hg hd 8 36 (by kernel_rfl) fun uG eG gG _ => ?_
            replace gG : uG = .bool true := gG
            subst gG
            refine wpOp_run rfl rfl rfl rfl eG ?_
            have e0 : a.tmps.getD 3 undef = .pointer (some ⟨gp, 0, none⟩) := hf.evalFree (by kernel_rfl)
            have z0 := hW.at_ b0 hgpG
            have z1 := hW.at_ b1 hgpG
            go_simp
            exact hK _ _ rfl (hW.upd 14 _ (by decide) (by decide))
          · intro r a w' hf hg hW hr hd K hK
            refine hf.depE hg hd 8 36 (by kernel_rfl) fun uG eG gG _ => ?_
            replace gG : uG = .bool true := gG
            subst gG
            refine wpOp_run rfl rfl rfl rfl eG ?_
            refine hf.depE hg hd 13 41 (by kernel_rfl) fun u0 e0 g0 h0 => ?_
            replace g0 : u0 = .agg #[.int .i64 v.rk, .int .i64 v.nt] := g0
            subst g0
            refine hf.depE hg hd 14 42 (by kernel_rfl) fun u1 e1 g1 h1 => ?_
            replace g1 : u1 = .agg #[.int .i64 p.1, .int .i64 p.2] := g1
            subst g1
            go_simp
            exact hK _ _ rfl (hW.upd 15 _ (by decide) (by decide))
          · intro r a w' hf hg hW hr hd K hK
            refine wpOp_of rfl rfl ?_
            refine hf.depE hg hd 8 36 (by kernel_rfl) fun u0 e0 g0 h0 => ?_
            replace g0 : u0 = .bool true := g0
            subst g0
            have e0' := get_of_getD e0
            refine hf.depE hg hd 15 43 (by kernel_rfl) fun u1 e1 g1 h1 => ?_
            replace g1 : u1 = .bool q := g1
            subst g1
            have e1' := get_of_getD e1
            have HDEP : r 8 ≠ none := by rw [h0]; simp
            go_simp
            exact hK _ _ rfl (hW.updA _ (by decide) HDEP)
          · intro r a w' hf hg hW hr hd K hK
            refine wpOp_of rfl rfl ?_
            refine hf.depE hg hd 0 28 (by kernel_rfl) fun u0 e0 g0 h0 => ?_
            replace g0 : u0 = .slice (some ⟨G, 0, none⟩) n n := g0
            subst g0
            refine hf.depE hg hd 1 29 (by kernel_rfl) fun u1 e1 g1 h1 => ?_
            replace g1 : u1 = .int .i64 (i : Int) := g1
            subst g1
            go_simp
            exact hK _ _ rfl (hW.upd 17 _ (by decide) (by decide))
          · intro r a w' hf hg hW hr hd K hK
            refine wpOp_of rfl rfl ?_
            refine hf.depE hg hd 17 45 (by kernel_rfl) fun u0 e0 g0 h0 => ?_
            replace g0 : u0 = .pointer (some ⟨G, i, none⟩) := g0
            subst g0
            refine hf.depE hg hd 16 44 (by kernel_rfl) fun u1 e1 g1 h1 => ?_
            replace g1 : u1 = .bool q := g1
            subst g1
            have hw' := hW.b0 hr
            subst hw'
            have p1 : wr.drew.cell? ⟨G, i, none⟩ = some (.bool false) := ga
            have p2 : wr.drew.frozen? ⟨G, i, none⟩ = false := gf
            go_simp
            exact hK undef _ trivial (hW.store hr (by decide) (by decide) (by rw [h1]; simp) _)
        intro r' w5 hg hW hr'
        have hwE := hW.b1 (hr' 18 (by decide))
        simp only [List.length_cons, List.length_nil, Nat.reduceAdd, List.range_succ, List.range_zero, List.nil_append, List.cons_append, List.map_cons, List.map_nil, putAll, Act.put, List.setIfInBounds_toArray, List.set_cons_succ, List.set_cons_zero]
        clear hg hW hr'
        have hkd : Kp (Kq.One G) wr w5 := by rw [hwE]; exact (Kp.drew _ _).tr (kp_setOne _ _ _ _)
        have hog5 : w5.ownsRow G 4 1 (.slice (some ⟨G, 0, none⟩) n n) n ((hisR l p n (i + 1)).map Value.bool) := by
          have h := own_set ((Kp.drew No wr).owns HOGi.out fun _ _ h => h) i (.bool q)
          rw [← List.map_set, ← HBB.out, HSET.out, HBB.out] at h
          rw [hwE]
          exact h
        have HOG5 := Lib.hid hog5
        have HOO5 := Lib.hid (hkd.owns HOO.out fun x hx e => by have e : x = G := e; have := (own_ge HOO.out hx).1; omega)
        have hkp5 := hkp.tr hkd
        clear c0 c1 c2 c3 c4 c5 c6 c7 c8 c9 c10 ga gf b0 b1 hkd hog5 hwE
        have hkw5 : Kp No w w5 := hkw3.trans hkp5 fun j hj e => by have e : j = G := e; omega
        obtain ⟨b', o', hbo, _, c0, c1, c2, c3, _⟩ := RdW.at_ (HX.out.no hkw5) HVV.out
        cases hbo
        have ga5 : w5.cell? ⟨G, i, none⟩ = some (.bool q) := own_cell HOG5.out (by rw [List.getElem?_map, ← HSET.out, HBB.out, List.getElem?_set_self (by rw [hisR_len l p (by omega)]; exact hlt)]; rfl)
        cases q with
        | true =>
          go_wp2_with (at_builtin; refine stop_in ?_)
          refine stop_out ?_
          refine wpL_append_any rfl _ _ 52 rfl w3.heap.size 3 i0 (.int .i64 0) 1 8 Try.underlying52 hi0 hz0 hz1 hz2 rfl (by decide) (.slice ao M co) M _ rfl (HOO5.out.alloc (.cells #[.int .i64 i] 3)) (some ⟨w5.heap.size, 0, none⟩) 1 1 [.int .i64 i] rfl rfl (fun h => (by cases h)) (fun ad had => by cases had; exact cell_one_new w5 _ _) (ints_oneCell .i64 [(i : Int)]) (by unfold maxLen; omega) (by omega) (by have := hkp5.size; simp; omega) ?_
          intro v' wz hown' hgrow hat
          have hgg : Kp (fun g => (Value.slice ao M co).ownBlock = some g) w5 wz := (Kp.alloc _ _ _).tr (Kp.grown hgrow fun _ hg _ => hg)
          have HOGz := Lib.hid (own_app HOO5.out HOG5.out (by decide) hgrow)
          have hkpz : Kp (Kq.One G) w3 wz := hkp5.trans hgg fun k hk e => by have := (own_ge HOO5.out e).1; omega
          obtain ⟨az, cz, rfl, _, _, _⟩ := own_form hown'
          have HOOz := Lib.hid hown'
          clear hown' hgrow hat hgg
          go_wp2_with fail
          go_roundw
          case rel => exact ⟨i + 1, by omega, by go_num, HOGz.out, by rw [HS2.out, HBB.out, if_pos rfl, List.length_append, ← HM.out, List.map_append]; exact HOOz.out, hkpz⟩
          case measure => simp [intOf]; omega
        | false =>
          go_wp2_with fail
          go_roundw
          case rel => exact ⟨i + 1, by omega, by go_num, HOG5.out, by rw [HS2.out, HBB.out, if_neg (by decide), List.append_nil, ← HM.out]; exact HOO5.out, hkp5⟩
          case measure => simp [intOf]; omega
    · obtain rfl : i = n := by omega
      go_wp2_with fail
      refine bodyPost_ret (v := .tuple #[.slice ao M co, .int .i64 0]) (by simp [results, Try.results37, go_sem]) rfl ⟨_, rfl, by rw [HV.out, ← HM.out]; exact own_mono HOO.out hkw3.size, hkwr⟩
end Go.Proofs.Ytjbpdimepckmfaa
