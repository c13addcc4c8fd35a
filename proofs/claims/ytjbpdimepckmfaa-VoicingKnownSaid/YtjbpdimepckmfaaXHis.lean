/- Chapter 27: History: the walk. Printed by gen_his.py. -/
import Derived.Test.YtjbpdimepckmfaaXHisPM
import Derived.Test.YtjbpdimepckmfaaXLibHvM
import Derived.Test.YtjbpdimepckmfaaXChkW
import Derived.Test.YtjbpdimepckmfaaXPlc
import Derived.Test.YtjbpdimepckmfaaXLibStop
namespace Go.Proofs.Ytjbpdimepckmfaa
open Go.RowKit Go.Kq

def BoolNew (base n : Nat) (wz : World) (u : Value) : Prop := ∃ G, u = .slice (some ⟨G, 0, none⟩) n n ∧ base ≤ G ∧ wz.ownsRow base 4 1 u n (List.replicate n (.bool false))
theorem BoolNew.no {base n : Nat} {w w' : World} {u : Value} (h : BoolNew base n w u) (k : Kp No w w') : BoolNew base n w' u := by
  obtain ⟨G, h1, h2, h3⟩ := h
  exact ⟨G, h1, h2, k.owns h3 fun _ _ h => h⟩
theorem BoolNew.made (w : World) {base n : Nat} (hb : base ≤ w.heap.size) (hn : n ≤ 1000) : BoolNew base n (w.alloc (.cells (Array.replicate n (.bool false)) 4)) (.slice (some ⟨w.heap.size, 0, none⟩) n n) := by
  refine ⟨w.heap.size, rfl, hb, ?_⟩
  rw [← List.toArray_replicate]
  exact own_made w (by simp) hb (by unfold maxLen; omega)
def IxNew (base n : Nat) (l : List Wk) (wz : World) (u : Value) : Prop := ∃ B, u = .map (some B) ∧ base ≤ B ∧ MapAt wz B en ei (ixL l n)
theorem IxNew.no {base n : Nat} {l : List Wk} {w w' : World} {u : Value} (h : IxNew base n l w u) (k : Kp No w w') : IxNew base n l w' u := by
  obtain ⟨B, h1, h2, h3⟩ := h
  exact ⟨B, h1, h2, h3.of_block (k.block B h3.lt id)⟩
theorem own_notMapH {κ ν : Type} {ek : κ → Value} {ev : ν → Value} {E : List (κ × ν)} {w : World} {base n B : Nat} {e : TypeId} {size : Nat} {v : Value} {xs : List Value} (h : w.ownsRow base e size v n xs) (hm : MapAt w B ek ev E) : v.ownBlock ≠ some B := by
  intro hg
  obtain ⟨es, clock, hm⟩ := hm
  have hm1 := hm.at_
  rcases h.2 with ⟨rfl, _⟩ | ⟨g1, _, _, rfl, _, hh, _⟩
  · cases hg
  · cases hg
    have hm2 : w.heap[g1]? = some (.map es clock) := hm1
    rw [hh] at hm2
    cases hm2
theorem okP_ep (p : Pp) (w : World) : Calls Try.prog 70 #[ep p] w fun e w' => e = .returned (.bool (okP p.1 p.2)) ∧ Kp No w w' := pipe_any p.1 p.2 w
set_option maxHeartbeats 6000000 in
set_option maxRecDepth 100000 in
theorem History_any (A : Option Addr) (n ca : Nat) (l : List Wk) (p : Pp) (w : World) (hx : RdW w A n l) (hf : Fits l) :
    Calls Try.prog 36 #[.slice A n ca, ep p] w fun e w' => ∃ v, e = .returned (.tuple #[v, .int .i64 (hisE l p)]) ∧ w'.ownsRow w.heap.size 3 1 v (hisV l p).length ((hisV l p).map (Value.int .i64)) ∧ Kp No w w' := by
  obtain ⟨i0, hi0, hz0, hz1, hz2⟩ := info_parts info3
  have HC := Lib.hid (fun w' (k : Kp No w w') => Check_any A n ca l w' (hx.no k) hf)
  have HX := Lib.hid hx
  clear hx hf
  simp only [ep]
  by_cases h1 : chkL l = 0
  rotate_left
  · have q1 : (chkL l != 0) = true := by rw [bne_iff_ne]; exact h1
    have HE := Lib.hid (show hisE l p = chkL l from if_pos h1)
    have HV := Lib.hid (show hisV l p = [] by unfold hisV; rw [HE.out, if_neg h1])
    rw [HE.out]
    generalize chkL l = x at HC q1 ⊢
    clear h1 HE
    go_enter Try.func36, Try.ntmps36
    go_wp2_with fail
    have hk0 : Kp No w (w.alloc (.cells #[.int .i64 p.1, .int .i64 p.2] 39)) := Kp.alloc _ _ _
    generalize w.alloc (.cells #[.int .i64 p.1, .int .i64 p.2] 39) = w0 at hk0 ⊢
    with_reducible refine (HC.out w0 hk0).mono ?_
    rintro e w1 ⟨rfl, hk1⟩
    go_wp2_with fail
    refine bodyPost_ret (v := .tuple #[.slice none 0 0, .int .i64 x]) (by simp [results, Try.results36, go_sem]) rfl ⟨.slice none 0 0, rfl, by rw [HV.out]; exact ⟨rfl, .inl ⟨rfl, rfl⟩⟩, hk0.tr hk1⟩
  have HR := Lib.hid (rec_of h1)
  have HL := Lib.hid HX.out.1
  have hn : n ≤ 400 := by rw [← HL.out]; exact HR.out.len
  have HE0 := Lib.hid (show hisE l p = if okP p.1 p.2 then 0 else 2 by unfold hisE; rw [if_neg (by rw [h1]; simp)])
  rw [h1] at HC
  clear h1
  have HPA := Lib.hid (fun w' => okP_ep p w')
  cases hok : okP p.1 p.2 with
  | false =>
    have HE := Lib.hid (show hisE l p = 2 by rw [HE0.out, hok]; rfl)
    have HV := Lib.hid (show hisV l p = [] by unfold hisV; rw [HE.out]; rfl)
    rw [HE.out]
    rw [hok] at HPA
    clear HE HE0 hok
    go_enter Try.func36, Try.ntmps36
    go_wp2_with fail
    have hk0 : Kp No w (w.alloc (.cells #[.int .i64 p.1, .int .i64 p.2] 39)) := Kp.alloc _ _ _
    have hbx : (w.alloc (.cells #[.int .i64 p.1, .int .i64 p.2] 39)).heap[w.heap.size]? = some (.cells #[.int .i64 p.1, .int .i64 p.2] 39 (0, 0)) := heap_alloc_new _ _
    generalize w.alloc (.cells #[.int .i64 p.1, .int .i64 p.2] 39) = w0 at hk0 hbx ⊢
    obtain ⟨gp, hgp⟩ : ∃ gp, gp = w.heap.size := ⟨_, rfl⟩
    rw [← hgp] at hbx ⊢
    with_reducible refine (HC.out w0 hk0).mono ?_
    rintro e w1 ⟨rfl, hk1⟩
    have hbx1 := hk1.heap hbx id
    have b0 : w1.cell? ⟨gp, 0, none⟩ = some (.int .i64 p.1) := by rw [cell_of_row _ _ _ _ _ _ hbx1]; rfl
    have b1 : w1.cell? ⟨gp, 1, none⟩ = some (.int .i64 p.2) := by rw [cell_of_row _ _ _ _ _ _ hbx1]; rfl
    clear hbx hbx1 hgp
    go_wp2_with fail
    change Calls _ _ #[ep p] _ _
    with_reducible refine (HPA.out w1).mono ?_
    rintro e w2 ⟨rfl, hk2⟩
    go_wp2_with fail
    refine bodyPost_ret (v := .tuple #[.slice none 0 0, .int .i64 2]) (by simp [results, Try.results36, go_sem]) rfl ⟨.slice none 0 0, rfl, by rw [HV.out]; exact ⟨rfl, .inl ⟨rfl, rfl⟩⟩, (hk0.tr hk1).tr hk2⟩
  | true =>
  have HE := Lib.hid (show hisE l p = 0 by rw [HE0.out, hok]; rfl)
  have HV := Lib.hid (show hisV l p = (hisS l p n).2 by unfold hisV; rw [HE.out, HL.out]; rfl)
  rw [HE.out]
  rw [hok] at HPA
  have hmk := fun w => make_bools n (by omega) w
  clear HE HE0 hok
  go_enter Try.func36, Try.ntmps36
  go_wp2_with fail
  have hk0 : Kp No w (w.alloc (.cells #[.int .i64 p.1, .int .i64 p.2] 39)) := Kp.alloc _ _ _
  have hbx : (w.alloc (.cells #[.int .i64 p.1, .int .i64 p.2] 39)).heap[w.heap.size]? = some (.cells #[.int .i64 p.1, .int .i64 p.2] 39 (0, 0)) := heap_alloc_new _ _
  generalize w.alloc (.cells #[.int .i64 p.1, .int .i64 p.2] 39) = w0 at hk0 hbx ⊢
  obtain ⟨gp, hgp⟩ : ∃ gp, gp = w.heap.size := ⟨_, rfl⟩
  rw [← hgp] at hbx ⊢
  with_reducible refine (HC.out w0 hk0).mono ?_
  rintro e w1 ⟨rfl, hk1⟩
  have hbx1 := hk1.heap hbx id
  have b0 : w1.cell? ⟨gp, 0, none⟩ = some (.int .i64 p.1) := by rw [cell_of_row _ _ _ _ _ _ hbx1]; rfl
  have b1 : w1.cell? ⟨gp, 1, none⟩ = some (.int .i64 p.2) := by rw [cell_of_row _ _ _ _ _ _ hbx1]; rfl
  have HGP := Lib.hid hgp
  clear hgp
  go_wp2_with fail
  change Calls _ _ #[ep p] _ _
  with_reducible refine (HPA.out w1).mono ?_
  rintro e w2 ⟨rfl, hk2⟩
  have hk02 := (hk0.tr hk1).tr hk2
  have HBX2 := Lib.hid (hk2.heap hbx1 id)
  have HIX := Lib.hid (fun w' (k : Kp No w2 w') => index_any A n ca l w' (HX.out.no (hk02.tr k)) (by omega))
  have hgl := (Array.getElem?_eq_some_iff.1 HBX2.out).1
  have hw2 := hk02.size
  clear hbx hbx1 b0 b1 hk0 hk1 hk2 HPA HC
  go_wp2_with fail
  have FS : Stab (fun ix wz u => (ix = 2 → BoolNew w2.heap.size n wz u) ∧ (ix = 4 → IxNew w2.heap.size n l wz u) ∧ (ix = 5 → BoolNew w2.heap.size n wz u) ∧ (ix = 6 → IxNew w2.heap.size n l wz u) ∧ True) := fun ix u wz wz' kz h => ⟨fun e => BoolNew.no (h.1 e) kz, fun e => IxNew.no (h.2.1 e) kz, fun e => BoolNew.no (h.2.2.1 e) kz, fun e => IxNew.no (h.2.2.2.1 e) kz, trivial⟩
  replace FS := Lib.hid FS
  refine wp_region_each (fun ix uR => match ix with | 0 => uR = .slice A n ca | 1 => uR = .int .i64 (n : Int) | 3 => uR = .slice A n ca | _ => True) (HvW w2 (fun ix wz u => (ix = 2 → BoolNew w2.heap.size n wz u) ∧ (ix = 4 → IxNew w2.heap.size n l wz u) ∧ (ix = 5 → BoolNew w2.heap.size n wz u) ∧ (ix = 6 → IxNew w2.heap.size n l wz u) ∧ True)) (by kernel_rfl) (by kernel_rfl) (by kernel_rfl) ?_ ?_ ?_
  · exact HvW.start _ _
  · refine ⟨?_, ?_, ?_, ?_, ?_, ?_, ?_, trivial⟩
    · intro r a w' hf hg hW hr hd K hK
      refine wpOp_of rfl rfl ?_
      have e0 : a.tmps.getD 0 undef = .slice A n ca := hf.evalFree (by kernel_rfl)
      go_simp
      exact hK _ _ rfl (hW.upd 0 _ ⟨fun e => absurd e (by decide), fun e => absurd e (by decide), fun e => absurd e (by decide), fun e => absurd e (by decide), trivial⟩)
    · intro r a w' hf hg hW hr hd K hK
      refine wpOp_of rfl rfl ?_
      refine hf.depE hg hd 0 21 (by kernel_rfl) fun u0 e0 g0 h0 => ?_
      replace g0 : u0 = .slice A n ca := g0
      subst g0
      go_simp
      exact hK _ _ rfl (hW.upd 1 _ ⟨fun e => absurd e (by decide), fun e => absurd e (by decide), fun e => absurd e (by decide), fun e => absurd e (by decide), trivial⟩)
    · intro r a w' hf hg hW hr hd K hK
      refine wpOp_of rfl rfl ?_
      refine hf.depE hg hd 1 22 (by kernel_rfl) fun u0 e0 g0 h0 => ?_
      replace g0 : u0 = .int .i64 (n : Int) := g0
      subst g0
      go_simp
      exact hK _ _ trivial ((hW.call FS.out (Kp.alloc _ _ _)).upd 2 _ ⟨fun _ => BoolNew.made _ hW.kp.size (by omega), fun e => absurd e (by decide), fun e => absurd e (by decide), fun e => absurd e (by decide), trivial⟩)
    · intro r a w' hf hg hW hr hd K hK
      refine wpOp_of rfl rfl ?_
      have e0 : a.tmps.getD 0 undef = .slice A n ca := hf.evalFree (by kernel_rfl)
      go_simp
      exact hK _ _ rfl (hW.upd 3 _ ⟨fun e => absurd e (by decide), fun e => absurd e (by decide), fun e => absurd e (by decide), fun e => absurd e (by decide), trivial⟩)
    · intro r a w' hf hg hW hr hd K hK
      refine wpOp_of rfl rfl ?_
      refine hf.depE hg hd 3 24 (by kernel_rfl) fun u0 e0 g0 h0 => ?_
      replace g0 : u0 = .slice A n ca := g0
      subst g0
      go_simp
      with_reducible refine (HIX.out w' hW.kp).mono ?_
      rintro e w'' ⟨B, rfl, hB1, hB2, k'⟩
      exact hK _ _ trivial ((hW.call FS.out k').upd 4 _ ⟨fun e => absurd e (by decide), fun _ => ⟨B, rfl, Nat.le_trans hW.kp.size hB1, hB2⟩, fun e => absurd e (by decide), fun e => absurd e (by decide), trivial⟩)
    · intro r a w' hf hg hW hr hd K hK
      refine wpOp_of rfl rfl ?_
      refine hf.depE hg hd 2 23 (by kernel_rfl) fun u0 e0 g0 h0 => ?_
      have f0 := (hW.hv 2 u0 h0).1 rfl
      go_simp
      exact hK _ _ trivial (hW.upd 5 _ ⟨fun e => absurd e (by decide), fun e => absurd e (by decide), fun _ => f0, fun e => absurd e (by decide), trivial⟩)
    · intro r a w' hf hg hW hr hd K hK
      refine wpOp_of rfl rfl ?_
      refine hf.depE hg hd 4 25 (by kernel_rfl) fun u0 e0 g0 h0 => ?_
      have f0 := (hW.hv 4 u0 h0).2.1 rfl
      go_simp
      exact hK _ _ trivial (hW.upd 6 _ ⟨fun e => absurd e (by decide), fun e => absurd e (by decide), fun e => absurd e (by decide), fun _ => f0, trivial⟩)
  intro r' w3 hg hW hr'
  have hkN := hW.kp
  obtain ⟨q5, hq5⟩ : ∃ u, r' 5 = some u := Option.ne_none_iff_exists'.1 (hr' 5 (by decide))
  have hF5 := (hW.hv 5 q5 hq5).2.2.1 rfl
  obtain ⟨q6, hq6⟩ : ∃ u, r' 6 = some u := Option.ne_none_iff_exists'.1 (hr' 6 (by decide))
  have hF6 := (hW.hv 6 q6 hq6).2.2.2.1 rfl
  simp only [List.length_cons, List.length_nil, Nat.reduceAdd, List.range_succ, List.range_zero, List.nil_append, List.cons_append, List.map_cons, List.map_nil, putAll, Act.put, List.setIfInBounds_toArray, List.set_cons_succ, List.set_cons_zero, hq5, hq6, Option.getD_some]
  clear hg hW hr' FS hq5 hq6
  obtain ⟨G, hqG, hGl, howG⟩ := hF5
  subst hqG
  obtain ⟨B, hqB, hBl, hmB⟩ := hF6
  subst hqB
  have hkw3 := hk02.tr hkN
  have HB3 := Lib.hid (hkN.heap HBX2.out id)
  have HOG := Lib.hid (show w3.ownsRow w2.heap.size 4 1 (.slice (some ⟨G, 0, none⟩) n n) n ((hisR l p n 0).map Value.bool) by rw [hisR_zero, List.map_replicate]; exact howG)
  have HMB := Lib.hid hmB
  have hG3 := (own_ge howG (g := G) rfl).2
  have hB3 := hmB.lt
  have hGB : G ≠ B := fun e => own_notMapH howG hmB (by rw [e]; rfl)
  clear howG hmB hkN hmk HIX HBX2
  go_wp2_with fail
  go_loopw [9, 28] (fun vo vi wr => ∃ i : Nat, i ≤ n ∧ vi = .int .i64 i ∧ wr.ownsRow w2.heap.size 4 1 (.slice (some ⟨G, 0, none⟩) n n) n ((hisR l p n i).map Value.bool) ∧ wr.ownsRow w3.heap.size 3 1 vo (hisS l p i).2.length ((hisS l p i).2.map (Value.int .i64)) ∧ Kp (Kq.One G) w3 wr) (fun _ vi _ => n - (intOf vi).toNat)
  case atStart => exact ⟨0, by omega, rfl, HOG.out, ⟨rfl, .inl ⟨rfl, rfl⟩⟩, Kp.refl _ _⟩
  case round =>
    obtain ⟨i, hi, rfl, hog, hoo, hkp⟩ := hrel
    have HOGi := Lib.hid hog
    have HOO := Lib.hid hoo
    have hM0 := (hisS_len l p i).2
    obtain ⟨M, hM⟩ : ∃ M, M = (hisS l p i).2.length := ⟨_, rfl⟩
    rw [← hM] at HOO hM0
    have HM := Lib.hid hM
    obtain ⟨ao, co, rfl, _, _, _⟩ := own_form HOO.out
    have hkwr : Kp No w wr := hkw3.trans hkp fun j hj e => by have e : j = G := e; omega
    have HKWR := Lib.hid hkwr
    have HBR := Lib.hid (hkp.heap HB3.out fun e => by have e : gp = G := e; omega)
    have HMR := Lib.hid (HMB.out.of_block (hkp.block B hB3 fun e => hGB e.symm))
    clear hog hoo hM HOG
    by_cases hlt : i < n
    · obtain ⟨v, hv⟩ : ∃ v, l[i]? = some v := ⟨_, List.getElem?_eq_getElem (by rw [HL.out]; omega)⟩
      obtain ⟨b, o, rfl, _, c0, c1, c2, c3, c4, c5, c6, c7, c8, c9, c10⟩ := RdW.at_ (HX.out.no hkwr) hv
      have HBB := Lib.hid (show hisB l p (hisS l p i).1 i = if v.kd = 4 then (match tgt l i with | some k => (hisS l p i).1.getD k false | none => false) else decide (v.pp = p) by unfold hisB; rw [hv]; rfl)
      have HSET := Lib.hid (hisR_set l p hlt)
      have HS2 := Lib.hid (show (hisS l p (i + 1)).2 = (hisS l p i).2 ++ if hisB l p (hisS l p i).1 i then [(i : Int)] else [] from rfl)
      have hin : (i : Int) < (n : Int) := by omega
      have hGr : G < wr.heap.size := by have := hkp.size; omega
      have hgr : gp < wr.heap.size := (Array.getElem?_eq_some_iff.1 HBR.out).1
      have ga : wr.cell? ⟨G, i, none⟩ = some (.bool false) := own_cell HOGi.out (by rw [List.getElem?_map, hisR_at l p hlt]; rfl)
      have gf : wr.frozen? ⟨G, i, none⟩ = false := own_free HOGi.out i
      have hbr := HBR.out
      have b0 : wr.cell? ⟨gp, 0, none⟩ = some (.int .i64 p.1) := by rw [cell_of_row _ _ _ _ _ _ hbr]; rfl
      have b1 : wr.cell? ⟨gp, 1, none⟩ = some (.int .i64 p.2) := by rw [cell_of_row _ _ _ _ _ _ hbr]; rfl
      have hgpG : gp ≠ G := by omega
      have hGgp : G ≠ gp := fun e => hgpG e.symm
      clear hv hbr
      by_cases h4 : v.kd = 4
      · have p4 : (v.kd == 4) = true := by rw [beq_iff_eq]; exact h4
        rw [if_pos h4] at HBB
        have hka : Kp No wr (wr.alloc (.cells v.cells.toArray 41)) := Kp.alloc _ _ _
        have HKA := Lib.hid hka
        have htg := target_any (some ⟨b, o, none⟩) n ca B l i (wr.alloc (.cells v.cells.toArray 41)) (HX.out.no (hkwr.tr hka)) (by omega) hlt HR.out.names (HMR.out.of_block (hka.block B HMR.out.lt id))
        clear h4 hka
        go_wp2_with fail
        change Calls _ _ _ (wr.alloc (.cells v.cells.toArray 41)) _
        with_reducible refine htg.mono ?_
        rintro e w4 ⟨rfl, hk4⟩
        have hk4r := HKA.out.tr hk4
        have HOG4 := Lib.hid (hk4r.owns HOGi.out fun _ _ h => h)
        have HOO4 := Lib.hid (hk4r.owns HOO.out fun _ _ h => h)
        have hkp4 := hkp.no hk4r
        have ga4 := hk4r.cell ga id
        have gf4 : w4.frozen? ⟨G, i, none⟩ = false := own_free HOG4.out i
        clear htg hk4 hk4r c0 c1 c2 c3 c4 c5 c6 c7 c8 c9 c10 ga gf b0 b1 HBR HMR HKA
        cases ht : tgt l i with
        | none =>
          have hti : tgtI l i = -1 := by unfold tgtI; rw [ht]
          rw [ht] at HBB
          rw [hti]
          clear ht hti
          have hkG : Kp (Kq.One G) w4 (w4.setCell ⟨G, i, none⟩ (.bool false)) := kp_setOne _ _ _ _
          have HOG5 := Lib.hid (show (w4.setCell ⟨G, i, none⟩ (.bool false)).ownsRow w2.heap.size 4 1 (.slice (some ⟨G, 0, none⟩) n n) n ((hisR l p n (i + 1)).map Value.bool) from by
            have h := own_set HOG4.out i (.bool false)
            rw [← List.map_set, show (false : Bool) = hisB l p (hisS l p i).1 i from HBB.out.symm, HSET.out, HBB.out] at h
            exact h)
          have HOO5 := Lib.hid (hkG.owns HOO4.out fun x hx e => by have e : x = G := e; have := (own_ge HOO4.out hx).1; omega)
          have hkp5 := hkp4.tr hkG
          go_wp2_with (with_reducible refine stop_load 60 ?_)
          refine stop_out ?_
          generalize w4.setCell ⟨G, i, none⟩ (.bool false) = w5 at hkp5 HOG5 HOO5 ⊢
          clear hkG
          have ga5 : w5.cell? ⟨G, i, none⟩ = some (.bool false) := own_cell HOG5.out (by rw [List.getElem?_map, ← HSET.out, HBB.out, List.getElem?_set_self (by rw [hisR_len l p (by omega)]; exact hlt)]; rfl)
          go_wp2_with fail
          go_roundw
          case rel => exact ⟨i + 1, by omega, by go_num, HOG5.out, by rw [HS2.out, HBB.out, if_neg (by decide), List.append_nil, ← HM.out]; exact HOO5.out, hkp5⟩
          case measure => simp [intOf]; omega
        | some k =>
          have hti : tgtI l i = k := by unfold tgtI; rw [ht]
          have hki := tgt_lt ht
          rw [ht] at HBB
          rw [hti]
          obtain ⟨q, hq⟩ : ∃ q, q = (hisS l p i).1.getD k false := ⟨_, rfl⟩
          have gk : w4.cell? ⟨G, k, none⟩ = some (.bool q) := own_cell HOG4.out (by rw [List.getElem?_map, hisR_get l p hki (by omega), hq]; rfl)
          have hk0 : decide ((0 : Int) ≤ (k : Int)) = true := by rw [decide_eq_true_eq]; omega
          have hkn : (k : Int) < (n : Int) := by omega
          replace HBB : Hid (hisB l p (hisS l p i).1 i = q) := Lib.hid (by rw [hq]; exact HBB.out)
          clear ht hti hq
          cases q with
          | true =>
            have hkG : Kp (Kq.One G) w4 (w4.setCell ⟨G, i, none⟩ (.bool true)) := kp_setOne _ _ _ _
            have HOG5 := Lib.hid (show (w4.setCell ⟨G, i, none⟩ (.bool true)).ownsRow w2.heap.size 4 1 (.slice (some ⟨G, 0, none⟩) n n) n ((hisR l p n (i + 1)).map Value.bool) from by
              have h := own_set HOG4.out i (.bool true)
              rw [← List.map_set, show (true : Bool) = hisB l p (hisS l p i).1 i from HBB.out.symm, HSET.out, HBB.out] at h
              exact h)
            have HOO5 := Lib.hid (hkG.owns HOO4.out fun x hx e => by have e : x = G := e; have := (own_ge HOO4.out hx).1; omega)
            have hkp5 := hkp4.tr hkG
            go_wp2_with (with_reducible refine stop_load 60 ?_)
            refine stop_out ?_
            generalize w4.setCell ⟨G, i, none⟩ (.bool true) = w5 at hkp5 HOG5 HOO5 ⊢
            clear hkG
            have ga5 : w5.cell? ⟨G, i, none⟩ = some (.bool true) := own_cell HOG5.out (by rw [List.getElem?_map, ← HSET.out, HBB.out, List.getElem?_set_self (by rw [hisR_len l p (by omega)]; exact hlt)]; rfl)
            go_wp2_with (at_builtin; refine stop_in ?_)
            refine stop_out ?_
            refine wpL_append_any rfl _ _ 52 rfl w3.heap.size 3 i0 (.int .i64 0) 1 8 Try.underlying52 hi0 hz0 hz1 hz2 rfl (by decide) (.slice ao M co) M _ rfl (HOO5.out.alloc (.cells #[.int .i64 i] 3)) (some ⟨w5.heap.size, 0, none⟩) 1 1 [.int .i64 i] rfl rfl (fun h => (by cases h)) (fun ad had => by cases had; exact cell_one_new w5 _ _) (ints_oneCell .i64 [(i : Int)]) (by unfold maxLen; omega) (by omega) (by have := hkp5.size; simp; omega) ?_
            intro v' w7 hown' hgrow hat
            have hgg : Kp (fun g => (Value.slice ao M co).ownBlock = some g) w5 w7 := (Kp.alloc _ _ _).tr (Kp.grown hgrow fun _ hg _ => hg)
            have HOG7 := Lib.hid (own_app HOO5.out HOG5.out (by decide) hgrow)
            have hkp7 : Kp (Kq.One G) w3 w7 := hkp5.trans hgg fun k hk e => by have := (own_ge HOO5.out e).1; omega
            obtain ⟨a7, c7, rfl, _, _, _⟩ := own_form hown'
            have HOO7 := Lib.hid hown'
            clear hown' hgrow hat hgg
            go_wp2_with fail
            go_roundw
            case rel => exact ⟨i + 1, by omega, by go_num, HOG7.out, by rw [HS2.out, HBB.out, if_pos rfl, List.length_append, ← HM.out, List.map_append]; exact HOO7.out, hkp7⟩
            case measure => simp [intOf]; omega
          | false =>
            have hkG : Kp (Kq.One G) w4 (w4.setCell ⟨G, i, none⟩ (.bool false)) := kp_setOne _ _ _ _
            have HOG5 := Lib.hid (show (w4.setCell ⟨G, i, none⟩ (.bool false)).ownsRow w2.heap.size 4 1 (.slice (some ⟨G, 0, none⟩) n n) n ((hisR l p n (i + 1)).map Value.bool) from by
              have h := own_set HOG4.out i (.bool false)
              rw [← List.map_set, show (false : Bool) = hisB l p (hisS l p i).1 i from HBB.out.symm, HSET.out, HBB.out] at h
              exact h)
            have HOO5 := Lib.hid (hkG.owns HOO4.out fun x hx e => by have e : x = G := e; have := (own_ge HOO4.out hx).1; omega)
            have hkp5 := hkp4.tr hkG
            go_wp2_with (with_reducible refine stop_load 60 ?_)
            refine stop_out ?_
            generalize w4.setCell ⟨G, i, none⟩ (.bool false) = w5 at hkp5 HOG5 HOO5 ⊢
            clear hkG
            have ga5 : w5.cell? ⟨G, i, none⟩ = some (.bool false) := own_cell HOG5.out (by rw [List.getElem?_map, ← HSET.out, HBB.out, List.getElem?_set_self (by rw [hisR_len l p (by omega)]; exact hlt)]; rfl)
            go_wp2_with fail
            go_roundw
            case rel => exact ⟨i + 1, by omega, by go_num, HOG5.out, by rw [HS2.out, HBB.out, if_neg (by decide), List.append_nil, ← HM.out]; exact HOO5.out, hkp5⟩
            case measure => simp [intOf]; omega
      · have p4 : (v.kd == 4) = false := by rw [beq_eq_false_iff_ne]; exact h4
        rw [if_neg h4] at HBB
        obtain ⟨q, hq⟩ : ∃ q, q = decide (v.pp = p) := ⟨_, rfl⟩
        have HE := fun w' => (show (Op.equalIn 10000 39 (ep v.pp) (ep p)).run Try.prog w' = .ok q w' by rw [hq]; exact pp_equal w' v.pp p)
        rw [← hq] at HBB
        simp only [ep, Wk.pp] at HE
        clear h4 hq
        cases q with
        | true =>
          have HOG4 := HOGi
          have HOO4 := HOO
          have hkp4 := hkp
          have hkG : Kp (Kq.One G) wr (wr.setCell ⟨G, i, none⟩ (.bool true)) := kp_setOne _ _ _ _
          have HOG5 := Lib.hid (show (wr.setCell ⟨G, i, none⟩ (.bool true)).ownsRow w2.heap.size 4 1 (.slice (some ⟨G, 0, none⟩) n n) n ((hisR l p n (i + 1)).map Value.bool) from by
            have h := own_set HOG4.out i (.bool true)
            rw [← List.map_set, show (true : Bool) = hisB l p (hisS l p i).1 i from HBB.out.symm, HSET.out, HBB.out] at h
            exact h)
          have HOO5 := Lib.hid (hkG.owns HOO4.out fun x hx e => by have e : x = G := e; have := (own_ge HOO4.out hx).1; omega)
          have hkp5 := hkp4.tr hkG
          go_wp2_with (with_reducible refine stop_load 60 ?_)
          refine stop_out ?_
          change wpList _ _ _ _ _ ((wr.setCell ⟨G, i, none⟩ (.bool true)).alloc (.cells v.cells.toArray 41))
          replace HOG5 := Lib.hid (HOG5.out.alloc (.cells v.cells.toArray 41))
          replace HOO5 := Lib.hid (HOO5.out.alloc (.cells v.cells.toArray 41))
          replace hkp5 := hkp5.no (Kp.alloc No _ (.cells v.cells.toArray 41))
          generalize ((wr.setCell ⟨G, i, none⟩ (.bool true)).alloc (.cells v.cells.toArray 41)) = w5 at hkp5 HOG5 HOO5 ⊢
          clear hkG
          have ga5 : w5.cell? ⟨G, i, none⟩ = some (.bool true) := own_cell HOG5.out (by rw [List.getElem?_map, ← HSET.out, HBB.out, List.getElem?_set_self (by rw [hisR_len l p (by omega)]; exact hlt)]; rfl)
          clear c0 c1 c2 c3 c4 c5 c6 c7 c8 c9 c10 ga gf b0 b1
          go_wp2_with (at_builtin; refine stop_in ?_)
          refine stop_out ?_
          refine wpL_append_any rfl _ _ 52 rfl w3.heap.size 3 i0 (.int .i64 0) 1 8 Try.underlying52 hi0 hz0 hz1 hz2 rfl (by decide) (.slice ao M co) M _ rfl (HOO5.out.alloc (.cells #[.int .i64 i] 3)) (some ⟨w5.heap.size, 0, none⟩) 1 1 [.int .i64 i] rfl rfl (fun h => (by cases h)) (fun ad had => by cases had; exact cell_one_new w5 _ _) (ints_oneCell .i64 [(i : Int)]) (by unfold maxLen; omega) (by omega) (by have := hkp5.size; simp; omega) ?_
          intro v' w7 hown' hgrow hat
          have hgg : Kp (fun g => (Value.slice ao M co).ownBlock = some g) w5 w7 := (Kp.alloc _ _ _).tr (Kp.grown hgrow fun _ hg _ => hg)
          have HOG7 := Lib.hid (own_app HOO5.out HOG5.out (by decide) hgrow)
          have hkp7 : Kp (Kq.One G) w3 w7 := hkp5.trans hgg fun k hk e => by have := (own_ge HOO5.out e).1; omega
          obtain ⟨a7, c7, rfl, _, _, _⟩ := own_form hown'
          have HOO7 := Lib.hid hown'
          clear hown' hgrow hat hgg
          go_wp2_with fail
          go_roundw
          case rel => exact ⟨i + 1, by omega, by go_num, HOG7.out, by rw [HS2.out, HBB.out, if_pos rfl, List.length_append, ← HM.out, List.map_append]; exact HOO7.out, hkp7⟩
          case measure => simp [intOf]; omega
        | false =>
          have HOG4 := HOGi
          have HOO4 := HOO
          have hkp4 := hkp
          have hkG : Kp (Kq.One G) wr (wr.setCell ⟨G, i, none⟩ (.bool false)) := kp_setOne _ _ _ _
          have HOG5 := Lib.hid (show (wr.setCell ⟨G, i, none⟩ (.bool false)).ownsRow w2.heap.size 4 1 (.slice (some ⟨G, 0, none⟩) n n) n ((hisR l p n (i + 1)).map Value.bool) from by
            have h := own_set HOG4.out i (.bool false)
            rw [← List.map_set, show (false : Bool) = hisB l p (hisS l p i).1 i from HBB.out.symm, HSET.out, HBB.out] at h
            exact h)
          have HOO5 := Lib.hid (hkG.owns HOO4.out fun x hx e => by have e : x = G := e; have := (own_ge HOO4.out hx).1; omega)
          have hkp5 := hkp4.tr hkG
          go_wp2_with (with_reducible refine stop_load 60 ?_)
          refine stop_out ?_
          change wpList _ _ _ _ _ ((wr.setCell ⟨G, i, none⟩ (.bool false)).alloc (.cells v.cells.toArray 41))
          replace HOG5 := Lib.hid (HOG5.out.alloc (.cells v.cells.toArray 41))
          replace HOO5 := Lib.hid (HOO5.out.alloc (.cells v.cells.toArray 41))
          replace hkp5 := hkp5.no (Kp.alloc No _ (.cells v.cells.toArray 41))
          generalize ((wr.setCell ⟨G, i, none⟩ (.bool false)).alloc (.cells v.cells.toArray 41)) = w5 at hkp5 HOG5 HOO5 ⊢
          clear hkG
          have ga5 : w5.cell? ⟨G, i, none⟩ = some (.bool false) := own_cell HOG5.out (by rw [List.getElem?_map, ← HSET.out, HBB.out, List.getElem?_set_self (by rw [hisR_len l p (by omega)]; exact hlt)]; rfl)
          clear c0 c1 c2 c3 c4 c5 c6 c7 c8 c9 c10 ga gf b0 b1
          go_wp2_with fail
          go_roundw
          case rel => exact ⟨i + 1, by omega, by go_num, HOG5.out, by rw [HS2.out, HBB.out, if_neg (by decide), List.append_nil, ← HM.out]; exact HOO5.out, hkp5⟩
          case measure => simp [intOf]; omega
    · obtain rfl : i = n := by omega
      go_wp2_with fail
      refine bodyPost_ret (v := .tuple #[.slice ao M co, .int .i64 0]) (by simp [results, Try.results36, go_sem]) rfl ⟨_, rfl, by rw [HV.out, ← HM.out]; exact own_mono HOO.out hkw3.size, hkwr⟩
end Go.Proofs.Ytjbpdimepckmfaa
