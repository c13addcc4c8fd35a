/- Chapter 09: the reference's Nest: the walk. Printed by gen_nti.py. -/
import Derived.Test.YtamjhpdgclbfgaaXNtH
import Derived.Test.YtamjhpdgclbfgaaXSsQM
import Derived.Test.YtamjhpdgclbfgaaXSptM
import Derived.Test.YtamjhpdgclbfgaaXNtCM
import Derived.Test.YtamjhpdgclbfgaaXSpyM
namespace Go.Proofs.Ytamjhpdgclbfgaa
open Go.RowKit Go.Kq

theorem three_cellsP {w : World} {B : Nat} {a b c : Value} {t : TypeId} (h : w.heap[B]? = some (.cells #[a, b, c] t (0, 0))) : w.cell? ⟨B, 0, none⟩ = some a ∧ w.cell? ⟨B, 1, none⟩ = some b ∧ w.cell? ⟨B, 2, none⟩ = some c := ⟨by rw [cell_of_row w B 0 _ _ _ h]; rfl, by rw [cell_of_row w B 1 _ _ _ h]; rfl, by rw [cell_of_row w B 2 _ _ _ h]; rfl⟩
theorem nstep_none {P : Pt} {l : List Ct} {S ON : List Nat} {R : RB} (h : rankV P l S ON = none) : nstep P l S R ON = R := by
  unfold nstep
  rw [h]
theorem nstep_new {P : Pt} {l : List Ct} {S ON : List Nat} {nn hh : Int} (h : rankV P l S ON = some (nn, hh)) : nstep P l S none ON = some (S, ON, nn, hh) := by
  unfold nstep
  rw [h]
theorem nstep_yes {P : Pt} {l : List Ct} {S ON S' ON' : List Nat} {nn hh c d : Int} (h : rankV P l S ON = some (nn, hh)) (hb : betB S ON nn hh S' ON' c d = true) : nstep P l S (some (S', ON', c, d)) ON = some (S, ON, nn, hh) := by
  unfold nstep
  rw [h]
  simp only
  rw [if_pos hb]
theorem nstep_no {P : Pt} {l : List Ct} {S ON S' ON' : List Nat} {nn hh c d : Int} (h : rankV P l S ON = some (nn, hh)) (hb : betB S ON nn hh S' ON' c d = false) : nstep P l S (some (S', ON', c, d)) ON = some (S', ON', c, d) := by
  unfold nstep
  rw [h]
  simp only
  rw [if_neg (by rw [hb]; decide)]
theorem foldl_take {α β : Type} (f : β → α → β) (b : β) {l : List α} {k : Nat} {x : α} (h : l[k]? = some x) : (l.take (k + 1)).foldl f b = f ((l.take k).foldl f b) x := by
  rw [List.take_add_one, h, List.foldl_append]
  rfl
def RepR (gB n : Nat) (w : World) (R : RB) (v9 v10 v11 : Value) : Prop := match R with
  | none => v9 = .int .i64 0 ∧ v10 = .int .i64 0 ∧ v11 = .bool false ∧ w.heap[gB]? = some (.cells #[.slice none 0 0, .slice none 0 0] 69 (0, 0))
  | some (S, ON, c, d) => v9 = .int .i64 c ∧ v10 = .int .i64 d ∧ v11 = .bool true ∧ S ∈ grpR n ∧ ON ∈ grpR (cntF S) ∧ ∃ AS cs AO m co, w.heap[gB]? = some (.cells #[.slice AS n cs, .slice AO m co] 69 (0, 0)) ∧ RdI .i64 w AS n (S.map Int.ofNat) ∧ RdI .i64 w AO m (ON.map Int.ofNat) ∧ (∀ b o, AS = some ⟨b, o, none⟩ → b ≠ gB) ∧ ∀ b o, AO = some ⟨b, o, none⟩ → b ≠ gB
theorem RepR.no {gB n : Nat} {w w' : World} {R : RB} {v9 v10 v11 : Value} (h : RepR gB n w R v9 v10 v11) (k : Kp No w w') : RepR gB n w' R v9 v10 v11 := by
  match R, h with
  | none, h => exact ⟨h.1, h.2.1, h.2.2.1, k.heap h.2.2.2 id⟩
  | some (S, ON, c, d), h =>
    obtain ⟨h1, h2, h3, h4, h5, AS, cs, AO, m, co, h6, h7, h8, h9, h10⟩ := h
    exact ⟨h1, h2, h3, h4, h5, AS, cs, AO, m, co, k.heap h6 id, h7.no k, h8.no k, h9, h10⟩
theorem kp_one_in {S : Nat → Prop} {w w1 w2 : World} {g : Nat} (h : Kp S w w1) (k : Kp (Kq.One g) w1 w2) (hg : w.heap.size ≤ g) : Kp S w w2 := h.trans k fun b hb e => by
  have e : b = g := e
  omega
set_option maxHeartbeats 16000000 in
set_option maxRecDepth 100000 in
theorem rnest_any (P : Pt) (A : Option Addr) (n ca : Nat) (l : List Ct) (w : World) (hx : RdC w A n l) (hn : n ≤ 100000000) (h58 : n ≤ 5 ∨ 8 < n) :
    Calls Try.prog 10 #[P.val, .slice A n ca] w fun e w' => ∃ A' m ca', e = .returned (.tuple #[.slice A' m ca', .int .i64 (nesE P l)]) ∧ RdS w' A' m (nesL P l) ∧ Kp No w w' := by
  have hLl := hx.1
  have hk0 : Kp No w (w.alloc (.cells #[.int .i64 P.w, .int .i64 P.h, .int .i64 P.k] 23)) := Kp.alloc _ _ _
  have hbx : (w.alloc (.cells #[.int .i64 P.w, .int .i64 P.h, .int .i64 P.k] 23)).heap[w.heap.size]? = some (.cells #[.int .i64 P.w, .int .i64 P.h, .int .i64 P.k] 23 (0, 0)) := heap_alloc_new _ _
  obtain ⟨gP, hgP⟩ : ∃ g, w.heap.size = g := ⟨_, rfl⟩
  rw [hgP] at hbx
  obtain ⟨p0, p1, p2⟩ := three_cellsP hbx
  have HPL := Lib.hid (plate_any P A n ca l 8 _ (hx.no hk0) hn)
  have HFT := Lib.hid (fun w0 (k : Kp No w w0) => rfits_any P A n ca l w0 (hx.no k) hn)
  have HE := Lib.hid (show nesE P l = if jchk P l 8 = 0 then fitV P l else jchk P l 8 from rfl)
  have HNL := Lib.hid (show nesL P l = if nesE P l = 0 then nestF P l else [] from rfl)
  obtain ⟨nv, hnv⟩ : ∃ v, nesE P l = v := ⟨_, rfl⟩
  rw [hnv] at HE HNL ⊢
  have HNV := Lib.hid hnv
  have HJO := Lib.hid (fun (h : jchk P l 8 = 0) => job_ok h)
  have HX := Lib.hid hx
  have HK0 := Lib.hid hk0
  unfold Pt.val at *
  obtain ⟨w0, hw0⟩ : ∃ w0, (w.alloc (.cells #[.int .i64 P.w, .int .i64 P.h, .int .i64 P.k] 23)) = w0 := ⟨_, rfl⟩
  rw [hw0] at HPL HK0 p0 p1 p2
  clear hx hk0 hbx hnv
  go_enter Try.func10, Try.ntmps10
  go_wp2_with fail
  clear hw0 hgP
  with_reducible refine HPL.out.mono ?_
  rintro e w1 ⟨rfl, k1⟩
  have HK1 := Lib.hid (HK0.out.tr k1)
  replace p0 := k1.cell p0 id
  replace p1 := k1.cell p1 id
  replace p2 := k1.cell p2 id
  clear k1 HPL HK0
  by_cases hj : jchk P l 8 = 0
  rotate_left
  · have HE2 := Lib.hid (show nv = jchk P l 8 by rw [HE.out, if_neg hj])
    have HL2 := Lib.hid (show nesL P l = [] by rw [HNL.out, if_neg (by rw [HE2.out]; exact hj)])
    generalize jchk P l 8 = jv at *
    have hjn : (jv == 0) = false := by rw [beq_eq_false_iff_ne]; exact hj
    have hjn2 : (jv != 0) = true := bne_iff_ne.2 hj
    go_wp2_with fail
    exact bodyPost_ret (v := .tuple #[.slice none 0 0, .int .i64 jv]) (by simp [results, Try.results10, go_sem]) rfl ⟨none, 0, 0, by rw [HE2.out], by rw [HL2.out]; exact Rd.nil _ _, HK1.out⟩
  have J := Lib.hid (HJO.out hj)
  rw [hj] at HE ⊢
  rw [if_pos rfl] at HE
  have hn5 : n ≤ 5 := by
    have := J.out.len
    omega
  clear HJO hj h58
  go_wp2_with fail
  with_reducible refine (HFT.out w1 HK1.out).mono ?_
  rintro e w2 ⟨rfl, k2⟩
  have HK2 := Lib.hid (HK1.out.tr k2)
  replace p0 := k2.cell p0 id
  replace p1 := k2.cell p1 id
  replace p2 := k2.cell p2 id
  clear k2 HFT HK1
  by_cases hf : fitV P l = 0
  rotate_left
  · have HE2 := Lib.hid (show nv = fitV P l by rw [HE.out])
    have HL2 := Lib.hid (show nesL P l = [] by rw [HNL.out, if_neg (by rw [HE2.out]; exact hf)])
    generalize fitV P l = jv at *
    have hjn : (jv == 0) = false := by rw [beq_eq_false_iff_ne]; exact hf
    have hjn2 : (jv != 0) = true := bne_iff_ne.2 hf
    go_wp2_with fail
    exact bodyPost_ret (v := .tuple #[.slice none 0 0, .int .i64 jv]) (by simp [results, Try.results10, go_sem]) rfl ⟨none, 0, 0, by rw [HE2.out], by rw [HL2.out]; exact Rd.nil _ _, HK2.out⟩
  have hbig : l.any (bigC P) = false := by
    unfold fitV at hf
    cases hb : l.any (bigC P) with
    | false => rfl
    | true => rw [hb] at hf; cases hf
  have JP : JobP P l := ⟨J.out.k.1, fun c hc => by
    have h1 := J.out.cut c hc
    have h2 : bigC P c = false := by
      rw [List.any_eq_false] at hbig
      simpa using hbig c hc
    unfold bigC at h2
    simp at h2
    omega⟩
  have HOK := Lib.hid (show CtOk l P.k from ⟨fun c hc => by have := J.out.cut c hc; omega, J.out.k⟩)
  have HRF := Lib.hid (nest_ref JP)
  rw [hf] at HE ⊢
  have HL2 := Lib.hid (show nesL P l = nestF P l by rw [HNL.out, if_pos HE.out])
  have HNZ := Lib.hid HE.out
  have HG := Lib.hid (groups_any n w2 (by omega))
  clear HE HNL hf hbig J JP
  go_wp2_with fail
  with_reducible refine HG.out.mono ?_
  rintro e w3 ⟨A7, m7, c7, rfl, h7, k3⟩
  have HK3 := Lib.hid (HK2.out.tr k3)
  replace p0 := k3.cell p0 id
  replace p1 := k3.cell p1 id
  replace p2 := k3.cell p2 id
  have hm7 : m7 = (grpR n).length := h7.1.symm
  have H7 := Lib.hid h7
  clear k3 h7 HG HK2
  have gPs := World.block_lt_of_cell? _ _ p0
  obtain ⟨gB, hgB⟩ : ∃ g, w3.heap.size = g := ⟨_, rfl⟩
  obtain ⟨w4, hw4⟩ : ∃ w4, w3.alloc (.cells #[.slice none 0 0, .slice none 0 0] 69) = w4 := ⟨_, rfl⟩
  have k4 : Kp No w3 w4 := by rw [← hw4]; exact Kp.alloc _ _ _
  have hb4 : w4.heap[gB]? = some (.cells #[.slice none 0 0, .slice none 0 0] 69 (0, 0)) := by rw [← hw4, ← hgB]; exact heap_alloc_new _ _
  have K4 := Lib.hid (show Kp (Kq.One gB) w3 w4 from k4.mono fun _ _ h => False.elim h)
  have HB4 := Lib.hid hb4
  have HP0 := Lib.hid p0
  have HP1 := Lib.hid p1
  have HP2 := Lib.hid p2
  have HPB := Lib.hid (show gP ≠ gB ∧ w3.heap.size = gB from ⟨by dsimp only at gPs; omega, hgB⟩)
  clear k4 hb4 p0 p1 p2 gPs
  obtain ⟨GL, hGL⟩ : ∃ L, grpR n = L := ⟨_, rfl⟩
  have HGL := Lib.hid hGL
  have HGM := Lib.hid (grpR_mem n)
  have hl32 : GL.length ≤ 32768 := by rw [← hGL]; exact Nat.le_trans (grpR_len n (by omega)) (Nat.pow_le_pow_right (by omega) (show n ≤ 5 by omega))
  have HFR := Lib.hid (show nestR P l = GL.foldl (fun B S => (grpR (cntF S)).foldl (nstep P l S) B) none by rw [← hGL, ← hLl]; rfl)
  rw [hGL] at hm7 H7 HGM
  subst hm7
  clear hGL
  go_wp2_with fail
  clear hw4 hgB
  go_loopw [9, 10, 11, 12] (fun v9 v10 v11 v12 wr => ∃ i : Nat, i ≤ GL.length ∧ v12 = .int .i64 i ∧ RepR gB n wr ((GL.take i).foldl (fun B S => (grpR (cntF S)).foldl (nstep P l S) B) none) v9 v10 v11 ∧ Kp (Kq.One gB) w3 wr) (fun _ _ _ v12 _ => GL.length - (intOf v12).toNat)
  case atStart => exact ⟨0, by omega, rfl, ⟨rfl, rfl, rfl, HB4.out⟩, K4.out⟩
  case round =>
    obtain ⟨i, hi, rfl, hrp, hkp⟩ := hrel
    have RP := Lib.hid hrp
    have KP := Lib.hid hkp
    clear hrp hkp HB4 K4
    by_cases hil : i < GL.length
    · obtain ⟨S, hS⟩ : ∃ S, GL[i]? = some S := ⟨_, List.getElem?_eq_getElem hil⟩
      have hil' : (i : Int) < GL.length := by omega
      obtain ⟨b7, o7, AS, nS, cs, rfl, b7l, cS0, hnS, rS0, bS0⟩ := H7.out.2 i S hS
      obtain ⟨hSl, hSc⟩ := HGM.out S (List.mem_of_getElem? hS)
      obtain rfl : nS = n := by rw [← nat_len rS0, hSl]
      have HSG := Lib.hid (show S ∈ grpR nS by rw [HGL.out]; exact List.mem_of_getElem? hS)
      have HSF := Lib.hid (foldl_take (fun B S => (grpR (cntF S)).foldl (nstep P l S) B) none hS)
      obtain ⟨R0, hR0⟩ : ∃ R, (GL.take i).foldl (fun B S => (grpR (cntF S)).foldl (nstep P l S) B) none = R := ⟨_, rfl⟩
      rw [hR0] at RP HSF
      have CS0 := Lib.hid cS0
      have RS0 := Lib.hid rS0
      have BS0 := Lib.hid (show ∀ b o, AS = some ⟨b, o, none⟩ → b < w3.heap.size ∧ b ≠ gB from fun b o e => ⟨(bS0 b o e).2, by have := (bS0 b o e).2; have := HPB.out.2; omega⟩)
      have B7 := Lib.hid (show b7 ≠ gB by have := b7l.2; have := HPB.out.2; omega)
      have cS := KP.out.cell cS0 (fun e => B7.out e)
      have rS := rS0.kp KP.out (fun b o e _ h => (BS0.out b o e).2 h)
      have HCN := Lib.hid (count_any AS nS cs S wr rS (by omega) (fun s hs => by have := cntF_lt s hs; omega))
      have HGP := Lib.hid (groups_any (cntF S) wr (by omega))
      clear hS hR0 cS0 rS0 bS0 hnS b7l rS HFR HGL
      go_wp2_with fail
      with_reducible refine HCN.out.mono ?_
      rintro e wx ⟨rfl, hwx⟩
      subst hwx
      clear HCN
      go_wp2_with fail
      with_reducible refine HGP.out.mono ?_
      rintro e wp ⟨A8, m8, c8, rfl, h8, kp8⟩
      have hsz8 : gB < wx.heap.size := by
        have h1 := KP.out.size
        have h2 := HPB.out.2
        match R0, RP.out with
        | none, h => exact (Array.getElem?_eq_some_iff.1 h.2.2.2).1
        | some (_, _, _, _), h =>
          obtain ⟨_, _, _, _, _, _, _, _, _, _, h6, _⟩ := h
          exact (Array.getElem?_eq_some_iff.1 h6).1
      have KPP := Lib.hid (KP.out.tr (kp8.mono fun _ _ h => False.elim h))
      have RPP := Lib.hid (RP.out.no kp8)
      have hm8 : m8 = (grpR (cntF S)).length := h8.1.symm
      have H8 := Lib.hid h8
      have H8B := Lib.hid (show ∀ b, wx.heap.size ≤ b → b ≠ gB from fun b hb e => by omega)
      obtain ⟨GM, hGM⟩ : ∃ L, grpR (cntF S) = L := ⟨_, rfl⟩
      have HGMM := Lib.hid (grpR_mem (cntF S))
      have HGG := Lib.hid hGM
      have hl33 : GM.length ≤ 32768 := by rw [← hGM]; exact Nat.le_trans (grpR_len (cntF S) (by omega)) (Nat.pow_le_pow_right (by omega) (show cntF S ≤ 5 by omega))
      rw [hGM] at hm8 H8 HGMM HSF
      subst hm8
      clear kp8 h8 HGP cS hsz8 hGM
      go_wp2_with fail
      go_loopw [9, 10, 11, 14] (fun v9 v10 v11 v14 wr => ∃ k : Nat, k ≤ GM.length ∧ v14 = .int .i64 k ∧ RepR gB nS wr ((GM.take k).foldl (nstep P l S) R0) v9 v10 v11 ∧ Kp (Kq.One gB) wp wr) (fun _ _ _ v14 _ => GM.length - (intOf v14).toNat)
      case atStart => exact ⟨0, by omega, rfl, RPP.out, Kp.refl _ _⟩
      case round =>
        obtain ⟨k, hk, rfl, hrp, hkp⟩ := hrel
        have RPK := Lib.hid hrp
        have KQ := Lib.hid hkp
        clear hrp hkp RP RPP
        by_cases hkl : k < GM.length
        · obtain ⟨ON, hON⟩ : ∃ S, GM[k]? = some S := ⟨_, List.getElem?_eq_getElem hkl⟩
          have hkl' : (k : Int) < GM.length := by omega
          obtain ⟨b8, o8, AO, m, co, rfl, b8l, cO0, _, rO0, bO0⟩ := H8.out.2 k ON hON
          obtain ⟨hOl, hOc⟩ := HGMM.out ON (List.mem_of_getElem? hON)
          have HMM := Lib.hid (show m = cntF S by rw [← nat_len rO0, hOl])
          have hm5 : m ≤ 5 := by have := HMM.out; omega
          have cO := KQ.out.cell cO0 (fun e => H8B.out b8 b8l.1 e)
          have cS := KQ.out.cell (KPP.out.cell CS0.out (fun e => B7.out e)) (fun e => B7.out e)
          have RS := Lib.hid (show RdI .i64 wr AS nS (S.map Int.ofNat) ∧ RdI .i64 wr AO m (ON.map Int.ofNat) from ⟨(RS0.out.kp KPP.out (fun b o e _ h => (BS0.out b o e).2 h)).kp KQ.out (fun b o e _ h => (BS0.out b o e).2 h), rO0.kp KQ.out (fun b o e _ h => H8B.out b (bO0 b o e).1 h)⟩)
          have SB := Lib.hid (show (∀ b o, AS = some ⟨b, o, none⟩ → b ≠ gB) ∧ ∀ b o, AO = some ⟨b, o, none⟩ → b ≠ gB from ⟨fun b o e => (BS0.out b o e).2, fun b o e => H8B.out b (bO0 b o e).1⟩)
          have SM := Lib.hid (show S ∈ grpR nS ∧ ON ∈ grpR (cntF S) from ⟨HSG.out, by rw [HGG.out]; exact List.mem_of_getElem? hON⟩)
          have HSN := Lib.hid (foldl_take (nstep P l S) R0 hON)
          obtain ⟨R1, hR1⟩ : ∃ R, (GM.take k).foldl (nstep P l S) R0 = R := ⟨_, rfl⟩
          rw [hR1] at RPK HSN
          clear hON b8l cO0 rO0 bO0 hR1
          go_wp2_with fail
          have FS : Stab (fun ix wz u => True) := fun ix u wz wz' kz h => trivial
          have FB : ∀ (g : Nat) (wz wz' : World), Kp (Kq.One g) wz wz' → wz.heap[g]? = some (.cells #[.slice none 0 0, .slice none 0 0] 69 (0, 0)) → ∀ (ix : Nat) (u : Value), ((fun ix wz u => True : Nat → World → Value → Prop) ix wz u) → ((fun ix wz u => True : Nat → World → Value → Prop) ix wz' u) := fun g wz wz' kz hz ix u h => trivial
          replace FS := Lib.hid FS
          replace FB := Lib.hid FB
          refine wp_region_each (fun ix uR => match ix with | 0 => uR = .slice (some ⟨b7, o7, none⟩) GL.length c7 | 1 => uR = .int .i64 (i : Nat) | 2 => uR = .pointer (some ⟨b7, o7 + i, none⟩) | 3 => uR = .slice AS nS cs | 4 => uR = .slice (some ⟨b8, o8, none⟩) GM.length c8 | 5 => uR = .int .i64 (k : Nat) | 6 => uR = .pointer (some ⟨b8, o8 + k, none⟩) | 7 => uR = .slice AO m co | 8 => uR = .agg #[.slice AS nS cs, .slice AO m co] | _ => True) (HvA wr 69 #[.slice none 0 0, .slice none 0 0] 9 10 8 (fun ix wz u => True)) (by kernel_rfl) (by kernel_rfl) (by kernel_rfl) ?_ ?_ ?_
          · exact HvA.start _ _ _ _ _ _ _
          · refine ⟨?_, ?_, ?_, ?_, ?_, ?_, ?_, ?_, ?_, ?_, ?_, trivial⟩
            · intro r a w' hf hg hW hr hd K hK
              refine wpOp_of rfl rfl ?_
              have e0 : a.tmps.getD 7 undef = .slice (some ⟨b7, o7, none⟩) GL.length c7 := hf.evalFree (by kernel_rfl)
              go_simp
              exact hK _ _ rfl (hW.upd 0 _ hr (by decide) (by decide) trivial)
            · intro r a w' hf hg hW hr hd K hK
              refine wpOp_of rfl rfl ?_
              have e0 : a.tmps.getD 12 undef = .int .i64 (i : Nat) := hf.evalFree (by kernel_rfl)
              go_simp
              exact hK _ _ rfl (hW.upd 1 _ hr (by decide) (by decide) trivial)
            · intro r a w' hf hg hW hr hd K hK
              refine wpOp_of rfl rfl ?_
              refine hf.depE hg hd 0 51 (by kernel_rfl) fun u0 e0 g0 h0 => ?_
              replace g0 : u0 = .slice (some ⟨b7, o7, none⟩) GL.length c7 := g0
              subst g0
              refine hf.depE hg hd 1 52 (by kernel_rfl) fun u1 e1 g1 h1 => ?_
              replace g1 : u1 = .int .i64 (i : Nat) := g1
              subst g1
              go_simp
              exact hK _ _ rfl (hW.upd 2 _ hr (by decide) (by decide) trivial)
            · intro r a w' hf hg hW hr hd K hK
              refine wpOp_of rfl rfl ?_
              refine hf.depE hg hd 2 53 (by kernel_rfl) fun u0 e0 g0 h0 => ?_
              replace g0 : u0 = .pointer (some ⟨b7, o7 + i, none⟩) := g0
              subst g0
              have z0 := hW.kp.cell cS id
              go_simp
              exact hK _ _ rfl (hW.upd 3 _ hr (by decide) (by decide) trivial)
            · intro r a w' hf hg hW hr hd K hK
              refine wpOp_of rfl rfl ?_
              have e0 : a.tmps.getD 13 undef = .slice (some ⟨b8, o8, none⟩) GM.length c8 := hf.evalFree (by kernel_rfl)
              go_simp
              exact hK _ _ rfl (hW.upd 4 _ hr (by decide) (by decide) trivial)
            · intro r a w' hf hg hW hr hd K hK
              refine wpOp_of rfl rfl ?_
              have e0 : a.tmps.getD 14 undef = .int .i64 (k : Nat) := hf.evalFree (by kernel_rfl)
              go_simp
              exact hK _ _ rfl (hW.upd 5 _ hr (by decide) (by decide) trivial)
            · intro r a w' hf hg hW hr hd K hK
              refine wpOp_of rfl rfl ?_
              refine hf.depE hg hd 4 55 (by kernel_rfl) fun u0 e0 g0 h0 => ?_
              replace g0 : u0 = .slice (some ⟨b8, o8, none⟩) GM.length c8 := g0
              subst g0
              refine hf.depE hg hd 5 56 (by kernel_rfl) fun u1 e1 g1 h1 => ?_
              replace g1 : u1 = .int .i64 (k : Nat) := g1
              subst g1
              go_simp
              exact hK _ _ rfl (hW.upd 6 _ hr (by decide) (by decide) trivial)
            · intro r a w' hf hg hW hr hd K hK
              refine wpOp_of rfl rfl ?_
              refine hf.depE hg hd 6 57 (by kernel_rfl) fun u0 e0 g0 h0 => ?_
              replace g0 : u0 = .pointer (some ⟨b8, o8 + k, none⟩) := g0
              subst g0
              have z0 := hW.kp.cell cO id
              go_simp
              exact hK _ _ rfl (hW.upd 7 _ hr (by decide) (by decide) trivial)
            · intro r a w' hf hg hW hr hd K hK
              refine wpOp_of rfl rfl ?_
              refine hf.depE hg hd 3 54 (by kernel_rfl) fun u0 e0 g0 h0 => ?_
              replace g0 : u0 = .slice AS nS cs := g0
              subst g0
              have e0' := get_of_getD e0
              refine hf.depE hg hd 7 58 (by kernel_rfl) fun u1 e1 g1 h1 => ?_
              replace g1 : u1 = .slice AO m co := g1
              subst g1
              have e1' := get_of_getD e1
              go_simp
              exact hK _ _ rfl (hW.upd 8 _ hr (by decide) (by decide) trivial)
            · intro r a w' hf hg hW hr hd K hK
              refine wpOp_of rfl rfl ?_
              go_simp
              exact hK _ _ trivial (hW.alloc FS.out hr (by decide) trivial)
            · intro r a w' hf hg hW hr hd K hK
              refine wpOp_of rfl rfl ?_
              refine hf.depE hg hd 9 15 (by kernel_rfl) fun u0 e0 g0 h0 => ?_
              refine hf.depE hg hd 8 59 (by kernel_rfl) fun u1 e1 g1 h1 => ?_
              replace g1 : u1 = .agg #[.slice AS nS cs, .slice AO m co] := g1
              subst g1
              obtain ⟨g0, rfl, hg0, hh0⟩ := hW.b0 hr _ h0
              obtain ⟨x0, x1, y0, y1⟩ := two_cells hh0
              go_simp
              exact hK undef _ trivial (hW.store h0 hg0 (FB.out _ _ _ (kpTwo _ _ (.slice AS nS cs) (.slice AO m co)) hh0) (by decide) (by decide) h1 (kpTwo _ _ (.slice AS nS cs) (.slice AO m co)) (setTwo (.slice AS nS cs) (.slice AO m co) hh0) _ trivial)
          intro r' w5 hg hW hr'
          have hkN := hW.kp
          obtain ⟨q8, hq8⟩ : ∃ u, r' 8 = some u := Option.ne_none_iff_exists'.1 (hr' 8 (by decide))
          have hk8 := hg 8 q8 hq8
          replace hk8 : q8 = .agg #[.slice AS nS cs, .slice AO m co] := hk8
          subst hk8
          obtain ⟨g0, cs, hg0, hl0, hcs, hB⟩ := hW.b1 (hr' 10 (by decide))
          simp only [List.length_cons, List.length_nil, Nat.reduceAdd, List.range_succ, List.range_zero, List.nil_append, List.cons_append, List.map_cons, List.map_nil, putAll, Act.put, List.setIfInBounds_toArray, List.set_cons_succ, List.set_cons_zero, hq8, hg0, Option.getD_some]
          clear hg hW hr' FS FB hg0
          rw [hq8] at hcs
          injection hcs with hcs
          injection hcs with hcs
          subst hcs
          have KN := Lib.hid hkN
          obtain ⟨x0, x1, _, _⟩ := two_cells hB
          have KZ := Lib.hid ((KPP.out.tr KQ.out).tr (KN.out.mono fun _ _ h => False.elim h))
          have p0 := KZ.out.cell HP0.out (fun e => HPB.out.1 e)
          have p1 := KZ.out.cell HP1.out (fun e => HPB.out.1 e)
          have p2 := KZ.out.cell HP2.out (fun e => HPB.out.1 e)
          have HRK := Lib.hid (rank_any P A nS ca l AS cs S AO m co ON w5 ((HX.out.no HK3.out).kp KZ.out (fun b o _ hb e => by have e : b = gB := e; have := HPB.out.2; omega)) (RS.out.1.no KN.out) (RS.out.2.no KN.out) (by omega) HOK.out HMM.out.symm (by omega) (by omega))
          obtain ⟨rv, hrv⟩ : ∃ r, rankV P l S ON = r := ⟨_, rfl⟩
          have HRV := Lib.hid hrv
          rw [hrv] at HRK
          unfold Pt.val at HRK
          clear hrv hB hq8 hkN cS cO KZ
          cases rv with
          | none =>
            simp only [rkVal] at HRK
            go_wp2_with fail
            with_reducible refine HRK.out.mono ?_
            rintro e w6 ⟨rfl, k6⟩
            have KL := Lib.hid (KQ.out.tr ((KN.out.tr k6).mono fun _ _ h => False.elim h))
            have RP6 := Lib.hid (RPK.out.no (KN.out.tr k6))
            have HNX := Lib.hid (nstep_none (R := R1) HRV.out)
            clear HRK k6 p0 p1 p2 x0 x1
            go_wp2_with fail
            go_roundw
            case rel => exact ⟨k + 1, by omega, by go_num, by rw [HSN.out, HNX.out]; exact RP6.out, KL.out⟩
            case measure => simp [intOf]; omega
          | some q =>
            obtain ⟨nn, hh⟩ := q
            simp only [rkVal] at HRK
            go_wp2_with fail
            with_reducible refine HRK.out.mono ?_
            rintro e w6 ⟨rfl, k6⟩
            have KL := Lib.hid (KQ.out.tr ((KN.out.tr k6).mono fun _ _ h => False.elim h))
            have RP6 := Lib.hid (RPK.out.no (KN.out.tr k6))
            replace RS := Lib.hid (And.intro (RS.out.1.no (KN.out.tr k6)) (RS.out.2.no (KN.out.tr k6)))
            replace x0 := k6.cell x0 id
            replace x1 := k6.cell x1 id
            clear HRK k6 p0 p1 p2 RPK KN
            rcases R1 with _ | ⟨S', ON', c, d⟩
            · obtain ⟨rfl, rfl, rfl, hbx⟩ := RP6.out
              have HBX6 := Lib.hid hbx
              obtain ⟨_, _, z0, z1⟩ := two_cells hbx
              have HNX := Lib.hid (nstep_new HRV.out)
              clear hbx RP6
              have K7 := kpTwo w6 gB (.slice AS nS cs) (.slice AO m co)
              have H7 := Lib.hid (setTwo (.slice AS nS cs) (.slice AO m co) HBX6.out)
              go_wp2_with fail
              generalize ((w6.setCell ⟨gB, 0, none⟩ (.slice AS nS cs)).setCell ⟨gB, 1, none⟩ (.slice AO m co)) = w7 at *
              have HRS := Lib.hid (show RepR gB nS w7 (some (S, ON, nn, hh)) (.int .i64 nn) (.int .i64 hh) (.bool true) from ⟨rfl, rfl, rfl, SM.out.1, SM.out.2, AS, cs, AO, m, co, H7.out, RS.out.1.kp K7 (fun b o e _ h => SB.out.1 b o e h), RS.out.2.kp K7 (fun b o e _ h => SB.out.2 b o e h), SB.out.1, SB.out.2⟩)
              have KK := Lib.hid (KL.out.tr K7)
              clear K7
              go_wp2_with fail
              go_roundw
              case rel => exact ⟨k + 1, by omega, by go_num, by rw [HSN.out, HNX.out]; exact HRS.out, KK.out⟩
              case measure => simp [intOf]; omega
            · obtain ⟨rfl, rfl, rfl, hS', hON', AS', cs', AO', m', co', hbx, r1, r2, n1, n2⟩ := RP6.out
              have HBX6 := Lib.hid hbx
              obtain ⟨y0, y1, z0, z1⟩ := two_cells hbx
              have HMM' := Lib.hid (show m' = cntF S' by rw [← nat_len r2, (grpR_mem _ _ hON').1])
              have HLE := Lib.hid (rless_any AS nS cs S AO m co ON AS' cs' S' AO' m' co' ON' w6 RS.out.1 RS.out.2 r1 r2 (by omega) (fun s hs => by have := cntF_lt s hs; have := HMM.out; omega) (fun s hs => by have := cntF_lt s hs; have := HMM'.out; omega))
              clear hbx hS' hON' r1 r2 n1 n2
              by_cases h1 : nn < c
              · have HNX := Lib.hid (nstep_yes (S' := S') (ON' := ON') (c := c) (d := d) HRV.out (by unfold betB; simp [h1]))
                clear RP6 HLE
                have K7 := kpTwo w6 gB (.slice AS nS cs) (.slice AO m co)
                have H7 := Lib.hid (setTwo (.slice AS nS cs) (.slice AO m co) HBX6.out)
                go_wp2_with fail
                generalize ((w6.setCell ⟨gB, 0, none⟩ (.slice AS nS cs)).setCell ⟨gB, 1, none⟩ (.slice AO m co)) = w7 at *
                have HRS := Lib.hid (show RepR gB nS w7 (some (S, ON, nn, hh)) (.int .i64 nn) (.int .i64 hh) (.bool true) from ⟨rfl, rfl, rfl, SM.out.1, SM.out.2, AS, cs, AO, m, co, H7.out, RS.out.1.kp K7 (fun b o e _ h => SB.out.1 b o e h), RS.out.2.kp K7 (fun b o e _ h => SB.out.2 b o e h), SB.out.1, SB.out.2⟩)
                have KK := Lib.hid (KL.out.tr K7)
                clear K7
                go_wp2_with fail
                go_roundw
                case rel => exact ⟨k + 1, by omega, by go_num, by rw [HSN.out, HNX.out]; exact HRS.out, KK.out⟩
                case measure => simp [intOf]; omega
              · by_cases h2 : nn = c
                · subst h2
                  by_cases h3 : hh < d
                  · have HNX := Lib.hid (nstep_yes (S' := S') (ON' := ON') (c := nn) (d := d) HRV.out (by unfold betB; simp [h3]))
                    clear RP6 HLE
                    have K7 := kpTwo w6 gB (.slice AS nS cs) (.slice AO m co)
                    have H7 := Lib.hid (setTwo (.slice AS nS cs) (.slice AO m co) HBX6.out)
                    go_wp2_with fail
                    generalize ((w6.setCell ⟨gB, 0, none⟩ (.slice AS nS cs)).setCell ⟨gB, 1, none⟩ (.slice AO m co)) = w7 at *
                    have HRS := Lib.hid (show RepR gB nS w7 (some (S, ON, nn, hh)) (.int .i64 nn) (.int .i64 hh) (.bool true) from ⟨rfl, rfl, rfl, SM.out.1, SM.out.2, AS, cs, AO, m, co, H7.out, RS.out.1.kp K7 (fun b o e _ h => SB.out.1 b o e h), RS.out.2.kp K7 (fun b o e _ h => SB.out.2 b o e h), SB.out.1, SB.out.2⟩)
                    have KK := Lib.hid (KL.out.tr K7)
                    clear K7
                    go_wp2_with fail
                    go_roundw
                    case rel => exact ⟨k + 1, by omega, by go_num, by rw [HSN.out, HNX.out]; exact HRS.out, KK.out⟩
                    case measure => simp [intOf]; omega
                  · by_cases h4 : hh = d
                    · subst h4
                      obtain ⟨lv, hlv⟩ : ∃ b, lessL (prs S ON) (prs S' ON') = b := ⟨_, rfl⟩
                      rw [hlv] at HLE
                      have HLV := Lib.hid hlv
                      clear hlv
                      cases lv
                      · have HNX := Lib.hid (nstep_no (S' := S') (ON' := ON') (c := nn) (d := hh) HRV.out (by unfold betB; rw [HLV.out]; simp))
                        go_wp2_with fail
                        with_reducible refine HLE.out.mono ?_
                        rintro e w8 ⟨rfl, k8⟩
                        replace RP6 := Lib.hid (RP6.out.no k8)
                        replace KL := Lib.hid (KL.out.tr (k8.mono fun _ _ h => False.elim h))
                        clear k8 HLE x0 x1 y0 y1 z0 z1 HBX6
                        go_wp2_with fail
                        go_roundw
                        case rel => exact ⟨k + 1, by omega, by go_num, by rw [HSN.out, HNX.out]; exact RP6.out, KL.out⟩
                        case measure => simp [intOf]; omega
                      · have HNX := Lib.hid (nstep_yes (S' := S') (ON' := ON') (c := nn) (d := hh) HRV.out (by unfold betB; rw [HLV.out]; simp))
                        go_wp2_with fail
                        with_reducible refine HLE.out.mono ?_
                        rintro e w8 ⟨rfl, k8⟩
                        replace KL := Lib.hid (KL.out.tr (k8.mono fun _ _ h => False.elim h))
                        replace RS := Lib.hid (And.intro (RS.out.1.no k8) (RS.out.2.no k8))
                        replace HBX6 := Lib.hid (k8.heap HBX6.out id)
                        replace x0 := k8.cell x0 id
                        replace x1 := k8.cell x1 id
                        obtain ⟨_, _, z0', z1'⟩ := two_cells HBX6.out
                        clear k8 HLE y0 y1 z0 z1 RP6
                        clear w6
                        obtain ⟨w6, rfl⟩ : ∃ w : World, w = w8 := ⟨_, rfl⟩
                        have K7 := kpTwo w6 gB (.slice AS nS cs) (.slice AO m co)
                        have H7 := Lib.hid (setTwo (.slice AS nS cs) (.slice AO m co) HBX6.out)
                        go_wp2_with fail
                        generalize ((w6.setCell ⟨gB, 0, none⟩ (.slice AS nS cs)).setCell ⟨gB, 1, none⟩ (.slice AO m co)) = w7 at *
                        have HRS := Lib.hid (show RepR gB nS w7 (some (S, ON, nn, hh)) (.int .i64 nn) (.int .i64 hh) (.bool true) from ⟨rfl, rfl, rfl, SM.out.1, SM.out.2, AS, cs, AO, m, co, H7.out, RS.out.1.kp K7 (fun b o e _ h => SB.out.1 b o e h), RS.out.2.kp K7 (fun b o e _ h => SB.out.2 b o e h), SB.out.1, SB.out.2⟩)
                        have KK := Lib.hid (KL.out.tr K7)
                        clear K7
                        go_wp2_with fail
                        go_roundw
                        case rel => exact ⟨k + 1, by omega, by go_num, by rw [HSN.out, HNX.out]; exact HRS.out, KK.out⟩
                        case measure => simp [intOf]; omega
                    · have HNX := Lib.hid (nstep_no (S' := S') (ON' := ON') (c := nn) (d := d) HRV.out (by unfold betB; simp [h3, h4]))
                      have h4' : (hh = d) = False := eq_false h4
                      clear HLE y0 y1 x0 x1 z0 z1 HBX6
                      go_wp2_with fail
                      go_roundw
                      case rel => exact ⟨k + 1, by omega, by go_num, by rw [HSN.out, HNX.out]; exact RP6.out, KL.out⟩
                      case measure => simp [intOf]; omega
                · have HNX := Lib.hid (nstep_no (S' := S') (ON' := ON') (c := c) (d := d) HRV.out (by unfold betB; simp [h1, h2]))
                  have h2' : (nn = c) = False := eq_false h2
                  clear HLE y0 y1 x0 x1 z0 z1 HBX6
                  go_wp2_with fail
                  go_roundw
                  case rel => exact ⟨k + 1, by omega, by go_num, by rw [HSN.out, HNX.out]; exact RP6.out, KL.out⟩
                  case measure => simp [intOf]; omega
        · obtain rfl : k = GM.length := by omega
          have HRO := Lib.hid (show RepR gB nS wr ((GL.take (i + 1)).foldl (fun B S => (grpR (cntF S)).foldl (nstep P l S) B) none) _ _ _ from by
            have h := RPK.out
            rw [List.take_of_length_le (Nat.le_refl _)] at h
            rw [HSF.out]
            exact h)
          have KO := Lib.hid (KPP.out.tr KQ.out)
          clear RPK KQ
          go_wp2_with fail
          go_roundw
          case rel => exact ⟨i + 1, by omega, by go_num, HRO.out, KO.out⟩
          case measure => simp [intOf]; omega
    · obtain rfl : i = GL.length := by omega
      obtain ⟨S, ON, nn, hh, hr, hl, hg, hol, hgt, hHl, hnf⟩ := HRF.out
      have hrp := RP.out
      rw [List.take_of_length_le (Nat.le_refl _), ← HFR.out, hr] at hrp
      obtain ⟨rfl, rfl, rfl, hS, hON, AS, cs, AO, m, co, hbx, r1, r2, n1, n2⟩ := hrp
      obtain ⟨y0, y1, _, _⟩ := two_cells hbx
      have p0 := KP.out.cell HP0.out (fun e => HPB.out.1 e)
      have p1 := KP.out.cell HP1.out (fun e => HPB.out.1 e)
      have p2 := KP.out.cell HP2.out (fun e => HPB.out.1 e)
      have hSc := (grpR_mem _ _ hS).2
      have HSP := Lib.hid (rspots_any P A n ca l AS cs S AO m co ON (hrun [] S (l.map Ct.h)) wr ((HX.out.no HK3.out).kp KP.out (fun b o _ hb e => by have e : b = gB := e; have := HPB.out.2; omega)) r1 r2 (by omega) HOK.out (by rw [← nat_len r2, hol]) (by rw [← nat_len r2, hol]; omega) hgt)
      unfold Pt.val at HSP
      rw [← hnf] at HSP
      have KF := Lib.hid (kp_one_in HK3.out KP.out (by have := HPB.out.2; have := HK3.out.size; omega))
      clear hr hl hg hol hgt hHl hnf hbx r1 r2 n1 n2 hS hON RP HRF hSc
      go_wp2_with fail
      with_reducible refine HSP.out.mono ?_
      rintro e w9 ⟨A', c', rfl, hrd, k9⟩
      have HRD := Lib.hid hrd
      have K9 := Lib.hid (KF.out.tr k9)
      clear hrd k9 HSP KF
      go_wp2_with fail
      exact bodyPost_ret (v := .tuple #[.slice A' n c', .int .i64 0]) (by simp [results, Try.results10, go_sem]) rfl ⟨A', n, c', by rw [HNZ.out], by rw [HL2.out]; exact HRD.out, K9.out⟩
end Go.Proofs.Ytamjhpdgclbfgaa
