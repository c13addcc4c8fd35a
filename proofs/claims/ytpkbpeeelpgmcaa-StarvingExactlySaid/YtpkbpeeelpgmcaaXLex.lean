/- Chapter 15: law StarvingExactly. Printed by gen_lex.py SEAT NUMBER-OF-StarvingExactly. -/
import Derived.Test.YtpkbpeeelpgmcaaXShnM
import Derived.Test.YtpkbpeeelpgmcaaXLprPM
import Derived.Test.YtpkbpeeelpgmcaaXLexQ
import Derived.Test.YtpkbpeeelpgmcaaXCoAM
import Derived.Test.YtpkbpeeelpgmcaaXWdL
namespace Go.Proofs.Ytpkbpeeelpgmcaa
open Go.RowKit Go.Kq Go.Flow

def LesIs (w : World) (c : Cb) (u : Value) : Prop := ∃ y : Cv, u = y.val ∧ y.c = c ∧ CvIs w y
theorem LesIs.no {c : Cb} {u : Value} {w w' : World} (h : LesIs w c u) (k : Kp No w w') : LesIs w' c u := by
  obtain ⟨y, h1, h2, h3⟩ := h
  exact ⟨y, h1, h2, h3.no k⟩
/-- Some of the first k is contained. -/
def anyT (L : List Cb) (c : Cb) (k : Nat) : Bool := (L.take k).any fun x => x.inB c
theorem anyT_succ {L : List Cb} {c x : Cb} {k : Nat} (h : L[k]? = some x) : anyT L c (k + 1) = (anyT L c k || x.inB c) := by
  unfold anyT
  rw [List.take_add_one, h, List.any_append]
  simp
set_option maxHeartbeats 8000000 in
set_option maxRecDepth 100000 in
theorem exactly_any (Z : Nz) (l : List Sto) (vs : List Sv) (A B C P Q : Option Addr) (ca cb n cc p cp q cq : Nat) (S K : List Int) (w : World) (hR : RdNz w A B Z) (hS : RdSt w C n vs l) (hP : RdI .i64 w P p S) (hQ : RdI .i64 w Q q K) (hpb : p ≤ maxLen) (hqb : q ≤ maxLen) :
    Calls Try.prog 3 #[windV Z A B C ca cb n cc, comboV P p cp Q q cq] w fun e w' => e = .returned (.bool true) ∧ Kp No w w' := by
  obtain ⟨g, hg⟩ : ∃ g, g = w.heap.size := ⟨_, rfl⟩
  obtain ⟨w0, hw0⟩ : ∃ w0, (w.alloc (.cells #[.int .i64 Z.n, .slice A Z.tr.length ca, .slice B Z.ch.length cb, .slice C n cc] 28)).alloc (.cells #[.slice P p cp, .slice Q q cq] 30) = w0 := ⟨_, rfl⟩
  have hk0 : Kp No w w0 := by rw [← hw0]; exact (Kp.alloc _ _ _).tr (Kp.alloc _ _ _)
  have HBX := Lib.hid (show w0.heap[g]? = some (.cells #[.int .i64 Z.n, .slice A Z.tr.length ca, .slice B Z.ch.length cb, .slice C n cc] 28 (0, 0)) by rw [← hw0, hg]; exact (Kp.alloc No _ _).heap (heap_alloc_new w _) id)
  have HBC := Lib.hid (show w0.heap[g + 1]? = some (.cells #[.slice P p cp, .slice Q q cq] 30 (0, 0)) by
    rw [← hw0, hg]
    have := heap_alloc_new (w.alloc (.cells #[.int .i64 Z.n, .slice A Z.tr.length ca, .slice B Z.ch.length cb, .slice C n cc] 28)) (.cells #[.slice P p cp, .slice Q q cq] 30)
    simpa using this)
  have HK := Lib.hid hk0
  have HR := Lib.hid (hR.no hk0)
  have HS := Lib.hid (hS.no hk0)
  have HP := Lib.hid (hP.no hk0)
  have HQ := Lib.hid (hQ.no hk0)
  have FA := far_any Z l vs A B C ca cb n cc w0 HS.out
  have RC := fun W (k : Kp No w0 W) => rWcheck_any Z l vs A B C ca cb n cc W (HR.out.no k) (HS.out.no k)
  have LB := fun c W (k : Kp No w0 W) hc hz => Least_bad Z l vs A B C ca cb n cc c W (HR.out.no k) (HS.out.no k) hc hz
  have SB := fun c W (k : Kp No w0 W) (hp : p ≤ 9223372036854775807) (hq : q ≤ 9223372036854775807) (hc : AskW Z l S K c) (hz : c ≠ 0) => Starves_bad Z l vs A B C P Q ca cb n cc p cp q cq S K c W (HR.out.no k) (HS.out.no k) (HP.out.no k) (HQ.out.no k) hp hq hc hz
  unfold maxLen at hpb hqb
  unfold windV at FA RC LB SB ⊢
  unfold comboV at SB ⊢
  replace FA := Lib.hid FA
  replace RC := Lib.hid RC
  replace LB := Lib.hid LB
  replace SB := Lib.hid SB
  clear hk0 hR hS hP hQ
  obtain ⟨p0, p1, p2, p3⟩ := four_at HBX.out
  obtain ⟨q0, q1, _, _⟩ := cell_head HBC.out
  subst hg
  go_enter Try.func3, Try.ntmps3
  go_wp2_with fail
  with_reducible refine FA.out.mono ?_
  rintro e w1 ⟨b, rfl, k1⟩
  have K1 := Lib.hid k1
  have B1 := Lib.hid (k1.heap HBX.out id)
  have C1 := Lib.hid (k1.heap HBC.out id)
  clear p0 p1 p2 p3 q0 q1 k1
  obtain ⟨p0, p1, p2, p3⟩ := four_at B1.out
  obtain ⟨q0, q1, _, _⟩ := cell_head C1.out
  cases b with
  | true =>
    go_wp2_with fail
    with_reducible refine (shown_any _).mono ?_
    rintro e w2 ⟨rfl, k2⟩
    go_wp2_with fail
    go_ret
    exact ⟨rfl, HK.out.tr (K1.out.tr k2)⟩
  | false =>
    obtain ⟨eN, heN⟩ : ∃ eN, wrap64 ((p : Int) + (q : Int)) = eN := ⟨_, rfl⟩
    by_cases h100 : 100 < eN
    · have d0 : decide (100 < eN) = true := decide_eq_true h100
      clear h100
      go_wp2_with fail
      with_reducible refine (shown_any _).mono ?_
      rintro e w2 ⟨rfl, k2⟩
      go_wp2_with fail
      go_ret
      exact ⟨rfl, HK.out.tr (K1.out.tr k2)⟩
    have d0 : decide (100 < eN) = false := decide_eq_false h100
    clear h100
    obtain ⟨cz, hcz⟩ := chkW_total Z l
    by_cases hz : cz = 0
    rotate_left
    · have LX := Lib.hid (LB.out cz w1 K1.out hcz hz)
      have d1 : (cz != 0) = true := by rw [bne_iff_ne]; exact hz
      have HCZ := Lib.hid hcz
      clear hz hcz
      go_wp2_with fail
      with_reducible refine LX.out.mono ?_
      rintro e w2 ⟨rfl, k2⟩
      have K2 := Lib.hid (K1.out.tr k2)
      have B2 := Lib.hid (k2.heap B1.out id)
      have RX := Lib.hid (RC.out w2 K2.out)
      clear p0 p1 p2 p3 q0 q1 k2
      obtain ⟨p0, p1, p2, p3⟩ := four_at B2.out
      by_cases h5 : cz = 5
      · subst h5
        go_wp2_with fail
        with_reducible refine (shown_any _).mono ?_
        rintro e w3 ⟨rfl, k3⟩
        go_wp2_with fail
        go_ret
        exact ⟨rfl, HK.out.tr (K2.out.tr k3)⟩
      · have d5 : (cz == 5) = false := by rw [beq_eq_false_iff_ne]; exact h5
        clear h5
        go_wp2_with fail
        with_reducible refine RX.out.mono ?_
        rintro e w3 ⟨c3, rfl, hc3, k3⟩
        obtain rfl := hc3.uniq HCZ.out
        have K3 := Lib.hid (K2.out.tr k3)
        have d6 : (c3 == c3) = true := by simp
        clear k3 hc3
        go_wp2_with fail
        with_reducible refine (shown_any _).mono ?_
        rintro e w4 ⟨rfl, k4⟩
        go_wp2_with fail
        go_ret
        exact ⟨rfl, HK.out.tr (K3.out.tr k4)⟩
    subst hz
    obtain ⟨N, hN, rfl, hok⟩ := chk_net hcz
    have HUP := Lib.hid (star_up hok)
    have LO := fun W (k : Kp No w0 W) => Least_ok N hN l vs A B C ca cb n cc W (rdnet_z (HR.out.no k)) (HS.out.no k) hcz
    have SO := fun y W (k : Kp No w0 W) (hy : CvIs W y) (hcb : CbOk l.length (keysN l) y.c) => starves_cb N hN l vs A B C ca cb n cc y W (rdnet_z (HR.out.no k)) (HS.out.no k) hy hcz hcb
    have HCZ := Lib.hid hcz
    have HOK := Lib.hid hok
    unfold LeaR at LO
    unfold windV at LO SO
    rw [nz_ch, nz_tr] at LO SO
    rw [nz_ch] at p2
    rw [nz_tr] at p1
    simp only [show (nz N).n = (N.n : Int) from rfl] at LO SO p0
    have LX := Lib.hid (LO w1 K1.out)
    replace SO := Lib.hid SO
    have HBX1 := Lib.hid (show w1.heap[w.heap.size]? = some (.cells #[.int .i64 N.n, .slice A N.tr.length ca, .slice B N.ch.length cb, .slice C n cc] 28 (0, 0)) from by
      have h := B1.out
      rw [nz_ch, nz_tr] at h
      exact h)
    have hl8 := hok.l8
    have hk8 := hok.k8
    have HL8 := Lib.hid (show l.length ≤ 8 ∧ keysN l ≤ 8 from ⟨hl8, hk8⟩)
    clear LO B1 hok hcz hl8 hk8 hN
    go_wp2_with fail
    with_reducible refine LX.out.mono ?_
    rintro e w2 ⟨k2, v, rfl, hcase⟩
    have K2 := Lib.hid (K1.out.tr k2)
    have B2 := Lib.hid (k2.heap HBX1.out id)
    have C2 := Lib.hid (k2.heap C1.out id)
    clear p0 p1 p2 p3 q0 q1 k2
    obtain ⟨p0, p1, p2, p3⟩ := four_at B2.out
    obtain ⟨q0, q1, _, _⟩ := cell_head C2.out
    rcases hcase with ⟨h200, rfl⟩ | ⟨h200, out, hout, hown, hel⟩
    · have he5 : leaE l.length (keysN l) (starC N l) = 5 := by unfold leaE; rw [if_pos h200]
      rw [he5]
      clear h200 he5
      go_wp2_with fail
      with_reducible refine (shown_any _).mono ?_
      rintro e w3 ⟨rfl, k3⟩
      go_wp2_with fail
      go_ret
      exact ⟨rfl, HK.out.tr (K2.out.tr k3)⟩
    have he0 : leaE l.length (keysN l) (starC N l) = 0 := by unfold leaE; rw [if_neg (by omega)]
    rw [he0]
    clear he0
    obtain ⟨M, hM⟩ : ∃ M, M = out.length := ⟨_, rfl⟩
    have hM2 : M ≤ 200 := by rw [hM, ← List.length_map (f := Cv.c), hout]; exact h200
    rw [← hM] at hown
    obtain ⟨GA, GC, rfl, _⟩ := own_form hown
    have HRD := Lib.hid (show Rd Cv.cells 2 w2 GA M out from Rd.of_own cv_len (by decide) hown)
    have HM := Lib.hid hM
    have HOUT := Lib.hid hout
    have HEL := Lib.hid hel
    have HML := Lib.hid (show ∀ k (x : Cv), out[k]? = some x → (leaC l.length (keysN l) (starC N l))[k]? = some x.c from fun k x hx => by rw [← hout, List.getElem?_map, hx]; rfl)
    have HXO := Lib.hid (show ∀ k (x : Cv), out[k]? = some x → CbOk l.length (keysN l) x.c ∧ CvO w2 w1.heap.size x ∧ x.p ≤ 8 ∧ x.q ≤ 8 from fun k x hx => by
      have h1 := (mem_leaC.1 (List.mem_of_getElem? (HML.out k x hx))).1
      have h2 := hel x (List.mem_of_getElem? hx)
      have h3 := h2.len
      have h4 := up_len h1.s1 h1.s2
      have h5 := up_len h1.k1 h1.k2
      have := HL8.out
      exact ⟨h1, h2, by omega, by omega⟩)
    clear h200 hown hM hout hel
    go_wp2_with fail
    go_loopw [7] (fun vi wr => ∃ k : Nat, k ≤ M ∧ vi = .int .i64 (k : Nat) ∧ Kp No w2 wr) (fun vi _ => M - (intOf vi).toNat)
    case atStart => exact ⟨0, by omega, rfl, Kp.refl _ _⟩
    case round =>
      obtain ⟨k, hk, rfl, hkp⟩ := hrel
      obtain ⟨wo, rfl⟩ : ∃ wo, wo = wr := ⟨_, rfl⟩
      have HKP := Lib.hid hkp
      have BW := Lib.hid (hkp.heap B2.out id)
      have CW := Lib.hid (hkp.heap C2.out id)
      have HKW := Lib.hid (K2.out.tr hkp)
      clear p0 p1 p2 p3 q0 q1 hkp
      obtain ⟨p0, p1, p2, p3⟩ := four_at BW.out
      obtain ⟨q0, q1, _, _⟩ := cell_head CW.out
      by_cases hlt : k < M
      · obtain ⟨x, hx⟩ : ∃ x, out[k]? = some x := ⟨_, List.getElem?_eq_getElem (by rw [← HM.out]; exact hlt)⟩
        obtain ⟨hcb, hxo, hxp, hxq⟩ := HXO.out k x hx
        have HLE := Lib.hid (HML.out k x hx)
        have HCB := Lib.hid hcb
        have HXW := Lib.hid (hxo.no HKP.out)
        obtain ⟨b, o, rfl, hb, hcc⟩ := HRD.out.2 k x hx
        have hcc' := fun j u (h : x.cells[j]? = some u) => HKP.out.cell (hcc j u h) id
        have SX := fun W (k' : Kp No wo W) => SO.out x W (HKW.out.tr k') (HXW.out.is.no k') hcb
        rw [least_yes (List.mem_of_getElem? HLE.out)] at SX
        unfold SvR at SX
        have HX := Lib.hid hx
        obtain ⟨⟨hc1, hc1'⟩, ⟨hc2, hc2'⟩⟩ := hxo.caps
        have LSX := Lib.hid (fun (i : Nat) W (k' : Kp No wo W) (hi : i < x.p + x.q) => less_any x i W (HXW.out.is.no k') hi (by omega) (by omega) ⟨hc1, hc1'⟩ ⟨hc2, hc2'⟩)
        have HXL := Lib.hid (show x.p = x.c.st.length ∧ x.q = x.c.ky.length from HXW.out.len)
        clear hc1 hc1' hc2 hc2' hx hxo hcb hcc
        obtain ⟨X, hXX⟩ : ∃ X : Cv, X = x := ⟨_, rfl⟩
        obtain ⟨XP, xp, xcp, XQ, xq, xcq, xc⟩ := x
        simp only [Cv.val] at SX LSX
        dsimp only at LSX HXL HLE HCB
        dsimp only at hxp hxq
        have z0 := hcc' 0 _ rfl
        have z1 := hcc' 1 _ rfl
        simp only [Nat.add_zero] at z0 z1
        have HZ0 := Lib.hid z0
        have HZ1 := Lib.hid z1
        replace SX := Lib.hid SX
        have HXX := Lib.hid hXX
        clear hcc' hXX
        go_wp2_with fail
        have FS : Stab (fun ix wz u => (ix = 5 → SvU true wz u) ∧ (ix = 6 → SvU true wz u) ∧ True) := fun ix u wz wz' kz h => ⟨fun e => SvU.no (h.1 e) kz, fun e => SvU.no (h.2.1 e) kz, trivial⟩
        replace FS := Lib.hid FS
        refine wp_region_each (fun ix uR => match ix with | 0 => uR = .agg #[.int .i64 N.n, .slice A N.tr.length ca, .slice B N.ch.length cb, .slice C n cc] | 1 => uR = .slice (some ⟨b, o, none⟩) M GC | 2 => uR = .int .i64 (k : Nat) | 3 => uR = .pointer (some ⟨b, o + k * 2, none⟩) | 4 => uR = .agg #[.slice XP xp xcp, .slice XQ xq xcq] | 7 => uR = .bool true | 9 => uR = .int .i64 0 | 10 => uR = .bool true | 12 => uR = .int .i64 0 | _ => True) (HvW wo (fun ix wz u => (ix = 5 → SvU true wz u) ∧ (ix = 6 → SvU true wz u) ∧ True)) (by kernel_rfl) (by kernel_rfl) (by kernel_rfl) ?_ ?_ ?_
        · exact HvW.start _ _
        · refine ⟨?_, ?_, ?_, ?_, ?_, ?_, ?_, ?_, ?_, ?_, ?_, ?_, ?_, trivial⟩
          · intro r a w' hf hg hW hr hd K hK
            refine wpOp_of rfl rfl ?_
            have e0 : a.tmps.getD 2 undef = .pointer (some ⟨w.heap.size, 0, none⟩) := hf.evalFree (by kernel_rfl)
            have z0 := hW.kp.cell p0 id
            have z1 := hW.kp.cell p1 id
            have z2 := hW.kp.cell p2 id
            have z3 := hW.kp.cell p3 id
            go_simp
            exact hK _ _ rfl (hW.upd 0 _ ⟨fun e => absurd e (by decide), fun e => absurd e (by decide), trivial⟩)
          · intro r a w' hf hg hW hr hd K hK
            refine wpOp_of rfl rfl ?_
            have e0 : a.tmps.getD 5 undef = .slice (some ⟨b, o, none⟩) M GC := hf.evalFree (by kernel_rfl)
            go_simp
            exact hK _ _ rfl (hW.upd 1 _ ⟨fun e => absurd e (by decide), fun e => absurd e (by decide), trivial⟩)
          · intro r a w' hf hg hW hr hd K hK
            refine wpOp_of rfl rfl ?_
            have e0 : a.tmps.getD 7 undef = .int .i64 (k : Nat) := hf.evalFree (by kernel_rfl)
            go_simp
            exact hK _ _ rfl (hW.upd 2 _ ⟨fun e => absurd e (by decide), fun e => absurd e (by decide), trivial⟩)
          · intro r a w' hf hg hW hr hd K hK
            refine wpOp_of rfl rfl ?_
            refine hf.depE hg hd 1 60 (by kernel_rfl) fun u0 e0 g0 h0 => ?_
            replace g0 : u0 = .slice (some ⟨b, o, none⟩) M GC := g0
            subst g0
            refine hf.depE hg hd 2 61 (by kernel_rfl) fun u1 e1 g1 h1 => ?_
            replace g1 : u1 = .int .i64 (k : Nat) := g1
            subst g1
            go_simp
            exact hK _ _ rfl (hW.upd 3 _ ⟨fun e => absurd e (by decide), fun e => absurd e (by decide), trivial⟩)
          · intro r a w' hf hg hW hr hd K hK
            refine wpOp_of rfl rfl ?_
            refine hf.depE hg hd 3 62 (by kernel_rfl) fun u0 e0 g0 h0 => ?_
            replace g0 : u0 = .pointer (some ⟨b, o + k * 2, none⟩) := g0
            subst g0
            have z0 := hW.kp.cell z0 id
            have z1 := hW.kp.cell z1 id
            go_simp
            exact hK _ _ rfl (hW.upd 4 _ ⟨fun e => absurd e (by decide), fun e => absurd e (by decide), trivial⟩)
          · intro r a w' hf hg hW hr hd K hK
            refine wpOp_of rfl rfl ?_
            refine hf.depE hg hd 0 59 (by kernel_rfl) fun u0 e0 g0 h0 => ?_
            replace g0 : u0 = .agg #[.int .i64 N.n, .slice A N.tr.length ca, .slice B N.ch.length cb, .slice C n cc] := g0
            subst g0
            refine hf.depE hg hd 4 63 (by kernel_rfl) fun u1 e1 g1 h1 => ?_
            replace g1 : u1 = .agg #[.slice XP xp xcp, .slice XQ xq xcq] := g1
            subst g1
            go_simp
            with_reducible refine (SX.out _ hW.kp).mono ?_
            rintro e w'' ⟨A9, n9, c9, rfl, k⟩
            exact hK _ _ trivial ((hW.call FS.out k).upd 5 _ ⟨fun _ => ⟨A9, n9, c9, rfl⟩, fun e => absurd e (by decide), trivial⟩)
          · intro r a w' hf hg hW hr hd K hK
            refine wpOp_of rfl rfl ?_
            refine hf.depE hg hd 5 64 (by kernel_rfl) fun u0 e0 g0 h0 => ?_
            have f0 := (hW.hv 5 u0 h0).1 rfl
            go_simp
            exact hK _ _ trivial (hW.upd 6 _ ⟨fun e => absurd e (by decide), fun _ => f0, trivial⟩)
          · intro r a w' hf hg hW hr hd K hK
            refine wpOp_of rfl rfl ?_
            refine hf.depE hg hd 6 58 (by kernel_rfl) fun u0 e0 g0 h0 => ?_
            have f0 := (hW.hv 6 u0 h0).2.1 rfl
            obtain ⟨A9, n9, c9, rfl⟩ := f0
            go_simp
            exact hK _ _ rfl (hW.upd 7 _ ⟨fun e => absurd e (by decide), fun e => absurd e (by decide), trivial⟩)
          · intro r a w' hf hg hW hr hd K hK
            refine wpOp_of rfl rfl ?_
            refine hf.depE hg hd 6 58 (by kernel_rfl) fun u0 e0 g0 h0 => ?_
            have f0 := (hW.hv 6 u0 h0).2.1 rfl
            obtain ⟨A9, n9, c9, rfl⟩ := f0
            go_simp
            exact hK _ _ trivial (hW.upd 8 _ ⟨fun e => absurd e (by decide), fun e => absurd e (by decide), trivial⟩)
          · intro r a w' hf hg hW hr hd K hK
            refine wpOp_of rfl rfl ?_
            refine hf.depE hg hd 6 58 (by kernel_rfl) fun u0 e0 g0 h0 => ?_
            have f0 := (hW.hv 6 u0 h0).2.1 rfl
            obtain ⟨A9, n9, c9, rfl⟩ := f0
            go_simp
            exact hK _ _ rfl (hW.upd 9 _ ⟨fun e => absurd e (by decide), fun e => absurd e (by decide), trivial⟩)
          · intro r a w' hf hg hW hr hd K hK
            refine wpOp_of rfl rfl ?_
            refine hf.depE hg hd 7 65 (by kernel_rfl) fun u0 e0 g0 h0 => ?_
            replace g0 : u0 = .bool true := g0
            subst g0
            go_simp
            exact hK _ _ rfl (hW.upd 10 _ ⟨fun e => absurd e (by decide), fun e => absurd e (by decide), trivial⟩)
          · intro r a w' hf hg hW hr hd K hK
            refine wpOp_of rfl rfl ?_
            refine hf.depE hg hd 8 66 (by kernel_rfl) fun u0 e0 g0 h0 => ?_
            go_simp
            exact hK _ _ trivial (hW.upd 11 _ ⟨fun e => absurd e (by decide), fun e => absurd e (by decide), trivial⟩)
          · intro r a w' hf hg hW hr hd K hK
            refine wpOp_of rfl rfl ?_
            refine hf.depE hg hd 9 67 (by kernel_rfl) fun u0 e0 g0 h0 => ?_
            replace g0 : u0 = .int .i64 0 := g0
            subst g0
            go_simp
            exact hK _ _ rfl (hW.upd 12 _ ⟨fun e => absurd e (by decide), fun e => absurd e (by decide), trivial⟩)
        intro r' w3 hg hW hr'
        have hkN := hW.kp
        obtain ⟨q5, hq5⟩ : ∃ u, r' 5 = some u := Option.ne_none_iff_exists'.1 (hr' 5 (by decide))
        have hF5 := (hW.hv 5 q5 hq5).1 rfl
        obtain ⟨q6, hq6⟩ : ∃ u, r' 6 = some u := Option.ne_none_iff_exists'.1 (hr' 6 (by decide))
        have hF6 := (hW.hv 6 q6 hq6).2.1 rfl
        obtain ⟨q8, hq8⟩ : ∃ u, r' 8 = some u := Option.ne_none_iff_exists'.1 (hr' 8 (by decide))
        obtain ⟨q10, hq10⟩ : ∃ u, r' 10 = some u := Option.ne_none_iff_exists'.1 (hr' 10 (by decide))
        have hk10 := hg 10 q10 hq10
        replace hk10 : q10 = .bool true := hk10
        subst hk10
        obtain ⟨q11, hq11⟩ : ∃ u, r' 11 = some u := Option.ne_none_iff_exists'.1 (hr' 11 (by decide))
        obtain ⟨q12, hq12⟩ : ∃ u, r' 12 = some u := Option.ne_none_iff_exists'.1 (hr' 12 (by decide))
        have hk12 := hg 12 q12 hq12
        replace hk12 : q12 = .int .i64 0 := hk12
        subst hk12
        simp only [List.length_cons, List.length_nil, Nat.reduceAdd, List.range_succ, List.range_zero, List.nil_append, List.cons_append, List.map_cons, List.map_nil, putAll, Act.put, List.setIfInBounds_toArray, List.set_cons_succ, List.set_cons_zero, hq5, hq6, hq8, hq10, hq11, hq12, Option.getD_some]
        clear hg hW hr' FS hq5 hq6 hq8 hq10 hq11 hq12
        have K3 := Lib.hid hkN
        have B3 := Lib.hid (K3.out.heap BW.out id)
        have C3 := Lib.hid (K3.out.heap CW.out id)
        have HKW3 := Lib.hid (HKW.out.tr K3.out)
        have HKP3 := Lib.hid (HKP.out.tr K3.out)
        clear hkN p0 p1 p2 p3 q0 q1 z0 z1
        obtain ⟨p0, p1, p2, p3⟩ := four_at B3.out
        have z0 := K3.out.cell HZ0.out id
        have z1 := K3.out.cell HZ1.out id
        go_wp2_with fail
        have HNO := Lib.hid (show ∀ i, i < xp + xq → starC N l (lessC xc i) = false from fun i hi => least_no (List.mem_of_getElem? HLE.out) (by have := HXL.out; omega))
        have HXQ := Lib.hid (show xp ≤ 8 ∧ xq ≤ 8 from ⟨hxp, hxq⟩)
        by_cases hk0 : k = 0
        · have dk : decide ((0 : Int) < (k : Int)) = false := decide_eq_false (by omega)
          have dk' : decide (0 < k) = false := decide_eq_false (by omega)
          clear hk0
          have FS : Stab (fun ix wz u => True) := fun ix u wz wz' kz h => trivial
          replace FS := Lib.hid FS
          refine wp_region_each (fun ix uR => match ix with | 0 => uR = .int .i64 0 | 1 => uR = .bool false | 2 => uR = .bool false | 3 => uR = .bool true | 4 => uR = .bool false | 5 => uR = .bool false | 6 => uR = .bool false | 7 => uR = .int .i64 (k : Nat) | 8 => uR = .bool false | 9 => uR = .bool false | 10 => uR = undef | 11 => uR = undef | 12 => uR = undef | 13 => uR = undef | 14 => uR = undef | 15 => uR = undef | 16 => uR = undef | 17 => uR = undef | 18 => uR = undef | 19 => uR = undef | 20 => uR = undef | 21 => uR = .bool false | 22 => uR = .bool false | _ => True) (HvW w3 (fun ix wz u => True)) (by kernel_rfl) (by kernel_rfl) (by kernel_rfl) ?_ ?_ ?_
          · exact HvW.start _ _
          · refine ⟨?_, ?_, ?_, ?_, ?_, ?_, ?_, ?_, ?_, ?_, ?_, ?_, ?_, ?_, ?_, ?_, ?_, ?_, ?_, ?_, ?_, ?_, ?_, trivial⟩
            · intro r a w' hf hg hW hr hd K hK
              refine wpOp_of rfl rfl ?_
              have e0 : a.tmps.getD 10 undef = .int .i64 0 := hf.evalFree (by kernel_rfl)
              go_simp
              exact hK _ _ rfl (hW.upd 0 _ trivial)
            · intro r a w' hf hg hW hr hd K hK
              refine wpOp_of rfl rfl ?_
              refine hf.depE hg hd 0 68 (by kernel_rfl) fun u0 e0 g0 h0 => ?_
              replace g0 : u0 = .int .i64 0 := g0
              subst g0
              go_simp
              exact hK _ _ rfl (hW.upd 1 _ trivial)
            · intro r a w' hf hg hW hr hd K hK
              refine wpOp_of rfl rfl ?_
              refine hf.depE hg hd 1 69 (by kernel_rfl) fun u0 e0 g0 h0 => ?_
              replace g0 : u0 = .bool false := g0
              subst g0
              go_simp
              exact hK _ _ rfl (hW.upd 2 _ trivial)
            · intro r a w' hf hg hW hr hd K hK
              refine hf.depE hg hd 2 70 (by kernel_rfl) fun uG eG gG _ => ?_
              replace gG : uG = .bool false := gG
              subst gG
              refine wpOp_run rfl rfl rfl rfl eG ?_
              have e0 : a.tmps.getD 8 undef = .bool true := hf.evalFree (by kernel_rfl)
              go_simp
              exact hK _ _ rfl (hW.upd 3 _ trivial)
            · intro r a w' hf hg hW hr hd K hK
              refine hf.depE hg hd 2 70 (by kernel_rfl) fun uG eG gG _ => ?_
              replace gG : uG = .bool false := gG
              subst gG
              refine wpOp_run rfl rfl rfl rfl eG ?_
              refine hf.depE hg hd 3 71 (by kernel_rfl) fun u0 e0 g0 h0 => ?_
              replace g0 : u0 = .bool true := g0
              subst g0
              go_simp
              exact hK _ _ rfl (hW.upd 4 _ trivial)
            · intro r a w' hf hg hW hr hd K hK
              refine wpOp_of rfl rfl ?_
              refine hf.depE hg hd 2 70 (by kernel_rfl) fun u0 e0 g0 h0 => ?_
              replace g0 : u0 = .bool false := g0
              subst g0
              have e0' := get_of_getD e0
              refine hf.depE hg hd 4 72 (by kernel_rfl) fun u1 e1 g1 h1 => ?_
              replace g1 : u1 = .bool false := g1
              subst g1
              have e1' := get_of_getD e1
              go_simp
              exact hK _ _ rfl (hW.upd 5 _ trivial)
            · intro r a w' hf hg hW hr hd K hK
              refine wpOp_of rfl rfl ?_
              refine hf.depE hg hd 5 73 (by kernel_rfl) fun u0 e0 g0 h0 => ?_
              replace g0 : u0 = .bool false := g0
              subst g0
              go_simp
              exact hK _ _ rfl (hW.upd 6 _ trivial)
            · intro r a w' hf hg hW hr hd K hK
              refine hf.depE hg hd 6 74 (by kernel_rfl) fun uG eG gG _ => ?_
              replace gG : uG = .bool false := gG
              subst gG
              refine wpOp_run rfl rfl rfl rfl eG ?_
              have e0 : a.tmps.getD 7 undef = .int .i64 (k : Nat) := hf.evalFree (by kernel_rfl)
              go_simp
              exact hK _ _ rfl (hW.upd 7 _ trivial)
            · intro r a w' hf hg hW hr hd K hK
              refine hf.depE hg hd 6 74 (by kernel_rfl) fun uG eG gG _ => ?_
              replace gG : uG = .bool false := gG
              subst gG
              refine wpOp_run rfl rfl rfl rfl eG ?_
              refine hf.depE hg hd 7 75 (by kernel_rfl) fun u0 e0 g0 h0 => ?_
              replace g0 : u0 = .int .i64 (k : Nat) := g0
              subst g0
              go_simp
              exact hK _ _ rfl (hW.upd 8 _ trivial)
            · intro r a w' hf hg hW hr hd K hK
              refine hf.depE hg hd 6 74 (by kernel_rfl) fun uG eG gG _ => ?_
              replace gG : uG = .bool false := gG
              subst gG
              refine wpOp_run rfl rfl rfl rfl eG ?_
              refine hf.depE hg hd 8 76 (by kernel_rfl) fun u0 e0 g0 h0 => ?_
              replace g0 : u0 = .bool false := g0
              subst g0
              go_simp
              exact hK _ _ rfl (hW.upd 9 _ trivial)
            · intro r a w' hf hg hW hr hd K hK
              refine hf.depE hg hd 9 77 (by kernel_rfl) fun uG eG gG _ => ?_
              replace gG : uG = .bool false := gG
              subst gG
              refine wpOp_skip rfl rfl rfl rfl eG (by decide) ?_
              exact hK _ _ rfl (hW.upd 10 _ trivial)
            · intro r a w' hf hg hW hr hd K hK
              refine hf.depE hg hd 9 77 (by kernel_rfl) fun uG eG gG _ => ?_
              replace gG : uG = .bool false := gG
              subst gG
              refine wpOp_skip rfl rfl rfl rfl eG (by decide) ?_
              exact hK _ _ rfl (hW.upd 11 _ trivial)
            · intro r a w' hf hg hW hr hd K hK
              refine hf.depE hg hd 9 77 (by kernel_rfl) fun uG eG gG _ => ?_
              replace gG : uG = .bool false := gG
              subst gG
              refine wpOp_skip rfl rfl rfl rfl eG (by decide) ?_
              exact hK _ _ rfl (hW.upd 12 _ trivial)
            · intro r a w' hf hg hW hr hd K hK
              refine hf.depE hg hd 9 77 (by kernel_rfl) fun uG eG gG _ => ?_
              replace gG : uG = .bool false := gG
              subst gG
              refine wpOp_skip rfl rfl rfl rfl eG (by decide) ?_
              exact hK _ _ rfl (hW.upd 13 _ trivial)
            · intro r a w' hf hg hW hr hd K hK
              refine hf.depE hg hd 9 77 (by kernel_rfl) fun uG eG gG _ => ?_
              replace gG : uG = .bool false := gG
              subst gG
              refine wpOp_skip rfl rfl rfl rfl eG (by decide) ?_
              exact hK _ _ rfl (hW.upd 14 _ trivial)
            · intro r a w' hf hg hW hr hd K hK
              refine hf.depE hg hd 9 77 (by kernel_rfl) fun uG eG gG _ => ?_
              replace gG : uG = .bool false := gG
              subst gG
              refine wpOp_skip rfl rfl rfl rfl eG (by decide) ?_
              exact hK _ _ rfl (hW.upd 15 _ trivial)
            · intro r a w' hf hg hW hr hd K hK
              refine hf.depE hg hd 9 77 (by kernel_rfl) fun uG eG gG _ => ?_
              replace gG : uG = .bool false := gG
              subst gG
              refine wpOp_skip rfl rfl rfl rfl eG (by decide) ?_
              exact hK _ _ rfl (hW.upd 16 _ trivial)
            · intro r a w' hf hg hW hr hd K hK
              refine hf.depE hg hd 9 77 (by kernel_rfl) fun uG eG gG _ => ?_
              replace gG : uG = .bool false := gG
              subst gG
              refine wpOp_skip rfl rfl rfl rfl eG (by decide) ?_
              exact hK _ _ rfl (hW.upd 17 _ trivial)
            · intro r a w' hf hg hW hr hd K hK
              refine hf.depE hg hd 9 77 (by kernel_rfl) fun uG eG gG _ => ?_
              replace gG : uG = .bool false := gG
              subst gG
              refine wpOp_skip rfl rfl rfl rfl eG (by decide) ?_
              exact hK _ _ rfl (hW.upd 18 _ trivial)
            · intro r a w' hf hg hW hr hd K hK
              refine hf.depE hg hd 9 77 (by kernel_rfl) fun uG eG gG _ => ?_
              replace gG : uG = .bool false := gG
              subst gG
              refine wpOp_skip rfl rfl rfl rfl eG (by decide) ?_
              exact hK _ _ rfl (hW.upd 19 _ trivial)
            · intro r a w' hf hg hW hr hd K hK
              refine hf.depE hg hd 9 77 (by kernel_rfl) fun uG eG gG _ => ?_
              replace gG : uG = .bool false := gG
              subst gG
              refine wpOp_skip rfl rfl rfl rfl eG (by decide) ?_
              exact hK _ _ rfl (hW.upd 20 _ trivial)
            · intro r a w' hf hg hW hr hd K hK
              refine hf.depE hg hd 6 74 (by kernel_rfl) fun uG eG gG _ => ?_
              replace gG : uG = .bool false := gG
              subst gG
              refine wpOp_run rfl rfl rfl rfl eG ?_
              refine hf.depE hg hd 9 77 (by kernel_rfl) fun u0 e0 g0 h0 => ?_
              replace g0 : u0 = .bool false := g0
              subst g0
              have e0' := get_of_getD e0
              refine hf.depE hg hd 20 88 (by kernel_rfl) fun u1 e1 g1 h1 => ?_
              replace g1 : u1 = undef := g1
              subst g1
              have e1' := get_of_getD e1
              go_simp
              exact hK _ _ rfl (hW.upd 21 _ trivial)
            · intro r a w' hf hg hW hr hd K hK
              refine wpOp_of rfl rfl ?_
              refine hf.depE hg hd 6 74 (by kernel_rfl) fun u0 e0 g0 h0 => ?_
              replace g0 : u0 = .bool false := g0
              subst g0
              have e0' := get_of_getD e0
              refine hf.depE hg hd 21 89 (by kernel_rfl) fun u1 e1 g1 h1 => ?_
              replace g1 : u1 = .bool false := g1
              subst g1
              have e1' := get_of_getD e1
              go_simp
              exact hK _ _ rfl (hW.upd 22 _ trivial)
          intro r' w4 hg hW hr'
          have hkN := hW.kp
          obtain ⟨q22, hq22⟩ : ∃ u, r' 22 = some u := Option.ne_none_iff_exists'.1 (hr' 22 (by decide))
          have hk22 := hg 22 q22 hq22
          replace hk22 : q22 = .bool false := hk22
          subst hk22
          simp only [List.length_cons, List.length_nil, Nat.reduceAdd, List.range_succ, List.range_zero, List.nil_append, List.cons_append, List.map_cons, List.map_nil, putAll, Act.put, List.setIfInBounds_toArray, List.set_cons_succ, List.set_cons_zero, hq22, Option.getD_some]
          clear hg hW hr' FS hq22
          have K4 := Lib.hid hkN
          have B4 := Lib.hid (K4.out.heap B3.out id)
          have C4 := Lib.hid (K4.out.heap C3.out id)
          have HKW4 := Lib.hid (HKW3.out.tr K4.out)
          have HKP4 := Lib.hid (HKP3.out.tr K4.out)
          have HKO4 := Lib.hid (K3.out.tr K4.out)
          clear hkN p0 p1 p2 p3 z0 z1 dk dk'
          go_wp2_with fail
          go_loopw [11] (fun vi wr' => ∃ i : Nat, i ≤ xp + xq ∧ vi = .int .i64 (i : Nat) ∧ Kp No w4 wr') (fun vi _ => xp + xq - (intOf vi).toNat)
          case atStart => exact ⟨0, by omega, rfl, Kp.refl _ _⟩
          case round =>
            obtain ⟨i, hi, rfl, hki⟩ := hrel
            have HKI := Lib.hid hki
            have HKO := Lib.hid (HKO4.out.tr hki)
            have HKWI := Lib.hid (HKW4.out.tr hki)
            have BI := Lib.hid (hki.heap B4.out id)
            have CI := Lib.hid (hki.heap C4.out id)
            obtain ⟨p0, p1, p2, p3⟩ := four_at BI.out
            have z0 := HKO.out.cell HZ0.out id
            have z1 := HKO.out.cell HZ1.out id
            have ES := Lib.hid (show wrap64 ((xp : Int) + (xq : Int)) = (xp : Int) + (xq : Int) from IntWalk.wrap64_in _ (by omega))
            have ES' := Lib.hid (show IntKind.i64.wrap ((xp : Int) + (xq : Int)) = (xp : Int) + (xq : Int) from wraps_i64 _ (by omega) (by omega))
            clear hki
            by_cases hlt2 : i < xp + xq
            · have d2 : decide ((i : Int) < (xp : Int) + (xq : Int)) = true := decide_eq_true (by omega)
              by_cases h12 : k < 12
              · have d3 : decide ((k : Int) < 12) = true := decide_eq_true (by omega)
                have HIL := Lib.hid hlt2
                have es := ES.out
                have es' := ES'.out
                go_wp2_with fail
                go_quiet (fail)
                clear es es' p0 p1 p2 p3 z0 z1
                go_wp2_with fail
                have hk5 : Kp No wr (wr.drewN nq) := Kp.drewN _ _ _
                generalize wr.drewN nq = w5 at hk5 ⊢
                obtain ⟨p0, p1, p2, p3⟩ := four_at (hk5.heap BI.out id)
                have z0 := (HKO.out.tr hk5).cell HZ0.out id
                have z1 := (HKO.out.tr hk5).cell HZ1.out id
                have HKO5 := Lib.hid (HKO.out.tr hk5)
                have HKWI5 := Lib.hid (HKWI.out.tr hk5)
                have K5 := Lib.hid (HKI.out.tr hk5)
                clear hk5
                have FS : Stab (fun ix wz u => (ix = 6 → LesIs wz (lessC xc i) u) ∧ (ix = 7 → SvU false wz u) ∧ (ix = 8 → SvU false wz u) ∧ True) := fun ix u wz wz' kz h => ⟨fun e => LesIs.no (h.1 e) kz, fun e => SvU.no (h.2.1 e) kz, fun e => SvU.no (h.2.2.1 e) kz, trivial⟩
                replace FS := Lib.hid FS
                refine wp_region_each (fun ix uR => match ix with | 0 => uR = .agg #[.int .i64 N.n, .slice A N.tr.length ca, .slice B N.ch.length cb, .slice C n cc] | 1 => uR = .slice (some ⟨b, o, none⟩) M GC | 2 => uR = .int .i64 (k : Nat) | 3 => uR = .pointer (some ⟨b, o + k * 2, none⟩) | 4 => uR = .agg #[.slice XP xp xcp, .slice XQ xq xcq] | 5 => uR = .int .i64 (i : Nat) | 9 => uR = .bool false | 11 => uR = .int .i64 0 | 12 => uR = .bool false | 13 => uR = .int .i64 0 | _ => True) (HvW w5 (fun ix wz u => (ix = 6 → LesIs wz (lessC xc i) u) ∧ (ix = 7 → SvU false wz u) ∧ (ix = 8 → SvU false wz u) ∧ True)) (by kernel_rfl) (by kernel_rfl) (by kernel_rfl) ?_ ?_ ?_
                · exact HvW.start _ _
                · refine ⟨?_, ?_, ?_, ?_, ?_, ?_, ?_, ?_, ?_, ?_, ?_, ?_, ?_, ?_, trivial⟩
                  · intro r a w' hf hg hW hr hd K hK
                    refine wpOp_of rfl rfl ?_
                    have e0 : a.tmps.getD 2 undef = .pointer (some ⟨w.heap.size, 0, none⟩) := hf.evalFree (by kernel_rfl)
                    have z0 := hW.kp.cell p0 id
                    have z1 := hW.kp.cell p1 id
                    have z2 := hW.kp.cell p2 id
                    have z3 := hW.kp.cell p3 id
                    go_simp
                    exact hK _ _ rfl (hW.upd 0 _ ⟨fun e => absurd e (by decide), fun e => absurd e (by decide), fun e => absurd e (by decide), trivial⟩)
                  · intro r a w' hf hg hW hr hd K hK
                    refine wpOp_of rfl rfl ?_
                    have e0 : a.tmps.getD 5 undef = .slice (some ⟨b, o, none⟩) M GC := hf.evalFree (by kernel_rfl)
                    go_simp
                    exact hK _ _ rfl (hW.upd 1 _ ⟨fun e => absurd e (by decide), fun e => absurd e (by decide), fun e => absurd e (by decide), trivial⟩)
                  · intro r a w' hf hg hW hr hd K hK
                    refine wpOp_of rfl rfl ?_
                    have e0 : a.tmps.getD 7 undef = .int .i64 (k : Nat) := hf.evalFree (by kernel_rfl)
                    go_simp
                    exact hK _ _ rfl (hW.upd 2 _ ⟨fun e => absurd e (by decide), fun e => absurd e (by decide), fun e => absurd e (by decide), trivial⟩)
                  · intro r a w' hf hg hW hr hd K hK
                    refine wpOp_of rfl rfl ?_
                    refine hf.depE hg hd 1 114 (by kernel_rfl) fun u0 e0 g0 h0 => ?_
                    replace g0 : u0 = .slice (some ⟨b, o, none⟩) M GC := g0
                    subst g0
                    refine hf.depE hg hd 2 115 (by kernel_rfl) fun u1 e1 g1 h1 => ?_
                    replace g1 : u1 = .int .i64 (k : Nat) := g1
                    subst g1
                    go_simp
                    exact hK _ _ rfl (hW.upd 3 _ ⟨fun e => absurd e (by decide), fun e => absurd e (by decide), fun e => absurd e (by decide), trivial⟩)
                  · intro r a w' hf hg hW hr hd K hK
                    refine wpOp_of rfl rfl ?_
                    refine hf.depE hg hd 3 116 (by kernel_rfl) fun u0 e0 g0 h0 => ?_
                    replace g0 : u0 = .pointer (some ⟨b, o + k * 2, none⟩) := g0
                    subst g0
                    have z0 := hW.kp.cell z0 id
                    have z1 := hW.kp.cell z1 id
                    go_simp
                    exact hK _ _ rfl (hW.upd 4 _ ⟨fun e => absurd e (by decide), fun e => absurd e (by decide), fun e => absurd e (by decide), trivial⟩)
                  · intro r a w' hf hg hW hr hd K hK
                    refine wpOp_of rfl rfl ?_
                    have e0 : a.tmps.getD 11 undef = .int .i64 (i : Nat) := hf.evalFree (by kernel_rfl)
                    go_simp
                    exact hK _ _ rfl (hW.upd 5 _ ⟨fun e => absurd e (by decide), fun e => absurd e (by decide), fun e => absurd e (by decide), trivial⟩)
                  · intro r a w' hf hg hW hr hd K hK
                    refine wpOp_of rfl rfl ?_
                    refine hf.depE hg hd 4 117 (by kernel_rfl) fun u0 e0 g0 h0 => ?_
                    replace g0 : u0 = .agg #[.slice XP xp xcp, .slice XQ xq xcq] := g0
                    subst g0
                    refine hf.depE hg hd 5 118 (by kernel_rfl) fun u1 e1 g1 h1 => ?_
                    replace g1 : u1 = .int .i64 (i : Nat) := g1
                    subst g1
                    go_simp
                    with_reducible refine (LSX.out i _ (HKO5.out.tr hW.kp) HIL.out).mono ?_
                    rintro e w'' ⟨y, rfl, hyc, hyi, k⟩
                    exact hK _ _ trivial ((hW.call FS.out k).upd 6 _ ⟨fun _ => ⟨y, rfl, hyc, hyi⟩, fun e => absurd e (by decide), fun e => absurd e (by decide), trivial⟩)
                  · intro r a w' hf hg hW hr hd K hK
                    refine wpOp_of rfl rfl ?_
                    refine hf.depE hg hd 0 113 (by kernel_rfl) fun u0 e0 g0 h0 => ?_
                    replace g0 : u0 = .agg #[.int .i64 N.n, .slice A N.tr.length ca, .slice B N.ch.length cb, .slice C n cc] := g0
                    subst g0
                    refine hf.depE hg hd 6 119 (by kernel_rfl) fun u1 e1 g1 h1 => ?_
                    have f1 := (hW.hv 6 u1 h1).1 rfl
                    obtain ⟨y, hu, hyc, hyi⟩ := f1
                    subst hu
                    have SY := SO.out y _ (HKWI5.out.tr hW.kp) hyi (by rw [hyc]; exact lessC_ok HCB.out i)
                    rw [hyc, HNO.out i HIL.out] at SY
                    unfold SvR at SY
                    go_simp
                    with_reducible refine SY.mono ?_
                    rintro e w'' ⟨A9, n9, c9, rfl, k⟩
                    exact hK _ _ trivial ((hW.call FS.out k).upd 7 _ ⟨fun e => absurd e (by decide), fun _ => ⟨A9, n9, c9, rfl⟩, fun e => absurd e (by decide), trivial⟩)
                  · intro r a w' hf hg hW hr hd K hK
                    refine wpOp_of rfl rfl ?_
                    refine hf.depE hg hd 7 120 (by kernel_rfl) fun u0 e0 g0 h0 => ?_
                    have f0 := (hW.hv 7 u0 h0).2.1 rfl
                    go_simp
                    exact hK _ _ trivial (hW.upd 8 _ ⟨fun e => absurd e (by decide), fun e => absurd e (by decide), fun _ => f0, trivial⟩)
                  · intro r a w' hf hg hW hr hd K hK
                    refine wpOp_of rfl rfl ?_
                    refine hf.depE hg hd 8 112 (by kernel_rfl) fun u0 e0 g0 h0 => ?_
                    have f0 := (hW.hv 8 u0 h0).2.2.1 rfl
                    obtain ⟨A9, n9, c9, rfl⟩ := f0
                    go_simp
                    exact hK _ _ rfl (hW.upd 9 _ ⟨fun e => absurd e (by decide), fun e => absurd e (by decide), fun e => absurd e (by decide), trivial⟩)
                  · intro r a w' hf hg hW hr hd K hK
                    refine wpOp_of rfl rfl ?_
                    refine hf.depE hg hd 8 112 (by kernel_rfl) fun u0 e0 g0 h0 => ?_
                    have f0 := (hW.hv 8 u0 h0).2.2.1 rfl
                    obtain ⟨A9, n9, c9, rfl⟩ := f0
                    go_simp
                    exact hK _ _ trivial (hW.upd 10 _ ⟨fun e => absurd e (by decide), fun e => absurd e (by decide), fun e => absurd e (by decide), trivial⟩)
                  · intro r a w' hf hg hW hr hd K hK
                    refine wpOp_of rfl rfl ?_
                    refine hf.depE hg hd 8 112 (by kernel_rfl) fun u0 e0 g0 h0 => ?_
                    have f0 := (hW.hv 8 u0 h0).2.2.1 rfl
                    obtain ⟨A9, n9, c9, rfl⟩ := f0
                    go_simp
                    exact hK _ _ rfl (hW.upd 11 _ ⟨fun e => absurd e (by decide), fun e => absurd e (by decide), fun e => absurd e (by decide), trivial⟩)
                  · intro r a w' hf hg hW hr hd K hK
                    refine wpOp_of rfl rfl ?_
                    refine hf.depE hg hd 9 121 (by kernel_rfl) fun u0 e0 g0 h0 => ?_
                    replace g0 : u0 = .bool false := g0
                    subst g0
                    go_simp
                    exact hK _ _ rfl (hW.upd 12 _ ⟨fun e => absurd e (by decide), fun e => absurd e (by decide), fun e => absurd e (by decide), trivial⟩)
                  · intro r a w' hf hg hW hr hd K hK
                    refine wpOp_of rfl rfl ?_
                    refine hf.depE hg hd 11 123 (by kernel_rfl) fun u0 e0 g0 h0 => ?_
                    replace g0 : u0 = .int .i64 0 := g0
                    subst g0
                    go_simp
                    exact hK _ _ rfl (hW.upd 13 _ ⟨fun e => absurd e (by decide), fun e => absurd e (by decide), fun e => absurd e (by decide), trivial⟩)
                intro r' w6 hg hW hr'
                have hkN := hW.kp
                obtain ⟨q6, hq6⟩ : ∃ u, r' 6 = some u := Option.ne_none_iff_exists'.1 (hr' 6 (by decide))
                have hF6 := (hW.hv 6 q6 hq6).1 rfl
                obtain ⟨q7, hq7⟩ : ∃ u, r' 7 = some u := Option.ne_none_iff_exists'.1 (hr' 7 (by decide))
                have hF7 := (hW.hv 7 q7 hq7).2.1 rfl
                obtain ⟨q8, hq8⟩ : ∃ u, r' 8 = some u := Option.ne_none_iff_exists'.1 (hr' 8 (by decide))
                have hF8 := (hW.hv 8 q8 hq8).2.2.1 rfl
                obtain ⟨q10, hq10⟩ : ∃ u, r' 10 = some u := Option.ne_none_iff_exists'.1 (hr' 10 (by decide))
                obtain ⟨q12, hq12⟩ : ∃ u, r' 12 = some u := Option.ne_none_iff_exists'.1 (hr' 12 (by decide))
                have hk12 := hg 12 q12 hq12
                replace hk12 : q12 = .bool false := hk12
                subst hk12
                obtain ⟨q13, hq13⟩ : ∃ u, r' 13 = some u := Option.ne_none_iff_exists'.1 (hr' 13 (by decide))
                have hk13 := hg 13 q13 hq13
                replace hk13 : q13 = .int .i64 0 := hk13
                subst hk13
                simp only [List.length_cons, List.length_nil, Nat.reduceAdd, List.range_succ, List.range_zero, List.nil_append, List.cons_append, List.map_cons, List.map_nil, putAll, Act.put, List.setIfInBounds_toArray, List.set_cons_succ, List.set_cons_zero, hq6, hq7, hq8, hq10, hq12, hq13, Option.getD_some]
                clear hg hW hr' FS hq6 hq7 hq8 hq10 hq12 hq13
                have K6 := Lib.hid (K5.out.tr hkN)
                clear hkN p0 p1 p2 p3 z0 z1
                go_wp2_with fail
                go_roundw
                case rel => exact ⟨i + 1, by omega, by go_num, K6.out⟩
                case measure => simp [intOf]; omega
              · have d3 : decide ((k : Int) < 12) = false := decide_eq_false (by omega)
                have es := ES.out
                have es' := ES'.out
                go_wp2_with fail
                go_quiet (fail)
                clear es es'
                go_wp2_with fail
                go_roundw
                case rel => exact ⟨k + 1, by omega, by go_num, HKP4.out.tr (HKI.out.tr (Kp.drewN _ _ _))⟩
                case measure => simp [intOf]; omega
            · have d2 : decide ((i : Int) < (xp : Int) + (xq : Int)) = false := decide_eq_false (by omega)
              have es := ES.out
              have es' := ES'.out
              go_wp2_with fail
              go_quiet (fail)
              clear es es'
              go_wp2_with fail
              go_roundw
              case rel => exact ⟨k + 1, by omega, by go_num, HKP4.out.tr (HKI.out.tr (Kp.drewN _ _ _))⟩
              case measure => simp [intOf]; omega
        · obtain ⟨j, hj⟩ : ∃ j, k = j + 1 := ⟨k - 1, by omega⟩
          have dk : decide ((0 : Int) < (k : Int)) = true := decide_eq_true (by omega)
          have dk' : decide (0 < k) = true := decide_eq_true (by omega)
          have ekj : wrap64 ((k : Int) - 1) = (j : Int) := by rw [IntWalk.wrap64_in _ (by omega)]; omega
          have ekj' : IntKind.i64.wrap ((k : Int) - 1) = (j : Int) := by rw [IntKind.wrap_i64]; omega
          have hjM : j < M := by omega
          have hjM' : (j : Int) < (M : Int) := by omega
          have hkM' : (k : Int) < (M : Int) := by omega
          obtain ⟨y, hy⟩ : ∃ y, out[j]? = some y := ⟨_, List.getElem?_eq_getElem (by rw [← HM.out]; exact hjM)⟩
          obtain ⟨_, hyo, hyp, hyq⟩ := HXO.out j y hy
          have HYW := Lib.hid (hyo.no HKP3.out)
          have HLT9 := Lib.hid (show cmpC y.c xc < 0 from least_up (HML.out j y hy) (by rw [← hj]; exact HLE.out))
          obtain ⟨b', o', hbo, _, hcc2⟩ := HRD.out.2 j y hy
          injection hbo with hbo
          injection hbo with hb1 ho1
          subst hb1 ho1
          have hcc3 := fun j u (h : y.cells[j]? = some u) => HKP3.out.cell (hcc2 j u h) id
          obtain ⟨YP, yp, ycp, YQ, yq, ycq, yc⟩ := y
          dsimp only at hyp hyq HLT9
          have y0 := hcc3 0 _ rfl
          have y1 := hcc3 1 _ rfl
          simp only [Nat.add_zero] at y0 y1
          have HJ := Lib.hid hj
          have HXW3 := Lib.hid (HXW.out.no K3.out)
          clear hcc3 hcc2 hj hk0 hy hyo
          have FS : Stab (fun ix wz u => True) := fun ix u wz wz' kz h => trivial
          replace FS := Lib.hid FS
          refine wp_region_each (fun ix uR => match ix with | 0 => uR = .int .i64 0 | 1 => uR = .bool false | 2 => uR = .bool false | 3 => uR = .bool true | 4 => uR = .bool false | 5 => uR = .bool false | 6 => uR = .bool false | 7 => uR = .int .i64 (k : Nat) | 8 => uR = .bool true | 9 => uR = .bool true | 10 => uR = .slice (some ⟨b, o, none⟩) M GC | 11 => uR = .int .i64 (k : Nat) | 12 => uR = .int .i64 (j : Nat) | 13 => uR = .pointer (some ⟨b, o + j * 2, none⟩) | 14 => uR = .agg #[.slice YP yp ycp, .slice YQ yq ycq] | 15 => uR = .slice (some ⟨b, o, none⟩) M GC | 16 => uR = .int .i64 (k : Nat) | 17 => uR = .pointer (some ⟨b, o + k * 2, none⟩) | 18 => uR = .agg #[.slice XP xp xcp, .slice XQ xq xcq] | 19 => uR = .bool true | 20 => uR = .bool false | 21 => uR = .bool false | 22 => uR = .bool false | _ => True) (HvW w3 (fun ix wz u => True)) (by kernel_rfl) (by kernel_rfl) (by kernel_rfl) ?_ ?_ ?_
          · exact HvW.start _ _
          · refine ⟨?_, ?_, ?_, ?_, ?_, ?_, ?_, ?_, ?_, ?_, ?_, ?_, ?_, ?_, ?_, ?_, ?_, ?_, ?_, ?_, ?_, ?_, ?_, trivial⟩
            · intro r a w' hf hg hW hr hd K hK
              refine wpOp_of rfl rfl ?_
              have e0 : a.tmps.getD 10 undef = .int .i64 0 := hf.evalFree (by kernel_rfl)
              go_simp
              exact hK _ _ rfl (hW.upd 0 _ trivial)
            · intro r a w' hf hg hW hr hd K hK
              refine wpOp_of rfl rfl ?_
              refine hf.depE hg hd 0 68 (by kernel_rfl) fun u0 e0 g0 h0 => ?_
              replace g0 : u0 = .int .i64 0 := g0
              subst g0
              go_simp
              exact hK _ _ rfl (hW.upd 1 _ trivial)
            · intro r a w' hf hg hW hr hd K hK
              refine wpOp_of rfl rfl ?_
              refine hf.depE hg hd 1 69 (by kernel_rfl) fun u0 e0 g0 h0 => ?_
              replace g0 : u0 = .bool false := g0
              subst g0
              go_simp
              exact hK _ _ rfl (hW.upd 2 _ trivial)
            · intro r a w' hf hg hW hr hd K hK
              refine hf.depE hg hd 2 70 (by kernel_rfl) fun uG eG gG _ => ?_
              replace gG : uG = .bool false := gG
              subst gG
              refine wpOp_run rfl rfl rfl rfl eG ?_
              have e0 : a.tmps.getD 8 undef = .bool true := hf.evalFree (by kernel_rfl)
              go_simp
              exact hK _ _ rfl (hW.upd 3 _ trivial)
            · intro r a w' hf hg hW hr hd K hK
              refine hf.depE hg hd 2 70 (by kernel_rfl) fun uG eG gG _ => ?_
              replace gG : uG = .bool false := gG
              subst gG
              refine wpOp_run rfl rfl rfl rfl eG ?_
              refine hf.depE hg hd 3 71 (by kernel_rfl) fun u0 e0 g0 h0 => ?_
              replace g0 : u0 = .bool true := g0
              subst g0
              go_simp
              exact hK _ _ rfl (hW.upd 4 _ trivial)
            · intro r a w' hf hg hW hr hd K hK
              refine wpOp_of rfl rfl ?_
              refine hf.depE hg hd 2 70 (by kernel_rfl) fun u0 e0 g0 h0 => ?_
              replace g0 : u0 = .bool false := g0
              subst g0
              have e0' := get_of_getD e0
              refine hf.depE hg hd 4 72 (by kernel_rfl) fun u1 e1 g1 h1 => ?_
              replace g1 : u1 = .bool false := g1
              subst g1
              have e1' := get_of_getD e1
              go_simp
              exact hK _ _ rfl (hW.upd 5 _ trivial)
            · intro r a w' hf hg hW hr hd K hK
              refine wpOp_of rfl rfl ?_
              refine hf.depE hg hd 5 73 (by kernel_rfl) fun u0 e0 g0 h0 => ?_
              replace g0 : u0 = .bool false := g0
              subst g0
              go_simp
              exact hK _ _ rfl (hW.upd 6 _ trivial)
            · intro r a w' hf hg hW hr hd K hK
              refine hf.depE hg hd 6 74 (by kernel_rfl) fun uG eG gG _ => ?_
              replace gG : uG = .bool false := gG
              subst gG
              refine wpOp_run rfl rfl rfl rfl eG ?_
              have e0 : a.tmps.getD 7 undef = .int .i64 (k : Nat) := hf.evalFree (by kernel_rfl)
              go_simp
              exact hK _ _ rfl (hW.upd 7 _ trivial)
            · intro r a w' hf hg hW hr hd K hK
              refine hf.depE hg hd 6 74 (by kernel_rfl) fun uG eG gG _ => ?_
              replace gG : uG = .bool false := gG
              subst gG
              refine wpOp_run rfl rfl rfl rfl eG ?_
              refine hf.depE hg hd 7 75 (by kernel_rfl) fun u0 e0 g0 h0 => ?_
              replace g0 : u0 = .int .i64 (k : Nat) := g0
              subst g0
              go_simp
              exact hK _ _ rfl (hW.upd 8 _ trivial)
            · intro r a w' hf hg hW hr hd K hK
              refine hf.depE hg hd 6 74 (by kernel_rfl) fun uG eG gG _ => ?_
              replace gG : uG = .bool false := gG
              subst gG
              refine wpOp_run rfl rfl rfl rfl eG ?_
              refine hf.depE hg hd 8 76 (by kernel_rfl) fun u0 e0 g0 h0 => ?_
              replace g0 : u0 = .bool true := g0
              subst g0
              go_simp
              exact hK _ _ rfl (hW.upd 9 _ trivial)
            · intro r a w' hf hg hW hr hd K hK
              refine hf.depE hg hd 9 77 (by kernel_rfl) fun uG eG gG _ => ?_
              replace gG : uG = .bool true := gG
              subst gG
              refine wpOp_run rfl rfl rfl rfl eG ?_
              have e0 : a.tmps.getD 5 undef = .slice (some ⟨b, o, none⟩) M GC := hf.evalFree (by kernel_rfl)
              go_simp
              exact hK _ _ rfl (hW.upd 10 _ trivial)
            · intro r a w' hf hg hW hr hd K hK
              refine hf.depE hg hd 9 77 (by kernel_rfl) fun uG eG gG _ => ?_
              replace gG : uG = .bool true := gG
              subst gG
              refine wpOp_run rfl rfl rfl rfl eG ?_
              have e0 : a.tmps.getD 7 undef = .int .i64 (k : Nat) := hf.evalFree (by kernel_rfl)
              go_simp
              exact hK _ _ rfl (hW.upd 11 _ trivial)
            · intro r a w' hf hg hW hr hd K hK
              refine hf.depE hg hd 9 77 (by kernel_rfl) fun uG eG gG _ => ?_
              replace gG : uG = .bool true := gG
              subst gG
              refine wpOp_run rfl rfl rfl rfl eG ?_
              refine hf.depE hg hd 11 79 (by kernel_rfl) fun u0 e0 g0 h0 => ?_
              replace g0 : u0 = .int .i64 (k : Nat) := g0
              subst g0
              go_simp
              exact hK _ _ rfl (hW.upd 12 _ trivial)
            · intro r a w' hf hg hW hr hd K hK
              refine hf.depE hg hd 9 77 (by kernel_rfl) fun uG eG gG _ => ?_
              replace gG : uG = .bool true := gG
              subst gG
              refine wpOp_run rfl rfl rfl rfl eG ?_
              refine hf.depE hg hd 10 78 (by kernel_rfl) fun u0 e0 g0 h0 => ?_
              replace g0 : u0 = .slice (some ⟨b, o, none⟩) M GC := g0
              subst g0
              refine hf.depE hg hd 12 80 (by kernel_rfl) fun u1 e1 g1 h1 => ?_
              replace g1 : u1 = .int .i64 (j : Nat) := g1
              subst g1
              go_simp
              exact hK _ _ rfl (hW.upd 13 _ trivial)
            · intro r a w' hf hg hW hr hd K hK
              refine hf.depE hg hd 9 77 (by kernel_rfl) fun uG eG gG _ => ?_
              replace gG : uG = .bool true := gG
              subst gG
              refine wpOp_run rfl rfl rfl rfl eG ?_
              refine hf.depE hg hd 13 81 (by kernel_rfl) fun u0 e0 g0 h0 => ?_
              replace g0 : u0 = .pointer (some ⟨b, o + j * 2, none⟩) := g0
              subst g0
              have z0 := hW.kp.cell y0 id
              have z1 := hW.kp.cell y1 id
              go_simp
              exact hK _ _ rfl (hW.upd 14 _ trivial)
            · intro r a w' hf hg hW hr hd K hK
              refine hf.depE hg hd 9 77 (by kernel_rfl) fun uG eG gG _ => ?_
              replace gG : uG = .bool true := gG
              subst gG
              refine wpOp_run rfl rfl rfl rfl eG ?_
              have e0 : a.tmps.getD 5 undef = .slice (some ⟨b, o, none⟩) M GC := hf.evalFree (by kernel_rfl)
              go_simp
              exact hK _ _ rfl (hW.upd 15 _ trivial)
            · intro r a w' hf hg hW hr hd K hK
              refine hf.depE hg hd 9 77 (by kernel_rfl) fun uG eG gG _ => ?_
              replace gG : uG = .bool true := gG
              subst gG
              refine wpOp_run rfl rfl rfl rfl eG ?_
              have e0 : a.tmps.getD 7 undef = .int .i64 (k : Nat) := hf.evalFree (by kernel_rfl)
              go_simp
              exact hK _ _ rfl (hW.upd 16 _ trivial)
            · intro r a w' hf hg hW hr hd K hK
              refine hf.depE hg hd 9 77 (by kernel_rfl) fun uG eG gG _ => ?_
              replace gG : uG = .bool true := gG
              subst gG
              refine wpOp_run rfl rfl rfl rfl eG ?_
              refine hf.depE hg hd 15 83 (by kernel_rfl) fun u0 e0 g0 h0 => ?_
              replace g0 : u0 = .slice (some ⟨b, o, none⟩) M GC := g0
              subst g0
              refine hf.depE hg hd 16 84 (by kernel_rfl) fun u1 e1 g1 h1 => ?_
              replace g1 : u1 = .int .i64 (k : Nat) := g1
              subst g1
              go_simp
              exact hK _ _ rfl (hW.upd 17 _ trivial)
            · intro r a w' hf hg hW hr hd K hK
              refine hf.depE hg hd 9 77 (by kernel_rfl) fun uG eG gG _ => ?_
              replace gG : uG = .bool true := gG
              subst gG
              refine wpOp_run rfl rfl rfl rfl eG ?_
              refine hf.depE hg hd 17 85 (by kernel_rfl) fun u0 e0 g0 h0 => ?_
              replace g0 : u0 = .pointer (some ⟨b, o + k * 2, none⟩) := g0
              subst g0
              have z0 := hW.kp.cell z0 id
              have z1 := hW.kp.cell z1 id
              go_simp
              exact hK _ _ rfl (hW.upd 18 _ trivial)
            · intro r a w' hf hg hW hr hd K hK
              refine hf.depE hg hd 9 77 (by kernel_rfl) fun uG eG gG _ => ?_
              replace gG : uG = .bool true := gG
              subst gG
              refine wpOp_run rfl rfl rfl rfl eG ?_
              refine hf.depE hg hd 14 82 (by kernel_rfl) fun u0 e0 g0 h0 => ?_
              replace g0 : u0 = .agg #[.slice YP yp ycp, .slice YQ yq ycq] := g0
              subst g0
              refine hf.depE hg hd 18 86 (by kernel_rfl) fun u1 e1 g1 h1 => ?_
              replace g1 : u1 = .agg #[.slice XP xp xcp, .slice XQ xq xcq] := g1
              subst g1
              have LC := Less_any ⟨YP, yp, ycp, YQ, yq, ycq, yc⟩ ⟨XP, xp, xcp, XQ, xq, xcq, xc⟩ w' (HYW.out.is.no hW.kp) (HXW3.out.is.no hW.kp) (by dsimp only; omega) (by dsimp only; omega) (by dsimp only; omega) (by dsimp only; omega)
              dsimp only [Cv.val] at LC
              rw [decide_eq_true (HLT9.out)] at LC
              go_simp
              with_reducible refine LC.mono ?_
              rintro e w'' ⟨rfl, k⟩
              exact hK _ _ rfl ((hW.call FS.out k).upd 19 _ trivial)
            · intro r a w' hf hg hW hr hd K hK
              refine hf.depE hg hd 9 77 (by kernel_rfl) fun uG eG gG _ => ?_
              replace gG : uG = .bool true := gG
              subst gG
              refine wpOp_run rfl rfl rfl rfl eG ?_
              refine hf.depE hg hd 19 87 (by kernel_rfl) fun u0 e0 g0 h0 => ?_
              replace g0 : u0 = .bool true := g0
              subst g0
              go_simp
              exact hK _ _ rfl (hW.upd 20 _ trivial)
            · intro r a w' hf hg hW hr hd K hK
              refine hf.depE hg hd 6 74 (by kernel_rfl) fun uG eG gG _ => ?_
              replace gG : uG = .bool false := gG
              subst gG
              refine wpOp_run rfl rfl rfl rfl eG ?_
              refine hf.depE hg hd 9 77 (by kernel_rfl) fun u0 e0 g0 h0 => ?_
              replace g0 : u0 = .bool true := g0
              subst g0
              have e0' := get_of_getD e0
              refine hf.depE hg hd 20 88 (by kernel_rfl) fun u1 e1 g1 h1 => ?_
              replace g1 : u1 = .bool false := g1
              subst g1
              have e1' := get_of_getD e1
              go_simp
              exact hK _ _ rfl (hW.upd 21 _ trivial)
            · intro r a w' hf hg hW hr hd K hK
              refine wpOp_of rfl rfl ?_
              refine hf.depE hg hd 6 74 (by kernel_rfl) fun u0 e0 g0 h0 => ?_
              replace g0 : u0 = .bool false := g0
              subst g0
              have e0' := get_of_getD e0
              refine hf.depE hg hd 21 89 (by kernel_rfl) fun u1 e1 g1 h1 => ?_
              replace g1 : u1 = .bool false := g1
              subst g1
              have e1' := get_of_getD e1
              go_simp
              exact hK _ _ rfl (hW.upd 22 _ trivial)
          intro r' w4 hg hW hr'
          have hkN := hW.kp
          obtain ⟨q22, hq22⟩ : ∃ u, r' 22 = some u := Option.ne_none_iff_exists'.1 (hr' 22 (by decide))
          have hk22 := hg 22 q22 hq22
          replace hk22 : q22 = .bool false := hk22
          subst hk22
          simp only [List.length_cons, List.length_nil, Nat.reduceAdd, List.range_succ, List.range_zero, List.nil_append, List.cons_append, List.map_cons, List.map_nil, putAll, Act.put, List.setIfInBounds_toArray, List.set_cons_succ, List.set_cons_zero, hq22, Option.getD_some]
          clear hg hW hr' FS hq22
          clear y0 y1
          have K4 := Lib.hid hkN
          have B4 := Lib.hid (K4.out.heap B3.out id)
          have C4 := Lib.hid (K4.out.heap C3.out id)
          have HKW4 := Lib.hid (HKW3.out.tr K4.out)
          have HKP4 := Lib.hid (HKP3.out.tr K4.out)
          have HKO4 := Lib.hid (K3.out.tr K4.out)
          clear hkN p0 p1 p2 p3 z0 z1 dk dk'
          go_wp2_with fail
          go_loopw [11] (fun vi wr' => ∃ i : Nat, i ≤ xp + xq ∧ vi = .int .i64 (i : Nat) ∧ Kp No w4 wr') (fun vi _ => xp + xq - (intOf vi).toNat)
          case atStart => exact ⟨0, by omega, rfl, Kp.refl _ _⟩
          case round =>
            obtain ⟨i, hi, rfl, hki⟩ := hrel
            have HKI := Lib.hid hki
            have HKO := Lib.hid (HKO4.out.tr hki)
            have HKWI := Lib.hid (HKW4.out.tr hki)
            have BI := Lib.hid (hki.heap B4.out id)
            have CI := Lib.hid (hki.heap C4.out id)
            obtain ⟨p0, p1, p2, p3⟩ := four_at BI.out
            have z0 := HKO.out.cell HZ0.out id
            have z1 := HKO.out.cell HZ1.out id
            have ES := Lib.hid (show wrap64 ((xp : Int) + (xq : Int)) = (xp : Int) + (xq : Int) from IntWalk.wrap64_in _ (by omega))
            have ES' := Lib.hid (show IntKind.i64.wrap ((xp : Int) + (xq : Int)) = (xp : Int) + (xq : Int) from wraps_i64 _ (by omega) (by omega))
            clear hki
            by_cases hlt2 : i < xp + xq
            · have d2 : decide ((i : Int) < (xp : Int) + (xq : Int)) = true := decide_eq_true (by omega)
              by_cases h12 : k < 12
              · have d3 : decide ((k : Int) < 12) = true := decide_eq_true (by omega)
                have HIL := Lib.hid hlt2
                have es := ES.out
                have es' := ES'.out
                go_wp2_with fail
                go_quiet (fail)
                clear es es' p0 p1 p2 p3 z0 z1
                go_wp2_with fail
                have hk5 : Kp No wr (wr.drewN nq) := Kp.drewN _ _ _
                generalize wr.drewN nq = w5 at hk5 ⊢
                obtain ⟨p0, p1, p2, p3⟩ := four_at (hk5.heap BI.out id)
                have z0 := (HKO.out.tr hk5).cell HZ0.out id
                have z1 := (HKO.out.tr hk5).cell HZ1.out id
                have HKO5 := Lib.hid (HKO.out.tr hk5)
                have HKWI5 := Lib.hid (HKWI.out.tr hk5)
                have K5 := Lib.hid (HKI.out.tr hk5)
                clear hk5
                have FS : Stab (fun ix wz u => (ix = 6 → LesIs wz (lessC xc i) u) ∧ (ix = 7 → SvU false wz u) ∧ (ix = 8 → SvU false wz u) ∧ True) := fun ix u wz wz' kz h => ⟨fun e => LesIs.no (h.1 e) kz, fun e => SvU.no (h.2.1 e) kz, fun e => SvU.no (h.2.2.1 e) kz, trivial⟩
                replace FS := Lib.hid FS
                refine wp_region_each (fun ix uR => match ix with | 0 => uR = .agg #[.int .i64 N.n, .slice A N.tr.length ca, .slice B N.ch.length cb, .slice C n cc] | 1 => uR = .slice (some ⟨b, o, none⟩) M GC | 2 => uR = .int .i64 (k : Nat) | 3 => uR = .pointer (some ⟨b, o + k * 2, none⟩) | 4 => uR = .agg #[.slice XP xp xcp, .slice XQ xq xcq] | 5 => uR = .int .i64 (i : Nat) | 9 => uR = .bool false | 11 => uR = .int .i64 0 | 12 => uR = .bool false | 13 => uR = .int .i64 0 | _ => True) (HvW w5 (fun ix wz u => (ix = 6 → LesIs wz (lessC xc i) u) ∧ (ix = 7 → SvU false wz u) ∧ (ix = 8 → SvU false wz u) ∧ True)) (by kernel_rfl) (by kernel_rfl) (by kernel_rfl) ?_ ?_ ?_
                · exact HvW.start _ _
                · refine ⟨?_, ?_, ?_, ?_, ?_, ?_, ?_, ?_, ?_, ?_, ?_, ?_, ?_, ?_, trivial⟩
                  · intro r a w' hf hg hW hr hd K hK
                    refine wpOp_of rfl rfl ?_
                    have e0 : a.tmps.getD 2 undef = .pointer (some ⟨w.heap.size, 0, none⟩) := hf.evalFree (by kernel_rfl)
                    have z0 := hW.kp.cell p0 id
                    have z1 := hW.kp.cell p1 id
                    have z2 := hW.kp.cell p2 id
                    have z3 := hW.kp.cell p3 id
                    go_simp
                    exact hK _ _ rfl (hW.upd 0 _ ⟨fun e => absurd e (by decide), fun e => absurd e (by decide), fun e => absurd e (by decide), trivial⟩)
                  · intro r a w' hf hg hW hr hd K hK
                    refine wpOp_of rfl rfl ?_
                    have e0 : a.tmps.getD 5 undef = .slice (some ⟨b, o, none⟩) M GC := hf.evalFree (by kernel_rfl)
                    go_simp
                    exact hK _ _ rfl (hW.upd 1 _ ⟨fun e => absurd e (by decide), fun e => absurd e (by decide), fun e => absurd e (by decide), trivial⟩)
                  · intro r a w' hf hg hW hr hd K hK
                    refine wpOp_of rfl rfl ?_
                    have e0 : a.tmps.getD 7 undef = .int .i64 (k : Nat) := hf.evalFree (by kernel_rfl)
                    go_simp
                    exact hK _ _ rfl (hW.upd 2 _ ⟨fun e => absurd e (by decide), fun e => absurd e (by decide), fun e => absurd e (by decide), trivial⟩)
                  · intro r a w' hf hg hW hr hd K hK
                    refine wpOp_of rfl rfl ?_
                    refine hf.depE hg hd 1 114 (by kernel_rfl) fun u0 e0 g0 h0 => ?_
                    replace g0 : u0 = .slice (some ⟨b, o, none⟩) M GC := g0
                    subst g0
                    refine hf.depE hg hd 2 115 (by kernel_rfl) fun u1 e1 g1 h1 => ?_
                    replace g1 : u1 = .int .i64 (k : Nat) := g1
                    subst g1
                    go_simp
                    exact hK _ _ rfl (hW.upd 3 _ ⟨fun e => absurd e (by decide), fun e => absurd e (by decide), fun e => absurd e (by decide), trivial⟩)
                  · intro r a w' hf hg hW hr hd K hK
                    refine wpOp_of rfl rfl ?_
                    refine hf.depE hg hd 3 116 (by kernel_rfl) fun u0 e0 g0 h0 => ?_
                    replace g0 : u0 = .pointer (some ⟨b, o + k * 2, none⟩) := g0
                    subst g0
                    have z0 := hW.kp.cell z0 id
                    have z1 := hW.kp.cell z1 id
                    go_simp
                    exact hK _ _ rfl (hW.upd 4 _ ⟨fun e => absurd e (by decide), fun e => absurd e (by decide), fun e => absurd e (by decide), trivial⟩)
                  · intro r a w' hf hg hW hr hd K hK
                    refine wpOp_of rfl rfl ?_
                    have e0 : a.tmps.getD 11 undef = .int .i64 (i : Nat) := hf.evalFree (by kernel_rfl)
                    go_simp
                    exact hK _ _ rfl (hW.upd 5 _ ⟨fun e => absurd e (by decide), fun e => absurd e (by decide), fun e => absurd e (by decide), trivial⟩)
                  · intro r a w' hf hg hW hr hd K hK
                    refine wpOp_of rfl rfl ?_
                    refine hf.depE hg hd 4 117 (by kernel_rfl) fun u0 e0 g0 h0 => ?_
                    replace g0 : u0 = .agg #[.slice XP xp xcp, .slice XQ xq xcq] := g0
                    subst g0
                    refine hf.depE hg hd 5 118 (by kernel_rfl) fun u1 e1 g1 h1 => ?_
                    replace g1 : u1 = .int .i64 (i : Nat) := g1
                    subst g1
                    go_simp
                    with_reducible refine (LSX.out i _ (HKO5.out.tr hW.kp) HIL.out).mono ?_
                    rintro e w'' ⟨y, rfl, hyc, hyi, k⟩
                    exact hK _ _ trivial ((hW.call FS.out k).upd 6 _ ⟨fun _ => ⟨y, rfl, hyc, hyi⟩, fun e => absurd e (by decide), fun e => absurd e (by decide), trivial⟩)
                  · intro r a w' hf hg hW hr hd K hK
                    refine wpOp_of rfl rfl ?_
                    refine hf.depE hg hd 0 113 (by kernel_rfl) fun u0 e0 g0 h0 => ?_
                    replace g0 : u0 = .agg #[.int .i64 N.n, .slice A N.tr.length ca, .slice B N.ch.length cb, .slice C n cc] := g0
                    subst g0
                    refine hf.depE hg hd 6 119 (by kernel_rfl) fun u1 e1 g1 h1 => ?_
                    have f1 := (hW.hv 6 u1 h1).1 rfl
                    obtain ⟨y, hu, hyc, hyi⟩ := f1
                    subst hu
                    have SY := SO.out y _ (HKWI5.out.tr hW.kp) hyi (by rw [hyc]; exact lessC_ok HCB.out i)
                    rw [hyc, HNO.out i HIL.out] at SY
                    unfold SvR at SY
                    go_simp
                    with_reducible refine SY.mono ?_
                    rintro e w'' ⟨A9, n9, c9, rfl, k⟩
                    exact hK _ _ trivial ((hW.call FS.out k).upd 7 _ ⟨fun e => absurd e (by decide), fun _ => ⟨A9, n9, c9, rfl⟩, fun e => absurd e (by decide), trivial⟩)
                  · intro r a w' hf hg hW hr hd K hK
                    refine wpOp_of rfl rfl ?_
                    refine hf.depE hg hd 7 120 (by kernel_rfl) fun u0 e0 g0 h0 => ?_
                    have f0 := (hW.hv 7 u0 h0).2.1 rfl
                    go_simp
                    exact hK _ _ trivial (hW.upd 8 _ ⟨fun e => absurd e (by decide), fun e => absurd e (by decide), fun _ => f0, trivial⟩)
                  · intro r a w' hf hg hW hr hd K hK
                    refine wpOp_of rfl rfl ?_
                    refine hf.depE hg hd 8 112 (by kernel_rfl) fun u0 e0 g0 h0 => ?_
                    have f0 := (hW.hv 8 u0 h0).2.2.1 rfl
                    obtain ⟨A9, n9, c9, rfl⟩ := f0
                    go_simp
                    exact hK _ _ rfl (hW.upd 9 _ ⟨fun e => absurd e (by decide), fun e => absurd e (by decide), fun e => absurd e (by decide), trivial⟩)
                  · intro r a w' hf hg hW hr hd K hK
                    refine wpOp_of rfl rfl ?_
                    refine hf.depE hg hd 8 112 (by kernel_rfl) fun u0 e0 g0 h0 => ?_
                    have f0 := (hW.hv 8 u0 h0).2.2.1 rfl
                    obtain ⟨A9, n9, c9, rfl⟩ := f0
                    go_simp
                    exact hK _ _ trivial (hW.upd 10 _ ⟨fun e => absurd e (by decide), fun e => absurd e (by decide), fun e => absurd e (by decide), trivial⟩)
                  · intro r a w' hf hg hW hr hd K hK
                    refine wpOp_of rfl rfl ?_
                    refine hf.depE hg hd 8 112 (by kernel_rfl) fun u0 e0 g0 h0 => ?_
                    have f0 := (hW.hv 8 u0 h0).2.2.1 rfl
                    obtain ⟨A9, n9, c9, rfl⟩ := f0
                    go_simp
                    exact hK _ _ rfl (hW.upd 11 _ ⟨fun e => absurd e (by decide), fun e => absurd e (by decide), fun e => absurd e (by decide), trivial⟩)
                  · intro r a w' hf hg hW hr hd K hK
                    refine wpOp_of rfl rfl ?_
                    refine hf.depE hg hd 9 121 (by kernel_rfl) fun u0 e0 g0 h0 => ?_
                    replace g0 : u0 = .bool false := g0
                    subst g0
                    go_simp
                    exact hK _ _ rfl (hW.upd 12 _ ⟨fun e => absurd e (by decide), fun e => absurd e (by decide), fun e => absurd e (by decide), trivial⟩)
                  · intro r a w' hf hg hW hr hd K hK
                    refine wpOp_of rfl rfl ?_
                    refine hf.depE hg hd 11 123 (by kernel_rfl) fun u0 e0 g0 h0 => ?_
                    replace g0 : u0 = .int .i64 0 := g0
                    subst g0
                    go_simp
                    exact hK _ _ rfl (hW.upd 13 _ ⟨fun e => absurd e (by decide), fun e => absurd e (by decide), fun e => absurd e (by decide), trivial⟩)
                intro r' w6 hg hW hr'
                have hkN := hW.kp
                obtain ⟨q6, hq6⟩ : ∃ u, r' 6 = some u := Option.ne_none_iff_exists'.1 (hr' 6 (by decide))
                have hF6 := (hW.hv 6 q6 hq6).1 rfl
                obtain ⟨q7, hq7⟩ : ∃ u, r' 7 = some u := Option.ne_none_iff_exists'.1 (hr' 7 (by decide))
                have hF7 := (hW.hv 7 q7 hq7).2.1 rfl
                obtain ⟨q8, hq8⟩ : ∃ u, r' 8 = some u := Option.ne_none_iff_exists'.1 (hr' 8 (by decide))
                have hF8 := (hW.hv 8 q8 hq8).2.2.1 rfl
                obtain ⟨q10, hq10⟩ : ∃ u, r' 10 = some u := Option.ne_none_iff_exists'.1 (hr' 10 (by decide))
                obtain ⟨q12, hq12⟩ : ∃ u, r' 12 = some u := Option.ne_none_iff_exists'.1 (hr' 12 (by decide))
                have hk12 := hg 12 q12 hq12
                replace hk12 : q12 = .bool false := hk12
                subst hk12
                obtain ⟨q13, hq13⟩ : ∃ u, r' 13 = some u := Option.ne_none_iff_exists'.1 (hr' 13 (by decide))
                have hk13 := hg 13 q13 hq13
                replace hk13 : q13 = .int .i64 0 := hk13
                subst hk13
                simp only [List.length_cons, List.length_nil, Nat.reduceAdd, List.range_succ, List.range_zero, List.nil_append, List.cons_append, List.map_cons, List.map_nil, putAll, Act.put, List.setIfInBounds_toArray, List.set_cons_succ, List.set_cons_zero, hq6, hq7, hq8, hq10, hq12, hq13, Option.getD_some]
                clear hg hW hr' FS hq6 hq7 hq8 hq10 hq12 hq13
                have K6 := Lib.hid (K5.out.tr hkN)
                clear hkN p0 p1 p2 p3 z0 z1
                go_wp2_with fail
                go_roundw
                case rel => exact ⟨i + 1, by omega, by go_num, K6.out⟩
                case measure => simp [intOf]; omega
              · have d3 : decide ((k : Int) < 12) = false := decide_eq_false (by omega)
                have es := ES.out
                have es' := ES'.out
                go_wp2_with fail
                go_quiet (fail)
                clear es es'
                go_wp2_with fail
                go_roundw
                case rel => exact ⟨k + 1, by omega, by go_num, HKP4.out.tr (HKI.out.tr (Kp.drewN _ _ _))⟩
                case measure => simp [intOf]; omega
            · have d2 : decide ((i : Int) < (xp : Int) + (xq : Int)) = false := decide_eq_false (by omega)
              have es := ES.out
              have es' := ES'.out
              go_wp2_with fail
              go_quiet (fail)
              clear es es'
              go_wp2_with fail
              go_roundw
              case rel => exact ⟨k + 1, by omega, by go_num, HKP4.out.tr (HKI.out.tr (Kp.drewN _ _ _))⟩
              case measure => simp [intOf]; omega
      · obtain rfl : k = M := by omega
        go_wp2_with fail
        have HSUB := Lib.hid (show ∀ j (x : Cv), out[j]? = some x → (leaC l.length (keysN l) (starC N l))[j]? = some x.c from HML.out)
        obtain ⟨ca', hca⟩ := ask_total (nz N) l S K
        by_cases hz : ca' = 0
        rotate_left
        · have SX := SB.out ca' wo HKW.out (by omega) (by omega) hca hz
          simp only [nz_ch, nz_tr, show (nz N).n = (N.n : Int) from rfl] at SX
          replace SX := Lib.hid SX
          have d1 : (ca' != 0) = true := by rw [bne_iff_ne]; exact hz
          clear hz hca
          with_reducible refine SX.out.mono ?_
          rintro e w5 ⟨rfl, k5⟩
          have K5 := Lib.hid (HKW.out.tr k5)
          clear k5 p0 p1 p2 p3 q0 q1
          go_wp2_with fail
          with_reducible refine (shown_any _).mono ?_
          rintro e w6 ⟨rfl, k6⟩
          go_wp2_with fail
          go_ret
          exact ⟨rfl, HK.out.tr (K5.out.tr k6)⟩
        subst hz
        obtain ⟨ss, ks, rfl, rfl⟩ := ask_nat hca
        have hcb := ask_cb hca
        have hpl : ss.length = p := by have := HP.out.1; simpa using this
        have hql : ks.length = q := by have := HQ.out.1; simpa using this
        have hp8 : p ≤ 8 := by
          have h1 := up_len hcb.s1 hcb.s2
          have := HL8.out
          dsimp only at h1
          omega
        have hq8 : q ≤ 8 := by
          have h1 := up_len hcb.k1 hcb.k2
          have := HL8.out
          dsimp only at h1
          omega
        have SX := SO.out ⟨P, p, cp, Q, q, cq, ⟨ss, ks⟩⟩ wo HKW.out ⟨HP.out.no HKW.out, HQ.out.no HKW.out⟩ hcb
        have HIF := Lib.hid (lea_iff HUP.out hcb)
        dsimp only [Cv.val] at SX
        unfold SvR at SX
        obtain ⟨fb, hfb⟩ : ∃ fb, fb = starC N l ⟨ss, ks⟩ := ⟨_, rfl⟩
        rw [← hfb] at SX HIF
        have HFB := Lib.hid hfb
        obtain ⟨LL, hLL⟩ : ∃ LL, LL = leaC l.length (keysN l) (starC N l) := ⟨_, rfl⟩
        rw [← hLL] at HIF HSUB
        have HLL := Lib.hid (show LL.length = k by rw [hLL, ← HOUT.out, List.length_map, ← HM.out])
        replace SX := Lib.hid SX
        clear hca hcb hpl hql hfb hLL
        with_reducible refine SX.out.mono ?_
        rintro e w5 ⟨A9, n9, c9, rfl, k5⟩
        have K5 := Lib.hid (HKW.out.tr k5)
        have HKP5 := Lib.hid (HKP.out.tr k5)
        have C5 := Lib.hid (k5.heap CW.out id)
        have HCV := Lib.hid (show CvIs w5 ⟨P, p, cp, Q, q, cq, ⟨ss, ks⟩⟩ from ⟨HP.out.no K5.out, HQ.out.no K5.out⟩)
        clear k5 p0 p1 p2 p3 q0 q1
        go_wp2_with fail
        go_loopw [14, 15] (fun vf vi wr => ∃ t : Nat, t ≤ k ∧ vi = .int .i64 (t : Nat) ∧ vf = .bool (anyT LL ⟨ss, ks⟩ t) ∧ Kp No w5 wr) (fun _ vi _ => k - (intOf vi).toNat)
        case atStart => exact ⟨0, by omega, rfl, rfl, Kp.refl _ _⟩
        case round =>
          obtain ⟨t, ht, rfl, rfl, hki⟩ := hrel
          have HKI := Lib.hid hki
          have CI := Lib.hid (hki.heap C5.out id)
          obtain ⟨q0, q1, _, _⟩ := cell_head CI.out
          by_cases hlt2 : t < k
          · obtain ⟨x, hx⟩ : ∃ x, out[t]? = some x := ⟨_, List.getElem?_eq_getElem (by rw [← HM.out]; exact hlt2)⟩
            obtain ⟨_, hxo, hxp, hxq⟩ := HXO.out t x hx
            have HXW := Lib.hid ((hxo.no HKP5.out).no hki)
            have HAT := Lib.hid (anyT_succ (c := ⟨ss, ks⟩) (HSUB.out t x hx))
            obtain ⟨b, o, rfl, hb, hcc⟩ := HRD.out.2 t x hx
            have hcc' := fun j u (h : x.cells[j]? = some u) => (HKP5.out.tr hki).cell (hcc j u h) id
            obtain ⟨XP, xp, xcp, XQ, xq, xcq, xc⟩ := x
            dsimp only at hxp hxq HAT
            have z0 := hcc' 0 _ rfl
            have z1 := hcc' 1 _ rfl
            simp only [Nat.add_zero] at z0 z1
            have htk : (t : Int) < (k : Int) := by omega
            obtain ⟨bq, hbq⟩ : ∃ bq, xc.inB ⟨ss, ks⟩ = bq := ⟨_, rfl⟩
            have HBQ := Lib.hid hbq
            rw [hbq] at HAT
            clear hcc' hcc hx hxo hki hbq
            obtain ⟨fq, hfq⟩ : ∃ fq, anyT LL ⟨ss, ks⟩ t = fq := ⟨_, rfl⟩
            rw [hfq] at HAT ⊢
            clear hfq
            cases fq with
            | true =>
              go_wp2_with fail
              refine wp_region_each (fun ix uR => match ix with | 0 => uR = .bool true | 1 => uR = .bool true | 2 => uR = undef | 3 => uR = undef | 4 => uR = undef | 5 => uR = undef | 6 => uR = undef | 7 => uR = undef | 8 => uR = .bool true | 9 => uR = .bool true | _ => True) (fun r w' => FndW wr r w') (by kernel_rfl) (by kernel_rfl) (by kernel_rfl) ?_ ?_ ?_
              · exact FndW.start _
              · refine ⟨?_, ?_, ?_, ?_, ?_, ?_, ?_, ?_, ?_, ?_, trivial⟩
                · intro r a w' hf hg hW hr hd K hK
                  refine wpOp_of rfl rfl ?_
                  have e0 : a.tmps.getD 14 undef = .bool true := hf.evalYet (hW.yet hr) (by kernel_rfl)
                  go_simp
                  exact hK _ _ rfl (hW.upd 0 _ (fun e => absurd e (by decide)) (fun e => absurd e (by decide)) (fun e => absurd e (by decide)))
                · intro r a w' hf hg hW hr hd K hK
                  refine wpOp_of rfl rfl ?_
                  refine hf.depE hg hd 0 145 (by kernel_rfl) fun u0 e0 g0 h0 => ?_
                  replace g0 : u0 = .bool true := g0
                  subst g0
                  go_simp
                  exact hK _ _ rfl (hW.upd 1 _ (fun e => absurd e (by decide)) (fun e => absurd e (by decide)) (fun _ => by rw [h0]; simp))
                · intro r a w' hf hg hW hr hd K hK
                  refine hf.depE hg hd 1 146 (by kernel_rfl) fun uG eG gG _ => ?_
                  replace gG : uG = .bool true := gG
                  subst gG
                  refine wpOp_skip rfl rfl rfl rfl eG (by decide) ?_
                  exact hK _ _ rfl (hW.upd 2 _ (fun e => absurd e (by decide)) (fun e => absurd e (by decide)) (fun e => absurd e (by decide)))
                · intro r a w' hf hg hW hr hd K hK
                  refine hf.depE hg hd 1 146 (by kernel_rfl) fun uG eG gG _ => ?_
                  replace gG : uG = .bool true := gG
                  subst gG
                  refine wpOp_skip rfl rfl rfl rfl eG (by decide) ?_
                  exact hK _ _ rfl (hW.upd 3 _ (fun e => absurd e (by decide)) (fun e => absurd e (by decide)) (fun e => absurd e (by decide)))
                · intro r a w' hf hg hW hr hd K hK
                  refine hf.depE hg hd 1 146 (by kernel_rfl) fun uG eG gG _ => ?_
                  replace gG : uG = .bool true := gG
                  subst gG
                  refine wpOp_skip rfl rfl rfl rfl eG (by decide) ?_
                  exact hK _ _ rfl (hW.upd 4 _ (fun e => absurd e (by decide)) (fun e => absurd e (by decide)) (fun e => absurd e (by decide)))
                · intro r a w' hf hg hW hr hd K hK
                  refine hf.depE hg hd 1 146 (by kernel_rfl) fun uG eG gG _ => ?_
                  replace gG : uG = .bool true := gG
                  subst gG
                  refine wpOp_skip rfl rfl rfl rfl eG (by decide) ?_
                  exact hK _ _ rfl (hW.upd 5 _ (fun e => absurd e (by decide)) (fun e => absurd e (by decide)) (fun e => absurd e (by decide)))
                · intro r a w' hf hg hW hr hd K hK
                  refine hf.depE hg hd 1 146 (by kernel_rfl) fun uG eG gG _ => ?_
                  replace gG : uG = .bool true := gG
                  subst gG
                  refine wpOp_skip rfl rfl rfl rfl eG (by decide) ?_
                  exact hK _ _ rfl (hW.upd 6 _ (fun e => absurd e (by decide)) (fun e => absurd e (by decide)) (fun e => absurd e (by decide)))
                · intro r a w' hf hg hW hr hd K hK
                  refine hf.depE hg hd 1 146 (by kernel_rfl) fun uG eG gG _ => ?_
                  replace gG : uG = .bool true := gG
                  subst gG
                  refine wpOp_skip rfl rfl rfl rfl eG (by decide) ?_
                  exact hK _ _ rfl (hW.upd 7 _ (fun e => absurd e (by decide)) (fun e => absurd e (by decide)) (fun e => absurd e (by decide)))
                · intro r a w' hf hg hW hr hd K hK
                  refine wpOp_of rfl rfl ?_
                  refine hf.depE hg hd 1 146 (by kernel_rfl) fun u0 e0 g0 h0 => ?_
                  replace g0 : u0 = .bool true := g0
                  subst g0
                  have e0' := get_of_getD e0
                  refine hf.depE hg hd 7 152 (by kernel_rfl) fun u1 e1 g1 h1 => ?_
                  replace g1 : u1 = undef := g1
                  subst g1
                  have e1' := get_of_getD e1
                  go_simp
                  exact hK _ _ rfl (hW.upd 8 _ (fun e => absurd e (by decide)) (fun _ => by rw [h0]; simp) (fun e => absurd e (by decide)))
                · intro r a w' hf hg hW hr hd K hK
                  refine wpOp_of rfl rfl ?_
                  refine hf.depE hg hd 8 153 (by kernel_rfl) fun u0 e0 g0 h0 => ?_
                  replace g0 : u0 = .bool true := g0
                  subst g0
                  go_simp
                  exact hK _ _ rfl (hW.upd 9 _ (fun _ => by rw [h0]; simp) (fun e => absurd e (by decide)) (fun e => absurd e (by decide)))
              intro r' w6 hg hW hr'
              obtain ⟨q9, hq9⟩ : ∃ u, r' 9 = some u := Option.ne_none_iff_exists'.1 (hr' 9 (by decide))
              simp only [List.length_cons, List.length_nil, Nat.reduceAdd, List.range_succ, List.range_zero, List.nil_append, List.cons_append, List.map_cons, List.map_nil, putAll, Act.put, List.setIfInBounds_toArray, List.set_cons_succ, List.set_cons_zero, hq9, Option.getD_some]
              have hk9 := hg 9 q9 hq9
              replace hk9 : q9 = .bool true := hk9
              subst hk9
              have hkN := hW.kp
              clear hg hW hr' hq9
              have K6 := Lib.hid (HKI.out.tr hkN)
              clear hkN q0 q1 z0 z1
              go_wp2_with fail
              go_roundw
              case rel => exact ⟨t + 1, by omega, by go_num, by rw [HAT.out]; rfl, K6.out⟩
              case measure => simp [intOf]; omega
            | false =>
              go_wp2_with fail
              refine wp_region_each (fun ix uR => match ix with | 0 => uR = .bool false | 1 => uR = .bool false | 2 => uR = .agg #[.slice P p cp, .slice Q q cq] | 3 => uR = .slice (some ⟨b, o, none⟩) k GC | 4 => uR = .int .i64 (t : Nat) | 5 => uR = .pointer (some ⟨b, o + t * 2, none⟩) | 6 => uR = .agg #[.slice XP xp xcp, .slice XQ xq xcq] | 7 => uR = .bool bq | 8 => uR = .bool bq | 9 => uR = .bool bq | _ => True) (fun r w' => FndW wr r w') (by kernel_rfl) (by kernel_rfl) (by kernel_rfl) ?_ ?_ ?_
              · exact FndW.start _
              · refine ⟨?_, ?_, ?_, ?_, ?_, ?_, ?_, ?_, ?_, ?_, trivial⟩
                · intro r a w' hf hg hW hr hd K hK
                  refine wpOp_of rfl rfl ?_
                  have e0 : a.tmps.getD 14 undef = .bool false := hf.evalYet (hW.yet hr) (by kernel_rfl)
                  go_simp
                  exact hK _ _ rfl (hW.upd 0 _ (fun e => absurd e (by decide)) (fun e => absurd e (by decide)) (fun e => absurd e (by decide)))
                · intro r a w' hf hg hW hr hd K hK
                  refine wpOp_of rfl rfl ?_
                  refine hf.depE hg hd 0 145 (by kernel_rfl) fun u0 e0 g0 h0 => ?_
                  replace g0 : u0 = .bool false := g0
                  subst g0
                  go_simp
                  exact hK _ _ rfl (hW.upd 1 _ (fun e => absurd e (by decide)) (fun e => absurd e (by decide)) (fun _ => by rw [h0]; simp))
                · intro r a w' hf hg hW hr hd K hK
                  refine hf.depE hg hd 1 146 (by kernel_rfl) fun uG eG gG _ => ?_
                  replace gG : uG = .bool false := gG
                  subst gG
                  refine wpOp_run rfl rfl rfl rfl eG ?_
                  have e0 : a.tmps.getD 3 undef = .pointer (some ⟨w.heap.size + 1, 0, none⟩) := hf.evalFree (by kernel_rfl)
                  have z0 := hW.kp.cell q0 id
                  have z1 := hW.kp.cell q1 id
                  go_simp
                  exact hK _ _ rfl (hW.upd 2 _ (fun e => absurd e (by decide)) (fun e => absurd e (by decide)) (fun e => absurd e (by decide)))
                · intro r a w' hf hg hW hr hd K hK
                  refine hf.depE hg hd 1 146 (by kernel_rfl) fun uG eG gG _ => ?_
                  replace gG : uG = .bool false := gG
                  subst gG
                  refine wpOp_run rfl rfl rfl rfl eG ?_
                  have e0 : a.tmps.getD 5 undef = .slice (some ⟨b, o, none⟩) k GC := hf.evalFree (by kernel_rfl)
                  go_simp
                  exact hK _ _ rfl (hW.upd 3 _ (fun e => absurd e (by decide)) (fun e => absurd e (by decide)) (fun e => absurd e (by decide)))
                · intro r a w' hf hg hW hr hd K hK
                  refine hf.depE hg hd 1 146 (by kernel_rfl) fun uG eG gG _ => ?_
                  replace gG : uG = .bool false := gG
                  subst gG
                  refine wpOp_run rfl rfl rfl rfl eG ?_
                  have e0 : a.tmps.getD 15 undef = .int .i64 (t : Nat) := hf.evalFree (by kernel_rfl)
                  go_simp
                  exact hK _ _ rfl (hW.upd 4 _ (fun e => absurd e (by decide)) (fun e => absurd e (by decide)) (fun e => absurd e (by decide)))
                · intro r a w' hf hg hW hr hd K hK
                  refine hf.depE hg hd 1 146 (by kernel_rfl) fun uG eG gG _ => ?_
                  replace gG : uG = .bool false := gG
                  subst gG
                  refine wpOp_run rfl rfl rfl rfl eG ?_
                  refine hf.depE hg hd 3 148 (by kernel_rfl) fun u0 e0 g0 h0 => ?_
                  replace g0 : u0 = .slice (some ⟨b, o, none⟩) k GC := g0
                  subst g0
                  refine hf.depE hg hd 4 149 (by kernel_rfl) fun u1 e1 g1 h1 => ?_
                  replace g1 : u1 = .int .i64 (t : Nat) := g1
                  subst g1
                  go_simp
                  exact hK _ _ rfl (hW.upd 5 _ (fun e => absurd e (by decide)) (fun e => absurd e (by decide)) (fun e => absurd e (by decide)))
                · intro r a w' hf hg hW hr hd K hK
                  refine hf.depE hg hd 1 146 (by kernel_rfl) fun uG eG gG _ => ?_
                  replace gG : uG = .bool false := gG
                  subst gG
                  refine wpOp_run rfl rfl rfl rfl eG ?_
                  refine hf.depE hg hd 5 150 (by kernel_rfl) fun u0 e0 g0 h0 => ?_
                  replace g0 : u0 = .pointer (some ⟨b, o + t * 2, none⟩) := g0
                  subst g0
                  have z0 := hW.kp.cell z0 id
                  have z1 := hW.kp.cell z1 id
                  go_simp
                  exact hK _ _ rfl (hW.upd 6 _ (fun e => absurd e (by decide)) (fun e => absurd e (by decide)) (fun e => absurd e (by decide)))
                · intro r a w' hf hg hW hr hd K hK
                  refine hf.depE hg hd 1 146 (by kernel_rfl) fun uG eG gG _ => ?_
                  replace gG : uG = .bool false := gG
                  subst gG
                  refine wpOp_run rfl rfl rfl rfl eG ?_
                  refine hf.depE hg hd 2 147 (by kernel_rfl) fun u0 e0 g0 h0 => ?_
                  replace g0 : u0 = .agg #[.slice P p cp, .slice Q q cq] := g0
                  subst g0
                  refine hf.depE hg hd 6 151 (by kernel_rfl) fun u1 e1 g1 h1 => ?_
                  replace g1 : u1 = .agg #[.slice XP xp xcp, .slice XQ xq xcq] := g1
                  subst g1
                  have LC := lcontains_any ⟨P, p, cp, Q, q, cq, ⟨ss, ks⟩⟩ ⟨XP, xp, xcp, XQ, xq, xcq, xc⟩ w' ((HCV.out.no HKI.out).no hW.kp) (HXW.out.is.no hW.kp) (by dsimp only; omega) (by dsimp only; omega) (by dsimp only; omega) (by dsimp only; omega)
                  dsimp only [Cv.val] at LC
                  rw [HBQ.out] at LC
                  go_simp
                  with_reducible refine LC.mono ?_
                  rintro e w'' ⟨rfl, k⟩
                  exact hK _ _ rfl ((hW.call k).upd 7 _ (fun e => absurd e (by decide)) (fun e => absurd e (by decide)) (fun e => absurd e (by decide)))
                · intro r a w' hf hg hW hr hd K hK
                  refine wpOp_of rfl rfl ?_
                  refine hf.depE hg hd 1 146 (by kernel_rfl) fun u0 e0 g0 h0 => ?_
                  replace g0 : u0 = .bool false := g0
                  subst g0
                  have e0' := get_of_getD e0
                  refine hf.depE hg hd 7 152 (by kernel_rfl) fun u1 e1 g1 h1 => ?_
                  replace g1 : u1 = .bool bq := g1
                  subst g1
                  have e1' := get_of_getD e1
                  go_simp
                  exact hK _ _ rfl (hW.upd 8 _ (fun e => absurd e (by decide)) (fun _ => by rw [h0]; simp) (fun e => absurd e (by decide)))
                · intro r a w' hf hg hW hr hd K hK
                  refine wpOp_of rfl rfl ?_
                  refine hf.depE hg hd 8 153 (by kernel_rfl) fun u0 e0 g0 h0 => ?_
                  replace g0 : u0 = .bool bq := g0
                  subst g0
                  go_simp
                  exact hK _ _ rfl (hW.upd 9 _ (fun _ => by rw [h0]; simp) (fun e => absurd e (by decide)) (fun e => absurd e (by decide)))
              intro r' w6 hg hW hr'
              obtain ⟨q9, hq9⟩ : ∃ u, r' 9 = some u := Option.ne_none_iff_exists'.1 (hr' 9 (by decide))
              simp only [List.length_cons, List.length_nil, Nat.reduceAdd, List.range_succ, List.range_zero, List.nil_append, List.cons_append, List.map_cons, List.map_nil, putAll, Act.put, List.setIfInBounds_toArray, List.set_cons_succ, List.set_cons_zero, hq9, Option.getD_some]
              have hk9 := hg 9 q9 hq9
              replace hk9 : q9 = .bool bq := hk9
              subst hk9
              have hkN := hW.kp
              clear hg hW hr' hq9
              have K6 := Lib.hid (HKI.out.tr hkN)
              clear hkN q0 q1 z0 z1
              go_wp2_with fail
              go_roundw
              case rel => exact ⟨t + 1, by omega, by go_num, by rw [HAT.out]; rfl, K6.out⟩
              case measure => simp [intOf]; omega
          · obtain rfl : t = k := by omega
            have HE := Lib.hid (show anyT LL ⟨ss, ks⟩ t = fb by
              unfold anyT
              rw [List.take_of_length_le (by rw [HLL.out]; exact Nat.le_refl _), Bool.eq_iff_iff, List.any_eq_true]
              exact HIF.out.symm)
            rw [HE.out]
            have dE : (fb == fb) = true := by simp
            clear hki
            go_wp2_with fail
            with_reducible refine (shown_any _).mono ?_
            rintro e w6 ⟨rfl, k6⟩
            go_wp2_with fail
            go_ret
            exact ⟨rfl, HK.out.tr (K5.out.tr (HKI.out.tr k6))⟩
end Go.Proofs.Ytpkbpeeelpgmcaa
