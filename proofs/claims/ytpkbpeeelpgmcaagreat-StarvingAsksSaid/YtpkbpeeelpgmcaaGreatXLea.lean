/- Chapter 15: Least. Printed by gen_lea.py SEAT NUMBER-OF-Least. -/
import Derived.Test.YtpkbpeeelpgmcaaGreatXLibYetM
import Derived.Test.YtpkbpeeelpgmcaaGreatXLeaI
namespace Go.Proofs.YtpkbpeeelpgmcaaGreat
open Go.RowKit Go.Kq Go.Flow

set_option maxHeartbeats 4000000 in
set_option maxRecDepth 100000 in
theorem Least_bad (Z : Nz) (l : List Sto) (vs : List Sv) (A B C : Option Addr) (ca cb n cc : Nat) (c : Int) (w : World) (hR : RdNz w A B Z) (hS : RdSt w C n vs l) (hc : ChkW Z l c) (hz : c ≠ 0) :
    Calls Tryz.prog 16 #[windV Z A B C ca cb n cc] w fun e w' => e = .returned (.tuple #[.slice none 0 0, .int .i64 c]) ∧ Kp No w w' := by
  obtain ⟨w0, hw0⟩ : ∃ w0, (w.alloc (.cells #[.int .i64 Z.n, .slice A Z.tr.length ca, .slice B Z.ch.length cb, .slice C n cc] 28)) = w0 := ⟨_, rfl⟩
  have hk0 : Kp No w w0 := by rw [← hw0]; exact Kp.alloc _ _ _
  have HBX := Lib.hid (show w0.heap[w.heap.size]? = some (.cells #[.int .i64 Z.n, .slice A Z.tr.length ca, .slice B Z.ch.length cb, .slice C n cc] 28 (0, 0)) by rw [← hw0]; exact heap_alloc_new w _)
  have HK := Lib.hid hk0
  have CK := Wcheck_any Z l vs A B C ca cb n cc w0 (hR.no hk0) (hS.no hk0)
  unfold windV at CK ⊢
  replace CK := Lib.hid CK
  clear hk0 hR hS
  obtain ⟨p0, p1, p2, p3⟩ := four_at HBX.out
  have HC := Lib.hid hc
  have d1 : (c != 0) = true := by rw [bne_iff_ne]; exact hz
  clear hz hc
  go_enter Tryz.func16, Tryz.ntmps16
  go_wp2_with fail
  with_reducible refine CK.out.mono ?_
  rintro e w1 ⟨c1, rfl, hc1, k1⟩
  obtain rfl := hc1.uniq HC.out
  go_wp2_with fail
  exact bodyPost_ret (v := .tuple #[.slice none 0 0, .int .i64 c1]) (by simp [results, Tryz.results16, go_sem]) rfl ⟨rfl, HK.out.tr k1⟩
/-- The combinations that starve a system. -/
noncomputable def starC (N : Net) (l : List Sto) (c : Cb) : Bool := starB N l c.st c.ky
def LeaR (N : Net) (l : List Sto) (w : World) (e : Ending) (w' : World) : Prop := Kp No w w' ∧ ∃ v, e = .returned (.tuple #[v, .int .i64 (leaE l.length (keysN l) (starC N l))]) ∧
  ((200 < (leaC l.length (keysN l) (starC N l)).length ∧ v = .slice none 0 0) ∨ ((leaC l.length (keysN l) (starC N l)).length ≤ 200 ∧ ∃ out : List Cv, out.map Cv.c = leaC l.length (keysN l) (starC N l) ∧ w'.ownsRow w.heap.size 30 2 v out.length (out.flatMap Cv.cells) ∧ ∀ x ∈ out, CvO w' w.heap.size x))
attribute [local go_sem] Oper.semAt_some
set_option maxHeartbeats 8000000 in
set_option maxRecDepth 100000 in
theorem Least_ok (N : Net) (hN : N.Ok) (l : List Sto) (vs : List Sv) (A B C : Option Addr) (ca cb n cc : Nat) (w : World) (hR : RdNet w A B N) (hS : RdSt w C n vs l) (hc : ChkW (nz N) l 0) :
    Calls Tryz.prog 16 #[windV (nz N) A B C ca cb n cc] w (LeaR N l w) := by
  have hok := (chkW_zero hc).2
  rw [nz_ch] at hok
  have hl := hS.len
  obtain ⟨w0, hw0⟩ : ∃ w0, (w.alloc (.cells #[.int .i64 N.n, .slice A N.tr.length ca, .slice B N.ch.length cb, .slice C n cc] 28)) = w0 := ⟨_, rfl⟩
  have hk0 : Kp No w w0 := by rw [← hw0]; exact Kp.alloc _ _ _
  have HBX := Lib.hid (show w0.heap[w.heap.size]? = some (.cells #[.int .i64 N.n, .slice A N.tr.length ca, .slice B N.ch.length cb, .slice C n cc] 28 (0, 0)) by rw [← hw0]; exact heap_alloc_new w _)
  have HK := Lib.hid hk0
  have CK := Wcheck_any (nz N) l vs A B C ca cb n cc w0 ((rdnz_of hR).no hk0) (hS.no hk0)
  have hc16 := hN.c1
  have DM := Lib.hid (fun P p cp Q q cq (ss ks : List Nat) W (k : Kp No w0 W) (hP : RdI .i64 W P p (ss.map Int.ofNat)) (hQ : RdI .i64 W Q q (ks.map Int.ofNat)) (s2 : ∀ x ∈ ss, x < n) (hks : ∀ x ∈ ks, x < keysN l) (s3 : ss.length ≤ 8) (k8 : ks.length ≤ 8) => demand_any (nz N) l vs A B C P Q ca cb n cc p cp q cq ss ks W (by rw [nz_ch]; exact hok) (by rw [nz_ch]; omega) ((hS.no hk0).no k) hP hQ s2 hks s3 k8)
  have MD := Lib.hid (fun W (k : Kp No w0 W) => made_any N hN l vs A B C ca cb n cc W ((hR.no hk0).no k) ((hS.no hk0).no k) hok)
  have HSV := Lib.hid (fun E hE ss ks s2 s3 k8 => dmd_stv (E := E) (ss := ss) (ks := ks) hN hok hE s2 s3 k8)
  have HDB := Lib.hid (fun ss ks s3 k8 => dmd_bd (ss := ss) (ks := ks) hok s3 k8)
  have HDL := Lib.hid (fun ss ks => dmd_len N.ch.length l ss ks)
  have HK8 := Lib.hid hok.k8
  have HL8 := Lib.hid hok.l8
  have HS0 := Lib.hid (hS.no hk0)
  have hl1 := hok.l1
  rw [hl] at hl1
  have HL := Lib.hid hl
  have HCH := Lib.hid hc
  unfold comboV at DM
  unfold windV at CK DM ⊢
  unfold windV at MD
  unfold DmR at DM
  rw [nz_ch, nz_tr] at CK DM MD ⊢
  simp only [show (nz N).n = (N.n : Int) from rfl] at CK DM MD ⊢
  replace CK := Lib.hid CK
  clear hk0 hR hS hc hok hl hN
  obtain ⟨p0, p1, p2, p3⟩ := four_at HBX.out
  refine (callsIn_wide (n := 6)).1 ?_
  refine callsIn_of_wp_marks Tryz.func16 rfl trivial ?_ rfl
  simp only [Tryz.ntmps16, List.size_toArray, List.length_cons, List.length_nil, Nat.reduceAdd, Nat.reduceSub, Array.replicate_succ, Array.replicate_zero, List.push_toArray, List.append_toArray, List.nil_append, List.cons_append]
  refine wpIn_wide.2 ?_
  go_wp2_with fail
  with_reducible refine CK.out.mono ?_
  rintro e w1 ⟨c1, rfl, hc1, k1⟩
  obtain rfl := hc1.uniq HCH.out
  have K1 := Lib.hid k1
  have B1 := Lib.hid (k1.heap HBX.out id)
  clear p0 p1 p2 p3 k1 hc1
  obtain ⟨p0, p1, p2, p3⟩ := four_at B1.out
  go_wp2_with fail
  with_reducible refine (MD.out _ K1.out).mono ?_
  rintro e w3 ⟨Bs, mm, E, rfl, hB, hM, hE, k3⟩
  have HSB := Lib.hid hB
  have HMP := Lib.hid hM
  have HEV := Lib.hid (fun ss ks s2 s3 k8 => HSV.out E hE ss ks s2 s3 k8)
  have K3 := Lib.hid (K1.out.tr k3)
  have B3 := Lib.hid (k3.heap B1.out id)
  clear p0 p1 p2 p3 k3 hB hM hE
  obtain ⟨p0, p1, p2, p3⟩ := four_at B3.out
  have hbW : w.heap.size < w3.heap.size := (Array.getElem?_eq_some_iff.1 B3.out).1
  obtain ⟨s0, hs0⟩ : ∃ s, l[0]? = some s := ⟨_, List.getElem?_eq_getElem (by rw [HL.out]; omega)⟩
  have HR3 := Lib.hid (HS0.out.no K3.out)
  obtain ⟨v0, bC, oC, hv0, rfl, hbC, y0, y1, is0⟩ := HR3.out.at_ hs0
  have HK0 := Lib.hid (show keysN l = v0.n by unfold keysN; rw [List.getD_eq_getElem?_getD, hs0]; exact is0.2.1.symm)
  rw [Nat.zero_mul, Nat.add_zero] at y0 y1
  obtain ⟨ch0, A0, KK, c0⟩ := v0
  dsimp only at y0 y1 HK0
  have hk8 : KK ≤ 8 := by have := HK8.out; have := HK0.out; omega
  have hn8 : n ≤ 8 := by have := HL8.out; have := HL.out; omega
  have HY1 := Lib.hid y1
  clear hs0 hv0 is0 y0 y1
  go_wp2_with fail
  with_reducible refine (subsets_any n _).mono ?_
  rintro e w5 ⟨Bx, rfl, hBx, hcx, hk5, _⟩
  obtain ⟨w4, hw4⟩ : ∃ w4, (w3.alloc (.cells #[.slice none 0 0] 46)) = w4 := ⟨_, rfl⟩
  have hk4 : Kp No w3 w4 := by rw [← hw4]; exact Kp.alloc _ _ _
  have h6 : w4.heap[w3.heap.size]? = some (.cells #[.slice none 0 0] 46 (0, 0)) := by rw [← hw4]; exact heap_alloc_new w3 _
  rw [hw4] at hk5 hBx
  obtain ⟨g6, hg6⟩ : ∃ g6, g6 = w3.heap.size := ⟨_, rfl⟩
  have hs3 : w0.heap.size ≤ w3.heap.size := K3.out.size
  have hs6 := (Array.getElem?_eq_some_iff.1 h6).1
  rw [← hg6] at h6 hs6
  have hs5 := hk5.size
  have H6 := Lib.hid (hk5.heap h6 id)
  have K35 := Lib.hid (hk4.tr hk5)
  have HG := Lib.hid (show w0.heap.size ≤ g6 ∧ w3.heap.size ≤ g6 ∧ g6 < w5.heap.size ∧ Bx ≠ g6 ∧ w.heap.size ≠ g6 from ⟨by omega, by omega, by omega, by omega, by omega⟩)
  have HCX := Lib.hid hcx
  clear hw4 hk4 h6 hk5 hBx hs3 hs6 hs5 hcx p0 p1 p2 p3 hbW
  go_wp2_with fail
  rw [← hg6]
  clear hg6
  refine (wpIn_wide (n := 6)).1 ?_
  refine range_outer (m := n) (base := w5.heap.size) (Bx := Bx) (by omega) rfl
    (I := fun t W => ∃ L, L.map Cv.c = allP n KK t 0 ∧ AllI g6 w5 W L)
    (Ax := fun t a' W => ∃ b7 D c, a' = { tmps := #[.agg #[.int .i64 N.n, .slice A N.tr.length ca, .slice B N.ch.length cb, .slice (some ⟨bC, oC, none⟩) n cc], .pointer (some ⟨w.heap.size, 0, none⟩), .slice none 0 0, .int .i64 0, .int .i64 0, .pointer (some ⟨Bs, 0, none⟩), .pointer (some ⟨g6, 0, none⟩), .pointer (some ⟨b7, 0, none⟩), undef, undef, undef, undef, .agg #[.int .i64 N.n, .slice A N.tr.length ca, .slice B N.ch.length cb, .slice (some ⟨bC, oC, none⟩) n cc], .int .i64 0, .int .i64 0, .bool false, undef, .agg #[.int .i64 N.n, .slice A N.tr.length ca, .slice B N.ch.length cb, .slice (some ⟨bC, oC, none⟩) n cc], .pointer (some ⟨Bs, 0, none⟩), .pointer (some ⟨w.heap.size, 3, none⟩), .slice (some ⟨bC, oC, none⟩) n cc, .int .i64 (n : Nat), .func (.func 57) #[] #[.pointer (some ⟨Bx, 0, none⟩)], .slice D (numB t n).length c, undef, undef, undef, undef, undef, undef, undef, undef, undef, undef, undef, undef, undef, undef, undef, undef, undef, undef, undef, undef, undef, undef, undef, undef, undef, undef, undef, undef, undef, undef, undef, undef, undef, undef, undef, undef, undef, undef, undef, undef, undef, undef, undef, undef, undef, undef, undef, undef], defers := [] } ∧ W.heap[b7]? = some (.cells #[.slice D (numB t n).length c] 23 (0, 0)) ∧ W.ownsRow w5.heap.size 3 1 (.slice D (numB t n).length c) (numB t n).length (((numB t n).map Int.ofNat).map (Value.int .i64)))
    { hm := by omega, hps := rfl
      hI := fun t W W' ⟨L, h1, h2⟩ k => ⟨L, h1, h2.no k⟩
      hIo := fun t W lp o o' ⟨L, h1, h2⟩ hl hlo ho => ⟨L, h1, h2.put HG.out.2.2.1 o' hl hlo ho⟩
      hAo := fun t b W lp o o' ⟨b7, D, c, h1, h2, h3⟩ hl hlo ho => ⟨b7, D, c, h1, heap_putObj h2 o' hlo ho, ownsRow_putObj h3 _ hlo ho⟩
      hB := fun t W ⟨L, h1, h2⟩ => ⟨h2.kp.cell HCX.out HG.out.2.2.2.1, h2.kp.size⟩
      h0 := ⟨[], rfl, ⟨_, H6.out, World.ownsRow_nil _ _ _ _⟩, fun x hx => (by cases hx), Kp.refl _ _⟩
      assign := ?_
      body := ?_ } ?_
  · rintro lp t v W K ht hi ⟨D, c, rfl, hv⟩ hK
    have HV := Lib.hid hv
    clear hv
    gi_wp2
    exact hK _ _ (Kp.alloc _ _ _) ⟨W.heap.size, D, c, rfl, heap_alloc_new W _, HV.out.alloc _⟩
  · rintro lp t a' W ht hl ⟨r, hr⟩ ⟨L, hL, hA⟩ ⟨b7, D, c, rfl, h7, hv⟩
    have HA := Lib.hid hA
    have H7 := Lib.hid h7
    have HV := Lib.hid hv
    have HLL := Lib.hid hL
    have HRR := Lib.hid hr
    have HK3W := Lib.hid (show Kp No w3 W from K35.out.trans hA.kp fun k hk e => by have e : k = g6 := e; have := HG.out; omega)
    have BW := Lib.hid (HK3W.out.heap B3.out id)
    obtain ⟨p0, p1, p2, p3⟩ := four_at BW.out
    have y1 := HK3W.out.cell HY1.out id
    have hT := Lib.hid ht
    clear hA h7 hv hL hr ht
    gi_wp2_with (first
      | (refine ⟨trivial, ?_⟩; gi_at_call 29; refine stop_in ?_)
      | gi_in)
    refine stop_out ?_
    refine (CallsIn.inRound lp (callsIn_wide.2 (subsets_any KK _))).mono ?_
    rintro e W2 ⟨Bx2, rfl, hBx2, hcx2, hk2, hx2⟩
    have hszW : w5.heap.size ≤ W.heap.size := HA.out.kp.size
    have hsz2 := hk2.size
    have HX2 := Lib.hid hx2
    have HK2 := Lib.hid hk2
    clear hcx2 hx2 hk2 p0 p1 p2 p3 y1
    gi_wp2
    refine range_inner (l₀ := lp) (r₀ := r) rfl (HK2.out.heap HRR.out id) (m := KK) (base := w5.heap.size) (Bx := Bx2) (by omega) rfl
      (I := fun u W' => (∃ L, L.map Cv.c = allP n KK t u ∧ AllI g6 w5 W' L) ∧ W'.heap[b7]? = some (.cells #[.slice D (numB t n).length c] 23 (0, 0)) ∧ W'.ownsRow w5.heap.size 3 1 (.slice D (numB t n).length c) (numB t n).length (((numB t n).map Int.ofNat).map (Value.int .i64)) ∧ W'.heap[Bx2]? = some (.cells #[.int .i64 (KK : Nat)] 3 (0, 0)) ∧ KeepsFrom w5.heap.size W W')
      (Ax := fun u a' W' => ∃ D2 c2, a' = { tmps := #[.agg #[.int .i64 N.n, .slice A N.tr.length ca, .slice B N.ch.length cb, .slice (some ⟨bC, oC, none⟩) n cc], .pointer (some ⟨w.heap.size, 0, none⟩), .slice none 0 0, .int .i64 0, .int .i64 0, .pointer (some ⟨Bs, 0, none⟩), .pointer (some ⟨g6, 0, none⟩), .pointer (some ⟨b7, 0, none⟩), .slice D2 (numB u KK).length c2, undef, undef, undef, .agg #[.int .i64 N.n, .slice A N.tr.length ca, .slice B N.ch.length cb, .slice (some ⟨bC, oC, none⟩) n cc], .int .i64 0, .int .i64 0, .bool false, undef, .agg #[.int .i64 N.n, .slice A N.tr.length ca, .slice B N.ch.length cb, .slice (some ⟨bC, oC, none⟩) n cc], .pointer (some ⟨Bs, 0, none⟩), .pointer (some ⟨w.heap.size, 3, none⟩), .slice (some ⟨bC, oC, none⟩) n cc, .int .i64 (n : Nat), .func (.func 57) #[] #[.pointer (some ⟨Bx, 0, none⟩)], .slice D (numB t n).length c, .pointer (some ⟨w.heap.size, 3, none⟩), .slice (some ⟨bC, oC, none⟩) n cc, .pointer (some ⟨bC, oC, none⟩), .pointer (some ⟨bC, oC + 1, none⟩), .slice A0 KK c0, .int .i64 (KK : Nat), .func (.func 57) #[] #[.pointer (some ⟨Bx2, 0, none⟩)], .slice D2 (numB u KK).length c2, undef, undef, undef, undef, undef, undef, undef, undef, undef, undef, undef, undef, undef, undef, undef, undef, undef, undef, undef, undef, undef, undef, undef, undef, undef, undef, undef, undef, undef, undef, undef, undef, undef, undef, undef, undef, undef, undef, undef, undef], defers := [] } ∧ W'.ownsRow w5.heap.size 3 1 (.slice D2 (numB u KK).length c2) (numB u KK).length (((numB u KK).map Int.ofNat).map (Value.int .i64)))
      { hm := by omega, hps := rfl
        hI := fun u W1 W' ⟨⟨L, h1, h2⟩, h3, h4, h5, h6⟩ k => ⟨⟨L, h1, h2.no k⟩, k.heap h3 id, own_kp h4 k fun _ _ e => e, k.heap h5 id, h6.trans (KeepsFrom.of_kp k)⟩
        hIo := fun u W1 lq o o' ⟨⟨L, h1, h2⟩, h3, h4, h5, h6⟩ hl hlo ho => ⟨⟨L, h1, h2.put HG.out.2.2.1 o' (by omega) hlo ho⟩, heap_putObj h3 o' hlo ho, ownsRow_putObj h4 _ hlo ho, heap_putObj h5 o' hlo ho, KeepsFrom.put h6 (by omega) o'⟩
        hAo := fun u b W1 lq o o' ⟨D2, c2, h1, h2⟩ hl hlo ho => ⟨D2, c2, h1, ownsRow_putObj h2 _ hlo ho⟩
        hB := fun u W1 ⟨⟨L, h1, h2⟩, h3, h4, h5, h6⟩ => ⟨by rw [cell_of_row _ _ _ _ _ _ h5]; rfl, h2.kp.size⟩
        h0 := ⟨⟨L, HLL.out, HA.out.no HK2.out⟩, HK2.out.heap H7.out id, own_kp HV.out HK2.out fun _ _ e => e, HX2.out, KeepsFrom.of_kp HK2.out⟩
        assign := ?_
        body := ?_ } ?_
    · rintro lq u v W1 K hu hi ⟨D2, c2, rfl, hv2⟩ hK
      have HV2 := Lib.hid hv2
      clear hv2
      gi_wp2
      exact hK _ _ (Kp.refl _ _) ⟨D2, c2, rfl, HV2.out⟩
    · rintro lq u a' W1 hu hlq ⟨r2, hr2⟩ ⟨⟨L1, hL1, hA1⟩, h7, hv1, hx1, hkf⟩ ⟨D2, c2, rfl, hv2⟩
      obtain ⟨⟨vb, hbx, hrow⟩, hel, hk5⟩ := hA1
      have HBX1 := Lib.hid hbx
      have HROW := Lib.hid hrow
      have HEL := Lib.hid hel
      have HK5 := Lib.hid hk5
      have HL1 := Lib.hid hL1
      have HV1 := Lib.hid hv1
      have HV2 := Lib.hid hv2
      have H71 := Lib.hid h7
      have HX1 := Lib.hid hx1
      have HKF := Lib.hid hkf
      have hlen : L1.length ≤ 70000 := by
        have h1 := congrArg List.length hL1
        rw [List.length_map] at h1
        have := allP_bd (S := n) (K := KK) (t := t) (u := u) hn8 hk8 (by have := hT.out; omega) (by omega)
        omega
      have c6 := hbx.cell
      have f6 := hbx.frozen
      have c7 : W1.cell? ⟨b7, 0, none⟩ = some (.slice D (numB t n).length c) := by rw [cell_of_row _ _ _ _ _ _ h7]; rfl
      obtain ⟨i0, hi, hz0, hz1, hz2⟩ := info_parts infoC
      have hsW : w5.heap.size ≤ W1.heap.size := hk5.size
      have hb7 : b7 < W1.heap.size := (Array.getElem?_eq_some_iff.1 h7).1
      have hb6 : g6 < W1.heap.size := hbx.lt
      obtain ⟨x, hx⟩ : ∃ x : Cv, x = ⟨D, (numB t n).length, c, D2, (numB u KK).length, c2, ⟨numB t n, numB u KK⟩⟩ := ⟨_, rfl⟩
      have HXO := Lib.hid (show CvO W1 w5.heap.size x by rw [hx]; exact ⟨HV1.out, HV2.out⟩)
      have HXE := Lib.hid (show x.cells = [.slice D (numB t n).length c, .slice D2 (numB u KK).length c2] by rw [hx]; rfl)
      have HXC := Lib.hid (show x.c = ⟨numB t n, numB u KK⟩ by rw [hx])
      have HXX := Lib.hid hx
      clear hbx hrow hel hk5 hL1 hv1 hv2 h7 hx1 hkf hr2 hx
      gi_wp2_with (gi_at_builtin; refine stop_in ?_)
      refine stop_out ?_
      refine wpListIn_append_own _ rfl _ _ 46 rfl w5.heap.size 30 i0 _ 2 48 Tryz.underlying46 hi hz0 hz1 hz2 rfl (by decide) _ _ _ rfl (HROW.out.alloc _) ⟨W1.heap.size, 0, none⟩ 1 1 x.cells rfl (by rw [HXE.out]; rfl) (by rw [HXE.out]; exact new_cells W1 [.slice D (numB t n).length c, .slice D2 (numB u KK).length c2] (by unfold maxLen; simp)) (by rw [HXE.out]; simp [Value.oneCell']) (by unfold maxLen; omega) (by omega) (by simp; omega) ?_
      intro v' w1' hown' hgrow _
      have hps := AllI.push HK5.out HG.out.2.2.1 HEL.out HBX1.out HROW.out HXO.out hown' hgrow
      obtain ⟨g', cap', rfl⟩ := ownsRow_succ hown'
      obtain ⟨hA2, hb1, hkf2, hty⟩ := hps
      have HA2 := Lib.hid hA2
      have HKF2 := Lib.hid hkf2
      have HTY := Lib.hid hty
      have hc1 := hb1.cell
      have hf1 := hb1.frozen
      clear hown' hgrow hb1 hA2 hkf2 hty c6 f6 c7
      gi_wp2
      refine ⟨⟨⟨L1 ++ [x], ?_, HA2.out⟩, HTY.out _ _ _ _ H71.out (by decide) (by decide), ?_, HTY.out _ _ _ _ HX1.out (by decide) (by decide), HKF.out.trans HKF2.out⟩, KeepsFrom.up HKF2.out (by omega)⟩
      · rw [List.map_append, HL1.out, allP_succ]
        simp [HXC.out]
      · have h := (HA2.out.el x (by simp)).a
        rw [HXX.out] at h
        exact h
    · rintro W1 ⟨⟨L1, hL1, hA1⟩, h7, hv1, hx1, hkf⟩
      exact ⟨⟨L1, by rw [hL1, allP_row], hA1⟩, hkf⟩
  · rintro Dd W hD ⟨L, hL, hA⟩ hKd
    rw [allP_all] at hL
    obtain ⟨⟨vb, hbx, hrow⟩, hel, hk5⟩ := hA
    obtain ⟨M, hM⟩ : ∃ M, M = L.length := ⟨_, rfl⟩
    have hML : M = (srtC n KK).length := by rw [(srtC_perm n KK).length_eq, ← hL, List.length_map, hM]
    have hM1 : 0 < M := by
      rw [show M = (allC n KK).length by rw [← hL, List.length_map, hM], allC_len]
      exact Nat.mul_pos (Nat.pow_pos (by omega)) (Nat.pow_pos (by omega))
    have hM2 : M ≤ 70000 := by
      have := allP_bd (S := n) (K := KK) (t := 2 ^ n) (u := 0) hn8 hk8 (Nat.le_refl _) (Nat.zero_le _)
      rw [allP_all, ← hL, List.length_map] at this
      omega
    obtain ⟨_, capA, hv, _, _, hga⟩ := own_form hrow
    obtain ⟨ga, rfl⟩ := hga (by omega)
    subst hv
    have SA := Lib.hid (fun W' (k : Kp No W W') => sortAll W' w5.heap.size ga capA n KK hn8 hk8 L hL (own_kp hrow k fun _ _ e => e) (fun x hx => (hel x hx).no k) (by omega))
    have c6 := hbx.cell
    have HK3W := Lib.hid (show Kp No w3 W from K35.out.trans hk5 fun k hk e => by have e : k = g6 := e; have := HG.out; omega)
    have hgaB := (own_ge hrow (g := ga) rfl).1
    have HKD := Lib.hid hKd
    have HC6 := Lib.hid c6
    have hg65 := HG.out.2.2.1
    have HML := Lib.hid hML
    clear hML
    have HROW := Lib.hid hrow
    have hsz5 : w5.heap.size ≤ W.heap.size := hk5.size
    have hsz3 : w3.heap.size ≤ w5.heap.size := K35.out.size
    clear hel hbx hL hk5 hKd hrow
    rw [← hM] at SA HROW c6 HC6
    have HMM := Lib.hid hM
    clear hM
    go_wp2_with fail
    with_reducible refine (SA.out _ (Kp.refl _ _)).mono ?_
    rintro e w6 ⟨rfl, L', hL', hrow', hlen', hel', hk6⟩
    clear c6
    have HK36 := Lib.hid (show Kp No w3 w6 from HK3W.out.trans hk6 fun k hk e => by have e : k = ga := e; omega)
    have hne6 : g6 ≠ ga := fun e => by omega
    have HKD6 := Lib.hid (hk6.heap HKD.out fun e => by
      have e : Dd = ga := e
      obtain ⟨csg, hcg⟩ := row_cells HROW.out (g := ga) rfl
      rw [← e, HKD.out] at hcg
      cases hcg)
    have HLL := Lib.hid hL'
    have HRD := Lib.hid (show Rd Cv.cells 2 w6 (some ⟨ga, 0, none⟩) M L' from by
      have h := hrow'
      rw [← hlen'] at h
      have := Rd.of_own cv_len (by omega) h
      rwa [hlen'] at this)
    have HEL := Lib.hid hel'
    have HLEN := Lib.hid hlen'
    have hc6b : w6.cell? ⟨g6, 0, none⟩ = some (.slice (some ⟨ga, 0, none⟩) M capA) := hk6.cell HC6.out hne6
    clear hL' hrow' hlen' hel' hk6 SA
    go_wp2_with fail
    obtain ⟨pr, hpr⟩ : ∃ pr, pr = starC N l := ⟨_, rfl⟩
    have HPR := Lib.hid hpr
    have HSL := Lib.hid (show l.length = n from HL.out)
    have hw06 : w.heap.size ≤ w6.heap.size := by have := HK.out.size; have := K3.out.size; have := HK36.out.size; omega
    have hD6 : Dd < w6.heap.size := (Array.getElem?_eq_some_iff.1 HKD6.out).1
    have hwD : w.heap.size ≤ Dd := by have := HK.out.size; have := K3.out.size; have := K35.out.size; omega
    have HWD := Lib.hid hwD
    clear hpr hc6b hga hgaB hD hg65 hsz5 hsz3 hM1 hne6 hwD
    go_loopw [9, 42] (fun vo vi wr => ∃ (k : Nat) (out : List Cv) (D : Option Addr) (c : Nat), k ≤ M ∧ vi = .int .i64 (k : Nat) ∧ vo = .slice D out.length c ∧ out.map Cv.c = leaT n KK pr k ∧ wr.ownsRow w6.heap.size 30 2 (.slice D out.length c) out.length (out.flatMap Cv.cells) ∧ (∀ x ∈ out, CvO wr w6.heap.size x) ∧ out.length ≤ 200 ∧ Kp No w6 wr) (fun _ vi _ => M - (intOf vi).toNat)
    case atStart => exact ⟨0, [], none, 0, by omega, rfl, rfl, by rw [leaT_zero]; rfl, World.ownsRow_nil _ _ _ _, fun x hx => (by cases hx), by simp, Kp.refl _ _⟩
    case round =>
      obtain ⟨k, out, D, c, hk, rfl, rfl, hout, hown, hall, h200, hkp⟩ := hrel
      have HOUT := Lib.hid hout
      have HOWN := Lib.hid hown
      have HALL := Lib.hid hall
      have HKP := Lib.hid hkp
      obtain ⟨no, hno⟩ : ∃ no, no = out.length := ⟨_, rfl⟩
      rw [← hno] at HOWN h200 ⊢
      have HNO := Lib.hid hno
      clear hout hown hall hno
      by_cases hlt : k < M
      · obtain ⟨x, hx⟩ : ∃ x, L'[k]? = some x := ⟨_, List.getElem?_eq_getElem (by rw [HLEN.out]; exact hlt)⟩
        obtain ⟨b, o, hbo, hbl, hcc⟩ := (HRD.out.no hkp).2 k x hx
        cases hbo
        have c0 := hcc 0 _ rfl
        have c1 := hcc 1 _ rfl
        simp only [Nat.zero_add, Nat.add_zero] at c0 c1
        have hsx : (srtC n KK)[k]? = some x.c := by rw [← HLL.out, List.getElem?_map, hx]; rfl
        have hxok := mem_srtC.1 (List.mem_of_getElem? hsx)
        have HSTEP := Lib.hid (leaT_step (p := pr) hsx)
        have HXO := Lib.hid ((HEL.out x (List.mem_of_getElem? hx)).no hkp)
        have hxl := HXO.out.len
        have hxc := hxok.len
        have HXOK := Lib.hid hxok
        obtain ⟨P, p, cp, Q, q, cq, cx⟩ := x
        dsimp only at hxl hxc c0 c1
        obtain ⟨gb, hgb⟩ : ∃ gb, gb = wr.heap.size := ⟨_, rfl⟩
        obtain ⟨w7, hw7⟩ : ∃ w7, wr.alloc (.cells #[.slice P p cp, .slice Q q cq] 30) = w7 := ⟨_, rfl⟩
        have hk7 : Kp No wr w7 := by rw [← hw7]; exact Kp.alloc _ _ _
        have HB7 := Lib.hid (show w7.heap[gb]? = some (.cells #[.slice P p cp, .slice Q q cq] 30 (0, 0)) by rw [← hw7, hgb]; exact heap_alloc_new wr _)
        obtain ⟨x, hx2⟩ : ∃ x : Cv, x = ⟨P, p, cp, Q, q, cq, cx⟩ := ⟨_, rfl⟩
        have HX2 := Lib.hid hx2
        have HCT := Lib.hid (contains_cvs (gc := gb) D no c out (fun v => v.c.inB x.c) w7 (by
            have h := Rd.of_own cv_len (by omega) (HOWN.out)
            exact h.no hk7) (by omega) (fun v w' hv kk => by
            have hvo := HALL.out v hv
            have hvl := hvo.len
            have hvc := (show CbOk n KK v.c from by
              have hm : v.c ∈ leaT n KK pr k := HOUT.out ▸ List.mem_map_of_mem hv
              unfold leaT at hm
              exact mem_srtC.1 (List.mem_of_mem_take (List.mem_filter.1 hm).1))
            have hvcl := hvc.len
            have h := test_any gb v x w' ((hvo.no (hk7.tr kk)).is) (by rw [hx2]; exact ((HXO.out.no (hk7.tr kk)).is)) (by rw [hx2]; exact kk.heap HB7.out id) (by omega) (by omega) (by rw [hx2]; show p ≤ 100000; omega) (by rw [hx2]; show q ≤ 100000; omega) (by rw [hx2]; exact hxok.s1) (by rw [hx2]; exact hxok.k1)
            exact h))
        have HANY := Lib.hid (show out.any (fun v => v.c.inB x.c) = (leaT n KK pr k).any fun v => v.inB x.c by rw [← HOUT.out, List.any_map]; rfl)
        have HK7 := Lib.hid (hkp.tr hk7)
        have HXO7 := Lib.hid (HXO.out.no hk7)
        have HOW7 := Lib.hid (own_kp HOWN.out hk7 fun _ _ e => e)
        have HAL7 := Lib.hid (fun v (hv : v ∈ out) => (HALL.out v hv).no hk7)
        have hbl7 : ga < w7.heap.size := Nat.lt_of_lt_of_le hbl hk7.size
        rw [show x.c = cx by rw [hx2]] at HCT HANY
        have HGB := Lib.hid (show (Value.slice D out.length c).ownBlock ≠ some wr.heap.size from fun e => by
          rw [← HNO.out] at e
          have := own_ge HOWN.out (g := wr.heap.size) e
          omega)
        have HPN := Lib.hid (show P = none → p = 0 ∧ cp = 0 from fun e => by subst e; exact own_none HXO.out.a)
        have HQN := Lib.hid (show Q = none → q = 0 ∧ cq = 0 from fun e => by subst e; exact own_none HXO.out.b)
        have hp8 : p ≤ 8 := by omega
        have hq8 : q ≤ 8 := by omega
        have HXL := Lib.hid hxl
        clear hx hcc hsx hxok hkp hk7 HOWN HALL hxl hxc hx2
        subst hgb
        cases hany : out.any (fun v => v.c.inB cx) with
        | true =>
          rw [hany] at HCT HANY
          have HST2 := Lib.hid (show leaT n KK pr (k + 1) = leaT n KK pr k by rw [HSTEP.out]; unfold stepL; rw [← HANY.out]; simp)
          clear hany
          go_wp2_with fail
          with_reducible refine HCT.out.mono ?_
          rintro e w8 ⟨rfl, k8⟩
          go_wp2_with fail
          go_roundw
          case rel => exact ⟨k + 1, out, D, c, by omega, by go_num, by rw [HNO.out], by rw [HST2.out]; exact HOUT.out, by rw [← HNO.out]; exact own_kp HOW7.out k8 fun _ _ e => e, fun v hv => (HAL7.out v hv).no k8, by rw [← HNO.out]; exact h200, HK7.out.tr k8⟩
          case measure => simp [intOf]; omega
        | false =>
          rw [hany] at HCT HANY
          clear hany
          have HWB := Lib.hid (fun W (k : Kp No w7 W) => (HK36.out.tr (HK7.out.tr k)).heap B3.out id)
          go_wp2_with (first
            | (go_at_call 39; refine stop_in ?_)
            | fail)
          refine stop_out ?_
          with_reducible refine HCT.out.mono ?_
          rintro e w8 ⟨rfl, k8⟩
          have K8 := Lib.hid k8
          obtain ⟨p0, p1, p2, p3⟩ := four_at (HWB.out _ k8)
          have HB8 := Lib.hid (k8.heap HB7.out id)
          obtain ⟨q0, q1, _, _⟩ := cell_head HB8.out
          have hss := HXOK.out
          have D8 := Lib.hid (DM.out P p cp Q q cq cx.st cx.ky w8 (K3.out.tr (HK36.out.tr (HK7.out.tr k8))) ((HXO7.out.is.1).no k8) ((HXO7.out.is.2).no k8) hss.s2 (by rw [HK0.out]; exact hss.k2) (by have := hss.len; omega) (by have := hss.len; omega))
          have HEP := Lib.hid (show mapStv E (dmd N.ch.length l cx.st cx.ky) = pr cx by
            rw [HPR.out, Bool.eq_iff_iff, HEV.out cx.st cx.ky (by rw [HSL.out]; exact hss.s2) (by have := hss.len; omega) (by have := hss.len; omega)]
            exact starB_iff.symm)
          have HDD := Lib.hid (HDB.out cx.st cx.ky (by have := hss.len; omega) (by have := hss.len; omega))
          clear k8 hss
          go_wp2_with fail
          with_reducible refine D8.out.mono ?_
          rintro e w9 ⟨G, rfl, ho, k9⟩
          have K9 := Lib.hid (K8.out.tr k9)
          have KW9 := Lib.hid (HK36.out.tr (HK7.out.tr K9.out))
          have ST := Lib.hid (sstarves_any Bs mm E (some ⟨G, 0, none⟩) N.ch.length N.ch.length (dmd N.ch.length l cx.st cx.ky) w9 (KW9.out.cell HSB.out id) (HMP.out.of_block (KW9.out.block _ HMP.out.lt id)) (RdI.of_own ho) hc16 (fun d hd => by have := HDD.out d hd; omega))
          rw [HEP.out] at ST
          clear ho k9 p0 p1 p2 p3 q0 q1
          cases hq : pr cx with
          | false =>
            rw [hq] at ST
            have HST2 := Lib.hid (show leaT n KK pr (k + 1) = leaT n KK pr k by rw [HSTEP.out]; unfold stepL; rw [hq]; simp)
            clear hq
            go_wp2_with fail
            with_reducible refine ST.out.mono ?_
            rintro e w10 ⟨rfl, k10⟩
            have K10 := Lib.hid (K9.out.tr k10)
            clear k10
            go_wp2_with fail
            go_roundw
            case rel => exact ⟨k + 1, out, D, c, by omega, by go_num, by rw [HNO.out], by rw [HST2.out]; exact HOUT.out, by rw [← HNO.out]; exact own_kp HOW7.out K10.out fun _ _ e => e, fun v hv => (HAL7.out v hv).no K10.out, by rw [← HNO.out]; exact h200, HK7.out.tr K10.out⟩
            case measure => simp [intOf]; omega
          | true =>
            rw [hq] at ST
            have HST2 := Lib.hid (show leaT n KK pr (k + 1) = leaT n KK pr k ++ [cx] by
              rw [HSTEP.out]
              unfold stepL
              rw [hq, ← HANY.out]
              simp)
            clear hq
            go_wp2_with fail
            with_reducible refine ST.out.mono ?_
            rintro e w10 ⟨rfl, k10⟩
            have K10 := Lib.hid (K9.out.tr k10)
            have HB10 := Lib.hid (K10.out.heap HB7.out id)
            clear k10
            by_cases hno2 : no = 200
            · have HE5 := Lib.hid (show 200 < (leaC n KK pr).length by
                have h1 := leaT_le n KK pr (k + 1)
                have h2 := congrArg List.length HOUT.out
                rw [List.length_map] at h2
                rw [HST2.out, List.length_append] at h1
                simp only [List.length_cons, List.length_nil] at h1
                have := HNO.out
                omega)
              have HKDF := Lib.hid ((HK7.out.tr K10.out).heap HKD6.out id)
              subst hno2
              go_wp2_with fail
              refine ⟨by simp, .inl ⟨_, _, rfl, run_takeDeferred HKDF.out, ?_⟩⟩
              refine ⟨.tuple #[.slice none 0 0, .int .i64 5], by simp [results, Tryz.results16, go_sem], kp_putObj (HK.out.tr (K3.out.tr (HK36.out.tr (HK7.out.tr K10.out)))) HWD.out _, .slice none 0 0, ?_, ?_⟩
              · rw [HSL.out, HK0.out, ← HPR.out]
                unfold leaE
                rw [if_pos HE5.out]
              · rw [HSL.out, HK0.out, ← HPR.out]
                exact .inl ⟨HE5.out, rfl⟩
            · have d2 : ((no : Int) == 200) = false := by rw [beq_eq_false_iff_ne]; omega
              obtain ⟨i0, hi0, hz0, hz1, hz2⟩ := info_parts infoC
              have HST := Lib.hid (show RgW w6 w6.heap.size w5.heap.size wr.heap.size ⟨P, p, cp, Q, q, cq, cx⟩ out D c (fun _ => none) w10 from
                { kp := HK7.out.tr K10.out, el := fun y hy => (HAL7.out y hy).no K10.out, bx := HB10.out, ex := HXO7.out.no K10.out, row := fun _ => by rw [← HNO.out]; exact own_kp HOW7.out K10.out fun _ _ e => e
                  c3 := fun u hu => (by cases hu), c6 := fun u hu => (by cases hu), c7 := fun u hu => (by cases hu), c8 := fun u hu => (by cases hu), c9 := fun u hu => (by cases hu), c10 := fun u hu => (by cases hu) })
              clear hno2
              go_wp2_with fail
              refine wp_region_each (fun ix uR => match ix with | 0 => uR = .slice D no c | 1 => uR = .pointer (some ⟨wr.heap.size, 0, none⟩) | 2 => uR = .slice P p cp | 4 => uR = .pointer (some ⟨wr.heap.size, 1, none⟩) | 5 => uR = .slice Q q cq | _ => True) (fun r w' => RgW w6 w6.heap.size w5.heap.size wr.heap.size ⟨P, p, cp, Q, q, cq, cx⟩ out D c r w') (by kernel_rfl) (by kernel_rfl) (by kernel_rfl) ?_ ?_ ?_
              · exact HST.out.no (Kp.drew _ _)
              · refine ⟨?_, ?_, ?_, ?_, ?_, ?_, ?_, ?_, ?_, ?_, ?_, trivial⟩
                · intro r a w' hf hg hW hr hd K hK
                  refine wpOp_of rfl rfl ?_
                  have e0 : a.tmps.getD 9 undef = .slice D no c := hf.evalYet (i := 10) (hW.n10 (hW.n90 hr)) (by kernel_rfl)
                  go_simp
                  exact hK _ _ rfl (hW.upd 0 _ (by decide) (by decide) (by decide) (by decide) (by decide) (by decide))
                · intro r a w' hf hg hW hr hd K hK
                  refine wpOp_of rfl rfl ?_
                  have e0 : a.tmps.getD 11 undef = .pointer (some ⟨wr.heap.size, 0, none⟩) := hf.evalFree (by kernel_rfl)
                  go_simp
                  exact hK _ _ rfl (hW.upd 1 _ (by decide) (by decide) (by decide) (by decide) (by decide) (by decide))
                · intro r a w' hf hg hW hr hd K hK
                  refine wpOp_of rfl rfl ?_
                  refine hf.depE hg hd 1 61 (by kernel_rfl) fun u0 e0 g0 h0 => ?_
                  replace g0 : u0 = .pointer (some ⟨wr.heap.size, 0, none⟩) := g0
                  subst g0
                  have z0 : w'.cell? ⟨wr.heap.size, 0, none⟩ = some (.slice P p cp) := by rw [cell_of_row _ _ _ _ _ _ hW.bx]; rfl
                  go_simp
                  exact hK _ _ rfl (hW.upd 2 _ (by decide) (by decide) (by decide) (by decide) (by decide) (by decide))
                · intro r a w' hf hg hW hr hd K hK
                  refine wpOp_of rfl rfl ?_
                  refine hf.depE hg hd 2 62 (by kernel_rfl) fun u0 e0 g0 h0 => ?_
                  replace g0 : u0 = .slice P p cp := g0
                  subst g0
                  have CL := clone_any P p cp (cx.st.map Int.ofNat) w' (hW.ex.is.1) (by omega) HPN.out
                  go_simp
                  with_reducible refine CL.mono ?_
                  rintro e w'' ⟨A1, d1, rfl, ho1, _, k⟩
                  rw [HXL.out.1] at ho1
                  have hE := (hW.no k).put3 hr A1 d1 (by have h := own_mono ho1 hW.kp.size; unfold OwN; rwa [List.length_map] at h)
                  dsimp only at hE
                  rw [← HXL.out.1] at hE
                  exact hK _ _ trivial hE
                · intro r a w' hf hg hW hr hd K hK
                  refine wpOp_of rfl rfl ?_
                  have e0 : a.tmps.getD 11 undef = .pointer (some ⟨wr.heap.size, 0, none⟩) := hf.evalFree (by kernel_rfl)
                  go_simp
                  exact hK _ _ rfl (hW.upd 4 _ (by decide) (by decide) (by decide) (by decide) (by decide) (by decide))
                · intro r a w' hf hg hW hr hd K hK
                  refine wpOp_of rfl rfl ?_
                  refine hf.depE hg hd 4 64 (by kernel_rfl) fun u0 e0 g0 h0 => ?_
                  replace g0 : u0 = .pointer (some ⟨wr.heap.size, 1, none⟩) := g0
                  subst g0
                  have z0 : w'.cell? ⟨wr.heap.size, 1, none⟩ = some (.slice Q q cq) := by rw [cell_of_row _ _ _ _ _ _ hW.bx]; rfl
                  go_simp
                  exact hK _ _ rfl (hW.upd 5 _ (by decide) (by decide) (by decide) (by decide) (by decide) (by decide))
                · intro r a w' hf hg hW hr hd K hK
                  refine wpOp_of rfl rfl ?_
                  refine hf.depE hg hd 5 65 (by kernel_rfl) fun u0 e0 g0 h0 => ?_
                  replace g0 : u0 = .slice Q q cq := g0
                  subst g0
                  have CL := clone_any Q q cq (cx.ky.map Int.ofNat) w' (hW.ex.is.2) (by omega) HQN.out
                  go_simp
                  with_reducible refine CL.mono ?_
                  rintro e w'' ⟨A1, d1, rfl, ho1, _, k⟩
                  rw [HXL.out.2] at ho1
                  have hE := (hW.no k).put6 hr A1 d1 (by have h := own_mono ho1 hW.kp.size; unfold OwN; rwa [List.length_map] at h)
                  dsimp only at hE
                  rw [← HXL.out.2] at hE
                  exact hK _ _ trivial hE
                · intro r a w' hf hg hW hr hd K hK
                  refine wpOp_of rfl rfl ?_
                  refine hf.depE hg hd 3 63 (by kernel_rfl) fun u0 e0 g0 h0 => ?_
                  have e0' := get_of_getD e0
                  refine hf.depE hg hd 6 66 (by kernel_rfl) fun u1 e1 g1 h1 => ?_
                  have e1' := get_of_getD e1
                  obtain ⟨A3, d3, hu3, _⟩ := hW.c3 u0 h0
                  subst hu3
                  obtain ⟨A6, d6, hu6, _⟩ := hW.c6 u1 h1
                  subst hu6
                  go_simp
                  exact hK _ _ trivial (hW.put7 hr _ _ h0 h1)
                · intro r a w' hf hg hW hr hd K hK
                  refine wpOp_of rfl rfl ?_
                  refine hf.depE hg hd 7 67 (by kernel_rfl) fun u0 e0 g0 h0 => ?_
                  have e0' := get_of_getD e0
                  obtain ⟨u3, u6, h3, h6, hu⟩ := hW.c7 u0 h0
                  subst hu
                  obtain ⟨A3, d3, hu3, _⟩ := hW.c3 u3 h3
                  subst hu3
                  obtain ⟨A6, d6, hu6, _⟩ := hW.c6 u6 h6
                  subst hu6
                  go_simp
                  exact hK _ _ trivial (hW.put8 hr (by rw [h0]; simp) _ _ h3 h6)
                · intro r a w' hf hg hW hr hd K hK
                  refine wpOp_of rfl rfl ?_
                  refine hf.depE hg hd 0 60 (by kernel_rfl) fun u0 e0 g0 h0 => ?_
                  replace g0 : u0 = .slice D no c := g0
                  subst g0
                  refine hf.depE hg hd 8 68 (by kernel_rfl) fun u1 e1 g1 h1 => ?_
                  obtain ⟨u3, u6, gq, h3, h6, hq, hcc⟩ := (hW.c8 u1 h1).2 hr
                  subst hq
                  obtain ⟨A3, d3, hu3, _⟩ := hW.c3 u3 h3
                  subst hu3
                  obtain ⟨A6, d6, hu6, _⟩ := hW.c6 u6 h6
                  subst hu6
                  have hownw := hW.row hr
                  rw [← HNO.out] at hownw
                  refine wpo_append (.tmp 60) (.tmp 68) 46 rfl w6.heap.size 30 i0 _ 2 48 Tryz.underlying46 hi0 hz0 hz1 hz2 rfl (by decide) (.slice D no c) no (out.flatMap Cv.cells) e0 hownw ⟨gq, 0, none⟩ 1 1 [_, _] e1 rfl (fun jj xx hj => by rw [add_at, Nat.zero_add]; exact hcc jj xx hj) (fun u hu => by simp at hu; rcases hu with rfl | rfl <;> rfl) (by unfold maxLen; omega) (by omega) hW.kp.size (fun v' w'' ho hgr _ => ?_)
                  rw [HNO.out] at ho hgr
                  exact hK _ _ trivial (hW.put9 hr (by rw [h1]; simp) (by rw [h0]; simp) _ _ v' h3 h6 (Nat.le_refl _) HGB.out ho hgr)
                · intro r a w' hf hg hW hr hd K hK
                  refine wpOp_of rfl rfl ?_
                  refine hf.depE hg hd 9 69 (by kernel_rfl) fun u0 e0 g0 h0 => ?_
                  go_simp
                  exact hK _ _ trivial (hW.put10 _ h0)
              intro r' w11 hg hW hr'
              obtain ⟨q9, hq9⟩ : ∃ u, r' 9 = some u := Option.ne_none_iff_exists'.1 (hr' 9 (by decide))
              obtain ⟨q10, hq10⟩ : ∃ u, r' 10 = some u := Option.ne_none_iff_exists'.1 (hr' 10 (by decide))
              simp only [List.length_cons, List.length_nil, Nat.reduceAdd, List.range_succ, List.range_zero, List.nil_append, List.cons_append, List.map_cons, List.map_nil, putAll, Act.put, List.setIfInBounds_toArray, List.set_cons_succ, List.set_cons_zero, hq9, hq10, Option.getD_some]
              obtain ⟨_, _, u3, u6, h3, h6, hown9⟩ := hW.c9 q9 hq9
              have hqq := hW.c10 q10 hq10
              rw [hq9] at hqq
              cases hqq
              obtain ⟨A3, d3, rfl, o3⟩ := hW.c3 u3 h3
              obtain ⟨A6, d6, rfl, o6⟩ := hW.c6 u6 h6
              have HK11 := Lib.hid hW.kp
              have HEL11 := Lib.hid hW.el
              have HY := Lib.hid (show CvO w11 w6.heap.size ⟨A3, cx.st.length, d3, A6, cx.ky.length, d6, cx⟩ from ⟨o3, o6⟩)
              dsimp only at hown9
              rw [← HNO.out] at hown9
              obtain ⟨g1, c11, rfl, _, _, _⟩ := own_form hown9
              have HO9 := Lib.hid hown9
              clear hg hW hr' hq9 hq10 h3 h6 o3 o6 hown9 hi0 hz0 hz1 hz2
              go_wp2_with fail
              go_roundw
              case rel =>
                refine ⟨k + 1, out ++ [⟨A3, cx.st.length, d3, A6, cx.ky.length, d6, cx⟩], g1, c11, by omega, by go_num, ?_, ?_, ?_, ?_, ?_, HK11.out⟩
                · rw [List.length_append, ← HNO.out]; rfl
                · rw [HST2.out, List.map_append, HOUT.out]; rfl
                · rw [List.length_append, List.flatMap_append, ← HNO.out]
                  exact HO9.out
                · intro v hv
                  rcases List.mem_append.1 hv with h | h
                  · exact HEL11.out v h
                  · rw [List.mem_singleton.1 h]; exact HY.out
                · rw [List.length_append, ← HNO.out]
                  simp only [List.length_cons, List.length_nil]
                  simp at d2
                  omega
              case measure => simp [intOf]; omega
      · obtain rfl : k = M := by omega
        have HE := Lib.hid (show leaT n KK pr k = leaC n KK pr from leaT_all n KK pr (by rw [← HML.out]; exact Nat.le_refl _))
        have HLC := Lib.hid (show (leaC n KK pr).length ≤ 200 by
          have h2 := congrArg List.length HOUT.out
          rw [List.length_map, HE.out] at h2
          have := HNO.out
          omega)
        have HKDF := Lib.hid (HKP.out.heap HKD6.out id)
        clear hkp
        go_wp2_with fail
        refine ⟨by simp, .inl ⟨_, _, rfl, run_takeDeferred HKDF.out, ?_⟩⟩
        refine ⟨.tuple #[.slice D no c, .int .i64 0], by simp [results, Tryz.results16, go_sem], kp_putObj (HK.out.tr (K3.out.tr (HK36.out.tr HKP.out))) HWD.out _, .slice D no c, ?_, ?_⟩
        · rw [HSL.out, HK0.out, ← HPR.out]
          unfold leaE
          rw [if_neg (by have := HLC.out; omega)]
        · rw [HSL.out, HK0.out, ← HPR.out]
          refine .inr ⟨HLC.out, out, by rw [← HE.out]; exact HOUT.out, ?_, fun x hx => ((HALL.out x hx).mono hw06).put _ HKDF.out rfl⟩
          rw [← HNO.out]
          exact own_mono (ownsRow_putObj HOWN.out _ HKDF.out rfl) hw06
end Go.Proofs.YtpkbpeeelpgmcaaGreat
