/- Chapter 15: whether a combination starves a system: the program's Starves. -/
import Derived.Test.YtpkbpeeelpgmcaaGreatXWdM
namespace Go.Proofs.YtpkbpeeelpgmcaaGreat
open Go.RowKit Go.Kq Go.Flow

theorem chk_net {Z : Nz} {l : List Sto} (h : ChkW Z l 0) : ∃ N : Net, N.Ok ∧ Z = nz N ∧ StoOk N.ch.length l := by
  obtain ⟨h1, h2⟩ := chkW_zero h
  obtain ⟨N, hN, rfl⟩ := chk_zero h1
  exact ⟨N, hN, rfl, by simpa [nz] using h2⟩
theorem nz_ch (N : Net) : (nz N).ch.length = N.ch.length := by simp [nz]
theorem nz_tr (N : Net) : (nz N).tr.length = N.tr.length := by simp [nz]
/-- Demands of a combination lie in what the map knows. -/
theorem dmd_stv {N : Net} {l : List Sto} {E : List (Bls 16 × Int)} (hN : N.Ok) (hok : StoOk N.ch.length l) (hE : CapOf N (useS l) (2 ^ (useS l).length) E) {ss ks : List Nat} (hs : ∀ x ∈ ss, x < l.length) (h8 : ss.length ≤ 8) (k8 : ks.length ≤ 8) :
    mapStv E (dmd N.ch.length l ss ks) = true ↔ Stv N (dmd N.ch.length l ss ks) := by
  have h16 := hN.c1
  refine stv_map hE (useS_up l) (fun x hx => ?_) (by rw [dmd_len]; exact h16) (dmd_len _ _ _ _) (fun d hd => (dmd_bd hok h8 k8 d hd).1) (fun c hc hn => dmd_zero l ks fun i hi e => hn ?_)
  · obtain ⟨s, hs, rfl⟩ := useS_mem.1 hx
    have := (hok.ok s hs).1
    omega
  · have hil := hs i hi
    refine useS_mem.2 ⟨l[i], List.getElem_mem hil, ?_⟩
    rw [e, List.getD_eq_getElem?_getD, List.getElem?_eq_getElem hil]
    rfl
theorem stv_not {N : Net} {ds F : List Int} (hl : ds.length = N.ch.length) (hF : N.Feas false ds F) : ¬ Stv N ds := fun ⟨R, hR, hlt⟩ => by
  have := feas_wt hl hF hR
  omega
/-- What Starves returns where the combination is not wrong. -/
def StaR (N : Net) (l : List Sto) (ss ks : List Nat) (w : World) (e : Ending) (w' : World) : Prop := Kp No w w' ∧
  ((¬ Stv N (dmd N.ch.length l ss ks) ∧ e = .returned (.tuple #[.bool false, .slice none 0 0, .int .i64 0])) ∨
   (∃ R v, Min N.A0 (N.wt false (dmd N.ch.length l ss ks)) R ∧ N.wt false (dmd N.ch.length l ss ks) R < sumZ (dmd N.ch.length l ss ks) ∧ e = .returned (.tuple #[.bool true, v, .int .i64 0]) ∧ w'.ownsRow w.heap.size 3 1 v (mem R N.n).length ((mem R N.n).map natV)))
set_option maxHeartbeats 4000000 in
set_option maxRecDepth 100000 in
theorem Starves_bad (Z : Nz) (l : List Sto) (vs : List Sv) (A B C P Q : Option Addr) (ca cb n cc p cp q cq : Nat) (S K : List Int) (c : Int) (w : World) (hR : RdNz w A B Z) (hS : RdSt w C n vs l) (hP : RdI .i64 w P p S) (hQ : RdI .i64 w Q q K) (hp : p ≤ 9223372036854775807) (hq : q ≤ 9223372036854775807) (hc : AskW Z l S K c) (hz : c ≠ 0) :
    Calls Tryz.prog 9 #[windV Z A B C ca cb n cc, comboV P p cp Q q cq] w fun e w' => e = .returned (.tuple #[.bool false, .slice none 0 0, .int .i64 c]) ∧ Kp No w w' := by
  obtain ⟨g, hg⟩ : ∃ g, g = w.heap.size := ⟨_, rfl⟩
  obtain ⟨w0, hw0⟩ : ∃ w0, (w.alloc (.cells #[.int .i64 Z.n, .slice A Z.tr.length ca, .slice B Z.ch.length cb, .slice C n cc] 28)).alloc (.cells #[.slice P p cp, .slice Q q cq] 30) = w0 := ⟨_, rfl⟩
  have hk0 : Kp No w w0 := by rw [← hw0]; exact (Kp.alloc _ _ _).tr (Kp.alloc _ _ _)
  have HBX := Lib.hid (show w0.heap[g]? = some (.cells #[.int .i64 Z.n, .slice A Z.tr.length ca, .slice B Z.ch.length cb, .slice C n cc] 28 (0, 0)) by rw [← hw0, hg]; exact (Kp.alloc No _ _).heap (heap_alloc_new w _) id)
  have HBC := Lib.hid (show w0.heap[g + 1]? = some (.cells #[.slice P p cp, .slice Q q cq] 30 (0, 0)) by
    rw [← hw0, hg]
    have := heap_alloc_new (w.alloc (.cells #[.int .i64 Z.n, .slice A Z.tr.length ca, .slice B Z.ch.length cb, .slice C n cc] 28)) (.cells #[.slice P p cp, .slice Q q cq] 30)
    simpa using this)
  have HK := Lib.hid hk0
  have AK := asked_is Z l vs A B C P Q ca cb n cc p cp q cq S K c w0 (hR.no hk0) (hS.no hk0) (hP.no hk0) (hQ.no hk0) hp hq hc
  unfold windV comboV at AK ⊢
  replace AK := Lib.hid AK
  clear hk0 hR hS hP hQ hc
  obtain ⟨p0, p1, p2, p3⟩ := four_at HBX.out
  obtain ⟨q0, q1, _, _⟩ := cell_head HBC.out
  subst hg
  have d1 : (c != 0) = true := by rw [bne_iff_ne]; exact hz
  clear hz
  go_enter Tryz.func9, Tryz.ntmps9
  go_wp2_with fail
  with_reducible refine AK.out.mono ?_
  rintro e w1 ⟨rfl, k1⟩
  go_wp2_with fail
  exact bodyPost_ret (v := .tuple #[.bool false, .slice none 0 0, .int .i64 c]) (by simp [results, Tryz.results9, go_sem]) rfl ⟨rfl, HK.out.tr k1⟩
set_option maxHeartbeats 8000000 in
set_option maxRecDepth 100000 in
theorem Starves_ok (N : Net) (hN : N.Ok) (l : List Sto) (vs : List Sv) (A B C P Q : Option Addr) (ca cb n cc p cp q cq : Nat) (ss ks : List Nat) (w : World) (hR : RdNet w A B N) (hS : RdSt w C n vs l) (hP : RdI .i64 w P p (ss.map Int.ofNat)) (hQ : RdI .i64 w Q q (ks.map Int.ofNat)) (hc : AskW (nz N) l (ss.map Int.ofNat) (ks.map Int.ofNat) 0) :
    Calls Tryz.prog 9 #[windV (nz N) A B C ca cb n cc, comboV P p cp Q q cq] w (StaR N l ss ks w) := by
  obtain ⟨hok, s1, s2, s3, t1, t2, t3⟩ := ask_ok hc
  rw [nz_ch] at hok
  have hpl : ss.length = p := by have := hP.1; simpa using this
  have hql : ks.length = q := by have := hQ.1; simpa using this
  have hl := hS.len
  obtain ⟨g, hg⟩ : ∃ g, g = w.heap.size := ⟨_, rfl⟩
  obtain ⟨w0, hw0⟩ : ∃ w0, (w.alloc (.cells #[.int .i64 N.n, .slice A N.tr.length ca, .slice B N.ch.length cb, .slice C n cc] 28)).alloc (.cells #[.slice P p cp, .slice Q q cq] 30) = w0 := ⟨_, rfl⟩
  have hk0 : Kp No w w0 := by rw [← hw0]; exact (Kp.alloc _ _ _).tr (Kp.alloc _ _ _)
  have HBX := Lib.hid (show w0.heap[g]? = some (.cells #[.int .i64 N.n, .slice A N.tr.length ca, .slice B N.ch.length cb, .slice C n cc] 28 (0, 0)) by rw [← hw0, hg]; exact (Kp.alloc No _ _).heap (heap_alloc_new w _) id)
  have HBC := Lib.hid (show w0.heap[g + 1]? = some (.cells #[.slice P p cp, .slice Q q cq] 30 (0, 0)) by
    rw [← hw0, hg]
    have := heap_alloc_new (w.alloc (.cells #[.int .i64 N.n, .slice A N.tr.length ca, .slice B N.ch.length cb, .slice C n cc] 28)) (.cells #[.slice P p cp, .slice Q q cq] 30)
    simpa using this)
  have HK := Lib.hid hk0
  have AK := asked_is (nz N) l vs A B C P Q ca cb n cc p cp q cq _ _ 0 w0 ((rdnz_of hR).no hk0) (hS.no hk0) (hP.no hk0) (hQ.no hk0) (by omega) (by omega) hc
  have hc16 := hN.c1
  have DM := fun W (k : Kp No w0 W) => demand_any (nz N) l vs A B C P Q ca cb n cc p cp q cq ss ks W (by rw [nz_ch]; exact hok) (by rw [nz_ch]; omega) ((hS.no hk0).no k) ((hP.no hk0).no k) ((hQ.no hk0).no k) (by rw [← hl]; exact s2) t2 s3 t3
  have MD := fun W (k : Kp No w0 W) => made_any N hN l vs A B C ca cb n cc W ((hR.no hk0).no k) ((hS.no hk0).no k) hok
  have HSV := Lib.hid (fun E hE => dmd_stv (E := E) hN hok hE s2 s3 t3)
  have HDL := Lib.hid (dmd_len N.ch.length l ss ks)
  have HDB := Lib.hid (dmd_bd hok s3 t3)
  unfold windV comboV at AK DM ⊢
  unfold windV at MD
  unfold DmR at DM
  rw [nz_ch, nz_tr] at AK DM MD ⊢
  simp only [show (nz N).n = (N.n : Int) from rfl] at AK DM MD ⊢
  unfold StaR
  generalize dmd N.ch.length l ss ks = ds at *
  have SV := Lib.hid (fun D dc W (hRR : RdNet W A B N) (hD : RdI .i64 W (some D) N.ch.length ds) => Supply_ok N hN A B (some D) ca cb N.ch.length dc false ds W hRR hD (fun h => by cases h) HDL.out (fun d hd => by have := HDB.out d hd; unfold dOk; omega))
  have HR := Lib.hid (hR.no hk0)
  unfold netV at SV
  replace AK := Lib.hid AK
  replace DM := Lib.hid DM
  replace MD := Lib.hid MD
  clear hk0 hR hS hP hQ hc hok s1 s2 s3 t1 t2 t3 hpl hql hl hN
  obtain ⟨p0, p1, p2, p3⟩ := four_at HBX.out
  obtain ⟨q0, q1, _, _⟩ := cell_head HBC.out
  subst hg
  go_enter Tryz.func9, Tryz.ntmps9
  go_wp2_with fail
  with_reducible refine AK.out.mono ?_
  rintro e w1 ⟨rfl, k1⟩
  have K1 := Lib.hid k1
  have B1 := Lib.hid (k1.heap HBX.out id)
  have C1 := Lib.hid (k1.heap HBC.out id)
  clear p0 p1 p2 p3 q0 q1 k1
  obtain ⟨p0, p1, p2, p3⟩ := four_at B1.out
  obtain ⟨q0, q1, _, _⟩ := cell_head C1.out
  go_wp2_with fail
  with_reducible refine (DM.out _ K1.out).mono ?_
  rintro e w2 ⟨G, rfl, ho, k2⟩
  have HO := Lib.hid ho
  have K2 := Lib.hid (K1.out.tr k2)
  have B2 := Lib.hid (k2.heap B1.out id)
  have hlen : ds.length = N.ch.length := HDL.out
  have HRD := Lib.hid (show RdI .i64 w2 (some ⟨G, 0, none⟩) N.ch.length ds by
    have h := ho
    exact RdI.of_own h)
  clear p0 p1 p2 p3 q0 q1 ho k2
  obtain ⟨p0, p1, p2, p3⟩ := four_at B2.out
  go_wp2_with fail
  with_reducible refine (MD.out _ K2.out).mono ?_
  rintro e w3 ⟨Bs, mm, E, rfl, hB, hM, hE, k3⟩
  have ST := Lib.hid (sstarves_any Bs mm E (some ⟨G, 0, none⟩) N.ch.length N.ch.length ds w3 hB hM (HRD.out.no k3) hc16 (fun d hd => by have := HDB.out d hd; omega))
  have HEV := Lib.hid (HSV.out E hE)
  have K3 := Lib.hid (K2.out.tr k3)
  have B3 := Lib.hid (k3.heap B2.out id)
  have HRD3 := Lib.hid (HRD.out.no k3)
  clear p0 p1 p2 p3 k3 hB hM hE
  obtain ⟨p0, p1, p2, p3⟩ := four_at B3.out
  by_cases hsv : Stv N ds
  rotate_left
  · have hne : mapStv E ds = false := by
      cases hm : mapStv E ds
      · rfl
      · exact absurd (HEV.out.1 hm) hsv
    rw [hne] at ST
    have HSN := Lib.hid hsv
    clear hsv hne
    go_wp2_with fail
    with_reducible refine ST.out.mono ?_
    rintro e w4 ⟨rfl, k4⟩
    go_wp2_with fail
    refine bodyPost_ret (v := .tuple #[.bool false, .slice none 0 0, .int .i64 0]) (by simp [results, Tryz.results9, go_sem]) rfl ?_
    exact ⟨HK.out.tr (K3.out.tr k4), .inl ⟨HSN.out, rfl⟩⟩
  · have hne : mapStv E ds = true := HEV.out.2 hsv
    rw [hne] at ST
    have HSN := Lib.hid hsv
    clear hsv hne
    go_wp2_with fail
    with_reducible refine ST.out.mono ?_
    rintro e w4 ⟨rfl, k4⟩
    have K4 := Lib.hid (K3.out.tr k4)
    have B4 := Lib.hid (k4.heap B3.out id)
    have SU := Lib.hid (SV.out ⟨G, 0, none⟩ N.ch.length w4 (HR.out.no K4.out) (HRD3.out.no k4))
    clear p0 p1 p2 p3 k4
    obtain ⟨p0, p1, p2, p3⟩ := four_at B4.out
    go_wp2_with fail
    with_reducible refine SU.out.mono ?_
    rintro e w5 ⟨vf, vp, rfl, hsup, k5⟩
    have K5 := Lib.hid (HK.out.tr (K4.out.tr k5))
    have HZ := Lib.hid (HK.out.tr K4.out).size
    rcases hsup with ⟨F, hF, _⟩ | ⟨R, hRm, hlt, _, how⟩
    · exact absurd HSN.out (stv_not hlen hF.1)
    · have HOW := Lib.hid how
      have HRM := Lib.hid hRm
      have HLT := Lib.hid hlt
      clear how hRm hlt k5 p0 p1 p2 p3
      obtain ⟨av, cv, rfl, _, _, _⟩ := own_form HOW.out
      go_wp2_with fail
      refine bodyPost_ret (v := .tuple #[.bool true, .slice av (mem R N.n).length cv, .int .i64 0]) (by simp [results, Tryz.results9, go_sem]) rfl ?_
      exact ⟨K5.out, .inr ⟨R, _, HRM.out, HLT.out, rfl, own_mono HOW.out HZ.out⟩⟩
end Go.Proofs.YtpkbpeeelpgmcaaGreat
