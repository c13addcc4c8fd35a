/- Chapter 15: Safe. Printed by gen_saf.py SEAT NUMBER-OF-Safe. -/
import Derived.Test.YtpkbpeeelpgmcaaGreatXCmBM
import Derived.Test.YtpkbpeeelpgmcaaGreatXLibRegInM
namespace Go.Proofs.YtpkbpeeelpgmcaaGreat
open Go.RowKit Go.Kq Go.Flow

theorem KeepsFrom.of_one {B b : Nat} {W W' : World} (hb : b < B) (h : Kp (Kq.One b) W W') : KeepsFrom B W W' := ⟨h.size, fun k _ hB hk _ => h.heap hk fun e => by have e : k = b := e; omega⟩
attribute [local go_sem] Oper.semAt_some
set_option maxHeartbeats 8000000 in
set_option maxRecDepth 100000 in
theorem Safe_bad (Z : Nz) (l : List Sto) (vs : List Sv) (A B C P : Option Addr) (ca cb n cc p cp : Nat) (S : List Int) (c : Int) (w : World) (hR : RdNz w A B Z) (hS : RdSt w C n vs l) (hP : RdI .i64 w P p S) (hp : p ≤ 9223372036854775807) (hc : AskW Z l S [] c) (hz : c ≠ 0) :
    Calls Tryz.prog 11 #[windV Z A B C ca cb n cc, .slice P p cp] w fun e w' => e = .returned (.tuple #[.int .i64 0, .int .i64 c]) ∧ Kp No w w' := by
  obtain ⟨g, hg⟩ : ∃ g, g = w.heap.size := ⟨_, rfl⟩
  obtain ⟨w0, hw0⟩ : ∃ w0, (w.alloc (.cells #[.int .i64 Z.n, .slice A Z.tr.length ca, .slice B Z.ch.length cb, .slice C n cc] 28)).alloc (.cells #[.slice P p cp] 23) = w0 := ⟨_, rfl⟩
  have hk0 : Kp No w w0 := by rw [← hw0]; exact (Kp.alloc _ _ _).tr (Kp.alloc _ _ _)
  have HBX := Lib.hid (show w0.heap[g]? = some (.cells #[.int .i64 Z.n, .slice A Z.tr.length ca, .slice B Z.ch.length cb, .slice C n cc] 28 (0, 0)) by rw [← hw0, hg]; exact (Kp.alloc No _ _).heap (heap_alloc_new w _) id)
  have HBC := Lib.hid (show w0.heap[g + 1]? = some (.cells #[.slice P p cp] 23 (0, 0)) by
    rw [← hw0, hg]
    have := heap_alloc_new (w.alloc (.cells #[.int .i64 Z.n, .slice A Z.tr.length ca, .slice B Z.ch.length cb, .slice C n cc] 28)) (.cells #[.slice P p cp] 23)
    simpa using this)
  have HK := Lib.hid hk0
  have AK := asked_is Z l vs A B C P none ca cb n cc p cp 0 0 S [] c w0 (hR.no hk0) (hS.no hk0) (hP.no hk0) ⟨rfl, fun _ _ h => by cases h⟩ hp (by omega) hc
  unfold comboV at AK
  unfold windV at AK ⊢
  replace AK := Lib.hid AK
  clear hk0 hR hS hP hc
  obtain ⟨p0, p1, p2, p3⟩ := four_at HBX.out
  have q0 : w0.cell? ⟨g + 1, 0, none⟩ = some (.slice P p cp) := by rw [cell_of_row _ _ _ _ _ _ HBC.out]; rfl
  subst hg
  have d1 : (c != 0) = true := by rw [bne_iff_ne]; exact hz
  clear hz
  go_enter Tryz.func11, Tryz.ntmps11
  go_wp2_with fail
  with_reducible refine AK.out.mono ?_
  rintro e w1 ⟨rfl, k1⟩
  go_wp2_with fail
  exact bodyPost_ret (v := .tuple #[.int .i64 0, .int .i64 c]) (by simp [results, Tryz.results11, go_sem]) rfl ⟨rfl, HK.out.tr k1⟩
set_option maxHeartbeats 8000000 in
set_option maxRecDepth 100000 in
theorem Safe_ok (N : Net) (hN : N.Ok) (l : List Sto) (vs : List Sv) (A B C P : Option Addr) (ca cb n cc p cp : Nat) (ss : List Nat) (w : World) (hR : RdNet w A B N) (hS : RdSt w C n vs l) (hP : RdI .i64 w P p (ss.map Int.ofNat)) (hc : AskW (nz N) l (ss.map Int.ofNat) [] 0) :
    Calls Tryz.prog 11 #[windV (nz N) A B C ca cb n cc, .slice P p cp] w fun e w' => e = .returned (.tuple #[.int .i64 (safN (keysN l) (starB N l ss)), .int .i64 0]) ∧ Kp No w w' := by
  obtain ⟨hok, s1, s2, s3, _, _, _⟩ := ask_ok (ks := []) hc
  rw [nz_ch] at hok
  have hpl : ss.length = p := by have := hP.1; simpa using this
  have hl := hS.len
  obtain ⟨g, hg⟩ : ∃ g, g = w.heap.size := ⟨_, rfl⟩
  obtain ⟨w0, hw0⟩ : ∃ w0, (w.alloc (.cells #[.int .i64 N.n, .slice A N.tr.length ca, .slice B N.ch.length cb, .slice C n cc] 28)).alloc (.cells #[.slice P p cp] 23) = w0 := ⟨_, rfl⟩
  have hk0 : Kp No w w0 := by rw [← hw0]; exact (Kp.alloc _ _ _).tr (Kp.alloc _ _ _)
  have HBX := Lib.hid (show w0.heap[g]? = some (.cells #[.int .i64 N.n, .slice A N.tr.length ca, .slice B N.ch.length cb, .slice C n cc] 28 (0, 0)) by rw [← hw0, hg]; exact (Kp.alloc No _ _).heap (heap_alloc_new w _) id)
  have HBC := Lib.hid (show w0.heap[g + 1]? = some (.cells #[.slice P p cp] 23 (0, 0)) by
    rw [← hw0, hg]
    have := heap_alloc_new (w.alloc (.cells #[.int .i64 N.n, .slice A N.tr.length ca, .slice B N.ch.length cb, .slice C n cc] 28)) (.cells #[.slice P p cp] 23)
    simpa using this)
  have HK := Lib.hid hk0
  have AK := asked_is (nz N) l vs A B C P none ca cb n cc p cp 0 0 _ _ 0 w0 ((rdnz_of hR).no hk0) (hS.no hk0) (hP.no hk0) ⟨rfl, fun _ _ h => by cases h⟩ (by omega) (by omega) hc
  have hc16 := hN.c1
  have DM := Lib.hid (fun Q q cq ks W (k : Kp No w0 W) (hQ : RdI .i64 W Q q (ks.map Int.ofNat)) (hks : ∀ x ∈ ks, x < keysN l) (k8 : ks.length ≤ 8) => demand_any (nz N) l vs A B C P Q ca cb n cc p cp q cq ss ks W (by rw [nz_ch]; exact hok) (by rw [nz_ch]; omega) ((hS.no hk0).no k) ((hP.no hk0).no k) hQ (by rw [← hl]; exact s2) hks s3 k8)
  have MD := Lib.hid (fun W (k : Kp No w0 W) => made_any N hN l vs A B C ca cb n cc W ((hR.no hk0).no k) ((hS.no hk0).no k) hok)
  have HSV := Lib.hid (fun E hE ks k8 => dmd_stv (E := E) (ks := ks) hN hok hE s2 s3 k8)
  have HDB := Lib.hid (fun ks k8 => dmd_bd (ks := ks) hok s3 k8)
  have HDL := Lib.hid (fun ks => dmd_len N.ch.length l ss ks)
  have HK8 := Lib.hid hok.k8
  have HS0 := Lib.hid (hS.no hk0)
  have hl1 := hok.l1
  rw [hl] at hl1
  have HL := Lib.hid hl
  unfold comboV at AK DM
  unfold windV at AK DM ⊢
  unfold windV at MD
  unfold DmR at DM
  rw [nz_ch, nz_tr] at AK DM MD ⊢
  simp only [show (nz N).n = (N.n : Int) from rfl] at AK DM MD ⊢
  replace AK := Lib.hid AK
  clear hk0 hR hS hP hc hok s1 s2 s3 hpl hl hN
  obtain ⟨p0, p1, p2, p3⟩ := four_at HBX.out
  have q0 : w0.cell? ⟨g + 1, 0, none⟩ = some (.slice P p cp) := by rw [cell_of_row _ _ _ _ _ _ HBC.out]; rfl
  subst hg
  refine (callsIn_wide (n := 6)).1 ?_
  refine callsIn_of_wp_marks Tryz.func11 rfl trivial ?_ rfl
  simp only [Tryz.ntmps11, List.size_toArray, List.length_cons, List.length_nil, Nat.reduceAdd, Nat.reduceSub, Array.replicate_succ, Array.replicate_zero, List.push_toArray, List.append_toArray, List.nil_append, List.cons_append]
  gi_wp2_with (first
    | (refine ⟨trivial, ?_⟩; gi_at_call 20; refine stop_in ?_)
    | gi_in)
  refine stop_out ?_
  refine (callsIn_wide.2 AK.out).mono ?_
  rintro e w1 ⟨rfl, k1⟩
  have K1 := Lib.hid k1
  have B1 := Lib.hid (k1.heap HBX.out id)
  have C1 := Lib.hid (k1.heap HBC.out id)
  clear p0 p1 p2 p3 q0 k1
  obtain ⟨p0, p1, p2, p3⟩ := four_at B1.out
  gi_wp2_with (first
    | (refine ⟨trivial, ?_⟩; gi_at_call 24; refine stop_in ?_)
    | gi_in)
  refine stop_out ?_
  refine (callsIn_wide.2 (MD.out _ K1.out)).mono ?_
  rintro e w3 ⟨Bs, mm, E, rfl, hB, hM, hE, k3⟩
  have HSB := Lib.hid hB
  have HMP := Lib.hid hM
  have HEV := Lib.hid (fun ks k8 => HSV.out E hE ks k8)
  have K3 := Lib.hid (K1.out.tr k3)
  have B3 := Lib.hid (k3.heap B1.out id)
  have C3 := Lib.hid (k3.heap C1.out id)
  clear p0 p1 p2 p3 k3 hB hM hE
  obtain ⟨p0, p1, p2, p3⟩ := four_at B3.out
  obtain ⟨s0, hs0⟩ : ∃ s, l[0]? = some s := ⟨_, List.getElem?_eq_getElem (by rw [HL.out]; omega)⟩
  have HR3 := Lib.hid (HS0.out.no K3.out)
  obtain ⟨v0, bC, oC, hv0, rfl, hbC, y0, y1, is0⟩ := HR3.out.at_ hs0
  have HK0 := Lib.hid (show keysN l = v0.n by unfold keysN; rw [List.getD_eq_getElem?_getD, hs0]; exact is0.2.1.symm)
  rw [Nat.zero_mul, Nat.add_zero] at y0 y1
  obtain ⟨ch0, A0, KK, c0⟩ := v0
  dsimp only at y0 y1 HK0
  have hk8 : KK ≤ 8 := by have := HK8.out; have := HK0.out; omega
  have hbW : w.heap.size < w3.heap.size := (Array.getElem?_eq_some_iff.1 B3.out).1
  clear hs0 hv0 is0
  gi_wp2_with (first
    | (refine ⟨trivial, ?_⟩; gi_at_call 29; refine stop_in ?_)
    | gi_in)
  refine stop_out ?_
  refine (callsIn_wide.2 (subsets_any KK _)).mono ?_
  rintro e w5 ⟨Bx, rfl, hBx, hcx, hk5, _⟩
  obtain ⟨w4, hw4⟩ : ∃ w4, ((w3.alloc (.cells #[.pointer (some ⟨Bs, 0, none⟩)] 53)).alloc (.cells #[.int .i64 (KK : Nat)] 3)) = w4 := ⟨_, rfl⟩
  have hk4 : Kp No w3 w4 := by rw [← hw4]; exact (Kp.alloc _ _ _).tr (Kp.alloc _ _ _)
  have h7 : w4.heap[w3.heap.size]? = some (.cells #[.pointer (some ⟨Bs, 0, none⟩)] 53 (0, 0)) := by rw [← hw4]; exact (Kp.alloc No _ _).heap (heap_alloc_new w3 _) id
  have h8 : w4.heap[w3.heap.size + 1]? = some (.cells #[.int .i64 (KK : Nat)] 3 (0, 0)) := by
    rw [← hw4]
    have := heap_alloc_new (w3.alloc (.cells #[.pointer (some ⟨Bs, 0, none⟩)] 53)) (.cells #[.int .i64 (KK : Nat)] 3)
    simpa using this
  rw [hw4] at hk5 hBx
  obtain ⟨g7, hg7⟩ : ∃ g7, g7 = w3.heap.size := ⟨_, rfl⟩
  obtain ⟨g8, hg8⟩ : ∃ g8, g8 = w3.heap.size + 1 := ⟨_, rfl⟩
  have hs3 : w0.heap.size ≤ w3.heap.size := K3.out.size
  have hs8 := (Array.getElem?_eq_some_iff.1 h8).1
  rw [← hg7] at h7
  rw [← hg8] at h8 hs8
  have hs5 := hk5.size
  have H7 := Lib.hid (hk5.heap h7 id)
  have H8 := Lib.hid (hk5.heap h8 id)
  have K35 := Lib.hid (hk4.tr hk5)
  have HG := Lib.hid (show w0.heap.size ≤ g8 ∧ w3.heap.size ≤ g8 ∧ g7 ≠ g8 ∧ g8 < w5.heap.size ∧ Bx ≠ g8 ∧ w.heap.size ≠ g8 ∧ w.heap.size + 1 ≠ g8 from ⟨by omega, by omega, by omega, by omega, by omega, by omega, by have := (Array.getElem?_eq_some_iff.1 C3.out).1; omega⟩)
  have HCX := Lib.hid hcx
  clear hw4 hk4 h7 h8 hk5 hBx hs3 hs8 hs5 hcx y0 y1 p0 p1 p2 p3 hbW
  gi_wp2
  rw [← hg8, ← hg7]
  clear hg7 hg8
  obtain ⟨pr, hpr⟩ : ∃ pr, pr = starB N l ss := ⟨_, rfl⟩
  have HPRE := Lib.hid hpr
  clear hpr
  refine range_outer (m := KK) (base := w5.heap.size) (Bx := Bx) (by omega) rfl
    (I := fun t W => W.heap[g8]? = some (.cells #[.int .i64 (safF KK pr t)] 3 (0, 0)) ∧ Kp (Kq.One g8) w5 W)
    (Ax := fun t a' W => ∃ D c, a' = { tmps := #[.agg #[.int .i64 N.n, .slice A N.tr.length ca, .slice B N.ch.length cb, .slice (some ⟨bC, oC, none⟩) n cc], .slice P p cp, .pointer (some ⟨w.heap.size, 0, none⟩), .pointer (some ⟨w.heap.size + 1, 0, none⟩), .int .i64 0, .int .i64 0, .int .i64 0, .pointer (some ⟨g7, 0, none⟩), .pointer (some ⟨g8, 0, none⟩), .slice D (numB t KK).length c, .agg #[.int .i64 N.n, .slice A N.tr.length ca, .slice B N.ch.length cb, .slice (some ⟨bC, oC, none⟩) n cc], .slice P p cp, .agg #[.slice P p cp, .slice none 0 0], .int .i64 0, .int .i64 0, .bool false, undef, .agg #[.int .i64 N.n, .slice A N.tr.length ca, .slice B N.ch.length cb, .slice (some ⟨bC, oC, none⟩) n cc], .pointer (some ⟨Bs, 0, none⟩), .pointer (some ⟨w.heap.size, 3, none⟩), .slice (some ⟨bC, oC, none⟩) n cc, .pointer (some ⟨bC, oC, none⟩), .pointer (some ⟨bC, oC + 1, none⟩), .slice A0 KK c0, .int .i64 (KK : Nat), .pointer (some ⟨w.heap.size, 3, none⟩), .slice (some ⟨bC, oC, none⟩) n cc, .pointer (some ⟨bC, oC, none⟩), .pointer (some ⟨bC, oC + 1, none⟩), .slice A0 KK c0, .int .i64 (KK : Nat), .func (.func 57) #[] #[.pointer (some ⟨Bx, 0, none⟩)], .slice D (numB t KK).length c, undef, undef, undef, undef, undef, undef, undef, undef, undef, undef, undef, undef, undef, undef, undef, undef, undef], defers := [] } ∧ W.ownsRow w5.heap.size 3 1 (.slice D (numB t KK).length c) (numB t KK).length (((numB t KK).map Int.ofNat).map (Value.int .i64)))
    { hm := by omega, hps := rfl
      hI := fun t W W' h k => ⟨k.heap h.1 id, h.2.no k⟩
      hIo := fun t W lp o o' h hl hlo ho => ⟨?_, kp_putObj h.2 hl o'⟩
      hAo := fun t b W lp o o' h hl hlo ho => ?_
      hB := fun t W h => ⟨h.2.cell HCX.out HG.out.2.2.2.2.1, h.2.size⟩
      h0 := ⟨H8.out, Kp.refl _ _⟩
      assign := ?_
      body := ?_ } ?_
  · have h1 := (grownBy_putObj' W lp o').block g8 (by have := h.2.size; have := HG.out; omega) (fun e => by injection e with e; have := HG.out; omega)
    rw [h1]
    exact h.1
  · obtain ⟨D, c, h1, h2⟩ := h
    exact ⟨D, c, h1, ownsRow_putObj h2 _ hlo ho⟩
  · rintro lp t v W K ht hi ⟨D, c, rfl, hv⟩ hK
    have HV := Lib.hid hv
    clear hv
    gi_wp2
    exact hK _ _ (Kp.refl _ _) ⟨D, c, rfl, HV.out⟩
  · rintro lp t a' W ht hl ⟨r, hr⟩ ⟨h8, hk5⟩ ⟨D, c, rfl, hv⟩
    have HRI := Lib.hid (RdI.of_own hv)
    have HK5 := Lib.hid hk5
    have HK0W := Lib.hid (show Kp No w0 W from (K3.out.tr K35.out).trans hk5 fun k hk e => by have e : k = g8 := e; have := HG.out; omega)
    have HK3W := Lib.hid (show Kp No w3 W from K35.out.trans hk5 fun k hk e => by have e : k = g8 := e; have := HG.out; omega)
    have BW := Lib.hid (HK3W.out.heap B3.out id)
    have CW := Lib.hid (HK3W.out.heap C3.out id)
    have H7W := Lib.hid (hk5.heap H7.out HG.out.2.2.1)
    have H8W := Lib.hid h8
    have c7 : W.cell? ⟨g7, 0, none⟩ = some (.pointer (some ⟨Bs, 0, none⟩)) := by rw [cell_of_row _ _ _ _ _ _ H7W.out]; rfl
    have c8 : W.cell? ⟨g8, 0, none⟩ = some (.int .i64 (safF KK pr t)) := by rw [cell_of_row _ _ _ _ _ _ h8]; rfl
    have f8 : W.frozen? ⟨g8, 0, none⟩ = false := by simp [World.frozen?, h8]
    have q0 : W.cell? ⟨w.heap.size + 1, 0, none⟩ = some (.slice P p cp) := by rw [cell_of_row _ _ _ _ _ _ CW.out]; rfl
    obtain ⟨p0, p1, p2, p3⟩ := four_at BW.out
    have HSF := Lib.hid (show safF KK pr (t + 1) = if ((numB t KK).length : Int) ≤ safF KK pr t ∧ pr (numB t KK) = true then ((numB t KK).length : Int) - 1 else safF KK pr t from rfl)
    have hkl := numB_len t KK
    have hkn := fun x (hx : x ∈ numB t KK) => (mem_numB.1 hx).1
    obtain ⟨ks, hks⟩ : ∃ ks, ks = numB t KK := ⟨_, rfl⟩
    rw [← hks] at HRI HSF hkl hkn ⊢
    obtain ⟨kl, hkle⟩ : ∃ kl, kl = ks.length := ⟨_, rfl⟩
    obtain ⟨sf, hsf⟩ : ∃ sf, sf = safF KK pr t := ⟨_, rfl⟩
    rw [← hkle] at HRI HSF hkl ⊢
    rw [← hsf] at HSF c8 H8W
    have HKN := Lib.hid (show ∀ x ∈ ks, x < keysN l by rw [HK0.out]; exact hkn)
    have HKL := Lib.hid (show ks.length ≤ 8 by omega)
    have HPR := Lib.hid (show mapStv E (dmd N.ch.length l ss ks) = pr ks by
      rw [HPRE.out, Bool.eq_iff_iff, HEV.out ks HKL.out, starB_iff])
    have HSFB := Lib.hid (show sf ≤ KK from hsf ▸ safF_le t)
    clear h8 hk5 hv hr hl hks hkle hsf hkn
    by_cases hle : (kl : Int) ≤ sf
    · have hd : decide ((kl : Int) ≤ sf) = true := decide_eq_true hle
      have HLE := Lib.hid hle
      clear hle
      obtain ⟨q, hq⟩ : ∃ q, q = pr ks := ⟨_, rfl⟩
      rw [← hq] at HPR
      have HQ := Lib.hid hq
      clear hq
      gi_wp2
      have FS : Stab (fun ix wz u => (ix = 10 → DmF N.ch.length (dmd N.ch.length l ss ks) wz u) ∧ True) := fun ix u wz wz' kz h => ⟨fun e => DmF.no (h.1 e) kz, trivial⟩
      replace FS := Lib.hid FS
      refine wpIn_region_each (fun ix uR => match ix with | 0 => uR = .slice D kl c | 1 => uR = .int .i64 (kl : Nat) | 2 => uR = .int .i64 sf | 3 => uR = .bool true | 4 => uR = .bool true | 5 => uR = .pointer (some ⟨Bs, 0, none⟩) | 6 => uR = .agg #[.int .i64 N.n, .slice A N.tr.length ca, .slice B N.ch.length cb, .slice (some ⟨bC, oC, none⟩) n cc] | 7 => uR = .slice P p cp | 8 => uR = .slice D kl c | 9 => uR = .agg #[.slice P p cp, .slice D kl c] | 11 => uR = .bool q | 12 => uR = .bool q | _ => True) (HvW W (fun ix wz u => (ix = 10 → DmF N.ch.length (dmd N.ch.length l ss ks) wz u) ∧ True)) (by kernel_rfl) (by kernel_rfl) (by kernel_rfl) ?_ ?_ ?_
      · exact HvW.start _ _
      · refine ⟨?_, ?_, ?_, ?_, ?_, ?_, ?_, ?_, ?_, ?_, ?_, ?_, ?_, trivial⟩
        · intro r a w' hf hg hW hr hd K hK
          refine wpOpR_of rfl rfl ?_
          have e0 : a.tmps.getD 9 undef = .slice D kl c := hf.evalFree (by kernel_rfl)
          go_simp
          exact hK _ _ rfl (hW.upd 0 _ ⟨fun e => absurd e (by decide), trivial⟩)
        · intro r a w' hf hg hW hr hd K hK
          refine wpOpR_of rfl rfl ?_
          refine hf.depE hg hd 0 33 (by kernel_rfl) fun u0 e0 g0 h0 => ?_
          replace g0 : u0 = .slice D kl c := g0
          subst g0
          go_simp
          exact hK _ _ rfl (hW.upd 1 _ ⟨fun e => absurd e (by decide), trivial⟩)
        · intro r a w' hf hg hW hr hd K hK
          refine wpOpR_of rfl rfl ?_
          have e0 : a.tmps.getD 8 undef = .pointer (some ⟨g8, 0, none⟩) := hf.evalFree (by kernel_rfl)
          have z0 := hW.kp.cell c8 id
          go_simp
          exact hK _ _ rfl (hW.upd 2 _ ⟨fun e => absurd e (by decide), trivial⟩)
        · intro r a w' hf hg hW hr hd K hK
          refine wpOpR_of rfl rfl ?_
          refine hf.depE hg hd 1 34 (by kernel_rfl) fun u0 e0 g0 h0 => ?_
          replace g0 : u0 = .int .i64 (kl : Nat) := g0
          subst g0
          refine hf.depE hg hd 2 35 (by kernel_rfl) fun u1 e1 g1 h1 => ?_
          replace g1 : u1 = .int .i64 sf := g1
          subst g1
          go_simp
          exact hK _ _ rfl (hW.upd 3 _ ⟨fun e => absurd e (by decide), trivial⟩)
        · intro r a w' hf hg hW hr hd K hK
          refine wpOpR_of rfl rfl ?_
          refine hf.depE hg hd 3 36 (by kernel_rfl) fun u0 e0 g0 h0 => ?_
          replace g0 : u0 = .bool true := g0
          subst g0
          go_simp
          exact hK _ _ rfl (hW.upd 4 _ ⟨fun e => absurd e (by decide), trivial⟩)
        · intro r a w' hf hg hW hr hd K hK
          refine hf.depE hg hd 4 37 (by kernel_rfl) fun uG eG gG _ => ?_
          replace gG : uG = .bool true := gG
          subst gG
          refine wpOpR_run rfl rfl rfl rfl eG ?_
          have e0 : a.tmps.getD 7 undef = .pointer (some ⟨g7, 0, none⟩) := hf.evalFree (by kernel_rfl)
          have z0 := hW.kp.cell c7 id
          go_simp
          exact hK _ _ rfl (hW.upd 5 _ ⟨fun e => absurd e (by decide), trivial⟩)
        · intro r a w' hf hg hW hr hd K hK
          refine hf.depE hg hd 4 37 (by kernel_rfl) fun uG eG gG _ => ?_
          replace gG : uG = .bool true := gG
          subst gG
          refine wpOpR_run rfl rfl rfl rfl eG ?_
          have e0 : a.tmps.getD 2 undef = .pointer (some ⟨w.heap.size, 0, none⟩) := hf.evalFree (by kernel_rfl)
          have z0 := hW.kp.cell p0 id
          have z1 := hW.kp.cell p1 id
          have z2 := hW.kp.cell p2 id
          have z3 := hW.kp.cell p3 id
          go_simp
          exact hK _ _ rfl (hW.upd 6 _ ⟨fun e => absurd e (by decide), trivial⟩)
        · intro r a w' hf hg hW hr hd K hK
          refine hf.depE hg hd 4 37 (by kernel_rfl) fun uG eG gG _ => ?_
          replace gG : uG = .bool true := gG
          subst gG
          refine wpOpR_run rfl rfl rfl rfl eG ?_
          have e0 : a.tmps.getD 3 undef = .pointer (some ⟨w.heap.size + 1, 0, none⟩) := hf.evalFree (by kernel_rfl)
          have z0 := hW.kp.cell q0 id
          go_simp
          exact hK _ _ rfl (hW.upd 7 _ ⟨fun e => absurd e (by decide), trivial⟩)
        · intro r a w' hf hg hW hr hd K hK
          refine hf.depE hg hd 4 37 (by kernel_rfl) fun uG eG gG _ => ?_
          replace gG : uG = .bool true := gG
          subst gG
          refine wpOpR_run rfl rfl rfl rfl eG ?_
          have e0 : a.tmps.getD 9 undef = .slice D kl c := hf.evalFree (by kernel_rfl)
          go_simp
          exact hK _ _ rfl (hW.upd 8 _ ⟨fun e => absurd e (by decide), trivial⟩)
        · intro r a w' hf hg hW hr hd K hK
          refine hf.depE hg hd 4 37 (by kernel_rfl) fun uG eG gG _ => ?_
          replace gG : uG = .bool true := gG
          subst gG
          refine wpOpR_run rfl rfl rfl rfl eG ?_
          refine hf.depE hg hd 7 40 (by kernel_rfl) fun u0 e0 g0 h0 => ?_
          replace g0 : u0 = .slice P p cp := g0
          subst g0
          have e0' := get_of_getD e0
          refine hf.depE hg hd 8 41 (by kernel_rfl) fun u1 e1 g1 h1 => ?_
          replace g1 : u1 = .slice D kl c := g1
          subst g1
          have e1' := get_of_getD e1
          go_simp
          exact hK _ _ rfl (hW.upd 9 _ ⟨fun e => absurd e (by decide), trivial⟩)
        · intro r a w' hf hg hW hr hd K hK
          refine hf.depE hg hd 4 37 (by kernel_rfl) fun uG eG gG _ => ?_
          replace gG : uG = .bool true := gG
          subst gG
          refine wpOpR_run rfl rfl rfl rfl eG ?_
          refine hf.depE hg hd 6 39 (by kernel_rfl) fun u0 e0 g0 h0 => ?_
          replace g0 : u0 = .agg #[.int .i64 N.n, .slice A N.tr.length ca, .slice B N.ch.length cb, .slice (some ⟨bC, oC, none⟩) n cc] := g0
          subst g0
          refine hf.depE hg hd 9 42 (by kernel_rfl) fun u1 e1 g1 h1 => ?_
          replace g1 : u1 = .agg #[.slice P p cp, .slice D kl c] := g1
          subst g1
          go_simp
          with_reducible refine (DM.out D kl c ks _ (HK0W.out.tr hW.kp) (HRI.out.no hW.kp) HKN.out HKL.out).mono ?_
          rintro e w'' ⟨G, rfl, ho, k⟩
          exact hK _ _ trivial ((hW.call FS.out k).upd 10 _ ⟨fun _ => ⟨G, rfl, RdI.of_own ho⟩, trivial⟩)
        · intro r a w' hf hg hW hr hd K hK
          refine hf.depE hg hd 4 37 (by kernel_rfl) fun uG eG gG _ => ?_
          replace gG : uG = .bool true := gG
          subst gG
          refine wpOpR_run rfl rfl rfl rfl eG ?_
          refine hf.depE hg hd 5 38 (by kernel_rfl) fun u0 e0 g0 h0 => ?_
          replace g0 : u0 = .pointer (some ⟨Bs, 0, none⟩) := g0
          subst g0
          refine hf.depE hg hd 10 43 (by kernel_rfl) fun u1 e1 g1 h1 => ?_
          have f1 := (hW.hv 10 u1 h1).1 rfl
          obtain ⟨G, rfl, hrd⟩ := f1
          have ST := sstarves_any Bs mm E (some ⟨G, 0, none⟩) N.ch.length N.ch.length (dmd N.ch.length l ss ks) _ ((HK3W.out.tr hW.kp).cell HSB.out id) (HMP.out.of_block ((HK3W.out.tr hW.kp).block _ HMP.out.lt id)) hrd hc16 (fun d hd => by have := HDB.out ks HKL.out d hd; omega)
          rw [HPR.out] at ST
          go_simp
          with_reducible refine ST.mono ?_
          rintro e w'' ⟨rfl, k⟩
          exact hK _ _ rfl ((hW.call FS.out k).upd 11 _ ⟨fun e => absurd e (by decide), trivial⟩)
        · intro r a w' hf hg hW hr hd K hK
          refine wpOpR_of rfl rfl ?_
          refine hf.depE hg hd 4 37 (by kernel_rfl) fun u0 e0 g0 h0 => ?_
          replace g0 : u0 = .bool true := g0
          subst g0
          have e0' := get_of_getD e0
          refine hf.depE hg hd 11 44 (by kernel_rfl) fun u1 e1 g1 h1 => ?_
          replace g1 : u1 = .bool q := g1
          subst g1
          have e1' := get_of_getD e1
          go_simp
          exact hK _ _ rfl (hW.upd 12 _ ⟨fun e => absurd e (by decide), trivial⟩)
      intro r' W9 hg hW hr'
      have hkN := hW.kp
      obtain ⟨q12, hq12⟩ : ∃ u, r' 12 = some u := Option.ne_none_iff_exists'.1 (hr' 12 (by decide))
      have hk12 := hg 12 q12 hq12
      replace hk12 : q12 = .bool q := hk12
      subst hk12
      simp only [List.length_cons, List.length_nil, Nat.reduceAdd, List.range_succ, List.range_zero, List.nil_append, List.cons_append, List.map_cons, List.map_nil, putAll, Act.put, List.setIfInBounds_toArray, List.set_cons_succ, List.set_cons_zero, hq12, Option.getD_some]
      clear hg hW hr' FS hq12
      cases q with
      | true =>
        have hse : safF KK pr (t + 1) = (kl : Int) - 1 := by rw [HSF.out, if_pos ⟨HLE.out, HQ.out.symm⟩]
        have HSE := Lib.hid hse
        have h9 := hkN.heap H8W.out id
        have c9 : W9.cell? ⟨g8, 0, none⟩ = some (.int .i64 sf) := by rw [cell_of_row _ _ _ _ _ _ h9]; rfl
        have f9 : W9.frozen? ⟨g8, 0, none⟩ = false := by simp [World.frozen?, h9]
        have H9 := Lib.hid h9
        clear hse c8 f8 h9
        gi_wp2
        have hko := kp_setOne W9 g8 0 (.int .i64 ((kl : Int) - 1))
        exact ⟨⟨by rw [HSE.out]; simp [World.setCell, Array.getElem?_modify, H9.out], (HK5.out.no hkN).tr hko⟩, (KeepsFrom.of_kp hkN).trans (KeepsFrom.of_one HG.out.2.2.2.1 hko)⟩
      | false =>
        have hse : safF KK pr (t + 1) = sf := by rw [HSF.out, if_neg fun h => by have h := h.2; rw [← HQ.out] at h; cases h]
        have HSE := Lib.hid hse
        clear hse
        gi_wp2
        exact ⟨⟨by rw [HSE.out]; exact hkN.heap H8W.out id, HK5.out.no hkN⟩, KeepsFrom.of_kp hkN⟩
    · have hd : decide ((kl : Int) ≤ sf) = false := decide_eq_false hle
      have hse : safF KK pr (t + 1) = sf := by rw [HSF.out, if_neg fun h => hle h.1]
      have HSE := Lib.hid hse
      clear hle hse
      gi_wp2
      have FS : Stab (fun ix wz u => True) := fun ix u wz wz' kz h => trivial
      replace FS := Lib.hid FS
      refine wpIn_region_each (fun ix uR => match ix with | 0 => uR = .slice D kl c | 1 => uR = .int .i64 (kl : Nat) | 2 => uR = .int .i64 sf | 3 => uR = .bool false | 4 => uR = .bool false | 5 => uR = undef | 6 => uR = undef | 7 => uR = undef | 8 => uR = undef | 9 => uR = undef | 10 => uR = undef | 11 => uR = undef | 12 => uR = .bool false | _ => True) (HvW W (fun ix wz u => True)) (by kernel_rfl) (by kernel_rfl) (by kernel_rfl) ?_ ?_ ?_
      · exact HvW.start _ _
      · refine ⟨?_, ?_, ?_, ?_, ?_, ?_, ?_, ?_, ?_, ?_, ?_, ?_, ?_, trivial⟩
        · intro r a w' hf hg hW hr hd K hK
          refine wpOpR_of rfl rfl ?_
          have e0 : a.tmps.getD 9 undef = .slice D kl c := hf.evalFree (by kernel_rfl)
          go_simp
          exact hK _ _ rfl (hW.upd 0 _ trivial)
        · intro r a w' hf hg hW hr hd K hK
          refine wpOpR_of rfl rfl ?_
          refine hf.depE hg hd 0 33 (by kernel_rfl) fun u0 e0 g0 h0 => ?_
          replace g0 : u0 = .slice D kl c := g0
          subst g0
          go_simp
          exact hK _ _ rfl (hW.upd 1 _ trivial)
        · intro r a w' hf hg hW hr hd K hK
          refine wpOpR_of rfl rfl ?_
          have e0 : a.tmps.getD 8 undef = .pointer (some ⟨g8, 0, none⟩) := hf.evalFree (by kernel_rfl)
          have z0 := hW.kp.cell c8 id
          go_simp
          exact hK _ _ rfl (hW.upd 2 _ trivial)
        · intro r a w' hf hg hW hr hd K hK
          refine wpOpR_of rfl rfl ?_
          refine hf.depE hg hd 1 34 (by kernel_rfl) fun u0 e0 g0 h0 => ?_
          replace g0 : u0 = .int .i64 (kl : Nat) := g0
          subst g0
          refine hf.depE hg hd 2 35 (by kernel_rfl) fun u1 e1 g1 h1 => ?_
          replace g1 : u1 = .int .i64 sf := g1
          subst g1
          go_simp
          exact hK _ _ rfl (hW.upd 3 _ trivial)
        · intro r a w' hf hg hW hr hd K hK
          refine wpOpR_of rfl rfl ?_
          refine hf.depE hg hd 3 36 (by kernel_rfl) fun u0 e0 g0 h0 => ?_
          replace g0 : u0 = .bool false := g0
          subst g0
          go_simp
          exact hK _ _ rfl (hW.upd 4 _ trivial)
        · intro r a w' hf hg hW hr hd K hK
          refine hf.depE hg hd 4 37 (by kernel_rfl) fun uG eG gG _ => ?_
          replace gG : uG = .bool false := gG
          subst gG
          refine wpOpR_skip rfl rfl rfl rfl eG (by decide) ?_
          exact hK _ _ rfl (hW.upd 5 _ trivial)
        · intro r a w' hf hg hW hr hd K hK
          refine hf.depE hg hd 4 37 (by kernel_rfl) fun uG eG gG _ => ?_
          replace gG : uG = .bool false := gG
          subst gG
          refine wpOpR_skip rfl rfl rfl rfl eG (by decide) ?_
          exact hK _ _ rfl (hW.upd 6 _ trivial)
        · intro r a w' hf hg hW hr hd K hK
          refine hf.depE hg hd 4 37 (by kernel_rfl) fun uG eG gG _ => ?_
          replace gG : uG = .bool false := gG
          subst gG
          refine wpOpR_skip rfl rfl rfl rfl eG (by decide) ?_
          exact hK _ _ rfl (hW.upd 7 _ trivial)
        · intro r a w' hf hg hW hr hd K hK
          refine hf.depE hg hd 4 37 (by kernel_rfl) fun uG eG gG _ => ?_
          replace gG : uG = .bool false := gG
          subst gG
          refine wpOpR_skip rfl rfl rfl rfl eG (by decide) ?_
          exact hK _ _ rfl (hW.upd 8 _ trivial)
        · intro r a w' hf hg hW hr hd K hK
          refine hf.depE hg hd 4 37 (by kernel_rfl) fun uG eG gG _ => ?_
          replace gG : uG = .bool false := gG
          subst gG
          refine wpOpR_skip rfl rfl rfl rfl eG (by decide) ?_
          exact hK _ _ rfl (hW.upd 9 _ trivial)
        · intro r a w' hf hg hW hr hd K hK
          refine hf.depE hg hd 4 37 (by kernel_rfl) fun uG eG gG _ => ?_
          replace gG : uG = .bool false := gG
          subst gG
          refine wpOpR_skip rfl rfl rfl rfl eG (by decide) ?_
          exact hK _ _ rfl (hW.upd 10 _ trivial)
        · intro r a w' hf hg hW hr hd K hK
          refine hf.depE hg hd 4 37 (by kernel_rfl) fun uG eG gG _ => ?_
          replace gG : uG = .bool false := gG
          subst gG
          refine wpOpR_skip rfl rfl rfl rfl eG (by decide) ?_
          exact hK _ _ rfl (hW.upd 11 _ trivial)
        · intro r a w' hf hg hW hr hd K hK
          refine wpOpR_of rfl rfl ?_
          refine hf.depE hg hd 4 37 (by kernel_rfl) fun u0 e0 g0 h0 => ?_
          replace g0 : u0 = .bool false := g0
          subst g0
          have e0' := get_of_getD e0
          refine hf.depE hg hd 11 44 (by kernel_rfl) fun u1 e1 g1 h1 => ?_
          replace g1 : u1 = undef := g1
          subst g1
          have e1' := get_of_getD e1
          go_simp
          exact hK _ _ rfl (hW.upd 12 _ trivial)
      intro r' W9 hg hW hr'
      have hkN := hW.kp
      obtain ⟨q12, hq12⟩ : ∃ u, r' 12 = some u := Option.ne_none_iff_exists'.1 (hr' 12 (by decide))
      have hk12 := hg 12 q12 hq12
      replace hk12 : q12 = .bool false := hk12
      subst hk12
      simp only [List.length_cons, List.length_nil, Nat.reduceAdd, List.range_succ, List.range_zero, List.nil_append, List.cons_append, List.map_cons, List.map_nil, putAll, Act.put, List.setIfInBounds_toArray, List.set_cons_succ, List.set_cons_zero, hq12, Option.getD_some]
      clear hg hW hr' FS hq12
      gi_wp2
      exact ⟨⟨by rw [HSE.out]; exact hkN.heap H8W.out id, HK5.out.no hkN⟩, KeepsFrom.of_kp hkN⟩
  · rintro Dd W hD ⟨h8, hk5⟩ hK
    have c8 : W.cell? ⟨g8, 0, none⟩ = some (.int .i64 (safF KK pr (2 ^ KK))) := by rw [cell_of_row _ _ _ _ _ _ h8]; rfl
    have HKE := Lib.hid (show Kp No w0 W from (K3.out.tr K35.out).trans hk5 fun k hk e => by have e : k = g8 := e; have := HG.out; omega)
    clear h8 hk5
    gi_wp2
    refine ⟨by simp, .inl ⟨_, _, rfl, run_takeDeferred hK, ?_⟩⟩
    refine ⟨.tuple #[.int .i64 (safF KK pr (2 ^ KK)), .int .i64 0], by simp [results, Tryz.results11, go_sem], by rw [HK0.out, ← HPRE.out]; rfl, ?_⟩
    exact kp_putObj (HK.out.tr HKE.out) (by have := HK.out.size; have := K3.out.size; have := K35.out.size; omega) _
end Go.Proofs.YtpkbpeeelpgmcaaGreat
