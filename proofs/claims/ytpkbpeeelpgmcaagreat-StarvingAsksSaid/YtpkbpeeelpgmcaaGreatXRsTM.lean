/- Chapter 14: the walk of the reference's Supply. · Chapter 15: the document's Starves. Printed by gen_rst.py SEAT NUMBER-OF-Starves. -/
import Derived.Test.YtpkbpeeelpgmcaaGreatXNwGvs
import Derived.Test.YtpkbpeeelpgmcaaGreatXNwLswM
import Derived.Test.YtpkbpeeelpgmcaaGreatXNwLea
import Derived.Test.YtpkbpeeelpgmcaaGreatXNwSpl
import Derived.Test.YtpkbpeeelpgmcaaGreatXRsA
import Derived.Test.YtpkbpeeelpgmcaaGreatXWdFrM
namespace Go.Proofs.YtpkbpeeelpgmcaaGreat
open Go.RowKit Go.Kq Go.Flow

theorem rdem_ok (N : Net) (hN : N.Ok) (A B D : Option Addr) (ca cb dc : Nat) (ds : List Int) (w : World) (hR : RdNet w A B N) (hD : RdI .i64 w D ds.length ds) (hl : ds.length = N.ch.length) (hd : ∀ d ∈ ds, dOk d) :
    Calls Tryz.prog 54 #[netV N A B ca cb, .slice D ds.length dc] w fun e w' => e = .returned (.int .i64 0) ∧ Kp No w w' := by
  have hc1 := hN.c1
  refine (rdem_net N hN A B D ca cb dc ds w hR hD (by omega)).mono ?_
  rintro e w' ⟨c, rfl, ⟨_, rfl⟩ | ⟨hb, _⟩, hk⟩
  · exact ⟨rfl, hk⟩
  · exact absurd ⟨hl, hd⟩ hb
theorem rdem_arg (N : Net) (hN : N.Ok) (A B D : Option Addr) (ca cb dc : Nat) (ds : List Int) (w : World) (hR : RdNet w A B N) (hD : RdI .i64 w D ds.length ds) (h20 : ds.length ≤ 1000000) (hb : ¬ (ds.length = N.ch.length ∧ ∀ d ∈ ds, dOk d)) :
    Calls Tryz.prog 54 #[netV N A B ca cb, .slice D ds.length dc] w fun e w' => e = .returned (.int .i64 2) ∧ Kp No w w' := by
  refine (rdem_net N hN A B D ca cb dc ds w hR hD h20).mono ?_
  rintro e w' ⟨c, rfl, ⟨hg, _⟩ | ⟨_, rfl⟩, hk⟩
  · exact absurd hg hb
  · exact ⟨rfl, hk⟩
theorem dok62 {ds : List Int} (h : ∀ d ∈ ds, dOk d) : ∀ d ∈ ds, 0 ≤ d ∧ d ≤ 62000000000000 := fun d hd => by
  have := h d hd
  unfold dOk at this
  omega
attribute [local go_sem ↓] Go.wp_at_zero Go.wp_at_succ
set_option maxHeartbeats 4000000 in
set_option maxRecDepth 100000 in
theorem rsup_no (N : Net) (hN : N.Ok) (h8 : N.n ≤ 7) (h14 : N.tr.length ≤ 20) (A B D : Option Addr) (ca cb dc : Nat) (hi : Bool) (ds : List Int) (R : Nat → Bool) (w : World) (hR : RdNet w A B N) (hD : RdI .i64 w D ds.length ds) (hnil : D = none → ds.length = 0 ∧ dc = 0) (hl : ds.length = N.ch.length) (hd : ∀ d ∈ ds, dOk d) (hRm : Min N.A0 (N.wt hi ds) R) (hlt : N.wt hi ds R < sumZ ds) :
    Calls Tryz.prog 28 #[netV N A B ca cb, .bool hi, .slice D ds.length dc] w fun e w' => ∃ v, e = .returned (.tuple #[.slice none 0 0, v, .int .i64 0]) ∧ w'.ownsRow w.heap.size 3 1 v (mem R N.n).length ((mem R N.n).map natV) ∧ Kp No w w' := by
  obtain ⟨i0, hi0, hz0, hz1, hz2⟩ := info_parts info2
  have hc1 := hN.c1
  have H1 := Lib.hid (fun W hR hD => rdem_ok N hN A B D ca cb dc ds W hR hD hl hd)
  have H2 := Lib.hid (fun W hR hD => gives_any N hN h8 h14 A B D none ca cb dc 0 hi ds [] W hR hD (RdI.nil _ _) (fun _ => ⟨rfl, rfl⟩) hl (dok62 hd) (by simp) (fun i f t h => by simp at h))
  have H3 := Lib.hid (fun g c W hR hD => least_dem N hN (by omega) A B ca cb c ⟨g, 0, none⟩ ds hi R W hR hD hl hd hRm)
  have HNF := Lib.hid (show ∀ F, ¬ N.Feas hi ds F from fun F hF => by have := feas_wt hl hF hRm.1; omega)
  have HR := Lib.hid hR
  have HD := Lib.hid hD
  have HNIL := Lib.hid hnil
  have hd16 : ds.length ≤ 16 := by omega
  clear hN hR hD hnil hl hd hRm hlt
  unfold netV at H1 H2 H3
  unfold netV
  simp only [List.length_nil] at H2
  go_enter Tryz.func28, Tryz.ntmps28
  go_wp2_with fail
  have K0 := Lib.hid (Kp.alloc No w (.cells #[.int .i64 N.n, .slice A N.tr.length ca, .slice B N.ch.length cb] 25))
  refine (H1.out _ (HR.out.no K0.out) (HD.out.no K0.out)).mono ?_
  rintro e w1 ⟨rfl, hk1⟩
  have B1 := Lib.hid (hk1.heap (heap_alloc_new w (.cells #[.int .i64 N.n, .slice A N.tr.length ca, .slice B N.ch.length cb] 25)) (fun h => h))
  have K1 := Lib.hid (K0.out.tr hk1)
  obtain ⟨x0, x1, x2⟩ := box3 B1.out
  clear hk1
  go_wp2_with fail
  refine (H2.out _ (HR.out.no K1.out) (HD.out.no K1.out)).mono ?_
  rintro e w2 ⟨hk2, ⟨G, v, hF, _, _⟩ | ⟨hno, rfl⟩⟩
  · exact absurd hF (HNF.out _)
  · have B2 := Lib.hid (hk2.heap B1.out (fun h => h))
    have K2 := Lib.hid (K1.out.tr hk2)
    clear hk2 hno x0 x1 x2
    obtain ⟨x0, x1, x2⟩ := box3 B2.out
    have hb2 := (Array.getElem?_eq_some_iff.1 B2.out).1
    have HD2 := Lib.hid (HD.out.no K2.out)
    have HLD := Lib.hid (show (ds.map (Value.int .i64)).length = ds.length * 1 by simp)
    have HONE := Lib.hid (ints_oneCell .i64 ds)
    have HNEW := Lib.hid (fun W hk => rdi_news (HD2.out.no (w' := W) hk))
    have hdnm : 0 + ds.length ≤ maxLen := by unfold maxLen; omega
    have hdnb : (0 + ds.length) * 8 ≤ 140737488355328 := by omega
    go_wp2_with fail
    go_region_held3 (fun w' => w'.cell? ⟨w.heap.size, 0, none⟩ = some (.int .i64 N.n) ∧ w'.cell? ⟨w.heap.size, 1, none⟩ = some (.slice A N.tr.length ca) ∧ w'.cell? ⟨w.heap.size, 2, none⟩ = some (.slice B N.ch.length cb)) (first | exact ⟨c60, c61, c62⟩ | go_keep | exact ⟨KR5.cell x0 (fun h => h), KR5.cell x1 (fun h => h), KR5.cell x2 (fun h => h)⟩)
      ((first | (refine stepS_append (by rfl) _ _ 33 (by rfl) w2.heap.size 2 i0 (.int .i64 0) 1 8 Tryz.underlying33 hi0 hz0 hz1 hz2 (by rfl) (by decide) (.slice (some ⟨w2.heap.size, 0, none⟩) 0 0) 0 [] (by rfl) (own_empty (w := w2.drew) (Nat.le_refl _)) D ds.length dc (ds.map (Value.int .i64)) (by rfl) HLD.out HNIL.out (HNEW.out _ ((Kp.drew No w2).tr (Kp.alloc No _ _))) HONE.out hdnm hdnb (by simp) ds.length (Nat.zero_add _) (ds.map (Value.int .i64)) (List.nil_append _) ?_; intro v5 w5 hown5 hgrow hnz5; obtain ⟨g5, c5, rfl⟩ := own_some hown5 (by simpa using hnz5); have KR5 : Kp No w2 w5 := (Kp.refl No w2).trans ((Kp.drew (fun k => w2.heap.size ≤ k) w2).tr ((Kp.alloc _ _ _).tr (Kp.grown hgrow fun k hk _ => by simp [Value.ownBlock] at hk; omega))) (fun k hk h => absurd h (Nat.not_le.2 hk)); have K5 : Kp No w w5 := K2.out.tr KR5; have RI5 : RdI .i64 w5 (some ⟨g5, 0, none⟩) ds.length ds := RdI.of_own hown5) | (go_at_call 56; have hcall := H3.out g5 c5 w5 (HR.out.no K5) RI5; refine hcall.mono ?_; clear hcall; rintro e w6 ⟨v6, rfl, hown6, hk6⟩; have c60 := (KR5.tr hk6).cell x0 (fun h => h); have c61 := (KR5.tr hk6).cell x1 (fun h => h); have c62 := (KR5.tr hk6).cell x2 (fun h => h); have HO6 := Lib.hid hown6; have HK6 := Lib.hid hk6; clear hown6 hk6)))
    go_wp2_with fail
    refine bodyPost_ret (v := .tuple #[.slice none 0 0, v6, .int .i64 0]) (by simp [results, Tryz.results28, go_sem]) rfl ⟨v6, rfl, own_mono HO6.out K5.size, K5.tr HK6.out⟩
end Go.Proofs.YtpkbpeeelpgmcaaGreat

namespace Go.Proofs.YtpkbpeeelpgmcaaGreat
open Go.RowKit Go.Kq Go.Flow

set_option maxHeartbeats 4000000 in
set_option maxRecDepth 100000 in
theorem rStarves_bad (Z : Nz) (l : List Sto) (vs : List Sv) (A B C P Q : Option Addr) (ca cb n cc p cp q cq : Nat) (S K : List Int) (c : Int) (w : World) (hR : RdNz w A B Z) (hS : RdSt w C n vs l) (hP : RdI .i64 w P p S) (hQ : RdI .i64 w Q q K) (hp : p ≤ 9223372036854775807) (hq : q ≤ 9223372036854775807) (hc : AskW Z l S K c) (hz : c ≠ 0) :
    Calls Tryz.prog 10 #[windV Z A B C ca cb n cc, comboV P p cp Q q cq] w fun e w' => e = .returned (.tuple #[.bool false, .slice none 0 0, .int .i64 c]) ∧ Kp No w w' := by
  obtain ⟨g, hg⟩ : ∃ g, g = w.heap.size := ⟨_, rfl⟩
  obtain ⟨w0, hw0⟩ : ∃ w0, (w.alloc (.cells #[.int .i64 Z.n, .slice A Z.tr.length ca, .slice B Z.ch.length cb, .slice C n cc] 28)).alloc (.cells #[.slice P p cp, .slice Q q cq] 30) = w0 := ⟨_, rfl⟩
  have hk0 : Kp No w w0 := by rw [← hw0]; exact (Kp.alloc _ _ _).tr (Kp.alloc _ _ _)
  have HBX := Lib.hid (show w0.heap[g]? = some (.cells #[.int .i64 Z.n, .slice A Z.tr.length ca, .slice B Z.ch.length cb, .slice C n cc] 28 (0, 0)) by rw [← hw0, hg]; exact (Kp.alloc No _ _).heap (heap_alloc_new w _) id)
  have HBC := Lib.hid (show w0.heap[g + 1]? = some (.cells #[.slice P p cp, .slice Q q cq] 30 (0, 0)) by
    rw [← hw0, hg]
    have := heap_alloc_new (w.alloc (.cells #[.int .i64 Z.n, .slice A Z.tr.length ca, .slice B Z.ch.length cb, .slice C n cc] 28)) (.cells #[.slice P p cp, .slice Q q cq] 30)
    simpa using this)
  have HK := Lib.hid hk0
  have AK := rAsked_is Z l vs A B C P Q ca cb n cc p cp q cq S K c w0 (hR.no hk0) (hS.no hk0) (hP.no hk0) (hQ.no hk0) hp hq hc
  unfold windV comboV at AK ⊢
  replace AK := Lib.hid AK
  clear hk0 hR hS hP hQ hc
  obtain ⟨p0, p1, p2, p3⟩ := four_at HBX.out
  obtain ⟨q0, q1, _, _⟩ := cell_head HBC.out
  subst hg
  have d1 : (c != 0) = true := by rw [bne_iff_ne]; exact hz
  clear hz
  go_enter Tryz.func10, Tryz.ntmps10
  go_wp2_with fail
  with_reducible refine AK.out.mono ?_
  rintro e w1 ⟨rfl, k1⟩
  go_wp2_with fail
  exact bodyPost_ret (v := .tuple #[.bool false, .slice none 0 0, .int .i64 c]) (by simp [results, Tryz.results10, go_sem]) rfl ⟨rfl, HK.out.tr k1⟩
/-- The pair of a search for a proof. -/
def SupU (R : Nat → Bool) (n : Nat) (base : Nat) (w : World) (u : Value) : Prop := ∃ A c, u = .tuple #[.slice none 0 0, .slice A (mem R n).length c, .int .i64 0] ∧ w.ownsRow base 3 1 (.slice A (mem R n).length c) (mem R n).length ((mem R n).map natV)
theorem SupU.no {R : Nat → Bool} {n base : Nat} {w w' : World} {u : Value} (h : SupU R n base w u) (k : Kp No w w') : SupU R n base w' u := by
  obtain ⟨A, c, h1, h2⟩ := h
  exact ⟨A, c, h1, own_kp h2 k fun _ _ e => e⟩
def DmU (nc : Nat) (ds : List Int) (w : World) (u : Value) : Prop := ∃ G, u = .slice (some ⟨G, 0, none⟩) nc nc ∧ RdI .i64 w (some ⟨G, 0, none⟩) nc ds
theorem DmU.no {nc : Nat} {ds : List Int} {w w' : World} {u : Value} (h : DmU nc ds w u) (k : Kp No w w') : DmU nc ds w' u := by
  obtain ⟨G, h1, h2⟩ := h
  exact ⟨G, h1, h2.no k⟩
def MemU (R : Nat → Bool) (n : Nat) (base : Nat) (w : World) (u : Value) : Prop := ∃ A c, u = .slice A (mem R n).length c ∧ w.ownsRow base 3 1 (.slice A (mem R n).length c) (mem R n).length ((mem R n).map natV)
theorem MemU.no {R : Nat → Bool} {n base : Nat} {w w' : World} {u : Value} (h : MemU R n base w u) (k : Kp No w w') : MemU R n base w' u := by
  obtain ⟨A, c, h1, h2⟩ := h
  exact ⟨A, c, h1, own_kp h2 k fun _ _ e => e⟩
set_option maxHeartbeats 8000000 in
set_option maxRecDepth 100000 in
theorem rStarves_no (N : Net) (hN : N.Ok) (h7 : N.n ≤ 7) (l : List Sto) (vs : List Sv) (A B C P Q : Option Addr) (ca cb n cc p cp q cq : Nat) (ss ks : List Nat) (w : World) (hR : RdNet w A B N) (hS : RdSt w C n vs l) (hP : RdI .i64 w P p (ss.map Int.ofNat)) (hQ : RdI .i64 w Q q (ks.map Int.ofNat)) (hc : AskW (nz N) l (ss.map Int.ofNat) (ks.map Int.ofNat) 0) (hno : starB N l ss ks = false) :
    Calls Tryz.prog 10 #[windV (nz N) A B C ca cb n cc, comboV P p cp Q q cq] w fun e w' => e = .returned (.tuple #[.bool false, .slice none 0 0, .int .i64 0]) ∧ Kp No w w' := by
  obtain ⟨hok, s1, s2, s3, t1, t2, t3⟩ := ask_ok hc
  rw [nz_ch] at hok
  have hl := hS.len
  have hpl : ss.length = p := by have := hP.1; simpa using this
  have hql : ks.length = q := by have := hQ.1; simpa using this
  obtain ⟨g, hg⟩ : ∃ g, g = w.heap.size := ⟨_, rfl⟩
  obtain ⟨w0, hw0⟩ : ∃ w0, (w.alloc (.cells #[.int .i64 N.n, .slice A N.tr.length ca, .slice B N.ch.length cb, .slice C n cc] 28)).alloc (.cells #[.slice P p cp, .slice Q q cq] 30) = w0 := ⟨_, rfl⟩
  have hk0 : Kp No w w0 := by rw [← hw0]; exact (Kp.alloc _ _ _).tr (Kp.alloc _ _ _)
  have HBX := Lib.hid (show w0.heap[g]? = some (.cells #[.int .i64 N.n, .slice A N.tr.length ca, .slice B N.ch.length cb, .slice C n cc] 28 (0, 0)) by rw [← hw0, hg]; exact (Kp.alloc No _ _).heap (heap_alloc_new w _) id)
  have HBC := Lib.hid (show w0.heap[g + 1]? = some (.cells #[.slice P p cp, .slice Q q cq] 30 (0, 0)) by
    rw [← hw0, hg]
    have := heap_alloc_new (w.alloc (.cells #[.int .i64 N.n, .slice A N.tr.length ca, .slice B N.ch.length cb, .slice C n cc] 28)) (.cells #[.slice P p cp, .slice Q q cq] 30)
    simpa using this)
  have HK := Lib.hid hk0
  have hc16 := hN.c1
  have AK := rAsked_is (nz N) l vs A B C P Q ca cb n cc p cp q cq _ _ 0 w0 ((rdnz_of hR).no hk0) (hS.no hk0) (hP.no hk0) (hQ.no hk0) (by omega) (by omega) hc
  have ST := fun W (k : Kp No w0 W) => rstarves_any N hN h7 l vs A B C P Q ca cb n cc p cp q cq ss ks W ((hR.no hk0).no k) ((hS.no hk0).no k) ((hP.no hk0).no k) ((hQ.no hk0).no k) hok (by rw [← hl]; exact s2) t2 s3 t3
  unfold windV comboV at AK ST ⊢
  rw [nz_ch, nz_tr] at AK ST ⊢
  simp only [show (nz N).n = (N.n : Int) from rfl] at AK ST ⊢
  replace AK := Lib.hid AK
  rw [hno] at ST
  replace ST := Lib.hid ST
  clear hno
  clear hk0 hR hS hP hQ hc hok s1 s2 s3 t1 t2 t3 hl hpl hql hN
  obtain ⟨p0, p1, p2, p3⟩ := four_at HBX.out
  obtain ⟨q0, q1, _, _⟩ := cell_head HBC.out
  subst hg
  go_enter Tryz.func10, Tryz.ntmps10
  go_wp2_with fail
  with_reducible refine AK.out.mono ?_
  rintro e w1 ⟨rfl, k1⟩
  have K1 := Lib.hid k1
  have B1 := Lib.hid (k1.heap HBX.out id)
  have C1 := Lib.hid (k1.heap HBC.out id)
  clear p0 p1 p2 p3 q0 q1 k1
  obtain ⟨p0, p1, p2, p3⟩ := four_at B1.out
  obtain ⟨q0, q1, _, _⟩ := cell_head C1.out
  go_wp2_with fail
  with_reducible refine (ST.out _ K1.out).mono ?_
  rintro e w2 ⟨rfl, k2⟩
  go_wp2_with fail
  exact bodyPost_ret (v := .tuple #[.bool false, .slice none 0 0, .int .i64 0]) (by simp [results, Tryz.results10, go_sem]) rfl ⟨rfl, HK.out.tr (K1.out.tr k2)⟩
set_option maxHeartbeats 8000000 in
set_option maxRecDepth 100000 in
theorem rStarves_yes (N : Net) (hN : N.Ok) (h7 : N.n ≤ 7) (h20 : N.tr.length ≤ 20) (l : List Sto) (vs : List Sv) (A B C P Q : Option Addr) (ca cb n cc p cp q cq : Nat) (ss ks : List Nat) (w : World) (hR : RdNet w A B N) (hS : RdSt w C n vs l) (hP : RdI .i64 w P p (ss.map Int.ofNat)) (hQ : RdI .i64 w Q q (ks.map Int.ofNat)) (hc : AskW (nz N) l (ss.map Int.ofNat) (ks.map Int.ofNat) 0) (R : Nat → Bool) (hm : Min N.A0 (N.wt false (dmd N.ch.length l ss ks)) R) (hlt : N.wt false (dmd N.ch.length l ss ks) R < sumZ (dmd N.ch.length l ss ks)) :
    Calls Tryz.prog 10 #[windV (nz N) A B C ca cb n cc, comboV P p cp Q q cq] w fun e w' => (∃ v, e = .returned (.tuple #[.bool true, v, .int .i64 0]) ∧ MemU R N.n w.heap.size w' v) ∧ Kp No w w' := by
  have hyes : starB N l ss ks = true := starB_iff.2 ⟨R, hm.1, hlt⟩
  obtain ⟨hok, s1, s2, s3, t1, t2, t3⟩ := ask_ok hc
  rw [nz_ch] at hok
  have hl := hS.len
  have hpl : ss.length = p := by have := hP.1; simpa using this
  have hql : ks.length = q := by have := hQ.1; simpa using this
  obtain ⟨g, hg⟩ : ∃ g, g = w.heap.size := ⟨_, rfl⟩
  obtain ⟨w0, hw0⟩ : ∃ w0, (w.alloc (.cells #[.int .i64 N.n, .slice A N.tr.length ca, .slice B N.ch.length cb, .slice C n cc] 28)).alloc (.cells #[.slice P p cp, .slice Q q cq] 30) = w0 := ⟨_, rfl⟩
  have hk0 : Kp No w w0 := by rw [← hw0]; exact (Kp.alloc _ _ _).tr (Kp.alloc _ _ _)
  have HBX := Lib.hid (show w0.heap[g]? = some (.cells #[.int .i64 N.n, .slice A N.tr.length ca, .slice B N.ch.length cb, .slice C n cc] 28 (0, 0)) by rw [← hw0, hg]; exact (Kp.alloc No _ _).heap (heap_alloc_new w _) id)
  have HBC := Lib.hid (show w0.heap[g + 1]? = some (.cells #[.slice P p cp, .slice Q q cq] 30 (0, 0)) by
    rw [← hw0, hg]
    have := heap_alloc_new (w.alloc (.cells #[.int .i64 N.n, .slice A N.tr.length ca, .slice B N.ch.length cb, .slice C n cc] 28)) (.cells #[.slice P p cp, .slice Q q cq] 30)
    simpa using this)
  have HK := Lib.hid hk0
  have hc16 := hN.c1
  have AK := rAsked_is (nz N) l vs A B C P Q ca cb n cc p cp q cq _ _ 0 w0 ((rdnz_of hR).no hk0) (hS.no hk0) (hP.no hk0) (hQ.no hk0) (by omega) (by omega) hc
  have ST := fun W (k : Kp No w0 W) => rstarves_any N hN h7 l vs A B C P Q ca cb n cc p cp q cq ss ks W ((hR.no hk0).no k) ((hS.no hk0).no k) ((hP.no hk0).no k) ((hQ.no hk0).no k) hok (by rw [← hl]; exact s2) t2 s3 t3
  unfold windV comboV at AK ST ⊢
  rw [nz_ch, nz_tr] at AK ST ⊢
  simp only [show (nz N).n = (N.n : Int) from rfl] at AK ST ⊢
  replace AK := Lib.hid AK
  have DM := fun W (k : Kp No w0 W) => rdemand_any (nz N) l vs A B C P Q ca cb n cc p cp q cq ss ks W (by rw [nz_ch]; exact hok) (by rw [nz_ch]; omega) ((hS.no hk0).no k) ((hP.no hk0).no k) ((hQ.no hk0).no k) (by rw [← hl]; exact s2) t2 s3 t3
  have HDB := dmd_bd hok s3 t3
  have HDL := dmd_len N.ch.length l ss ks
  unfold windV comboV at DM
  unfold DmR at DM
  rw [nz_ch, nz_tr] at DM
  simp only [show (nz N).n = (N.n : Int) from rfl] at DM
  generalize dmd N.ch.length l ss ks = ds at *
  have SU := fun (D : Option Addr) dc W (k : Kp No w0 W) (hD : RdI .i64 W D ds.length ds) (hn : D = none → ds.length = 0 ∧ dc = 0) => rsup_no N hN (by omega) h20 A B D ca cb dc false ds R W ((hR.no hk0).no k) hD hn HDL (fun d hd => by have := HDB d hd; unfold dOk; omega) hm hlt
  unfold netV at SU
  rw [HDL] at SU
  rw [hyes] at ST
  replace ST := Lib.hid ST
  replace DM := Lib.hid DM
  replace SU := Lib.hid SU
  have HW0 := Lib.hid hk0.size
  clear hyes hm hlt HDB HDL
  clear hk0 hR hS hP hQ hc hok s1 s2 s3 t1 t2 t3 hl hpl hql hN
  obtain ⟨p0, p1, p2, p3⟩ := four_at HBX.out
  obtain ⟨q0, q1, _, _⟩ := cell_head HBC.out
  subst hg
  go_enter Tryz.func10, Tryz.ntmps10
  go_wp2_with fail
  with_reducible refine AK.out.mono ?_
  rintro e w1 ⟨rfl, k1⟩
  have K1 := Lib.hid k1
  have B1 := Lib.hid (k1.heap HBX.out id)
  have C1 := Lib.hid (k1.heap HBC.out id)
  clear p0 p1 p2 p3 q0 q1 k1
  obtain ⟨p0, p1, p2, p3⟩ := four_at B1.out
  obtain ⟨q0, q1, _, _⟩ := cell_head C1.out
  go_wp2_with fail
  with_reducible refine (ST.out _ K1.out).mono ?_
  rintro e w2 ⟨rfl, k2⟩
  have K2 := Lib.hid (K1.out.tr k2)
  have B2 := Lib.hid (k2.heap B1.out id)
  have C2 := Lib.hid (k2.heap C1.out id)
  clear p0 p1 p2 p3 q0 q1 k2
  obtain ⟨p0, p1, p2, p3⟩ := four_at B2.out
  obtain ⟨q0, q1, _, _⟩ := cell_head C2.out
  go_wp2_with fail
  have FS : Stab (fun ix wz u => (ix = 4 → DmU N.ch.length ds wz u) ∧ (ix = 5 → SupU R N.n w0.heap.size wz u) ∧ (ix = 6 → SupU R N.n w0.heap.size wz u) ∧ (ix = 8 → MemU R N.n w0.heap.size wz u) ∧ (ix = 11 → MemU R N.n w0.heap.size wz u) ∧ True) := fun ix u wz wz' kz h => ⟨fun e => DmU.no (h.1 e) kz, fun e => SupU.no (h.2.1 e) kz, fun e => SupU.no (h.2.2.1 e) kz, fun e => MemU.no (h.2.2.2.1 e) kz, fun e => MemU.no (h.2.2.2.2.1 e) kz, trivial⟩
  replace FS := Lib.hid FS
  refine wp_region_each (fun ix uR => match ix with | 0 => uR = .pointer (some ⟨w.heap.size, 0, none⟩) | 1 => uR = .agg #[.int .i64 N.n, .slice A N.tr.length ca, .slice B N.ch.length cb] | 2 => uR = .agg #[.int .i64 N.n, .slice A N.tr.length ca, .slice B N.ch.length cb, .slice C n cc] | 3 => uR = .agg #[.slice P p cp, .slice Q q cq] | 7 => uR = .slice none 0 0 | 9 => uR = .int .i64 0 | 10 => uR = .slice none 0 0 | 12 => uR = .int .i64 0 | _ => True) (HvW w2 (fun ix wz u => (ix = 4 → DmU N.ch.length ds wz u) ∧ (ix = 5 → SupU R N.n w0.heap.size wz u) ∧ (ix = 6 → SupU R N.n w0.heap.size wz u) ∧ (ix = 8 → MemU R N.n w0.heap.size wz u) ∧ (ix = 11 → MemU R N.n w0.heap.size wz u) ∧ True)) (by kernel_rfl) (by kernel_rfl) (by kernel_rfl) ?_ ?_ ?_
  · exact HvW.start _ _
  · refine ⟨?_, ?_, ?_, ?_, ?_, ?_, ?_, ?_, ?_, ?_, ?_, ?_, ?_, trivial⟩
    · intro r a w' hf hg hW hr hd K hK
      refine wpOp_of rfl rfl ?_
      have e0 : a.tmps.getD 2 undef = .pointer (some ⟨w.heap.size, 0, none⟩) := hf.evalFree (by kernel_rfl)
      go_simp
      exact hK _ _ rfl (hW.upd 0 _ ⟨fun e => absurd e (by decide), fun e => absurd e (by decide), fun e => absurd e (by decide), fun e => absurd e (by decide), fun e => absurd e (by decide), trivial⟩)
    · intro r a w' hf hg hW hr hd K hK
      refine wpOp_of rfl rfl ?_
      refine hf.depE hg hd 0 22 (by kernel_rfl) fun u0 e0 g0 h0 => ?_
      replace g0 : u0 = .pointer (some ⟨w.heap.size, 0, none⟩) := g0
      subst g0
      have z0 := hW.kp.cell p0 id
      have z1 := hW.kp.cell p1 id
      have z2 := hW.kp.cell p2 id
      have z3 := hW.kp.cell p3 id
      go_simp
      exact hK _ _ rfl (hW.upd 1 _ ⟨fun e => absurd e (by decide), fun e => absurd e (by decide), fun e => absurd e (by decide), fun e => absurd e (by decide), fun e => absurd e (by decide), trivial⟩)
    · intro r a w' hf hg hW hr hd K hK
      refine wpOp_of rfl rfl ?_
      have e0 : a.tmps.getD 2 undef = .pointer (some ⟨w.heap.size, 0, none⟩) := hf.evalFree (by kernel_rfl)
      have z0 := hW.kp.cell p0 id
      have z1 := hW.kp.cell p1 id
      have z2 := hW.kp.cell p2 id
      have z3 := hW.kp.cell p3 id
      go_simp
      exact hK _ _ rfl (hW.upd 2 _ ⟨fun e => absurd e (by decide), fun e => absurd e (by decide), fun e => absurd e (by decide), fun e => absurd e (by decide), fun e => absurd e (by decide), trivial⟩)
    · intro r a w' hf hg hW hr hd K hK
      refine wpOp_of rfl rfl ?_
      have e0 : a.tmps.getD 3 undef = .pointer (some ⟨w.heap.size + 1, 0, none⟩) := hf.evalFree (by kernel_rfl)
      have z0 := hW.kp.cell q0 id
      have z1 := hW.kp.cell q1 id
      go_simp
      exact hK _ _ rfl (hW.upd 3 _ ⟨fun e => absurd e (by decide), fun e => absurd e (by decide), fun e => absurd e (by decide), fun e => absurd e (by decide), fun e => absurd e (by decide), trivial⟩)
    · intro r a w' hf hg hW hr hd K hK
      refine wpOp_of rfl rfl ?_
      refine hf.depE hg hd 2 24 (by kernel_rfl) fun u0 e0 g0 h0 => ?_
      replace g0 : u0 = .agg #[.int .i64 N.n, .slice A N.tr.length ca, .slice B N.ch.length cb, .slice C n cc] := g0
      subst g0
      refine hf.depE hg hd 3 25 (by kernel_rfl) fun u1 e1 g1 h1 => ?_
      replace g1 : u1 = .agg #[.slice P p cp, .slice Q q cq] := g1
      subst g1
      go_simp
      with_reducible refine (DM.out _ (K2.out.tr hW.kp)).mono ?_
      rintro e w'' ⟨G, rfl, ho, k⟩
      exact hK _ _ trivial ((hW.call FS.out k).upd 4 _ ⟨fun _ => ⟨G, rfl, RdI.of_own ho⟩, fun e => absurd e (by decide), fun e => absurd e (by decide), fun e => absurd e (by decide), fun e => absurd e (by decide), trivial⟩)
    · intro r a w' hf hg hW hr hd K hK
      refine wpOp_of rfl rfl ?_
      refine hf.depE hg hd 1 23 (by kernel_rfl) fun u0 e0 g0 h0 => ?_
      replace g0 : u0 = .agg #[.int .i64 N.n, .slice A N.tr.length ca, .slice B N.ch.length cb] := g0
      subst g0
      refine hf.depE hg hd 4 26 (by kernel_rfl) fun u1 e1 g1 h1 => ?_
      have f1 := (hW.hv 4 u1 h1).1 rfl
      obtain ⟨G, rfl, hrd⟩ := f1
      have SX := SU.out (some ⟨G, 0, none⟩) N.ch.length w' (K2.out.tr hW.kp) hrd (fun h => by cases h)
      go_simp
      with_reducible refine SX.mono ?_
      rintro e w'' ⟨v9, rfl, ho, k⟩
      obtain ⟨A9, c9, rfl, _⟩ := own_form ho
      exact hK _ _ trivial ((hW.call FS.out k).upd 5 _ ⟨fun e => absurd e (by decide), fun _ => ⟨A9, c9, rfl, own_mono ho (K2.out.tr hW.kp).size⟩, fun e => absurd e (by decide), fun e => absurd e (by decide), fun e => absurd e (by decide), trivial⟩)
    · intro r a w' hf hg hW hr hd K hK
      refine wpOp_of rfl rfl ?_
      refine hf.depE hg hd 5 27 (by kernel_rfl) fun u0 e0 g0 h0 => ?_
      have f0 := (hW.hv 5 u0 h0).2.1 rfl
      go_simp
      exact hK _ _ trivial (hW.upd 6 _ ⟨fun e => absurd e (by decide), fun e => absurd e (by decide), fun _ => f0, fun e => absurd e (by decide), fun e => absurd e (by decide), trivial⟩)
    · intro r a w' hf hg hW hr hd K hK
      refine wpOp_of rfl rfl ?_
      refine hf.depE hg hd 6 21 (by kernel_rfl) fun u0 e0 g0 h0 => ?_
      have f0 := (hW.hv 6 u0 h0).2.2.1 rfl
      obtain ⟨A9, c9, rfl, ho9⟩ := f0
      go_simp
      exact hK _ _ rfl (hW.upd 7 _ ⟨fun e => absurd e (by decide), fun e => absurd e (by decide), fun e => absurd e (by decide), fun e => absurd e (by decide), fun e => absurd e (by decide), trivial⟩)
    · intro r a w' hf hg hW hr hd K hK
      refine wpOp_of rfl rfl ?_
      refine hf.depE hg hd 6 21 (by kernel_rfl) fun u0 e0 g0 h0 => ?_
      have f0 := (hW.hv 6 u0 h0).2.2.1 rfl
      obtain ⟨A9, c9, rfl, ho9⟩ := f0
      go_simp
      exact hK _ _ trivial (hW.upd 8 _ ⟨fun e => absurd e (by decide), fun e => absurd e (by decide), fun e => absurd e (by decide), fun _ => ⟨A9, c9, rfl, ho9⟩, fun e => absurd e (by decide), trivial⟩)
    · intro r a w' hf hg hW hr hd K hK
      refine wpOp_of rfl rfl ?_
      refine hf.depE hg hd 6 21 (by kernel_rfl) fun u0 e0 g0 h0 => ?_
      have f0 := (hW.hv 6 u0 h0).2.2.1 rfl
      obtain ⟨A9, c9, rfl, ho9⟩ := f0
      go_simp
      exact hK _ _ rfl (hW.upd 9 _ ⟨fun e => absurd e (by decide), fun e => absurd e (by decide), fun e => absurd e (by decide), fun e => absurd e (by decide), fun e => absurd e (by decide), trivial⟩)
    · intro r a w' hf hg hW hr hd K hK
      refine wpOp_of rfl rfl ?_
      refine hf.depE hg hd 7 28 (by kernel_rfl) fun u0 e0 g0 h0 => ?_
      replace g0 : u0 = .slice none 0 0 := g0
      subst g0
      go_simp
      exact hK _ _ rfl (hW.upd 10 _ ⟨fun e => absurd e (by decide), fun e => absurd e (by decide), fun e => absurd e (by decide), fun e => absurd e (by decide), fun e => absurd e (by decide), trivial⟩)
    · intro r a w' hf hg hW hr hd K hK
      refine wpOp_of rfl rfl ?_
      refine hf.depE hg hd 8 29 (by kernel_rfl) fun u0 e0 g0 h0 => ?_
      have f0 := (hW.hv 8 u0 h0).2.2.2.1 rfl
      go_simp
      exact hK _ _ trivial (hW.upd 11 _ ⟨fun e => absurd e (by decide), fun e => absurd e (by decide), fun e => absurd e (by decide), fun e => absurd e (by decide), fun _ => f0, trivial⟩)
    · intro r a w' hf hg hW hr hd K hK
      refine wpOp_of rfl rfl ?_
      refine hf.depE hg hd 9 30 (by kernel_rfl) fun u0 e0 g0 h0 => ?_
      replace g0 : u0 = .int .i64 0 := g0
      subst g0
      go_simp
      exact hK _ _ rfl (hW.upd 12 _ ⟨fun e => absurd e (by decide), fun e => absurd e (by decide), fun e => absurd e (by decide), fun e => absurd e (by decide), fun e => absurd e (by decide), trivial⟩)
  intro r' w9 hg hW hr'
  have hkN := hW.kp
  obtain ⟨q11, hq11⟩ : ∃ u, r' 11 = some u := Option.ne_none_iff_exists'.1 (hr' 11 (by decide))
  have hF11 := (hW.hv 11 q11 hq11).2.2.2.2.1 rfl
  simp only [List.length_cons, List.length_nil, Nat.reduceAdd, List.range_succ, List.range_zero, List.nil_append, List.cons_append, List.map_cons, List.map_nil, putAll, Act.put, List.setIfInBounds_toArray, List.set_cons_succ, List.set_cons_zero, hq11, Option.getD_some]
  clear hg hW hr' FS hq11
  obtain ⟨A9, c9, rfl, ho9⟩ := hF11
  have HO9 := Lib.hid ho9
  have K9 := Lib.hid (K2.out.tr hkN)
  clear ho9 hkN p0 p1 p2 p3 q0 q1
  go_wp2_with fail
  exact bodyPost_ret (v := .tuple #[.bool true, .slice A9 (mem R N.n).length c9, .int .i64 0]) (by simp [results, Tryz.results10, go_sem]) rfl ⟨⟨_, rfl, A9, c9, rfl, own_mono HO9.out HW0.out⟩, HK.out.tr K9.out⟩
end Go.Proofs.YtpkbpeeelpgmcaaGreat
