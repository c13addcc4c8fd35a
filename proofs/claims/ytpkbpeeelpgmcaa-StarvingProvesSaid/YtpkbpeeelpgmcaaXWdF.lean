/- Chapter 15: Demand. Printed by gen_dmd.py. -/
import Derived.Test.YtpkbpeeelpgmcaaXWdD
namespace Go.Proofs.Ytpkbpeeelpgmcaa
open Go.RowKit Go.Kq Go.Flow

theorem chk_total (Z : Nz) : ∃ c, ChkIs Z c := by
  by_cases h1 : NLong Z
  · exact ⟨3, .inl ⟨h1, rfl⟩⟩
  · by_cases h2 : NBad Z
    · exact ⟨2, .inr (.inl ⟨h1, h2, rfl⟩)⟩
    · exact ⟨0, .inr (.inr ⟨h1, h2, rfl⟩)⟩
theorem chkW_total (Z : Nz) (l : List Sto) : ∃ c, ChkW Z l c := by
  obtain ⟨c, hc⟩ := chk_total Z
  by_cases h : c = 0
  · subst h
    exact ⟨_, .inr ⟨hc, rfl⟩⟩
  · exact ⟨c, .inl ⟨hc, h⟩⟩
theorem ask_total (Z : Nz) (l : List Sto) (S K : List Int) : ∃ c, AskW Z l S K c := by
  obtain ⟨c, hc⟩ := chkW_total Z l
  by_cases h : c = 0
  · subst h
    exact ⟨_, .inr ⟨hc, rfl⟩⟩
  · exact ⟨c, .inl ⟨hc, h⟩⟩
theorem chkW_zero {Z : Nz} {l : List Sto} (h : ChkW Z l 0) : ChkIs Z 0 ∧ StoOk Z.ch.length l := by
  rcases h with ⟨_, h⟩ | ⟨h1, h⟩
  · exact absurd rfl h
  · exact ⟨h1, stE_ok h.symm⟩
theorem ask_zero {Z : Nz} {l : List Sto} {S K : List Int} (h : AskW Z l S K 0) : ChkW Z l 0 ∧ risB l.length S = true ∧ risB (keysN l) K = true := by
  rcases h with ⟨_, h⟩ | ⟨h1, h⟩
  · exact absurd rfl h
  · split at h
    · rename_i hh
      simp only [Bool.and_eq_true] at hh
      exact ⟨h1, hh⟩
    · omega
/-- Combinations as lists of indices. -/
theorem ask_nat {Z : Nz} {l : List Sto} {S K : List Int} (h : AskW Z l S K 0) : ∃ ss ks : List Nat, S = ss.map Int.ofNat ∧ K = ks.map Int.ofNat := by
  obtain ⟨_, h2, h3⟩ := ask_zero h
  obtain ⟨ss, e1, _⟩ := ris_nat h2
  obtain ⟨ks, e2, _⟩ := ris_nat h3
  exact ⟨ss, ks, e1, e2⟩
theorem map_nat_inj : ∀ {a b : List Nat}, a.map Int.ofNat = b.map Int.ofNat → a = b
  | [], [], _ => rfl
  | [], _ :: _, h => by simp at h
  | _ :: _, [], h => by simp at h
  | x :: a, y :: b, h => by
    simp only [List.map_cons, List.cons.injEq, Int.ofNat_eq_natCast] at h
    rw [show x = y by omega, map_nat_inj h.2]
theorem ask_cb {Z : Nz} {l : List Sto} {ss ks : List Nat} (h : AskW Z l (ss.map Int.ofNat) (ks.map Int.ofNat) 0) : CbOk l.length (keysN l) ⟨ss, ks⟩ := by
  obtain ⟨_, h2, h3⟩ := ask_zero h
  obtain ⟨a, e1, a1, a2⟩ := ris_nat h2
  obtain ⟨b, e2, b1, b2⟩ := ris_nat h3
  rw [map_nat_inj e1, map_nat_inj e2]
  exact ⟨a1, a2, b1, b2⟩
theorem cb_ask {Z : Nz} {l : List Sto} (hc : ChkW Z l 0) {c : Cb} (h : CbOk l.length (keysN l) c) : AskW Z l (c.st.map Int.ofNat) (c.ky.map Int.ofNat) 0 := by
  refine .inr ⟨hc, ?_⟩
  rw [nat_ris h.s1 h.s2, nat_ris h.k1 h.k2]
  rfl
theorem ask_ok {Z : Nz} {l : List Sto} {ss ks : List Nat} (h : AskW Z l (ss.map Int.ofNat) (ks.map Int.ofNat) 0) : StoOk Z.ch.length l ∧ ss.Pairwise (· < ·) ∧ (∀ x ∈ ss, x < l.length) ∧ ss.length ≤ 8 ∧ ks.Pairwise (· < ·) ∧ (∀ x ∈ ks, x < keysN l) ∧ ks.length ≤ 8 := by
  have hok := (chkW_zero (ask_zero h).1).2
  have hcb := ask_cb h
  have h1 := up_len hcb.s1 hcb.s2
  have h2 := up_len hcb.k1 hcb.k2
  have h3 := hok.l8
  have h4 := hok.k8
  exact ⟨hok, hcb.s1, hcb.s2, by dsimp only at h1; omega, hcb.k1, hcb.k2, by dsimp only at h2; omega⟩
theorem asked_is (Z : Nz) (l : List Sto) (vs : List Sv) (A B C P Q : Option Addr) (ca cb n cc p cp q cq : Nat) (S K : List Int) (c : Int) (w : World) (hR : RdNz w A B Z) (hS : RdSt w C n vs l) (hP : RdI .i64 w P p S) (hQ : RdI .i64 w Q q K) (hp : p ≤ 9223372036854775807) (hq : q ≤ 9223372036854775807) (hc : AskW Z l S K c) :
    Calls Try.prog 32 #[windV Z A B C ca cb n cc, comboV P p cp Q q cq] w fun e w' => e = .returned (.int .i64 c) ∧ Kp No w w' := by
  refine (asked_any Z l vs A B C P Q ca cb n cc p cp q cq S K w hR hS hP hQ hp hq).mono ?_
  rintro e w' ⟨d, rfl, hd, k⟩
  rw [hd.uniq hc]
  exact ⟨rfl, k⟩
set_option maxHeartbeats 4000000 in
set_option maxRecDepth 100000 in
theorem Demand_bad (Z : Nz) (l : List Sto) (vs : List Sv) (A B C P Q : Option Addr) (ca cb n cc p cp q cq : Nat) (S K : List Int) (c : Int) (w : World) (hR : RdNz w A B Z) (hS : RdSt w C n vs l) (hP : RdI .i64 w P p S) (hQ : RdI .i64 w Q q K) (hp : p ≤ 9223372036854775807) (hq : q ≤ 9223372036854775807) (hc : AskW Z l S K c) (hz : c ≠ 0) :
    Calls Try.prog 13 #[windV Z A B C ca cb n cc, comboV P p cp Q q cq] w fun e w' => e = .returned (.tuple #[.slice none 0 0, .int .i64 c]) ∧ Kp No w w' := by
  obtain ⟨g, hg⟩ : ∃ g, g = w.heap.size := ⟨_, rfl⟩
  obtain ⟨w0, hw0⟩ : ∃ w0, (w.alloc (.cells #[.int .i64 Z.n, .slice A Z.tr.length ca, .slice B Z.ch.length cb, .slice C n cc] 28)).alloc (.cells #[.slice P p cp, .slice Q q cq] 30) = w0 := ⟨_, rfl⟩
  have hk0 : Kp No w w0 := by rw [← hw0]; exact (Kp.alloc _ _ _).tr (Kp.alloc _ _ _)
  have HBX := Lib.hid (show w0.heap[g]? = some (.cells #[.int .i64 Z.n, .slice A Z.tr.length ca, .slice B Z.ch.length cb, .slice C n cc] 28 (0, 0)) by rw [← hw0, hg]; exact (Kp.alloc No _ _).heap (heap_alloc_new w _) id)
  have HBC := Lib.hid (show w0.heap[g + 1]? = some (.cells #[.slice P p cp, .slice Q q cq] 30 (0, 0)) by
    rw [← hw0, hg]
    have := heap_alloc_new (w.alloc (.cells #[.int .i64 Z.n, .slice A Z.tr.length ca, .slice B Z.ch.length cb, .slice C n cc] 28)) (.cells #[.slice P p cp, .slice Q q cq] 30)
    simpa using this)
  have HK := Lib.hid hk0
  have AK := asked_is Z l vs A B C P Q ca cb n cc p cp q cq S K c w0 (hR.no hk0) (hS.no hk0) (hP.no hk0) (hQ.no hk0) hp hq hc
  unfold windV comboV at AK ⊢
  replace AK := Lib.hid AK
  clear hk0 hR hS hP hQ hc
  obtain ⟨p0, p1, p2, p3⟩ := four_at HBX.out
  obtain ⟨q0, q1, _, _⟩ := cell_head HBC.out
  subst hg
  have d1 : (c != 0) = true := by rw [bne_iff_ne]; exact hz
  clear hz
  go_enter Try.func13, Try.ntmps13
  go_wp2_with fail
  with_reducible refine AK.out.mono ?_
  rintro e w1 ⟨rfl, k1⟩
  go_wp2_with fail
  exact bodyPost_ret (v := .tuple #[.slice none 0 0, .int .i64 c]) (by simp [results, Try.results13, go_sem]) rfl ⟨rfl, HK.out.tr k1⟩
set_option maxHeartbeats 4000000 in
set_option maxRecDepth 100000 in
theorem Demand_ok (Z : Nz) (l : List Sto) (vs : List Sv) (A B C P Q : Option Addr) (ca cb n cc p cp q cq : Nat) (ss ks : List Nat) (w : World) (hR : RdNz w A B Z) (hS : RdSt w C n vs l) (hP : RdI .i64 w P p (ss.map Int.ofNat)) (hQ : RdI .i64 w Q q (ks.map Int.ofNat)) (hc : AskW Z l (ss.map Int.ofNat) (ks.map Int.ofNat) 0) (hn : Z.ch.length ≤ 1000) :
    Calls Try.prog 13 #[windV Z A B C ca cb n cc, comboV P p cp Q q cq] w fun e w' => ∃ G, e = .returned (.tuple #[.slice (some ⟨G, 0, none⟩) Z.ch.length Z.ch.length, .int .i64 0]) ∧ w'.ownsRow w.heap.size 2 1 (.slice (some ⟨G, 0, none⟩) Z.ch.length Z.ch.length) Z.ch.length ((dmd Z.ch.length l ss ks).map (Value.int .i64)) ∧ Kp No w w' := by
  obtain ⟨g, hg⟩ : ∃ g, g = w.heap.size := ⟨_, rfl⟩
  obtain ⟨w0, hw0⟩ : ∃ w0, (w.alloc (.cells #[.int .i64 Z.n, .slice A Z.tr.length ca, .slice B Z.ch.length cb, .slice C n cc] 28)).alloc (.cells #[.slice P p cp, .slice Q q cq] 30) = w0 := ⟨_, rfl⟩
  have hk0 : Kp No w w0 := by rw [← hw0]; exact (Kp.alloc _ _ _).tr (Kp.alloc _ _ _)
  have HBX := Lib.hid (show w0.heap[g]? = some (.cells #[.int .i64 Z.n, .slice A Z.tr.length ca, .slice B Z.ch.length cb, .slice C n cc] 28 (0, 0)) by rw [← hw0, hg]; exact (Kp.alloc No _ _).heap (heap_alloc_new w _) id)
  have HBC := Lib.hid (show w0.heap[g + 1]? = some (.cells #[.slice P p cp, .slice Q q cq] 30 (0, 0)) by
    rw [← hw0, hg]
    have := heap_alloc_new (w.alloc (.cells #[.int .i64 Z.n, .slice A Z.tr.length ca, .slice B Z.ch.length cb, .slice C n cc] 28)) (.cells #[.slice P p cp, .slice Q q cq] 30)
    simpa using this)
  have HK := Lib.hid hk0
  obtain ⟨hok, s1, s2, s3, k1, k2, k3⟩ := ask_ok hc
  have hpl : ss.length = p := by have := hP.1; simpa using this
  have hql : ks.length = q := by have := hQ.1; simpa using this
  have hl := hS.len
  have AK := asked_is Z l vs A B C P Q ca cb n cc p cp q cq _ _ 0 w0 (hR.no hk0) (hS.no hk0) (hP.no hk0) (hQ.no hk0) (by omega) (by omega) hc
  have DM := fun W (k : Kp No w0 W) => demand_any Z l vs A B C P Q ca cb n cc p cp q cq ss ks W hok hn ((hS.no hk0).no k) ((hP.no hk0).no k) ((hQ.no hk0).no k) (by rw [← hl]; exact s2) k2 s3 k3
  unfold windV comboV at AK DM ⊢
  unfold DmR at DM
  replace AK := Lib.hid AK
  replace DM := Lib.hid DM
  clear hk0 hR hS hP hQ hc hok s1 s2 s3 k1 k2 k3 hpl hql hl
  obtain ⟨p0, p1, p2, p3⟩ := four_at HBX.out
  obtain ⟨q0, q1, _, _⟩ := cell_head HBC.out
  subst hg
  go_enter Try.func13, Try.ntmps13
  go_wp2_with fail
  with_reducible refine AK.out.mono ?_
  rintro e w1 ⟨rfl, k1⟩
  have K1 := Lib.hid k1
  have B1 := Lib.hid (k1.heap HBX.out id)
  have C1 := Lib.hid (k1.heap HBC.out id)
  clear p0 p1 p2 p3 q0 q1 k1
  obtain ⟨p0, p1, p2, p3⟩ := four_at B1.out
  obtain ⟨q0, q1, _, _⟩ := cell_head C1.out
  go_wp2_with fail
  with_reducible refine (DM.out _ K1.out).mono ?_
  rintro e w2 ⟨G, rfl, ho, k2⟩
  have HO := Lib.hid ho
  have K2 := Lib.hid (HK.out.tr (K1.out.tr k2))
  have HZ := Lib.hid (HK.out.tr K1.out).size
  clear ho k2
  go_wp2_with fail
  exact bodyPost_ret (v := .tuple #[.slice (some ⟨G, 0, none⟩) Z.ch.length Z.ch.length, .int .i64 0]) (by simp [results, Try.results13, go_sem]) rfl ⟨G, rfl, own_mono HO.out HZ.out, K2.out⟩
end Go.Proofs.Ytpkbpeeelpgmcaa
