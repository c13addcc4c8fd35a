/- Chapter 15: the document's Safe. · Chapter 15: law Asks: what both answers say, together. -/
import Derived.Test.YtpkbpeeelpgmcaaGreatXRsA
import Derived.Test.YtpkbpeeelpgmcaaGreatXWdFrM
import Derived.Test.YtpkbpeeelpgmcaaGreatXRsTM
import Derived.Test.YtpkbpeeelpgmcaaGreatXShnM
import Derived.Test.YtpkbpeeelpgmcaaGreatXRdOM
namespace Go.Proofs.YtpkbpeeelpgmcaaGreat
open Go.RowKit Go.Kq Go.Flow

set_option maxHeartbeats 4000000 in
set_option maxRecDepth 100000 in
theorem rSafe_bad (Z : Nz) (l : List Sto) (vs : List Sv) (A B C P : Option Addr) (ca cb n cc p cp : Nat) (S : List Int) (c : Int) (w : World) (hR : RdNz w A B Z) (hS : RdSt w C n vs l) (hP : RdI .i64 w P p S) (hp : p ≤ 9223372036854775807) (hc : AskW Z l S [] c) (hz : c ≠ 0) :
    Calls Tryz.prog 12 #[windV Z A B C ca cb n cc, .slice P p cp] w fun e w' => e = .returned (.tuple #[.int .i64 0, .int .i64 c]) ∧ Kp No w w' := by
  obtain ⟨w0, hw0⟩ : ∃ w0, (w.alloc (.cells #[.int .i64 Z.n, .slice A Z.tr.length ca, .slice B Z.ch.length cb, .slice C n cc] 28)) = w0 := ⟨_, rfl⟩
  have hk0 : Kp No w w0 := by rw [← hw0]; exact Kp.alloc _ _ _
  have HBX := Lib.hid (show w0.heap[w.heap.size]? = some (.cells #[.int .i64 Z.n, .slice A Z.tr.length ca, .slice B Z.ch.length cb, .slice C n cc] 28 (0, 0)) by rw [← hw0]; exact heap_alloc_new w _)
  have HK := Lib.hid hk0
  have AK := rAsked_is Z l vs A B C P none ca cb n cc p cp 0 0 S [] c w0 (hR.no hk0) (hS.no hk0) (hP.no hk0) ⟨rfl, fun _ _ h => by cases h⟩ hp (by omega) hc
  unfold comboV at AK
  unfold windV at AK ⊢
  replace AK := Lib.hid AK
  clear hk0 hR hS hP hc
  obtain ⟨p0, p1, p2, p3⟩ := four_at HBX.out
  have d1 : (c != 0) = true := by rw [bne_iff_ne]; exact hz
  clear hz
  go_enter Tryz.func12, Tryz.ntmps12
  go_wp2_with fail
  with_reducible refine AK.out.mono ?_
  rintro e w1 ⟨rfl, k1⟩
  go_wp2_with fail
  exact bodyPost_ret (v := .tuple #[.int .i64 0, .int .i64 c]) (by simp [results, Tryz.results12, go_sem]) rfl ⟨rfl, HK.out.tr k1⟩
theorem safF_succ (K : Nat) (p : List Nat → Bool) (n : Nat) : safF K p (n + 1) = if ((numB n K).length : Int) ≤ safF K p n ∧ p (numB n K) = true then ((numB n K).length : Int) - 1 else safF K p n := rfl
theorem safF_nn (K : Nat) (p : List Nat → Bool) : ∀ n, -1 ≤ safF K p n
  | 0 => by unfold safF; omega
  | n + 1 => by
    have := safF_nn K p n
    rw [safF_succ]
    split <;> omega
set_option maxHeartbeats 8000000 in
set_option maxRecDepth 100000 in
theorem rSafe_ok (N : Net) (hN : N.Ok) (h7 : N.n ≤ 7) (l : List Sto) (vs : List Sv) (A B C P : Option Addr) (ca cb n cc p cp : Nat) (ss : List Nat) (w : World) (hR : RdNet w A B N) (hS : RdSt w C n vs l) (hP : RdI .i64 w P p (ss.map Int.ofNat)) (hc : AskW (nz N) l (ss.map Int.ofNat) [] 0) :
    Calls Tryz.prog 12 #[windV (nz N) A B C ca cb n cc, .slice P p cp] w fun e w' => e = .returned (.tuple #[.int .i64 (safN (keysN l) (starB N l ss)), .int .i64 0]) ∧ Kp No w w' := by
  obtain ⟨hok, s1, s2, s3, _, _, _⟩ := ask_ok (ks := []) hc
  rw [nz_ch] at hok
  have hpl : ss.length = p := by have := hP.1; simpa using this
  have hl := hS.len
  obtain ⟨w0, hw0⟩ : ∃ w0, (w.alloc (.cells #[.int .i64 N.n, .slice A N.tr.length ca, .slice B N.ch.length cb, .slice C n cc] 28)) = w0 := ⟨_, rfl⟩
  have hk0 : Kp No w w0 := by rw [← hw0]; exact Kp.alloc _ _ _
  have HBX := Lib.hid (show w0.heap[w.heap.size]? = some (.cells #[.int .i64 N.n, .slice A N.tr.length ca, .slice B N.ch.length cb, .slice C n cc] 28 (0, 0)) by rw [← hw0]; exact heap_alloc_new w _)
  have HK := Lib.hid hk0
  have AK := rAsked_is (nz N) l vs A B C P none ca cb n cc p cp 0 0 _ _ 0 w0 ((rdnz_of hR).no hk0) (hS.no hk0) (hP.no hk0) ⟨rfl, fun _ _ h => by cases h⟩ (by omega) (by omega) hc
  have ST := fun Q q cq (ks : List Nat) W (k : Kp No w0 W) (hQ : RdI .i64 W Q q (ks.map Int.ofNat)) (hks : ∀ x ∈ ks, x < keysN l) (k8 : ks.length ≤ 8) => rstarves_any N hN h7 l vs A B C P Q ca cb n cc p cp q cq ss ks W ((hR.no hk0).no k) ((hS.no hk0).no k) ((hP.no hk0).no k) hQ hok (by rw [← hl]; exact s2) hks s3 k8
  have HK8 := Lib.hid hok.k8
  have HS0 := Lib.hid (hS.no hk0)
  have hl1 := hok.l1
  rw [hl] at hl1
  have HL := Lib.hid hl
  unfold comboV at AK ST
  unfold windV at AK ST ⊢
  rw [nz_ch, nz_tr] at AK ST ⊢
  simp only [show (nz N).n = (N.n : Int) from rfl] at AK ST ⊢
  replace AK := Lib.hid AK
  replace ST := Lib.hid ST
  clear hk0 hR hS hP hc hok s1 s2 s3 hpl hl hN
  obtain ⟨p0, p1, p2, p3⟩ := four_at HBX.out
  go_enter Tryz.func12, Tryz.ntmps12
  go_wp2_with fail
  with_reducible refine AK.out.mono ?_
  rintro e w1 ⟨rfl, k1⟩
  have K1 := Lib.hid k1
  have B1 := Lib.hid (k1.heap HBX.out id)
  clear p0 p1 p2 p3 k1
  obtain ⟨p0, p1, p2, p3⟩ := four_at B1.out
  obtain ⟨s0, hs0⟩ : ∃ s, l[0]? = some s := ⟨_, List.getElem?_eq_getElem (by rw [HL.out]; omega)⟩
  have HR3 := Lib.hid (HS0.out.no K1.out)
  obtain ⟨v0, bC, oC, hv0, rfl, hbC, y0, y1, is0⟩ := HR3.out.at_ hs0
  have HK0 := Lib.hid (show keysN l = v0.n by unfold keysN; rw [List.getD_eq_getElem?_getD, hs0]; exact is0.2.1.symm)
  rw [Nat.zero_mul, Nat.add_zero] at y0 y1
  obtain ⟨ch0, A0, KK, c0⟩ := v0
  dsimp only at y0 y1 HK0
  have hkk8 : KK ≤ 8 := by have := HK8.out; have := HK0.out; omega
  clear hs0 hv0 is0
  obtain ⟨T, hT⟩ : ∃ T : Nat, T = 2 ^ KK := ⟨_, rfl⟩
  have hT8 : T ≤ 256 := by
    rw [hT]
    exact Nat.pow_le_pow_right (by omega) hkk8
  have hTw : wrap64 ((2 : Int) ^ KK) = (T : Int) := by
    have : ((2 : Int) ^ KK) = (T : Int) := by rw [hT]; simp
    rw [this]
    exact IntWalk.wrap64_in _ (by omega)
  have HT := Lib.hid hT
  have HE := Lib.hid (show safN (keysN l) (starB N l ss) = safF KK (starB N l ss) T by rw [HK0.out, hT]; rfl)
  rw [HK0.out] at ST
  obtain ⟨pf, hpf⟩ : ∃ pf, pf = starB N l ss := ⟨_, rfl⟩
  rw [← hpf] at HE
  have HPF := Lib.hid hpf
  clear hT hpf
  go_wp2_with fail
  go_loopw [8, 9] (fun vl vi wr => ∃ t : Nat, t ≤ T ∧ vi = .int .i64 (t : Nat) ∧ vl = .int .i64 (safF KK pf t + 1) ∧ Kp No w1 wr) (fun _ vi _ => T - (intOf vi).toNat)
  case atStart => exact ⟨0, by omega, rfl, by unfold safF; rfl, Kp.refl _ _⟩
  case round =>
    obtain ⟨t, ht, rfl, rfl, hkp⟩ := hrel
    have HKP := Lib.hid hkp
    have BW := Lib.hid (hkp.heap B1.out id)
    clear p0 p1 p2 p3 y0 y1
    obtain ⟨p0, p1, p2, p3⟩ := four_at BW.out
    clear hkp
    have hs1 := safF_le (K := KK) (p := pf) t
    have hs2 := safF_nn KK pf t
    by_cases hlt : t < T
    · have HSS := Lib.hid (safF_succ KK pf t)
      have hnl := numB_len t KK
      have HKS := Lib.hid (show ∀ x ∈ numB t KK, x < KK from fun x hx => (mem_numB.1 hx).1)
      generalize safF KK pf t = sf at *
      go_wp2_with fail
      with_reducible refine (numbers_any t KK (by omega) (by omega) wr).mono ?_
      rintro e w2 ⟨D, c, rfl, ho, k2⟩
      have HQ := Lib.hid (show RdI .i64 w2 D (numB t KK).length ((numB t KK).map Int.ofNat) from RdI.of_own ho)
      have K2 := Lib.hid (HKP.out.tr k2)
      have B2 := Lib.hid (k2.heap BW.out id)
      have SX := Lib.hid (ST.out D (numB t KK).length c (numB t KK) w2 (K1.out.tr K2.out) HQ.out HKS.out (by omega))
      clear ho k2 p0 p1 p2 p3
      obtain ⟨p0, p1, p2, p3⟩ := four_at B2.out
      obtain ⟨kl, hkl⟩ : ∃ kl, kl = (numB t KK).length := ⟨_, rfl⟩
      rw [← hkl] at SX HSS hnl ⊢
      have HKL := Lib.hid hkl
      clear hkl
      by_cases hle : (kl : Int) ≤ sf
      · have d1 : decide ((kl : Int) < sf + 1) = true := decide_eq_true (by omega)
        obtain ⟨q, hq⟩ : ∃ q, pf (numB t KK) = q := ⟨_, rfl⟩
        have hq2 : starB N l ss (numB t KK) = q := by rw [← HPF.out]; exact hq
        rw [hq2] at SX
        rw [hq] at HSS
        clear hq hq2
        cases q with
        | true =>
          have HE2 := Lib.hid (show safF KK pf (t + 1) = (kl : Int) - 1 by rw [HSS.out, if_pos ⟨hle, rfl⟩])
          clear hle
          go_wp2_with fail
          with_reducible refine SX.out.mono ?_
          rintro e w3 ⟨rfl, k3⟩
          have K3 := Lib.hid (K2.out.tr k3)
          clear k3 p0 p1 p2 p3
          go_wp2_with fail
          go_roundw
          case rel => exact ⟨t + 1, by omega, by go_num, by rw [HE2.out]; simp, K3.out⟩
          case measure => simp [intOf]; omega
        | false =>
          have HE2 := Lib.hid (show safF KK pf (t + 1) = sf by rw [HSS.out, if_neg (fun h => by cases h.2)])
          clear hle
          go_wp2_with fail
          with_reducible refine SX.out.mono ?_
          rintro e w3 ⟨rfl, k3⟩
          have K3 := Lib.hid (K2.out.tr k3)
          clear k3 p0 p1 p2 p3
          go_wp2_with fail
          go_roundw
          case rel => exact ⟨t + 1, by omega, by go_num, by rw [HE2.out], K3.out⟩
          case measure => simp [intOf]; omega
      · have d1 : decide ((kl : Int) < sf + 1) = false := decide_eq_false (by omega)
        have HE2 := Lib.hid (show safF KK pf (t + 1) = sf by rw [HSS.out, if_neg (fun h => hle h.1)])
        clear hle
        go_wp2_with fail
        go_roundw
        case rel => exact ⟨t + 1, by omega, by go_num, by rw [HE2.out], K2.out⟩
        case measure => simp [intOf]; omega
    · obtain rfl : t = T := by omega
      obtain ⟨sf, hsf⟩ : ∃ sf, safF KK pf t = sf := ⟨_, rfl⟩
      rw [hsf] at hs1 hs2 ⊢
      have HE2 := Lib.hid (HE.out.trans hsf)
      clear hsf
      go_wp2_with fail
      refine bodyPost_ret (v := .tuple #[.int .i64 sf, .int .i64 0]) (by simp [results, Tryz.results12, go_sem]) rfl ⟨by rw [← HPF.out, HE2.out], HK.out.tr (K1.out.tr HKP.out)⟩
end Go.Proofs.YtpkbpeeelpgmcaaGreat

namespace Go.Proofs.YtpkbpeeelpgmcaaGreat
open Go.RowKit Go.Kq Go.Flow

/-- What is known of a question: what lies in memory, its code. -/
structure Qn (Z : Nz) (l : List Sto) (vs : List Sv) (A B C : Option Addr) (n : Nat) (w : World) : Prop where
  r : RdNz w A B Z
  s : RdSt w C n vs l
theorem Qn.no {Z : Nz} {l : List Sto} {vs : List Sv} {A B C : Option Addr} {n : Nat} {w w' : World} (h : Qn Z l vs A B C n w) (k : Kp No w w') : Qn Z l vs A B C n w' := ⟨h.r.no k, h.s.no k⟩
/-- The demand that is answered. -/
noncomputable def dmL (Z : Nz) (l : List Sto) (S K : List Int) : List Int := dmd Z.ch.length l (S.map Int.toNat) (K.map Int.toNat)
theorem toNat_map (l : List Nat) : (l.map Int.ofNat).map Int.toNat = l := by
  rw [List.map_map]
  exact (List.map_congr_left fun x _ => rfl).trans (List.map_id _)
/-- A pair of a list of numbers and an error. -/
def LnU (c : Int) (ds : List Int) (w : World) (u : Value) : Prop := ∃ A n cap, u = .tuple #[.slice A n cap, .int .i64 c] ∧ RdI .i64 w A n ds ∧ n ≤ 1000
def dmC (Z : Nz) (l : List Sto) (S K : List Int) (c : Int) : List Int := if c = 0 then dmd Z.ch.length l (S.map Int.toNat) (K.map Int.toNat) else []
section
variable {Z : Nz} {l : List Sto} {vs : List Sv} {A B C P Q : Option Addr} {ca cb n cc p cp q cq : Nat} {S K : List Int} {c : Int} {w : World}
theorem demand_un (hq0 : Qn Z l vs A B C n w) (hP : RdI .i64 w P p S) (hQ : RdI .i64 w Q q K) (hp : p ≤ 9223372036854775807) (hq : q ≤ 9223372036854775807) (hc : AskW Z l S K c) :
    Calls Tryz.prog 7 #[windV Z A B C ca cb n cc, comboV P p cp Q q cq] w fun e w' => (∃ u, e = .returned u ∧ LnU c (dmC Z l S K c) w' u) ∧ Kp No w w' := by
  by_cases hz : c = 0
  · subst hz
    obtain ⟨N, hN, rfl, hok⟩ := chk_net (ask_zero hc).1
    obtain ⟨ss, ks, rfl, rfl⟩ := ask_nat hc
    have hc16 := hN.c1
    refine (Demand_ok (nz N) l vs A B C P Q ca cb n cc p cp q cq ss ks w hq0.r hq0.s hP hQ hc (by rw [nz_ch]; omega)).mono ?_
    rintro e w' ⟨G, rfl, ho, k⟩
    refine ⟨⟨_, rfl, some ⟨G, 0, none⟩, _, _, rfl, ?_, by rw [nz_ch]; omega⟩, k⟩
    unfold dmC
    rw [if_pos rfl, toNat_map, toNat_map]
    exact RdI.of_own ho
  · refine (Demand_bad Z l vs A B C P Q ca cb n cc p cp q cq S K c w hq0.r hq0.s hP hQ hp hq hc hz).mono ?_
    rintro e w' ⟨rfl, k⟩
    refine ⟨⟨_, rfl, none, 0, 0, rfl, ?_, by omega⟩, k⟩
    unfold dmC
    rw [if_neg hz]
    exact RdI.nil _ _
theorem rdemand_un (hq0 : Qn Z l vs A B C n w) (hP : RdI .i64 w P p S) (hQ : RdI .i64 w Q q K) (hp : p ≤ 9223372036854775807) (hq : q ≤ 9223372036854775807) (hc : AskW Z l S K c) :
    Calls Tryz.prog 8 #[windV Z A B C ca cb n cc, comboV P p cp Q q cq] w fun e w' => (∃ u, e = .returned u ∧ LnU c (dmC Z l S K c) w' u) ∧ Kp No w w' := by
  by_cases hz : c = 0
  · subst hz
    obtain ⟨N, hN, rfl, hok⟩ := chk_net (ask_zero hc).1
    obtain ⟨ss, ks, rfl, rfl⟩ := ask_nat hc
    have hc16 := hN.c1
    refine (rDemand_ok (nz N) l vs A B C P Q ca cb n cc p cp q cq ss ks w hq0.r hq0.s hP hQ hc (by rw [nz_ch]; omega)).mono ?_
    rintro e w' ⟨G, rfl, ho, k⟩
    refine ⟨⟨_, rfl, some ⟨G, 0, none⟩, _, _, rfl, ?_, by rw [nz_ch]; omega⟩, k⟩
    unfold dmC
    rw [if_pos rfl, toNat_map, toNat_map]
    exact RdI.of_own ho
  · refine (rDemand_bad Z l vs A B C P Q ca cb n cc p cp q cq S K c w hq0.r hq0.s hP hQ hp hq hc hz).mono ?_
    rintro e w' ⟨rfl, k⟩
    refine ⟨⟨_, rfl, none, 0, 0, rfl, ?_, by omega⟩, k⟩
    unfold dmC
    rw [if_neg hz]
    exact RdI.nil _ _
/-- What is told of starving: whether, and by which proof. -/
def StX (Z : Nz) (l : List Sto) (S K : List Int) (c : Int) (b : Bool) (ps : List Int) : Prop :=
  (c ≠ 0 ∧ b = false ∧ ps = []) ∨ (c = 0 ∧ ∃ N : Net, N.Ok ∧ Z = nz N ∧ ∃ ss ks : List Nat, S = ss.map Int.ofNat ∧ K = ks.map Int.ofNat ∧
    ((¬ Stv N (dmd N.ch.length l ss ks) ∧ b = false ∧ ps = []) ∨ (∃ R, Min N.A0 (N.wt false (dmd N.ch.length l ss ks)) R ∧ N.wt false (dmd N.ch.length l ss ks) R < sumZ (dmd N.ch.length l ss ks) ∧ b = true ∧ ps = (mem R N.n).map Int.ofNat)))
def StU (c : Int) (b : Bool) (ps : List Int) (w : World) (u : Value) : Prop := ∃ A n cap, u = .tuple #[.bool b, .slice A n cap, .int .i64 c] ∧ RdI .i64 w A n ps ∧ n ≤ 1000
theorem nz_inj {N M : Net} (h : nz N = nz M) : N.ch.length = M.ch.length ∧ N.tr.length = M.tr.length ∧ N.n = M.n := by
  have h1 := congrArg (fun z => z.ch.length) h
  have h2 := congrArg (fun z => z.tr.length) h
  have h3 := congrArg (fun z => z.n) h
  simp only [nz_ch, nz_tr] at h1 h2
  have e : ∀ N : Net, (nz N).n = (N.n : Int) := fun _ => rfl
  simp only [e] at h3
  exact ⟨h1, h2, by omega⟩
theorem mem_len (R : Nat → Bool) (n : Nat) : (mem R n).length ≤ n := by
  unfold mem
  have := List.length_filter_le R (List.range n)
  rw [List.length_range] at this
  exact this
theorem rdi_mem {w : World} {base n c : Nat} {A : Option Addr} {R : Nat → Bool} {m : Nat} (h : w.ownsRow base 3 1 (.slice A n c) n ((mem R m).map natV)) : RdI .i64 w A n ((mem R m).map Int.ofNat) :=
  RdI.of_own (base := base) (e := 3) (cap := c) (by rw [List.map_map]; exact h)
theorem starves_un (hq0 : Qn Z l vs A B C n w) (hP : RdI .i64 w P p S) (hQ : RdI .i64 w Q q K) (hp : p ≤ 9223372036854775807) (hq : q ≤ 9223372036854775807) (hc : AskW Z l S K c) :
    Calls Tryz.prog 9 #[windV Z A B C ca cb n cc, comboV P p cp Q q cq] w fun e w' => (∃ b ps, StX Z l S K c b ps ∧ ∃ u, e = .returned u ∧ StU c b ps w' u) ∧ Kp No w w' := by
  by_cases hz : c = 0
  · subst hz
    obtain ⟨N, hN, rfl, hok⟩ := chk_net (ask_zero hc).1
    obtain ⟨ss, ks, rfl, rfl⟩ := ask_nat hc
    have hn2 := hN.n2
    refine (Starves_ok N hN l vs A B C P Q ca cb n cc p cp q cq ss ks w (rdnet_z hq0.r) hq0.s hP hQ hc).mono ?_
    rintro e w' ⟨k, ⟨h1, rfl⟩ | ⟨R, v, h1, h2, rfl, ho⟩⟩
    · exact ⟨⟨false, [], .inr ⟨rfl, N, hN, rfl, ss, ks, rfl, rfl, .inl ⟨h1, rfl, rfl⟩⟩, _, rfl, none, 0, 0, rfl, RdI.nil _ _, by omega⟩, k⟩
    · obtain ⟨A9, c9, rfl, _⟩ := own_form ho
      have := mem_len R N.n
      exact ⟨⟨true, _, .inr ⟨rfl, N, hN, rfl, ss, ks, rfl, rfl, .inr ⟨R, h1, h2, rfl, rfl⟩⟩, _, rfl, A9, _, c9, rfl, rdi_mem ho, by omega⟩, k⟩
  · refine (Starves_bad Z l vs A B C P Q ca cb n cc p cp q cq S K c w hq0.r hq0.s hP hQ hp hq hc hz).mono ?_
    rintro e w' ⟨rfl, k⟩
    exact ⟨⟨false, [], .inl ⟨hz, rfl, rfl⟩, _, rfl, none, 0, 0, rfl, RdI.nil _ _, by omega⟩, k⟩
theorem rstarves_un (hq0 : Qn Z l vs A B C n w) (hP : RdI .i64 w P p S) (hQ : RdI .i64 w Q q K) (hp : p ≤ 9223372036854775807) (hq : q ≤ 9223372036854775807) (hc : AskW Z l S K c) (h7 : c = 0 → Z.n ≤ 7 ∧ Z.tr.length ≤ 20) {b : Bool} {ps : List Int} (hx : StX Z l S K c b ps) :
    Calls Tryz.prog 10 #[windV Z A B C ca cb n cc, comboV P p cp Q q cq] w fun e w' => (∃ u, e = .returned u ∧ StU c b ps w' u) ∧ Kp No w w' := by
  rcases hx with ⟨hz, rfl, rfl⟩ | ⟨rfl, N, hN, rfl, ss, ks, rfl, rfl, hx⟩
  · refine (rStarves_bad Z l vs A B C P Q ca cb n cc p cp q cq S K c w hq0.r hq0.s hP hQ hp hq hc hz).mono ?_
    rintro e w' ⟨rfl, k⟩
    exact ⟨⟨_, rfl, none, 0, 0, rfl, RdI.nil _ _, by omega⟩, k⟩
  · have h71 := h7 rfl
    rw [nz_tr, show (nz N).n = (N.n : Int) from rfl] at h71
    have hn2 := hN.n2
    rcases hx with ⟨hno, rfl, rfl⟩ | ⟨R, hm, hlt, rfl, rfl⟩
    · refine (rStarves_no N hN (by omega) l vs A B C P Q ca cb n cc p cp q cq ss ks w (rdnet_z hq0.r) hq0.s hP hQ hc (by
        cases hs : starB N l ss ks
        · rfl
        · exact absurd (starB_iff.1 hs) hno)).mono ?_
      rintro e w' ⟨rfl, k⟩
      exact ⟨⟨_, rfl, none, 0, 0, rfl, RdI.nil _ _, by omega⟩, k⟩
    · refine (rStarves_yes N hN (by omega) h71.2 l vs A B C P Q ca cb n cc p cp q cq ss ks w (rdnet_z hq0.r) hq0.s hP hQ hc R hm hlt).mono ?_
      rintro e w' ⟨⟨v, rfl, A9, c9, rfl, ho⟩, k⟩
      have := mem_len R N.n
      exact ⟨⟨_, rfl, A9, _, c9, rfl, rdi_mem ho, by omega⟩, k⟩
/-- What is told of safety. -/
def SfX (Z : Nz) (l : List Sto) (S : List Int) (c : Int) (v : Int) : Prop := (c ≠ 0 ∧ v = 0) ∨ (c = 0 ∧ ∃ N : Net, N.Ok ∧ Z = nz N ∧ ∃ ss : List Nat, S = ss.map Int.ofNat ∧ v = safN (keysN l) (starB N l ss))
theorem safe_un (hq0 : Qn Z l vs A B C n w) (hP : RdI .i64 w P p S) (hp : p ≤ 9223372036854775807) (hc : AskW Z l S [] c) :
    Calls Tryz.prog 11 #[windV Z A B C ca cb n cc, .slice P p cp] w fun e w' => (∃ v, SfX Z l S c v ∧ e = .returned (.tuple #[.int .i64 v, .int .i64 c])) ∧ Kp No w w' := by
  by_cases hz : c = 0
  · subst hz
    obtain ⟨N, hN, rfl, hok⟩ := chk_net (ask_zero hc).1
    obtain ⟨ss, ks, rfl, hk⟩ := ask_nat hc
    refine (Safe_ok N hN l vs A B C P ca cb n cc p cp ss w (rdnet_z hq0.r) hq0.s hP hc).mono ?_
    rintro e w' ⟨rfl, k⟩
    exact ⟨⟨_, .inr ⟨rfl, N, hN, rfl, ss, rfl, rfl⟩, rfl⟩, k⟩
  · refine (Safe_bad Z l vs A B C P ca cb n cc p cp S c w hq0.r hq0.s hP hp hc hz).mono ?_
    rintro e w' ⟨rfl, k⟩
    exact ⟨⟨0, .inl ⟨hz, rfl⟩, rfl⟩, k⟩
theorem rsafe_un (hq0 : Qn Z l vs A B C n w) (hP : RdI .i64 w P p S) (hp : p ≤ 9223372036854775807) (hc : AskW Z l S [] c) (h7 : c = 0 → Z.n ≤ 7 ∧ Z.tr.length ≤ 20) {v : Int} (hx : SfX Z l S c v) :
    Calls Tryz.prog 12 #[windV Z A B C ca cb n cc, .slice P p cp] w fun e w' => e = .returned (.tuple #[.int .i64 v, .int .i64 c]) ∧ Kp No w w' := by
  rcases hx with ⟨hz, rfl⟩ | ⟨rfl, N, hN, rfl, ss, rfl, rfl⟩
  · exact rSafe_bad Z l vs A B C P ca cb n cc p cp S c w hq0.r hq0.s hP hp hc hz
  · have h71 := h7 rfl
    rw [show (nz N).n = (N.n : Int) from rfl] at h71
    exact rSafe_ok N hN (by omega) l vs A B C P ca cb n cc p cp ss w (rdnet_z hq0.r) hq0.s hP hc
end
end Go.Proofs.YtpkbpeeelpgmcaaGreat
