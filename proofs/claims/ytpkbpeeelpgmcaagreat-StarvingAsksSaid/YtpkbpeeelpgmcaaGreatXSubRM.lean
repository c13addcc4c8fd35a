/- Chapter 15: whether a combination starves a system: the program's Starves. · Chapter 15: the iterator of subsets: what it yields lies in memory. · Chapter 15: a range over the subsets: the statement's law where what is yielded lies in memory. -/
import Derived.RangeFuncNested
import Derived.RangeFuncBound
import Derived.RangeFuncLeaves
import Derived.RangeFuncCalls
import Derived.Shelf.AbstractIn
import Derived.RangeFuncSeq
import Derived.WalkKit
import Derived.OwnWalkIn
import Derived.TacticsInMore
import Derived.RegionIn
import Derived.LoopNIn
import Derived.LoopIn
import Derived.Sort.LoopGhostIn
import Derived.Test.YtpkbpeeelpgmcaaGreatXWdM
namespace Go.Proofs.YtpkbpeeelpgmcaaGreat
open Go.RowKit Go.Kq Go.Flow

theorem chk_net {Z : Nz} {l : List Sto} (h : ChkW Z l 0) : ∃ N : Net, N.Ok ∧ Z = nz N ∧ StoOk N.ch.length l := by
  obtain ⟨h1, h2⟩ := chkW_zero h
  obtain ⟨N, hN, rfl⟩ := chk_zero h1
  exact ⟨N, hN, rfl, by simpa [nz] using h2⟩
theorem nz_ch (N : Net) : (nz N).ch.length = N.ch.length := by simp [nz]
theorem nz_tr (N : Net) : (nz N).tr.length = N.tr.length := by simp [nz]
/-- Demands of a combination lie in what the map knows. -/
theorem dmd_stv {N : Net} {l : List Sto} {E : List (Bls 16 × Int)} (hN : N.Ok) (hok : StoOk N.ch.length l) (hE : CapOf N (useS l) (2 ^ (useS l).length) E) {ss ks : List Nat} (hs : ∀ x ∈ ss, x < l.length) (h8 : ss.length ≤ 8) (k8 : ks.length ≤ 8) :
    mapStv E (dmd N.ch.length l ss ks) = true ↔ Stv N (dmd N.ch.length l ss ks) := by
  have h16 := hN.c1
  refine stv_map hE (useS_up l) (fun x hx => ?_) (by rw [dmd_len]; exact h16) (dmd_len _ _ _ _) (fun d hd => (dmd_bd hok h8 k8 d hd).1) (fun c hc hn => dmd_zero l ks fun i hi e => hn ?_)
  · obtain ⟨s, hs, rfl⟩ := useS_mem.1 hx
    have := (hok.ok s hs).1
    omega
  · have hil := hs i hi
    refine useS_mem.2 ⟨l[i], List.getElem_mem hil, ?_⟩
    rw [e, List.getD_eq_getElem?_getD, List.getElem?_eq_getElem hil]
    rfl
theorem stv_not {N : Net} {ds F : List Int} (hl : ds.length = N.ch.length) (hF : N.Feas false ds F) : ¬ Stv N ds := fun ⟨R, hR, hlt⟩ => by
  have := feas_wt hl hF hR
  omega
/-- What Starves returns where the combination is not wrong. -/
def StaR (N : Net) (l : List Sto) (ss ks : List Nat) (w : World) (e : Ending) (w' : World) : Prop := Kp No w w' ∧
  ((¬ Stv N (dmd N.ch.length l ss ks) ∧ e = .returned (.tuple #[.bool false, .slice none 0 0, .int .i64 0])) ∨
   (∃ R v, Min N.A0 (N.wt false (dmd N.ch.length l ss ks)) R ∧ N.wt false (dmd N.ch.length l ss ks) R < sumZ (dmd N.ch.length l ss ks) ∧ e = .returned (.tuple #[.bool true, v, .int .i64 0]) ∧ w'.ownsRow w.heap.size 3 1 v (mem R N.n).length ((mem R N.n).map natV)))
set_option maxHeartbeats 4000000 in
set_option maxRecDepth 100000 in
theorem Starves_bad (Z : Nz) (l : List Sto) (vs : List Sv) (A B C P Q : Option Addr) (ca cb n cc p cp q cq : Nat) (S K : List Int) (c : Int) (w : World) (hR : RdNz w A B Z) (hS : RdSt w C n vs l) (hP : RdI .i64 w P p S) (hQ : RdI .i64 w Q q K) (hp : p ≤ 9223372036854775807) (hq : q ≤ 9223372036854775807) (hc : AskW Z l S K c) (hz : c ≠ 0) :
    Calls Tryz.prog 9 #[windV Z A B C ca cb n cc, comboV P p cp Q q cq] w fun e w' => e = .returned (.tuple #[.bool false, .slice none 0 0, .int .i64 c]) ∧ Kp No w w' := by
  obtain ⟨g, hg⟩ : ∃ g, g = w.heap.size := ⟨_, rfl⟩
  obtain ⟨w0, hw0⟩ : ∃ w0, (w.alloc (.cells #[.int .i64 Z.n, .slice A Z.tr.length ca, .slice B Z.ch.length cb, .slice C n cc] 28)).alloc (.cells #[.slice P p cp, .slice Q q cq] 30) = w0 := ⟨_, rfl⟩
  have hk0 : Kp No w w0 := by rw [← hw0]; exact (Kp.alloc _ _ _).tr (Kp.alloc _ _ _)
  have HBX := Lib.hid (show w0.heap[g]? = some (.cells #[.int .i64 Z.n, .slice A Z.tr.length ca, .slice B Z.ch.length cb, .slice C n cc] 28 (0, 0)) by rw [← hw0, hg]; exact (Kp.alloc No _ _).heap (heap_alloc_new w _) id)
  have HBC := Lib.hid (show w0.heap[g + 1]? = some (.cells #[.slice P p cp, .slice Q q cq] 30 (0, 0)) by
    rw [← hw0, hg]
    have := heap_alloc_new (w.alloc (.cells #[.int .i64 Z.n, .slice A Z.tr.length ca, .slice B Z.ch.length cb, .slice C n cc] 28)) (.cells #[.slice P p cp, .slice Q q cq] 30)
    simpa using this)
  have HK := Lib.hid hk0
  have AK := asked_is Z l vs A B C P Q ca cb n cc p cp q cq S K c w0 (hR.no hk0) (hS.no hk0) (hP.no hk0) (hQ.no hk0) hp hq hc
  unfold windV comboV at AK ⊢
  replace AK := Lib.hid AK
  clear hk0 hR hS hP hQ hc
  obtain ⟨p0, p1, p2, p3⟩ := four_at HBX.out
  obtain ⟨q0, q1, _, _⟩ := cell_head HBC.out
  subst hg
  have d1 : (c != 0) = true := by rw [bne_iff_ne]; exact hz
  clear hz
  go_enter Tryz.func9, Tryz.ntmps9
  go_wp2_with fail
  with_reducible refine AK.out.mono ?_
  rintro e w1 ⟨rfl, k1⟩
  go_wp2_with fail
  exact bodyPost_ret (v := .tuple #[.bool false, .slice none 0 0, .int .i64 c]) (by simp [results, Tryz.results9, go_sem]) rfl ⟨rfl, HK.out.tr k1⟩
set_option maxHeartbeats 8000000 in
set_option maxRecDepth 100000 in
theorem Starves_ok (N : Net) (hN : N.Ok) (l : List Sto) (vs : List Sv) (A B C P Q : Option Addr) (ca cb n cc p cp q cq : Nat) (ss ks : List Nat) (w : World) (hR : RdNet w A B N) (hS : RdSt w C n vs l) (hP : RdI .i64 w P p (ss.map Int.ofNat)) (hQ : RdI .i64 w Q q (ks.map Int.ofNat)) (hc : AskW (nz N) l (ss.map Int.ofNat) (ks.map Int.ofNat) 0) :
    Calls Tryz.prog 9 #[windV (nz N) A B C ca cb n cc, comboV P p cp Q q cq] w (StaR N l ss ks w) := by
  obtain ⟨hok, s1, s2, s3, t1, t2, t3⟩ := ask_ok hc
  rw [nz_ch] at hok
  have hpl : ss.length = p := by have := hP.1; simpa using this
  have hql : ks.length = q := by have := hQ.1; simpa using this
  have hl := hS.len
  obtain ⟨g, hg⟩ : ∃ g, g = w.heap.size := ⟨_, rfl⟩
  obtain ⟨w0, hw0⟩ : ∃ w0, (w.alloc (.cells #[.int .i64 N.n, .slice A N.tr.length ca, .slice B N.ch.length cb, .slice C n cc] 28)).alloc (.cells #[.slice P p cp, .slice Q q cq] 30) = w0 := ⟨_, rfl⟩
  have hk0 : Kp No w w0 := by rw [← hw0]; exact (Kp.alloc _ _ _).tr (Kp.alloc _ _ _)
  have HBX := Lib.hid (show w0.heap[g]? = some (.cells #[.int .i64 N.n, .slice A N.tr.length ca, .slice B N.ch.length cb, .slice C n cc] 28 (0, 0)) by rw [← hw0, hg]; exact (Kp.alloc No _ _).heap (heap_alloc_new w _) id)
  have HBC := Lib.hid (show w0.heap[g + 1]? = some (.cells #[.slice P p cp, .slice Q q cq] 30 (0, 0)) by
    rw [← hw0, hg]
    have := heap_alloc_new (w.alloc (.cells #[.int .i64 N.n, .slice A N.tr.length ca, .slice B N.ch.length cb, .slice C n cc] 28)) (.cells #[.slice P p cp, .slice Q q cq] 30)
    simpa using this)
  have HK := Lib.hid hk0
  have AK := asked_is (nz N) l vs A B C P Q ca cb n cc p cp q cq _ _ 0 w0 ((rdnz_of hR).no hk0) (hS.no hk0) (hP.no hk0) (hQ.no hk0) (by omega) (by omega) hc
  have hc16 := hN.c1
  have DM := fun W (k : Kp No w0 W) => demand_any (nz N) l vs A B C P Q ca cb n cc p cp q cq ss ks W (by rw [nz_ch]; exact hok) (by rw [nz_ch]; omega) ((hS.no hk0).no k) ((hP.no hk0).no k) ((hQ.no hk0).no k) (by rw [← hl]; exact s2) t2 s3 t3
  have MD := fun W (k : Kp No w0 W) => made_any N hN l vs A B C ca cb n cc W ((hR.no hk0).no k) ((hS.no hk0).no k) hok
  have HSV := Lib.hid (fun E hE => dmd_stv (E := E) hN hok hE s2 s3 t3)
  have HDL := Lib.hid (dmd_len N.ch.length l ss ks)
  have HDB := Lib.hid (dmd_bd hok s3 t3)
  unfold windV comboV at AK DM ⊢
  unfold windV at MD
  unfold DmR at DM
  rw [nz_ch, nz_tr] at AK DM MD ⊢
  simp only [show (nz N).n = (N.n : Int) from rfl] at AK DM MD ⊢
  unfold StaR
  generalize dmd N.ch.length l ss ks = ds at *
  have SV := Lib.hid (fun D dc W (hRR : RdNet W A B N) (hD : RdI .i64 W (some D) N.ch.length ds) => Supply_ok N hN A B (some D) ca cb N.ch.length dc false ds W hRR hD (fun h => by cases h) HDL.out (fun d hd => by have := HDB.out d hd; unfold dOk; omega))
  have HR := Lib.hid (hR.no hk0)
  unfold netV at SV
  replace AK := Lib.hid AK
  replace DM := Lib.hid DM
  replace MD := Lib.hid MD
  clear hk0 hR hS hP hQ hc hok s1 s2 s3 t1 t2 t3 hpl hql hl hN
  obtain ⟨p0, p1, p2, p3⟩ := four_at HBX.out
  obtain ⟨q0, q1, _, _⟩ := cell_head HBC.out
  subst hg
  go_enter Tryz.func9, Tryz.ntmps9
  go_wp2_with fail
  with_reducible refine AK.out.mono ?_
  rintro e w1 ⟨rfl, k1⟩
  have K1 := Lib.hid k1
  have B1 := Lib.hid (k1.heap HBX.out id)
  have C1 := Lib.hid (k1.heap HBC.out id)
  clear p0 p1 p2 p3 q0 q1 k1
  obtain ⟨p0, p1, p2, p3⟩ := four_at B1.out
  obtain ⟨q0, q1, _, _⟩ := cell_head C1.out
  go_wp2_with fail
  with_reducible refine (DM.out _ K1.out).mono ?_
  rintro e w2 ⟨G, rfl, ho, k2⟩
  have HO := Lib.hid ho
  have K2 := Lib.hid (K1.out.tr k2)
  have B2 := Lib.hid (k2.heap B1.out id)
  have hlen : ds.length = N.ch.length := HDL.out
  have HRD := Lib.hid (show RdI .i64 w2 (some ⟨G, 0, none⟩) N.ch.length ds by
    have h := ho
    exact RdI.of_own h)
  clear p0 p1 p2 p3 q0 q1 ho k2
  obtain ⟨p0, p1, p2, p3⟩ := four_at B2.out
  go_wp2_with fail
  with_reducible refine (MD.out _ K2.out).mono ?_
  rintro e w3 ⟨Bs, mm, E, rfl, hB, hM, hE, k3⟩
  have ST := Lib.hid (sstarves_any Bs mm E (some ⟨G, 0, none⟩) N.ch.length N.ch.length ds w3 hB hM (HRD.out.no k3) hc16 (fun d hd => by have := HDB.out d hd; omega))
  have HEV := Lib.hid (HSV.out E hE)
  have K3 := Lib.hid (K2.out.tr k3)
  have B3 := Lib.hid (k3.heap B2.out id)
  have HRD3 := Lib.hid (HRD.out.no k3)
  clear p0 p1 p2 p3 k3 hB hM hE
  obtain ⟨p0, p1, p2, p3⟩ := four_at B3.out
  by_cases hsv : Stv N ds
  rotate_left
  · have hne : mapStv E ds = false := by
      cases hm : mapStv E ds
      · rfl
      · exact absurd (HEV.out.1 hm) hsv
    rw [hne] at ST
    have HSN := Lib.hid hsv
    clear hsv hne
    go_wp2_with fail
    with_reducible refine ST.out.mono ?_
    rintro e w4 ⟨rfl, k4⟩
    go_wp2_with fail
    refine bodyPost_ret (v := .tuple #[.bool false, .slice none 0 0, .int .i64 0]) (by simp [results, Tryz.results9, go_sem]) rfl ?_
    exact ⟨HK.out.tr (K3.out.tr k4), .inl ⟨HSN.out, rfl⟩⟩
  · have hne : mapStv E ds = true := HEV.out.2 hsv
    rw [hne] at ST
    have HSN := Lib.hid hsv
    clear hsv hne
    go_wp2_with fail
    with_reducible refine ST.out.mono ?_
    rintro e w4 ⟨rfl, k4⟩
    have K4 := Lib.hid (K3.out.tr k4)
    have B4 := Lib.hid (k4.heap B3.out id)
    have SU := Lib.hid (SV.out ⟨G, 0, none⟩ N.ch.length w4 (HR.out.no K4.out) (HRD3.out.no k4))
    clear p0 p1 p2 p3 k4
    obtain ⟨p0, p1, p2, p3⟩ := four_at B4.out
    go_wp2_with fail
    with_reducible refine SU.out.mono ?_
    rintro e w5 ⟨vf, vp, rfl, hsup, k5⟩
    have K5 := Lib.hid (HK.out.tr (K4.out.tr k5))
    have HZ := Lib.hid (HK.out.tr K4.out).size
    rcases hsup with ⟨F, hF, _⟩ | ⟨R, hRm, hlt, _, how⟩
    · exact absurd HSN.out (stv_not hlen hF.1)
    · have HOW := Lib.hid how
      have HRM := Lib.hid hRm
      have HLT := Lib.hid hlt
      clear how hRm hlt k5 p0 p1 p2 p3
      obtain ⟨av, cv, rfl, _, _, _⟩ := own_form HOW.out
      go_wp2_with fail
      refine bodyPost_ret (v := .tuple #[.bool true, .slice av (mem R N.n).length cv, .int .i64 0]) (by simp [results, Tryz.results9, go_sem]) rfl ?_
      exact ⟨K5.out, .inr ⟨R, _, HRM.out, HLT.out, rfl, own_mono HOW.out HZ.out⟩⟩
end Go.Proofs.YtpkbpeeelpgmcaaGreat

namespace Go.Proofs.YtpkbpeeelpgmcaaGreat
open Go.RowKit Go.Kq Go.Flow

/-- A list of numbers below one as a slice whose row is its own. -/
def NumAt (w : World) (base : Nat) (v : Value) (l : List Nat) : Prop := ∃ A c, v = .slice A l.length c ∧ w.ownsRow base 3 1 v l.length ((l.map Int.ofNat).map (Value.int .i64))
set_option maxRecDepth 100000 in
set_option maxHeartbeats 4000000 in
theorem subs_in (n : Nat) (hn : 1 ≤ n) (l Bx m base : Nat) (hm : m ≤ 16) (J : Nat → World → Prop) (hJ : ∀ t W W', J t W → Kp No W W' → J t W') (hB : ∀ t W, J t W → W.cell? ⟨Bx, 0, none⟩ = some (.int .i64 (m : Nat)) ∧ base ≤ W.heap.size)
    (hY : ∀ t v W1, t < 2 ^ m → J t W1 → NumAt W1 base v (numB t m) → YieldAt Fence.wide (n - 1) Tryz.prog l #[v] W1 fun e W' => e = .returned (.bool true) ∧ J (t + 1) W')
    (W : World) (h0 : J 0 W) :
    CallsIn Fence.wide n Tryz.prog 57 #[.func (.yield l) #[] #[], .pointer (some ⟨Bx, 0, none⟩)] W fun e W' => (∃ v, e = .returned v) ∧ J (2 ^ m) W' := by
  obtain ⟨T, hT⟩ : ∃ T : Nat, T = 2 ^ m := ⟨_, rfl⟩
  have hT16 : T ≤ 65536 := by
    rw [hT]
    exact Nat.pow_le_pow_right (by omega) hm
  have hTw : wrap64 ((2 : Int) ^ m) = (T : Int) := by
    have : ((2 : Int) ^ m) = (T : Int) := by rw [hT]; simp
    rw [this]
    exact IntWalk.wrap64_in _ (by omega)
  rw [← hT] at hY ⊢
  have HT := Lib.hid hT
  have hc0 := (hB 0 W h0).1
  obtain ⟨i0, hi, hz0, hz1, hz2⟩ := info_parts infoI0
  clear hT
  refine callsIn_of_wp Tryz.func57 rfl trivial ?_ rfl
  simp only [Tryz.ntmps57, List.size_toArray, List.length_cons, List.length_nil, Nat.reduceAdd, Nat.reduceSub, Array.replicate_succ, Array.replicate_zero, List.push_toArray, List.append_toArray, List.nil_append, List.cons_append]
  gi_wp2
  try rw [hTw]
  clear hTw hc0
  gi_loopw [8] (fun vi wr => ∃ t : Nat, t ≤ T ∧ vi = .int .i64 (t : Nat) ∧ J t wr) (fun vi _ => T - (intOf vi).toNat)
  case atStart => exact ⟨0, by omega, rfl, h0⟩
  case round =>
    obtain ⟨t, ht, rfl, hj⟩ := hrel
    have HJ := Lib.hid hj
    obtain ⟨c0, hb⟩ := hB t wr hj
    clear hj
    by_cases hlt : t < T
    · obtain ⟨wo, rfl⟩ : ∃ wo, wo = wr := ⟨_, rfl⟩
      have HB := Lib.hid hb
      have HC := Lib.hid c0
      have ht20 : t < 2 ^ 20 := by omega
      clear hb
      gi_wp2
      gi_loopw [4, 12] (fun vl vi wr => ∃ (j : Nat) (D : Option Addr) (c : Nat), j ≤ m ∧ vi = .int .i64 (j : Nat) ∧ vl = .slice D (numB t j).length c ∧ wr.ownsRow wo.heap.size 3 1 (.slice D (numB t j).length c) (numB t j).length (((numB t j).map Int.ofNat).map (Value.int .i64)) ∧ Kp No wo wr) (fun _ vi _ => m - (intOf vi).toNat)
      case atStart => exact ⟨0, none, 0, by omega, rfl, rfl, ⟨rfl, .inl ⟨rfl, rfl⟩⟩, Kp.refl _ _⟩
      case round =>
        obtain ⟨j, D, c, hjm, rfl, rfl, hown, hkp⟩ := hrel
        have HO := Lib.hid hown
        have HKP := Lib.hid hkp
        have hbw : wo.heap.size ≤ wr.heap.size := hkp.size
        clear hown
        by_cases hlj : j < m
        · have hbit := bit_is t j ht20
          have hbe := bit_eq t j
          have HN := Lib.hid (numB_succ t j)
          have hnl := numB_len t j
          clear hkp
          cases hbv : bitR t j with
          | false =>
            rw [hbv] at hbe
            have hE : numB t (j + 1) = numB t j := by
              rw [HN.out]
              unfold bitR at hbv
              rw [hbv]
              simp
            have HE := Lib.hid hE
            clear hbv hE
            gi_wp2
            go_roundw
            case rel => exact ⟨j + 1, D, c, by omega, by go_num, by rw [HE.out], by rw [HE.out]; exact HO.out, HKP.out⟩
            case measure => simp [intOf]; omega
          | true =>
            rw [hbv] at hbe
            have hE : numB t (j + 1) = numB t j ++ [j] := by
              rw [HN.out]
              unfold bitR at hbv
              rw [hbv]
              simp
            have HE := Lib.hid hE
            clear hbv hE
            gi_wp2_with (gi_at_builtin; refine stop_in ?_)
            refine stop_out ?_
            refine wpListIn_append_own _ rfl _ _ 23 rfl wo.heap.size 3 i0 _ 1 8 Tryz.underlying23 hi hz0 hz1 hz2 rfl (by decide) _ _ _ rfl (HO.out.alloc _) ⟨wr.heap.size, 0, none⟩ 1 1 [.int .i64 (j : Nat)] rfl rfl (new_cells wr [.int .i64 (j : Nat)] (by unfold maxLen; simp)) (by simp [Value.oneCell']) (by unfold maxLen; omega) (by omega) (by simp; omega) ?_
            intro v' w1 hown' hgrow _
            have hk1 : Kp No wo w1 := (HKP.out.tr (Kp.alloc _ _ _)).trans (Kp.grown (S := fun b => wo.heap.size ≤ b) hgrow fun k hk _ => by
              have := own_ge HO.out (g := k) hk
              omega) fun k hk h => by have h : wo.heap.size ≤ k := h; omega
            obtain ⟨g', cap', rfl⟩ := ownsRow_succ hown'
            have O1 := Lib.hid hown'
            have K1 := Lib.hid hk1
            clear hown' hgrow hk1
            gi_wp2
            go_roundw
            case rel =>
              refine ⟨j + 1, some ⟨g', 0, none⟩, cap', by omega, by go_num, by rw [HE.out]; simp, ?_, K1.out⟩
              rw [HE.out]
              have h := O1.out
              simp only [List.map_append, List.map_cons, List.map_nil, List.length_append, List.length_cons, List.length_nil, Nat.zero_add] at h ⊢
              exact h
            case measure => simp [intOf]; omega
        · obtain rfl : j = m := by omega
          obtain ⟨fn, tmps, assign, body, hy, hR⟩ := hY t _ wr hlt (hJ _ _ _ HJ.out HKP.out) ⟨D, c, rfl, own_mono HO.out HB.out⟩
          clear hkp
          gi_wp2
          refine hR.mono ?_
          clear hy hR
          rintro e W3 ⟨rfl, hJ3⟩
          have HJ3 := Lib.hid hJ3
          clear hJ3
          gi_wp2
          go_roundw
          case rel => exact ⟨t + 1, by omega, by go_num, HJ3.out⟩
          case measure => simp [intOf]; omega
    · obtain rfl : t = T := by omega
      gi_wp2
      go_end0
      exact ⟨⟨_, rfl⟩, HJ.out⟩
end Go.Proofs.YtpkbpeeelpgmcaaGreat

namespace Go.Proofs.YtpkbpeeelpgmcaaGreat
open Go.RowKit Go.Kq Go.Flow

/-- A code that is left at its end alone. -/
def Norm (R : World → Prop) : Exit → Act → World → Prop
  | .normal, _, w => R w
  | _, _, _ => False
theorem yield_norm {F : Fence} {n : Nat} {P : Program} {l : Nat} {r : Loop} {W : World} {v : Value} {R : World → Prop} (hl : W.heap[l]? = some (.loop r)) (hr : r.state = .ready) (hp : r.params.size = 1) (hF : F.fn r.fn)
    (h : r.assign.wpIn (F.inRound l) n P (Exit.then (fun a₁ w₁ => w₁.heap[l]? = some (.loop r) ∧ r.body.wpIn (F.inRound l) n P (Norm fun w₂ => w₂.heap[l]? = some (.loop { r with state := .busy }) ∧ R (w₂.putObj l (.loop { r with state := .ready, pending := none }))) a₁ (w₁.putObj l (.loop { r with state := .busy }))) (fun _ _ _ => False))
      { tmps := (r.params.zip #[v]).foldl (fun tmps (t, a) => tmps.setIfInBounds t a) r.tmps, defers := [] } W) :
    YieldAt F n P l #[v] W fun e W' => e = .returned (.bool true) ∧ R W' := by
  refine ⟨r.fn, _, r.assign, r.body, run_yield hl (by simpa using hp.symm), roundIn_of_wpIn hF (wpIn_mono h ?_)⟩
  rintro e a w hq
  cases e with
  | normal =>
    obtain ⟨h1, h2⟩ := hq
    refine ⟨_, run_beginRound h1 hr, wpIn_mono h2 ?_⟩
    rintro e a2 w2 hq
    cases e with
    | normal => exact ⟨_, _, run_endRound none hq.1, rfl, hq.2⟩
    | ret => exact hq.elim
    | exit id => exact hq.elim
    | goto t => exact hq.elim
    | panic ch => exact hq.elim
    | outgrown => exact hq.elim
  | ret => exact hq.elim
  | exit id => exact hq.elim
  | goto t => exact hq.elim
  | panic ch => exact hq.elim
  | outgrown => exact hq.elim

theorem KeepsFrom.of_kp {B : Nat} {W W' : World} (h : Kp No W W') : KeepsFrom B W W' := ⟨h.size, fun _ _ _ hk _ => h.heap hk id⟩
section
variable {n : Nat} {g : Operand} {ps : Array Tmp} {assign body : Code} {Q : Exit → Act → World → Prop} {a : Act} {w : World} {Bx m base : Nat} {I : Nat → World → Prop} {Ax : Nat → Act → World → Prop}
/-- What the law asks of the rounds. -/
structure SubOk (F : Fence) (n : Nat) (ps : Array Tmp) (assign body : Code) (a : Act) (w : World) (Bx m base : Nat) (I : Nat → World → Prop) (Ax : Nat → Act → World → Prop) : Prop where
  hm : m ≤ 16
  hps : ps.size = 1
  hI : ∀ t W W', I t W → Kp No W W' → I t W'
  hIo : ∀ t W l o o', I t W → w.heap.size ≤ l → W.heap[l]? = some o → o.isCells = false → I t (W.putObj l o')
  hAo : ∀ t b W l o o', Ax t b W → w.heap.size ≤ l → W.heap[l]? = some o → o.isCells = false → Ax t b (W.putObj l o')
  hB : ∀ t W, I t W → W.cell? ⟨Bx, 0, none⟩ = some (.int .i64 (m : Nat)) ∧ base ≤ W.heap.size
  h0 : I 0 w
  assign : ∀ (l t : Nat) (v : Value) (W : World) (K : Act → World → Prop), t < 2 ^ m → I t W → NumAt W base v (numB t m) → (∀ a' W', Kp No W W' → Ax t a' W' → K a' W') →
    assign.wpIn (F.inRound l) (n - 1 - 1) Tryz.prog (Exit.then K (fun _ _ _ => False)) { tmps := (ps.zip #[v]).foldl (fun t (p, v) => t.setIfInBounds p v) a.tmps, defers := [] } W
  body : ∀ (l t : Nat) (a' : Act) (W : World), t < 2 ^ m → w.heap.size ≤ l → (∃ r, W.heap[l]? = some (.loop r)) → I t W → Ax t a' W → body.wpIn (F.inRound l) (n - 1 - 1) Tryz.prog (Norm fun W' => I (t + 1) W' ∧ KeepsFrom w.heap.size W W') a' W
theorem SubOk.yields {F : Fence} (h : SubOk F n ps assign body a w Bx m base I Ax) (hF : ∀ f, F.fn f) {l d : Nat} (hd : ∀ D, d = D → w.heap.size ≤ l) (fn : FuncId) {J : World → Prop} (hJk : ∀ W W', J W → KeepsFrom w.heap.size W W' → J W') (hJl : ∀ W r, J W → J (W.putObj l (.loop r))) (t : Nat) (v : Value) (W : World) (ht : t < 2 ^ m)
    (hj : I t W ∧ J W ∧ W.heap[l]? = some (.loop { state := .ready, pending := none, fn, tmps := a.tmps, params := ps, assign, body, defers := d })) (hv : NumAt W base v (numB t m)) :
    YieldAt F (n - 1 - 1) Tryz.prog l #[v] W fun e W' => e = .returned (.bool true) ∧ I (t + 1) W' ∧ J W' ∧ W'.heap[l]? = some (.loop { state := .ready, pending := none, fn, tmps := a.tmps, params := ps, assign, body, defers := d }) := by
  obtain ⟨hi, hJ, hl⟩ := hj
  have hwl := hd d rfl
  refine yield_norm hl rfl h.hps (hF _) (h.assign l t v W _ ht hi hv ?_)
  intro a' W1 hk hax
  have hl1 := hk.heap hl id
  have hlt := (Array.getElem?_eq_some_iff.1 hl1).1
  refine ⟨hl1, wpIn_mono (h.body l t a' _ ht hwl ⟨_, World.putObj_heap_same hlt⟩ (h.hIo _ _ _ _ _ (h.hI _ _ _ hi hk) hwl hl1 rfl) (h.hAo _ _ _ _ _ _ hax hwl hl1 rfl)) ?_⟩
  rintro e a2 w2 hq
  cases e with
  | normal =>
    obtain ⟨h1, h2⟩ := hq
    have hl2 := h2.same _ _ hwl (World.putObj_heap_same hlt) rfl
    refine ⟨hl2, h.hIo _ _ _ _ _ h1 hwl hl2 rfl, hJl _ _ (hJk _ _ (hJl _ _ (hJk _ _ hJ (KeepsFrom.of_kp hk))) h2), World.putObj_heap_same (Array.getElem?_eq_some_iff.1 hl2).1⟩
  | ret => exact hq.elim
  | exit id => exact hq.elim
  | goto t => exact hq.elim
  | panic ch => exact hq.elim
  | outgrown => exact hq.elim
theorem range_outer (h2 : 2 ≤ n) (hg : a.eval g = .func (.func 57) #[] #[.pointer (some ⟨Bx, 0, none⟩)]) (h : SubOk Fence.wide n ps assign body a w Bx m base I Ax)
    (hdone : ∀ (D : Nat) (W : World), w.heap.size ≤ D → I (2 ^ m) W → W.heap[D]? = some (.deferred (some [])) → Q .normal { a with defers := { target := .collected D, args := #[] } :: a.defers } W) :
    (Code.rangeFunc g ps assign body).wpIn Fence.wide n Tryz.prog Q a w := by
  refine wpIn_rangeFunc ?_
  intro fn hfn
  obtain ⟨W1, hW1⟩ : ∃ W1, (w.alloc (.deferred (some []))).alloc (.loop { state := .ready, pending := none, fn, tmps := a.tmps, params := ps, assign, body, defers := w.heap.size }) = W1 := ⟨_, rfl⟩
  have hL1 : W1.heap[w.heap.size + 1]? = some (.loop { state := .ready, pending := none, fn, tmps := a.tmps, params := ps, assign, body, defers := w.heap.size }) := by
    rw [← hW1]
    have := World.alloc_heap_new (w.alloc (.deferred (some []))) (.loop { state := .ready, pending := none, fn, tmps := a.tmps, params := ps, assign, body, defers := w.heap.size })
    rwa [World.size_alloc] at this
  have hK1 : W1.heap[w.heap.size]? = some (.deferred (some [])) := by rw [← hW1]; exact (Below.heap_alloc _ _ _ (by simp)).trans (World.alloc_heap_new w _)
  have hI1 : I 0 W1 := by rw [← hW1]; exact h.hI _ _ _ (h.hI _ _ _ h.h0 (Kp.alloc _ _ _)) (Kp.alloc _ _ _)
  refine ⟨w.heap.size + 1, [{ target := .collected w.heap.size, args := #[] }], W1, { target := .fn (.func 57) #[.pointer (some ⟨Bx, 0, none⟩)], args := #[.func (.yield (w.heap.size + 1)) #[] #[]] }, W1, 57,
    #[.func (.yield (w.heap.size + 1)) #[] #[], .pointer (some ⟨Bx, 0, none⟩)], W1, ?_, ?_, fun _ _ => trivial, ?_, fun _ => by omega, ?_⟩
  · rw [← hW1]; exact run_enterLoop_outer _ _ _ _ _
  · simp only [resolve, hg]
    simp [go_sem]
  · have eg := enters_of Tryz.func57 (by kernel_rfl) rfl (#[.func (.yield (w.heap.size + 1)) #[] #[], .pointer (some ⟨Bx, 0, none⟩)]) W1
    simp [invoke, go_sem, eg]
  · refine (subs_in (n - 1) (by omega) (w.heap.size + 1) Bx m base h.hm (fun t W => I t W ∧ W.heap[w.heap.size]? = some (.deferred (some [])) ∧ W.heap[w.heap.size + 1]? = some (.loop { state := .ready, pending := none, fn, tmps := a.tmps, params := ps, assign, body, defers := w.heap.size }))
      (fun t W W' hj hk => ⟨h.hI _ _ _ hj.1 hk, hk.heap hj.2.1 id, hk.heap hj.2.2 id⟩) (fun t W hj => h.hB _ _ hj.1) ?_ W1 ⟨hI1, hK1, hL1⟩).mono ?_
    · intro t v W ht hj hv
      exact h.yields (fun _ => trivial) (l := w.heap.size + 1) (d := w.heap.size) (fun _ _ => by omega) fn (J := fun W => W.heap[w.heap.size]? = some (.deferred (some []))) (fun W W' hj hk => hk.same _ _ (Nat.le_refl _) hj rfl) (fun W r hj => (World.putObj_heap_other (by omega)).trans hj) t v W ht hj hv
    · rintro e W2 ⟨⟨v, rfl⟩, hi, hk, hl⟩
      exact ⟨none, _, run_endLoop hl (by simp), hdone _ _ (Nat.le_refl _) (h.hIo _ _ _ _ _ hi (by omega) hl rfl) ((World.putObj_heap_other (by omega)).trans hk)⟩
/-- The same within a round of another loop. -/
theorem range_inner {F : Fence} {l₀ : Nat} {r₀ : Loop} (hro : F = Fence.wide.inRound l₀) (hl₀ : w.heap[l₀]? = some (.loop r₀)) (h2 : 2 ≤ n) (hg : a.eval g = .func (.func 57) #[] #[.pointer (some ⟨Bx, 0, none⟩)]) (h : SubOk F n ps assign body a w Bx m base I Ax)
    (hdone : ∀ (W : World), I (2 ^ m) W → Q .normal a W) :
    (Code.rangeFunc g ps assign body).wpIn F n Tryz.prog Q a w := by
  subst hro
  refine wpIn_rangeFunc ?_
  intro fn hfn
  obtain ⟨W1, hW1⟩ : ∃ W1, w.alloc (.loop { state := .ready, pending := none, fn, tmps := a.tmps, params := ps, assign, body, defers := r₀.defers }) = W1 := ⟨_, rfl⟩
  have hL1 : W1.heap[w.heap.size]? = some (.loop { state := .ready, pending := none, fn, tmps := a.tmps, params := ps, assign, body, defers := r₀.defers }) := by
    rw [← hW1]
    exact World.alloc_heap_new w _
  have hI1 : I 0 W1 := by rw [← hW1]; exact h.hI _ _ _ h.h0 (Kp.alloc _ _ _)
  refine ⟨w.heap.size, [], W1, { target := .fn (.func 57) #[.pointer (some ⟨Bx, 0, none⟩)], args := #[.func (.yield w.heap.size) #[] #[]] }, W1, 57,
    #[.func (.yield w.heap.size) #[] #[], .pointer (some ⟨Bx, 0, none⟩)], W1, ?_, ?_, fun _ _ => trivial, ?_, fun _ => by omega, ?_⟩
  · rw [← hW1]; exact run_enterLoop_inner hl₀ _ _ _ _ _
  · simp only [resolve, hg]
    simp [go_sem]
  · have eg := enters_of Tryz.func57 (by kernel_rfl) rfl (#[.func (.yield w.heap.size) #[] #[], .pointer (some ⟨Bx, 0, none⟩)]) W1
    simp [invoke, go_sem, eg]
  · refine (show CallsIn (Fence.wide.inRound l₀) (n - 1) Tryz.prog _ _ _ _ from (subs_in (n - 1) (by omega) w.heap.size Bx m base h.hm (fun t W => I t W ∧ True ∧ W.heap[w.heap.size]? = some (.loop { state := .ready, pending := none, fn, tmps := a.tmps, params := ps, assign, body, defers := r₀.defers }))
      (fun t W W' hj hk => ⟨h.hI _ _ _ hj.1 hk, trivial, hk.heap hj.2.2 id⟩) (fun t W hj => h.hB _ _ hj.1) ?_ W1 ⟨hI1, trivial, hL1⟩).mono ?_)
    · intro t v W ht hj hv
      exact h.yields (fun _ => trivial) (l := w.heap.size) (d := r₀.defers) (fun _ _ => Nat.le_refl _) fn (J := fun _ => True) (fun _ _ _ _ => trivial) (fun _ _ _ => trivial) t v W ht hj hv
    · rintro e W2 ⟨⟨v, rfl⟩, hi, _, hl⟩
      exact ⟨none, _, run_endLoop hl (by simp), hdone _ (h.hIo _ _ _ _ _ hi (Nat.le_refl _) hl rfl)⟩
end
end Go.Proofs.YtpkbpeeelpgmcaaGreat
