/- Chapter 15: the demand of a combination: the program's. · Chapter 15: Demand. Printed by gen_dmd.py. -/
import Derived.StillTailTactics
import Derived.BigRegion
import Derived.Test.YtpkbpeeelpgmcaaGreatXLibMakeM
namespace Go.Proofs.YtpkbpeeelpgmcaaGreat
open Go.RowKit Go.Kq Go.Flow

theorem infoLong : (Tryz.prog.info? 2).map (fun i => (i.zero, i.size, i.bytes)) = some (some (.int .i64 0), 1, 8) := by kernel_rfl
theorem make_longs (m : Nat) (hm : m ≤ 100000) (w : World) : (Instr.makeSlice 33 (.int .i64 (m : Nat)) (.int .i64 (m : Nat))).run Tryz.prog w = .ok (.slice (some ⟨w.heap.size, 0, none⟩) m m) (w.alloc (.cells ((List.replicate m (Value.int .i64 0)).toArray) 2)) := by
  obtain ⟨i0, hi, hz0, hz1, hz2⟩ := info_parts infoLong
  have := run_make_flat w (fun x : Nat => [natV x]) 0 _ _ i0 _ 1 8 m Tryz.underlying33 hi hz0 hz1 hz2 (by decide) rfl rfl (by omega) (by omega)
  rw [this, List.flatMap_replicate]
  simp [natV]
theorem sum_le_len {f : Nat → Int} {M : Int} (hM : 0 ≤ M) (hf : ∀ x, 0 ≤ f x ∧ f x ≤ M) (a : List Nat) {K : Nat} (h : a.length ≤ K) : 0 ≤ (a.map f).sum ∧ (a.map f).sum ≤ M * K := by
  have h1 := sum_bound hf a
  have h2 : M * (a.length : Int) ≤ M * K := Int.mul_le_mul_of_nonneg_left (by omega) hM
  omega
/-- The sums while they grow. -/
theorem part_bd {nch : Nat} {l : List Sto} (h : StoOk nch l) {ss ks : List Nat} (hs : ss.length ≤ 8) (hk : ks.length ≤ 8) (i k j c : Nat) : 0 ≤ (dmS (l.getD i default) (ks.take j) (dmF l ks (ss.take k) (List.replicate nch 0))).getD c 0 ∧ (dmS (l.getD i default) (ks.take j) (dmF l ks (ss.take k) (List.replicate nch 0))).getD c 0 ≤ 72000000000 := by
  by_cases hc : c < nch
  · rw [dmS_at _ _ _ _ (by rw [dmF_len, List.length_replicate]; exact hc), dmF_at _ _ _ _ _ (by rw [List.length_replicate]; exact hc)]
    have h0 : (List.replicate nch (0 : Int)).getD c 0 = 0 := by simp [List.getD_eq_getElem?_getD, hc]
    rw [h0]
    have h1 := sum_le_len (f := fun i => if c = (l.getD i default).ch.toNat then takeOf (l.getD i default) ks else 0) (M := 8000000000) (by omega) (fun i => by
      have h1 := h.takeOf i ks
      have h2 : (1000000000 : Int) * ks.length ≤ 8000000000 := by omega
      split <;> omega) (ss.take k) (K := 8) (by rw [List.length_take]; omega)
    have h2 := h.takeOf i (ks.take j)
    have h3 : ((ks.take j).length : Int) ≤ 8 := by rw [List.length_take]; omega
    split <;> omega
  · rw [List.getD_eq_getElem?_getD, List.getElem?_eq_none (by rw [dmS_len, dmF_len, List.length_replicate]; omega)]
    exact ⟨by simp, by simp⟩
/-- A number is stored into a row that the call made. -/
theorem row_put {w0 wr : World} {G n : Nat} {xs : List Int} (ho : wr.ownsRow w0.heap.size 2 1 (.slice (some ⟨G, 0, none⟩) n n) n (xs.map (Value.int .i64))) (hk : Kp No w0 wr) (i : Nat) (x : Int) :
    ((wr.setCell ⟨G, i, none⟩ (.int .i64 x)).drew).ownsRow w0.heap.size 2 1 (.slice (some ⟨G, 0, none⟩) n n) n ((xs.set i x).map (Value.int .i64)) ∧ Kp No w0 (wr.setCell ⟨G, i, none⟩ (.int .i64 x)).drew := by
  have hg := own_ge ho (g := G) rfl
  refine ⟨?_, ((hk.trans (kp_setOne wr G i (.int .i64 x))) fun k hk e => by have e : k = G := e; omega).tr (Kp.drew _ _)⟩
  rw [List.map_set]
  exact own_kp (own_set ho i (.int .i64 x)) (Kp.drew No _) (fun _ _ h => h)
/-- What demand returns. -/
def DmR (nc : Nat) (l : List Sto) (ss ks : List Nat) (w : World) (e : Ending) (w' : World) : Prop := ∃ G, e = .returned (.slice (some ⟨G, 0, none⟩) nc nc) ∧ w'.ownsRow w.heap.size 2 1 (.slice (some ⟨G, 0, none⟩) nc nc) nc ((dmd nc l ss ks).map (Value.int .i64)) ∧ Kp No w w'
set_option maxHeartbeats 8000000 in
set_option maxRecDepth 100000 in
theorem demand_any (Z : Nz) (l : List Sto) (vs : List Sv) (A B C P Q : Option Addr) (ca cb n cc p cp q cq : Nat) (ss ks : List Nat) (w : World) (hok : StoOk Z.ch.length l) (hnc : Z.ch.length ≤ 1000) (hS : RdSt w C n vs l) (hP : RdI .i64 w P p (ss.map Int.ofNat)) (hQ : RdI .i64 w Q q (ks.map Int.ofNat)) (hss : ∀ x ∈ ss, x < n) (hks : ∀ x ∈ ks, x < keysN l) (h8 : ss.length ≤ 8) (k8 : ks.length ≤ 8) :
    Calls Tryz.prog 21 #[windV Z A B C ca cb n cc, comboV P p cp Q q cq] w (DmR Z.ch.length l ss ks w) := by
  unfold comboV windV DmR
  generalize Z.ch.length = nc at *
  obtain ⟨g, hg⟩ : ∃ g, g = w.heap.size := ⟨_, rfl⟩
  obtain ⟨w0, hw0⟩ : ∃ w0, (w.alloc (.cells #[.int .i64 Z.n, .slice A Z.tr.length ca, .slice B nc cb, .slice C n cc] 28)).alloc (.cells #[.slice P p cp, .slice Q q cq] 30) = w0 := ⟨_, rfl⟩
  have hk0 : Kp No w w0 := by rw [← hw0]; exact (Kp.alloc _ _ _).tr (Kp.alloc _ _ _)
  have hz0 : w0.heap.size = g + 2 := by rw [← hw0, hg]; simp
  have HBX := Lib.hid (show w0.heap[g]? = some (.cells #[.int .i64 Z.n, .slice A Z.tr.length ca, .slice B nc cb, .slice C n cc] 28 (0, 0)) by rw [← hw0, hg]; exact (Kp.alloc No _ _).heap (heap_alloc_new w _) id)
  have HBC := Lib.hid (show w0.heap[g + 1]? = some (.cells #[.slice P p cp, .slice Q q cq] 30 (0, 0)) by
    rw [← hw0, hg]
    have := heap_alloc_new (w.alloc (.cells #[.int .i64 Z.n, .slice A Z.tr.length ca, .slice B nc cb, .slice C n cc] 28)) (.cells #[.slice P p cp, .slice Q q cq] 30)
    simpa using this)
  have HK := Lib.hid hk0
  have HS := Lib.hid (hS.no hk0)
  have HL := Lib.hid hS.len
  have HP := Lib.hid (hP.no hk0)
  have HQ := Lib.hid (hQ.no hk0)
  have HPL := Lib.hid (show ss.length = p by have := hP.1; simpa using this)
  have HQL := Lib.hid (show ks.length = q by have := hQ.1; simpa using this)
  have HSS := Lib.hid hss
  have HKS := Lib.hid hks
  have HOK := Lib.hid hok
  have hp8 : p ≤ 8 := by rw [← HPL.out]; exact h8
  have hq8 : q ≤ 8 := by rw [← HQL.out]; exact k8
  have HBD := Lib.hid (fun i k j c => part_bd hok h8 k8 i k j c)
  have hmk := make_longs nc (by omega)
  clear hk0 hS hP hQ hss hks hok h8 k8
  obtain ⟨p0, p1, p2, p3⟩ := four_at HBX.out
  obtain ⟨q0, q1, _, _⟩ := cell_head HBC.out
  have HG := Lib.hid hz0
  subst hg
  have hb1 : w.heap.size + 1 < w0.heap.size := by omega
  clear hz0
  go_enter Tryz.func21, Tryz.ntmps21
  go_wp2_with fail
  clear hmk
  obtain ⟨G, hGe⟩ : ∃ G, G = w0.heap.size := ⟨_, rfl⟩
  rw [← hGe]
  have HGE := Lib.hid hGe
  have HGS := Lib.hid HG.out
  clear hGe
  go_loopw [18] (fun i wr => ∃ k : Nat, k ≤ p ∧ i = .int .i64 (k : Nat) ∧ wr.ownsRow w0.heap.size 2 1 (.slice (some ⟨G, 0, none⟩) nc nc) nc ((dmF l ks (ss.take k) (List.replicate nc 0)).map (Value.int .i64)) ∧ Kp No w0 wr) (fun i _ => p - (intOf i).toNat)
  case atStart =>
    refine ⟨0, by omega, rfl, ?_, Kp.alloc _ _ _⟩
    rw [HGE.out]
    have h := own_made w0 (e := 2) (n := nc) (s := 1) (base := w0.heap.size) (xs := List.replicate nc (Value.int .i64 0)) (by simp) (Nat.le_refl _) (by unfold maxLen; omega)
    have e : (dmF l ks (ss.take 0) (List.replicate nc 0)).map (Value.int .i64) = List.replicate nc (Value.int .i64 0) := by
      show (List.replicate nc (0 : Int)).map (Value.int .i64) = _
      rw [List.map_replicate]
    rw [e]
    exact h
  case round =>
    obtain ⟨k, hk, rfl, hown, hkp⟩ := hrel
    have HO := Lib.hid hown
    have HKP := Lib.hid hkp
    by_cases hlt : k < p
    · obtain ⟨i, hi⟩ : ∃ i, ss[k]? = some i := ⟨_, List.getElem?_eq_getElem (by rw [HPL.out]; exact hlt)⟩
      obtain ⟨bP, oP, rfl, hbP, xx0⟩ := HP.out.2 k (i : Int) (by rw [List.getElem?_map, hi]; rfl)
      have hin := HSS.out i (List.mem_of_getElem? hi)
      obtain ⟨s, hs⟩ : ∃ s, l[i]? = some s := ⟨_, List.getElem?_eq_getElem (by rw [HL.out]; exact hin)⟩
      obtain ⟨v, bC, oC, hv, rfl, hbC, y0, y1, is⟩ := HS.out.at_ hs
      have hso := HOK.out.ok s (List.mem_of_getElem? hs)
      obtain ⟨vch, TA, m, tc⟩ := v
      have is1 := is.1
      have is2 := is.2.1
      have is3 := is.2.2
      dsimp only at y0 y1 is1 is2 is3
      obtain ⟨ch, hch⟩ : ∃ ch : Nat, vch = (ch : Int) := ⟨vch.toNat, by omega⟩
      subst hch
      have hchn : ch < nc := by omega
      have HCT := Lib.hid (show s.ch.toNat = ch by omega)
      have HSD := Lib.hid (show l.getD i default = s by rw [List.getD_eq_getElem?_getD, hs]; rfl)
      have HIS := Lib.hid is3
      have HTL := Lib.hid (show s.tk.length = m by omega)
      have HKN := Lib.hid hso.2.1
      have HTK := Lib.hid hso.2.2
      have HFS := Lib.hid (show dmF l ks (ss.take (k + 1)) (List.replicate nc 0) = dmS s ks (dmF l ks (ss.take k) (List.replicate nc 0)) by
        rw [List.take_add_one, hi, Option.toList_some]
        unfold dmF
        rw [List.foldl_append, ← HSD.out]
        rfl)
      have HD0 := Lib.hid (show dmS s (ks.take 0) (dmF l ks (ss.take k) (List.replicate nc 0)) = dmF l ks (ss.take k) (List.replicate nc 0) from rfl)
      have HBD1 := Lib.hid (fun j c => HBD.out i k j c)
      rw [HSD.out] at HBD1
      have hchi : (ch : Int) < nc := by omega
      have x0 := hkp.cell xx0 id
      have z0 := hkp.cell q0 id
      have z1 := hkp.cell q1 id
      clear hi hs hv is hso is1 is2 is3 hown hkp
      go_wp2_with fail
      obtain ⟨wo, rfl⟩ : ∃ wo, wo = wr := ⟨_, rfl⟩
      go_loopw [25] (fun i wr => ∃ j : Nat, j ≤ q ∧ i = .int .i64 (j : Nat) ∧ wr.ownsRow w0.heap.size 2 1 (.slice (some ⟨G, 0, none⟩) nc nc) nc ((dmS s (ks.take j) (dmF l ks (ss.take k) (List.replicate nc 0))).map (Value.int .i64)) ∧ Kp No w0 wr) (fun i _ => q - (intOf i).toNat)
      case atStart => exact ⟨0, by omega, rfl, by rw [HD0.out]; exact HO.out, HKP.out⟩
      case round =>
        obtain ⟨j, hj, rfl, hown, hkw⟩ := hrel
        have HOW := Lib.hid hown
        have HKW := Lib.hid hkw
        clear x0 z0 z1
        by_cases hlt2 : j < q
        · obtain ⟨kk, hkk⟩ : ∃ kk, ks[j]? = some kk := ⟨_, List.getElem?_eq_getElem (by rw [HQL.out]; exact hlt2)⟩
          obtain ⟨bQ, oQ, rfl, hbQ, uu0⟩ := HQ.out.2 j (kk : Int) (by rw [List.getElem?_map, hkk]; rfl)
          have hkm : kk < m := by have := HKS.out kk (List.mem_of_getElem? hkk); rw [← HKN.out, HTL.out] at this; exact this
          obtain ⟨x, hx⟩ : ∃ x, s.tk[kk]? = some x := ⟨_, List.getElem?_eq_getElem (by rw [HTL.out]; exact hkm)⟩
          obtain ⟨bT, oT, rfl, hbT, tt0⟩ := HIS.out.2 kk x hx
          have hxb := HTK.out x (List.mem_of_getElem? hx)
          have HDS := Lib.hid (show dmS s (ks.take (j + 1)) (dmF l ks (ss.take k) (List.replicate nc 0)) = addAt (dmS s (ks.take j) (dmF l ks (ss.take k) (List.replicate nc 0))) ch x by
            rw [List.take_add_one, hkk, Option.toList_some]
            unfold dmS
            rw [List.foldl_append, List.foldl_cons, List.foldl_nil, HCT.out, show s.tk.getD kk 0 = x by rw [List.getD_eq_getElem?_getD, hx]; rfl])
          have hbd := HBD1.out j ch
          have HDL := Lib.hid (show (dmS s (ks.take j) (dmF l ks (ss.take k) (List.replicate nc 0))).length = nc by rw [dmS_len, dmF_len, List.length_replicate])
          clear hkk hx
          generalize dmS s (ks.take j) (dmF l ks (ss.take k) (List.replicate nc 0)) = D at *
          obtain ⟨d, hd⟩ : ∃ d, D[ch]? = some d := ⟨_, List.getElem?_eq_getElem (by rw [HDL.out]; exact hchn)⟩
          rw [List.getD_eq_getElem?_getD, hd, Option.getD_some] at hbd
          have HAA := Lib.hid (show addAt D ch x = D.set ch (d + x) by unfold addAt; rw [List.getD_eq_getElem?_getD, hd]; rfl)
          have yg := own_cell HOW.out (show (D.map (Value.int .i64))[ch]? = some (.int .i64 d) by rw [List.getElem?_map, hd]; rfl)
          have yf := own_free HOW.out ch
          have HPUT := Lib.hid (row_put HOW.out HKW.out ch (d + x))
          have hw64 : IntKind.i64.wrap (d + x) = d + x := IntWalk.i64_in _ (by omega)
          have hkki : (kk : Int) < m := by omega
          have u0 := hkw.cell uu0 id
          have t0 := hkw.cell tt0 id
          have v0 := hkw.cell y0 id
          have v1 := hkw.cell y1 id
          have r3 := hkw.cell p3 id
          have hini : (i : Int) < n := by omega
          clear hd hown hkw p0 p1 p2 p3 q0 q1 uu0 tt0 y0 y1 xx0
          go_wp2_with fail
          go_still_tail 20, (by kernel_rfl)
          go_wp2_with fail
          generalize (wr.setCell ⟨G, ch, none⟩ (.int .i64 (d + x))).drew = w3 at *
          obtain ⟨o3, k3⟩ := HPUT.out
          have O3 := Lib.hid o3
          have K3 := Lib.hid k3
          clear o3 k3 yg yf u0 t0 v0 v1 r3
          go_wp2_with fail
          go_roundw
          case rel => exact ⟨j + 1, by omega, by go_num, by rw [HDS.out, HAA.out]; exact O3.out, K3.out⟩
          case measure => simp [intOf]; omega
        · obtain rfl : j = q := by omega
          have HFE := Lib.hid (show ks.take j = ks from List.take_of_length_le (by rw [HQL.out]; exact Nat.le_refl _))
          clear hown hkw
          go_wp2_with fail
          go_roundw
          case rel => exact ⟨k + 1, by omega, by go_num, by rw [HFS.out]; have := HOW.out; rw [HFE.out] at this; exact this, HKW.out⟩
          case measure => simp [intOf]; omega
    · obtain rfl : k = p := by omega
      have HFE := Lib.hid (show ss.take k = ss from List.take_of_length_le (by rw [HPL.out]; exact Nat.le_refl _))
      clear hown hkp
      go_wp2_with fail
      go_ret
      refine ⟨G, rfl, ?_, HK.out.tr HKP.out⟩
      have h := HO.out
      rw [HFE.out] at h
      exact own_mono h HK.out.size
end Go.Proofs.YtpkbpeeelpgmcaaGreat

namespace Go.Proofs.YtpkbpeeelpgmcaaGreat
open Go.RowKit Go.Kq Go.Flow

theorem chk_total (Z : Nz) : ∃ c, ChkIs Z c := by
  by_cases h1 : NLong Z
  · exact ⟨3, .inl ⟨h1, rfl⟩⟩
  · by_cases h2 : NBad Z
    · exact ⟨2, .inr (.inl ⟨h1, h2, rfl⟩)⟩
    · exact ⟨0, .inr (.inr ⟨h1, h2, rfl⟩)⟩
theorem chkW_total (Z : Nz) (l : List Sto) : ∃ c, ChkW Z l c := by
  obtain ⟨c, hc⟩ := chk_total Z
  by_cases h : c = 0
  · subst h
    exact ⟨_, .inr ⟨hc, rfl⟩⟩
  · exact ⟨c, .inl ⟨hc, h⟩⟩
theorem ask_total (Z : Nz) (l : List Sto) (S K : List Int) : ∃ c, AskW Z l S K c := by
  obtain ⟨c, hc⟩ := chkW_total Z l
  by_cases h : c = 0
  · subst h
    exact ⟨_, .inr ⟨hc, rfl⟩⟩
  · exact ⟨c, .inl ⟨hc, h⟩⟩
theorem chkW_zero {Z : Nz} {l : List Sto} (h : ChkW Z l 0) : ChkIs Z 0 ∧ StoOk Z.ch.length l := by
  rcases h with ⟨_, h⟩ | ⟨h1, h⟩
  · exact absurd rfl h
  · exact ⟨h1, stE_ok h.symm⟩
theorem ask_zero {Z : Nz} {l : List Sto} {S K : List Int} (h : AskW Z l S K 0) : ChkW Z l 0 ∧ risB l.length S = true ∧ risB (keysN l) K = true := by
  rcases h with ⟨_, h⟩ | ⟨h1, h⟩
  · exact absurd rfl h
  · split at h
    · rename_i hh
      simp only [Bool.and_eq_true] at hh
      exact ⟨h1, hh⟩
    · omega
/-- Combinations as lists of indices. -/
theorem ask_nat {Z : Nz} {l : List Sto} {S K : List Int} (h : AskW Z l S K 0) : ∃ ss ks : List Nat, S = ss.map Int.ofNat ∧ K = ks.map Int.ofNat := by
  obtain ⟨_, h2, h3⟩ := ask_zero h
  obtain ⟨ss, e1, _⟩ := ris_nat h2
  obtain ⟨ks, e2, _⟩ := ris_nat h3
  exact ⟨ss, ks, e1, e2⟩
theorem map_nat_inj : ∀ {a b : List Nat}, a.map Int.ofNat = b.map Int.ofNat → a = b
  | [], [], _ => rfl
  | [], _ :: _, h => by simp at h
  | _ :: _, [], h => by simp at h
  | x :: a, y :: b, h => by
    simp only [List.map_cons, List.cons.injEq, Int.ofNat_eq_natCast] at h
    rw [show x = y by omega, map_nat_inj h.2]
theorem ask_cb {Z : Nz} {l : List Sto} {ss ks : List Nat} (h : AskW Z l (ss.map Int.ofNat) (ks.map Int.ofNat) 0) : CbOk l.length (keysN l) ⟨ss, ks⟩ := by
  obtain ⟨_, h2, h3⟩ := ask_zero h
  obtain ⟨a, e1, a1, a2⟩ := ris_nat h2
  obtain ⟨b, e2, b1, b2⟩ := ris_nat h3
  rw [map_nat_inj e1, map_nat_inj e2]
  exact ⟨a1, a2, b1, b2⟩
theorem cb_ask {Z : Nz} {l : List Sto} (hc : ChkW Z l 0) {c : Cb} (h : CbOk l.length (keysN l) c) : AskW Z l (c.st.map Int.ofNat) (c.ky.map Int.ofNat) 0 := by
  refine .inr ⟨hc, ?_⟩
  rw [nat_ris h.s1 h.s2, nat_ris h.k1 h.k2]
  rfl
theorem ask_ok {Z : Nz} {l : List Sto} {ss ks : List Nat} (h : AskW Z l (ss.map Int.ofNat) (ks.map Int.ofNat) 0) : StoOk Z.ch.length l ∧ ss.Pairwise (· < ·) ∧ (∀ x ∈ ss, x < l.length) ∧ ss.length ≤ 8 ∧ ks.Pairwise (· < ·) ∧ (∀ x ∈ ks, x < keysN l) ∧ ks.length ≤ 8 := by
  have hok := (chkW_zero (ask_zero h).1).2
  have hcb := ask_cb h
  have h1 := up_len hcb.s1 hcb.s2
  have h2 := up_len hcb.k1 hcb.k2
  have h3 := hok.l8
  have h4 := hok.k8
  exact ⟨hok, hcb.s1, hcb.s2, by dsimp only at h1; omega, hcb.k1, hcb.k2, by dsimp only at h2; omega⟩
theorem asked_is (Z : Nz) (l : List Sto) (vs : List Sv) (A B C P Q : Option Addr) (ca cb n cc p cp q cq : Nat) (S K : List Int) (c : Int) (w : World) (hR : RdNz w A B Z) (hS : RdSt w C n vs l) (hP : RdI .i64 w P p S) (hQ : RdI .i64 w Q q K) (hp : p ≤ 9223372036854775807) (hq : q ≤ 9223372036854775807) (hc : AskW Z l S K c) :
    Calls Tryz.prog 20 #[windV Z A B C ca cb n cc, comboV P p cp Q q cq] w fun e w' => e = .returned (.int .i64 c) ∧ Kp No w w' := by
  refine (asked_any Z l vs A B C P Q ca cb n cc p cp q cq S K w hR hS hP hQ hp hq).mono ?_
  rintro e w' ⟨d, rfl, hd, k⟩
  rw [hd.uniq hc]
  exact ⟨rfl, k⟩
set_option maxHeartbeats 4000000 in
set_option maxRecDepth 100000 in
theorem Demand_bad (Z : Nz) (l : List Sto) (vs : List Sv) (A B C P Q : Option Addr) (ca cb n cc p cp q cq : Nat) (S K : List Int) (c : Int) (w : World) (hR : RdNz w A B Z) (hS : RdSt w C n vs l) (hP : RdI .i64 w P p S) (hQ : RdI .i64 w Q q K) (hp : p ≤ 9223372036854775807) (hq : q ≤ 9223372036854775807) (hc : AskW Z l S K c) (hz : c ≠ 0) :
    Calls Tryz.prog 7 #[windV Z A B C ca cb n cc, comboV P p cp Q q cq] w fun e w' => e = .returned (.tuple #[.slice none 0 0, .int .i64 c]) ∧ Kp No w w' := by
  obtain ⟨g, hg⟩ : ∃ g, g = w.heap.size := ⟨_, rfl⟩
  obtain ⟨w0, hw0⟩ : ∃ w0, (w.alloc (.cells #[.int .i64 Z.n, .slice A Z.tr.length ca, .slice B Z.ch.length cb, .slice C n cc] 28)).alloc (.cells #[.slice P p cp, .slice Q q cq] 30) = w0 := ⟨_, rfl⟩
  have hk0 : Kp No w w0 := by rw [← hw0]; exact (Kp.alloc _ _ _).tr (Kp.alloc _ _ _)
  have HBX := Lib.hid (show w0.heap[g]? = some (.cells #[.int .i64 Z.n, .slice A Z.tr.length ca, .slice B Z.ch.length cb, .slice C n cc] 28 (0, 0)) by rw [← hw0, hg]; exact (Kp.alloc No _ _).heap (heap_alloc_new w _) id)
  have HBC := Lib.hid (show w0.heap[g + 1]? = some (.cells #[.slice P p cp, .slice Q q cq] 30 (0, 0)) by
    rw [← hw0, hg]
    have := heap_alloc_new (w.alloc (.cells #[.int .i64 Z.n, .slice A Z.tr.length ca, .slice B Z.ch.length cb, .slice C n cc] 28)) (.cells #[.slice P p cp, .slice Q q cq] 30)
    simpa using this)
  have HK := Lib.hid hk0
  have AK := asked_is Z l vs A B C P Q ca cb n cc p cp q cq S K c w0 (hR.no hk0) (hS.no hk0) (hP.no hk0) (hQ.no hk0) hp hq hc
  unfold windV comboV at AK ⊢
  replace AK := Lib.hid AK
  clear hk0 hR hS hP hQ hc
  obtain ⟨p0, p1, p2, p3⟩ := four_at HBX.out
  obtain ⟨q0, q1, _, _⟩ := cell_head HBC.out
  subst hg
  have d1 : (c != 0) = true := by rw [bne_iff_ne]; exact hz
  clear hz
  go_enter Tryz.func7, Tryz.ntmps7
  go_wp2_with fail
  with_reducible refine AK.out.mono ?_
  rintro e w1 ⟨rfl, k1⟩
  go_wp2_with fail
  exact bodyPost_ret (v := .tuple #[.slice none 0 0, .int .i64 c]) (by simp [results, Tryz.results7, go_sem]) rfl ⟨rfl, HK.out.tr k1⟩
set_option maxHeartbeats 4000000 in
set_option maxRecDepth 100000 in
theorem Demand_ok (Z : Nz) (l : List Sto) (vs : List Sv) (A B C P Q : Option Addr) (ca cb n cc p cp q cq : Nat) (ss ks : List Nat) (w : World) (hR : RdNz w A B Z) (hS : RdSt w C n vs l) (hP : RdI .i64 w P p (ss.map Int.ofNat)) (hQ : RdI .i64 w Q q (ks.map Int.ofNat)) (hc : AskW Z l (ss.map Int.ofNat) (ks.map Int.ofNat) 0) (hn : Z.ch.length ≤ 1000) :
    Calls Tryz.prog 7 #[windV Z A B C ca cb n cc, comboV P p cp Q q cq] w fun e w' => ∃ G, e = .returned (.tuple #[.slice (some ⟨G, 0, none⟩) Z.ch.length Z.ch.length, .int .i64 0]) ∧ w'.ownsRow w.heap.size 2 1 (.slice (some ⟨G, 0, none⟩) Z.ch.length Z.ch.length) Z.ch.length ((dmd Z.ch.length l ss ks).map (Value.int .i64)) ∧ Kp No w w' := by
  obtain ⟨g, hg⟩ : ∃ g, g = w.heap.size := ⟨_, rfl⟩
  obtain ⟨w0, hw0⟩ : ∃ w0, (w.alloc (.cells #[.int .i64 Z.n, .slice A Z.tr.length ca, .slice B Z.ch.length cb, .slice C n cc] 28)).alloc (.cells #[.slice P p cp, .slice Q q cq] 30) = w0 := ⟨_, rfl⟩
  have hk0 : Kp No w w0 := by rw [← hw0]; exact (Kp.alloc _ _ _).tr (Kp.alloc _ _ _)
  have HBX := Lib.hid (show w0.heap[g]? = some (.cells #[.int .i64 Z.n, .slice A Z.tr.length ca, .slice B Z.ch.length cb, .slice C n cc] 28 (0, 0)) by rw [← hw0, hg]; exact (Kp.alloc No _ _).heap (heap_alloc_new w _) id)
  have HBC := Lib.hid (show w0.heap[g + 1]? = some (.cells #[.slice P p cp, .slice Q q cq] 30 (0, 0)) by
    rw [← hw0, hg]
    have := heap_alloc_new (w.alloc (.cells #[.int .i64 Z.n, .slice A Z.tr.length ca, .slice B Z.ch.length cb, .slice C n cc] 28)) (.cells #[.slice P p cp, .slice Q q cq] 30)
    simpa using this)
  have HK := Lib.hid hk0
  obtain ⟨hok, s1, s2, s3, k1, k2, k3⟩ := ask_ok hc
  have hpl : ss.length = p := by have := hP.1; simpa using this
  have hql : ks.length = q := by have := hQ.1; simpa using this
  have hl := hS.len
  have AK := asked_is Z l vs A B C P Q ca cb n cc p cp q cq _ _ 0 w0 (hR.no hk0) (hS.no hk0) (hP.no hk0) (hQ.no hk0) (by omega) (by omega) hc
  have DM := fun W (k : Kp No w0 W) => demand_any Z l vs A B C P Q ca cb n cc p cp q cq ss ks W hok hn ((hS.no hk0).no k) ((hP.no hk0).no k) ((hQ.no hk0).no k) (by rw [← hl]; exact s2) k2 s3 k3
  unfold windV comboV at AK DM ⊢
  unfold DmR at DM
  replace AK := Lib.hid AK
  replace DM := Lib.hid DM
  clear hk0 hR hS hP hQ hc hok s1 s2 s3 k1 k2 k3 hpl hql hl
  obtain ⟨p0, p1, p2, p3⟩ := four_at HBX.out
  obtain ⟨q0, q1, _, _⟩ := cell_head HBC.out
  subst hg
  go_enter Tryz.func7, Tryz.ntmps7
  go_wp2_with fail
  with_reducible refine AK.out.mono ?_
  rintro e w1 ⟨rfl, k1⟩
  have K1 := Lib.hid k1
  have B1 := Lib.hid (k1.heap HBX.out id)
  have C1 := Lib.hid (k1.heap HBC.out id)
  clear p0 p1 p2 p3 q0 q1 k1
  obtain ⟨p0, p1, p2, p3⟩ := four_at B1.out
  obtain ⟨q0, q1, _, _⟩ := cell_head C1.out
  go_wp2_with fail
  with_reducible refine (DM.out _ K1.out).mono ?_
  rintro e w2 ⟨G, rfl, ho, k2⟩
  have HO := Lib.hid ho
  have K2 := Lib.hid (HK.out.tr (K1.out.tr k2))
  have HZ := Lib.hid (HK.out.tr K1.out).size
  clear ho k2
  go_wp2_with fail
  exact bodyPost_ret (v := .tuple #[.slice (some ⟨G, 0, none⟩) Z.ch.length Z.ch.length, .int .i64 0]) (by simp [results, Tryz.results7, go_sem]) rfl ⟨G, rfl, own_mono HO.out HZ.out, K2.out⟩
end Go.Proofs.YtpkbpeeelpgmcaaGreat
