/- Chapter 14: the walk of the reference's Spare: the halving. -/
import Derived.Test.YtjjecadfcndkaaaRsp
namespace Go.Proofs.Ytjjecadfcndkaaa
open Go.RowKit Go.Kq Go.Flow

attribute [local go_sem ↓] Go.wp_at_zero Go.wp_at_succ
set_option maxHeartbeats 8000000 in
set_option maxRecDepth 100000 in
theorem rspa_some (N : Net) (hN : N.Ok) (h8 : N.n ≤ 8) (h14 : N.tr.length ≤ 14) (A B D : Option Addr) (ca cb dc : Nat) (hi : Bool) (ds : List Int) (xi : Nat) (s : Int) (w : World) (hR : RdNet w A B N) (hD : RdI .i64 w D ds.length ds) (hnil : D = none → ds.length = 0 ∧ dc = 0) (hl : ds.length = N.ch.length) (hd : ∀ d ∈ ds, dOk d) (hx1 : xi < N.ch.length) (hs0 : 0 ≤ s) (hsp : N.Sp hi ds xi s) :
    Calls Try.prog 27 #[netV N A B ca cb, .bool hi, .slice D ds.length dc, .int .i64 xi] w fun e w' => e = .returned (.tuple #[.int .i64 s, .int .i64 0]) ∧ Kp No w w' := by
  obtain ⟨i0, hi0, hz0, hz1, hz2⟩ := info_parts info2
  have hc1 := hN.c1
  obtain ⟨c, hcx⟩ : ∃ c, N.ch[xi]? = some c := ⟨_, List.getElem?_eq_getElem hx1⟩
  obtain ⟨d, hdx⟩ : ∃ d, ds[xi]? = some d := ⟨_, List.getElem?_eq_getElem (by omega)⟩
  have h00 : ∀ x ∈ ds, 0 ≤ x := fun x hx => (hd x hx).1
  have hdo := hd d (List.mem_of_getElem? hdx)
  obtain ⟨F0, hF0⟩ := (hsp d hdx).1
  have HNO := Lib.hid (no_zero hN hl h00 hdx hs0 hF0)
  have HST := Lib.hid (fun F hF => SpI.start hN hl hdx h00 (F := F) (h := hi) hF)
  have HFIN := Lib.hid (fun low no (hs : SpI N hi ds xi d low no) he => Net.Sp.uniq hdx (hs.fin hdx he) hsp)
  have HSN := Lib.hid (fun low no m (hs : SpI N hi ds xi d low no) h1 h2 hno => SpI.no (m := m) hs hcx hdx h1 h2 hno)
  have H1 := Lib.hid (fun W hR hD => rdem_ok N hN A B D ca cb dc ds W hR hD hl hd)
  have H2 := Lib.hid (fun W hR hD => gives_any N hN h8 h14 A B D none ca cb dc 0 hi ds [] W hR hD (RdI.nil _ _) (fun _ => ⟨rfl, rfl⟩) hl (dok62 hd) (by simp) (fun i f t h => by simp at h))
  have hdok2 : ∀ m : Int, 0 ≤ m → m ≤ 60000000000001 → ∀ u ∈ ds.set xi (d + m), 0 ≤ u ∧ u ≤ 62000000000000 := fun m hm0 hm1 u hu => by
    rcases List.mem_or_eq_of_mem_set hu with h | h
    · exact dok62 hd u h
    · have := dok62 hd d (List.mem_of_getElem? hdx)
      unfold dOk at hdo
      omega
  have H3 := Lib.hid (fun (g cc : Nat) m hm0 hm1 W hR hD => gives_any N hN h8 h14 A B (some ⟨g, 0, none⟩) none ca cb cc 0 hi (ds.set xi (d + m)) [] W hR hD (RdI.nil _ _) (fun _ => ⟨rfl, rfl⟩) (by rw [List.length_set]; exact hl) (hdok2 m hm0 hm1) (by simp) (fun i f t h => by simp at h))
  have HR := Lib.hid hR
  have HD := Lib.hid hD
  have HNIL := Lib.hid hnil
  have HDX := Lib.hid hdx
  have hd16 : ds.length ≤ 16 := by omega
  have hxl : (xi : Int) < N.ch.length := by omega
  have hxd : xi < ds.length := by omega
  have hdn : (0 : Int) ≤ d := hdo.1
  have hdm : d ≤ 1000000000000 := hdo.2
  clear hN hR hD hnil hl hd hx1 hs0 hsp hF0 hdo h00 hcx hdx hdok2 hc1
  unfold netV at H1 H2 H3
  unfold netV
  simp only [List.length_nil, List.length_set] at H2 H3
  go_enter Try.func27, Try.ntmps27
  go_wp2_with fail
  have K0 := Lib.hid (Kp.alloc No w (.cells #[.int .i64 N.n, .slice A N.tr.length ca, .slice B N.ch.length cb] 25))
  refine (H1.out _ (HR.out.no K0.out) (HD.out.no K0.out)).mono ?_
  rintro e w1 ⟨rfl, hk1⟩
  have B1 := Lib.hid (hk1.heap (heap_alloc_new w (.cells #[.int .i64 N.n, .slice A N.tr.length ca, .slice B N.ch.length cb] 25)) (fun h => h))
  have K1 := Lib.hid (K0.out.tr hk1)
  obtain ⟨x0, x1, x2⟩ := box3 B1.out
  clear hk1
  go_wp2_with fail
  refine (H2.out _ (HR.out.no K1.out) (HD.out.no K1.out)).mono ?_
  rintro e w2 ⟨hk2, ⟨G, v, hF, rfl, hown⟩ | ⟨hno, _⟩⟩
  case inr => exact absurd hno HNO.out
  have B2 := Lib.hid (hk2.heap B1.out (fun h => h))
  have K2 := Lib.hid (K1.out.tr hk2)
  have HS0 := Lib.hid (HST.out G (by simpa using hF))
  clear hk2 hF hown x0 x1 x2 H2 HST
  obtain ⟨x0, x1, x2⟩ := box3 B2.out
  have hbs2 := (Array.getElem?_eq_some_iff.1 B2.out).1
  go_wp2_with fail
  obtain ⟨wo, rfl⟩ : ∃ wo : World, wo = w2 := ⟨_, rfl⟩
  go_loopw [13, 14] (fun lv nv wr => ∃ low no : Int, lv = .int .i64 low ∧ nv = .int .i64 no ∧ SpI N hi ds xi d low no ∧ Kp No wo wr) (fun lv nv _ => (intOf nv - intOf lv).toNat)
  case atStart => exact ⟨0, 60000000000001, rfl, rfl, HS0.out, Kp.refl _ _⟩
  case round =>
    obtain ⟨low, no, rfl, rfl, hsi, hkp⟩ := hrel
    clear HS0 x0 x1 x2
    have BK := Lib.hid (hkp.heap B2.out (fun h => h))
    have KW := Lib.hid (K2.out.tr hkp)
    have HKP := Lib.hid hkp
    obtain ⟨x0, x1, x2⟩ := box3 BK.out
    have hbs := (Array.getElem?_eq_some_iff.1 BK.out).1
    have hl0 : 0 ≤ low := hsi.2.2.1
    have hln : low < no := hsi.2.2.2.1
    have hno1 : no ≤ 60000000000001 := hsi.2.2.2.2
    have HSI := Lib.hid hsi
    clear hsi hkp
    by_cases hgo : 1 < no - low
    · obtain ⟨m, hm⟩ : ∃ m, m = low + (no - low) / 2 := ⟨_, rfl⟩
      have hm1 : low < m := by omega
      have hm2 : m < no := by omega
      have HM := Lib.hid hm
      clear hm
      obtain ⟨bd, od, rfl, hbd, yd⟩ := (HD.out.no KW.out).2 xi d HDX.out
      go_wp2_with (at_builtin; refine stop_in ?_)
      refine stop_out ?_
      refine wpL_append_any rfl _ _ 38 rfl wr.heap.size 2 i0 (.int .i64 0) 1 8 Try.underlying38 hi0 hz0 hz1 hz2 rfl (by decide) (.slice (some ⟨wr.heap.size, 0, none⟩) 0 0) 0 [] rfl (own_empty (Nat.le_refl _)) (some ⟨bd, od, none⟩) ds.length dc (ds.map (Value.int .i64)) rfl (by simp) (by simp) (rdi_news ((HD.out.no KW.out).no (Kp.alloc No _ _))) (by simp [Value.oneCell']) (by unfold maxLen; omega) (by omega) (by simp) ?_
      intro v1 w3 ho1 hgr1 hat1
      have hk3 : Kp No wr w3 := (Kp.refl No wr).trans ((Kp.alloc (fun k => wr.heap.size ≤ k) _ _).tr (Kp.grown hgr1 fun k hk _ => by simp [Value.ownBlock] at hk; omega)) (fun k hk h => absurd h (Nat.not_le.2 hk))
      replace ho1 : w3.ownsRow wr.heap.size 2 1 v1 ds.length (ds.map (Value.int .i64)) := by simpa using ho1
      obtain ⟨a1, c1, rfl, _, _, hpos⟩ := own_form ho1
      obtain ⟨g, rfl⟩ := hpos (by omega)
      have K3 := Lib.hid (KW.out.tr hk3)
      have B3 := Lib.hid (hk3.heap BK.out (fun h => h))
      have hgb : wr.heap.size ≤ g := (own_ge ho1 rfl).1
      have yg := own_cell ho1 (j := xi) (u := .int .i64 d) (by rw [List.getElem?_map, HDX.out]; rfl)
      have fg := own_free ho1 xi
      have O1 := Lib.hid ho1
      have HK3 := Lib.hid hk3
      clear ho1 hgr1 hat1 hpos x0 x1 x2 yd hk3
      obtain ⟨x0, x1, x2⟩ := box3 B3.out
      have hsum : IntKind.i64.wrap (d + m) = d + m := IntWalk.i64_in _ (by omega)
      have hxt : (xi : Int).toNat = xi := by omega
      have hxdi : (xi : Int) < ds.length := by omega
      go_wp2_with fail
      rw [← HM.out]
      have KS := kp_setOne w3 g xi (.int .i64 (d + m))
      have O3 : (w3.setCell ⟨g, xi, none⟩ (.int .i64 (d + m))).ownsRow wr.heap.size 2 1 (.slice (some ⟨g, 0, none⟩) ds.length c1) ds.length ((ds.set xi (d + m)).map (Value.int .i64)) := by
        rw [List.map_set]
        exact own_set O1.out xi _
      have hwr : w.heap.size + 1 ≤ wr.heap.size := hbs
      have K4 := Lib.hid (K3.out.trans KS fun k hk e => by have e2 : k = g := e; omega)
      have HK4 := Lib.hid (HK3.out.trans KS fun k hk e => by have e2 : k = g := e; omega)
      refine (H3.out g c1 m (by omega) (by omega) _ (HR.out.no K4.out) (RdI.of_own O3)).mono ?_
      rintro e w5 ⟨hk5, ⟨G, v5, hF, rfl, hown⟩ | ⟨hno, rfl⟩⟩
      · have HY := Lib.hid (HSI.out.yes hm1 hm2 (by simpa using hF))
        have HK5 := Lib.hid (HKP.out.tr (HK4.out.tr hk5))
        clear hF hown hk5 KS O3
        go_wp2_with fail
        go_roundw
        case rel => exact ⟨m, no, rfl, rfl, HY.out, HK5.out⟩
        case measure => simp [intOf]; omega
      · have HY := Lib.hid (HSN.out low no m HSI.out hm1 hm2 hno)
        have HK5 := Lib.hid (HKP.out.tr (HK4.out.tr hk5))
        clear hno hk5 KS O3
        go_wp2_with fail
        go_roundw
        case rel => exact ⟨low, m, rfl, rfl, HY.out, HK5.out⟩
        case measure => simp [intOf]; omega
    · have he : low = s := HFIN.out low no HSI.out (by omega)
      subst he
      go_wp2_with fail
      refine bodyPost_ret (v := .tuple #[.int .i64 low, .int .i64 0]) (by simp [results, Try.results27, go_sem]) rfl ⟨rfl, KW.out⟩
end Go.Proofs.Ytjjecadfcndkaaa
