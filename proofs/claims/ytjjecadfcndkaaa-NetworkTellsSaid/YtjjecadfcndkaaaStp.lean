/- Chapter 14: the walk of Steady. -/
import Derived.Test.YtjjecadfcndkaaaSte
import Derived.StillTailTactics
namespace Go.Proofs.Ytjjecadfcndkaaa
open Go.RowKit Go.Kq Go.Flow

theorem book_neg {P : List Pi} {k : Nat} {p : Pi} {nd : Nat → Int} (hp : P[k]? = some p) (hne : p.fr ≠ p.to) (h : ∀ v, 1 ≤ v → nd v = - dv (one v) (P.take k)) : ∀ v, 1 ≤ v → upd (upd nd p.to (nd p.to + p.fl)) p.fr (nd p.fr - p.fl) v = - dv (one v) (P.take (k + 1)) := fun v hv => by
  have h1 := book_step (nd := fun v => - nd v) (z := fun _ => 0) hp hne (fun v hv => by rw [h v hv]; omega) v hv
  by_cases e : v = p.fr
  · subst e
    rw [upd_at] at h1 ⊢
    omega
  · rw [upd_ne _ _ e] at h1 ⊢
    by_cases e2 : v = p.to
    · subst e2
      rw [upd_at] at h1 ⊢
      omega
    · rw [upd_ne _ _ e2] at h1 ⊢
      omega
theorem ask_neg {l : List (Nat × Int)} {k c : Nat} {d : Int} {nd z : Nat → Int} (hx : l[k]? = some (c, d)) (h : ∀ v, 1 ≤ v → nd v = z v + dem (one v) (l.take k)) : ∀ v, 1 ≤ v → upd nd c (nd c - d) v = z v + dem (one v) (l.take (k + 1)) := fun v hv => by
  rw [List.take_add_one, hx]
  simp only [Option.toList, dem_app, dem]
  by_cases e : v = c
  · subst e
    rw [upd_at, h _ hv]
    simp [one, show (0 : Nat) ≠ v by omega]
    omega
  · rw [upd_ne _ _ e, h v hv]
    simp [one, show (0 : Nat) ≠ v by omega, show c ≠ v by omega]
theorem book_bd3 {nd : Nat → Int} {k a b : Nat} {x y : Int} (h : ∀ v, -(1000000000000 * (k : Int)) ≤ nd v ∧ nd v ≤ 1000000000000 * (k : Int)) (hx : -(1000000000000 * ((k + 1 : Nat) : Int)) ≤ x ∧ x ≤ 1000000000000 * ((k + 1 : Nat) : Int)) (hy : -(1000000000000 * ((k + 1 : Nat) : Int)) ≤ y ∧ y ≤ 1000000000000 * ((k + 1 : Nat) : Int)) :
    ∀ v, -(1000000000000 * ((k + 1 : Nat) : Int)) ≤ upd (upd nd a x) b y v ∧ upd (upd nd a x) b y v ≤ 1000000000000 * ((k + 1 : Nat) : Int) :=
  upd_bd (M := 1000000000000 * ((k + 1 : Nat) : Int)) (upd_bd (M := 1000000000000 * ((k + 1 : Nat) : Int)) (fun v => by have := h v; omega) hx) hy
theorem own_tail {w : World} {base n g : Nat} {nd : Nat → Int} (ho : w.ownsRow base 2 1 (.slice (some ⟨g, 0, none⟩) n n) n (ndRow n nd)) : RdI .i64 w (some ⟨g, 1, none⟩) (n - 1) ((List.range (n - 1)).map fun v => nd (v + 1)) := by
  refine ⟨by simp, fun i x hx => ?_⟩
  have hi := (List.getElem?_eq_some_iff.1 hx).1
  simp at hi
  rw [List.getElem?_map, List.getElem?_range (by omega)] at hx
  simp at hx
  subst hx
  refine ⟨g, 1, rfl, (own_ge ho (g := g) rfl).2, ?_⟩
  rw [Nat.add_comm 1 i]
  exact own_cell ho (ndRow_at nd (by omega))
theorem tail_zero {n : Nat} {nd : Nat → Int} : (¬ ∃ d ∈ (List.range (n - 1)).map fun v => nd (v + 1), d ≠ 0) ↔ ∀ v, 1 ≤ v → v < n → nd v = 0 := by
  constructor
  · intro h v h1 h2
    refine Decidable.byContradiction fun hne => h ⟨nd v, List.mem_map.2 ⟨v - 1, List.mem_range.2 (by omega), by congr 1; omega⟩, hne⟩
  · rintro h ⟨d, hd, hne⟩
    obtain ⟨v, hv, rfl⟩ := List.mem_map.1 hd
    have := List.mem_range.1 hv
    exact hne (h (v + 1) (by omega) (by omega))
set_option maxHeartbeats 2000000 in
theorem Steady_bad (Z : Nz) (c : Int) (hc : ChkIs Z c) (hz : c ≠ 0) (A B D E : Option Addr) (ca cb dn dc en ec : Nat) (hi : Bool) (w : World) (hR : RdNz w A B Z) :
    Calls Try.prog 25 #[netZ Z A B ca cb, .bool hi, .slice D dn dc, .slice E en ec] w fun e w' => e = .returned (.tuple #[.bool false, .int .i64 c]) ∧ Kp No w w' := by
  have H1 := Lib.hid (demands_bad Z c hc hz A B D ca cb dn dc hi)
  have d1 : (c != 0) = true := by rw [bne_iff_ne]; exact hz
  have d2 : (c == 0) = false := by rw [beq_eq_false_iff_ne]; exact hz
  clear hc hz
  unfold netZ at H1 ⊢
  go_enter Try.func25, Try.ntmps25
  go_wp2_with fail
  have K0 := Lib.hid (Kp.alloc No w (.cells #[.int .i64 Z.n, .slice A Z.tr.length ca, .slice B Z.ch.length cb] 25))
  refine (H1.out _ (hR.no K0.out)).mono ?_
  rintro e w1 ⟨rfl, hk1⟩
  go_wp2_with fail
  refine bodyPost_ret (v := .tuple #[.bool false, .int .i64 c]) (by simp [results, Try.results25, go_sem]) rfl ⟨rfl, K0.out.tr hk1⟩
set_option maxHeartbeats 2000000 in
theorem Steady_arg (N : Net) (hN : N.Ok) (A B D E : Option Addr) (ca cb dc en ec : Nat) (hi : Bool) (ds : List Int) (w : World) (hR : RdNet w A B N) (hD : RdI .i64 w D ds.length ds) (hnil : D = none → ds.length = 0 ∧ dc = 0) (hb : ¬ (ds.length = N.ch.length ∧ ∀ d ∈ ds, dOk d) ∨ (en : Int) ≠ N.tr.length) :
    Calls Try.prog 25 #[netV N A B ca cb, .bool hi, .slice D ds.length dc, .slice E en ec] w fun e w' => e = .returned (.tuple #[.bool false, .int .i64 2]) ∧ Kp No w w' := by
  by_cases hg : ds.length = N.ch.length ∧ ∀ d ∈ ds, dOk d
  · have hen : (en : Int) ≠ N.tr.length := by
      rcases hb with hb | hb
      · exact absurd hg hb
      · exact hb
    have H1 := Lib.hid (fun W hR hD => demands_ok N hN A B D ca cb ds.length dc hi ds W hR hD hnil hg.1 hg.2)
    have hb1 : ((en : Int) == (N.tr.length : Int)) = false := by rw [beq_eq_false_iff_ne]; exact hen
    have hb2 : ((en : Int) != (N.tr.length : Int)) = true := by rw [bne_iff_ne]; exact hen
    clear hN hb hg hen hnil
    unfold netV at H1 ⊢
    go_enter Try.func25, Try.ntmps25
    go_wp2_with fail
    have K0 := Lib.hid (Kp.alloc No w (.cells #[.int .i64 N.n, .slice A N.tr.length ca, .slice B N.ch.length cb] 25))
    refine (H1.out _ (hR.no K0.out) (hD.no K0.out)).mono ?_
    rintro e w1 ⟨b, sl, L, d, rfl, _, _, _, _, hk1⟩
    have K1 := Lib.hid (K0.out.tr hk1)
    obtain ⟨x0, x1, x2⟩ := box3 (hk1.heap (heap_alloc_new w (.cells #[.int .i64 N.n, .slice A N.tr.length ca, .slice B N.ch.length cb] 25)) (fun h => h))
    clear hk1
    go_wp2_with fail
    refine bodyPost_ret (v := .tuple #[.bool false, .int .i64 2]) (by simp [results, Try.results25, go_sem]) rfl ⟨rfl, K1.out⟩
  · have H1 := Lib.hid (fun W hR hD => demands_arg N hN A B D ca cb ds.length dc hi ds W hR hD hg)
    clear hN hb hg
    unfold netV at H1 ⊢
    go_enter Try.func25, Try.ntmps25
    go_wp2_with fail
    have K0 := Lib.hid (Kp.alloc No w (.cells #[.int .i64 N.n, .slice A N.tr.length ca, .slice B N.ch.length cb] 25))
    refine (H1.out _ (hR.no K0.out) (hD.no K0.out)).mono ?_
    rintro e w1 ⟨rfl, hk1⟩
    go_wp2_with fail
    refine bodyPost_ret (v := .tuple #[.bool false, .int .i64 2]) (by simp [results, Try.results25, go_sem]) rfl ⟨rfl, K0.out.tr hk1⟩
set_option maxHeartbeats 8000000 in
set_option maxRecDepth 100000 in
theorem Steady_ok (N : Net) (hN : N.Ok) (A B D E : Option Addr) (ca cb dc ec : Nat) (hi : Bool) (ds fs : List Int) (w : World) (hR : RdNet w A B N) (hD : RdI .i64 w D ds.length ds) (hE : RdI .i64 w E fs.length fs) (hnil : D = none → ds.length = 0 ∧ dc = 0) (hl : ds.length = N.ch.length) (hd : ∀ d ∈ ds, dOk d) (hf : fs.length = N.tr.length) :
    Calls Try.prog 25 #[netV N A B ca cb, .bool hi, .slice D ds.length dc, .slice E fs.length ec] w fun e w' => SteR N hi ds fs w e w' := by
  have hn1 := hN.n1
  have hn2 := hN.n2
  have ht1 := hN.t1
  have hc1 := hN.c1
  have H1 := Lib.hid (fun W hR hD => demands_ok N hN A B D ca cb ds.length dc hi ds W hR hD hnil hl hd)
  have HMK := Lib.hid (fun W => make_ints (T := 38) (E := 2) Try.underlying38 info2 N.n (N.n : Int) rfl (by omega) W)
  have HIFF := Lib.hid (feas_iff hN (h := hi) (ds := ds) hf)
  have HN := Lib.hid hN
  have HR := Lib.hid hR
  have HD := Lib.hid hD
  have HE := Lib.hid hE
  have HL := Lib.hid hl
  have HO := Lib.hid hd
  have HF := Lib.hid hf
  have hfl : fs.length ≤ 60 := by omega
  have hb1 : ((fs.length : Int) == (N.tr.length : Int)) = true := by rw [beq_iff_eq]; omega
  have hb2 : ((fs.length : Int) != (N.tr.length : Int)) = false := by rw [bne_eq_false_iff_eq]; omega
  clear hN hR hD hE hnil hl hd hf
  unfold netV at H1
  unfold netV
  go_enter Try.func25, Try.ntmps25
  go_wp2_with fail
  have K0 := Lib.hid (Kp.alloc No w (.cells #[.int .i64 N.n, .slice A N.tr.length ca, .slice B N.ch.length cb] 25))
  refine (H1.out _ (HR.out.no K0.out) (HD.out.no K0.out)).mono ?_
  rintro e w1 ⟨b, sl, L, d, rfl, hw, hp, hd0, he, hk1⟩
  have K1 := Lib.hid (K0.out.tr hk1)
  have B1 := Lib.hid (hk1.heap (heap_alloc_new w (.cells #[.int .i64 N.n, .slice A N.tr.length ca, .slice B N.ch.length cb] 25)) (fun h => h))
  have HW := Lib.hid hw
  have HP := Lib.hid hp
  have hmk := HMK.out w1
  have O1 := Lib.hid (own_nds w1 N.n (by omega))
  obtain ⟨x0, x1, x2⟩ := box3 B1.out
  have hbs := (Array.getElem?_eq_some_iff.1 B1.out).1
  obtain ⟨asl, csl, rfl, _, _, _⟩ := own_form hw.row
  have hLl : L.length = N.tr.length + N.ch.length := by rw [hp.same.len, lay_length HL.out]
  have HLL := Lib.hid hLl
  have hbw := hw.lt
  clear hw hp he hk1 hLl
  go_wp2_with fail
  clear hmk x0 x1 x2
  go_loopw [43] (fun i wr => ∃ (k : Nat) (nd : Nat → Int), k ≤ fs.length ∧ i = .int .i64 k ∧ (∀ v, 1 ≤ v → nd v = - dv (one v) ((pf hi N.tr fs).take k)) ∧ (∀ v, -(1000000000000 * (k : Int)) ≤ nd v ∧ nd v ≤ 1000000000000 * (k : Int)) ∧ (∀ (i : Nat) (f : Int) (t : Tk), i < k → fs[i]? = some f → N.tr[i]? = some t → 0 ≤ f ∧ f ≤ t.cap hi) ∧ wr.ownsRow w1.heap.size 2 1 (.slice (some ⟨w1.heap.size, 0, none⟩) N.n N.n) N.n (ndRow N.n nd) ∧ Kp No w1 wr) (fun i _ => fs.length - (intOf i).toNat)
  case atStart => exact ⟨0, fun _ => 0, by omega, rfl, fun v _ => by simp [dv], fun v => by show _ ≤ (0 : Int) ∧ (0 : Int) ≤ _; omega, fun i f t h => by omega, O1.out, Kp.alloc _ _ _⟩
  case round =>
    obtain ⟨k, nd, hk, rfl, hnd, hbd, hrng, hown, hkp⟩ := hrel
    have HK := Lib.hid hkp
    have HND := Lib.hid hnd
    have HBD := Lib.hid hbd
    have HRG := Lib.hid hrng
    have OW := Lib.hid hown
    have BK := Lib.hid (hkp.heap B1.out (fun h => h))
    have hGz := (own_ge hown (g := w1.heap.size) rfl).2
    clear hkp hnd hbd hrng hown
    by_cases hlt : (k : Int) < fs.length
    · obtain ⟨t, ht⟩ : ∃ t, N.tr[k]? = some t := ⟨_, List.getElem?_eq_getElem (by have := HF.out; omega)⟩
      obtain ⟨f, hf'⟩ : ∃ f, fs[k]? = some f := ⟨_, List.getElem?_eq_getElem (by omega)⟩
      have hkt : k < N.tr.length := (List.getElem?_eq_some_iff.1 ht).1
      obtain ⟨e1, e2, e3, _⟩ := HN.out.tk t (List.mem_of_getElem? ht)
      obtain ⟨hc0, hc1'⟩ := HN.out.cap (List.mem_of_getElem? ht) hi
      obtain ⟨bE, oE, rfl, hbE, z0⟩ := (HE.out.no (K1.out.tr HK.out)).2 k f hf'
      obtain ⟨p, hpk⟩ : ∃ p, L[k]? = some p := ⟨_, List.getElem?_eq_getElem (by have := HLL.out; omega)⟩
      have hsk : p.fr = t.fr ∧ p.to = t.to ∧ p.mo = t.cap hi := by
        obtain ⟨q, hq, g1, g2, g3⟩ := sk_at HP.out.same.sk hpk
        rw [lay_trunk hkt, List.getElem?_map, ht] at hq
        cases hq
        exact ⟨g1.symm, g2.symm, g3.symm⟩
      have HWK := HW.out.no HK.out
      obtain ⟨q0, q1, _, _⟩ := cell_head HWK.head
      have hbw2 := HWK.lt
      obtain ⟨g, rfl, hgb, hgz, hgl, hcs⟩ := own_at c5_len HWK.row hpk (by decide)
      have y0 := (hcs 0 _ rfl).1
      have y1 := (hcs 1 _ rfl).1
      have y2 := (hcs 2 _ rfl).1
      have y3 := (hcs 3 _ rfl).1
      have y4 := (hcs 4 _ rfl).1
      rw [Nat.add_zero, hsk.1] at y0
      rw [hsk.2.1] at y1
      rw [hsk.2.2] at y2
      have HNF := Lib.hid (show ¬ (0 ≤ f ∧ f ≤ t.cap hi) → ¬ N.Feas hi ds fs from fun h1 h2 => h1 ((HIFF.out.1 h2).1 k f t hf' ht))
      have HRG2 := Lib.hid (show (0 ≤ f ∧ f ≤ t.cap hi) → ∀ (i : Nat) (f : Int) (t : Tk), i < k + 1 → fs[i]? = some f → N.tr[i]? = some t → 0 ≤ f ∧ f ≤ t.cap hi from fun h i f' t' hi' h1 h2 => by
        by_cases e : i = k
        · subst e
          rw [hf'] at h1
          rw [ht] at h2
          cases h1
          cases h2
          exact h
        · exact HRG.out i f' t' (by omega) h1 h2)
      have HBK := Lib.hid (book_neg (p := ⟨t.fr, t.to, t.cap hi, f, false⟩) (pf_at ht hf') e3 HND.out)
      simp only at HBK
      have HTR := Lib.hid (show t.fr < N.n ∧ t.to < N.n ∧ t.fr ≠ t.to from ⟨e1, e2, e3⟩)
      have hfr : (t.fr : Int) < N.n := by omega
      have hto : (t.to : Int) < N.n := by omega
      have hnt := HBD.out t.to
      have hnf := HBD.out t.fr
      have hnt1 : -60000000000000 ≤ nd t.to := by omega
      have hnt2 : nd t.to ≤ 60000000000000 := by omega
      have hnf1 : -60000000000000 ≤ nd t.fr := by omega
      have hnf2 : nd t.fr ≤ 60000000000000 := by omega
      have hkL : (k : Int) < L.length := by have := HLL.out; omega
      clear hnt hnf e1 e2 e3 ht hf' hpk hsk hcs HWK
      generalize hcapv : t.cap hi = c at *
      clear hcapv
      by_cases hf0 : f < 0
      · have HB := Lib.hid (HNF.out (by omega))
        go_wp2_with fail
        refine bodyPost_ret (v := .tuple #[.bool false, .int .i64 0]) (by simp [results, Try.results25, go_sem]) rfl ⟨false, rfl, ⟨(fun h => by cases h), fun h => absurd h HB.out⟩, (K1.out.tr HK.out).tr (Kp.alloc _ _ _)⟩
      · have hf00 : 0 ≤ f := by omega
        clear hf0
        by_cases hfc : c < f
        · have HB := Lib.hid (HNF.out (by omega))
          go_wp2_with fail
          refine bodyPost_ret (v := .tuple #[.bool false, .int .i64 0]) (by simp [results, Try.results25, go_sem]) rfl ⟨false, rfl, ⟨(fun h => by cases h), fun h => absurd h HB.out⟩, (K1.out.tr HK.out).tr (Kp.alloc _ _ _)⟩
        · have hfc2 : f ≤ c := by omega
          clear hfc
          have yg := own_cell OW.out (ndRow_at nd HTR.out.2.1)
          have fg := own_free OW.out t.to
          have hW1 := nd_setp (c := t.to) (x := nd t.to + f) OW.out HK.out (Nat.le_refl _)
          have hW2 := nd_setp (c := t.fr) (x := nd t.fr - f) hW1.1 hW1.2 (Nat.le_refl _)
          have yf := own_cell OW.out (ndRow_at nd HTR.out.1)
          have ff := own_free OW.out t.fr
          have HW2 := Lib.hid hW2
          have hne1 : ((t.fr : Int) == (t.to : Int)) = false := by rw [beq_eq_false_iff_ne]; have := HTR.out.2.2; omega
          have HBB := Lib.hid (book_bd3 (a := t.to) (b := t.fr) (x := nd t.to + f) (y := nd t.fr - f) HBD.out (by have := HBD.out t.to; omega) (by have := HBD.out t.fr; omega))
          have hne2 : t.to ≠ t.fr := fun e => HTR.out.2.2 e.symm
          clear hW1 hW2
          go_wp2_with fail
          go_roundw
          case rel => exact ⟨k + 1, _, by omega, by go_num, HBK.out, HBB.out, HRG2.out ⟨hf00, hfc2⟩, own_kp HW2.out.1 (Kp.alloc No _ _) (fun _ _ h => h), HW2.out.2.tr (Kp.alloc _ _ _)⟩
          case measure => simp [intOf]; omega
    · obtain rfl : k = fs.length := by omega
      have hz : (pf hi N.tr fs).take fs.length = pf hi N.tr fs := List.take_of_length_le (by simp [pf]; omega)
      have HND1 := Lib.hid (show ∀ v, 1 ≤ v → nd v = - dv (one v) (pf hi N.tr fs) by have := HND.out; rwa [hz] at this)
      have HRG1 := Lib.hid (show ∀ (i : Nat) (f : Int) (t : Tk), fs[i]? = some f → N.tr[i]? = some t → 0 ≤ f ∧ f ≤ t.cap hi from fun i f t h1 h2 => HRG.out i f t (List.getElem?_eq_some_iff.1 h1).1 h1 h2)
      have HBD1 := Lib.hid (show ∀ v, -60000000000000 ≤ nd v ∧ nd v ≤ 60000000000000 from fun v => by have := HBD.out v; omega)
      have OW0 := OW
      have HK0 := HK
      obtain ⟨x0, x1, x2⟩ := box3 BK.out
      have hbk := (Array.getElem?_eq_some_iff.1 BK.out).1
      clear hz HND HRG HBD OW HK
      go_wp2_with fail
      clear x0 x1 x2
      obtain ⟨wo, rfl⟩ : ∃ wo : World, wo = wr := ⟨_, rfl⟩
      go_loopw [83] (fun i wr => ∃ (k : Nat) (nd : Nat → Int), k ≤ N.ch.length ∧ i = .int .i64 k ∧ (∀ v, 1 ≤ v → nd v = - dv (one v) (pf hi N.tr fs) + dem (one v) ((N.ch.zip ds).take k)) ∧ (∀ v, -(60000000000000 + 1000000000000 * (k : Int)) ≤ nd v ∧ nd v ≤ 60000000000000 + 1000000000000 * (k : Int)) ∧ wr.ownsRow w1.heap.size 2 1 (.slice (some ⟨w1.heap.size, 0, none⟩) N.n N.n) N.n (ndRow N.n nd) ∧ Kp No w1 wr) (fun i _ => N.ch.length - (intOf i).toNat)
      case atStart => exact ⟨0, nd, by omega, rfl, fun v hv => by rw [HND1.out v hv]; simp [dem], fun v => by have := HBD1.out v; omega, OW0.out, HK0.out⟩
      case round =>
        clear HND1 HBD1 OW0 HK0
        obtain ⟨k, nd, hk, rfl, hnd, hbd, hown, hkp⟩ := hrel
        have HK := Lib.hid hkp
        have HND := Lib.hid hnd
        have HBD := Lib.hid hbd
        have OW := Lib.hid hown
        have hGz := (own_ge hown (g := w1.heap.size) rfl).2
        clear hkp hnd hbd hown
        by_cases hlt : (k : Int) < N.ch.length
        · obtain ⟨c, hc⟩ : ∃ c, N.ch[k]? = some c := ⟨_, List.getElem?_eq_getElem (by omega)⟩
          obtain ⟨d, hd⟩ : ∃ d, ds[k]? = some d := ⟨_, List.getElem?_eq_getElem (by have := HL.out; omega)⟩
          have hck := HN.out.ck c (List.mem_of_getElem? hc)
          have hdk := HO.out d (List.mem_of_getElem? hd)
          unfold dOk at hdk
          obtain ⟨bB, oB, rfl, hbB, y0⟩ := (HR.out.no (K1.out.tr HK.out)).chest hc
          obtain ⟨bD, oD, rfl, hbD, z0⟩ := (HD.out.no (K1.out.tr HK.out)).2 k d hd
          have yg := own_cell OW.out (ndRow_at nd hck.2)
          have fg := own_free OW.out c
          have hbc := HBD.out c
          have HST := Lib.hid (ask_neg (z := fun v => - dv (one v) (pf hi N.tr fs)) (zip_at hc hd) HND.out)
          have HBB := Lib.hid (upd_bd (M := 60000000000000 + 1000000000000 * ((k + 1 : Nat) : Int)) (nd := nd) (c := c) (x := nd c - d) (fun v => by have := HBD.out v; omega) (by omega))
          have HW2 := Lib.hid (nd_set (c := c) (x := nd c - d) OW.out HK.out (Nat.le_refl _))
          have hcn : (c : Int) < N.n := by omega
          have hkd : (k : Int) < ds.length := by have := HL.out; omega
          have hk16 : (k : Int) ≤ 16 := by omega
          generalize nd c = y at *
          obtain ⟨hbc0, hbc1⟩ := hbc
          have hsum : IntKind.i64.wrap (y - d) = y - d := IntWalk.i64_in _ (by omega)
          clear hc hd
          go_wp2_with fail
          go_still_tail 10, (by kernel_rfl)
          go_wp2_with fail
          generalize (wr.setCell ⟨w1.heap.size, c, none⟩ (.int .i64 (y - d))).drew = w6 at *
          have O6 := Lib.hid HW2.out.1
          have K6 := Lib.hid HW2.out.2
          clear HW2 hsum yg fg
          go_roundw
          case rel => exact ⟨k + 1, _, by omega, by go_num, HST.out, HBB.out, O6.out, K6.out⟩
          case measure => simp [intOf]; omega
        · obtain rfl : k = N.ch.length := by omega
          have hz : (N.ch.zip ds).take N.ch.length = N.ch.zip ds := List.take_of_length_le (by simp; omega)
          have HFE := Lib.hid (show (∀ v, 1 ≤ v → v < N.n → nd v = 0) ↔ N.Feas hi ds fs by
            have h1 := HND.out
            rw [hz] at h1
            rw [HIFF.out]
            constructor
            · exact fun h => ⟨HRG1.out, fun v a b => by have := h1 v a; have := h v a b; omega⟩
            · exact fun h v a b => by have := h1 v a; have := h.2 v a b; omega)
          have HTL := Lib.hid (own_tail OW.out)
          clear hz
          by_cases hn1c : N.n = 1
          · have HN1 := Lib.hid hn1c
            go_wp2_with fail
            refine (ncontains_any [] (some ⟨w1.heap.size, 0, none⟩) 0 0 _ (RdI.nil _ _) (by omega)).mono ?_
            rintro e w9 ⟨r, rfl, hr, hk9⟩
            have hrf : r = false := by
              cases r with
              | false => rfl
              | true =>
                obtain ⟨d, hd, _⟩ := hr.1 rfl
                cases hd
            subst hrf
            clear hr
            go_wp2_with fail
            refine bodyPost_ret (v := .tuple #[.bool true, .int .i64 0]) (by simp [results, Try.results25, go_sem]) rfl ⟨true, rfl, ⟨fun _ => HFE.out.1 fun v a b => by have := HN1.out; omega, fun _ => rfl⟩, (K1.out.tr HK.out).tr hk9⟩
          · go_wp2_with fail
            refine (ncontains_any _ (some ⟨w1.heap.size, 1, none⟩) (N.n - 1) (N.n - 1) _ HTL.out (by omega)).mono ?_
            rintro e w9 ⟨r, rfl, hr, hk9⟩
            have HRR := Lib.hid hr
            clear hr
            go_wp2_with fail
            refine bodyPost_ret (v := .tuple #[.bool (!r), .int .i64 0]) (by simp [results, Try.results25, go_sem]) rfl ⟨!r, rfl, ?_, (K1.out.tr HK.out).tr hk9⟩
            rw [← HFE.out, Bool.not_eq_true', ← Bool.not_eq_true, HRR.out]
            exact tail_zero
end Go.Proofs.Ytjjecadfcndkaaa
