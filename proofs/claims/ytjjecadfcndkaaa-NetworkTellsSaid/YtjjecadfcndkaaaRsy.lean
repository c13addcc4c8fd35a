/- Chapter 14: the walk of the reference's Supply, where demands can be given. -/
import Derived.Test.YtjjecadfcndkaaaRsu
namespace Go.Proofs.Ytjjecadfcndkaaa
open Go.RowKit Go.Kq Go.Flow

theorem news_one (w : World) (t : TypeId) (c : Int) : ∀ ad : Addr, some (⟨w.heap.size, 0, none⟩ : Addr) = some ad → ∀ (j : Nat) (u : Value), [Value.int .i64 c][j]? = some u → (w.alloc (.cells #[.int .i64 c] t)).cell? (ad.add j) = some u := fun ad had => by
  cases had
  exact one_news w t c
theorem news_at {w : World} {b : Nat} {c : Int} (h : w.cell? ⟨b, 0, none⟩ = some (.int .i64 c)) : ∀ ad : Addr, some (⟨b, 0, none⟩ : Addr) = some ad → ∀ (j : Nat) (u : Value), [Value.int .i64 c][j]? = some u → w.cell? (ad.add j) = some u := fun ad had j u hj => by
  cases had
  match j, hj with
  | 0, hj =>
    simp at hj
    subst hj
    rw [add_at]
    exact h
  | k + 1, hj => simp at hj
theorem own_empty_c (w : World) (o : Obj) {base : Nat} {e : TypeId} {size : Nat} (hb : base ≤ w.heap.size + 1) : (((w.alloc o).alloc (.cells #[] e)).drew).ownsRow base e size (.slice (some ⟨w.heap.size + 1, 0, none⟩) 0 0) 0 [] := by
  have h := own_empty (w := w.alloc o) (base := base) (e := e) (size := size) (by simpa using hb)
  rw [show (w.alloc o).heap.size = w.heap.size + 1 by simp] at h
  exact (Kp.drew (fun _ => False) _).owns h (fun _ _ h => h)
theorem own_nilf {w : World} {base n cap : Nat} {e : TypeId} {size : Nat} {a : Option Addr} {xs : List Value} (h : w.ownsRow base e size (.slice a n cap) n xs) : a = none → n = 0 ∧ cap = 0 := fun ha => by
  rcases h.2 with ⟨h0, _⟩ | ⟨g, cp, cur, hv, _⟩
  · injection h0 with _ e2 e3
    exact ⟨e2, e3⟩
  · injection hv with e1 _ _
    rw [e1] at ha
    cases ha
theorem gives_m (N : Net) (hN : N.Ok) (h8 : N.n ≤ 8) (h14 : N.tr.length ≤ 14) (A B D E : Option Addr) (ca cb dc ec m : Nat) (hi : Bool) (ds fs : List Int) (w : World) (hm : fs.length = m) (hR : RdNet w A B N) (hD : RdI .i64 w D ds.length ds) (hE : RdI .i64 w E m fs) (henil : E = none → m = 0 ∧ ec = 0) (hl : ds.length = N.ch.length) (hd : ∀ d ∈ ds, 0 ≤ d ∧ d ≤ 62000000000000) (hf : m ≤ N.tr.length) (hr : ∀ (i : Nat) (f : Int) (t : Tk), fs[i]? = some f → N.tr[i]? = some t → 0 ≤ f ∧ f ≤ t.cap hi) :
    Calls Try.prog 41 #[.agg #[.int .i64 N.n, .slice A N.tr.length ca, .slice B N.ch.length cb], .bool hi, .slice D ds.length dc, .slice E m ec] w fun e w' => GvsR N hi ds fs w e w' := by
  subst hm
  exact gives_any N hN h8 h14 A B D E ca cb dc ec hi ds fs w hR hD hE henil hl hd hf hr
/-- The first numbers of a flow are within the capacities. -/
theorem hs_range {N : Net} {h : Bool} {ds first F : List Int} {k : Nat} (hs : HS N h ds k first F) : ∀ (i : Nat) (f : Int) (t : Tk), first[i]? = some f → N.tr[i]? = some t → 0 ≤ f ∧ f ≤ t.cap h := fun i f t hf ht => by
  have hi := (List.getElem?_eq_some_iff.1 hf).1
  rw [← hs.pre, List.getElem?_take] at hf
  split at hf
  · exact hs.feas.fit.get (pf_at ht hf)
  · cases hf
theorem snoc_range {N : Net} {h : Bool} {ds first F : List Int} {k : Nat} {t : Tk} {m : Int} (hs : HS N h ds k first F) (ht : N.tr[k]? = some t) (hm : 0 ≤ m ∧ m ≤ t.cap h) : ∀ (i : Nat) (f : Int) (t : Tk), (first ++ [m])[i]? = some f → N.tr[i]? = some t → 0 ≤ f ∧ f ≤ t.cap h := fun i f t' hf ht' => by
  by_cases hi : i < first.length
  · rw [List.getElem?_append_left hi] at hf
    exact hs_range hs i f t' hf ht'
  · rw [List.getElem?_append_right (by omega)] at hf
    have hj := (List.getElem?_eq_some_iff.1 hf).1
    have e : i = k := by have := hs.len; simp at hj; omega
    subst e
    rw [ht] at ht'
    cases ht'
    have e0 : i - first.length = 0 := by simp at hj; omega
    rw [e0] at hf
    simp at hf
    rw [← hf]
    exact hm
/-- What Supply returns of demands that can be given. -/
def SupY (N : Net) (hi : Bool) (ds : List Int) (w : World) (e : Ending) (w' : World) : Prop := ∃ v F, e = .returned (.tuple #[v, .slice none 0 0, .int .i64 0]) ∧ N.Least hi ds F ∧ w'.ownsRow w.heap.size 2 1 v F.length (F.map (Value.int .i64)) ∧ Kp No w w'
/-- What gives says, in one way. -/
def GvB (N : Net) (hi : Bool) (ds fs : List Int) (w w' : World) (v : Value) (b : Bool) : Prop :=
  (b = true ∧ ∃ G, N.Feas hi ds (fs ++ G) ∧ w'.ownsRow w.heap.size 2 1 v (fs ++ G).length ((fs ++ G).map (Value.int .i64))) ∨ (b = false ∧ N.No hi ds fs)
theorem gvs_b {N : Net} {hi : Bool} {ds fs : List Int} {w w' : World} {e : Ending} (h : GvsR N hi ds fs w e w') : ∃ (v : Value) (b : Bool), e = .returned (.tuple #[v, .bool b]) ∧ GvB N hi ds fs w w' v b ∧ Kp No w w' := by
  obtain ⟨hk, ⟨G, v, hF, he, ho⟩ | ⟨hn, he⟩⟩ := h
  · exact ⟨v, true, he, .inl ⟨rfl, G, hF, ho⟩, hk⟩
  · exact ⟨_, false, he, .inr ⟨rfl, hn⟩, hk⟩
attribute [local go_sem ↓] Go.wp_at_zero Go.wp_at_succ
set_option maxHeartbeats 8000000 in
set_option maxRecDepth 100000 in
theorem rsup_yes (N : Net) (hN : N.Ok) (h8 : N.n ≤ 8) (h14 : N.tr.length ≤ 14) (A B D : Option Addr) (ca cb dc : Nat) (hi : Bool) (ds F0 : List Int) (w : World) (hR : RdNet w A B N) (hD : RdI .i64 w D ds.length ds) (hl : ds.length = N.ch.length) (hd : ∀ d ∈ ds, dOk d) (hF0 : N.Feas hi ds F0) :
    Calls Try.prog 19 #[netV N A B ca cb, .bool hi, .slice D ds.length dc] w fun e w' => SupY N hi ds w e w' := by
  obtain ⟨i0, hi0, hz0, hz1, hz2⟩ := info_parts info2
  have hc1 := hN.c1
  have H1 := Lib.hid (fun W hR hD => rdem_ok N hN A B D ca cb dc ds W hR hD hl hd)
  have H2 := Lib.hid (fun W hR hD => gives_any N hN h8 h14 A B D none ca cb dc 0 hi ds [] W hR hD (RdI.nil _ _) (fun _ => ⟨rfl, rfl⟩) hl (dok62 hd) (by simp) (fun i f t h => by simp at h))
  have H3 := Lib.hid (fun (E : Option Addr) ec m fs W hm hR hD hE hen hf hr => gives_m N hN h8 h14 A B D E ca cb dc ec m hi ds fs W hm hR hD hE hen hl (dok62 hd) hf hr)
  have HNO := Lib.hid (show ¬ N.No hi ds [] from fun h => No.elim (G := F0) (by simp) h (by simpa using hF0))
  have HN := Lib.hid hN
  have HR := Lib.hid hR
  have HD := Lib.hid hD
  have hd16 : ds.length ≤ 16 := by omega
  clear hN hR hD hl hd hF0
  unfold netV at H1 H2
  unfold netV
  simp only [List.length_nil] at H2
  go_enter Try.func19, Try.ntmps19
  go_wp2_with fail
  have K0 := Lib.hid (Kp.alloc No w (.cells #[.int .i64 N.n, .slice A N.tr.length ca, .slice B N.ch.length cb] 25))
  refine (H1.out _ (HR.out.no K0.out) (HD.out.no K0.out)).mono ?_
  rintro e w1 ⟨rfl, hk1⟩
  have B1 := Lib.hid (hk1.heap (heap_alloc_new w (.cells #[.int .i64 N.n, .slice A N.tr.length ca, .slice B N.ch.length cb] 25)) (fun h => h))
  have K1 := Lib.hid (K0.out.tr hk1)
  obtain ⟨x0, x1, x2⟩ := box3 B1.out
  clear hk1
  go_wp2_with fail
  refine (H2.out _ (HR.out.no K1.out) (HD.out.no K1.out)).mono ?_
  rintro e w2 ⟨hk2, ⟨G, v, hF, rfl, hown⟩ | ⟨hno, _⟩⟩
  case inr => exact absurd hno HNO.out
  have B2 := Lib.hid (hk2.heap B1.out (fun h => h))
  have K2 := Lib.hid (K1.out.tr hk2)
  have HHS := Lib.hid (HS.start (show N.Feas hi ds G by simpa using hF))
  have hw1z : w.heap.size + 1 ≤ w1.heap.size := (Array.getElem?_eq_some_iff.1 B1.out).1
  have HO2 := Lib.hid (own_mono (show w2.ownsRow w1.heap.size 2 1 v N.tr.length (G.map (Value.int .i64)) by have := hF.len; simp only [List.nil_append] at this hown; rw [← this]; exact hown) hw1z)
  obtain ⟨av, cv, rfl, _, _, _⟩ := own_form HO2.out
  clear hk2 hF hown x0 x1 x2
  obtain ⟨x0, x1, x2⟩ := box3 B2.out
  have hbs2 := (Array.getElem?_eq_some_iff.1 B2.out).1
  go_wp2_with fail
  go_loopw [10, 12, 13] (fun fv gv iv wr => ∃ (k : Nat) (first F : List Int) (af : Option Addr) (cf : Nat) (a : Option Addr) (c : Nat), k ≤ N.tr.length ∧ iv = .int .i64 k ∧ HS N hi ds k first F ∧ fv = .slice af N.tr.length cf ∧ wr.ownsRow (w.heap.size + 1) 2 1 fv N.tr.length (F.map (Value.int .i64)) ∧ gv = .slice a k c ∧ wr.ownsRow (w.heap.size + 1) 2 1 gv k (first.map (Value.int .i64)) ∧ (∀ g, fv.ownBlock = some g → gv.ownBlock ≠ some g) ∧ Kp (fun k => w.heap.size + 1 ≤ k) w2 wr) (fun _ _ iv _ => N.tr.length - (intOf iv).toNat)
  case atStart => exact ⟨0, [], G, av, cv, none, 0, by omega, rfl, HHS.out, rfl, HO2.out, rfl, ⟨by simp, .inl ⟨rfl, rfl⟩⟩, fun g _ h => by simp [Value.ownBlock] at h, Kp.refl _ _⟩
  case round =>
    obtain ⟨k, first, F, af, cf, a, c, hk, rfl, hhs, rfl, hof, rfl, hog, hdis, hkp⟩ := hrel
    have hn0 : ¬ w.heap.size + 1 ≤ w.heap.size := by omega
    have BK := Lib.hid (hkp.heap B2.out hn0)
    obtain ⟨x0, x1, x2⟩ := box3 BK.out
    have hbs := (Array.getElem?_eq_some_iff.1 BK.out).1
    have HS1 := Lib.hid hhs
    have HOF := Lib.hid hof
    have HOG := Lib.hid hog
    have HDIS := Lib.hid hdis
    have HK := Lib.hid hkp
    clear hhs hof hog hdis hkp
    by_cases hlt : (k : Int) < N.tr.length
    · obtain ⟨t, ht⟩ : ∃ t, N.tr[k]? = some t := ⟨_, List.getElem?_eq_getElem (by omega)⟩
      obtain ⟨x, hx⟩ : ∃ x, F[k]? = some x := ⟨_, List.getElem?_eq_getElem (by rw [HS1.out.feas.len]; omega)⟩
      obtain ⟨hhi, hxc⟩ := HI.start HS1.out hx ht
      have hcap := HN.out.cap (List.mem_of_getElem? ht) hi
      have hx0 : -1 < x := hhi.2.2.1
      have HHI := Lib.hid hhi
      have HXC := Lib.hid hxc
      have HT := Lib.hid ht
      have hx12 : x ≤ 1000000000000 := by omega
      obtain ⟨gF, cF, hFv⟩ := own_posn HOF.out (by omega)
      injection hFv with e1 _ e3
      subst e1 e3
      have yf := own_cell HOF.out (j := k) (u := .int .i64 x) (by rw [List.getElem?_map, hx]; rfl)
      clear hhi hx ht hcap hxc
      go_wp2_with fail
      go_quiet (fail)
      go_wp2_with fail
      generalize hwd : wr.drewN _ = wd
      have KD := Lib.hid (show Kp No wr wd from hwd ▸ Kp.drewN No wr _)
      clear hwd yf
      obtain ⟨wo, rfl⟩ : ∃ wo : World, wo = wr := ⟨_, rfl⟩
      go_loopw [10, 14, 15] (fun fv lv cv wz => ∃ (F : List Int) (low can : Int) (gF cF : Nat), fv = .slice (some ⟨gF, 0, none⟩) N.tr.length cF ∧ lv = .int .i64 low ∧ cv = .int .i64 can ∧ HI N hi ds first F low can ∧ can ≤ 1000000000000 ∧ can ≤ t.cap hi ∧ wz.ownsRow (w.heap.size + 1) 2 1 fv N.tr.length (F.map (Value.int .i64)) ∧ (∀ g, fv.ownBlock = some g → (Value.slice a k c).ownBlock ≠ some g) ∧ Kp No wo wz) (fun _ lv cv _ => (intOf cv - intOf lv).toNat)
      case atStart => exact ⟨F, -1, x, gF, _, rfl, rfl, rfl, HHI.out, hx12, HXC.out, own_kp HOF.out KD.out (fun _ _ h => h), HDIS.out, KD.out⟩
      case round =>
        clear HHI hx12 hx0 HOF HDIS KD x0 x1 x2
        obtain ⟨F, low, can, gF, cF, rfl, rfl, rfl, hhi, hc12, hcc, hof, hdis, hkz⟩ := hrel
        have HHI := Lib.hid hhi
        have HOF := Lib.hid hof
        have HDIS := Lib.hid hdis
        have HKZ := Lib.hid hkz
        have HOGZ := Lib.hid (own_kp HOG.out hkz (fun _ _ h => h))
        have BZ := Lib.hid (hkz.heap BK.out (fun h => h))
        obtain ⟨x0, x1, x2⟩ := box3 BZ.out
        have hbz := (Array.getElem?_eq_some_iff.1 BZ.out).1
        have hl1 : -1 ≤ low := hhi.2.2.2.1
        have hl2 : low < can := hhi.2.2.1
        have KNW := Lib.hid (show Kp No w wr from (K2.out.trans HK.out fun k hk h => by omega).tr hkz)
        clear hhi hof hdis hkz
        by_cases hgo : 1 < can - low
        · obtain ⟨m, hm⟩ : ∃ m, m = low + (can - low) / 2 := ⟨_, rfl⟩
          have hm1 : low < m := by omega
          have hm2 : m < can := by omega
          have HM := Lib.hid hm
          clear hm
          have HLF := Lib.hid (show (first.map (Value.int .i64)).length = k * 1 by rw [List.length_map, HS1.out.len, Nat.mul_one])
          have HNILF := Lib.hid (own_nilf HOGZ.out)
          have HNEWF := Lib.hid (fun W hk => rdi_news ((RdI.of_own HOGZ.out).no (w' := W) hk))
          have HONEF := Lib.hid (ints_oneCell .i64 first)
          have h63a : 0 + k ≤ maxLen := by unfold maxLen; omega
          have hbya : (0 + k) * 8 ≤ 140737488355328 := by omega
          have h63b : k + 1 ≤ maxLen := by unfold maxLen; omega
          have hbyb : (k + 1) * 8 ≤ 140737488355328 := by omega
          have HL1 := Lib.hid (show ([Value.int .i64 m]).length = 1 * 1 from rfl)
          have HNO := Lib.hid (show ∀ b : Nat, (some (⟨b, 0, none⟩ : Addr) = none → (1 : Nat) = 0 ∧ (1 : Nat) = 0) from fun b h => by cases h)
          have HON1 := Lib.hid (show ∀ u ∈ [Value.int .i64 m], u.oneCell' = true by simp [Value.oneCell'])
          have HSN := Lib.hid (show first.map (Value.int .i64) ++ [.int .i64 m] = (first ++ [m]).map (Value.int .i64) by simp)
          have HLS := Lib.hid (show (first ++ [m]).length = k + 1 by rw [List.length_append, HS1.out.len]; rfl)
          have hk1' : k + 1 ≤ N.tr.length := by omega
          have HRG := Lib.hid (snoc_range (m := m) HS1.out HT.out (by omega))
          go_wp2_with fail
          rw [← HM.out]
          go_region_held3 (fun w' => w'.cell? ⟨w.heap.size, 0, none⟩ = some (.int .i64 N.n) ∧ w'.cell? ⟨w.heap.size, 1, none⟩ = some (.slice A N.tr.length ca) ∧ w'.cell? ⟨w.heap.size, 2, none⟩ = some (.slice B N.ch.length cb)) (first | exact ⟨KR7.cell x0 (fun h => h), KR7.cell x1 (fun h => h), KR7.cell x2 (fun h => h)⟩ | exact ⟨KR6.cell x0 (fun h => h), KR6.cell x1 (fun h => h), KR6.cell x2 (fun h => h)⟩ | exact ⟨KR5.cell x0 (fun h => h), KR5.cell x1 (fun h => h), KR5.cell x2 (fun h => h)⟩ | go_keep)
            ((first | (go_at_call 41; have hcall := H3.out (some ⟨g6, 0, none⟩) c6 (k + 1) (first ++ [m]) w6 HLS.out (HR.out.no (KNW.out.tr KR6)) (HD.out.no (KNW.out.tr KR6)) RI6 (fun h => by cases h) hk1' HRG.out; refine (hcall.mono (fun _ _ h => gvs_b h)).mono ?_; clear hcall; rintro e w7 ⟨v7, b7, rfl, hg7, hk7⟩; have KR7 := KR6.tr hk7; have HG7 := Lib.hid hg7; clear hg7) | (refine stepS_append (by rfl) _ _ 38 (by rfl) wr.heap.size 2 i0 (.int .i64 0) 1 8 Try.underlying38 hi0 hz0 hz1 hz2 (by rfl) (by decide) (.slice (some ⟨g5, 0, none⟩) k c5) k (first.map (Value.int .i64)) (by rfl) (own_kp hown5 (Kp.alloc No _ _) (fun _ _ h => h)) (some ⟨w5.heap.size, 0, none⟩) 1 1 [.int .i64 m] (by rfl) HL1.out (HNO.out _) (news_one w5 2 m) HON1.out h63b hbyb (by have := KR5.size; simp; omega) (k + 1) rfl ((first ++ [m]).map (Value.int .i64)) HSN.out ?_; intro v6 w6 hown6 hgrow6 hnz6; obtain ⟨g6, c6, rfl⟩ := own_some hown6 (by simpa using hnz6); have KR6 : Kp No wr w6 := KR5.trans ((Kp.alloc (fun k => wr.heap.size ≤ k) _ _).tr (Kp.grown hgrow6 fun k hk _ => (own_ge hown5 hk).1)) (fun k hk h => absurd h (Nat.not_le.2 hk)); have RI6 : RdI .i64 w6 (some ⟨g6, 0, none⟩) (k + 1) (first ++ [m]) := RdI.of_own hown6) | (refine stepS_append (by rfl) _ _ 38 (by rfl) wr.heap.size 2 i0 (.int .i64 0) 1 8 Try.underlying38 hi0 hz0 hz1 hz2 (by rfl) (by decide) (.slice (some ⟨g5, 0, none⟩) k c5) k (first.map (Value.int .i64)) (by rfl) (hown5) (some ⟨wr.heap.size + 1, 0, none⟩) 1 1 [.int .i64 m] (by rfl) HL1.out (HNO.out _) (news_at c50) HON1.out h63b hbyb (by have := KR5.size; simp; omega) (k + 1) rfl ((first ++ [m]).map (Value.int .i64)) HSN.out ?_; intro v6 w6 hown6 hgrow6 hnz6; obtain ⟨g6, c6, rfl⟩ := own_some hown6 (by simpa using hnz6); have KR6 : Kp No wr w6 := KR5.trans ((Kp.grown hgrow6 fun k hk _ => (own_ge hown5 hk).1)) (fun k hk h => absurd h (Nat.not_le.2 hk)); have RI6 : RdI .i64 w6 (some ⟨g6, 0, none⟩) (k + 1) (first ++ [m]) := RdI.of_own hown6) | (refine stepS_append (by rfl) _ _ 38 (by rfl) wr.heap.size 2 i0 (.int .i64 0) 1 8 Try.underlying38 hi0 hz0 hz1 hz2 (by rfl) (by decide) (.slice (some ⟨g5, 0, none⟩) k c5) k (first.map (Value.int .i64)) (by rfl) (hown5) (some ⟨wr.heap.size, 0, none⟩) 1 1 [.int .i64 m] (by rfl) HL1.out (HNO.out _) (news_at c50) HON1.out h63b hbyb (by have := KR5.size; simp; omega) (k + 1) rfl ((first ++ [m]).map (Value.int .i64)) HSN.out ?_; intro v6 w6 hown6 hgrow6 hnz6; obtain ⟨g6, c6, rfl⟩ := own_some hown6 (by simpa using hnz6); have KR6 : Kp No wr w6 := KR5.trans ((Kp.grown hgrow6 fun k hk _ => (own_ge hown5 hk).1)) (fun k hk h => absurd h (Nat.not_le.2 hk)); have RI6 : RdI .i64 w6 (some ⟨g6, 0, none⟩) (k + 1) (first ++ [m]) := RdI.of_own hown6) | (refine stepS_append (by rfl) _ _ 38 (by rfl) wr.heap.size 2 i0 (.int .i64 0) 1 8 Try.underlying38 hi0 hz0 hz1 hz2 (by rfl) (by decide) (.slice (some ⟨wr.heap.size, 0, none⟩) 0 0) 0 [] (by rfl) (own_empty (w := wr.drew) (Nat.le_refl _)) a k c (first.map (Value.int .i64)) (by rfl) HLF.out HNILF.out (HNEWF.out _ ((Kp.drew No wr).tr (Kp.alloc No _ _))) HONEF.out h63a hbya (by simp <;> omega) k (Nat.zero_add k) (first.map (Value.int .i64)) (List.nil_append _) ?_; intro v5 w5 hown5 hgrow hnz5; obtain ⟨g5, c5, rfl⟩ := own_some hown5 (by simpa using hnz5); have KR5 : Kp No wr w5 := (Kp.refl No wr).trans (((Kp.drew (fun k => wr.heap.size ≤ k) wr).tr (Kp.alloc _ _ _)).tr (Kp.grown hgrow fun k hk _ => by simp [Value.ownBlock] at hk; omega)) (fun k hk h => absurd h (Nat.not_le.2 hk))) | (refine stepS_append (by rfl) _ _ 38 (by rfl) wr.heap.size 2 i0 (.int .i64 0) 1 8 Try.underlying38 hi0 hz0 hz1 hz2 (by rfl) (by decide) (.slice (some ⟨wr.heap.size, 0, none⟩) 0 0) 0 [] (by rfl) (own_kp (own_empty (w := wr.drew) (Nat.le_refl _)) (Kp.alloc No _ (.cells #[.int .i64 m] 2)) (fun _ _ h => h)) a k c (first.map (Value.int .i64)) (by rfl) HLF.out HNILF.out (HNEWF.out _ ((Kp.drew No wr).tr ((Kp.alloc No _ _).tr (Kp.alloc No _ _)))) HONEF.out h63a hbya (by simp <;> omega) k (Nat.zero_add k) (first.map (Value.int .i64)) (List.nil_append _) ?_; intro v5 w5 hown5 hgrow hnz5; obtain ⟨g5, c5, rfl⟩ := own_some hown5 (by simpa using hnz5); have KR5 : Kp No wr w5 := (Kp.refl No wr).trans (((Kp.drew (fun k => wr.heap.size ≤ k) wr).tr ((Kp.alloc _ _ _).tr (Kp.alloc _ _ _))).tr (Kp.grown hgrow fun k hk _ => by simp [Value.ownBlock] at hk; omega)) (fun k hk h => absurd h (Nat.not_le.2 hk)); have c50 : w5.cell? ⟨wr.heap.size + 1, 0, none⟩ = some (.int .i64 m) := hgrow.cell (by go_simp) (by simp [Value.ownBlock])) | (refine stepS_append (by rfl) _ _ 38 (by rfl) wr.heap.size 2 i0 (.int .i64 0) 1 8 Try.underlying38 hi0 hz0 hz1 hz2 (by rfl) (by decide) (.slice (some ⟨wr.heap.size + 1, 0, none⟩) 0 0) 0 [] (by rfl) (own_empty_c wr (.cells #[.int .i64 m] 2) (by omega)) a k c (first.map (Value.int .i64)) (by rfl) HLF.out HNILF.out (HNEWF.out _ ((Kp.drew No wr).tr ((Kp.alloc No _ _).tr (Kp.alloc No _ _)))) HONEF.out h63a hbya (by simp <;> omega) k (Nat.zero_add k) (first.map (Value.int .i64)) (List.nil_append _) ?_; intro v5 w5 hown5 hgrow hnz5; obtain ⟨g5, c5, rfl⟩ := own_some hown5 (by simpa using hnz5); have KR5 : Kp No wr w5 := (Kp.refl No wr).trans (((Kp.drew (fun k => wr.heap.size ≤ k) wr).tr ((Kp.alloc _ _ _).tr (Kp.alloc _ _ _))).tr (Kp.grown hgrow fun k hk _ => by simp [Value.ownBlock] at hk; omega)) (fun k hk h => absurd h (Nat.not_le.2 hk)); have c50 : w5.cell? ⟨wr.heap.size, 0, none⟩ = some (.int .i64 m) := hgrow.cell (by go_simp) (by simp [Value.ownBlock]))))
          all_goals
            have hg7 := HG7.out
            have K7 := Lib.hid KR7
            clear KR7
            rcases hg7 with ⟨rfl, G, hF, ho⟩ | ⟨rfl, hno⟩
            · have HYI := Lib.hid (HHI.out.yes hm1 hF)
              have HO7 := Lib.hid (own_mono (show w7.ownsRow w6.heap.size 2 1 v7 N.tr.length (((first ++ [m]) ++ G).map (Value.int .i64)) by have := hF.len; rw [← this]; exact ho) (show w.heap.size + 1 ≤ w6.heap.size by have := KR6.size; omega))
              obtain ⟨g7, c7, rfl⟩ := own_posn HO7.out (by omega)
              have HD7 := Lib.hid (show ∀ g, (Value.slice (some ⟨g7, 0, none⟩) N.tr.length c7).ownBlock = some g → (Value.slice a k c).ownBlock ≠ some g from fun g hg hg2 => by
                have h1 := (own_ge HOGZ.out hg2).2
                have h2 := (own_ge ho (g := g) (by simpa [Value.ownBlock] using hg)).1
                have h3 := KR6.size
                omega)
              clear hF ho KR5 KR6
              go_wp2_with fail
              go_roundw
              case rel => exact ⟨_, low, m, g7, c7, rfl, rfl, rfl, HYI.out, by omega, by omega, HO7.out, HD7.out, HKZ.out.tr K7.out⟩
              case measure => simp [intOf]; omega
            · have HNI := Lib.hid (HHI.out.no HS1.out.len HT.out hm1 hm2 hno)
              clear hno KR5 KR6
              go_wp2_with fail
              go_roundw
              case rel => exact ⟨F, m, can, gF, cF, rfl, rfl, rfl, HNI.out, hc12, hcc, own_kp HOF.out K7.out (fun _ _ h => h), HDIS.out, HKZ.out.tr K7.out⟩
              case measure => simp [intOf]; omega
        · have HFI := Lib.hid (HHI.out.fin HS1.out (by omega))
          have hge : can - low ≤ 1 := by omega
          clear hgo
          go_wp2_with (at_builtin; refine stop_in ?_)
          refine stop_out ?_
          refine wpList_append_own_at _ rfl _ _ 38 rfl (w.heap.size + 1) 2 i0 (.int .i64 0) 1 8 Try.underlying38 hi0 hz0 hz1 hz2 rfl (by decide) (.slice a k c) k (first.map (Value.int .i64)) rfl (own_kp HOGZ.out (Kp.alloc No _ _) (fun _ _ h => h)) ⟨wr.heap.size, 0, none⟩ 1 1 [.int .i64 can] rfl rfl (one_news wr 2 _) (by simp [Value.oneCell']) (by unfold maxLen; omega) (by omega) (by simp; omega) ?_
          intro v' w12 hown' hgrow hnil hat
          have kA : Kp (fun g => (Value.slice a k c).ownBlock = some g) wr w12 := (Kp.alloc _ _ _).tr (Kp.grown hgrow fun k hk _ => hk)
          have O12 := Lib.hid (show w12.ownsRow (w.heap.size + 1) 2 1 v' (k + 1) ((first ++ [can]).map (Value.int .i64)) by rw [List.map_append]; exact hown')
          have OF12 := Lib.hid (own_kp HOF.out kA (fun g hg h => HDIS.out g hg h))
          have K12 := Lib.hid (show Kp (fun k => w.heap.size + 1 ≤ k) w2 w12 from (HK.out.no HKZ.out).tr (kA.mono fun g _ h => (own_ge HOGZ.out h).1))
          have D12 := Lib.hid (show ∀ g, (Value.slice (some ⟨gF, 0, none⟩) N.tr.length cF).ownBlock = some g → v'.ownBlock ≠ some g from fun g hg h => by
            rcases hat with hat | hat
            · rw [hat] at h
              exact HDIS.out g hg h
            · have h1 := (own_ge HOF.out hg).2
              rw [hat] at h
              injection h with h
              simp at h
              omega)
          obtain ⟨a12, c12, rfl, _, _, _⟩ := own_form hown'
          clear hown' hgrow hnil hat kA
          go_wp2_with fail
          go_roundw
          case rel => exact ⟨k + 1, first ++ [can], F, _, _, a12, c12, by omega, by go_num, HFI.out, rfl, OF12.out, rfl, O12.out, D12.out, K12.out⟩
          case measure => simp [intOf]; omega
    · obtain rfl : k = N.tr.length := by omega
      have HLE := Lib.hid HS1.out.fin
      have HLN := Lib.hid HLE.out.1.len
      go_wp2_with fail
      refine bodyPost_ret (v := .tuple #[.slice a N.tr.length c, .slice none 0 0, .int .i64 0]) (by simp [results, Try.results19, go_sem]) rfl ⟨_, first, rfl, HLE.out, by rw [HLN.out]; exact own_mono HOG.out (by omega), ?_⟩
      exact K2.out.trans HK.out fun k hk h => by omega
end Go.Proofs.Ytjjecadfcndkaaa
