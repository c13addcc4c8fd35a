/- Chapter 15: slices.ContainsFunc over combinations. Printed by gen_cc.py. · Chapter 15: compare; the search's closure; Clone. -/
import Derived.Test.YtpkbpeeelpgmcaaXCmAM
namespace Go.Proofs.Ytpkbpeeelpgmcaa
open Go.RowKit Go.Kq

set_option maxHeartbeats 1000000 in
theorem index_cvs {gc : Nat} (A : Option Addr) (n cap : Nat) (vs : List Cv) (p : Cv → Bool) (w : World) (h : Rd Cv.cells 2 w A n vs) (hn : n ≤ 100000000) (hf : ∀ v w', v ∈ vs → Kp No w w' → Calls Try.prog 26 #[Cv.val v, .pointer (some ⟨gc, 0, none⟩)] w' fun e w'' => e = .returned (.bool (p v)) ∧ Kp No w' w'') :
    Calls Try.prog 48 #[.slice A n cap, .func (.func 26) #[] #[.pointer (some ⟨gc, 0, none⟩)]] w fun e w' => e = .returned (.int .i64 (ixI p vs)) ∧ Kp No w w' := by
  have HF := Lib.hid hf
  clear hf
  go_enter Try.func48, Try.ntmps48
  go_wp2_with fail
  go_loopw [8] (fun i wr => ∃ k : Nat, k ≤ n ∧ i = .int .i64 k ∧ (vs.take k).any p = false ∧ Kp No w wr) (fun i _ => n - (intOf i).toNat)
  case atStart => exact ⟨0, by omega, rfl, by simp, Kp.refl _ _⟩
  case round =>
    obtain ⟨k, hk, rfl, hno, hkp⟩ := hrel
    by_cases hlt : k < n
    · obtain ⟨v, hv⟩ : ∃ v, vs[k]? = some v := ⟨_, List.getElem?_eq_getElem (by rw [h.1]; exact hlt)⟩
      obtain ⟨b, o, rfl, hb, hc⟩ := h.2 k v hv
      have c0 := hkp.cell (hc 0 _ rfl) (fun h => h)
      have c1 := hkp.cell (hc 1 _ rfl) (fun h => h)
      simp only [Nat.add_zero] at c0
      have Ht := Lib.hid (any_take_one p vs k v hv)
      have Hno := Lib.hid hno
      have Hv := Lib.hid hv
      have HC := Lib.hid (HF.out v _ (List.mem_of_getElem? hv) hkp)
      have HK := Lib.hid hkp
      clear hno hv hc hkp
      cases hbad : p v
      · rw [hbad] at HC
        have HB := Lib.hid hbad
        clear hbad
        simp only [Cv.val] at HC
        go_wp2_with (go_at_call 26; refine HC.out.mono ?_; rintro e w' ⟨rfl, hkp'⟩)
        go_roundw
        case rel => exact ⟨k + 1, by omega, by go_num, by rw [Ht.out, Hno.out, HB.out]; rfl, HK.out.tr hkp'⟩
        case measure => simp [intOf]; omega
      · rw [hbad] at HC
        have HB := Lib.hid hbad
        clear hbad
        simp only [Cv.val] at HC
        go_wp2_with (go_at_call 26; refine HC.out.mono ?_; rintro e w' ⟨rfl, hkp'⟩)
        go_ret
        exact ⟨by rw [ixI_at Hno.out Hv.out HB.out]; rfl, HK.out.tr hkp'⟩
    · have HK := Lib.hid hkp
      have Hno := Lib.hid hno
      clear hkp hno
      go_wp2
      go_ret
      refine ⟨?_, HK.out⟩
      have hno := Hno.out
      rw [List.take_of_length_le (by rw [h.1]; omega)] at hno
      rw [ixI_none hno]
      rfl
set_option maxHeartbeats 1000000 in
theorem contains_cvs {gc : Nat} (A : Option Addr) (n cap : Nat) (vs : List Cv) (p : Cv → Bool) (w : World) (h : Rd Cv.cells 2 w A n vs) (hn : n ≤ 100000000) (hf : ∀ v w', v ∈ vs → Kp No w w' → Calls Try.prog 26 #[Cv.val v, .pointer (some ⟨gc, 0, none⟩)] w' fun e w'' => e = .returned (.bool (p v)) ∧ Kp No w' w'') :
    Calls Try.prog 25 #[.slice A n cap, .func (.func 26) #[] #[.pointer (some ⟨gc, 0, none⟩)]] w fun e w' => e = .returned (.bool (vs.any p)) ∧ Kp No w w' := by
  have HI := Lib.hid (index_cvs A n cap vs p w h hn hf)
  have HA := Lib.hid (ixI_any p vs)
  clear hf
  generalize ixI p vs = i at HI HA
  go_enter Try.func25, Try.ntmps25
  go_wp2_with (go_at_call 48; refine HI.out.mono ?_; rintro e w' ⟨rfl, hkp⟩)
  go_ret
  exact ⟨by first | rfl | exact ret_bool HA.out, hkp⟩
end Go.Proofs.Ytpkbpeeelpgmcaa

namespace Go.Proofs.Ytpkbpeeelpgmcaa
open Go.RowKit Go.Kq Go.Flow

theorem own_none {w : World} {base e size n c k : Nat} {xs : List Value} (h : w.ownsRow base e size (.slice none n c) k xs) : n = 0 ∧ c = 0 := by
  rcases h.2 with ⟨h0, _⟩ | ⟨g, cap, cur, hv, _⟩
  · cases h0
    exact ⟨rfl, rfl⟩
  · cases hv
theorem grow_two (w : World) (o o' : Obj) : ∃ q os, ((w.alloc o).alloc o') = Sort.grow (w.drewN q) os := ⟨0, _, by rw [Sort.alloc_eq_grow, Sort.alloc_eq_grow, Sort.grow_grow]; rfl⟩
set_option maxHeartbeats 4000000 in
set_option maxRecDepth 100000 in
theorem compare_any (a b : Cv) (w : World) (ha : CvIs w a) (hb : CvIs w b) (h1 : a.p ≤ 100000) (h2 : a.q ≤ 100000) (h3 : b.p ≤ 100000) (h4 : b.q ≤ 100000) :
    Calls Try.prog 24 #[a.val, b.val] w fun e w' => e = .returned (.int .i64 (cmpC a.c b.c)) ∧ ∃ q os, w' = Sort.grow (w.drewN q) os := by
  obtain ⟨P, p, cp, Q, q, cq, ⟨xs, xk⟩⟩ := a
  obtain ⟨P', p', cp', Q', q', cq', ⟨ys, yk⟩⟩ := b
  simp only [Cv.val, CvIs] at *
  have l1 : xs.length = p := by have := ha.1.1; simpa using this
  have l2 : xk.length = q := by have := ha.2.1; simpa using this
  have l3 : ys.length = p' := by have := hb.1.1; simpa using this
  have l4 : yk.length = q' := by have := hb.2.1; simpa using this
  have HC := Lib.hid (show cmpC ⟨xs, xk⟩ ⟨ys, yk⟩ = if (p : Int) + q - p' - q' ≠ 0 then (p : Int) + q - p' - q' else if cmpL xs ys ≠ 0 then cmpL xs ys else cmpL xk yk by rw [← l1, ← l2, ← l3, ← l4]; rfl)
  have HG := Lib.hid (grow_two w (.cells #[.slice P p cp, .slice Q q cq] 30) (.cells #[.slice P' p' cp', .slice Q' q' cq'] 30))
  obtain ⟨w1, hw1⟩ : ∃ w1, (w.alloc (.cells #[.slice P p cp, .slice Q q cq] 30)).alloc (.cells #[.slice P' p' cp', .slice Q' q' cq'] 30) = w1 := ⟨_, rfl⟩
  have k1 : Kp No w w1 := by rw [← hw1]; exact (Kp.alloc _ _ _).tr (Kp.alloc _ _ _)
  have hx : w1.heap[w.heap.size]? = some (.cells #[.slice P p cp, .slice Q q cq] 30 (0, 0)) := by rw [← hw1]; exact (Kp.alloc No _ _).heap (heap_alloc_new w _) id
  have hy : w1.heap[w.heap.size + 1]? = some (.cells #[.slice P' p' cp', .slice Q' q' cq'] 30 (0, 0)) := by
    rw [← hw1]
    have := heap_alloc_new (w.alloc (.cells #[.slice P p cp, .slice Q q cq] 30)) (.cells #[.slice P' p' cp', .slice Q' q' cq'] 30)
    simpa using this
  obtain ⟨x0, x1, _, _⟩ := cell_head hx
  obtain ⟨y0, y1, _, _⟩ := cell_head hy
  have CS := Lib.hid (lcmp_any P P' p cp p' cp' xs ys w1 (ha.1.no k1) (hb.1.no k1) h1 h3)
  have CK := Lib.hid (lcmp_any Q Q' q cq q' cq' xk yk w1 (ha.2.no k1) (hb.2.no k1) h2 h4)
  rw [hw1] at HG
  clear k1 hx hy ha hb l1 l2 l3 l4
  go_enter Try.func24, Try.ntmps24
  by_cases hn : (p : Int) + q - p' - q' = 0
  rotate_left
  · have d0 : ((p : Int) + q - p' - q' != 0) = true := by rw [bne_iff_ne]; exact hn
    have HE := Lib.hid (show cmpC ⟨xs, xk⟩ ⟨ys, yk⟩ = (p : Int) + q - p' - q' by rw [HC.out, if_pos hn])
    clear hn
    go_wp2_with fail
    go_ret
    exact ⟨by rw [HE.out]; rfl, HG.out⟩
  · have HE := Lib.hid (show cmpC ⟨xs, xk⟩ ⟨ys, yk⟩ = if cmpL xs ys ≠ 0 then cmpL xs ys else cmpL xk yk by rw [HC.out, if_neg (fun h => h hn)])
    have d0 : ((p : Int) + q - p' - q' != 0) = false := by rw [bne_eq_false_iff_eq]; exact hn
    clear hn
    by_cases hm : cmpL xs ys = 0
    rotate_left
    · have HF := Lib.hid (show cmpC ⟨xs, xk⟩ ⟨ys, yk⟩ = cmpL xs ys by rw [HE.out, if_pos hm])
      generalize cmpL xs ys = v at *
      have d1 : (v != 0) = true := by rw [bne_iff_ne]; exact hm
      clear hm
      go_wp2_with fail
      with_reducible refine CS.out.mono ?_
      rintro e w2 ⟨rfl, rfl⟩
      go_wp2_with fail
      go_ret
      exact ⟨by rw [HF.out]; rfl, HG.out⟩
    · have HF := Lib.hid (show cmpC ⟨xs, xk⟩ ⟨ys, yk⟩ = cmpL xk yk by rw [HE.out, if_neg (fun h => h hm)])
      rw [hm] at CS
      clear hm
      go_wp2_with fail
      with_reducible refine CS.out.mono ?_
      rintro e w2 ⟨rfl, rfl⟩
      go_wp2_with fail
      with_reducible refine CK.out.mono ?_
      rintro e w3 ⟨rfl, rfl⟩
      go_wp2_with fail
      go_ret
      exact ⟨by rw [HF.out]; rfl, HG.out⟩
/-! ### the search's test -/
set_option maxHeartbeats 4000000 in
set_option maxRecDepth 100000 in
theorem test_any (gc : Nat) (v y : Cv) (w : World) (hv : CvIs w v) (hy : CvIs w y) (hb : w.heap[gc]? = some (.cells y.cells.toArray 30 (0, 0))) (h1 : v.p ≤ 100000) (h2 : v.q ≤ 100000) (h3 : y.p ≤ 100000) (h4 : y.q ≤ 100000) (u1 : y.c.st.Pairwise (· < ·)) (u2 : y.c.ky.Pairwise (· < ·)) :
    Calls Try.prog 26 #[v.val, .pointer (some ⟨gc, 0, none⟩)] w fun e w' => e = .returned (.bool (v.c.inB y.c)) ∧ Kp No w w' := by
  obtain ⟨P, p, cp, Q, q, cq, ⟨xs, xk⟩⟩ := v
  obtain ⟨P', p', cp', Q', q', cq', ⟨ys, yk⟩⟩ := y
  simp only [Cv.val, CvIs, Cv.cells] at *
  have HE := Lib.hid (show Cb.inB ⟨xs, xk⟩ ⟨ys, yk⟩ = (inL xs ys && inL xk yk) from rfl)
  obtain ⟨w1, hw1⟩ : ∃ w1, w.alloc (.cells #[.slice P p cp, .slice Q q cq] 30) = w1 := ⟨_, rfl⟩
  have k1 : Kp No w w1 := by rw [← hw1]; exact Kp.alloc _ _ _
  have hx : w1.heap[w.heap.size]? = some (.cells #[.slice P p cp, .slice Q q cq] 30 (0, 0)) := by rw [← hw1]; exact heap_alloc_new w _
  have HX := Lib.hid hx
  have HY := Lib.hid (k1.heap hb id)
  obtain ⟨x0, x1, _, _⟩ := cell_head hx
  obtain ⟨y0, y1, _, _⟩ := cell_head HY.out
  have WS := Lib.hid (fun W (k : Kp No w1 W) => within_any P P' p cp p' cp' xs ys W ((hv.1.no k1).no k) ((hy.1.no k1).no k) h1 h3 u1)
  have WK := Lib.hid (fun W (k : Kp No w1 W) => within_any Q Q' q cq q' cq' xk yk W ((hv.2.no k1).no k) ((hy.2.no k1).no k) h2 h4 u2)
  have K1 := Lib.hid k1
  clear k1 hx hv hy hb u1 u2
  go_enter Try.func26, Try.ntmps26
  cases hq : inL xs ys with
  | false =>
    rw [hq] at HE WS
    have S0 := Lib.hid (WS.out _ (Kp.refl No w1))
    clear hq
    go_wp2_with fail
    with_reducible refine S0.out.mono ?_
    rintro e w2 ⟨rfl, k2⟩
    go_wp2_with fail
    go_ret
    exact ⟨by rw [HE.out]; rfl, K1.out.tr k2⟩
  | true =>
    rw [hq] at HE WS
    have S0 := Lib.hid (WS.out _ (Kp.refl No w1))
    clear hq
    go_wp2_with fail
    with_reducible refine S0.out.mono ?_
    rintro e w2 ⟨rfl, k2⟩
    have K2 := Lib.hid (WK.out _ k2)
    have KK := Lib.hid (K1.out.tr k2)
    have HX2 := k2.heap HX.out id
    have HY2 := k2.heap HY.out id
    clear x0 x1 y0 y1 k2
    obtain ⟨x0, x1, _, _⟩ := cell_head HX2
    obtain ⟨y0, y1, _, _⟩ := cell_head HY2
    clear HX2 HY2
    go_wp2_with fail
    with_reducible refine K2.out.mono ?_
    rintro e w3 ⟨rfl, k3⟩
    go_wp2_with fail
    go_ret
    exact ⟨by rw [HE.out]; rfl, KK.out.tr k3⟩
/-! ### Clone -/
set_option maxHeartbeats 1000000 in
theorem clone_any (A : Option Addr) (n ca : Nat) (l : List Int) (w : World) (h : RdI .i64 w A n l) (hn : n ≤ 100000) (hA : A = none → n = 0 ∧ ca = 0) :
    Calls Try.prog 30 #[.slice A n ca] w fun e w' => ∃ D d, e = .returned (.slice D n d) ∧ OwI w' w.heap.size (.slice D n d) l ∧ (D = none → n = 0 ∧ d = 0) ∧ Kp No w w' := by
  obtain ⟨i0, hi0, hz0, hz1, hz2⟩ := info_parts infoI0
  have hl := h.1
  have qT : ∀ (w : World) (a : Option Addr) (n c n' c' : Nat), (binOp .eql 23 (.slice a n c) (.slice none n' c')).run Try.prog w = .ok (.bool a.isNone) w := fun w a n c n' c' => Lib.run_eql_slice_nil w _ _ a n c n' c' Try.underlying23
  cases A with
  | none =>
    obtain ⟨rfl, rfl⟩ := hA rfl
    have hl0 := List.length_eq_zero_iff.1 hl
    subst hl0
    clear hl h
    go_enter Try.func30, Try.ntmps30
    go_wp2
    go_ret
    exact ⟨none, 0, rfl, ⟨rfl, .inl ⟨rfl, rfl⟩⟩, by simp, Kp.refl _ _⟩
  | some ad =>
    have hy := h.no (Kp.alloc No w (.cells #[] 3))
    have HL := Lib.hid hl
    go_enter Try.func30, Try.ntmps30
    go_wp2_with (at_builtin; refine stop_in ?_)
    refine stop_out ?_
    refine push_all rfl _ _ rfl w.heap.size (some ⟨w.heap.size, 0, none⟩) (some ad) 0 0 n ca [] l rfl rfl rfl HL.out (own_empty (Nat.le_refl _)) (fun h => by cases h) hy (by omega) (by omega) (Kp.alloc No w _) (Nat.le_refl _) (by simp) ?_
    intro D d w' hown hk
    rw [Nat.zero_add]
    go_wp2_with fail
    go_ret
    rw [Nat.zero_add, List.nil_append] at hown
    exact ⟨D, d, rfl, hown, fun e => by subst e; exact own_none hown, hk⟩
end Go.Proofs.Ytpkbpeeelpgmcaa
