/- Spans of fractions: bad, two, Add, Sub, Mul: walks. · Spans of fractions: two, Add, Sub, Mul: walks. Printed by gen_ntv.py. · Spans of fractions: what Add, Sub, Mul give, over whole numbers: plain. -/
import Derived.Test.YtlieijnhaolnhaaGreatXNtt
namespace Go.Proofs.YtlieijnhaolnhaaGreat
open Go.RowKit Go.Kq

theorem fits_in62 (z : Int) : fits z = in62 z := by
  unfold fits in62 M62
  rw [Bool.eq_iff_iff]
  simp
set_option maxHeartbeats 4000000 in
theorem bad03_any (l : List (Int × Int)) (g n c : Nat) (w : World) (hl : l.length = n) (hn : n ≤ 1000)
    (hc : ∀ (k : Nat) x, l[k]? = some x → w.cell? ⟨g, k * 2, none⟩ = some (.int .i64 x.1) ∧ w.cell? ⟨g, k * 2 + 1, none⟩ = some (.int .i64 x.2)) :
    Calls Tryz.prog 80 #[.slice (some ⟨g, 0, none⟩) n c] w fun e w' => e = .returned (.int .i64 (ckE l)) ∧ Kp No w w' := by
  have HC := Lib.hid hc
  clear hc
  have hnI : (n : Int) ≤ 1000 := by omega
  obtain ⟨E, hE⟩ : ∃ E, ckE l = E := ⟨_, rfl⟩
  rw [hE]
  have HE := Lib.hid hE
  clear hE
  go_enter Tryz.func80, Tryz.ntmps80
  go_wp2_with fail
  go_loop [3] (fun i => ∃ k : Nat, k ≤ n ∧ i = .int .i64 k ∧ (∀ x ∈ l.take k, fits x.1 = true ∧ fits x.2 = true)) (fun i => n - (intOf i).toNat)
  case atStart => exact ⟨0, by omega, rfl, by simp⟩
  case round =>
    obtain ⟨k, hk, rfl, hall⟩ := hrel
    by_cases hkn : k < n
    · obtain ⟨x, hx⟩ : ∃ x, l[k]? = some x := ⟨l[k], List.getElem?_eq_getElem (by omega)⟩
      have c0 := (HC.out k x hx).1
      have c1 := (HC.out k x hx).2
      have hkI : (k : Int) < n := by omega
      have hw1 : IntKind.i64.wrap ((k : Int) + 1) = (k : Int) + 1 := by rw [IntKind.wrap_i64]; omega
      have HA := Lib.hid hall
      have HX := Lib.hid hx
      clear hall hx
      have BAD : ¬ (fits x.1 = true ∧ fits x.2 = true) → E = 7 := fun h => by
        rw [← HE.out]
        unfold ckE
        rw [if_neg]
        intro h2
        exact h (h2 x (mem_take HX.out))
      replace BAD := Lib.hid BAD
      by_cases a1 : x.1 < -4611686018427387904
      · obtain rfl := BAD.out (fun h => by have := fits_bounds h.1; omega)
        go_wp2_with fail
        go_ret
        exact ⟨rfl, Kp.refl _ _⟩
      · by_cases a2 : 4611686018427387904 < x.1
        · obtain rfl := BAD.out (fun h => by have := fits_bounds h.1; omega)
          go_wp2_with fail
          go_ret
          exact ⟨rfl, Kp.refl _ _⟩
        · by_cases a3 : x.2 < -4611686018427387904
          · obtain rfl := BAD.out (fun h => by have := fits_bounds h.2; omega)
            go_wp2_with fail
            go_ret
            exact ⟨rfl, Kp.refl _ _⟩
          · by_cases a4 : 4611686018427387904 < x.2
            · obtain rfl := BAD.out (fun h => by have := fits_bounds h.2; omega)
              go_wp2_with fail
              go_ret
              exact ⟨rfl, Kp.refl _ _⟩
            · have HN := Lib.hid (all_take HA.out HX.out (by rw [fits_in62, fits_in62]; unfold in62; constructor <;> (rw [decide_eq_true_eq]; omega)))
              go_wp2_with fail
              go_round
              case rel => exact ⟨k + 1, by omega, by go_num, HN.out⟩
              case measure => simp [intOf] <;> omega
    · obtain rfl : k = n := by omega
      have hkk : ¬ ((k : Int) < (k : Int)) := by omega
      have HF := Lib.hid (show ∀ x ∈ l, fits x.1 = true ∧ fits x.2 = true by rwa [List.take_of_length_le (by omega)] at hall)
      clear hall
      go_wp2_with fail
      go_loopw [4] (fun i wr => ∃ j : Nat, j ≤ k ∧ i = .int .i64 j ∧ (∀ x ∈ l.take j, x.1 ≤ x.2) ∧ Kp No w wr) (fun i _ => k - (intOf i).toNat)
      case atStart => exact ⟨0, by omega, rfl, by simp, Kp.refl _ _⟩
      case round =>
        obtain ⟨j, hj, rfl, hall, hkp⟩ := hrel
        have KP := Lib.hid hkp
        by_cases hjn : j < k
        · obtain ⟨x, hx⟩ : ∃ x, l[j]? = some x := ⟨l[j], List.getElem?_eq_getElem (by omega)⟩
          have c0 := hkp.cell (HC.out j x hx).1 id
          have c1 := hkp.cell (HC.out j x hx).2 id
          have hkI : (j : Int) < k := by omega
          have hj0 : (0 : Int) ≤ (j : Int) := by omega
          have hw1 : IntKind.i64.wrap ((j : Int) + 1) = (j : Int) + 1 := by rw [IntKind.wrap_i64]; omega
          have HA := Lib.hid hall
          have HX := Lib.hid hx
          clear hall hx hkp
          by_cases a1 : x.2 < x.1
          · obtain rfl : E = 2 := by
              rw [← HE.out]
              unfold ckE
              rw [if_pos HF.out, if_neg]
              intro h2
              have := h2 x (mem_take HX.out)
              omega
            go_wp2_with fail
            go_quiet (fail)
            have KN := Lib.hid (KP.out.tr (Kp.drewN No wr nq))
            go_wp2_with fail
            go_ret
            exact ⟨rfl, KN.out⟩
          · have HN := Lib.hid (all_take (p := fun x : Int × Int => x.1 ≤ x.2) HA.out HX.out (by omega))
            go_wp2_with fail
            go_quiet (fail)
            have KN := Lib.hid (KP.out.tr (Kp.drewN No wr nq))
            go_wp2_with fail
            go_round
            case rel => exact ⟨j + 1, by omega, by go_num, HN.out, KN.out⟩
            case measure => simp [intOf] <;> omega
        · obtain rfl : j = k := by omega
          obtain rfl : E = 0 := by
            rw [← HE.out]
            unfold ckE
            rw [if_pos HF.out, if_pos]
            rwa [List.take_of_length_le (by omega)] at hall
          clear hall hkp
          go_wp2_with fail
          go_ret
          exact ⟨rfl, KP.out⟩
end Go.Proofs.YtlieijnhaolnhaaGreat

namespace Go.Proofs.YtlieijnhaolnhaaGreat
open Go.RowKit Go.Kq

theorem QAtK.le {K K' : Nat} {w : World} {b : Nat} {qs : List Rat} (h : QAtK K w b qs) (hK : K ≤ K') : QAtK K' w b qs := fun i q hq => by
  obtain ⟨n, d, h1, h2, h3, h4⟩ := h i q hq
  exact ⟨n, d, h1, h2, h3, h4.le hK⟩
theorem ck_twoQ {a b : Int × Int} (h : ckE [a, b] = 0) : (in62 a.1 = true ∧ in62 a.2 = true) ∧ (in62 b.1 = true ∧ in62 b.2 = true) := by
  have h1 := ck_fits h a (by simp)
  have h2 := ck_fits h b (by simp)
  simp only [fits_in62] at h1 h2
  exact ⟨h1, h2⟩
def twoE (W : Nat) (a b : Int × Int) : Int × Int × Int := if ckE [a, b] = 0 then spanL (cornL W a b) else (0, 0, ckE [a, b])
theorem bad03_two (a b : Int × Int) (g : Nat) (t : TypeId) (w : World) (hh : w.heap[g]? = some (.cells #[.int .i64 a.1, .int .i64 a.2, .int .i64 b.1, .int .i64 b.2] t (0, 0))) :
    Calls Tryz.prog 80 #[.slice (some ⟨g, 0, none⟩) 2 2] w fun e w' => e = .returned (.int .i64 (ckE [a, b])) ∧ Kp No w w' := by
  refine bad03_any [a, b] g 2 2 w rfl (by omega) fun k x hx => ?_
  match k, hx with
  | 0, hx => simp at hx; subst hx; exact ⟨by rw [cell_of_row _ _ _ _ _ _ hh]; rfl, by rw [cell_of_row _ _ _ _ _ _ hh]; rfl⟩
  | 1, hx => simp at hx; subst hx; exact ⟨by rw [cell_of_row _ _ _ _ _ _ hh]; rfl, by rw [cell_of_row _ _ _ _ _ _ hh]; rfl⟩
  | k + 2, hx => simp at hx

set_option maxHeartbeats 1000000 in
set_option maxRecDepth 100000 in
theorem two0_is (a b : Int × Int) (w : World) :
    Calls Tryz.prog 60 #[ivV a.1 a.2, ivV b.1 b.2, .int .i64 0] w fun e w' => e = .returned (ieV (twoE 0 a b)) ∧ Kp No w w' := by
  have BD := Lib.hid (fun (g : Nat) (w0 : World) hh => bad03_two a b g 25 w0 hh)
  have CO := Lib.hid (fun (h : ckE [a, b] = 0) w0 => corners0_is a b w0 (ck_twoQ h).1 (ck_twoQ h).2)
  have SP := Lib.hid (fun (g c : Nat) w0 hq => span_is g 4 c (cornL 0 a b) w0 rfl (by omega) hq)
  unfold twoE
  obtain ⟨al, ah⟩ := a
  obtain ⟨bl, bh⟩ := b
  simp only [ivV] at *
  generalize cornL 0 (al, ah) (bl, bh) = L at *
  generalize ckE [(al, ah), (bl, bh)] = E at *
  obtain ⟨h1, h2, h3, h4, KA⟩ := four_new w (.cells #[.int .i64 al, .int .i64 ah] 25) (.cells #[.int .i64 bl, .int .i64 bh] 25) (.cells #[.int .i64 0, .int .i64 0] 25) (.cells #[.int .i64 al, .int .i64 ah, .int .i64 bl, .int .i64 bh] 25)
  replace h1 := Lib.hid h1
  replace h2 := Lib.hid h2
  replace h3 := Lib.hid h3
  replace h4 := Lib.hid h4
  replace KA := Lib.hid KA
  by_cases h0 : E = 0
  · rw [if_pos h0]
    have CO2 := Lib.hid (CO.out h0)
    subst h0
    obtain ⟨⟨x1, x2, x3⟩, hsp⟩ : ∃ x, spanL L = x := ⟨_, rfl⟩
    rw [hsp] at SP ⊢
    simp only [ieV, ivV] at SP ⊢
    clear hsp CO
    go_enter Tryz.func60, Tryz.ntmps60
    go_wp2_with fail
    refine (BD.out _ _ h4.out).mono ?_
    rintro _ wb ⟨rfl, kb⟩
    have KB := Lib.hid (KA.out.tr kb)
    obtain ⟨a0, a1, _, _⟩ := two_cells (kb.heap h1.out id)
    obtain ⟨b0, b1, _, _⟩ := two_cells (kb.heap h2.out id)
    have H3 := Lib.hid (kb.heap h3.out id)
    clear kb h1 h2 h3 h4 BD KA
    go_wp2_with fail
    refine (CO2.out _).mono ?_
    rintro _ wc ⟨g, c, rfl, hq, kc⟩
    have SP2 := Lib.hid (SP.out g c wc (hq.le (by omega)))
    have KC := Lib.hid (KB.out.tr kc)
    have H4 := Lib.hid (kc.heap H3.out id)
    clear hq kc a0 a1 b0 b1 SP
    go_wp2_with fail
    refine SP2.out.mono ?_
    rintro _ wd ⟨rfl, kd⟩
    have KD := Lib.hid (KC.out.tr kd)
    have hr := kd.heap H4.out id
    obtain ⟨r0, r1, z0, z1⟩ := two_cells hr
    clear kd
    replace hr := Lib.hid hr
    go_wp2_with fail
    have hs := setI_at hr.out (.int .i64 x1) (.int .i64 x2)
    obtain ⟨v0, v1, _, _⟩ := two_cells hs
    exact bodyPost_ret (v := .tuple #[.agg #[.int .i64 x1, .int .i64 x2], .int .i64 x3]) (by simp [results, Tryz.results60, go_sem, v0, v1]) rfl ⟨rfl, kp_set2 KD.out (by omega)⟩
  · rw [if_neg h0]
    have he : (E != 0) = true := bne_iff_ne.2 h0
    simp only [ieV, ivV]
    clear CO SP h0
    go_enter Tryz.func60, Tryz.ntmps60
    go_wp2_with fail
    refine (BD.out _ _ h4.out).mono ?_
    rintro _ wb ⟨rfl, kb⟩
    have KB := Lib.hid (KA.out.tr kb)
    have hr := kb.heap h3.out id
    obtain ⟨r0, r1, z0, z1⟩ := two_cells hr
    clear kb
    replace hr := Lib.hid hr
    go_wp2_with fail
    have hs := setI_at hr.out (.int .i64 0) (.int .i64 0)
    obtain ⟨v0, v1, _, _⟩ := two_cells hs
    exact bodyPost_ret (v := .tuple #[.agg #[.int .i64 0, .int .i64 0], .int .i64 E]) (by simp [results, Tryz.results60, go_sem, v0, v1]) rfl ⟨rfl, kp_set2 KB.out (by omega)⟩
set_option maxHeartbeats 1000000 in
theorem Add03_is (a b : Int × Int) (w : World) :
    Calls Tryz.prog 22 #[ivV a.1 a.2, ivV b.1 b.2] w fun e w' => e = .returned (ieV (twoE 0 a b)) ∧ Kp No w w' := by
  have TW := Lib.hid (fun w0 => two0_is a b w0)
  obtain ⟨⟨x1, x2, x3⟩, hx⟩ : ∃ x, twoE 0 a b = x := ⟨_, rfl⟩
  rw [hx] at TW ⊢
  obtain ⟨al, ah⟩ := a
  obtain ⟨bl, bh⟩ := b
  simp only [ieV, ivV] at TW ⊢
  obtain ⟨h1, h2, h3, KA⟩ := three_new w (.cells #[.int .i64 al, .int .i64 ah] 25) (.cells #[.int .i64 bl, .int .i64 bh] 25) (.cells #[.int .i64 0, .int .i64 0] 25)
  replace h3 := Lib.hid h3
  replace KA := Lib.hid KA
  clear hx h1 h2
  go_enter Tryz.func22, Tryz.ntmps22
  go_wp2_with fail
  refine (TW.out _).mono ?_
  rintro _ wb ⟨rfl, kb⟩
  have KB := Lib.hid (KA.out.tr kb)
  have hr := kb.heap h3.out id
  obtain ⟨r0, r1, z0, z1⟩ := two_cells hr
  clear kb
  replace hr := Lib.hid hr
  go_wp2_with fail
  have hs := setI_at hr.out (.int .i64 x1) (.int .i64 x2)
  obtain ⟨v0, v1, _, _⟩ := two_cells hs
  exact bodyPost_ret (v := .tuple #[.agg #[.int .i64 x1, .int .i64 x2], .int .i64 x3]) (by simp [results, Tryz.results22, go_sem, v0, v1]) rfl ⟨rfl, kp_set2 KB.out (by omega)⟩

set_option maxHeartbeats 1000000 in
set_option maxRecDepth 100000 in
theorem two1_is (a b : Int × Int) (w : World) :
    Calls Tryz.prog 60 #[ivV a.1 a.2, ivV b.1 b.2, .int .i64 1] w fun e w' => e = .returned (ieV (twoE 1 a b)) ∧ Kp No w w' := by
  have BD := Lib.hid (fun (g : Nat) (w0 : World) hh => bad03_two a b g 25 w0 hh)
  have CO := Lib.hid (fun (h : ckE [a, b] = 0) w0 => corners1_is a b w0 (ck_twoQ h).1 (ck_twoQ h).2)
  have SP := Lib.hid (fun (g c : Nat) w0 hq => span_is g 4 c (cornL 1 a b) w0 rfl (by omega) hq)
  unfold twoE
  obtain ⟨al, ah⟩ := a
  obtain ⟨bl, bh⟩ := b
  simp only [ivV] at *
  generalize cornL 1 (al, ah) (bl, bh) = L at *
  generalize ckE [(al, ah), (bl, bh)] = E at *
  obtain ⟨h1, h2, h3, h4, KA⟩ := four_new w (.cells #[.int .i64 al, .int .i64 ah] 25) (.cells #[.int .i64 bl, .int .i64 bh] 25) (.cells #[.int .i64 0, .int .i64 0] 25) (.cells #[.int .i64 al, .int .i64 ah, .int .i64 bl, .int .i64 bh] 25)
  replace h1 := Lib.hid h1
  replace h2 := Lib.hid h2
  replace h3 := Lib.hid h3
  replace h4 := Lib.hid h4
  replace KA := Lib.hid KA
  by_cases h0 : E = 0
  · rw [if_pos h0]
    have CO2 := Lib.hid (CO.out h0)
    subst h0
    obtain ⟨⟨x1, x2, x3⟩, hsp⟩ : ∃ x, spanL L = x := ⟨_, rfl⟩
    rw [hsp] at SP ⊢
    simp only [ieV, ivV] at SP ⊢
    clear hsp CO
    go_enter Tryz.func60, Tryz.ntmps60
    go_wp2_with fail
    refine (BD.out _ _ h4.out).mono ?_
    rintro _ wb ⟨rfl, kb⟩
    have KB := Lib.hid (KA.out.tr kb)
    obtain ⟨a0, a1, _, _⟩ := two_cells (kb.heap h1.out id)
    obtain ⟨b0, b1, _, _⟩ := two_cells (kb.heap h2.out id)
    have H3 := Lib.hid (kb.heap h3.out id)
    clear kb h1 h2 h3 h4 BD KA
    go_wp2_with fail
    refine (CO2.out _).mono ?_
    rintro _ wc ⟨g, c, rfl, hq, kc⟩
    have SP2 := Lib.hid (SP.out g c wc (hq.le (by omega)))
    have KC := Lib.hid (KB.out.tr kc)
    have H4 := Lib.hid (kc.heap H3.out id)
    clear hq kc a0 a1 b0 b1 SP
    go_wp2_with fail
    refine SP2.out.mono ?_
    rintro _ wd ⟨rfl, kd⟩
    have KD := Lib.hid (KC.out.tr kd)
    have hr := kd.heap H4.out id
    obtain ⟨r0, r1, z0, z1⟩ := two_cells hr
    clear kd
    replace hr := Lib.hid hr
    go_wp2_with fail
    have hs := setI_at hr.out (.int .i64 x1) (.int .i64 x2)
    obtain ⟨v0, v1, _, _⟩ := two_cells hs
    exact bodyPost_ret (v := .tuple #[.agg #[.int .i64 x1, .int .i64 x2], .int .i64 x3]) (by simp [results, Tryz.results60, go_sem, v0, v1]) rfl ⟨rfl, kp_set2 KD.out (by omega)⟩
  · rw [if_neg h0]
    have he : (E != 0) = true := bne_iff_ne.2 h0
    simp only [ieV, ivV]
    clear CO SP h0
    go_enter Tryz.func60, Tryz.ntmps60
    go_wp2_with fail
    refine (BD.out _ _ h4.out).mono ?_
    rintro _ wb ⟨rfl, kb⟩
    have KB := Lib.hid (KA.out.tr kb)
    have hr := kb.heap h3.out id
    obtain ⟨r0, r1, z0, z1⟩ := two_cells hr
    clear kb
    replace hr := Lib.hid hr
    go_wp2_with fail
    have hs := setI_at hr.out (.int .i64 0) (.int .i64 0)
    obtain ⟨v0, v1, _, _⟩ := two_cells hs
    exact bodyPost_ret (v := .tuple #[.agg #[.int .i64 0, .int .i64 0], .int .i64 E]) (by simp [results, Tryz.results60, go_sem, v0, v1]) rfl ⟨rfl, kp_set2 KB.out (by omega)⟩
set_option maxHeartbeats 1000000 in
theorem Sub03_is (a b : Int × Int) (w : World) :
    Calls Tryz.prog 35 #[ivV a.1 a.2, ivV b.1 b.2] w fun e w' => e = .returned (ieV (twoE 1 a b)) ∧ Kp No w w' := by
  have TW := Lib.hid (fun w0 => two1_is a b w0)
  obtain ⟨⟨x1, x2, x3⟩, hx⟩ : ∃ x, twoE 1 a b = x := ⟨_, rfl⟩
  rw [hx] at TW ⊢
  obtain ⟨al, ah⟩ := a
  obtain ⟨bl, bh⟩ := b
  simp only [ieV, ivV] at TW ⊢
  obtain ⟨h1, h2, h3, KA⟩ := three_new w (.cells #[.int .i64 al, .int .i64 ah] 25) (.cells #[.int .i64 bl, .int .i64 bh] 25) (.cells #[.int .i64 0, .int .i64 0] 25)
  replace h3 := Lib.hid h3
  replace KA := Lib.hid KA
  clear hx h1 h2
  go_enter Tryz.func35, Tryz.ntmps35
  go_wp2_with fail
  refine (TW.out _).mono ?_
  rintro _ wb ⟨rfl, kb⟩
  have KB := Lib.hid (KA.out.tr kb)
  have hr := kb.heap h3.out id
  obtain ⟨r0, r1, z0, z1⟩ := two_cells hr
  clear kb
  replace hr := Lib.hid hr
  go_wp2_with fail
  have hs := setI_at hr.out (.int .i64 x1) (.int .i64 x2)
  obtain ⟨v0, v1, _, _⟩ := two_cells hs
  exact bodyPost_ret (v := .tuple #[.agg #[.int .i64 x1, .int .i64 x2], .int .i64 x3]) (by simp [results, Tryz.results35, go_sem, v0, v1]) rfl ⟨rfl, kp_set2 KB.out (by omega)⟩

set_option maxHeartbeats 1000000 in
set_option maxRecDepth 100000 in
theorem two2_is (a b : Int × Int) (w : World) :
    Calls Tryz.prog 60 #[ivV a.1 a.2, ivV b.1 b.2, .int .i64 2] w fun e w' => e = .returned (ieV (twoE 2 a b)) ∧ Kp No w w' := by
  have BD := Lib.hid (fun (g : Nat) (w0 : World) hh => bad03_two a b g 25 w0 hh)
  have CO := Lib.hid (fun (h : ckE [a, b] = 0) w0 => corners2_is a b w0 (ck_twoQ h).1 (ck_twoQ h).2)
  have SP := Lib.hid (fun (g c : Nat) w0 hq => span_is g 4 c (cornL 2 a b) w0 rfl (by omega) hq)
  unfold twoE
  obtain ⟨al, ah⟩ := a
  obtain ⟨bl, bh⟩ := b
  simp only [ivV] at *
  generalize cornL 2 (al, ah) (bl, bh) = L at *
  generalize ckE [(al, ah), (bl, bh)] = E at *
  obtain ⟨h1, h2, h3, h4, KA⟩ := four_new w (.cells #[.int .i64 al, .int .i64 ah] 25) (.cells #[.int .i64 bl, .int .i64 bh] 25) (.cells #[.int .i64 0, .int .i64 0] 25) (.cells #[.int .i64 al, .int .i64 ah, .int .i64 bl, .int .i64 bh] 25)
  replace h1 := Lib.hid h1
  replace h2 := Lib.hid h2
  replace h3 := Lib.hid h3
  replace h4 := Lib.hid h4
  replace KA := Lib.hid KA
  by_cases h0 : E = 0
  · rw [if_pos h0]
    have CO2 := Lib.hid (CO.out h0)
    subst h0
    obtain ⟨⟨x1, x2, x3⟩, hsp⟩ : ∃ x, spanL L = x := ⟨_, rfl⟩
    rw [hsp] at SP ⊢
    simp only [ieV, ivV] at SP ⊢
    clear hsp CO
    go_enter Tryz.func60, Tryz.ntmps60
    go_wp2_with fail
    refine (BD.out _ _ h4.out).mono ?_
    rintro _ wb ⟨rfl, kb⟩
    have KB := Lib.hid (KA.out.tr kb)
    obtain ⟨a0, a1, _, _⟩ := two_cells (kb.heap h1.out id)
    obtain ⟨b0, b1, _, _⟩ := two_cells (kb.heap h2.out id)
    have H3 := Lib.hid (kb.heap h3.out id)
    clear kb h1 h2 h3 h4 BD KA
    go_wp2_with fail
    refine (CO2.out _).mono ?_
    rintro _ wc ⟨g, c, rfl, hq, kc⟩
    have SP2 := Lib.hid (SP.out g c wc (hq.le (by omega)))
    have KC := Lib.hid (KB.out.tr kc)
    have H4 := Lib.hid (kc.heap H3.out id)
    clear hq kc a0 a1 b0 b1 SP
    go_wp2_with fail
    refine SP2.out.mono ?_
    rintro _ wd ⟨rfl, kd⟩
    have KD := Lib.hid (KC.out.tr kd)
    have hr := kd.heap H4.out id
    obtain ⟨r0, r1, z0, z1⟩ := two_cells hr
    clear kd
    replace hr := Lib.hid hr
    go_wp2_with fail
    have hs := setI_at hr.out (.int .i64 x1) (.int .i64 x2)
    obtain ⟨v0, v1, _, _⟩ := two_cells hs
    exact bodyPost_ret (v := .tuple #[.agg #[.int .i64 x1, .int .i64 x2], .int .i64 x3]) (by simp [results, Tryz.results60, go_sem, v0, v1]) rfl ⟨rfl, kp_set2 KD.out (by omega)⟩
  · rw [if_neg h0]
    have he : (E != 0) = true := bne_iff_ne.2 h0
    simp only [ieV, ivV]
    clear CO SP h0
    go_enter Tryz.func60, Tryz.ntmps60
    go_wp2_with fail
    refine (BD.out _ _ h4.out).mono ?_
    rintro _ wb ⟨rfl, kb⟩
    have KB := Lib.hid (KA.out.tr kb)
    have hr := kb.heap h3.out id
    obtain ⟨r0, r1, z0, z1⟩ := two_cells hr
    clear kb
    replace hr := Lib.hid hr
    go_wp2_with fail
    have hs := setI_at hr.out (.int .i64 0) (.int .i64 0)
    obtain ⟨v0, v1, _, _⟩ := two_cells hs
    exact bodyPost_ret (v := .tuple #[.agg #[.int .i64 0, .int .i64 0], .int .i64 E]) (by simp [results, Tryz.results60, go_sem, v0, v1]) rfl ⟨rfl, kp_set2 KB.out (by omega)⟩
set_option maxHeartbeats 1000000 in
theorem Mul03_is (a b : Int × Int) (w : World) :
    Calls Tryz.prog 34 #[ivV a.1 a.2, ivV b.1 b.2] w fun e w' => e = .returned (ieV (twoE 2 a b)) ∧ Kp No w w' := by
  have TW := Lib.hid (fun w0 => two2_is a b w0)
  obtain ⟨⟨x1, x2, x3⟩, hx⟩ : ∃ x, twoE 2 a b = x := ⟨_, rfl⟩
  rw [hx] at TW ⊢
  obtain ⟨al, ah⟩ := a
  obtain ⟨bl, bh⟩ := b
  simp only [ieV, ivV] at TW ⊢
  obtain ⟨h1, h2, h3, KA⟩ := three_new w (.cells #[.int .i64 al, .int .i64 ah] 25) (.cells #[.int .i64 bl, .int .i64 bh] 25) (.cells #[.int .i64 0, .int .i64 0] 25)
  replace h3 := Lib.hid h3
  replace KA := Lib.hid KA
  clear hx h1 h2
  go_enter Tryz.func34, Tryz.ntmps34
  go_wp2_with fail
  refine (TW.out _).mono ?_
  rintro _ wb ⟨rfl, kb⟩
  have KB := Lib.hid (KA.out.tr kb)
  have hr := kb.heap h3.out id
  obtain ⟨r0, r1, z0, z1⟩ := two_cells hr
  clear kb
  replace hr := Lib.hid hr
  go_wp2_with fail
  have hs := setI_at hr.out (.int .i64 x1) (.int .i64 x2)
  obtain ⟨v0, v1, _, _⟩ := two_cells hs
  exact bodyPost_ret (v := .tuple #[.agg #[.int .i64 x1, .int .i64 x2], .int .i64 x3]) (by simp [results, Tryz.results34, go_sem, v0, v1]) rfl ⟨rfl, kp_set2 KB.out (by omega)⟩

end Go.Proofs.YtlieijnhaolnhaaGreat

namespace Go.Proofs.YtlieijnhaolnhaaGreat
open Go.RowKit Go.Kq

theorem lowQ_spec : ∀ (l : List Rat) (x : Rat), lowQ x l ≤ x ∧ (∀ y ∈ l, lowQ x l ≤ y) ∧ (lowQ x l = x ∨ lowQ x l ∈ l)
  | [], x => ⟨Rat.le_refl, fun y hy => by simp at hy, .inl rfl⟩
  | y :: l, x => by
    have e : lowQ x (y :: l) = lowQ (if y < x then y else x) l := rfl
    obtain ⟨h1, h2, h3⟩ := lowQ_spec l (if y < x then y else x)
    rw [e]
    by_cases h : y < x
    · rw [if_pos h] at h1 h2 h3 ⊢
      refine ⟨Rat.le_trans h1 (Rat.le_of_lt h), fun z hz => ?_, ?_⟩
      · rcases List.mem_cons.1 hz with rfl | hz
        · exact h1
        · exact h2 z hz
      · rcases h3 with h3 | h3
        · exact .inr (by rw [h3]; simp)
        · exact .inr (List.mem_cons_of_mem _ h3)
    · rw [if_neg h] at h1 h2 h3 ⊢
      refine ⟨h1, fun z hz => ?_, ?_⟩
      · rcases List.mem_cons.1 hz with rfl | hz
        · exact Rat.le_trans h1 (Rat.not_lt.1 h)
        · exact h2 z hz
      · rcases h3 with h3 | h3
        · exact .inl h3
        · exact .inr (List.mem_cons_of_mem _ h3)
theorem highQ_spec : ∀ (l : List Rat) (x : Rat), x ≤ highQ x l ∧ (∀ y ∈ l, y ≤ highQ x l) ∧ (highQ x l = x ∨ highQ x l ∈ l)
  | [], x => ⟨Rat.le_refl, fun y hy => by simp at hy, .inl rfl⟩
  | y :: l, x => by
    have e : highQ x (y :: l) = highQ (if x < y then y else x) l := rfl
    obtain ⟨h1, h2, h3⟩ := highQ_spec l (if x < y then y else x)
    rw [e]
    by_cases h : x < y
    · rw [if_pos h] at h1 h2 h3 ⊢
      refine ⟨Rat.le_trans (Rat.le_of_lt h) h1, fun z hz => ?_, ?_⟩
      · rcases List.mem_cons.1 hz with rfl | hz
        · exact h1
        · exact h2 z hz
      · rcases h3 with h3 | h3
        · exact .inr (by rw [h3]; simp)
        · exact .inr (List.mem_cons_of_mem _ h3)
    · rw [if_neg h] at h1 h2 h3 ⊢
      refine ⟨h1, fun z hz => ?_, ?_⟩
      · rcases List.mem_cons.1 hz with rfl | hz
        · exact Rat.le_trans (Rat.not_lt.1 h) h1
        · exact h2 z hz
      · rcases h3 with h3 | h3
        · exact .inl h3
        · exact .inr (List.mem_cons_of_mem _ h3)
/-- The span of a list whose least and greatest numbers are known. -/
theorem spanL_of {L : List Rat} {lo hi : Rat} (hlo : lo ∈ L) (h1 : ∀ y ∈ L, lo ≤ y) (hhi : hi ∈ L) (h2 : ∀ y ∈ L, y ≤ hi) : spanL L = spanE lo.floor hi.ceil := by
  match L, hlo with
  | x :: l, hlo =>
    have e1 : lowQ x (x :: l) = lo := by
      obtain ⟨a1, a2, a3⟩ := lowQ_spec (x :: l) x
      have hm : lowQ x (x :: l) ∈ x :: l := by
        rcases a3 with a3 | a3
        · rw [a3]; simp
        · exact a3
      exact Rat.le_antisymm (a2 lo hlo) (h1 _ hm)
    have e2 : highQ x (x :: l) = hi := by
      obtain ⟨a1, a2, a3⟩ := highQ_spec (x :: l) x
      have hm : highQ x (x :: l) ∈ x :: l := by
        rcases a3 with a3 | a3
        · rw [a3]; simp
        · exact a3
      exact Rat.le_antisymm (h2 _ hm) (a2 hi hhi)
    show spanE (lowQ x (x :: l)).floor (highQ x (x :: l)).ceil = _
    rw [e1, e2]
def opI : Nat → Int → Int → Int
  | 0, a, b => a + b
  | 1, a, b => a - b
  | _, a, b => a * b
theorem opQ_cast (W : Nat) (x y : Int) : opQ W (x : Rat) (y : Rat) = ((opI W x y : Int) : Rat) := by
  match W with
  | 0 => exact (Rat.intCast_add x y).symm
  | 1 => exact (Rat.intCast_sub x y).symm
  | W + 2 => exact (Rat.intCast_mul x y).symm
def cornI (W : Nat) (a b : Int × Int) : List Int := [opI W a.1 b.1, opI W a.1 b.2, opI W a.2 b.1, opI W a.2 b.2]
theorem corn_cast (W : Nat) (a b : Int × Int) : cornL W a b = (cornI W a b).map fun z : Int => (z : Rat) := by
  unfold cornL cornI
  simp only [opQ_cast, List.map_cons, List.map_nil]
theorem spanL_ints {W : Nat} {a b : Int × Int} {lo hi : Int} (hlo : lo ∈ cornI W a b) (h1 : ∀ y ∈ cornI W a b, lo ≤ y) (hhi : hi ∈ cornI W a b) (h2 : ∀ y ∈ cornI W a b, y ≤ hi) : spanL (cornL W a b) = spanE lo hi := by
  rw [corn_cast]
  have := spanL_of (L := (cornI W a b).map fun z : Int => (z : Rat)) (lo := (lo : Rat)) (hi := (hi : Rat)) (List.mem_map_of_mem hlo) (fun y hy => by
    obtain ⟨z, hz, rfl⟩ := List.mem_map.1 hy
    exact Rat.intCast_le_intCast.2 (h1 z hz)) (List.mem_map_of_mem hhi) (fun y hy => by
    obtain ⟨z, hz, rfl⟩ := List.mem_map.1 hy
    exact Rat.intCast_le_intCast.2 (h2 z hz))
  rw [this, Rat.floor_intCast, Rat.ceil_intCast]
theorem spanE_fitE (lo hi : Int) : spanE lo hi = fitE lo hi := by
  unfold spanE fitE
  rw [fits_in62, fits_in62]
theorem add_two (a b : Int × Int) : twoE 0 a b = addE a b := by
  unfold twoE addE
  by_cases h : ckE [a, b] = 0
  · rw [if_pos h, if_pos h]
    have h1 := ck_le h a (by simp)
    have h2 := ck_le h b (by simp)
    rw [spanL_ints (lo := a.1 + b.1) (hi := a.2 + b.2) (by simp [cornI, opI]) (fun y hy => by simp [cornI, opI] at hy; omega) (by simp [cornI, opI]) (fun y hy => by simp [cornI, opI] at hy; omega), spanE_fitE]
  · rw [if_neg h, if_neg h]
/-- What the reference's Add gives is what the program's Add gives. -/
theorem add03_is (a b : Int × Int) (w : World) : Calls Tryz.prog 22 #[ivV a.1 a.2, ivV b.1 b.2] w fun e w' => e = .returned (ieV (addE a b)) ∧ Kp No w w' := by
  have := Add03_is a b w
  rwa [add_two] at this
end Go.Proofs.YtlieijnhaolnhaaGreat
