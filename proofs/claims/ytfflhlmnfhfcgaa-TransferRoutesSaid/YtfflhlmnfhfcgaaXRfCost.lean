/- Chapter 33: the walk of the reference's cost. -/
import Derived.Test.YtfflhlmnfhfcgaaXLibSortM
namespace Go.Proofs.Ytfflhlmnfhfcgaa
open Go.RowKit Go.Kq

theorem absI_le {n M : Int} (h : -M ≤ n ∧ n ≤ M) : 0 ≤ absI n ∧ absI n ≤ M := absI_bd h
theorem absI_max (n : Int) : (if n < -n then -n else n) = absI n := by unfold absI; split <;> split <;> omega
theorem absI_max2 (n : Int) : max n (-n) = absI n := by unfold absI; split <;> omega
theorem run_last {l : List Vc} {k : Nat} {x : Vc} (h : l[k]? = some x) (hk : k + 1 = l.length) (s p d : Int) : runC s p d (l.drop k) = s + absI x.q + 2 * absI (p + x.q) + 4 * absI (d + x.q) := by
  have hlt := (List.getElem?_eq_some_iff.1 h).1
  rw [List.drop_eq_getElem_cons hlt, List.drop_eq_nil_of_le (by omega), (List.getElem?_eq_some_iff.1 h).2]
  rfl
theorem run_step {l : List Vc} {k : Nat} {x y : Vc} (h : l[k]? = some x) (h2 : l[k + 1]? = some y) (s p d : Int) : runC s p d (l.drop k) =
    if y.d ≠ x.d then runC (s + absI x.q + 2 * absI (p + x.q) + 4 * absI (d + x.q)) 0 0 (l.drop (k + 1)) else if y.p ≠ x.p then runC (s + absI x.q + 2 * absI (p + x.q)) 0 (d + x.q) (l.drop (k + 1)) else runC (s + absI x.q) (p + x.q) (d + x.q) (l.drop (k + 1)) := by
  have hlt := (List.getElem?_eq_some_iff.1 h).1
  have hlt2 := (List.getElem?_eq_some_iff.1 h2).1
  rw [List.drop_eq_getElem_cons hlt, List.drop_eq_getElem_cons hlt2, (List.getElem?_eq_some_iff.1 h).2, (List.getElem?_eq_some_iff.1 h2).2]
  rfl

set_option maxHeartbeats 4000000 in
set_option maxRecDepth 100000 in
theorem rcost_any (A B : Option Addr) (n0 m0 ca cb : Nat) (xs ys : List Vc) (w : World) (hx : RdV w A n0 xs) (hy : RdV w B m0 ys) (hn0 : n0 ≤ 24) (hm0 : m0 ≤ 24) (sx : Sane xs) (sy : Sane ys) :
    Calls Try.prog 37 #[.slice A n0 ca, .slice B m0 cb] w fun e w' => e = .returned (.int .i64 (runC 0 0 0 (dif xs ys))) ∧ Kp No w w' := by
  have hbd : Bd 4800 (dif xs ys) := by
    have hxl := hx.1
    have hyl := hy.1
    have hb0 := addL_bd xs [] 0 (by omega) (fun v hv => by cases hv) (fun u hu => by have := sx u hu; omega)
    have hb1 := addL_bd (ys.map neg) (addL [] xs) _ (by omega) hb0 (fun u hu => by
      obtain ⟨y, hy, rfl⟩ := List.mem_map.1 hu
      have := sy y hy
      show -100 ≤ -y.q ∧ -y.q ≤ 100
      omega)
    rw [List.length_map] at hb1
    intro v hv
    have := hb1 v hv
    omega
  have hlen : (dif xs ys).length ≤ 48 := by
    have h1 := addL_len (ys.map neg) (addL [] xs)
    have h2 := addL_len xs []
    have hxl := hx.1
    have hyl := hy.1
    rw [List.length_map] at h1
    simp at h2
    show (addL (addL [] xs) (ys.map neg)).length ≤ 48
    omega
  have HBD := Lib.hid hbd
  clear hbd
  go_enter Try.func37, Try.ntmps37
  go_wp2_with fail
  refine (dif_any A B n0 m0 ca cb xs ys w hx hy hn0 hm0 sx sy).mono ?_
  rintro e w1 ⟨v, rfl, hown, hk1⟩
  obtain ⟨a, cap, rfl, hcap, hcm, hnn⟩ := own_form hown
  clear sx sy hx hy
  generalize hl0 : dif xs ys = l at HBD hlen hown hnn hcap ⊢
  have HL0 := Lib.hid hl0
  clear hl0
  generalize hL : l.length = n at hown hcap hlen hnn ⊢
  have HOW := Lib.hid hown
  have HK1 := Lib.hid hk1
  clear hown hk1
  go_wp2_with fail
  go_loopw [6, 7, 8, 9] (fun su pu du i wr => ∃ (k : Nat) (s p d : Int), k ≤ n ∧ su = .int .i64 s ∧ pu = .int .i64 p ∧ du = .int .i64 d ∧ i = .int .i64 k ∧ runC s p d (l.drop k) = runC 0 0 0 l ∧ (0 ≤ s ∧ s ≤ 2000000 * k) ∧ (-5000 * (k : Int) ≤ p ∧ p ≤ 5000 * k) ∧ (-5000 * (k : Int) ≤ d ∧ d ≤ 5000 * k) ∧ Kp No w1 wr) (fun _ _ _ i _ => n - (intOf i).toNat)
  case atStart => exact ⟨0, 0, 0, 0, by omega, rfl, rfl, rfl, rfl, rfl, by omega, by omega, by omega, Kp.refl _ _⟩
  case round =>
    obtain ⟨k, s, p, d, hk, rfl, rfl, rfl, rfl, hrun, hs, hp, hd, hkp⟩ := hrel
    have HR := Lib.hid hrun
    clear hrun
    by_cases hlt : k < n
    · obtain ⟨x, hxk⟩ : ∃ x, l[k]? = some x := ⟨_, List.getElem?_eq_getElem (by omega)⟩
      have hown2 := hkp.owns HOW.out (fun _ _ h => h)
      obtain ⟨g, rfl, _, _, _, x0, x1, x2, x3⟩ := own_cells hown2 k x hxk
      have hq := HBD.out x (List.mem_of_getElem? hxk)
      have hqa := absI_le hq
      have HX := Lib.hid hxk
      have HO2 := Lib.hid hown2
      clear hxk hown2
      go_wp2_with fail
      have hWp : ∀ (r : Nat → Option Value) (w' : World) (i : Nat) (v : Value), i < 14 → (Kp No wr w' ∧ (r 14 ≠ none → r 0 ≠ none)) → (Kp No wr w' ∧ ((upd r i v) 14 ≠ none → (upd r i v) 0 ≠ none)) := fun r w' i v hi h => by
        refine ⟨h.1, fun e e0 => ?_⟩
        rw [upd_ne _ _ (by omega)] at e
        by_cases h6 : i = 0
        · subst h6
          rw [upd_same] at e0
          cases e0
        · rw [upd_ne _ _ (fun x => h6 x.symm)] at e0
          exact h.2 e e0
      refine wp_region_each (fun i u => match i with | 0 => u = .int .i64 s | 1 => u = .slice (some ⟨g, 0, none⟩) n cap | 2 => u = .int .i64 (k : Int) | 3 => u = .pointer (some ⟨g, k * 4, none⟩) | 4 => u = .pointer (some ⟨g, k * 4 + 3, none⟩) | 5 => u = .int .i64 x.q | 6 => u = .slice (some ⟨g, 0, none⟩) n cap | 7 => u = .int .i64 (k : Int) | 8 => u = .pointer (some ⟨g, k * 4, none⟩) | 9 => u = .pointer (some ⟨g, k * 4 + 3, none⟩) | 10 => u = .int .i64 x.q | 11 => u = .int .i64 (-x.q) | 12 => u = .int .i64 (absI x.q) | _ => u = .int .i64 (s + absI x.q))
        (fun r w' => Kp No wr w' ∧ (r 14 ≠ none → r 0 ≠ none)) (by kernel_rfl) (by kernel_rfl) (by kernel_rfl) ?_ ?_ ?_
      · exact ⟨Kp.drew _ _, fun h => absurd rfl h⟩
      · refine ⟨?_, ?_, ?_, ?_, ?_, ?_, ?_, ?_, ?_, ?_, ?_, ?_, ?_, ?_, ?_, trivial⟩
        · intro r a w' hf hg hW hr hd K hK
          refine wpOp_of rfl rfl ?_
          have h14 : r 14 = none := Classical.byContradiction fun h => hW.2 h hr
          have e0 : a.tmps.getD 6 undef = .int .i64 s := hf.evalLate 6 14 (by kernel_rfl) h14
          go_simp
          exact hK _ _ rfl (hWp _ _ _ _ (by omega) hW)
        · intro r a w' hf hg hW hr hd K hK
          refine wpOp_of rfl rfl ?_
          have e0 : a.tmps.getD 5 undef = .slice (some ⟨g, 0, none⟩) n cap := hf.evalFree (by kernel_rfl)
          go_simp
          exact hK _ _ rfl (hWp _ _ _ _ (by omega) hW)
        · intro r a w' hf hg hW hr hd K hK
          refine wpOp_of rfl rfl ?_
          have e0 : a.tmps.getD 9 undef = .int .i64 (k : Int) := hf.evalFree (by kernel_rfl)
          go_simp
          exact hK _ _ rfl (hWp _ _ _ _ (by omega) hW)
        · intro r a w' hf hg hW hr hd K hK
          refine wpOp_of rfl rfl ?_
          refine hf.depE hg hd 1 21 (by kernel_rfl) fun u0 e0 g0 _ => ?_
          replace g0 : u0 = .slice (some ⟨g, 0, none⟩) n cap := g0
          subst g0
          refine hf.depE hg hd 2 22 (by kernel_rfl) fun u1 e1 g1 _ => ?_
          replace g1 : u1 = .int .i64 (k : Int) := g1
          subst g1
          go_simp
          exact hK _ _ rfl (hWp _ _ _ _ (by omega) hW)
        · intro r a w' hf hg hW hr hd K hK
          refine wpOp_of rfl rfl ?_
          refine hf.depE hg hd 3 23 (by kernel_rfl) fun u0 e0 g0 _ => ?_
          replace g0 : u0 = .pointer (some ⟨g, k * 4, none⟩) := g0
          subst g0
          go_simp
          exact hK _ _ rfl (hWp _ _ _ _ (by omega) hW)
        · intro r a w' hf hg hW hr hd K hK
          refine wpOp_of rfl rfl ?_
          refine hf.depE hg hd 4 24 (by kernel_rfl) fun u0 e0 g0 _ => ?_
          replace g0 : u0 = .pointer (some ⟨g, k * 4 + 3, none⟩) := g0
          subst g0
          have y3 := hW.1.cell x3 (fun h => h)
          go_simp
          exact hK _ _ rfl (hWp _ _ _ _ (by omega) hW)
        · intro r a w' hf hg hW hr hd K hK
          refine wpOp_of rfl rfl ?_
          have e0 : a.tmps.getD 5 undef = .slice (some ⟨g, 0, none⟩) n cap := hf.evalFree (by kernel_rfl)
          go_simp
          exact hK _ _ rfl (hWp _ _ _ _ (by omega) hW)
        · intro r a w' hf hg hW hr hd K hK
          refine wpOp_of rfl rfl ?_
          have e0 : a.tmps.getD 9 undef = .int .i64 (k : Int) := hf.evalFree (by kernel_rfl)
          go_simp
          exact hK _ _ rfl (hWp _ _ _ _ (by omega) hW)
        · intro r a w' hf hg hW hr hd K hK
          refine wpOp_of rfl rfl ?_
          refine hf.depE hg hd 6 26 (by kernel_rfl) fun u0 e0 g0 _ => ?_
          replace g0 : u0 = .slice (some ⟨g, 0, none⟩) n cap := g0
          subst g0
          refine hf.depE hg hd 7 27 (by kernel_rfl) fun u1 e1 g1 _ => ?_
          replace g1 : u1 = .int .i64 (k : Int) := g1
          subst g1
          go_simp
          exact hK _ _ rfl (hWp _ _ _ _ (by omega) hW)
        · intro r a w' hf hg hW hr hd K hK
          refine wpOp_of rfl rfl ?_
          refine hf.depE hg hd 8 28 (by kernel_rfl) fun u0 e0 g0 _ => ?_
          replace g0 : u0 = .pointer (some ⟨g, k * 4, none⟩) := g0
          subst g0
          go_simp
          exact hK _ _ rfl (hWp _ _ _ _ (by omega) hW)
        · intro r a w' hf hg hW hr hd K hK
          refine wpOp_of rfl rfl ?_
          refine hf.depE hg hd 9 29 (by kernel_rfl) fun u0 e0 g0 _ => ?_
          replace g0 : u0 = .pointer (some ⟨g, k * 4 + 3, none⟩) := g0
          subst g0
          have y3 := hW.1.cell x3 (fun h => h)
          go_simp
          exact hK _ _ rfl (hWp _ _ _ _ (by omega) hW)
        · intro r a w' hf hg hW hr hd K hK
          refine wpOp_of rfl rfl ?_
          refine hf.depE hg hd 10 30 (by kernel_rfl) fun u0 e0 g0 _ => ?_
          replace g0 : u0 = .int .i64 x.q := g0
          subst g0
          go_simp
          exact hK _ _ (show Value.int .i64 (IntKind.i64.wrap (-x.q)) = .int .i64 (-x.q) by rw [IntWalk.i64_in _ (by omega)]) (hWp _ _ _ _ (by omega) hW)
        · intro r a w' hf hg hW hr hd K hK
          refine wpOp_of rfl rfl ?_
          refine hf.depE hg hd 5 25 (by kernel_rfl) fun u0 e0 g0 _ => ?_
          replace g0 : u0 = .int .i64 x.q := g0
          subst g0
          refine hf.depE hg hd 11 31 (by kernel_rfl) fun u1 e1 g1 _ => ?_
          replace g1 : u1 = .int .i64 (-x.q) := g1
          subst g1
          go_simp
          first | rw [absI_max] | rw [absI_max2]
          exact hK _ _ rfl (hWp _ _ _ _ (by omega) hW)
        · intro r a w' hf hg hW hr hd K hK
          refine wpOp_of rfl rfl ?_
          refine hf.depE hg hd 0 20 (by kernel_rfl) fun u0 e0 g0 _ => ?_
          replace g0 : u0 = .int .i64 s := g0
          subst g0
          refine hf.depE hg hd 12 32 (by kernel_rfl) fun u1 e1 g1 _ => ?_
          replace g1 : u1 = .int .i64 (absI x.q) := g1
          subst g1
          go_simp
          exact hK _ _ (show Value.int .i64 (IntKind.i64.wrap (s + absI x.q)) = .int .i64 (s + absI x.q) by rw [IntWalk.i64_in _ (by omega)]) (hWp _ _ _ _ (by omega) hW)
        · intro r a w' hf hg hW hr hd K hK
          refine wpOp_of rfl rfl ?_
          refine hf.depE hg hd 13 33 (by kernel_rfl) fun u0 e0 g0 _ => ?_
          replace g0 : u0 = .int .i64 (s + absI x.q) := g0
          subst g0
          go_simp
          refine hK _ _ rfl ⟨hW.1, fun _ h => ?_⟩
          rw [upd_ne _ _ (by omega)] at h
          exact hd ⟨0, .phase⟩ (by simp) rfl h
      intro r' w2 hg hW hr'
      have hKn : Kp No wr w2 := hW.1
      clear hWp
      simp only [List.length_cons, List.length_nil, Nat.reduceAdd, List.range_succ, List.range_zero, List.nil_append, List.cons_append, List.map_cons, List.map_nil, putAll, Act.put, List.setIfInBounds_toArray, List.set_cons_succ, List.set_cons_zero]
      obtain ⟨uL, hL⟩ : ∃ u, r' 14 = some u := by
        cases h : r' 14 with
        | none => exact absurd h (hr' 14 (by decide))
        | some u => exact ⟨u, rfl⟩
      have hLv : uL = .int .i64 (s + absI x.q) := hg 14 uL hL
      subst hLv
      rw [hL]
      simp only [Option.getD_some]
      generalize (r' 0).getD undef = q0
      generalize (r' 1).getD undef = q1
      generalize (r' 2).getD undef = q2
      generalize (r' 3).getD undef = q3
      generalize (r' 4).getD undef = q4
      generalize (r' 5).getD undef = q5
      generalize (r' 6).getD undef = q6
      generalize (r' 7).getD undef = q7
      generalize (r' 8).getD undef = q8
      generalize (r' 9).getD undef = q9
      generalize (r' 10).getD undef = q10
      generalize (r' 11).getD undef = q11
      generalize (r' 12).getD undef = q12
      generalize (r' 13).getD undef = q13
      clear hL hg hr' hW
      replace x0 := hKn.cell x0 (fun h => h)
      replace x1 := hKn.cell x1 (fun h => h)
      replace x2 := hKn.cell x2 (fun h => h)
      replace x3 := hKn.cell x3 (fun h => h)
      have hs2 : 0 ≤ s + absI x.q ∧ s + absI x.q ≤ 2000000 * k + 4800 := by omega
      have hpq := absI_bd (n := p + x.q) (M := 5000 * k + 5000) (by omega)
      have hdq := absI_bd (n := d + x.q) (M := 5000 * k + 5000) (by omega)
      have hkp2 := hkp.tr hKn
      have HO3 := Lib.hid (hKn.owns HO2.out (fun _ _ h => h))
      clear hKn hkp HO2
      by_cases hlast : k + 1 = n
      · have hlb : ((k : Int) + 1 == (n : Int)) = true := by rw [beq_iff_eq]; omega
        have HRL := Lib.hid (run_last HX.out (by omega) s p d)
        have HDR := Lib.hid (show l.drop (k + 1) = [] from List.drop_eq_nil_of_le (by omega))
        clear hlast
        rcases Int.lt_or_le (p + x.q) 0 with hp1 | hp1
        · rcases Int.lt_or_le (d + x.q) 0 with hd1 | hd1
          · go_wp2_with fail
            go_quiet (fail)
            go_wp2_with fail
            go_quiet (fail)
            go_wp2_with fail
            go_roundw
            case rel => exact ⟨k + 1, s + absI x.q + 2 * absI (p + x.q) + 4 * absI (d + x.q), 0, 0, by omega, by have e1 := absI_neg (Int.le_of_lt hp1); have e2 := absI_neg (Int.le_of_lt hd1); first | rfl | (congr 1; omega), by congr 1, by congr 1, by go_num, by have HR2 := HR.out; rw [HRL.out] at HR2; rw [HDR.out]; exact HR2, by omega, by omega, by omega, hkp2.tr (Kp.drewN _ _ _)⟩
            case measure => simp [intOf]; omega
          · go_wp2_with fail
            go_quiet (fail)
            go_wp2_with fail
            go_quiet (fail)
            go_wp2_with fail
            go_roundw
            case rel => exact ⟨k + 1, s + absI x.q + 2 * absI (p + x.q) + 4 * absI (d + x.q), 0, 0, by omega, by have e1 := absI_neg (Int.le_of_lt hp1); have e2 := absI_pos hd1; first | rfl | (congr 1; omega), by congr 1, by congr 1, by go_num, by have HR2 := HR.out; rw [HRL.out] at HR2; rw [HDR.out]; exact HR2, by omega, by omega, by omega, hkp2.tr (Kp.drewN _ _ _)⟩
            case measure => simp [intOf]; omega
        · rcases Int.lt_or_le (d + x.q) 0 with hd1 | hd1
          · go_wp2_with fail
            go_quiet (fail)
            go_wp2_with fail
            go_quiet (fail)
            go_wp2_with fail
            go_roundw
            case rel => exact ⟨k + 1, s + absI x.q + 2 * absI (p + x.q) + 4 * absI (d + x.q), 0, 0, by omega, by have e1 := absI_pos hp1; have e2 := absI_neg (Int.le_of_lt hd1); first | rfl | (congr 1; omega), by congr 1, by congr 1, by go_num, by have HR2 := HR.out; rw [HRL.out] at HR2; rw [HDR.out]; exact HR2, by omega, by omega, by omega, hkp2.tr (Kp.drewN _ _ _)⟩
            case measure => simp [intOf]; omega
          · go_wp2_with fail
            go_quiet (fail)
            go_wp2_with fail
            go_quiet (fail)
            go_wp2_with fail
            go_roundw
            case rel => exact ⟨k + 1, s + absI x.q + 2 * absI (p + x.q) + 4 * absI (d + x.q), 0, 0, by omega, by have e1 := absI_pos hp1; have e2 := absI_pos hd1; first | rfl | (congr 1; omega), by congr 1, by congr 1, by go_num, by have HR2 := HR.out; rw [HRL.out] at HR2; rw [HDR.out]; exact HR2, by omega, by omega, by omega, hkp2.tr (Kp.drewN _ _ _)⟩
            case measure => simp [intOf]; omega
      · obtain ⟨y, hyk⟩ : ∃ y, l[k + 1]? = some y := ⟨_, List.getElem?_eq_getElem (by omega)⟩
        obtain ⟨k1, hk1⟩ : ∃ k1, k1 = k + 1 := ⟨_, rfl⟩
        have hlb : ((k1 : Int) == (n : Int)) = false := by rw [beq_eq_false_iff_ne]; omega
        have hlb2 : (k1 == n) = false := by rw [beq_eq_false_iff_ne]; omega
        have hkk : (k : Int) + 1 = (k1 : Int) := by omega
        obtain ⟨g', hgg, _, _, _, z0, z1, z2, z3⟩ := own_cells HO3.out (k + 1) y hyk
        cases hgg
        have HST := Lib.hid (run_step HX.out hyk s p d)
        clear hyk
        have hln : k1 < n := by omega
        have hwr : IntKind.i64.wrap (k1 : Int) = (k1 : Int) := IntWalk.i64_in _ (by omega)
        rw [← hk1] at z0 z1 z2 z3
        have HKE := Lib.hid hk1
        clear hk1
        by_cases hyd : y.d = x.d
        · rw [hyd] at z0
          by_cases hyp : y.p = x.p
          · rw [hyp] at z1
            have HRL := Lib.hid (show runC (s + absI x.q) (p + x.q) (d + x.q) (l.drop (k + 1)) = runC 0 0 0 l by rw [← HR.out, HST.out, if_neg (by simpa using hyd), if_neg (by simpa using hyp)])
            clear hyd hyp hlast
            go_wp2_with fail
            go_quiet (fail)
            go_wp2_with fail
            go_quiet (fail)
            go_wp2_with fail
            go_roundw
            case rel => exact ⟨k + 1, s + absI x.q, p + x.q, d + x.q, by omega, by first | rfl | (congr 1; omega), by congr 1, by congr 1, by have := HKE.out; first | go_num | (congr 1; omega), by exact HRL.out, by omega, by omega, by omega, hkp2.tr (Kp.drewN _ _ _)⟩
            case measure => simp [intOf]; omega
          · have hpb : (y.p == x.p) = false := by rw [beq_eq_false_iff_ne]; exact hyp
            have hpb2 : (y.p != x.p) = true := by rw [bne_iff_ne]; exact hyp
            have HRL := Lib.hid (show runC (s + absI x.q + 2 * absI (p + x.q)) 0 (d + x.q) (l.drop (k + 1)) = runC 0 0 0 l by rw [← HR.out, HST.out, if_neg (by simpa using hyd), if_pos hyp])
            clear hyd hyp hlast
            rcases Int.lt_or_le (p + x.q) 0 with hp1 | hp1
            · go_wp2_with fail
              go_quiet (fail)
              go_wp2_with fail
              go_quiet (fail)
              go_wp2_with fail
              go_roundw
              case rel => exact ⟨k + 1, s + absI x.q + 2 * absI (p + x.q), 0, d + x.q, by omega, by have e1 := absI_neg (Int.le_of_lt hp1); first | rfl | (congr 1; omega), by congr 1, by congr 1, by have := HKE.out; first | go_num | (congr 1; omega), by exact HRL.out, by omega, by omega, by omega, hkp2.tr (Kp.drewN _ _ _)⟩
              case measure => simp [intOf]; omega
            · go_wp2_with fail
              go_quiet (fail)
              go_wp2_with fail
              go_quiet (fail)
              go_wp2_with fail
              go_roundw
              case rel => exact ⟨k + 1, s + absI x.q + 2 * absI (p + x.q), 0, d + x.q, by omega, by have e1 := absI_pos hp1; first | rfl | (congr 1; omega), by congr 1, by congr 1, by have := HKE.out; first | go_num | (congr 1; omega), by exact HRL.out, by omega, by omega, by omega, hkp2.tr (Kp.drewN _ _ _)⟩
              case measure => simp [intOf]; omega
        · have hdb : (y.d == x.d) = false := by rw [beq_eq_false_iff_ne]; exact hyd
          have hdb2 : (y.d != x.d) = true := by rw [bne_iff_ne]; exact hyd
          have HRL := Lib.hid (show runC (s + absI x.q + 2 * absI (p + x.q) + 4 * absI (d + x.q)) 0 0 (l.drop (k + 1)) = runC 0 0 0 l by rw [← HR.out, HST.out, if_pos hyd])
          clear hyd hlast
          rcases Int.lt_or_le (p + x.q) 0 with hp1 | hp1
          · rcases Int.lt_or_le (d + x.q) 0 with hd1 | hd1
            · go_wp2_with fail
              go_quiet (fail)
              go_wp2_with fail
              go_quiet (fail)
              go_wp2_with fail
              go_roundw
              case rel => exact ⟨k + 1, s + absI x.q + 2 * absI (p + x.q) + 4 * absI (d + x.q), 0, 0, by omega, by have e1 := absI_neg (Int.le_of_lt hp1); have e2 := absI_neg (Int.le_of_lt hd1); first | rfl | (congr 1; omega), by congr 1, by congr 1, by have := HKE.out; first | go_num | (congr 1; omega), by exact HRL.out, by omega, by omega, by omega, hkp2.tr (Kp.drewN _ _ _)⟩
              case measure => simp [intOf]; omega
            · go_wp2_with fail
              go_quiet (fail)
              go_wp2_with fail
              go_quiet (fail)
              go_wp2_with fail
              go_roundw
              case rel => exact ⟨k + 1, s + absI x.q + 2 * absI (p + x.q) + 4 * absI (d + x.q), 0, 0, by omega, by have e1 := absI_neg (Int.le_of_lt hp1); have e2 := absI_pos hd1; first | rfl | (congr 1; omega), by congr 1, by congr 1, by have := HKE.out; first | go_num | (congr 1; omega), by exact HRL.out, by omega, by omega, by omega, hkp2.tr (Kp.drewN _ _ _)⟩
              case measure => simp [intOf]; omega
          · rcases Int.lt_or_le (d + x.q) 0 with hd1 | hd1
            · go_wp2_with fail
              go_quiet (fail)
              go_wp2_with fail
              go_quiet (fail)
              go_wp2_with fail
              go_roundw
              case rel => exact ⟨k + 1, s + absI x.q + 2 * absI (p + x.q) + 4 * absI (d + x.q), 0, 0, by omega, by have e1 := absI_pos hp1; have e2 := absI_neg (Int.le_of_lt hd1); first | rfl | (congr 1; omega), by congr 1, by congr 1, by have := HKE.out; first | go_num | (congr 1; omega), by exact HRL.out, by omega, by omega, by omega, hkp2.tr (Kp.drewN _ _ _)⟩
              case measure => simp [intOf]; omega
            · go_wp2_with fail
              go_quiet (fail)
              go_wp2_with fail
              go_quiet (fail)
              go_wp2_with fail
              go_roundw
              case rel => exact ⟨k + 1, s + absI x.q + 2 * absI (p + x.q) + 4 * absI (d + x.q), 0, 0, by omega, by have e1 := absI_pos hp1; have e2 := absI_pos hd1; first | rfl | (congr 1; omega), by congr 1, by congr 1, by have := HKE.out; first | go_num | (congr 1; omega), by exact HRL.out, by omega, by omega, by omega, hkp2.tr (Kp.drewN _ _ _)⟩
              case measure => simp [intOf]; omega
    · have hend : runC s p d (l.drop k) = s := by rw [List.drop_eq_nil_of_le (by omega)]; rfl
      have HE := Lib.hid hend
      clear hend
      go_wp2_with fail
      go_ret
      exact ⟨ret_i64 (by rw [HL0.out, ← HR.out, HE.out]), HK1.out.tr hkp⟩
end Go.Proofs.Ytfflhlmnfhfcgaa
