/- Chapter 24: the law Even: the walk. Printed by gen_lwe.py. -/
import Derived.Test.YtakgcnjpmpcekaaXAwA
import Derived.Test.YtakgcnjpmpcekaaXLibHxM
namespace Go.Proofs.Ytakgcnjpmpcekaa
open Go.RowKit Go.Kq

theorem fetE_two {W b z : Int} {r r' : List Int} (hl : r.length = r'.length) (h : ∀ x ∈ r, 0 ≤ x ∧ x ≤ W) (h' : ∀ x ∈ r', 0 ≤ x ∧ x ≤ W) : fetE W r' b z = fetE W r b z := by
  have a : ∀ l : List Int, (∀ x ∈ l, 0 ≤ x ∧ x ≤ W) → l.any (fun x => oB x 0 W) = false := fun l h => List.any_eq_false.2 fun x hx => by
    have := h x hx
    unfold oB
    simp
    omega
  unfold fetE
  rw [hl, a r h, a r' h']
theorem fetE_zero {W b z : Int} {r : List Int} (h : fetE W r b z = 0) : fetE W r b 0 = 0 := by
  unfold fetE at *
  split at h
  · cases h
  · rename_i h1
    rw [if_neg h1]
    split at h
    · cases h
    · rename_i h2
      simp only [Bool.or_eq_true, not_or] at h2
      rw [if_neg]
      simp only [Bool.or_eq_true, not_or]
      exact ⟨⟨⟨h2.1.1.1, h2.1.1.2⟩, by decide⟩, h2.2⟩
theorem fetL_two {W b z : Int} {r : List Int} (h : fetE W r b z = 0) (h' : fetE W (r.map (W - ·)) b z = 0) : fetL W (r.map (W - ·)) b z = fetL W r b z := by
  unfold fetL
  rw [if_pos h, if_pos h', List.map_map]
  exact List.map_congr_left fun x _ => fet_mirror W b z x
theorem fetL_zero {W b : Int} {r : List Int} (h : fetE W r b 0 = 0) : fetL W r b 0 = List.replicate r.length b := by
  unfold fetL
  rw [if_pos h, List.eq_replicate_iff]
  refine ⟨by simp, fun x hx => ?_⟩
  obtain ⟨y, _, rfl⟩ := List.mem_map.1 hx
  exact fet_zero W b y
theorem fil_wide {W W' : Int} {r : List Int} (h : filE W r = 0) (h1 : W ≤ W') (h2 : W' ≤ 10000000) : filE W' r = 0 ∧ filG W r ≤ filG W' r := by
  obtain ⟨a, b, c, d, e⟩ := fil_ok h
  have h' : filE W' r = 0 := by
    unfold filE
    rw [if_neg (by omega), if_neg, if_neg (by omega)]
    simp only [Bool.or_eq_true, not_or, List.any_eq_true, not_exists, not_and]
    refine ⟨by unfold oB; simp; omega, fun x hx => ?_⟩
    have := d x hx
    unfold oB
    simp
    omega
  refine ⟨h', ?_⟩
  unfold filG
  rw [if_pos h, if_pos h']
  exact gap_wide e h1
theorem fil_mem {W : Int} {r : List Int} (h : filE W r = 0) : ∀ x ∈ posN (gapN W r) (filX W r) r, 0 ≤ x ∧ x ≤ W := fun x hx => by
  obtain ⟨i, hi, rfl⟩ := List.getElem_of_mem hx
  have := fil_in h i (by rwa [pos_len] at hi)
  rwa [List.getD_eq_getElem?_getD, List.getElem?_eq_getElem hi] at this
theorem row_cells {w : World} {g : Nat} {a b c d : Value} {t : TypeId} (h : w.heap[g]? = some (.cells #[a, b, c, d] t (0, 0))) : w.cell? ⟨g, 0, none⟩ = some a ∧ w.cell? ⟨g, 1, none⟩ = some b ∧ w.cell? ⟨g, 2, none⟩ = some c ∧ w.cell? ⟨g, 3, none⟩ = some d := by
  refine ⟨?_, ?_, ?_, ?_⟩ <;> (rw [cell_of_row _ _ _ _ _ _ h]; rfl)
theorem getD_of {l : List Int} {i : Nat} {x : Int} (h : l[i]? = some x) : l.getD i 0 = x := by rw [List.getD_eq_getElem?_getD, h]; rfl
/-- What is known of the ends of a filled field. -/
theorem fil_first {W : Int} {r : List Int} (h : filE W r = 0) {m : Nat} (hm : r.length = m) (h0 : 0 < m) {x0 y0 xn yn : Int} (e1 : (posN (gapN W r) (filX W r) r)[0]? = some x0) (e2 : r[0]? = some y0) (e3 : (posN (gapN W r) (filX W r) r)[m - 1]? = some xn) (e4 : r[m - 1]? = some yn) :
    gapN W r ≤ x0 - y0 ∧ x0 - y0 ≤ W - xn - yn ∧ W - xn - yn - (x0 - y0) ≤ 1 := by
  obtain ⟨_, _, _, hr, hs⟩ := fil_ok h
  have he := fil_ends hs (by omega)
  have q1 := pos_at (gapN W r) (filX W r) r 0 (by omega)
  have q2 := pos_at (gapN W r) (filX W r) r (m - 1) (by omega)
  rw [getD_of e1, getD_of e2] at q1
  rw [getD_of e3, getD_of e4] at q2
  have q3 := take_sum_succ r (m - 1) (by omega)
  rw [show m - 1 + 1 = m by omega, getD_of e4, ← hm, List.take_length, hm] at q3
  rw [show ((m - 1 : Nat) : Int) = (m : Int) - 1 by omega] at q2
  rw [hm] at he
  simp at q1
  generalize gapN W r * ((m : Int) - 1) = p at *
  omega
set_option maxHeartbeats 8000000 in
set_option maxRecDepth 100000 in
theorem Even_any (W b z : Int) (R : Option Addr) (m cr : Nat) (r : List Int) (q : Nat) (w : World) (hR : RdI .i64 w R m r) (hq : q < 65536) :
    Calls Try.prog 7 #[rowV W b z R m cr, .int .u16 (q : Nat)] w fun e w' => e = .returned (.bool true) ∧ Kp No w w' := by
  have hk : Kp No w (w.alloc (.cells #[.int .i64 W, .int .i64 b, .int .i64 z, .slice R m cr] 54)) := Kp.alloc _ _ _
  obtain ⟨gx, hgx⟩ : ∃ gx, gx = w.heap.size := ⟨_, rfl⟩
  have BX : (w.alloc (.cells #[.int .i64 W, .int .i64 b, .int .i64 z, .slice R m cr] 54)).heap[gx]? = some (.cells #[.int .i64 W, .int .i64 b, .int .i64 z, .slice R m cr] 54 (0, 0)) := by rw [hgx]; exact heap_alloc_new _ _
  have HRL := Lib.hid hR.1
  have HR := Lib.hid (hR.no hk)
  have HK := Lib.hid hk
  have HBX := Lib.hid BX
  subst hgx
  clear hR hk BX
  unfold rowV
  generalize hw0 : w.alloc (.cells #[.int .i64 W, .int .i64 b, .int .i64 z, .slice R m cr] 54) = w0 at *
  obtain ⟨p0, p1, p2, p3⟩ := row_cells HBX.out
  by_cases h70 : 70 < m
  · go_enter Try.func7, Try.ntmps7
    go_wp2_with fail
    refine (awake_any _).mono ?_
    rintro e w4 ⟨rfl, k4⟩
    go_wp2_with fail
    go_ret
    exact ⟨rfl, HK.out.tr k4⟩
  have FI := Fill_any W R m cr r w0 HR.out (by omega)
  by_cases hE : filE W r = 0
  rotate_left
  · have hL : filL W r = [] := by unfold filL; rw [if_neg hE]
    have hne : (filE W r != 0) = true := by simp [hE]
    unfold FilR at FI
    rw [hL] at FI
    generalize filE W r = E at *
    generalize filG W r = G at *
    have FI := Lib.hid FI
    clear hL hE
    go_enter Try.func7, Try.ntmps7
    go_wp2_with fail
    refine FI.out.mono ?_
    rintro e w1 ⟨A, c, rfl, _, k1⟩
    replace HK := Lib.hid (HK.out.tr k1)
    clear k1 FI
    dsimp only [List.length_nil]
    go_wp2_with fail
    refine (awake_any _).mono ?_
    rintro e w4 ⟨rfl, k4⟩
    go_wp2_with fail
    go_ret
    exact ⟨rfl, HK.out.tr k4⟩
  have HOK := Lib.hid (fil_ok hE)
  have HFE := Lib.hid hE
  have HMEM := Lib.hid (fil_mem hE)
  have HNEAR := Lib.hid (fun i h1 h2 => fil_near (r := r) i h1 h2 (gapN W r) (filX W r))
  have HENDS := Lib.hid (fun h0 x0 y0 xn yn e1 e2 e3 e4 => fil_first (W := W) (r := r) (x0 := x0) (y0 := y0) (xn := xn) (yn := yn) hE HRL.out h0 e1 e2 e3 e4)
  have HPL := Lib.hid (show (posN (gapN W r) (filX W r) r).length = m by rw [pos_len]; exact HRL.out)
  have HFG : filG W r = gapN W r := by unfold filG; rw [if_pos hE]
  have HGL := Lib.hid (gap_le HOK.out.2.2.2.2)
  have HW2 := Lib.hid (fun W' h1 h2 => fil_wide (W := W) (W' := W') (r := r) hE h1 h2)
  unfold FilR at FI
  rw [hE, show filL W r = posN (gapN W r) (filX W r) r by unfold filL; rw [if_pos hE]] at FI
  rw [HFG] at FI HW2
  have hgb : 0 ≤ gapN W r ∧ gapN W r ≤ 10000000 := by
    have h1 := HGL.out
    have h2 := HOK.out
    have h3 : gapN W r ≤ gapN W r * ((r.length : Int) + 1) := by
      have := Int.mul_le_mul_of_nonneg_left (show (1 : Int) ≤ (r.length : Int) + 1 by omega) h1.1
      omega
    have h4 := sum_bd (M := 1000000) (r := r) h2.2.2.2.1
    omega
  generalize posN (gapN W r) (filX W r) r = X at *
  generalize gapN W r = G at *
  rw [HPL.out] at FI
  have hm60 : m ≤ 60 := by have := HOK.out.1; rw [HRL.out] at this; exact this
  have hW1 : 1 ≤ W ∧ W ≤ 10000000 := ⟨HOK.out.2.1, HOK.out.2.2.1⟩
  have FI := Lib.hid FI
  clear hE HFG
  rcases Nat.lt_or_ge 0 m with h0 | h0
  · go_enter Try.func7, Try.ntmps7
    go_wp2_with fail
    refine FI.out.mono ?_
    rintro e w1 ⟨A, c, rfl, ho, k1⟩
    replace HK := Lib.hid (HK.out.tr k1)
    replace HBX := Lib.hid (k1.heap HBX.out id)
    replace HR := Lib.hid (HR.out.no k1)
    have HA := Lib.hid (RdI.of_own (xs := X) (by unfold OwL at ho; rw [HPL.out] at ho; exact ho))
    clear k1 FI ho p0 p1 p2 p3
    obtain ⟨p0, p1, p2, p3⟩ := row_cells HBX.out
    go_wp2_with fail
    obtain ⟨x0, e1⟩ : ∃ x, X[0]? = some x := ⟨_, List.getElem?_eq_getElem (by rw [HPL.out]; exact h0)⟩
    obtain ⟨y0, e2⟩ : ∃ x, r[0]? = some x := ⟨_, List.getElem?_eq_getElem (by rw [HRL.out]; exact h0)⟩
    obtain ⟨xn, e3⟩ : ∃ x, X[m - 1]? = some x := ⟨_, List.getElem?_eq_getElem (by rw [HPL.out]; omega)⟩
    obtain ⟨yn, e4⟩ : ∃ x, r[m - 1]? = some x := ⟨_, List.getElem?_eq_getElem (by rw [HRL.out]; omega)⟩
    have q := HENDS.out h0 x0 y0 xn yn e1 e2 e3 e4
    have b1 := HMEM.out x0 (List.mem_of_getElem? e1)
    have b2 := HOK.out.2.2.2.1 y0 (List.mem_of_getElem? e2)
    have b3 := HMEM.out xn (List.mem_of_getElem? e3)
    have b4 := HOK.out.2.2.2.1 yn (List.mem_of_getElem? e4)
    have EN := ends_yes W b z G R A m cr c r X x0 y0 xn yn w1 h0 hm60 HR.out HA.out e1 e2 e3 e4 (by omega) (by omega) (by omega) (by omega) (by omega) q.1 q.2.1 q.2.2
    refine EN.mono ?_
    clear EN q b1 b2 b3 b4 e1 e2 e3 e4
    rintro e w1 ⟨rfl, k2⟩
    replace HK := Lib.hid (HK.out.tr k2)
    replace HBX := Lib.hid (k2.heap HBX.out id)
    replace HR := Lib.hid (HR.out.no k2)
    replace HA := Lib.hid (HA.out.no k2)
    clear k2 p0 p1 p2 p3
    obtain ⟨p0, p1, p2, p3⟩ := row_cells HBX.out
    go_wp2_with fail
    clear p0 p1 p2 p3
    go_loopw [8] (fun i wr => ∃ j : Nat, 1 ≤ j ∧ j ≤ 60 ∧ i = .int .i64 (j : Nat) ∧ ∃ n1, wr = w1.drewN n1) (fun i _ => 100 - (intOf i).toNat)
    case atStart => exact ⟨1, by omega, by omega, rfl, 0, rfl⟩
    case round =>
      obtain ⟨j, hj, hj6, rfl, n1, hq1⟩ := hrel
      have HQ := Lib.hid hq1
      have k2 : Kp No w1 wr := by rw [hq1]; exact Kp.drewN _ _ _
      have HBX2 := Lib.hid (k2.heap HBX.out id)
      have HR2 := Lib.hid (HR.out.no k2)
      have HA2 := Lib.hid (HA.out.no k2)
      have HK2 := Lib.hid (HK.out.tr k2)
      clear hq1 k2
      obtain ⟨p0, p1, p2, p3⟩ := row_cells HBX2.out
      by_cases hlt : j < m
      · obtain ⟨jp, hjp⟩ : ∃ jp : Nat, jp + 1 = j := ⟨j - 1, by omega⟩
        have hji : (j : Int) - 1 = (jp : Nat) := by omega
        have hjp2 : jp < m := by omega
        obtain ⟨xj, e1⟩ : ∃ x, X[j]? = some x := ⟨_, List.getElem?_eq_getElem (by rw [HPL.out]; exact hlt)⟩
        obtain ⟨yj, e2⟩ : ∃ x, r[j]? = some x := ⟨_, List.getElem?_eq_getElem (by rw [HRL.out]; exact hlt)⟩
        obtain ⟨xp, e3⟩ : ∃ x, X[jp]? = some x := ⟨_, List.getElem?_eq_getElem (by rw [HPL.out]; exact hjp2)⟩
        obtain ⟨yp, e4⟩ : ∃ x, r[jp]? = some x := ⟨_, List.getElem?_eq_getElem (by rw [HRL.out]; exact hjp2)⟩
        have hn := HNEAR.out j (by omega) (by rw [HRL.out]; exact hlt)
        rw [show j - 1 = jp by omega, getD_of e1, getD_of e2, getD_of e3, getD_of e4] at hn
        have b1 := HMEM.out xj (List.mem_of_getElem? e1)
        have b2 := HOK.out.2.2.2.1 yj (List.mem_of_getElem? e2)
        have b3 := HMEM.out xp (List.mem_of_getElem? e3)
        have b4 := HOK.out.2.2.2.1 yp (List.mem_of_getElem? e4)
        obtain ⟨o1, q1, rfl, _, c1⟩ := HA2.out.2 j xj e1
        obtain ⟨o2, q2, rfl, _, c2⟩ := HR2.out.2 j yj e2
        obtain ⟨o3, q3, f3, _, c3⟩ := HA2.out.2 jp xp e3
        obtain ⟨o4, q4, f4, _, c4⟩ := HR2.out.2 jp yp e4
        injection f3 with f3
        injection f3 with f3a f3b
        injection f4 with f4
        injection f4 with f4a f4b
        subst f3a f3b f4a f4b
        have d1 : ((xj - yj - xp - yp : Int) != G) = false := by simp [hn]
        clear hn hjp e1 e2 e3 e4
        go_wp2_with fail
        go_quiet (fail)
        go_wp2_with fail
        go_roundw
        case rel => exact ⟨j + 1, by omega, by omega, by go_num, n1 + nq, by rw [HQ.out, World.drewN_drewN]⟩
        case measure => simp [intOf]; omega
      · obtain ⟨V, hV⟩ : ∃ V, min (W + (q : Int)) 10000000 = V := ⟨_, rfl⟩
        have hVe : (if W + (q : Int) < 10000000 then W + (q : Int) else 10000000) = V := by rw [← hV]; split <;> omega
        have hVf : (if (10000000 : Int) < W + (q : Int) then 10000000 else W + (q : Int)) = V := by rw [← hV]; split <;> omega
        obtain ⟨hv1, hv2⟩ := HW2.out V (by omega) (by omega)
        have F2 := Fill_any V R m cr r wr HR2.out (by omega)
        unfold FilR at F2
        rw [hv1] at F2
        generalize filG V r = G2 at *
        generalize filL V r = L2 at *
        have F2 := Lib.hid F2
        clear hv1
        go_wp2_with fail
        refine F2.out.mono ?_
        rintro e w3 ⟨A3, c3, rfl, _, k3⟩
        have HK3 := Lib.hid (HK2.out.tr k3)
        have HBX3 := Lib.hid (k3.heap HBX2.out id)
        have HA3 := Lib.hid (HA2.out.no k3)
        clear k3 F2 p0 p1 p2 p3 hVe hVf hV
        go_wp2_with fail
        go_loopw [12, 13] (fun v i wr => ∃ (j : Nat) (A1 : Option Addr) (c1 : Nat), j ≤ m ∧ i = .int .i64 (j : Nat) ∧ v = .slice A1 j c1 ∧ OwL wr w3.heap.size (.slice A1 j c1) ((X.take j).map (W - ·)) ∧ Kp No w3 wr) (fun _ i _ => m - (intOf i).toNat)
        case atStart => exact ⟨0, none, 0, by omega, rfl, rfl, World.ownsRow_nil _ _ _ _, Kp.refl _ _⟩
        case round =>
          obtain ⟨j, A1, c1, hj, rfl, rfl, hown, hkp⟩ := hrel
          have HK4 := Lib.hid hkp
          have HBX4 := Lib.hid (hkp.heap HBX3.out id)
          have HA4 := Lib.hid (HA3.out.no hkp)
          have HLJ := Lib.hid (show ((X.take j).map (W - ·)).length = j by rw [List.length_map, List.length_take, HPL.out]; omega)
          unfold OwL at hown
          rw [HLJ.out] at hown
          have OS := Lib.hid hown
          clear hown hkp
          obtain ⟨p0, p1, p2, p3⟩ := row_cells HBX4.out
          by_cases hlt : j < m
          · obtain ⟨xv, e1⟩ : ∃ x, X[j]? = some x := ⟨_, List.getElem?_eq_getElem (by rw [HPL.out]; exact hlt)⟩
            have b1 := HMEM.out xv (List.mem_of_getElem? e1)
            have hab := HA3.out.2 j xv e1
            obtain ⟨ab, ao, rfl, hb, hca⟩ := HA4.out.2 j xv e1
            have HNE := Lib.hid (show ¬ (fun k => w3.heap.size ≤ k) w.heap.size ∧ ¬ (fun k => w3.heap.size ≤ k) ab by
              obtain ⟨ab', ao', e, hb', _⟩ := hab
              injection e with e
              injection e with e1 e2
              subst e1
              have := (Array.getElem?_eq_some_iff.1 HBX3.out).1
              exact ⟨fun h => by have h : w3.heap.size ≤ w.heap.size := h; omega, fun h => by have h : w3.heap.size ≤ ab := h; omega⟩)
            have HXS := Lib.hid (show ((X.take (j + 1)).map (W - ·)).map (Value.int .i64) = ((X.take j).map (W - ·)).map (Value.int .i64) ++ [.int .i64 (W - xv)] by rw [List.take_add_one, e1]; simp)
            clear e1 hab
            obtain ⟨i0, hi0, hz0, hz1, hz2⟩ := info_parts infoI64
            have hwr : IntKind.i64.wrap (W - xv) = W - xv := IntWalk.i64_in _ (by omega)
            go_wp2_with fail
            have up : ∀ (r : Nat → Option Value) (w' : World) (i : Nat) (v : Value), i ≠ 8 → i ≠ 9 → i ≠ 10 → (Kp (fun k => w3.heap.size ≤ k) wr w' ∧ (r 9 = none → Kp No wr w' ∧ ∀ u, r 8 = some u → ∃ gq, u = .slice (some ⟨gq, 0, none⟩) 1 1 ∧ ∀ (jj : Nat) xx, ([.int .i64 (W - xv)] : List Value)[jj]? = some xx → w'.cell? ⟨gq, jj, none⟩ = some xx) ∧ (∀ u, r 9 = some u → r 0 ≠ none ∧ r 8 ≠ none ∧ w'.ownsRow w3.heap.size 2 1 u (j + 1) ((((X.take j).map (W - ·)).map (Value.int .i64)) ++ [.int .i64 (W - xv)])) ∧ (∀ u, r 10 = some u → r 9 = some u)) → (Kp (fun k => w3.heap.size ≤ k) wr w' ∧ ((Kq.upd r i v) 9 = none → Kp No wr w' ∧ ∀ u, (Kq.upd r i v) 8 = some u → ∃ gq, u = .slice (some ⟨gq, 0, none⟩) 1 1 ∧ ∀ (jj : Nat) xx, ([.int .i64 (W - xv)] : List Value)[jj]? = some xx → w'.cell? ⟨gq, jj, none⟩ = some xx) ∧ (∀ u, (Kq.upd r i v) 9 = some u → (Kq.upd r i v) 0 ≠ none ∧ (Kq.upd r i v) 8 ≠ none ∧ w'.ownsRow w3.heap.size 2 1 u (j + 1) ((((X.take j).map (W - ·)).map (Value.int .i64)) ++ [.int .i64 (W - xv)])) ∧ (∀ u, (Kq.upd r i v) 10 = some u → (Kq.upd r i v) 9 = some u)) := fun r w' i v h1 h2 h3 h => by
              rw [upd_ne _ _ h1.symm, upd_ne _ _ h2.symm, upd_ne _ _ h3.symm]
              exact ⟨h.1, h.2.1, fun u hu => ⟨upd_some (h.2.2.1 u hu).1, (h.2.2.1 u hu).2⟩, h.2.2.2⟩
            have UP := Lib.hid up
            clear up
            refine wp_region_each (fun ix uR => match ix with | 0 => uR = .slice A1 j c1 | 1 => uR = .pointer (some ⟨w.heap.size, 0, none⟩) | 2 => uR = .int .i64 W | 3 => uR = .slice (some ⟨ab, ao, none⟩) m c | 4 => uR = .int .i64 (j : Nat) | 5 => uR = .pointer (some ⟨ab, ao + j, none⟩) | 6 => uR = .int .i64 xv | 7 => uR = .int .i64 (W - xv) | _ => True) (fun r w' => (Kp (fun k => w3.heap.size ≤ k) wr w' ∧ (r 9 = none → Kp No wr w' ∧ ∀ u, r 8 = some u → ∃ gq, u = .slice (some ⟨gq, 0, none⟩) 1 1 ∧ ∀ (jj : Nat) xx, ([.int .i64 (W - xv)] : List Value)[jj]? = some xx → w'.cell? ⟨gq, jj, none⟩ = some xx) ∧ (∀ u, r 9 = some u → r 0 ≠ none ∧ r 8 ≠ none ∧ w'.ownsRow w3.heap.size 2 1 u (j + 1) ((((X.take j).map (W - ·)).map (Value.int .i64)) ++ [.int .i64 (W - xv)])) ∧ (∀ u, r 10 = some u → r 9 = some u))) (by kernel_rfl) (by kernel_rfl) (by kernel_rfl) ?_ ?_ ?_
            · exact ⟨Kp.drew _ _, fun _ => ⟨Kp.drew _ _, fun u h => (by cases h)⟩, fun u h => (by cases h), fun u h => (by cases h)⟩
            · refine ⟨?_, ?_, ?_, ?_, ?_, ?_, ?_, ?_, ?_, ?_, ?_, trivial⟩
              · intro r a w' hf hg hW hr hd K hK
                refine wpOp_of rfl rfl ?_
                have e0 : a.tmps.getD 12 undef = .slice A1 j c1 := hf.evalYet (i := 10) (by cases hs : r 10 with | none => rfl | some v => exact absurd hr (hW.2.2.1 v (hW.2.2.2 v hs)).1) (by kernel_rfl)
                go_simp
                exact hK _ _ rfl (UP.out r w' 0 _ (by decide) (by decide) (by decide) hW)
              · intro r a w' hf hg hW hr hd K hK
                refine wpOp_of rfl rfl ?_
                have e0 : a.tmps.getD 2 undef = .pointer (some ⟨w.heap.size, 0, none⟩) := hf.evalFree (by kernel_rfl)
                go_simp
                exact hK _ _ rfl (UP.out r w' 1 _ (by decide) (by decide) (by decide) hW)
              · intro r a w' hf hg hW hr hd K hK
                refine wpOp_of rfl rfl ?_
                refine hf.depE hg hd 1 119 (by kernel_rfl) fun u0 e0 g0 h0 => ?_
                replace g0 : u0 = .pointer (some ⟨w.heap.size, 0, none⟩) := g0
                subst g0
                have z0 := hW.1.cell p0 HNE.out.1
                go_simp
                exact hK _ _ rfl (UP.out r w' 2 _ (by decide) (by decide) (by decide) hW)
              · intro r a w' hf hg hW hr hd K hK
                refine wpOp_of rfl rfl ?_
                have e0 : a.tmps.getD 6 undef = .slice (some ⟨ab, ao, none⟩) m c := hf.evalFree (by kernel_rfl)
                go_simp
                exact hK _ _ rfl (UP.out r w' 3 _ (by decide) (by decide) (by decide) hW)
              · intro r a w' hf hg hW hr hd K hK
                refine wpOp_of rfl rfl ?_
                have e0 : a.tmps.getD 13 undef = .int .i64 (j : Nat) := hf.evalFree (by kernel_rfl)
                go_simp
                exact hK _ _ rfl (UP.out r w' 4 _ (by decide) (by decide) (by decide) hW)
              · intro r a w' hf hg hW hr hd K hK
                refine wpOp_of rfl rfl ?_
                refine hf.depE hg hd 3 121 (by kernel_rfl) fun u0 e0 g0 h0 => ?_
                replace g0 : u0 = .slice (some ⟨ab, ao, none⟩) m c := g0
                subst g0
                refine hf.depE hg hd 4 122 (by kernel_rfl) fun u1 e1 g1 h1 => ?_
                replace g1 : u1 = .int .i64 (j : Nat) := g1
                subst g1
                go_simp
                exact hK _ _ rfl (UP.out r w' 5 _ (by decide) (by decide) (by decide) hW)
              · intro r a w' hf hg hW hr hd K hK
                refine wpOp_of rfl rfl ?_
                refine hf.depE hg hd 5 123 (by kernel_rfl) fun u0 e0 g0 h0 => ?_
                replace g0 : u0 = .pointer (some ⟨ab, ao + j, none⟩) := g0
                subst g0
                have z0 := hW.1.cell hca HNE.out.2
                go_simp
                exact hK _ _ rfl (UP.out r w' 6 _ (by decide) (by decide) (by decide) hW)
              · intro r a w' hf hg hW hr hd K hK
                refine wpOp_of rfl rfl ?_
                refine hf.depE hg hd 2 120 (by kernel_rfl) fun u0 e0 g0 h0 => ?_
                replace g0 : u0 = .int .i64 W := g0
                subst g0
                refine hf.depE hg hd 6 124 (by kernel_rfl) fun u1 e1 g1 h1 => ?_
                replace g1 : u1 = .int .i64 xv := g1
                subst g1
                go_simp
                exact hK _ _ rfl (UP.out r w' 7 _ (by decide) (by decide) (by decide) hW)
              · intro r a w' hf hg hW hr hd K hK
                refine wpOp_of rfl rfl ?_
                refine hf.depE hg hd 7 125 (by kernel_rfl) fun u0 e0 g0 h0 => ?_
                replace g0 : u0 = .int .i64 (W - xv) := g0
                subst g0
                have e0' := get_of_getD e0
                have H9 : r 9 = none := by
                  cases hs : r 9 with
                  | none => rfl
                  | some v => exact absurd hr (hW.2.2.1 v hs).2.1
                go_simp
                refine hK _ _ trivial ⟨hW.1.tr (Kp.alloc _ _ _), fun _ => ⟨(hW.2.1 H9).1.tr (Kp.alloc _ _ _), fun u hu => ?_⟩, fun u hu => ?_, fun u hu => ?_⟩
                · rw [upd_same] at hu
                  cases hu
                  exact ⟨w'.heap.size, rfl, fun jj xx hj => by have := new_cells (e := 2) w' [.int .i64 (W - xv)] (by simp [maxLen]) jj xx hj; rwa [add_at, Nat.zero_add] at this⟩
                · rw [upd_ne _ _ (by decide), H9] at hu
                  cases hu
                · rw [upd_ne _ _ (by decide)] at hu
                  have := hW.2.2.2 u hu
                  rw [H9] at this
                  cases this
              · intro r a w' hf hg hW hr hd K hK
                refine wpOp_of rfl rfl ?_
                refine hf.depE hg hd 0 118 (by kernel_rfl) fun u0 e0 g0 h0 => ?_
                replace g0 : u0 = .slice A1 j c1 := g0
                subst g0
                refine hf.depE hg hd 8 126 (by kernel_rfl) fun u1 e1 g1 h1 => ?_
                obtain ⟨gq, hq, hcc⟩ := (hW.2.1 hr).2 u1 h1
                subst hq
                have hownw := own_kp OS.out (hW.2.1 hr).1 (fun _ _ h => h)
                refine wpo_append (.tmp 118) (.tmp 126) 30 rfl w3.heap.size 2 i0 (.int .i64 0) 1 8 Try.underlying30 hi0 hz0 hz1 hz2 rfl (by decide) (.slice A1 j c1) j (((X.take j).map (W - ·)).map (Value.int .i64)) e0 hownw ⟨gq, 0, none⟩ 1 1 [.int .i64 (W - xv)] e1 rfl (fun jj xx hj => by rw [add_at, Nat.zero_add]; exact hcc jj xx hj) (fun u hu => by simp at hu; subst hu; rfl) (by unfold maxLen; omega) (by omega) (by have := HK4.out.size; have := hW.1.size; omega) (fun v' w'' ho hgr _ => ?_)
                refine hK _ _ trivial ⟨hW.1.tr (Kp.grown hgr fun k hk _ => (own_ge hownw hk).1), fun h => ?_, fun u hu => ?_, fun u hu => ?_⟩
                · rw [upd_same] at h
                  cases h
                · rw [upd_same] at hu
                  cases hu
                  exact ⟨by rw [upd_ne _ _ (by decide), h0]; simp, by rw [upd_ne _ _ (by decide), h1]; simp, ho⟩
                · rw [upd_ne _ _ (by decide)] at hu
                  have := hW.2.2.2 u hu
                  rw [hr] at this
                  cases this
              · intro r a w' hf hg hW hr hd K hK
                refine wpOp_of rfl rfl ?_
                refine hf.depE hg hd 9 127 (by kernel_rfl) fun u0 e0 g0 h0 => ?_
                go_simp
                refine hK _ _ trivial ⟨hW.1, fun h => ?_, fun u hu => ?_, fun u hu => ?_⟩
                · rw [upd_ne _ _ (by decide)] at h
                  rw [h0] at h
                  cases h
                · rw [upd_ne _ _ (by decide)] at hu
                  obtain ⟨k1, k2, k3⟩ := hW.2.2.1 u hu
                  exact ⟨upd_some k1, upd_some k2, k3⟩
                · rw [upd_same] at hu
                  rw [upd_ne _ _ (by decide), h0, hu]
            intro r' w7 hg hW hr'
            obtain ⟨q9, hq9⟩ : ∃ u, r' 9 = some u := Option.ne_none_iff_exists'.1 (hr' 9 (by decide))
            obtain ⟨q10, hq10⟩ : ∃ u, r' 10 = some u := Option.ne_none_iff_exists'.1 (hr' 10 (by decide))
            simp only [List.length_cons, List.length_nil, Nat.reduceAdd, List.range_succ, List.range_zero, List.nil_append, List.cons_append, List.map_cons, List.map_nil, putAll, Act.put, List.setIfInBounds_toArray, List.set_cons_succ, List.set_cons_zero, hq9, hq10, Option.getD_some]
            obtain ⟨_, _, hown'⟩ := hW.2.2.1 q9 hq9
            have hqq := hW.2.2.2 q10 hq10
            rw [hq9] at hqq
            cases hqq
            have hk7 : Kp No w3 w7 := HK4.out.trans hW.1 fun k hk e => by have e : w3.heap.size ≤ k := e; omega
            rw [← HXS.out] at hown'
            clear hg hW hr' hq9 hq10
            obtain ⟨g1, c7, rfl, _, _, _⟩ := own_form hown'
            have OS7 := Lib.hid hown'
            have HK7 := Lib.hid hk7
            clear hown' hk7 hca hb p0 p1 p2 p3 hi0 hz0 hz1 hz2 hwr
            go_wp2_with fail
            go_roundw
            case rel =>
              refine ⟨j + 1, g1, c7, by omega, by go_num, rfl, ?_, HK7.out⟩
              unfold OwL
              rw [show ((X.take (j + 1)).map (W - ·)).length = j + 1 by rw [List.length_map, List.length_take, HPL.out]; omega]
              exact OS7.out
            case measure => simp [intOf]; omega
          · obtain rfl : m = j := by omega
            have HXM := Lib.hid (show X.take m = X from List.take_of_length_le (by rw [HPL.out]; exact Nat.le_refl _))
            rw [HXM.out] at OS
            have HM4 := Lib.hid (RdI.of_own (xs := X.map (W - ·)) OS.out)
            have HK5 := Lib.hid (HK3.out.tr HK4.out)
            have hMM : ∀ x ∈ X.map (W - ·), 0 ≤ x ∧ x ≤ W := fun x hx => by
              obtain ⟨y, hy, rfl⟩ := List.mem_map.1 hx
              have := HMEM.out y hy
              omega
            have hE2 := fetE_two (b := b) (z := z) (show X.length = (X.map (W - ·)).length by simp) HMEM.out hMM
            have FE1 := fun w0 (k : Kp No wr w0) => Feet_any W A m c X b z w0 (HA4.out.no k) (by omega)
            have FE2 := fun w0 (k : Kp No wr w0) => Feet_any W A1 m c1 (X.map (W - ·)) b z w0 (HM4.out.no k) (by omega)
            have FE3 := fun w0 (k : Kp No wr w0) => Feet_any W A m c X b 0 w0 (HA4.out.no k) (by omega)
            unfold FetR OwL at FE1 FE2 FE3
            by_cases hE : fetE W X b z = 0
            rotate_left
            · rw [hE2] at FE2
              have hne : (fetE W X b z != 0) = true := by simp [hE]
              have hee : (fetE W X b z != fetE W X b z) = false := by simp
              have hee2 : (fetE W X b z == fetE W X b z) = true := by simp
              generalize fetE W X b z = E1 at *
              generalize fetE W X b 0 = E3 at *
              generalize fetL W X b z = L1 at *
              generalize fetL W (X.map (W - ·)) b z = L4 at *
              generalize fetL W X b 0 = L3 at *
              have FE1 := Lib.hid FE1
              have FE2 := Lib.hid FE2
              have FE3 := Lib.hid FE3
              clear hE hE2 hMM
              go_wp2_with fail
              refine (FE1.out _ (Kp.refl _ _)).mono ?_
              rintro e w8 ⟨A8, c8, rfl, _, k8⟩
              have K8 := Lib.hid k8
              have HBX8 := Lib.hid (k8.heap HBX4.out id)
              clear k8 p0 p1 p2 p3
              obtain ⟨p0, p1, p2, p3⟩ := row_cells HBX8.out
              go_wp2_with fail
              refine (FE2.out _ K8.out).mono ?_
              rintro e w9 ⟨A9, c9, rfl, _, k9⟩
              have K9 := Lib.hid (K8.out.tr k9)
              have HBX9 := Lib.hid (k9.heap HBX8.out id)
              clear k9 p0 p1 p2 p3
              obtain ⟨p0, p1, p2, p3⟩ := row_cells HBX9.out
              go_wp2_with fail
              refine (FE3.out _ K9.out).mono ?_
              rintro e w10 ⟨A10, c10, rfl, _, k10⟩
              have K10 := Lib.hid (K9.out.tr k10)
              clear k10 p0 p1 p2 p3
              go_wp2_with fail
              refine (awake_any _).mono ?_
              rintro e w11 ⟨rfl, k11⟩
              go_wp2_with fail
              go_ret
              exact ⟨rfl, HK5.out.tr (K10.out.tr k11)⟩
            have hE3 := fetE_zero hE
            have hl2 := fetL_two hE (by rw [hE2]; exact hE)
            have hl3 := fetL_zero hE3
            rw [hE2, hE, hl2] at FE2
            rw [hE] at FE1
            rw [hE3, hl3, HPL.out] at FE3
            have hl1 : (fetL W X b z).length = m := by unfold fetL; rw [if_pos hE, List.length_map]; exact HPL.out
            rw [hl1] at FE1 FE2
            simp only [List.length_replicate] at FE3
            generalize fetL W X b z = L1 at *
            have HL1 := Lib.hid hl1
            have FE1 := Lib.hid FE1
            have FE2 := Lib.hid FE2
            have FE3 := Lib.hid FE3
            clear hE hE2 hE3 hl2 hl3 hl1 hMM
            go_wp2_with fail
            refine (FE1.out _ (Kp.refl _ _)).mono ?_
            rintro e w8 ⟨A8, c8, rfl, o8, k8⟩
            have K8 := Lib.hid k8
            have HBX8 := Lib.hid (k8.heap HBX4.out id)
            have R8 := Lib.hid (RdI.of_own (xs := L1) o8)
            clear k8 p0 p1 p2 p3 o8
            obtain ⟨p0, p1, p2, p3⟩ := row_cells HBX8.out
            go_wp2_with fail
            refine (FE2.out _ K8.out).mono ?_
            rintro e w9 ⟨A9, c9, rfl, o9, k9⟩
            have K9 := Lib.hid (K8.out.tr k9)
            have HBX9 := Lib.hid (k9.heap HBX8.out id)
            have R9 := Lib.hid (RdI.of_own (xs := L1) o9)
            replace R8 := Lib.hid (R8.out.no k9)
            clear k9 p0 p1 p2 p3 o9
            obtain ⟨p0, p1, p2, p3⟩ := row_cells HBX9.out
            go_wp2_with fail
            refine (FE3.out _ K9.out).mono ?_
            rintro e w10 ⟨A10, c10, rfl, o10, k10⟩
            have K10 := Lib.hid (K9.out.tr k10)
            have HBX10 := Lib.hid (k10.heap HBX9.out id)
            have R10 := Lib.hid (RdI.of_own (xs := List.replicate m b) o10)
            replace R8 := Lib.hid (R8.out.no k10)
            replace R9 := Lib.hid (R9.out.no k10)
            clear k10 p0 p1 p2 p3 o10
            go_wp2_with fail
            go_loopw [20] (fun i wr => ∃ j : Nat, j ≤ m ∧ i = .int .i64 (j : Nat) ∧ ∃ n1, wr = w10.drewN n1) (fun i _ => m - (intOf i).toNat)
            case atStart => exact ⟨0, by omega, rfl, 0, rfl⟩
            case round =>
              obtain ⟨j, hj, rfl, n3, hq3⟩ := hrel
              have HQ3 := Lib.hid hq3
              have k11 : Kp No w10 wr := by rw [hq3]; exact Kp.drewN _ _ _
              have HBX11 := Lib.hid (k11.heap HBX10.out id)
              obtain ⟨p0, p1, p2, p3⟩ := row_cells HBX11.out
              have HK11 := Lib.hid k11
              clear hq3 k11
              by_cases hlt : j < m
              · obtain ⟨o1, q1, rfl, _, c1⟩ := (R10.out.no HK11.out).2 j b (by rw [List.getElem?_replicate, if_pos hlt])
                have d1 : ((b : Int) != b) = false := by simp
                go_wp2_with fail
                go_quiet (fail)
                go_wp2_with fail
                go_roundw
                case rel => exact ⟨j + 1, by omega, by go_num, n3 + nq, by rw [HQ3.out, World.drewN_drewN]⟩
                case measure => simp [intOf]; omega
              · have SS := sameL_any A8 A9 m m c8 c9 L1 L1 wr (by omega) (by omega) (R8.out.no HK11.out) (R9.out.no HK11.out)
                rw [show decide (L1 = L1) = true from decide_eq_true rfl] at SS
                have SS := Lib.hid SS
                clear p0 p1 p2 p3
                go_wp2_with fail
                refine SS.out.mono ?_
                clear SS
                rintro e w12 ⟨rfl, q12, hw12⟩
                have k12 : Kp No wr w12 := by rw [hw12]; exact Kp.drewN No _ _
                have K12 := Lib.hid (HK5.out.tr (K10.out.tr (HK11.out.tr k12)))
                clear hw12 k12
                go_wp2_with fail
                refine (awake_any _).mono ?_
                rintro e w13 ⟨rfl, k13⟩
                go_wp2_with fail
                go_ret
                exact ⟨rfl, K12.out.tr k13⟩
  · go_enter Try.func7, Try.ntmps7
    go_wp2_with fail
    refine FI.out.mono ?_
    rintro e w1 ⟨A, c, rfl, ho, k1⟩
    replace HK := Lib.hid (HK.out.tr k1)
    replace HBX := Lib.hid (k1.heap HBX.out id)
    replace HR := Lib.hid (HR.out.no k1)
    have HA := Lib.hid (RdI.of_own (xs := X) (by unfold OwL at ho; rw [HPL.out] at ho; exact ho))
    clear k1 FI ho p0 p1 p2 p3
    obtain ⟨p0, p1, p2, p3⟩ := row_cells HBX.out
    go_wp2_with fail
    clear p0 p1 p2 p3
    go_loopw [8] (fun i wr => ∃ j : Nat, 1 ≤ j ∧ j ≤ 60 ∧ i = .int .i64 (j : Nat) ∧ ∃ n1, wr = w1.drewN n1) (fun i _ => 100 - (intOf i).toNat)
    case atStart => exact ⟨1, by omega, by omega, rfl, 0, rfl⟩
    case round =>
      obtain ⟨j, hj, hj6, rfl, n1, hq1⟩ := hrel
      have HQ := Lib.hid hq1
      have k2 : Kp No w1 wr := by rw [hq1]; exact Kp.drewN _ _ _
      have HBX2 := Lib.hid (k2.heap HBX.out id)
      have HR2 := Lib.hid (HR.out.no k2)
      have HA2 := Lib.hid (HA.out.no k2)
      have HK2 := Lib.hid (HK.out.tr k2)
      clear hq1 k2
      obtain ⟨p0, p1, p2, p3⟩ := row_cells HBX2.out
      by_cases hlt : j < m
      · omega
      · obtain ⟨V, hV⟩ : ∃ V, min (W + (q : Int)) 10000000 = V := ⟨_, rfl⟩
        have hVe : (if W + (q : Int) < 10000000 then W + (q : Int) else 10000000) = V := by rw [← hV]; split <;> omega
        have hVf : (if (10000000 : Int) < W + (q : Int) then 10000000 else W + (q : Int)) = V := by rw [← hV]; split <;> omega
        obtain ⟨hv1, hv2⟩ := HW2.out V (by omega) (by omega)
        have F2 := Fill_any V R m cr r wr HR2.out (by omega)
        unfold FilR at F2
        rw [hv1] at F2
        generalize filG V r = G2 at *
        generalize filL V r = L2 at *
        have F2 := Lib.hid F2
        clear hv1
        go_wp2_with fail
        refine F2.out.mono ?_
        rintro e w3 ⟨A3, c3, rfl, _, k3⟩
        have HK3 := Lib.hid (HK2.out.tr k3)
        have HBX3 := Lib.hid (k3.heap HBX2.out id)
        have HA3 := Lib.hid (HA2.out.no k3)
        clear k3 F2 p0 p1 p2 p3 hVe hVf hV
        go_wp2_with fail
        go_loopw [12, 13] (fun v i wr => ∃ (j : Nat) (A1 : Option Addr) (c1 : Nat), j ≤ m ∧ i = .int .i64 (j : Nat) ∧ v = .slice A1 j c1 ∧ OwL wr w3.heap.size (.slice A1 j c1) ((X.take j).map (W - ·)) ∧ Kp No w3 wr) (fun _ i _ => m - (intOf i).toNat)
        case atStart => exact ⟨0, none, 0, by omega, rfl, rfl, World.ownsRow_nil _ _ _ _, Kp.refl _ _⟩
        case round =>
          obtain ⟨j, A1, c1, hj, rfl, rfl, hown, hkp⟩ := hrel
          have HK4 := Lib.hid hkp
          have HBX4 := Lib.hid (hkp.heap HBX3.out id)
          have HA4 := Lib.hid (HA3.out.no hkp)
          have HLJ := Lib.hid (show ((X.take j).map (W - ·)).length = j by rw [List.length_map, List.length_take, HPL.out]; omega)
          unfold OwL at hown
          rw [HLJ.out] at hown
          have OS := Lib.hid hown
          clear hown hkp
          obtain ⟨p0, p1, p2, p3⟩ := row_cells HBX4.out
          by_cases hlt : j < m
          · omega
          · obtain rfl : m = j := by omega
            have HXM := Lib.hid (show X.take m = X from List.take_of_length_le (by rw [HPL.out]; exact Nat.le_refl _))
            rw [HXM.out] at OS
            have HM4 := Lib.hid (RdI.of_own (xs := X.map (W - ·)) OS.out)
            have HK5 := Lib.hid (HK3.out.tr HK4.out)
            have hMM : ∀ x ∈ X.map (W - ·), 0 ≤ x ∧ x ≤ W := fun x hx => by
              obtain ⟨y, hy, rfl⟩ := List.mem_map.1 hx
              have := HMEM.out y hy
              omega
            have hE2 := fetE_two (b := b) (z := z) (show X.length = (X.map (W - ·)).length by simp) HMEM.out hMM
            have FE1 := fun w0 (k : Kp No wr w0) => Feet_any W A m c X b z w0 (HA4.out.no k) (by omega)
            have FE2 := fun w0 (k : Kp No wr w0) => Feet_any W A1 m c1 (X.map (W - ·)) b z w0 (HM4.out.no k) (by omega)
            have FE3 := fun w0 (k : Kp No wr w0) => Feet_any W A m c X b 0 w0 (HA4.out.no k) (by omega)
            unfold FetR OwL at FE1 FE2 FE3
            by_cases hE : fetE W X b z = 0
            rotate_left
            · rw [hE2] at FE2
              have hne : (fetE W X b z != 0) = true := by simp [hE]
              have hee : (fetE W X b z != fetE W X b z) = false := by simp
              have hee2 : (fetE W X b z == fetE W X b z) = true := by simp
              generalize fetE W X b z = E1 at *
              generalize fetE W X b 0 = E3 at *
              generalize fetL W X b z = L1 at *
              generalize fetL W (X.map (W - ·)) b z = L4 at *
              generalize fetL W X b 0 = L3 at *
              have FE1 := Lib.hid FE1
              have FE2 := Lib.hid FE2
              have FE3 := Lib.hid FE3
              clear hE hE2 hMM
              go_wp2_with fail
              refine (FE1.out _ (Kp.refl _ _)).mono ?_
              rintro e w8 ⟨A8, c8, rfl, _, k8⟩
              have K8 := Lib.hid k8
              have HBX8 := Lib.hid (k8.heap HBX4.out id)
              clear k8 p0 p1 p2 p3
              obtain ⟨p0, p1, p2, p3⟩ := row_cells HBX8.out
              go_wp2_with fail
              refine (FE2.out _ K8.out).mono ?_
              rintro e w9 ⟨A9, c9, rfl, _, k9⟩
              have K9 := Lib.hid (K8.out.tr k9)
              have HBX9 := Lib.hid (k9.heap HBX8.out id)
              clear k9 p0 p1 p2 p3
              obtain ⟨p0, p1, p2, p3⟩ := row_cells HBX9.out
              go_wp2_with fail
              refine (FE3.out _ K9.out).mono ?_
              rintro e w10 ⟨A10, c10, rfl, _, k10⟩
              have K10 := Lib.hid (K9.out.tr k10)
              clear k10 p0 p1 p2 p3
              go_wp2_with fail
              refine (awake_any _).mono ?_
              rintro e w11 ⟨rfl, k11⟩
              go_wp2_with fail
              go_ret
              exact ⟨rfl, HK5.out.tr (K10.out.tr k11)⟩
            have hE3 := fetE_zero hE
            have hl2 := fetL_two hE (by rw [hE2]; exact hE)
            have hl3 := fetL_zero hE3
            rw [hE2, hE, hl2] at FE2
            rw [hE] at FE1
            rw [hE3, hl3, HPL.out] at FE3
            have hl1 : (fetL W X b z).length = m := by unfold fetL; rw [if_pos hE, List.length_map]; exact HPL.out
            rw [hl1] at FE1 FE2
            simp only [List.length_replicate] at FE3
            generalize fetL W X b z = L1 at *
            have HL1 := Lib.hid hl1
            have FE1 := Lib.hid FE1
            have FE2 := Lib.hid FE2
            have FE3 := Lib.hid FE3
            clear hE hE2 hE3 hl2 hl3 hl1 hMM
            go_wp2_with fail
            refine (FE1.out _ (Kp.refl _ _)).mono ?_
            rintro e w8 ⟨A8, c8, rfl, o8, k8⟩
            have K8 := Lib.hid k8
            have HBX8 := Lib.hid (k8.heap HBX4.out id)
            have R8 := Lib.hid (RdI.of_own (xs := L1) o8)
            clear k8 p0 p1 p2 p3 o8
            obtain ⟨p0, p1, p2, p3⟩ := row_cells HBX8.out
            go_wp2_with fail
            refine (FE2.out _ K8.out).mono ?_
            rintro e w9 ⟨A9, c9, rfl, o9, k9⟩
            have K9 := Lib.hid (K8.out.tr k9)
            have HBX9 := Lib.hid (k9.heap HBX8.out id)
            have R9 := Lib.hid (RdI.of_own (xs := L1) o9)
            replace R8 := Lib.hid (R8.out.no k9)
            clear k9 p0 p1 p2 p3 o9
            obtain ⟨p0, p1, p2, p3⟩ := row_cells HBX9.out
            go_wp2_with fail
            refine (FE3.out _ K9.out).mono ?_
            rintro e w10 ⟨A10, c10, rfl, o10, k10⟩
            have K10 := Lib.hid (K9.out.tr k10)
            have HBX10 := Lib.hid (k10.heap HBX9.out id)
            have R10 := Lib.hid (RdI.of_own (xs := List.replicate m b) o10)
            replace R8 := Lib.hid (R8.out.no k10)
            replace R9 := Lib.hid (R9.out.no k10)
            clear k10 p0 p1 p2 p3 o10
            go_wp2_with fail
            go_loopw [20] (fun i wr => ∃ j : Nat, j ≤ m ∧ i = .int .i64 (j : Nat) ∧ ∃ n1, wr = w10.drewN n1) (fun i _ => m - (intOf i).toNat)
            case atStart => exact ⟨0, by omega, rfl, 0, rfl⟩
            case round =>
              obtain ⟨j, hj, rfl, n3, hq3⟩ := hrel
              have HQ3 := Lib.hid hq3
              have k11 : Kp No w10 wr := by rw [hq3]; exact Kp.drewN _ _ _
              have HBX11 := Lib.hid (k11.heap HBX10.out id)
              obtain ⟨p0, p1, p2, p3⟩ := row_cells HBX11.out
              have HK11 := Lib.hid k11
              clear hq3 k11
              by_cases hlt : j < m
              · omega
              · have SS := sameL_any A8 A9 m m c8 c9 L1 L1 wr (by omega) (by omega) (R8.out.no HK11.out) (R9.out.no HK11.out)
                rw [show decide (L1 = L1) = true from decide_eq_true rfl] at SS
                have SS := Lib.hid SS
                clear p0 p1 p2 p3
                go_wp2_with fail
                refine SS.out.mono ?_
                clear SS
                rintro e w12 ⟨rfl, q12, hw12⟩
                have k12 : Kp No wr w12 := by rw [hw12]; exact Kp.drewN No _ _
                have K12 := Lib.hid (HK5.out.tr (K10.out.tr (HK11.out.tr k12)))
                clear hw12 k12
                go_wp2_with fail
                refine (awake_any _).mono ?_
                rintro e w13 ⟨rfl, k13⟩
                go_wp2_with fail
                go_ret
                exact ⟨rfl, K12.out.tr k13⟩
end Go.Proofs.Ytakgcnjpmpcekaa
