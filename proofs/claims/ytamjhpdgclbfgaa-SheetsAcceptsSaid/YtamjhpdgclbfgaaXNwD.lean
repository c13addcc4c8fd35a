/- Chapter 09: stack: the walk. Printed by gen_nwd.py. -/
import Derived.Deep.CutRange
import Derived.Test.YtamjhpdgclbfgaaXNwC
namespace Go.Proofs.Ytamjhpdgclbfgaa
open Go.RowKit Go.Kq

theorem news1 {w : World} {g : Nat} {x : Value} (h : w.cell? ⟨g, 0, none⟩ = some x) : ∀ j u, [x][j]? = some u → w.cell? ((⟨g, 0, none⟩ : Addr).add j) = some u := fun j u hj => by
  match j, hj with
  | 0, hj =>
    simp at hj
    subst hj
    rw [add_at]
    exact h
theorem int_one (x : Int) : ∀ u ∈ [Value.int .i64 x], u.oneCell' = true := fun u hu => by
  simp at hu
  subst hu
  rfl
theorem set_same {α : Type} {l : List α} {k : Nat} {x : α} (h : l[k]? = some x) : l.set k x = l := by
  obtain ⟨hk, rfl⟩ := List.getElem?_eq_some_iff.1 h
  exact List.set_getElem_self hk
theorem infoN : (Try.prog.info? 3).map (fun i => (i.zero, i.size, i.bytes)) = some (some (.int .i64 0), 1, 8) := by kernel_rfl
def BOk (B : Bst) : Prop := ∀ b c d, B = some (b, c, d) → b.length ≤ 8
def NSt (nb : Nat) (P : Pt) (A : Option Addr) (n ca : Nat) (l : List Ct) (S O : List Nat) (W H U : List Int) (B : Bst) (w : World) : Prop := ∃ vS vO vW vH vU bv l0 l1, NW nb P A n ca l (mkF vS S vO O vW W vH H vU U) bv l0 l1 B w
theorem keep_ok {P : Pt} {n : Nat} {l : List Ct} {S O : List Nat} {H U : List Int} {B : Bst} (h : NOk P n l S O H U) (hB : BOk B) : BOk (keepF P.k l S O H U B) := fun b c d e => by
  have hl : (spotsF P.k l S O H U.length).length ≤ 8 := by
    unfold spotsF
    rw [spF_len, List.length_zip, h.sl, h.len]
    have := h.n8
    omega
  unfold keepF at e
  match B, hB with
  | none, hB =>
    cases e
    exact hl
  | some (b', c', d'), hB =>
    simp only at e
    split at e
    · cases e
      exact hl
    · exact hB b c d e
def SF (P : Pt) (l : List Ct) (S : List Nat) (H : List Int) (O : List Nat) (U : List Int) (B : Bst) : Bst := stackF P l S H (H.drop O.length) O U B
def SG (P : Pt) (l : List Ct) (S : List Nat) (H : List Int) (O : List Nat) (U : List Int) (h : Int) (k : Nat) (B : Bst) : Bst := (List.range k).foldl (fun B on => if P.h < U.getD on 0 + P.k + h then B else SF P l S H (O ++ [on]) (U.set on (U.getD on 0 + P.k + h)) B) B
theorem SF_pruned {P : Pt} {l : List Ct} {S : List Nat} {H : List Int} {O : List Nat} {U : List Int} {B : Bst} (h : prunedB U B = true) : SF P l S H O U B = B := by
  unfold SF
  cases H.drop O.length <;> simp [stackF, h]
theorem SF_end {P : Pt} {l : List Ct} {S : List Nat} {H : List Int} {O : List Nat} {U : List Int} {B : Bst} (h : prunedB U B = false) (hO : O.length = H.length) : SF P l S H O U B = keepF P.k l S O H U B := by
  unfold SF
  rw [List.drop_of_length_le (by omega)]
  simp [stackF, h]
theorem SF_cons {P : Pt} {l : List Ct} {S : List Nat} {H : List Int} {O : List Nat} {U : List Int} {B : Bst} {x : Int} (h : prunedB U B = false) (hx : H[O.length]? = some x) : SF P l S H O U B = SF P l S H (O ++ [U.length]) (U ++ [x]) (SG P l S H O U x U.length B) := by
  unfold SG SF
  rw [drop_at hx]
  simp only [stackF, List.length_append, List.length_singleton]
  rw [if_neg (by rw [h]; simp)]
theorem SG_succ {P : Pt} {l : List Ct} {S : List Nat} {H : List Int} {O : List Nat} {U : List Int} {B : Bst} {x : Int} (k : Nat) : SG P l S H O U x (k + 1) B = if P.h < U.getD k 0 + P.k + x then SG P l S H O U x k B else SF P l S H (O ++ [k]) (U.set k (U.getD k 0 + P.k + x)) (SG P l S H O U x k B) := by
  unfold SG
  rw [List.range_succ, List.foldl_append]
  rfl
theorem NOk.push {P : Pt} {n : Nat} {l : List Ct} {S O : List Nat} {H U : List Int} (h : NOk P n l S O H U) {x : Int} (hx : H[O.length]? = some x) : NOk P n l S (O ++ [U.length]) H (U ++ [x]) := by
  have hlt := (List.getElem?_eq_some_iff.1 hx).1
  refine ⟨h.n8, h.len, h.sl, h.ss, h.hl, h.hb, by simp; omega, fun o ho => ?_, by simp; exact h.ul, fun u hu => ?_, h.cb, h.kb, h.hh⟩
  · simp at ho
    rcases ho with ho | rfl
    · have := h.so o ho; simp; omega
    · simp
  · simp at hu
    rcases hu with hu | rfl
    · exact h.ub u hu
    · exact h.hb _ (List.mem_of_getElem? hx)
theorem NOk.put {P : Pt} {n : Nat} {l : List Ct} {S O : List Nat} {H U : List Int} (h : NOk P n l S O H U) (hlt : O.length < H.length) {k : Nat} (hk : k < U.length) {v : Int} (hv : 0 ≤ v ∧ v ≤ 20000000) : NOk P n l S (O ++ [k]) H (U.set k v) := by
  refine ⟨h.n8, h.len, h.sl, h.ss, h.hl, h.hb, by simp; omega, fun o ho => ?_, by simp; have := h.ul; omega, bdL_set h.ub (Int.le_refl _) k hv, h.cb, h.kb, h.hh⟩
  simp at ho
  rw [List.length_set]
  rcases ho with ho | rfl
  · exact h.so o ho
  · exact hk
set_option maxHeartbeats 16000000 in
set_option maxRecDepth 100000 in
theorem stack_step (P : Pt) (A : Option Addr) (n ca : Nat) (l : List Ct) (S O : List Nat) (W H U : List Int) (B : Bst) (nb : Nat) (w : World)
    (IH : ∀ (O' : List Nat) (U' : List Int) (B' : Bst) (w' : World), O'.length = O.length + 1 → O'.length ≤ H.length → NSt nb P A n ca l S O' W H U' B' w' → NOk P n l S O' H U' → BOk B' → Calls Try.prog 57 #[.pointer (some ⟨nb, 0, none⟩), .int .i64 (O'.length : Nat)] w' fun e w'' => e = .returned (.tuple #[]) ∧ NSt nb P A n ca l S O' W H U' (SF P l S H O' U' B') w'' ∧ BOk (SF P l S H O' U' B') ∧ Kp (Sn nb w') w' w'')
    (hN : NSt nb P A n ca l S O W H U B w) (hK : NOk P n l S O H U) (hB : BOk B) :
    Calls Try.prog 57 #[.pointer (some ⟨nb, 0, none⟩), .int .i64 (O.length : Nat)] w fun e w' => e = .returned (.tuple #[]) ∧ NSt nb P A n ca l S O W H U (SF P l S H O U B) w' ∧ BOk (SF P l S H O U B) ∧ Kp (Sn nb w) w w' := by
  obtain ⟨i0, hi0, hz0, hz1, hz2⟩ := info_parts infoN
  obtain ⟨i1, hi1, hy0, hy1, hy2⟩ := info_parts infoL
  have HOK := Lib.hid hK
  have HBO := Lib.hid hB
  have HIH := Lib.hid IH
  have HN0 := Lib.hid hN
  obtain ⟨xS, xO, xW, xH, xU, xb, x0, x1, hN1⟩ := hN
  have HN := Lib.hid hN1
  have oH : w.ownsRow (nb + 1) 2 1 xH H.length (H.map i64V) := hN1.own 3 (by decide)
  have oU : w.ownsRow (nb + 1) 2 1 xU U.length (U.map i64V) := hN1.own 4 (by decide)
  obtain ⟨yH, zH, rfl, _, _, _⟩ := own_form oH
  obtain ⟨yU, zU, rfl, _, _, _⟩ := own_form oU
  have b7 : w.cell? ⟨nb, 7, none⟩ = some (.slice yH H.length zH) := by rw [cell_of_row _ _ _ _ _ _ hN1.box]; rfl
  have b8 : w.cell? ⟨nb, 8, none⟩ = some (.slice yU U.length zU) := by rw [cell_of_row _ _ _ _ _ _ hN1.box]; rfl
  have b10 : w.cell? ⟨nb, 10, none⟩ = some xb := by rw [cell_of_row _ _ _ _ _ _ hN1.box]; rfl
  have b11 : w.cell? ⟨nb, 11, none⟩ = some (.int .i64 x0) := by rw [cell_of_row _ _ _ _ _ _ hN1.box]; rfl
  have hul : U.length ≤ 8 := by have := hK.ul; have := hK.ol; have := hK.hl; have := hK.n8; omega
  have hol : O.length ≤ H.length := hK.ol
  have hhl : H.length ≤ 8 := by have := hK.hl; have := hK.n8; omega
  have hbst := hN1.bst
  -- whether it is pruned
  have hpr : ∃ a m c, xb = .slice a m c ∧ prunedB U B = (!a.isNone && decide (x0 < (U.length : Int))) := by
    cases B with
    | none =>
      have hbv : xb = .slice none 0 0 := hbst
      subst hbv
      exact ⟨none, 0, 0, rfl, by simp [prunedB]⟩
    | some q =>
      obtain ⟨b, c, d⟩ := q
      obtain ⟨⟨g, cp, rfl⟩, _, rfl, rfl⟩ := hbst
      exact ⟨_, _, _, rfl, by simp [prunedB]⟩
  obtain ⟨av, mv, cv, rfl, hp1⟩ := hpr
  have HPR := Lib.hid hp1
  have hneq : ∀ W : World, (binOp .neq 26 (.slice av mv cv) (.slice none 0 0)).run Try.prog W = .ok (.bool (!av.isNone)) W := fun W => neq_nil _ _ _ W
  clear hN1 oH oU hbst hp1 IH hK hB
  generalize (!av.isNone) = q0 at hneq HPR
  cases hpb : prunedB U B with
  | true =>
    have HSP := Lib.hid (SF_pruned (P := P) (l := l) (S := S) (H := H) (O := O) hpb)
    rw [hpb] at HPR
    have hq1 := (Bool.and_eq_true _ _).mp HPR.out.symm
    obtain ⟨hq0, hq1⟩ := hq1
    subst hq0
    have hlt : x0 < (U.length : Int) := of_decide_eq_true hq1
    clear hq1 HPR
    clear hpb
    go_enter Try.func57, Try.ntmps57
    go_wp2_with fail
    go_quiet (fail)
    go_wp2_with fail
    refine bodyPost_ret (results_none rfl _ _ _) rfl ?_
    refine ⟨rfl, ?_, by rw [HSP.out]; exact HBO.out, Kp.drewN _ _ _⟩
    rw [HSP.out]
    obtain ⟨vS, vO, vW, vH, vU, bv, l0, l1, h1⟩ := HN0.out
    exact ⟨vS, vO, vW, vH, vU, bv, l0, l1, h1.no (Kp.drewN _ _ _)⟩
  | false =>
    have HPB := Lib.hid hpb
    rw [hpb] at HPR
    clear hpb
    -- the test ahead: not pruned
    have hcond : q0 = false ∨ (q0 = true ∧ ¬ x0 < (U.length : Int)) := by
      rcases (Bool.and_eq_false_iff).mp HPR.out.symm with h | h
      · exact .inl h
      · cases q0 with
        | false => exact .inl rfl
        | true => exact .inr ⟨rfl, of_decide_eq_false h⟩
    clear HPR
    have HEND : ∀ w1, Kp No w w1 → O.length = H.length → Calls Try.prog 85 #[.pointer (some ⟨nb, 0, none⟩)] w1 fun e w' => e = .returned (.tuple #[]) ∧ NSt nb P A n ca l S O W H U (keepF P.k l S O H U B) w' ∧ Kp (Sn nb w) w w' := fun w1 hk hOl =>
      (keep_any P A n ca l xS xO xW _ _ S O W H U _ x0 x1 B nb w1 (HN.out.no hk) HOK.out hOl HBO.out).mono fun e w' h => by
        obtain ⟨h1, ⟨bv', l0', l1', h2⟩, h3⟩ := h
        exact ⟨h1, ⟨_, _, _, _, _, _, _, _, h2⟩, sn_tr (hk.of_no) h3⟩
    replace HEND := Lib.hid HEND
    have HCO := Lib.hid hcond
    have HNEQ := Lib.hid hneq
    clear hcond hneq
    go_enter Try.func57, Try.ntmps57
    go_upto_region 0 with fail
    go_cut [23] from 6 to 23 (fun s wx => s = .bool false ∧ ∃ nq, wx = w.drewN nq)
    case first =>
      have hneq := HNEQ.out
      rcases HCO.out with rfl | ⟨rfl, hlt⟩
      · go_wp2_with fail
        go_quiet (fail)
        go_wp2_with fail
        go_meet
        exact ⟨rfl, nq, rfl⟩
      · have hlt' : decide (x0 < (U.length : Int)) = false := decide_eq_false hlt
        go_wp2_with fail
        go_quiet (fail)
        go_wp2_with fail
        go_meet
        exact ⟨rfl, nq, rfl⟩
    case rest =>
      obtain ⟨rfl, nq, rfl⟩ := hcut
      clear HCO HNEQ
      have HKq := Lib.hid (Kp.drewN No w nq)
      have b7q := HKq.out.cell b7 id
      have b8q := HKq.out.cell b8 id
      have HNq := Lib.hid (HN.out.no HKq.out)
      clear b7 b8 b10 b11
      generalize w.drewN nq = w1 at *
      by_cases hke : O.length = H.length
      · have HSP := Lib.hid (SF_end (P := P) (l := l) (S := S) HPB.out hke)
        have hke' : ((O.length : Nat) : Int) = (H.length : Nat) := by omega
        clear HN HNq
        go_wp2_with fail
        with_reducible refine (HEND.out w1 HKq.out hke).mono ?_
        rintro e w2 ⟨rfl, hN2, hk2⟩
        clear hke hke'
        go_wp2_with fail
        refine bodyPost_ret (results_none rfl _ _ _) rfl ?_
        exact ⟨rfl, by rw [HSP.out]; exact hN2, by rw [HSP.out]; exact keep_ok HOK.out HBO.out, hk2⟩
      · have hko : O.length < H.length := by omega
        have hke' : ¬ ((O.length : Nat) : Int) = (H.length : Nat) := by omega
        obtain ⟨h, hh⟩ : ∃ h, H[O.length]? = some h := ⟨_, List.getElem?_eq_getElem hko⟩
        have HSP := Lib.hid (SF_cons (P := P) (l := l) (S := S) HPB.out hh)
        have HHK := Lib.hid (show (H.map i64V)[O.length]? = some (.int .i64 h) from map_at' i64V hh)
        have hhb := HOK.out.hb h (List.mem_of_getElem? hh)
        have HPU := Lib.hid (HOK.out.push hh)
        have HKB := Lib.hid HOK.out.kb
        have HHH := Lib.hid HOK.out.hh
        have hke2 : (((O.length : Nat) : Int) == ((H.length : Nat) : Int)) = false := by rw [beq_eq_false_iff_ne]; omega
        clear HN HEND hh
        go_wp2_with fail
        clear b7q b8q hke' hke2
        go_loopw [4] (fun v wr => ∃ k : Nat, k ≤ U.length ∧ v = .int .i64 k ∧ NSt nb P A n ca l S O W H U (SG P l S H O U h k B) wr ∧ BOk (SG P l S H O U h k B) ∧ Kp (Sn nb w) w wr) (fun v _ => U.length + 1 - (intOf v).toNat)
        case atStart => exact ⟨0, by omega, rfl, ⟨_, _, _, _, _, _, _, _, HNq.out⟩, HBO.out, HKq.out.of_no⟩
        case round =>
          obtain ⟨k, hk, rfl, hNr, hBr, hkr⟩ := hrel
          clear HNq HN0 HKq
          obtain ⟨B2, hB2⟩ : ∃ B2, B2 = SG P l S H O U h k B := ⟨_, rfl⟩
          rw [← hB2] at hNr hBr
          have HB2 := Lib.hid hB2
          clear hB2
          obtain ⟨vS, vO, vW, vH, vU, bv, l0, l1, hN⟩ := hNr
          have oH : wr.ownsRow (nb + 1) 2 1 vH H.length (H.map i64V) := hN.own 3 (by decide)
          have oU : wr.ownsRow (nb + 1) 2 1 vU U.length (U.map i64V) := hN.own 4 (by decide)
          have oO : wr.ownsRow (nb + 1) 3 1 vO O.length (O.map natI) := hN.own 1 (by decide)
          obtain ⟨aH, cH, rfl, _, _, hgH⟩ := own_form oH
          obtain ⟨gH, rfl⟩ := hgH (by omega)
          obtain ⟨aU, cU, rfl, hcU, _, hgU⟩ := own_form oU
          obtain ⟨aO, cO, rfl, hcO, _, hgO⟩ := own_form oO
          have b7 : wr.cell? ⟨nb, 7, none⟩ = some (.slice (some ⟨gH, 0, none⟩) H.length cH) := by rw [cell_of_row _ _ _ _ _ _ hN.box]; rfl
          have b8 : wr.cell? ⟨nb, 8, none⟩ = some (.slice aU U.length cU) := by rw [cell_of_row _ _ _ _ _ _ hN.box]; rfl
          have b1 : wr.cell? ⟨nb, 1, none⟩ = some (.int .i64 P.h) := by rw [cell_of_row _ _ _ _ _ _ hN.box]; rfl
          have b2 : wr.cell? ⟨nb, 2, none⟩ = some (.int .i64 P.k) := by rw [cell_of_row _ _ _ _ _ _ hN.box]; rfl
          have cH' : wr.cell? ⟨gH, O.length, none⟩ = some (.int .i64 h) := own_cell oH HHK.out
          have HN := Lib.hid hN
          have HBR := Lib.hid hBr
          have HKR := Lib.hid hkr
          by_cases hlt : k < U.length
          · obtain ⟨gU, rfl⟩ := hgU (by omega)
            obtain ⟨uv, huv⟩ : ∃ uv, uv = U.getD k 0 := ⟨_, rfl⟩
            have hub := bdL_at HOK.out.ub (by omega) k
            rw [← huv] at hub
            have HUK := Lib.hid (show (U.map i64V)[k]? = some (.int .i64 uv) from map_at' i64V (by rw [huv]; exact getD_at' hlt))
            have cU' : wr.cell? ⟨gU, k, none⟩ = some (.int .i64 uv) := own_cell oU HUK.out
            have HUV := Lib.hid huv
            have hkb := HKB.out
            have hhh := HHH.out
            clear huv hN oH oU oO hgU hgO hgH hBr hkr
            have hkl : ¬ ((k : Nat) : Int) = (U.length : Nat) := by omega
            by_cases hgt : P.h < uv + P.k + h
            · have HSG := Lib.hid (show SG P l S H O U h (k + 1) B = B2 by rw [SG_succ, ← HUV.out, if_pos hgt, ← HB2.out])
              have hgt' : decide (P.h < uv + P.k + h) = true := decide_eq_true hgt
              go_wp2_with fail
              go_quiet (fail)
              go_wp2_with fail
              go_roundw
              case rel =>
                have hq : Kp No wr (wr.drewN nq) := Kp.drewN _ _ _
                exact ⟨k + 1, by omega, by go_num, by rw [HSG.out]; exact ⟨_, _, _, _, _, _, _, _, HN.out.no hq⟩, by rw [HSG.out]; exact HBR.out, HKR.out.no hq⟩
              case measure => simp [intOf]; omega
            · have HSG := Lib.hid (show SG P l S H O U h (k + 1) B = SF P l S H (O ++ [k]) (U.set k (uv + P.k + h)) B2 by rw [SG_succ, ← HUV.out, if_neg hgt, ← HB2.out])
              have HPT := Lib.hid (HOK.out.put hko hlt (v := uv + P.k + h) (by omega))
              have hgt' : decide (P.h < uv + P.k + h) = false := decide_eq_false hgt
              go_wp2_with fail
              go_quiet (fail)
              have hq : Kp No wr (wr.drewN nq) := Kp.drewN _ _ _
              have HNQ := Lib.hid (HN.out.no hq)
              have HKQ := Lib.hid (HKR.out.no hq)
              clear HN HKR hq b7 b8 b1 b2 cH' cU'
              generalize wr.drewN nq = wq at *
              have hwr1 : IntKind.i64.wrap (uv + P.k) = uv + P.k := IntWalk.i64_in _ (by omega)
              have hwr2 : IntKind.i64.wrap (uv + P.k + h) = uv + P.k + h := IntWalk.i64_in _ (by omega)
              go_wp2_with fail
              refine wp_region_each (fun ix uR => match ix with | 0 => uR = .pointer (some ⟨nb, 0, none⟩) | 1 => uR = .pointer (some ⟨nb, 0, none⟩) | 2 => uR = .pointer (some ⟨nb, 8, none⟩) | 3 => uR = .slice (some ⟨gU, 0, none⟩) U.length cU | 4 => uR = .int .i64 (k : Nat) | 5 => uR = .pointer (some ⟨nb, 0, none⟩) | 6 => uR = .int .i64 uv | 7 => uR = .pointer (some ⟨nb, 0, none⟩) | 8 => uR = .pointer (some ⟨nb, 0, none⟩) | 9 => uR = .pointer (some ⟨nb, 0, none⟩) | 10 => uR = .pointer (some ⟨nb, 0, none⟩) | 11 => uR = .pointer (some ⟨nb, 2, none⟩) | 12 => uR = .int .i64 P.k | 13 => uR = .int .i64 (uv + P.k) | 14 => uR = .pointer (some ⟨nb, 0, none⟩) | 15 => uR = .pointer (some ⟨nb, 0, none⟩) | 16 => uR = .pointer (some ⟨nb, 7, none⟩) | 17 => uR = .slice (some ⟨gH, 0, none⟩) H.length cH | 18 => uR = .int .i64 (O.length : Nat) | 19 => uR = .pointer (some ⟨gH, O.length, none⟩) | 20 => uR = .int .i64 h | 21 => uR = .int .i64 (uv + P.k + h) | 22 => uR = .pointer (some ⟨nb, 0, none⟩) | 23 => uR = .pointer (some ⟨nb, 0, none⟩) | 24 => uR = .pointer (some ⟨nb, 5, none⟩) | 25 => uR = .slice aO O.length cO | 26 => uR = .int .i64 (k : Nat) | 29 => uR = .pointer (some ⟨gU, k, none⟩) | 31 => uR = .pointer (some ⟨nb, 0, none⟩) | 32 => uR = .pointer (some ⟨nb, 5, none⟩) | _ => True) (Tw wq nb P A n ca l (mkF vS S (.slice aO O.length cO) O vW W (.slice (some ⟨gH, 0, none⟩) H.length cH) H (.slice (some ⟨gU, 0, none⟩) U.length cU) U) bv l0 l1 B2 4 1 (fSet (.slice (some ⟨gU, 0, none⟩) U.length cU) U.length (U.map i64V) k (.int .i64 (uv + P.k + h))) (fApp (.slice aO O.length cO) O.length (O.map natI) (.int .i64 (k : Nat))) 90 30 94 28 33 27 (.int .i64 (uv + P.k + h)) (.int .i64 (k : Nat)) [(33, 28), (28, 25)]) (by kernel_rfl) (by kernel_rfl) (by kernel_rfl) ?_ ?_ ?_
              · exact Tw.start HNQ.out rfl rfl
              · refine ⟨?_, ?_, ?_, ?_, ?_, ?_, ?_, ?_, ?_, ?_, ?_, ?_, ?_, ?_, ?_, ?_, ?_, ?_, ?_, ?_, ?_, ?_, ?_, ?_, ?_, ?_, ?_, ?_, ?_, ?_, ?_, ?_, ?_, ?_, trivial⟩
                · intro r a w' hf hg hW hr hd K hK
                  refine wpOp_of rfl rfl ?_
                  have e0 : a.tmps.getD 0 undef = .pointer (some ⟨nb, 0, none⟩) := hf.evalFree (by kernel_rfl)
                  go_simp
                  exact hK _ _ rfl (hW.upd 0 _ (by decide) (by decide))
                · intro r a w' hf hg hW hr hd K hK
                  refine wpOp_of rfl rfl ?_
                  refine hf.depE hg hd 0 127 (by kernel_rfl) fun u0 e0 g0 h0 => ?_
                  replace g0 : u0 = .pointer (some ⟨nb, 0, none⟩) := g0
                  subst g0
                  go_simp
                  exact hK _ _ rfl (hW.upd 1 _ (by decide) (by decide))
                · intro r a w' hf hg hW hr hd K hK
                  refine wpOp_of rfl rfl ?_
                  refine hf.depE hg hd 1 128 (by kernel_rfl) fun u0 e0 g0 h0 => ?_
                  replace g0 : u0 = .pointer (some ⟨nb, 0, none⟩) := g0
                  subst g0
                  go_simp
                  exact hK _ _ rfl (hW.upd 2 _ (by decide) (by decide))
                · intro r a w' hf hg hW hr hd K hK
                  refine wpOp_of rfl rfl ?_
                  refine hf.depE hg hd 2 129 (by kernel_rfl) fun u0 e0 g0 h0 => ?_
                  replace g0 : u0 = .pointer (some ⟨nb, 8, none⟩) := g0
                  subst g0
                  have z0 := hW.cell 8 (v := .slice (some ⟨gU, 0, none⟩) U.length cU) rfl
                  go_simp
                  exact hK _ _ rfl (hW.upd 3 _ (by decide) (by decide))
                · intro r a w' hf hg hW hr hd K hK
                  refine wpOp_of rfl rfl ?_
                  have e0 : a.tmps.getD 4 undef = .int .i64 (k : Nat) := hf.evalFree (by kernel_rfl)
                  go_simp
                  exact hK _ _ rfl (hW.upd 4 _ (by decide) (by decide))
                · intro r a w' hf hg hW hr hd K hK
                  refine wpOp_of rfl rfl ?_
                  have e0 : a.tmps.getD 0 undef = .pointer (some ⟨nb, 0, none⟩) := hf.evalFree (by kernel_rfl)
                  go_simp
                  exact hK _ _ rfl (hW.upd 5 _ (by decide) (by decide))
                · intro r a w' hf hg hW hr hd K hK
                  refine wpOp_of rfl rfl ?_
                  have e0 : a.tmps.getD 5 undef = .int .i64 uv := hf.evalFree (by kernel_rfl)
                  go_simp
                  exact hK _ _ rfl (hW.upd 6 _ (by decide) (by decide))
                · intro r a w' hf hg hW hr hd K hK
                  refine wpOp_of rfl rfl ?_
                  have e0 : a.tmps.getD 0 undef = .pointer (some ⟨nb, 0, none⟩) := hf.evalFree (by kernel_rfl)
                  go_simp
                  exact hK _ _ rfl (hW.upd 7 _ (by decide) (by decide))
                · intro r a w' hf hg hW hr hd K hK
                  refine wpOp_of rfl rfl ?_
                  refine hf.depE hg hd 7 134 (by kernel_rfl) fun u0 e0 g0 h0 => ?_
                  replace g0 : u0 = .pointer (some ⟨nb, 0, none⟩) := g0
                  subst g0
                  go_simp
                  exact hK _ _ rfl (hW.upd 8 _ (by decide) (by decide))
                · intro r a w' hf hg hW hr hd K hK
                  refine wpOp_of rfl rfl ?_
                  refine hf.depE hg hd 8 135 (by kernel_rfl) fun u0 e0 g0 h0 => ?_
                  replace g0 : u0 = .pointer (some ⟨nb, 0, none⟩) := g0
                  subst g0
                  go_simp
                  exact hK _ _ rfl (hW.upd 9 _ (by decide) (by decide))
                · intro r a w' hf hg hW hr hd K hK
                  refine wpOp_of rfl rfl ?_
                  refine hf.depE hg hd 9 136 (by kernel_rfl) fun u0 e0 g0 h0 => ?_
                  replace g0 : u0 = .pointer (some ⟨nb, 0, none⟩) := g0
                  subst g0
                  go_simp
                  exact hK _ _ rfl (hW.upd 10 _ (by decide) (by decide))
                · intro r a w' hf hg hW hr hd K hK
                  refine wpOp_of rfl rfl ?_
                  refine hf.depE hg hd 10 137 (by kernel_rfl) fun u0 e0 g0 h0 => ?_
                  replace g0 : u0 = .pointer (some ⟨nb, 0, none⟩) := g0
                  subst g0
                  go_simp
                  exact hK _ _ rfl (hW.upd 11 _ (by decide) (by decide))
                · intro r a w' hf hg hW hr hd K hK
                  refine wpOp_of rfl rfl ?_
                  refine hf.depE hg hd 11 138 (by kernel_rfl) fun u0 e0 g0 h0 => ?_
                  replace g0 : u0 = .pointer (some ⟨nb, 2, none⟩) := g0
                  subst g0
                  have z0 := hW.cell 2 (v := .int .i64 P.k) rfl
                  go_simp
                  exact hK _ _ rfl (hW.upd 12 _ (by decide) (by decide))
                · intro r a w' hf hg hW hr hd K hK
                  refine wpOp_of rfl rfl ?_
                  refine hf.depE hg hd 6 133 (by kernel_rfl) fun u0 e0 g0 h0 => ?_
                  replace g0 : u0 = .int .i64 uv := g0
                  subst g0
                  refine hf.depE hg hd 12 139 (by kernel_rfl) fun u1 e1 g1 h1 => ?_
                  replace g1 : u1 = .int .i64 P.k := g1
                  subst g1
                  go_simp
                  exact hK _ _ rfl (hW.upd 13 _ (by decide) (by decide))
                · intro r a w' hf hg hW hr hd K hK
                  refine wpOp_of rfl rfl ?_
                  have e0 : a.tmps.getD 0 undef = .pointer (some ⟨nb, 0, none⟩) := hf.evalFree (by kernel_rfl)
                  go_simp
                  exact hK _ _ rfl (hW.upd 14 _ (by decide) (by decide))
                · intro r a w' hf hg hW hr hd K hK
                  refine wpOp_of rfl rfl ?_
                  refine hf.depE hg hd 14 141 (by kernel_rfl) fun u0 e0 g0 h0 => ?_
                  replace g0 : u0 = .pointer (some ⟨nb, 0, none⟩) := g0
                  subst g0
                  go_simp
                  exact hK _ _ rfl (hW.upd 15 _ (by decide) (by decide))
                · intro r a w' hf hg hW hr hd K hK
                  refine wpOp_of rfl rfl ?_
                  refine hf.depE hg hd 15 142 (by kernel_rfl) fun u0 e0 g0 h0 => ?_
                  replace g0 : u0 = .pointer (some ⟨nb, 0, none⟩) := g0
                  subst g0
                  go_simp
                  exact hK _ _ rfl (hW.upd 16 _ (by decide) (by decide))
                · intro r a w' hf hg hW hr hd K hK
                  refine wpOp_of rfl rfl ?_
                  refine hf.depE hg hd 16 143 (by kernel_rfl) fun u0 e0 g0 h0 => ?_
                  replace g0 : u0 = .pointer (some ⟨nb, 7, none⟩) := g0
                  subst g0
                  have z0 := hW.cell 7 (v := .slice (some ⟨gH, 0, none⟩) H.length cH) rfl
                  go_simp
                  exact hK _ _ rfl (hW.upd 17 _ (by decide) (by decide))
                · intro r a w' hf hg hW hr hd K hK
                  refine wpOp_of rfl rfl ?_
                  have e0 : a.tmps.getD 1 undef = .int .i64 (O.length : Nat) := hf.evalFree (by kernel_rfl)
                  go_simp
                  exact hK _ _ rfl (hW.upd 18 _ (by decide) (by decide))
                · intro r a w' hf hg hW hr hd K hK
                  refine wpOp_of rfl rfl ?_
                  refine hf.depE hg hd 17 144 (by kernel_rfl) fun u0 e0 g0 h0 => ?_
                  replace g0 : u0 = .slice (some ⟨gH, 0, none⟩) H.length cH := g0
                  subst g0
                  refine hf.depE hg hd 18 145 (by kernel_rfl) fun u1 e1 g1 h1 => ?_
                  replace g1 : u1 = .int .i64 (O.length : Nat) := g1
                  subst g1
                  go_simp
                  exact hK _ _ rfl (hW.upd 19 _ (by decide) (by decide))
                · intro r a w' hf hg hW hr hd K hK
                  refine wpOp_of rfl rfl ?_
                  refine hf.depE hg hd 19 146 (by kernel_rfl) fun u0 e0 g0 h0 => ?_
                  replace g0 : u0 = .pointer (some ⟨gH, O.length, none⟩) := g0
                  subst g0
                  have z0 : w'.cell? ⟨gH, O.length, none⟩ = some (.int .i64 h) := own_cell (show w'.ownsRow (nb + 1) 2 1 (.slice (some ⟨gH, 0, none⟩) H.length cH) H.length (H.map i64V) from hW.nw.own 3 (by decide)) HHK.out
                  go_simp
                  exact hK _ _ rfl (hW.upd 20 _ (by decide) (by decide))
                · intro r a w' hf hg hW hr hd K hK
                  refine wpOp_of rfl rfl ?_
                  refine hf.depE hg hd 13 140 (by kernel_rfl) fun u0 e0 g0 h0 => ?_
                  replace g0 : u0 = .int .i64 (uv + P.k) := g0
                  subst g0
                  refine hf.depE hg hd 20 147 (by kernel_rfl) fun u1 e1 g1 h1 => ?_
                  replace g1 : u1 = .int .i64 h := g1
                  subst g1
                  go_simp
                  exact hK _ _ rfl (hW.upd 21 _ (by decide) (by decide))
                · intro r a w' hf hg hW hr hd K hK
                  refine wpOp_of rfl rfl ?_
                  have e0 : a.tmps.getD 0 undef = .pointer (some ⟨nb, 0, none⟩) := hf.evalFree (by kernel_rfl)
                  go_simp
                  exact hK _ _ rfl (hW.upd 22 _ (by decide) (by decide))
                · intro r a w' hf hg hW hr hd K hK
                  refine wpOp_of rfl rfl ?_
                  refine hf.depE hg hd 22 149 (by kernel_rfl) fun u0 e0 g0 h0 => ?_
                  replace g0 : u0 = .pointer (some ⟨nb, 0, none⟩) := g0
                  subst g0
                  go_simp
                  exact hK _ _ rfl (hW.upd 23 _ (by decide) (by decide))
                · intro r a w' hf hg hW hr hd K hK
                  refine wpOp_of rfl rfl ?_
                  refine hf.depE hg hd 23 150 (by kernel_rfl) fun u0 e0 g0 h0 => ?_
                  replace g0 : u0 = .pointer (some ⟨nb, 0, none⟩) := g0
                  subst g0
                  go_simp
                  exact hK _ _ rfl (hW.upd 24 _ (by decide) (by decide))
                · intro r a w' hf hg hW hr hd K hK
                  refine wpOp_of rfl rfl ?_
                  refine hf.depE hg hd 24 151 (by kernel_rfl) fun u0 e0 g0 h0 => ?_
                  replace g0 : u0 = .pointer (some ⟨nb, 5, none⟩) := g0
                  subst g0
                  have hs0 : r 33 = none := hW.back (x := 33) (y := 28) (by decide) (hW.back (x := 28) (y := 25) (by decide) hr)
                  have z0 := hW.cell 5 (v := .slice aO O.length cO) (by rw [hs0]; rfl)
                  go_simp
                  exact hK _ _ rfl (hW.upd 25 _ (by decide) (by decide))
                · intro r a w' hf hg hW hr hd K hK
                  refine wpOp_of rfl rfl ?_
                  have e0 : a.tmps.getD 4 undef = .int .i64 (k : Nat) := hf.evalFree (by kernel_rfl)
                  go_simp
                  exact hK _ _ rfl (hW.upd 26 _ (by decide) (by decide))
                · intro r a w' hf hg hW hr hd K hK
                  refine wpOp_of rfl rfl ?_
                  refine hf.depE hg hd 26 153 (by kernel_rfl) fun u0 e0 g0 h0 => ?_
                  replace g0 : u0 = .int .i64 (k : Nat) := g0
                  subst g0
                  have e0' := get_of_getD e0
                  go_simp
                  exact hK _ _ trivial (((hW.swap (by decide)).lay 3 (by decide) (by decide)).swap (by decide))
                · intro r a w' hf hg hW hr hd K hK
                  refine wpOp_of rfl rfl ?_
                  refine hf.depE hg hd 25 152 (by kernel_rfl) fun u0 e0 g0 h0 => ?_
                  replace g0 : u0 = .slice aO O.length cO := g0
                  subst g0
                  refine hf.depE hg hd 27 154 (by kernel_rfl) fun u1 e1 g1 h1 => ?_
                  have hs0 : r 33 = none := hW.back (x := 33) (y := 28) (by decide) hr
                  obtain ⟨gq, hq, _, hcc, _⟩ := hW.tq u1 h1 hr
                  subst hq
                  exact wpo_append (.tmp 152) (.tmp 154) 57 rfl (nb + 1) 3 i0 (.int .i64 0) 1 8 Try.underlying57 hi0 hz0 hz1 hz2 rfl (by decide) (.slice aO O.length cO) O.length (O.map natI) e0 ((hW.swap (by decide)).ownP (by decide) hr) ⟨gq, 0, none⟩ 1 1 [.int .i64 (k : Nat)] e1 rfl (news1 hcc) (int_one _) (by unfold maxLen; omega) (by omega) (by have := hW.nw.lt; omega) (fun v' w'' ho hgr hat => hK _ _ trivial (((hW.swap (by decide)).app (by decide) hr hs0 (by decide) (by intro c hc e; simp only [List.mem_cons, List.not_mem_nil, or_false] at hc; rcases hc with rfl | rfl <;> first | (exact absurd e (by decide)) | (rw [h0]; simp) | (rw [h1]; simp)) ho hgr hat).swap (by decide)))
                · intro r a w' hf hg hW hr hd K hK
                  refine wpOp_of rfl rfl ?_
                  refine hf.depE hg hd 3 130 (by kernel_rfl) fun u0 e0 g0 h0 => ?_
                  replace g0 : u0 = .slice (some ⟨gU, 0, none⟩) U.length cU := g0
                  subst g0
                  refine hf.depE hg hd 4 131 (by kernel_rfl) fun u1 e1 g1 h1 => ?_
                  replace g1 : u1 = .int .i64 (k : Nat) := g1
                  subst g1
                  go_simp
                  exact hK _ _ rfl (hW.upd 29 _ (by decide) (by decide))
                · intro r a w' hf hg hW hr hd K hK
                  refine wpOp_of rfl rfl ?_
                  refine hf.depE hg hd 29 156 (by kernel_rfl) fun u0 e0 g0 h0 => ?_
                  replace g0 : u0 = .pointer (some ⟨gU, k, none⟩) := g0
                  subst g0
                  refine hf.depE hg hd 21 148 (by kernel_rfl) fun u1 e1 g1 h1 => ?_
                  replace g1 : u1 = .int .i64 (uv + P.k + h) := g1
                  subst g1
                  obtain ⟨⟨old, y0⟩, y1⟩ := hW.setOwn (by decide) (by rw [List.length_map]; exact hlt)
                  go_simp
                  exact hK undef _ trivial (hW.putSet (by decide) hr (by decide) (by intro c hc e; simp only [List.mem_cons, List.not_mem_nil, or_false] at hc; rcases hc with rfl | rfl <;> first | (exact absurd e (by decide)) | (rw [h1]; simp)) undef)
                · intro r a w' hf hg hW hr hd K hK
                  refine wpOp_of rfl rfl ?_
                  refine hf.depE hg hd 5 132 (by kernel_rfl) fun u0 e0 g0 h0 => ?_
                  replace g0 : u0 = .pointer (some ⟨nb, 0, none⟩) := g0
                  subst g0
                  go_simp
                  exact hK _ _ rfl (hW.upd 31 _ (by decide) (by decide))
                · intro r a w' hf hg hW hr hd K hK
                  refine wpOp_of rfl rfl ?_
                  refine hf.depE hg hd 31 157 (by kernel_rfl) fun u0 e0 g0 h0 => ?_
                  replace g0 : u0 = .pointer (some ⟨nb, 0, none⟩) := g0
                  subst g0
                  go_simp
                  exact hK _ _ rfl (hW.upd 32 _ (by decide) (by decide))
                · intro r a w' hf hg hW hr hd K hK
                  refine wpOp_of rfl rfl ?_
                  refine hf.depE hg hd 32 158 (by kernel_rfl) fun u0 e0 g0 h0 => ?_
                  replace g0 : u0 = .pointer (some ⟨nb, 5, none⟩) := g0
                  subst g0
                  refine hf.depE hg hd 28 155 (by kernel_rfl) fun u1 e1 g1 h1 => ?_
                  obtain ⟨old, y0⟩ := hW.old (c := 5) (by decide)
                  have y1 := hW.free 5
                  obtain ⟨fa, fc, hfa⟩ := (hW.swap (by decide)).formP (by decide) h1
                  subst hfa
                  go_simp
                  exact hK undef _ trivial (((hW.swap (by decide)).putApp (by decide) h1 (by decide) (by intro c hc e; simp only [List.mem_cons, List.not_mem_nil, or_false] at hc; rcases hc with rfl | rfl <;> first | (exact absurd e (by decide)) | (rw [h1]; simp)) undef).swap (by decide))
              intro r' w3 hg hW hr'
              simp only [List.length_cons, List.length_nil, Nat.reduceAdd, List.range_succ, List.range_zero, List.nil_append, List.cons_append, List.map_cons, List.map_nil, putAll, Act.put, List.setIfInBounds_toArray, List.set_cons_succ, List.set_cons_zero]
              have n9 := hW.nw
              rw [fSet_fin (hr' 30 (by decide))] at n9
              obtain ⟨vq, hvq⟩ := fApp_fin (v0 := .slice aO O.length cO) (m := O.length) (xs := O.map natI) (x := .int .i64 (k : Nat)) (hr' 28 (by decide)) (hr' 33 (by decide))
              rw [hvq] at n9
              clear hvq
              have k9 := hW.kp
              clear hg hW hr'
              have HK3 := Lib.hid (sn_tr HKQ.out k9)
              obtain ⟨O2, hO2⟩ : ∃ O2, O2 = O ++ [k] := ⟨_, rfl⟩
              obtain ⟨U2, hU2⟩ : ∃ U2, U2 = U.set k (uv + P.k + h) := ⟨_, rfl⟩
              have hN3 : NSt nb P A n ca l S O2 W H U2 B2 w3 := ⟨vS, vq, vW, _, .slice (some ⟨gU, 0, none⟩) U.length cU, bv, l0, l1, n9.congr (fun j hj => by
                match j, hj with
                | 0, _ => rfl
                | 1, _ => rw [hO2]; simp [F2, setF, mkF, natI]
                | 2, _ => rfl
                | 3, _ => rfl
                | 4, _ => rw [hU2]; simp [F2, setF, mkF, List.map_set, i64V])⟩
              have hOL2 : O2.length = O.length + 1 := by rw [hO2]; simp
              have HOL2 := Lib.hid hOL2
              have HUL2 := Lib.hid (show U2.length = U.length by rw [hU2]; simp)
              have HUB := Lib.hid (show U2.map i64V = (U.map i64V).set k (i64V (uv + P.k + h)) by rw [hU2, List.map_set])
              have HOB := Lib.hid (show O2.map natI = O.map natI ++ [natI k] by rw [hO2]; simp)
              rw [← hO2, ← hU2] at HSG HPT
              clear n9 k9 hO2 hU2 HNQ HKQ
              have HC := Lib.hid (HIH.out O2 U2 B2 w3 hOL2 (by omega) hN3 HPT.out HBR.out)
              rw [hOL2] at HC
              have hcast : ((O.length + 1 : Nat) : Int) = (O.length : Int) + 1 := by omega
              rw [hcast] at HC
              clear hN3 hOL2 hcast
              go_wp2_with fail
              with_reducible refine HC.out.mono ?_
              rintro e w5 ⟨rfl, hN5, hB5, hk5⟩
              have HK5 := Lib.hid (sn_tr HK3.out hk5)
              obtain ⟨B5, hB5e⟩ : ∃ B5, B5 = SF P l S H O2 U2 B2 := ⟨_, rfl⟩
              rw [← hB5e] at hN5 hB5 HSG
              obtain ⟨uS, uO, uW, uH, uU, ub, u0, u1, hN5⟩ := hN5
              have oU5 : w5.ownsRow (nb + 1) 2 1 uU U2.length (U2.map i64V) := hN5.own 4 (by decide)
              have oO5 : w5.ownsRow (nb + 1) 3 1 uO O2.length (O2.map natI) := hN5.own 1 (by decide)
              obtain ⟨aU2, cU2, rfl, hcU2, _, hgU2⟩ := own_form oU5
              obtain ⟨gU2, rfl⟩ := hgU2 (by rw [HUL2.out]; omega)
              obtain ⟨aO2, cO2, rfl, hcO2, _, hgO2⟩ := own_form oO5
              obtain ⟨gO2, rfl⟩ := hgO2 (by rw [HOL2.out]; omega)
              have hlt2 : k < U2.length := by rw [HUL2.out]; exact hlt
              have hlt2' : (k : Int) < (U2.length : Nat) := by omega
              have hco : O.length ≤ cO2 := by have := HOL2.out; omega
              have hco' : (O.length : Int) ≤ (cO2 : Int) := by omega
              have HN5 := Lib.hid hN5
              have HB5 := Lib.hid hB5
              clear hN5 hB5 hk5 hgU2 hgO2 HC HK3 oU5 oO5 hB5e
              go_wp2_with fail
              refine wp_region_each (fun ix uR => match ix with | 0 => uR = .pointer (some ⟨nb, 0, none⟩) | 1 => uR = .pointer (some ⟨nb, 0, none⟩) | 2 => uR = .pointer (some ⟨nb, 8, none⟩) | 3 => uR = .slice (some ⟨gU2, 0, none⟩) U2.length cU2 | 4 => uR = .int .i64 (k : Nat) | 5 => uR = .pointer (some ⟨nb, 0, none⟩) | 6 => uR = .int .i64 uv | 7 => uR = .pointer (some ⟨nb, 0, none⟩) | 8 => uR = .pointer (some ⟨nb, 0, none⟩) | 9 => uR = .pointer (some ⟨nb, 5, none⟩) | 10 => uR = .slice (some ⟨gO2, 0, none⟩) O2.length cO2 | 11 => uR = .int .i64 (O.length : Nat) | 12 => uR = .slice (some ⟨gO2, 0, none⟩) O.length cO2 | 13 => uR = .pointer (some ⟨gU2, k, none⟩) | 15 => uR = .pointer (some ⟨nb, 0, none⟩) | 16 => uR = .pointer (some ⟨nb, 5, none⟩) | _ => True) (Tw w5 nb P A n ca l (mkF uS S (.slice (some ⟨gO2, 0, none⟩) O2.length cO2) O2 uW W (uH) H (.slice (some ⟨gU2, 0, none⟩) U2.length cU2) U2) ub u0 u1 B5 4 1 (fSet (.slice (some ⟨gU2, 0, none⟩) U2.length cU2) U2.length (U2.map i64V) k (.int .i64 uv)) (fRes (.slice (some ⟨gO2, 0, none⟩) O2.length cO2) (.slice (some ⟨gO2, 0, none⟩) O.length cO2) O2.length (O2.map natI)) 90 14 94 91 17 95 (.int .i64 uv) (undef) [(17, 12), (12, 10)]) (by kernel_rfl) (by kernel_rfl) (by kernel_rfl) ?_ ?_ ?_
              · exact Tw.start HN5.out rfl rfl
              · refine ⟨?_, ?_, ?_, ?_, ?_, ?_, ?_, ?_, ?_, ?_, ?_, ?_, ?_, ?_, ?_, ?_, ?_, ?_, trivial⟩
                · intro r a w' hf hg hW hr hd K hK
                  refine wpOp_of rfl rfl ?_
                  have e0 : a.tmps.getD 0 undef = .pointer (some ⟨nb, 0, none⟩) := hf.evalFree (by kernel_rfl)
                  go_simp
                  exact hK _ _ rfl (hW.upd 0 _ (by decide) (by decide))
                · intro r a w' hf hg hW hr hd K hK
                  refine wpOp_of rfl rfl ?_
                  refine hf.depE hg hd 0 163 (by kernel_rfl) fun u0 e0 g0 h0 => ?_
                  replace g0 : u0 = .pointer (some ⟨nb, 0, none⟩) := g0
                  subst g0
                  go_simp
                  exact hK _ _ rfl (hW.upd 1 _ (by decide) (by decide))
                · intro r a w' hf hg hW hr hd K hK
                  refine wpOp_of rfl rfl ?_
                  refine hf.depE hg hd 1 164 (by kernel_rfl) fun u0 e0 g0 h0 => ?_
                  replace g0 : u0 = .pointer (some ⟨nb, 0, none⟩) := g0
                  subst g0
                  go_simp
                  exact hK _ _ rfl (hW.upd 2 _ (by decide) (by decide))
                · intro r a w' hf hg hW hr hd K hK
                  refine wpOp_of rfl rfl ?_
                  refine hf.depE hg hd 2 165 (by kernel_rfl) fun u0 e0 g0 h0 => ?_
                  replace g0 : u0 = .pointer (some ⟨nb, 8, none⟩) := g0
                  subst g0
                  have z0 := hW.cell 8 (v := .slice (some ⟨gU2, 0, none⟩) U2.length cU2) rfl
                  go_simp
                  exact hK _ _ rfl (hW.upd 3 _ (by decide) (by decide))
                · intro r a w' hf hg hW hr hd K hK
                  refine wpOp_of rfl rfl ?_
                  have e0 : a.tmps.getD 4 undef = .int .i64 (k : Nat) := hf.evalFree (by kernel_rfl)
                  go_simp
                  exact hK _ _ rfl (hW.upd 4 _ (by decide) (by decide))
                · intro r a w' hf hg hW hr hd K hK
                  refine wpOp_of rfl rfl ?_
                  have e0 : a.tmps.getD 0 undef = .pointer (some ⟨nb, 0, none⟩) := hf.evalFree (by kernel_rfl)
                  go_simp
                  exact hK _ _ rfl (hW.upd 5 _ (by decide) (by decide))
                · intro r a w' hf hg hW hr hd K hK
                  refine wpOp_of rfl rfl ?_
                  have e0 : a.tmps.getD 5 undef = .int .i64 uv := hf.evalFree (by kernel_rfl)
                  go_simp
                  exact hK _ _ rfl (hW.upd 6 _ (by decide) (by decide))
                · intro r a w' hf hg hW hr hd K hK
                  refine wpOp_of rfl rfl ?_
                  have e0 : a.tmps.getD 0 undef = .pointer (some ⟨nb, 0, none⟩) := hf.evalFree (by kernel_rfl)
                  go_simp
                  exact hK _ _ rfl (hW.upd 7 _ (by decide) (by decide))
                · intro r a w' hf hg hW hr hd K hK
                  refine wpOp_of rfl rfl ?_
                  refine hf.depE hg hd 7 170 (by kernel_rfl) fun u0 e0 g0 h0 => ?_
                  replace g0 : u0 = .pointer (some ⟨nb, 0, none⟩) := g0
                  subst g0
                  go_simp
                  exact hK _ _ rfl (hW.upd 8 _ (by decide) (by decide))
                · intro r a w' hf hg hW hr hd K hK
                  refine wpOp_of rfl rfl ?_
                  refine hf.depE hg hd 8 171 (by kernel_rfl) fun u0 e0 g0 h0 => ?_
                  replace g0 : u0 = .pointer (some ⟨nb, 0, none⟩) := g0
                  subst g0
                  go_simp
                  exact hK _ _ rfl (hW.upd 9 _ (by decide) (by decide))
                · intro r a w' hf hg hW hr hd K hK
                  refine wpOp_of rfl rfl ?_
                  refine hf.depE hg hd 9 172 (by kernel_rfl) fun u0 e0 g0 h0 => ?_
                  replace g0 : u0 = .pointer (some ⟨nb, 5, none⟩) := g0
                  subst g0
                  have hs0 : r 17 = none := hW.back (x := 17) (y := 12) (by decide) (hW.back (x := 12) (y := 10) (by decide) hr)
                  have z0 := hW.cell 5 (v := .slice (some ⟨gO2, 0, none⟩) O2.length cO2) (by rw [hs0]; rfl)
                  go_simp
                  exact hK _ _ rfl (hW.upd 10 _ (by decide) (by decide))
                · intro r a w' hf hg hW hr hd K hK
                  refine wpOp_of rfl rfl ?_
                  have e0 : a.tmps.getD 1 undef = .int .i64 (O.length : Nat) := hf.evalFree (by kernel_rfl)
                  go_simp
                  exact hK _ _ rfl (hW.upd 11 _ (by decide) (by decide))
                · intro r a w' hf hg hW hr hd K hK
                  refine wpOp_of rfl rfl ?_
                  refine hf.depE hg hd 10 173 (by kernel_rfl) fun u0 e0 g0 h0 => ?_
                  replace g0 : u0 = .slice (some ⟨gO2, 0, none⟩) O2.length cO2 := g0
                  subst g0
                  refine hf.depE hg hd 11 174 (by kernel_rfl) fun u1 e1 g1 h1 => ?_
                  replace g1 : u1 = .int .i64 (O.length : Nat) := g1
                  subst g1
                  go_simp
                  exact hK _ _ rfl (hW.updL 12 _ (by decide) (by intro c hc e; simp only [List.mem_cons, List.not_mem_nil, or_false] at hc; rcases hc with rfl | rfl <;> first | (exact absurd e (by decide)) | (rw [h0]; simp)))
                · intro r a w' hf hg hW hr hd K hK
                  refine wpOp_of rfl rfl ?_
                  refine hf.depE hg hd 3 166 (by kernel_rfl) fun u0 e0 g0 h0 => ?_
                  replace g0 : u0 = .slice (some ⟨gU2, 0, none⟩) U2.length cU2 := g0
                  subst g0
                  refine hf.depE hg hd 4 167 (by kernel_rfl) fun u1 e1 g1 h1 => ?_
                  replace g1 : u1 = .int .i64 (k : Nat) := g1
                  subst g1
                  go_simp
                  exact hK _ _ rfl (hW.upd 13 _ (by decide) (by decide))
                · intro r a w' hf hg hW hr hd K hK
                  refine wpOp_of rfl rfl ?_
                  refine hf.depE hg hd 13 176 (by kernel_rfl) fun u0 e0 g0 h0 => ?_
                  replace g0 : u0 = .pointer (some ⟨gU2, k, none⟩) := g0
                  subst g0
                  refine hf.depE hg hd 6 169 (by kernel_rfl) fun u1 e1 g1 h1 => ?_
                  replace g1 : u1 = .int .i64 uv := g1
                  subst g1
                  obtain ⟨⟨old, y0⟩, y1⟩ := hW.setOwn (by decide) (by rw [List.length_map]; exact hlt2)
                  go_simp
                  exact hK undef _ trivial (hW.putSet (by decide) hr (by decide) (by intro c hc e; simp only [List.mem_cons, List.not_mem_nil, or_false] at hc; rcases hc with rfl | rfl <;> first | (exact absurd e (by decide)) | (rw [h1]; simp)) undef)
                · intro r a w' hf hg hW hr hd K hK
                  refine wpOp_of rfl rfl ?_
                  refine hf.depE hg hd 5 168 (by kernel_rfl) fun u0 e0 g0 h0 => ?_
                  replace g0 : u0 = .pointer (some ⟨nb, 0, none⟩) := g0
                  subst g0
                  go_simp
                  exact hK _ _ rfl (hW.upd 15 _ (by decide) (by decide))
                · intro r a w' hf hg hW hr hd K hK
                  refine wpOp_of rfl rfl ?_
                  refine hf.depE hg hd 15 177 (by kernel_rfl) fun u0 e0 g0 h0 => ?_
                  replace g0 : u0 = .pointer (some ⟨nb, 0, none⟩) := g0
                  subst g0
                  go_simp
                  exact hK _ _ rfl (hW.upd 16 _ (by decide) (by decide))
                · intro r a w' hf hg hW hr hd K hK
                  refine wpOp_of rfl rfl ?_
                  refine hf.depE hg hd 16 178 (by kernel_rfl) fun u0 e0 g0 h0 => ?_
                  replace g0 : u0 = .pointer (some ⟨nb, 5, none⟩) := g0
                  subst g0
                  refine hf.depE hg hd 12 175 (by kernel_rfl) fun u1 e1 g1 h1 => ?_
                  replace g1 : u1 = .slice (some ⟨gO2, 0, none⟩) O.length cO2 := g1
                  subst g1
                  obtain ⟨old, y0⟩ := hW.old (c := 5) (by decide)
                  have y1 := hW.free 5
                  go_simp
                  exact hK undef _ trivial (((hW.swap (by decide)).putRes (by decide) (by decide) (by intro c hc e; simp only [List.mem_cons, List.not_mem_nil, or_false] at hc; rcases hc with rfl | rfl <;> first | (exact absurd e (by decide)) | (rw [h1]; simp)) undef).swap (by decide))
              intro r' w6 hg hW hr'
              simp only [List.length_cons, List.length_nil, Nat.reduceAdd, List.range_succ, List.range_zero, List.nil_append, List.cons_append, List.map_cons, List.map_nil, putAll, Act.put, List.setIfInBounds_toArray, List.set_cons_succ, List.set_cons_zero]
              have n9 := hW.nw
              rw [fSet_fin (hr' 14 (by decide))] at n9
              rw [fRes_fin (hr' 17 (by decide))] at n9
              have k9 := hW.kp
              clear hg hW hr'
              have HK6 := Lib.hid (sn_tr HK5.out k9)
              have n10 := n9.short (p := 1) (by decide) rfl (own_take (show w6.ownsRow (nb + 1) 3 1 (.slice (some ⟨gO2, 0, none⟩) O2.length cO2) O2.length (O2.map natI) from n9.own 1 (by decide)) (k := O.length) (by have := HOL2.out; omega)) rfl
              have HN6 := Lib.hid (show NSt nb P A n ca l S O W H U B5 w6 from ⟨uS, .slice (some ⟨gO2, 0, none⟩) O.length cO2, uW, uH, .slice (some ⟨gU2, 0, none⟩) U2.length cU2, ub, u0, u1, n10.congr (fun j hj => by
                match j, hj with
                | 0, _ => rfl
                | 1, _ => simp [F2, setF, mkF, HOB.out]
                | 2, _ => rfl
                | 3, _ => rfl
                | 4, _ =>
                  have e1 : (U2.map i64V).set k (.int .i64 uv) = U.map i64V := by
                    rw [HUB.out, List.set_set]
                    exact set_same HUK.out
                  have e2 := HUL2.out
                  simp only [F2, setF, mkF]
                  simp [e1, e2])⟩)
              clear n9 k9 n10 HN5
              go_wp2_with fail
              go_roundw
              case rel => first | exact ⟨k + 1, by omega, by go_num, by rw [HSG.out]; exact HN6.out, by rw [HSG.out]; exact HB5.out, HK6.out⟩ | ((repeat apply Exists.intro); exact ⟨⟨k + 1, by omega, by go_num, by rw [HSG.out]; exact HN6.out, by rw [HSG.out]; exact HB5.out, HK6.out⟩, rfl⟩)
              case measure => simp [intOf]; omega
          · obtain rfl : k = U.length := by omega
            rw [← HB2.out] at HSP
            clear hN oH oU oO hgU hgO hgH hBr hkr b1 b2
            go_wp2_with fail
            clear b7 b8 cH'
            refine wp_region_each (fun ix uR => match ix with | 0 => uR = .pointer (some ⟨nb, 0, none⟩) | 1 => uR = .pointer (some ⟨nb, 0, none⟩) | 2 => uR = .pointer (some ⟨nb, 0, none⟩) | 3 => uR = .pointer (some ⟨nb, 0, none⟩) | 4 => uR = .pointer (some ⟨nb, 8, none⟩) | 5 => uR = .slice aU U.length cU | 6 => uR = .pointer (some ⟨nb, 0, none⟩) | 7 => uR = .pointer (some ⟨nb, 0, none⟩) | 8 => uR = .pointer (some ⟨nb, 7, none⟩) | 9 => uR = .slice (some ⟨gH, 0, none⟩) H.length cH | 10 => uR = .int .i64 (O.length : Nat) | 11 => uR = .pointer (some ⟨gH, O.length, none⟩) | 12 => uR = .int .i64 h | 15 => uR = .pointer (some ⟨nb, 0, none⟩) | 16 => uR = .pointer (some ⟨nb, 0, none⟩) | 17 => uR = .pointer (some ⟨nb, 5, none⟩) | 18 => uR = .slice aO O.length cO | 19 => uR = .int .i64 (U.length : Nat) | 22 => uR = .pointer (some ⟨nb, 0, none⟩) | 23 => uR = .pointer (some ⟨nb, 8, none⟩) | 25 => uR = .pointer (some ⟨nb, 0, none⟩) | 26 => uR = .pointer (some ⟨nb, 5, none⟩) | _ => True) (Tw wr nb P A n ca l (mkF vS S (.slice aO O.length cO) O vW W (.slice (some ⟨gH, 0, none⟩) H.length cH) H (.slice aU U.length cU) U) bv l0 l1 B2 4 1 (fApp (.slice aU U.length cU) U.length (U.map i64V) (.int .i64 h)) (fApp (.slice aO O.length cO) O.length (O.map natI) (.int .i64 (U.length : Nat))) 14 24 13 21 27 20 (.int .i64 h) (.int .i64 (U.length : Nat)) [(24, 14), (14, 5), (27, 21), (21, 18)]) (by kernel_rfl) (by kernel_rfl) (by kernel_rfl) ?_ ?_ ?_
            · exact Tw.start HN.out rfl rfl
            · refine ⟨?_, ?_, ?_, ?_, ?_, ?_, ?_, ?_, ?_, ?_, ?_, ?_, ?_, ?_, ?_, ?_, ?_, ?_, ?_, ?_, ?_, ?_, ?_, ?_, ?_, ?_, ?_, ?_, trivial⟩
              · intro r a w' hf hg hW hr hd K hK
                refine wpOp_of rfl rfl ?_
                have e0 : a.tmps.getD 0 undef = .pointer (some ⟨nb, 0, none⟩) := hf.evalFree (by kernel_rfl)
                go_simp
                exact hK _ _ rfl (hW.upd 0 _ (by decide) (by decide))
              · intro r a w' hf hg hW hr hd K hK
                refine wpOp_of rfl rfl ?_
                have e0 : a.tmps.getD 0 undef = .pointer (some ⟨nb, 0, none⟩) := hf.evalFree (by kernel_rfl)
                go_simp
                exact hK _ _ rfl (hW.upd 1 _ (by decide) (by decide))
              · intro r a w' hf hg hW hr hd K hK
                refine wpOp_of rfl rfl ?_
                have e0 : a.tmps.getD 0 undef = .pointer (some ⟨nb, 0, none⟩) := hf.evalFree (by kernel_rfl)
                go_simp
                exact hK _ _ rfl (hW.upd 2 _ (by decide) (by decide))
              · intro r a w' hf hg hW hr hd K hK
                refine wpOp_of rfl rfl ?_
                refine hf.depE hg hd 2 51 (by kernel_rfl) fun u0 e0 g0 h0 => ?_
                replace g0 : u0 = .pointer (some ⟨nb, 0, none⟩) := g0
                subst g0
                go_simp
                exact hK _ _ rfl (hW.upd 3 _ (by decide) (by decide))
              · intro r a w' hf hg hW hr hd K hK
                refine wpOp_of rfl rfl ?_
                refine hf.depE hg hd 3 52 (by kernel_rfl) fun u0 e0 g0 h0 => ?_
                replace g0 : u0 = .pointer (some ⟨nb, 0, none⟩) := g0
                subst g0
                go_simp
                exact hK _ _ rfl (hW.upd 4 _ (by decide) (by decide))
              · intro r a w' hf hg hW hr hd K hK
                refine wpOp_of rfl rfl ?_
                refine hf.depE hg hd 4 53 (by kernel_rfl) fun u0 e0 g0 h0 => ?_
                replace g0 : u0 = .pointer (some ⟨nb, 8, none⟩) := g0
                subst g0
                have hs0 : r 24 = none := hW.back (x := 24) (y := 14) (by decide) (hW.back (x := 14) (y := 5) (by decide) hr)
                have z0 := hW.cell 8 (v := .slice aU U.length cU) (by rw [hs0]; rfl)
                go_simp
                exact hK _ _ rfl (hW.upd 5 _ (by decide) (by decide))
              · intro r a w' hf hg hW hr hd K hK
                refine wpOp_of rfl rfl ?_
                have e0 : a.tmps.getD 0 undef = .pointer (some ⟨nb, 0, none⟩) := hf.evalFree (by kernel_rfl)
                go_simp
                exact hK _ _ rfl (hW.upd 6 _ (by decide) (by decide))
              · intro r a w' hf hg hW hr hd K hK
                refine wpOp_of rfl rfl ?_
                refine hf.depE hg hd 6 55 (by kernel_rfl) fun u0 e0 g0 h0 => ?_
                replace g0 : u0 = .pointer (some ⟨nb, 0, none⟩) := g0
                subst g0
                go_simp
                exact hK _ _ rfl (hW.upd 7 _ (by decide) (by decide))
              · intro r a w' hf hg hW hr hd K hK
                refine wpOp_of rfl rfl ?_
                refine hf.depE hg hd 7 56 (by kernel_rfl) fun u0 e0 g0 h0 => ?_
                replace g0 : u0 = .pointer (some ⟨nb, 0, none⟩) := g0
                subst g0
                go_simp
                exact hK _ _ rfl (hW.upd 8 _ (by decide) (by decide))
              · intro r a w' hf hg hW hr hd K hK
                refine wpOp_of rfl rfl ?_
                refine hf.depE hg hd 8 57 (by kernel_rfl) fun u0 e0 g0 h0 => ?_
                replace g0 : u0 = .pointer (some ⟨nb, 7, none⟩) := g0
                subst g0
                have z0 := hW.cell 7 (v := .slice (some ⟨gH, 0, none⟩) H.length cH) rfl
                go_simp
                exact hK _ _ rfl (hW.upd 9 _ (by decide) (by decide))
              · intro r a w' hf hg hW hr hd K hK
                refine wpOp_of rfl rfl ?_
                have e0 : a.tmps.getD 1 undef = .int .i64 (O.length : Nat) := hf.evalFree (by kernel_rfl)
                go_simp
                exact hK _ _ rfl (hW.upd 10 _ (by decide) (by decide))
              · intro r a w' hf hg hW hr hd K hK
                refine wpOp_of rfl rfl ?_
                refine hf.depE hg hd 9 58 (by kernel_rfl) fun u0 e0 g0 h0 => ?_
                replace g0 : u0 = .slice (some ⟨gH, 0, none⟩) H.length cH := g0
                subst g0
                refine hf.depE hg hd 10 59 (by kernel_rfl) fun u1 e1 g1 h1 => ?_
                replace g1 : u1 = .int .i64 (O.length : Nat) := g1
                subst g1
                go_simp
                exact hK _ _ rfl (hW.upd 11 _ (by decide) (by decide))
              · intro r a w' hf hg hW hr hd K hK
                refine wpOp_of rfl rfl ?_
                refine hf.depE hg hd 11 60 (by kernel_rfl) fun u0 e0 g0 h0 => ?_
                replace g0 : u0 = .pointer (some ⟨gH, O.length, none⟩) := g0
                subst g0
                have z0 : w'.cell? ⟨gH, O.length, none⟩ = some (.int .i64 h) := own_cell (show w'.ownsRow (nb + 1) 2 1 (.slice (some ⟨gH, 0, none⟩) H.length cH) H.length (H.map i64V) from hW.nw.own 3 (by decide)) HHK.out
                go_simp
                exact hK _ _ rfl (hW.upd 12 _ (by decide) (by decide))
              · intro r a w' hf hg hW hr hd K hK
                refine wpOp_of rfl rfl ?_
                refine hf.depE hg hd 12 61 (by kernel_rfl) fun u0 e0 g0 h0 => ?_
                replace g0 : u0 = .int .i64 h := g0
                subst g0
                have e0' := get_of_getD e0
                go_simp
                exact hK _ _ trivial (hW.lay 2 (by decide) (by decide))
              · intro r a w' hf hg hW hr hd K hK
                refine wpOp_of rfl rfl ?_
                refine hf.depE hg hd 5 54 (by kernel_rfl) fun u0 e0 g0 h0 => ?_
                replace g0 : u0 = .slice aU U.length cU := g0
                subst g0
                refine hf.depE hg hd 13 62 (by kernel_rfl) fun u1 e1 g1 h1 => ?_
                have hs0 : r 24 = none := hW.back (x := 24) (y := 14) (by decide) hr
                obtain ⟨gq, hq, _, hcc, _⟩ := hW.tp u1 h1 hr
                subst hq
                exact wpo_append (.tmp 54) (.tmp 62) 58 rfl (nb + 1) 2 i1 (.int .i64 0) 1 8 Try.underlying58 hi1 hy0 hy1 hy2 rfl (by decide) (.slice aU U.length cU) U.length (U.map i64V) e0 (hW.ownP (by decide) hr) ⟨gq, 0, none⟩ 1 1 [.int .i64 h] e1 rfl (news1 hcc) (int_one _) (by unfold maxLen; omega) (by omega) (by have := hW.nw.lt; omega) (fun v' w'' ho hgr hat => hK _ _ trivial (hW.app (by decide) hr hs0 (by decide) (by intro c hc e; simp only [List.mem_cons, List.not_mem_nil, or_false] at hc; rcases hc with rfl | rfl | rfl | rfl <;> first | (exact absurd e (by decide)) | (rw [h0]; simp) | (rw [h1]; simp)) ho hgr hat))
              · intro r a w' hf hg hW hr hd K hK
                refine wpOp_of rfl rfl ?_
                have e0 : a.tmps.getD 0 undef = .pointer (some ⟨nb, 0, none⟩) := hf.evalFree (by kernel_rfl)
                go_simp
                exact hK _ _ rfl (hW.upd 15 _ (by decide) (by decide))
              · intro r a w' hf hg hW hr hd K hK
                refine wpOp_of rfl rfl ?_
                refine hf.depE hg hd 15 64 (by kernel_rfl) fun u0 e0 g0 h0 => ?_
                replace g0 : u0 = .pointer (some ⟨nb, 0, none⟩) := g0
                subst g0
                go_simp
                exact hK _ _ rfl (hW.upd 16 _ (by decide) (by decide))
              · intro r a w' hf hg hW hr hd K hK
                refine wpOp_of rfl rfl ?_
                refine hf.depE hg hd 16 65 (by kernel_rfl) fun u0 e0 g0 h0 => ?_
                replace g0 : u0 = .pointer (some ⟨nb, 0, none⟩) := g0
                subst g0
                go_simp
                exact hK _ _ rfl (hW.upd 17 _ (by decide) (by decide))
              · intro r a w' hf hg hW hr hd K hK
                refine wpOp_of rfl rfl ?_
                refine hf.depE hg hd 17 66 (by kernel_rfl) fun u0 e0 g0 h0 => ?_
                replace g0 : u0 = .pointer (some ⟨nb, 5, none⟩) := g0
                subst g0
                have hs0 : r 27 = none := hW.back (x := 27) (y := 21) (by decide) (hW.back (x := 21) (y := 18) (by decide) hr)
                have z0 := hW.cell 5 (v := .slice aO O.length cO) (by rw [hs0]; rfl)
                go_simp
                exact hK _ _ rfl (hW.upd 18 _ (by decide) (by decide))
              · intro r a w' hf hg hW hr hd K hK
                refine wpOp_of rfl rfl ?_
                have e0 : a.tmps.getD 4 undef = .int .i64 (U.length : Nat) := hf.evalFree (by kernel_rfl)
                go_simp
                exact hK _ _ rfl (hW.upd 19 _ (by decide) (by decide))
              · intro r a w' hf hg hW hr hd K hK
                refine wpOp_of rfl rfl ?_
                refine hf.depE hg hd 19 68 (by kernel_rfl) fun u0 e0 g0 h0 => ?_
                replace g0 : u0 = .int .i64 (U.length : Nat) := g0
                subst g0
                have e0' := get_of_getD e0
                go_simp
                exact hK _ _ trivial (((hW.swap (by decide)).lay 3 (by decide) (by decide)).swap (by decide))
              · intro r a w' hf hg hW hr hd K hK
                refine wpOp_of rfl rfl ?_
                refine hf.depE hg hd 18 67 (by kernel_rfl) fun u0 e0 g0 h0 => ?_
                replace g0 : u0 = .slice aO O.length cO := g0
                subst g0
                refine hf.depE hg hd 20 69 (by kernel_rfl) fun u1 e1 g1 h1 => ?_
                have hs0 : r 27 = none := hW.back (x := 27) (y := 21) (by decide) hr
                obtain ⟨gq, hq, _, hcc, _⟩ := hW.tq u1 h1 hr
                subst hq
                exact wpo_append (.tmp 67) (.tmp 69) 57 rfl (nb + 1) 3 i0 (.int .i64 0) 1 8 Try.underlying57 hi0 hz0 hz1 hz2 rfl (by decide) (.slice aO O.length cO) O.length (O.map natI) e0 ((hW.swap (by decide)).ownP (by decide) hr) ⟨gq, 0, none⟩ 1 1 [.int .i64 (U.length : Nat)] e1 rfl (news1 hcc) (int_one _) (by unfold maxLen; omega) (by omega) (by have := hW.nw.lt; omega) (fun v' w'' ho hgr hat => hK _ _ trivial (((hW.swap (by decide)).app (by decide) hr hs0 (by decide) (by intro c hc e; simp only [List.mem_cons, List.not_mem_nil, or_false] at hc; rcases hc with rfl | rfl | rfl | rfl <;> first | (exact absurd e (by decide)) | (rw [h0]; simp) | (rw [h1]; simp)) ho hgr hat).swap (by decide)))
              · intro r a w' hf hg hW hr hd K hK
                refine wpOp_of rfl rfl ?_
                refine hf.depE hg hd 0 49 (by kernel_rfl) fun u0 e0 g0 h0 => ?_
                replace g0 : u0 = .pointer (some ⟨nb, 0, none⟩) := g0
                subst g0
                go_simp
                exact hK _ _ rfl (hW.upd 22 _ (by decide) (by decide))
              · intro r a w' hf hg hW hr hd K hK
                refine wpOp_of rfl rfl ?_
                refine hf.depE hg hd 22 71 (by kernel_rfl) fun u0 e0 g0 h0 => ?_
                replace g0 : u0 = .pointer (some ⟨nb, 0, none⟩) := g0
                subst g0
                go_simp
                exact hK _ _ rfl (hW.upd 23 _ (by decide) (by decide))
              · intro r a w' hf hg hW hr hd K hK
                refine wpOp_of rfl rfl ?_
                refine hf.depE hg hd 23 72 (by kernel_rfl) fun u0 e0 g0 h0 => ?_
                replace g0 : u0 = .pointer (some ⟨nb, 8, none⟩) := g0
                subst g0
                refine hf.depE hg hd 14 63 (by kernel_rfl) fun u1 e1 g1 h1 => ?_
                obtain ⟨old, y0⟩ := hW.old (c := 8) (by decide)
                have y1 := hW.free 8
                obtain ⟨fa, fc, hfa⟩ := hW.formP (by decide) h1
                subst hfa
                go_simp
                exact hK undef _ trivial (hW.putApp (by decide) h1 (by decide) (by intro c hc e; simp only [List.mem_cons, List.not_mem_nil, or_false] at hc; rcases hc with rfl | rfl | rfl | rfl <;> first | (exact absurd e (by decide)) | (rw [h1]; simp)) undef)
              · intro r a w' hf hg hW hr hd K hK
                refine wpOp_of rfl rfl ?_
                refine hf.depE hg hd 1 50 (by kernel_rfl) fun u0 e0 g0 h0 => ?_
                replace g0 : u0 = .pointer (some ⟨nb, 0, none⟩) := g0
                subst g0
                go_simp
                exact hK _ _ rfl (hW.upd 25 _ (by decide) (by decide))
              · intro r a w' hf hg hW hr hd K hK
                refine wpOp_of rfl rfl ?_
                refine hf.depE hg hd 25 73 (by kernel_rfl) fun u0 e0 g0 h0 => ?_
                replace g0 : u0 = .pointer (some ⟨nb, 0, none⟩) := g0
                subst g0
                go_simp
                exact hK _ _ rfl (hW.upd 26 _ (by decide) (by decide))
              · intro r a w' hf hg hW hr hd K hK
                refine wpOp_of rfl rfl ?_
                refine hf.depE hg hd 26 74 (by kernel_rfl) fun u0 e0 g0 h0 => ?_
                replace g0 : u0 = .pointer (some ⟨nb, 5, none⟩) := g0
                subst g0
                refine hf.depE hg hd 21 70 (by kernel_rfl) fun u1 e1 g1 h1 => ?_
                obtain ⟨old, y0⟩ := hW.old (c := 5) (by decide)
                have y1 := hW.free 5
                obtain ⟨fa, fc, hfa⟩ := (hW.swap (by decide)).formP (by decide) h1
                subst hfa
                go_simp
                exact hK undef _ trivial (((hW.swap (by decide)).putApp (by decide) h1 (by decide) (by intro c hc e; simp only [List.mem_cons, List.not_mem_nil, or_false] at hc; rcases hc with rfl | rfl | rfl | rfl <;> first | (exact absurd e (by decide)) | (rw [h1]; simp)) undef).swap (by decide))
            intro r' w3 hg hW hr'
            simp only [List.length_cons, List.length_nil, Nat.reduceAdd, List.range_succ, List.range_zero, List.nil_append, List.cons_append, List.map_cons, List.map_nil, putAll, Act.put, List.setIfInBounds_toArray, List.set_cons_succ, List.set_cons_zero]
            have n9 := hW.nw
            obtain ⟨vp, hvp⟩ := fApp_fin (v0 := .slice aU U.length cU) (m := U.length) (xs := U.map i64V) (x := .int .i64 h) (hr' 14 (by decide)) (hr' 24 (by decide))
            rw [hvp] at n9
            clear hvp
            obtain ⟨vq, hvq⟩ := fApp_fin (v0 := .slice aO O.length cO) (m := O.length) (xs := O.map natI) (x := .int .i64 (U.length : Nat)) (hr' 21 (by decide)) (hr' 27 (by decide))
            rw [hvq] at n9
            clear hvq
            have k9 := hW.kp
            clear hg hW hr'
            have HK3 := Lib.hid (sn_tr HKR.out k9)
            obtain ⟨O2, hO2⟩ : ∃ O2, O2 = O ++ [U.length] := ⟨_, rfl⟩
            obtain ⟨U2, hU2⟩ : ∃ U2, U2 = U ++ [h] := ⟨_, rfl⟩
            have hN3 : NSt nb P A n ca l S O2 W H U2 B2 w3 := ⟨vS, vq, vW, _, vp, bv, l0, l1, n9.congr (fun j hj => by
              match j, hj with
              | 0, _ => rfl
              | 1, _ => rw [hO2]; simp [F2, setF, mkF, natI]
              | 2, _ => rfl
              | 3, _ => rfl
              | 4, _ => rw [hU2]; simp [F2, setF, mkF, i64V])⟩
            have hOL2 : O2.length = O.length + 1 := by rw [hO2]; simp
            have HOL2 := Lib.hid hOL2
            have HUL2 := Lib.hid (show U2.length = U.length + 1 by rw [hU2]; simp)
            have HUB := Lib.hid (show U2.map i64V = U.map i64V ++ [i64V h] by rw [hU2]; simp)
            have HOB := Lib.hid (show O2.map natI = O.map natI ++ [natI U.length] by rw [hO2]; simp)
            rw [← hO2, ← hU2] at HSP HPU
            clear n9 k9 hO2 hU2 HN HKR
            have HC := Lib.hid (HIH.out O2 U2 B2 w3 hOL2 (by omega) hN3 HPU.out HBR.out)
            rw [hOL2] at HC
            have hcast : ((O.length + 1 : Nat) : Int) = (O.length : Int) + 1 := by omega
            rw [hcast] at HC
            clear hN3 hOL2 hcast
            go_wp2_with fail
            with_reducible refine HC.out.mono ?_
            rintro e w5 ⟨rfl, hN5, hB5, hk5⟩
            have HK5 := Lib.hid (sn_tr HK3.out hk5)
            obtain ⟨B5, hB5e⟩ : ∃ B5, B5 = SF P l S H O2 U2 B2 := ⟨_, rfl⟩
            rw [← hB5e] at hN5 hB5 HSP
            obtain ⟨uS, uO, uW, uH, uU, ub, u0, u1, hN5⟩ := hN5
            have oU5 : w5.ownsRow (nb + 1) 2 1 uU U2.length (U2.map i64V) := hN5.own 4 (by decide)
            have oO5 : w5.ownsRow (nb + 1) 3 1 uO O2.length (O2.map natI) := hN5.own 1 (by decide)
            obtain ⟨aU2, cU2, rfl, hcU2, _, hgU2⟩ := own_form oU5
            obtain ⟨gU2, rfl⟩ := hgU2 (by rw [HUL2.out]; omega)
            obtain ⟨aO2, cO2, rfl, hcO2, _, hgO2⟩ := own_form oO5
            obtain ⟨gO2, rfl⟩ := hgO2 (by rw [HOL2.out]; omega)
            have hco : O.length ≤ cO2 := by have := HOL2.out; omega
            have hco' : (O.length : Int) ≤ (cO2 : Int) := by omega
            have hcu : U.length ≤ cU2 := by have := HUL2.out; omega
            have hcu' : (U.length : Int) ≤ (cU2 : Int) := by omega
            have HN5 := Lib.hid hN5
            have HB5 := Lib.hid hB5
            clear hN5 hB5 hk5 hgU2 hgO2 HC HK3 oU5 oO5 hB5e
            go_wp2_with fail
            refine wp_region_each (fun ix uR => match ix with | 0 => uR = .pointer (some ⟨nb, 0, none⟩) | 1 => uR = .pointer (some ⟨nb, 0, none⟩) | 2 => uR = .pointer (some ⟨nb, 0, none⟩) | 3 => uR = .pointer (some ⟨nb, 0, none⟩) | 4 => uR = .pointer (some ⟨nb, 8, none⟩) | 5 => uR = .slice (some ⟨gU2, 0, none⟩) U2.length cU2 | 6 => uR = .int .i64 (U.length : Nat) | 7 => uR = .slice (some ⟨gU2, 0, none⟩) U.length cU2 | 8 => uR = .pointer (some ⟨nb, 0, none⟩) | 9 => uR = .pointer (some ⟨nb, 0, none⟩) | 10 => uR = .pointer (some ⟨nb, 5, none⟩) | 11 => uR = .slice (some ⟨gO2, 0, none⟩) O2.length cO2 | 12 => uR = .int .i64 (O.length : Nat) | 13 => uR = .slice (some ⟨gO2, 0, none⟩) O.length cO2 | 14 => uR = .pointer (some ⟨nb, 0, none⟩) | 15 => uR = .pointer (some ⟨nb, 8, none⟩) | 17 => uR = .pointer (some ⟨nb, 0, none⟩) | 18 => uR = .pointer (some ⟨nb, 5, none⟩) | _ => True) (Tw w5 nb P A n ca l (mkF uS S (.slice (some ⟨gO2, 0, none⟩) O2.length cO2) O2 uW W (uH) H (.slice (some ⟨gU2, 0, none⟩) U2.length cU2) U2) ub u0 u1 B5 4 1 (fRes (.slice (some ⟨gU2, 0, none⟩) U2.length cU2) (.slice (some ⟨gU2, 0, none⟩) U.length cU2) U2.length (U2.map i64V)) (fRes (.slice (some ⟨gO2, 0, none⟩) O2.length cO2) (.slice (some ⟨gO2, 0, none⟩) O.length cO2) O2.length (O2.map natI)) 90 16 94 91 19 95 (undef) (undef) [(16, 7), (7, 5), (19, 13), (13, 11)]) (by kernel_rfl) (by kernel_rfl) (by kernel_rfl) ?_ ?_ ?_
            · exact Tw.start HN5.out rfl rfl
            · refine ⟨?_, ?_, ?_, ?_, ?_, ?_, ?_, ?_, ?_, ?_, ?_, ?_, ?_, ?_, ?_, ?_, ?_, ?_, ?_, ?_, trivial⟩
              · intro r a w' hf hg hW hr hd K hK
                refine wpOp_of rfl rfl ?_
                have e0 : a.tmps.getD 0 undef = .pointer (some ⟨nb, 0, none⟩) := hf.evalFree (by kernel_rfl)
                go_simp
                exact hK _ _ rfl (hW.upd 0 _ (by decide) (by decide))
              · intro r a w' hf hg hW hr hd K hK
                refine wpOp_of rfl rfl ?_
                have e0 : a.tmps.getD 0 undef = .pointer (some ⟨nb, 0, none⟩) := hf.evalFree (by kernel_rfl)
                go_simp
                exact hK _ _ rfl (hW.upd 1 _ (by decide) (by decide))
              · intro r a w' hf hg hW hr hd K hK
                refine wpOp_of rfl rfl ?_
                have e0 : a.tmps.getD 0 undef = .pointer (some ⟨nb, 0, none⟩) := hf.evalFree (by kernel_rfl)
                go_simp
                exact hK _ _ rfl (hW.upd 2 _ (by decide) (by decide))
              · intro r a w' hf hg hW hr hd K hK
                refine wpOp_of rfl rfl ?_
                refine hf.depE hg hd 2 81 (by kernel_rfl) fun u0 e0 g0 h0 => ?_
                replace g0 : u0 = .pointer (some ⟨nb, 0, none⟩) := g0
                subst g0
                go_simp
                exact hK _ _ rfl (hW.upd 3 _ (by decide) (by decide))
              · intro r a w' hf hg hW hr hd K hK
                refine wpOp_of rfl rfl ?_
                refine hf.depE hg hd 3 82 (by kernel_rfl) fun u0 e0 g0 h0 => ?_
                replace g0 : u0 = .pointer (some ⟨nb, 0, none⟩) := g0
                subst g0
                go_simp
                exact hK _ _ rfl (hW.upd 4 _ (by decide) (by decide))
              · intro r a w' hf hg hW hr hd K hK
                refine wpOp_of rfl rfl ?_
                refine hf.depE hg hd 4 83 (by kernel_rfl) fun u0 e0 g0 h0 => ?_
                replace g0 : u0 = .pointer (some ⟨nb, 8, none⟩) := g0
                subst g0
                have hs0 : r 16 = none := hW.back (x := 16) (y := 7) (by decide) (hW.back (x := 7) (y := 5) (by decide) hr)
                have z0 := hW.cell 8 (v := .slice (some ⟨gU2, 0, none⟩) U2.length cU2) (by rw [hs0]; rfl)
                go_simp
                exact hK _ _ rfl (hW.upd 5 _ (by decide) (by decide))
              · intro r a w' hf hg hW hr hd K hK
                refine wpOp_of rfl rfl ?_
                have e0 : a.tmps.getD 4 undef = .int .i64 (U.length : Nat) := hf.evalFree (by kernel_rfl)
                go_simp
                exact hK _ _ rfl (hW.upd 6 _ (by decide) (by decide))
              · intro r a w' hf hg hW hr hd K hK
                refine wpOp_of rfl rfl ?_
                refine hf.depE hg hd 5 84 (by kernel_rfl) fun u0 e0 g0 h0 => ?_
                replace g0 : u0 = .slice (some ⟨gU2, 0, none⟩) U2.length cU2 := g0
                subst g0
                refine hf.depE hg hd 6 85 (by kernel_rfl) fun u1 e1 g1 h1 => ?_
                replace g1 : u1 = .int .i64 (U.length : Nat) := g1
                subst g1
                go_simp
                exact hK _ _ rfl (hW.updL 7 _ (by decide) (by intro c hc e; simp only [List.mem_cons, List.not_mem_nil, or_false] at hc; rcases hc with rfl | rfl | rfl | rfl <;> first | (exact absurd e (by decide)) | (rw [h0]; simp)))
              · intro r a w' hf hg hW hr hd K hK
                refine wpOp_of rfl rfl ?_
                have e0 : a.tmps.getD 0 undef = .pointer (some ⟨nb, 0, none⟩) := hf.evalFree (by kernel_rfl)
                go_simp
                exact hK _ _ rfl (hW.upd 8 _ (by decide) (by decide))
              · intro r a w' hf hg hW hr hd K hK
                refine wpOp_of rfl rfl ?_
                refine hf.depE hg hd 8 87 (by kernel_rfl) fun u0 e0 g0 h0 => ?_
                replace g0 : u0 = .pointer (some ⟨nb, 0, none⟩) := g0
                subst g0
                go_simp
                exact hK _ _ rfl (hW.upd 9 _ (by decide) (by decide))
              · intro r a w' hf hg hW hr hd K hK
                refine wpOp_of rfl rfl ?_
                refine hf.depE hg hd 9 88 (by kernel_rfl) fun u0 e0 g0 h0 => ?_
                replace g0 : u0 = .pointer (some ⟨nb, 0, none⟩) := g0
                subst g0
                go_simp
                exact hK _ _ rfl (hW.upd 10 _ (by decide) (by decide))
              · intro r a w' hf hg hW hr hd K hK
                refine wpOp_of rfl rfl ?_
                refine hf.depE hg hd 10 89 (by kernel_rfl) fun u0 e0 g0 h0 => ?_
                replace g0 : u0 = .pointer (some ⟨nb, 5, none⟩) := g0
                subst g0
                have hs0 : r 19 = none := hW.back (x := 19) (y := 13) (by decide) (hW.back (x := 13) (y := 11) (by decide) hr)
                have z0 := hW.cell 5 (v := .slice (some ⟨gO2, 0, none⟩) O2.length cO2) (by rw [hs0]; rfl)
                go_simp
                exact hK _ _ rfl (hW.upd 11 _ (by decide) (by decide))
              · intro r a w' hf hg hW hr hd K hK
                refine wpOp_of rfl rfl ?_
                have e0 : a.tmps.getD 1 undef = .int .i64 (O.length : Nat) := hf.evalFree (by kernel_rfl)
                go_simp
                exact hK _ _ rfl (hW.upd 12 _ (by decide) (by decide))
              · intro r a w' hf hg hW hr hd K hK
                refine wpOp_of rfl rfl ?_
                refine hf.depE hg hd 11 90 (by kernel_rfl) fun u0 e0 g0 h0 => ?_
                replace g0 : u0 = .slice (some ⟨gO2, 0, none⟩) O2.length cO2 := g0
                subst g0
                refine hf.depE hg hd 12 91 (by kernel_rfl) fun u1 e1 g1 h1 => ?_
                replace g1 : u1 = .int .i64 (O.length : Nat) := g1
                subst g1
                go_simp
                exact hK _ _ rfl (hW.updL 13 _ (by decide) (by intro c hc e; simp only [List.mem_cons, List.not_mem_nil, or_false] at hc; rcases hc with rfl | rfl | rfl | rfl <;> first | (exact absurd e (by decide)) | (rw [h0]; simp)))
              · intro r a w' hf hg hW hr hd K hK
                refine wpOp_of rfl rfl ?_
                refine hf.depE hg hd 0 79 (by kernel_rfl) fun u0 e0 g0 h0 => ?_
                replace g0 : u0 = .pointer (some ⟨nb, 0, none⟩) := g0
                subst g0
                go_simp
                exact hK _ _ rfl (hW.upd 14 _ (by decide) (by decide))
              · intro r a w' hf hg hW hr hd K hK
                refine wpOp_of rfl rfl ?_
                refine hf.depE hg hd 14 93 (by kernel_rfl) fun u0 e0 g0 h0 => ?_
                replace g0 : u0 = .pointer (some ⟨nb, 0, none⟩) := g0
                subst g0
                go_simp
                exact hK _ _ rfl (hW.upd 15 _ (by decide) (by decide))
              · intro r a w' hf hg hW hr hd K hK
                refine wpOp_of rfl rfl ?_
                refine hf.depE hg hd 15 94 (by kernel_rfl) fun u0 e0 g0 h0 => ?_
                replace g0 : u0 = .pointer (some ⟨nb, 8, none⟩) := g0
                subst g0
                refine hf.depE hg hd 7 86 (by kernel_rfl) fun u1 e1 g1 h1 => ?_
                replace g1 : u1 = .slice (some ⟨gU2, 0, none⟩) U.length cU2 := g1
                subst g1
                obtain ⟨old, y0⟩ := hW.old (c := 8) (by decide)
                have y1 := hW.free 8
                go_simp
                exact hK undef _ trivial (hW.putRes (by decide) (by decide) (by intro c hc e; simp only [List.mem_cons, List.not_mem_nil, or_false] at hc; rcases hc with rfl | rfl | rfl | rfl <;> first | (exact absurd e (by decide)) | (rw [h1]; simp)) undef)
              · intro r a w' hf hg hW hr hd K hK
                refine wpOp_of rfl rfl ?_
                refine hf.depE hg hd 1 80 (by kernel_rfl) fun u0 e0 g0 h0 => ?_
                replace g0 : u0 = .pointer (some ⟨nb, 0, none⟩) := g0
                subst g0
                go_simp
                exact hK _ _ rfl (hW.upd 17 _ (by decide) (by decide))
              · intro r a w' hf hg hW hr hd K hK
                refine wpOp_of rfl rfl ?_
                refine hf.depE hg hd 17 95 (by kernel_rfl) fun u0 e0 g0 h0 => ?_
                replace g0 : u0 = .pointer (some ⟨nb, 0, none⟩) := g0
                subst g0
                go_simp
                exact hK _ _ rfl (hW.upd 18 _ (by decide) (by decide))
              · intro r a w' hf hg hW hr hd K hK
                refine wpOp_of rfl rfl ?_
                refine hf.depE hg hd 18 96 (by kernel_rfl) fun u0 e0 g0 h0 => ?_
                replace g0 : u0 = .pointer (some ⟨nb, 5, none⟩) := g0
                subst g0
                refine hf.depE hg hd 13 92 (by kernel_rfl) fun u1 e1 g1 h1 => ?_
                replace g1 : u1 = .slice (some ⟨gO2, 0, none⟩) O.length cO2 := g1
                subst g1
                obtain ⟨old, y0⟩ := hW.old (c := 5) (by decide)
                have y1 := hW.free 5
                go_simp
                exact hK undef _ trivial (((hW.swap (by decide)).putRes (by decide) (by decide) (by intro c hc e; simp only [List.mem_cons, List.not_mem_nil, or_false] at hc; rcases hc with rfl | rfl | rfl | rfl <;> first | (exact absurd e (by decide)) | (rw [h1]; simp)) undef).swap (by decide))
            intro r' w6 hg hW hr'
            simp only [List.length_cons, List.length_nil, Nat.reduceAdd, List.range_succ, List.range_zero, List.nil_append, List.cons_append, List.map_cons, List.map_nil, putAll, Act.put, List.setIfInBounds_toArray, List.set_cons_succ, List.set_cons_zero]
            have n9 := hW.nw
            rw [fRes_fin (hr' 16 (by decide))] at n9
            rw [fRes_fin (hr' 19 (by decide))] at n9
            have k9 := hW.kp
            clear hg hW hr'
            have HK6 := Lib.hid (sn_tr HK5.out k9)
            have n10 := n9.short (p := 1) (by decide) rfl (own_take (show w6.ownsRow (nb + 1) 3 1 (.slice (some ⟨gO2, 0, none⟩) O2.length cO2) O2.length (O2.map natI) from n9.own 1 (by decide)) (k := O.length) (by have := HOL2.out; omega)) rfl
            have n11 := n10.short (p := 4) (by decide) rfl (own_take (show w6.ownsRow (nb + 1) 2 1 (.slice (some ⟨gU2, 0, none⟩) U2.length cU2) U2.length (U2.map i64V) from n9.own 4 (by decide)) (k := U.length) (by have := HUL2.out; omega)) rfl
            have HN6 := Lib.hid (show NSt nb P A n ca l S O W H U B5 w6 from ⟨uS, .slice (some ⟨gO2, 0, none⟩) O.length cO2, uW, uH, .slice (some ⟨gU2, 0, none⟩) U.length cU2, ub, u0, u1, n11.congr (fun j hj => by
              match j, hj with
              | 0, _ => rfl
              | 1, _ => simp [F2, setF, mkF, HOB.out]
              | 2, _ => rfl
              | 3, _ => rfl
              | 4, _ => simp [F2, setF, mkF, HUB.out])⟩)
            clear n9 k9 n10 n11 HN5
            go_wp2_with fail
            refine bodyPost_ret (results_none rfl _ _ _) rfl ?_
            exact ⟨rfl, by rw [HSP.out]; exact HN6.out, by rw [HSP.out]; exact HB5.out, HK6.out⟩
end Go.Proofs.Ytamjhpdgclbfgaa
