/- Fractions: badq, Quo, turned: walks. -/
import Derived.Test.YtakgcnjpmpcekaaGreatXNtl
namespace Go.Proofs.YtakgcnjpmpcekaaGreat
open Go.RowKit Go.Kq

/-- Fractions that lie in memory one behind the other. -/
def QAt (w : World) (b : Nat) (qs : List Rat) : Prop := ∀ (i : Nat) q, qs[i]? = some q → ∃ n d, w.cell? ⟨b, i * 3, none⟩ = some (.bool (negQ q)) ∧ w.cell? ⟨b, i * 3 + 1, none⟩ = some n ∧ w.cell? ⟨b, i * 3 + 2, none⟩ = some d ∧ IsQuo w (.agg #[.bool (negQ q), n, d]) q 300
theorem QAt.no {w w' : World} {b : Nat} {qs : List Rat} (h : QAt w b qs) (hk : Kp No w w') : QAt w' b qs := fun i q hq => by
  obtain ⟨n, d, h1, h2, h3, h4⟩ := h i q hq
  exact ⟨n, d, hk.cell h1 id, hk.cell h2 id, hk.cell h3 id, h4.no hk⟩
theorem IsQuo.lens {w : World} {n d : Value} {b : Bool} {q : Rat} {k : Nat} (h : IsQuo w (.agg #[.bool b, n, d]) q k) : ∃ A m c B m2 c2, n = .slice A m c ∧ d = .slice B m2 c2 ∧ m ≤ k ∧ m2 ≤ k := by
  obtain ⟨n', d', e, h1, h2⟩ := h
  injection e with e
  simp at e
  obtain ⟨_, rfl, rfl⟩ := e
  obtain ⟨A, m, c, _, rfl, _, _, h3, _⟩ := h1.pos
  obtain ⟨B, m2, c2, _, rfl, _, _, h4, _⟩ := h2.pos
  exact ⟨A, m, c, B, m2, c2, rfl, rfl, h3, h4⟩
set_option maxHeartbeats 1000000 in
theorem badq_is (b n c : Nat) (qs : List Rat) (w : World) (hl : qs.length = n) (hn : n ≤ 100) (hc : QAt w b qs) :
    Calls Tryz.prog 64 #[.slice (some ⟨b, 0, none⟩) n c] w fun e w' => e = .returned (.int .i64 0) ∧ Kp No w w' := by
  have HC := Lib.hid hc
  clear hc
  go_enter Tryz.func64, Tryz.ntmps64
  go_wp2_with fail
  go_loop [3] (fun s => ∃ k : Nat, k ≤ n ∧ s = .int .i64 k) (fun s => n - (intOf s).toNat)
  case atStart => exact ⟨0, by omega, rfl⟩
  case round =>
    obtain ⟨k, hk, rfl⟩ := hrel
    by_cases hlt : k < n
    · obtain ⟨x, hx⟩ : ∃ x, qs[k]? = some x := ⟨_, List.getElem?_eq_getElem (by omega)⟩
      obtain ⟨nn, dd, c0, c1, c2, h0⟩ := HC.out k x hx
      obtain ⟨A, m, cc, B, m2, cc2, rfl, rfl, h3, h4⟩ := h0.lens
      have hm : (m : Int) ≤ 300 := by omega
      have hm2 : (m2 : Int) ≤ 300 := by omega
      clear hx h0
      go_wp2_with fail
      go_round
      case rel => exact ⟨k + 1, by omega, by go_num⟩
      case measure => simp [intOf] <;> omega
    · obtain rfl : k = n := by omega
      have hkk : ¬ ((k : Int) < (k : Int)) := by omega
      go_wp2_with fail
      go_loopw [4] (fun s wr => ∃ j : Nat, j ≤ k ∧ s = .int .i64 j ∧ Kp No w wr) (fun s _ => k - (intOf s).toNat)
      case atStart => exact ⟨0, by omega, rfl, Kp.refl _ _⟩
      case round =>
        obtain ⟨j, hj, rfl, hkp⟩ := hrel
        have KP := Lib.hid hkp
        by_cases hlt2 : j < k
        · obtain ⟨x, hx⟩ : ∃ x, qs[j]? = some x := ⟨_, List.getElem?_eq_getElem (by omega)⟩
          obtain ⟨nn, dd, c0, c1, c2, h0⟩ := (HC.out.no hkp) j x hx
          have PR := Lib.hid (proper_is _ x 300 wr h0 (by omega) (by omega))
          clear hx h0 hkp
          go_wp2_with fail
          refine PR.out.mono ?_
          rintro _ w2 ⟨rfl, hk2⟩
          have KP2 := Lib.hid (KP.out.tr hk2)
          clear hk2
          go_wp2_with fail
          go_round
          case rel => exact ⟨j + 1, by omega, by go_num, KP2.out⟩
          case measure => simp [intOf] <;> omega
        · obtain rfl : j = k := by omega
          go_wp2_with fail
          go_ret
          exact ⟨rfl, KP.out⟩
theorem negQ_int (n : Int) : negQ (n : Rat) = decide (n < 0) := rfl
set_option maxHeartbeats 1000000 in
theorem quo_is (n : Int) (w : World) (hn : -9223372036854775808 < n ∧ n < 9223372036854775808) :
    Calls Tryz.prog 46 #[.int .i64 n] w fun e w' => ∃ z, e = .returned z ∧ QuoNew w.heap.size w' z (n : Rat) 2 ∧ Kp No w w' := by
  have OF := Lib.hid (fun (x : Nat) (z : Int) (hz : z = (x : Int)) (hx : x < 18446744073709551616) w0 => show Calls Tryz.prog 67 #[.int .u64 z] w0 fun e w' => ∃ v, e = .returned v ∧ IsNew w0.heap.size w' v x 2 ∧ Kp No w0 w' by subst hz; exact of_any x w0 hx)
  have KB := Lib.hid (Kp.alloc No w (.cells #[.bool false, .slice none 0 0, .slice none 0 0] 89))
  have HB0 := Lib.hid (at_newQ w (.cells #[.bool false, .slice none 0 0, .slice none 0 0] 89))
  have SB := Lib.hid (show w.heap.size < (w.alloc (.cells #[.bool false, .slice none 0 0, .slice none 0 0] 89)).heap.size by simp)
  have FIN := Lib.hid (fun (w' w4 : World) (b : Bool) (u v : Value) (hb : b = decide (n < 0)) (hu : IsNew (w.heap.size + 1) w' u n.natAbs 2) (hv : IsNew (w.heap.size + 1) w' v 1 2) (hk : Kp (Kq.One w.heap.size) w' w4) => show QuoNew w.heap.size w4 (.agg #[.bool b, u, v]) (n : Rat) 2 from ⟨u, v, by rw [negQ_int, hb], (hu.kp hk (by omega)).mono (by omega), (hv.kp hk (by omega)).mono (by omega)⟩)
  by_cases hneg : n < 0
  all_goals
    obtain ⟨x, hx⟩ : ∃ x, x = n.natAbs := ⟨_, rfl⟩
    have hxx : IntKind.u64.wrap n = (x : Int) ∨ n < 0 := by
      rcases Int.lt_or_le n 0 with h | h
      · exact .inr h
      · left; rw [IntKind.wrap_u64]; omega
    have hx1 : IntKind.i64.wrap (-n) = -n := by rw [IntKind.wrap_i64]; omega
    have hx2 : IntKind.u64.wrap (-n) = -n ∨ 0 ≤ n := by
      rcases Int.lt_or_le n 0 with h | h
      · left; rw [IntKind.wrap_u64]; omega
      · exact .inr h
    have OX := fun z hz w0 => OF.out x z hz (by omega) w0
    rw [← hx] at FIN
    go_enter Tryz.func46, Tryz.ntmps46
    have HX := Lib.hid hx
    have OX := Lib.hid OX
    clear hx hn
  · have w1 : IntKind.u64.wrap (-n) = -n := by omega
    have e1 : -n = (x : Int) := by have := HX.out; omega
    have E1 := Lib.hid e1
    clear hxx hx2 e1
    go_wp2_with fail
    refine (OX.out _ E1.out _).mono ?_
    rintro _ w2 ⟨u, rfl, hu, k2⟩
    have U2 := Lib.hid (hu.mono (show w.heap.size + 1 ≤ _ from SB.out))
    have K2 := Lib.hid (KB.out.tr k2)
    have B2 := Lib.hid (k2.heap HB0.out id)
    have S2 := Lib.hid (show w.heap.size + 1 ≤ w2.heap.size from Nat.le_trans SB.out k2.size)
    clear hu k2
    go_wp2_with fail
    refine (ofone_any _).mono ?_
    rintro _ w3 ⟨v, rfl, hv, k3⟩
    have V3 := Lib.hid (hv.mono S2.out)
    have U3 := Lib.hid (U2.out.no k3)
    have K3 := Lib.hid (K2.out.tr k3)
    have B3 := k3.heap B2.out id
    clear hv k3
    obtain ⟨A, m, c, _, rfl, _⟩ := U3.out.1.pos
    obtain ⟨B, m2, c2, _, rfl, _⟩ := V3.out.1.pos
    obtain ⟨x0, x1, x2, y0, y1, y2⟩ := three_cells B3
    have B3 := Lib.hid B3
    go_wp2_with fail
    have hs := setQ_at B3.out (.bool true) (.slice A m c) (.slice B m2 c2)
    have hk := kp_setQ w3 w.heap.size (.bool true) (.slice A m c) (.slice B m2 c2)
    obtain ⟨z0, z1, z2, _⟩ := three_cells hs
    exact bodyPost_ret (v := .agg #[.bool true, .slice A m c, .slice B m2 c2]) (by simp [results, Tryz.results46, go_sem, z0, z1, z2]) rfl ⟨_, rfl, FIN.out w3 _ true (.slice A m c) (.slice B m2 c2) (by simp [hneg]) U3.out V3.out hk, K3.out.trans hk (fun k hk e => by unfold Kq.One at e; omega)⟩
  · have w1 : IntKind.u64.wrap n = n := by have := HX.out; omega
    have e1 : n = (x : Int) := by have := HX.out; omega
    have E1 := Lib.hid e1
    clear hxx hx2 e1
    go_wp2_with fail
    refine (OX.out _ E1.out _).mono ?_
    rintro _ w2 ⟨u, rfl, hu, k2⟩
    have U2 := Lib.hid (hu.mono (show w.heap.size + 1 ≤ _ from SB.out))
    have K2 := Lib.hid (KB.out.tr k2)
    have B2 := Lib.hid (k2.heap HB0.out id)
    have S2 := Lib.hid (show w.heap.size + 1 ≤ w2.heap.size from Nat.le_trans SB.out k2.size)
    clear hu k2
    go_wp2_with fail
    refine (ofone_any _).mono ?_
    rintro _ w3 ⟨v, rfl, hv, k3⟩
    have V3 := Lib.hid (hv.mono S2.out)
    have U3 := Lib.hid (U2.out.no k3)
    have K3 := Lib.hid (K2.out.tr k3)
    have B3 := k3.heap B2.out id
    clear hv k3
    obtain ⟨A, m, c, _, rfl, _⟩ := U3.out.1.pos
    obtain ⟨B, m2, c2, _, rfl, _⟩ := V3.out.1.pos
    obtain ⟨x0, x1, x2, y0, y1, y2⟩ := three_cells B3
    have B3 := Lib.hid B3
    go_wp2_with fail
    have hs := setQ_at B3.out (.bool false) (.slice A m c) (.slice B m2 c2)
    have hk := kp_setQ w3 w.heap.size (.bool false) (.slice A m c) (.slice B m2 c2)
    obtain ⟨z0, z1, z2, _⟩ := three_cells hs
    exact bodyPost_ret (v := .agg #[.bool false, .slice A m c, .slice B m2 c2]) (by simp [results, Tryz.results46, go_sem, z0, z1, z2]) rfl ⟨_, rfl, FIN.out w3 _ false (.slice A m c) (.slice B m2 c2) (by simp [hneg]) U3.out V3.out hk, K3.out.trans hk (fun k hk e => by unfold Kq.One at e; omega)⟩
end Go.Proofs.YtakgcnjpmpcekaaGreat
