/- Spans of fractions: bad, two, Add, Sub, Mul: walks. -/
import Derived.Test.YtlieijnhaolnhaaGreatXNtt
namespace Go.Proofs.YtlieijnhaolnhaaGreat
open Go.RowKit Go.Kq

theorem fits_in62 (z : Int) : fits z = in62 z := by
  unfold fits in62 M62
  rw [Bool.eq_iff_iff]
  simp
set_option maxHeartbeats 4000000 in
theorem bad03_any (l : List (Int × Int)) (g n c : Nat) (w : World) (hl : l.length = n) (hn : n ≤ 1000)
    (hc : ∀ (k : Nat) x, l[k]? = some x → w.cell? ⟨g, k * 2, none⟩ = some (.int .i64 x.1) ∧ w.cell? ⟨g, k * 2 + 1, none⟩ = some (.int .i64 x.2)) :
    Calls Tryz.prog 80 #[.slice (some ⟨g, 0, none⟩) n c] w fun e w' => e = .returned (.int .i64 (ckE l)) ∧ Kp No w w' := by
  have HC := Lib.hid hc
  clear hc
  have hnI : (n : Int) ≤ 1000 := by omega
  obtain ⟨E, hE⟩ : ∃ E, ckE l = E := ⟨_, rfl⟩
  rw [hE]
  have HE := Lib.hid hE
  clear hE
  go_enter Tryz.func80, Tryz.ntmps80
  go_wp2_with fail
  go_loop [3] (fun i => ∃ k : Nat, k ≤ n ∧ i = .int .i64 k ∧ (∀ x ∈ l.take k, fits x.1 = true ∧ fits x.2 = true)) (fun i => n - (intOf i).toNat)
  case atStart => exact ⟨0, by omega, rfl, by simp⟩
  case round =>
    obtain ⟨k, hk, rfl, hall⟩ := hrel
    by_cases hkn : k < n
    · obtain ⟨x, hx⟩ : ∃ x, l[k]? = some x := ⟨l[k], List.getElem?_eq_getElem (by omega)⟩
      have c0 := (HC.out k x hx).1
      have c1 := (HC.out k x hx).2
      have hkI : (k : Int) < n := by omega
      have hw1 : IntKind.i64.wrap ((k : Int) + 1) = (k : Int) + 1 := by rw [IntKind.wrap_i64]; omega
      have HA := Lib.hid hall
      have HX := Lib.hid hx
      clear hall hx
      have BAD : ¬ (fits x.1 = true ∧ fits x.2 = true) → E = 7 := fun h => by
        rw [← HE.out]
        unfold ckE
        rw [if_neg]
        intro h2
        exact h (h2 x (mem_take HX.out))
      replace BAD := Lib.hid BAD
      by_cases a1 : x.1 < -4611686018427387904
      · obtain rfl := BAD.out (fun h => by have := fits_bounds h.1; omega)
        go_wp2_with fail
        go_ret
        exact ⟨rfl, Kp.refl _ _⟩
      · by_cases a2 : 4611686018427387904 < x.1
        · obtain rfl := BAD.out (fun h => by have := fits_bounds h.1; omega)
          go_wp2_with fail
          go_ret
          exact ⟨rfl, Kp.refl _ _⟩
        · by_cases a3 : x.2 < -4611686018427387904
          · obtain rfl := BAD.out (fun h => by have := fits_bounds h.2; omega)
            go_wp2_with fail
            go_ret
            exact ⟨rfl, Kp.refl _ _⟩
          · by_cases a4 : 4611686018427387904 < x.2
            · obtain rfl := BAD.out (fun h => by have := fits_bounds h.2; omega)
              go_wp2_with fail
              go_ret
              exact ⟨rfl, Kp.refl _ _⟩
            · have HN := Lib.hid (all_take HA.out HX.out (by rw [fits_in62, fits_in62]; unfold in62; constructor <;> (rw [decide_eq_true_eq]; omega)))
              go_wp2_with fail
              go_round
              case rel => exact ⟨k + 1, by omega, by go_num, HN.out⟩
              case measure => simp [intOf] <;> omega
    · obtain rfl : k = n := by omega
      have hkk : ¬ ((k : Int) < (k : Int)) := by omega
      have HF := Lib.hid (show ∀ x ∈ l, fits x.1 = true ∧ fits x.2 = true by rwa [List.take_of_length_le (by omega)] at hall)
      clear hall
      go_wp2_with fail
      go_loopw [4] (fun i wr => ∃ j : Nat, j ≤ k ∧ i = .int .i64 j ∧ (∀ x ∈ l.take j, x.1 ≤ x.2) ∧ Kp No w wr) (fun i _ => k - (intOf i).toNat)
      case atStart => exact ⟨0, by omega, rfl, by simp, Kp.refl _ _⟩
      case round =>
        obtain ⟨j, hj, rfl, hall, hkp⟩ := hrel
        have KP := Lib.hid hkp
        by_cases hjn : j < k
        · obtain ⟨x, hx⟩ : ∃ x, l[j]? = some x := ⟨l[j], List.getElem?_eq_getElem (by omega)⟩
          have c0 := hkp.cell (HC.out j x hx).1 id
          have c1 := hkp.cell (HC.out j x hx).2 id
          have hkI : (j : Int) < k := by omega
          have hj0 : (0 : Int) ≤ (j : Int) := by omega
          have hw1 : IntKind.i64.wrap ((j : Int) + 1) = (j : Int) + 1 := by rw [IntKind.wrap_i64]; omega
          have HA := Lib.hid hall
          have HX := Lib.hid hx
          clear hall hx hkp
          by_cases a1 : x.2 < x.1
          · obtain rfl : E = 2 := by
              rw [← HE.out]
              unfold ckE
              rw [if_pos HF.out, if_neg]
              intro h2
              have := h2 x (mem_take HX.out)
              omega
            go_wp2_with fail
            go_quiet (fail)
            have KN := Lib.hid (KP.out.tr (Kp.drewN No wr nq))
            go_wp2_with fail
            go_ret
            exact ⟨rfl, KN.out⟩
          · have HN := Lib.hid (all_take (p := fun x : Int × Int => x.1 ≤ x.2) HA.out HX.out (by omega))
            go_wp2_with fail
            go_quiet (fail)
            have KN := Lib.hid (KP.out.tr (Kp.drewN No wr nq))
            go_wp2_with fail
            go_round
            case rel => exact ⟨j + 1, by omega, by go_num, HN.out, KN.out⟩
            case measure => simp [intOf] <;> omega
        · obtain rfl : j = k := by omega
          obtain rfl : E = 0 := by
            rw [← HE.out]
            unfold ckE
            rw [if_pos HF.out, if_pos]
            rwa [List.take_of_length_le (by omega)] at hall
          clear hall hkp
          go_wp2_with fail
          go_ret
          exact ⟨rfl, KP.out⟩
end Go.Proofs.YtlieijnhaolnhaaGreat
