/- Fractions and whole numbers: floor and ceil are the roundings. No program in sight. · What the reference's Scale gives is what the program's gives: plain. · Chapter 24: the document's Feet. -/
import Derived.Test.YtakgcnjpmpcekaaGreatXNtjM
import Derived.Test.YtakgcnjpmpcekaaGreatXLibTakeM
import Derived.Test.YtakgcnjpmpcekaaGreatXNuc
import Derived.Test.YtakgcnjpmpcekaaGreatXFeAM
import Derived.Test.YtakgcnjpmpcekaaGreatXRfJ
namespace Go.Kq

theorem floor_rnd {q : Rat} {V d : Int} (hd : 0 < d) (hq : q * (d : Rat) = (V : Rat)) : q.floor = rnd false V d := by
  obtain ⟨h1, h2⟩ := rnd_down V hd
  generalize rnd false V d = z at h1 h2 ⊢
  have hd' : (0 : Rat) < (d : Rat) := Rat.intCast_lt_intCast.2 hd
  have a : z ≤ q.floor := Rat.le_floor_iff.2 (Rat.le_of_mul_le_mul_right (by
    rw [hq, ← Rat.intCast_mul]
    exact Rat.intCast_le_intCast.2 h1) hd')
  have b : q.floor < z + 1 := Rat.floor_lt_iff.2 ((Rat.mul_lt_mul_right hd').1 (by
    rw [hq, ← Rat.intCast_mul]
    exact Rat.intCast_lt_intCast.2 (by rw [Int.add_mul]; omega)))
  omega
theorem ceil_rnd {q : Rat} {V d : Int} (hd : 0 < d) (hq : q * (d : Rat) = (V : Rat)) : q.ceil = rnd true V d := by
  rw [Rat.ceil_eq_neg_floor_neg, floor_rnd (V := -V) hd (by rw [Rat.neg_mul, hq, Rat.intCast_neg])]
  rfl
theorem scale_mul (x num den : Int) (hd : 0 < den) : (x : Rat) * ((num : Rat) / (den : Rat)) * (den : Rat) = ((x * num : Int) : Rat) := by
  have hne : (den : Rat) ≠ 0 := fun h => by
    have := (Rat.intCast_lt_intCast (a := 0) (b := den)).2 hd
    rw [h] at this
    exact absurd this (by decide)
  rw [Rat.mul_assoc, Rat.div_mul_cancel hne, Rat.intCast_mul]
theorem div_nn (num den : Int) (hn : 0 ≤ num) (hd : 0 < den) : (0 : Rat) ≤ (num : Rat) / (den : Rat) := by
  have hd' : (0 : Rat) < (den : Rat) := Rat.intCast_lt_intCast.2 hd
  refine Rat.le_of_mul_le_mul_right (c := (den : Rat)) ?_ hd'
  rw [Rat.div_mul_cancel (fun h => by rw [h] at hd'; exact absurd hd' (by decide)), Rat.zero_mul]
  exact Rat.intCast_le_intCast (a := 0).2 hn
theorem disc_mul (b k : Int) : ((b : Rat) * (b : Rat) * (((1 : Int) : Rat) / ((4 : Int) : Rat))) * ((k : Rat) / ((1000000000000000000 : Int) : Rat)) * ((4000000000000000000 : Int) : Rat) = ((b * b * k : Int) : Rat) := by
  have h4 : ((4 : Int) : Rat) ≠ 0 := by decide
  have h1 : ((1000000000000000000 : Int) : Rat) ≠ 0 := by decide
  have e : ((4000000000000000000 : Int) : Rat) = ((4 : Int) : Rat) * ((1000000000000000000 : Int) : Rat) := by rw [← Rat.intCast_mul]; rfl
  rw [e, Rat.intCast_mul, Rat.intCast_mul]
  generalize ((1000000000000000000 : Int) : Rat) = M at *
  have e1 : (k : Rat) / M * (((4 : Int) : Rat) * M) = ((4 : Int) : Rat) * (k : Rat) := by
    rw [Rat.mul_comm ((4 : Int) : Rat) M, ← Rat.mul_assoc, Rat.div_mul_cancel h1, Rat.mul_comm]
  rw [Rat.mul_assoc _ ((k : Rat) / M), e1, Rat.mul_assoc ((b : Rat) * (b : Rat)), ← Rat.mul_assoc (((1 : Int) : Rat) / ((4 : Int) : Rat)), Rat.div_mul_cancel h4, Rat.intCast_one, Rat.one_mul]
end Go.Kq

namespace Go.Proofs.YtakgcnjpmpcekaaGreat
open Go.RowKit Go.Kq

theorem two_span {x y : Rat} (h : x ≤ y) : spanL [x, y] = spanE x.floor y.ceil :=
  spanL_of (by simp) (fun z hz => by
    rcases List.mem_cons.1 hz with rfl | hz
    · exact Rat.le_refl
    · rw [List.mem_singleton.1 hz]; exact h) (by simp) (fun z hz => by
    rcases List.mem_cons.1 hz with rfl | hz
    · exact h
    · rw [List.mem_singleton.1 hz]; exact Rat.le_refl)
theorem span_one {a num den : Int} (hd : 0 < den) : spanL [(a : Rat) * ((num : Rat) / (den : Rat)), (a : Rat) * ((num : Rat) / (den : Rat))] = spanE (rnd false (a * num) den) (rnd true (a * num) den) := by
  rw [two_span Rat.le_refl, floor_rnd hd (scale_mul a num den hd), ceil_rnd hd (scale_mul a num den hd)]
theorem in_fits (z : Int) : in62 z = fits z := by
  unfold in62 fits M62
  by_cases h1 : -4611686018427387904 ≤ z <;> by_cases h2 : z ≤ 4611686018427387904 <;> simp [h1, h2]
theorem span_eq {a num den : Int} (hd : 0 < den) : spanL [(a : Rat) * ((num : Rat) / (den : Rat)), (a : Rat) * ((num : Rat) / (den : Rat))] = spanV den (a * num) [a * num] := by
  rw [span_one hd]
  unfold spanE spanV
  have e1 : minL (a * num) [a * num] = a * num := by simp [minL]
  have e2 : maxL (a * num) [a * num] = a * num := by simp [maxL]
  rw [e1, e2, in_fits, in_fits]
end Go.Proofs.YtakgcnjpmpcekaaGreat

namespace Go.Proofs.YtakgcnjpmpcekaaGreat
open Go.RowKit Go.Kq

set_option maxHeartbeats 8000000 in
set_option maxRecDepth 100000 in
theorem rFeet_any (W : Int) (R : Option Addr) (m cr : Nat) (r : List Int) (b z : Int) (w : World) (hR : RdI .i64 w R m r) :
    Calls Tryz.prog 8 #[.int .i64 W, .slice R m cr, .int .i64 b, .int .i64 z] w (FetR W r b z w) := by
  have HE := Lib.hid (fetE_of (W := W) (b := b) (z := z) hR.1)
  by_cases h60 : 60 < m
  · have HEE := Lib.hid (show fetE W r b z = 3 by rw [HE.out, if_pos h60])
    clear hR
    go_enter Tryz.func8, Tryz.ntmps8
    go_wp2_with fail
    refine bodyPost_ret (v := .tuple #[.slice none 0 0, .int .i64 3]) (by simp [results, Tryz.results8, go_sem]) rfl ?_
    have h := fet_err (W := W) (r := r) (b := b) (z := z) (w := w) (by rw [HEE.out]; decide) (Kp.refl No w)
    rw [HEE.out] at h
    exact h
  have hm60 : m ≤ 60 := by omega
  have O1 := Lib.hid (fun w0 => from_any W 1 10000000 w0)
  have O2 := Lib.hid (fun w0 => from_any b 0 3000000 w0)
  have O3 := Lib.hid (fun w0 => from_any z (-3000000) 3000000 w0)
  have O4 := Lib.hid (fun x w0 => from_any x 0 W w0)
  have HF := Lib.hid (show fetE W r b z = if oB W 1 10000000 || oB b 0 3000000 || oB z (-3000000) 3000000 || r.any (fun x => oB x 0 W) then 2 else 0 by rw [HE.out, if_neg h60])
  have HR := Lib.hid hR
  have HL := Lib.hid hR.1
  have HB1 : oB W 1 10000000 = false → 1 ≤ W ∧ W ≤ 10000000 := fun h => by unfold oB at h; simp at h; omega
  have HB3 : oB z (-3000000) 3000000 = false → -3000000 ≤ z ∧ z ≤ 3000000 := fun h => by unfold oB at h; simp at h; omega
  clear hR HE h60
  have HB2 : oB b 0 3000000 = false → 0 ≤ b ∧ b ≤ 3000000 := fun h => by unfold oB at h; simp at h; omega
  generalize oB W 1 10000000 = o1 at *
  generalize oB b 0 3000000 = o2 at *
  generalize oB z (-3000000) 3000000 = o3 at *
  cases o1
  rotate_left
  · have HEE := Lib.hid (show fetE W r b z = 2 by rw [HF.out]; rfl)
    clear HF HB1 HB2 HB3
    go_enter Tryz.func8, Tryz.ntmps8
    go_wp2_with fail
    with_reducible refine (O1.out _).mono ?_
    rintro e w1 ⟨rfl, hw⟩
    subst hw
    go_wp2_with fail
    refine bodyPost_ret (v := .tuple #[.slice none 0 0, .int .i64 2]) (by simp [results, Tryz.results8, go_sem]) rfl ?_
    have h := fet_err (W := W) (r := r) (b := b) (z := z) (by rw [HEE.out]; decide) (Kp.refl No w1)
    rw [HEE.out] at h
    exact h
  cases o2
  rotate_left
  · have HEE := Lib.hid (show fetE W r b z = 2 by rw [HF.out]; rfl)
    clear HF HB1 HB2 HB3
    go_enter Tryz.func8, Tryz.ntmps8
    go_wp2_with fail
    with_reducible refine (O1.out _).mono ?_
    rintro e w1 ⟨rfl, hw⟩
    subst hw
    go_wp2_with fail
    with_reducible refine (O2.out _).mono ?_
    rintro e w1 ⟨rfl, hw⟩
    subst hw
    go_wp2_with fail
    refine bodyPost_ret (v := .tuple #[.slice none 0 0, .int .i64 2]) (by simp [results, Tryz.results8, go_sem]) rfl ?_
    have h := fet_err (W := W) (r := r) (b := b) (z := z) (by rw [HEE.out]; decide) (Kp.refl No w1)
    rw [HEE.out] at h
    exact h
  cases o3
  rotate_left
  · have HEE := Lib.hid (show fetE W r b z = 2 by rw [HF.out]; rfl)
    clear HF HB1 HB2 HB3
    go_enter Tryz.func8, Tryz.ntmps8
    go_wp2_with fail
    with_reducible refine (O1.out _).mono ?_
    rintro e w1 ⟨rfl, hw⟩
    subst hw
    go_wp2_with fail
    with_reducible refine (O2.out _).mono ?_
    rintro e w1 ⟨rfl, hw⟩
    subst hw
    go_wp2_with fail
    with_reducible refine (O3.out _).mono ?_
    rintro e w1 ⟨rfl, hw⟩
    subst hw
    go_wp2_with fail
    refine bodyPost_ret (v := .tuple #[.slice none 0 0, .int .i64 2]) (by simp [results, Tryz.results8, go_sem]) rfl ?_
    have h := fet_err (W := W) (r := r) (b := b) (z := z) (by rw [HEE.out]; decide) (Kp.refl No w1)
    rw [HEE.out] at h
    exact h
  have HBX := Lib.hid (show (∃ x ∈ r, oB x 0 W = true) → fetE W r b z = 2 from fun ⟨x, hx, hq⟩ => by
    rw [HF.out, if_pos]
    rw [Bool.false_or, Bool.false_or, Bool.false_or]
    exact List.any_eq_true.2 ⟨x, hx, hq⟩)
  have HE2 := Lib.hid (show (r.any fun x => oB x 0 W) = false → fetE W r b z = 0 from fun h => by rw [HF.out, h]; rfl)
  have hb1 := HB1 rfl
  have hb2 := HB2 rfl
  have hb3 := HB3 rfl
  clear HB1 HB2 HB3 HF
  go_enter Tryz.func8, Tryz.ntmps8
  go_wp2_with fail
  with_reducible refine (O1.out _).mono ?_
  rintro e w1 ⟨rfl, hw⟩
  subst hw
  go_wp2_with fail
  with_reducible refine (O2.out _).mono ?_
  rintro e w1 ⟨rfl, hw⟩
  subst hw
  go_wp2_with fail
  with_reducible refine (O3.out _).mono ?_
  rintro e w1 ⟨rfl, hw⟩
  subst hw
  clear O1 O2 O3
  go_wp2_with fail
  go_loop [10] (fun i => ∃ k : Nat, k ≤ m ∧ i = .int .i64 (k : Nat) ∧ ((r.take k).any fun x => oB x 0 W) = false) (fun i => m - (intOf i).toNat)
  case atStart => exact ⟨0, by omega, rfl, rfl⟩
  case round =>
    obtain ⟨k, hk, rfl, hno⟩ := hrel
    have HN := Lib.hid hno
    clear hno
    by_cases hlt : k < m
    · obtain ⟨x, hx⟩ : ∃ x, r[k]? = some x := ⟨_, List.getElem?_eq_getElem (by rw [HL.out]; exact hlt)⟩
      obtain ⟨b0, o, rfl, hb, hc⟩ := HR.out.2 k x hx
      have HT := Lib.hid (any_take_succ (fun x => oB x 0 W) r k x hx)
      have HM := Lib.hid (List.mem_of_getElem? hx)
      have OX := Lib.hid (O4.out x)
      cases hq : oB x 0 W
      · have HQ := Lib.hid hq
        rw [hq] at OX
        clear hx hq
        go_wp2_with fail
        with_reducible refine (OX.out _).mono ?_
        rintro e w2 ⟨rfl, hw⟩
        subst hw
        go_wp2_with fail
        go_round
        case rel => exact ⟨k + 1, by omega, by go_num, by rw [HT.out, HN.out, HQ.out]; rfl⟩
        case measure => simp [intOf]; omega
      · have HEE := Lib.hid (HBX.out ⟨x, HM.out, hq⟩)
        rw [hq] at OX
        clear hx hq
        go_wp2_with fail
        with_reducible refine (OX.out _).mono ?_
        rintro e w2 ⟨rfl, hw⟩
        subst hw
        go_wp2_with fail
        refine bodyPost_ret (v := .tuple #[.slice none 0 0, .int .i64 2]) (by simp [results, Tryz.results8, go_sem]) rfl ?_
        have h := fet_err (W := W) (r := r) (b := b) (z := z) (by rw [HEE.out]; decide) (Kp.refl No w2)
        rw [HEE.out] at h
        exact h
    · obtain rfl : k = m := by omega
      have hnb : (r.any fun x => oB x 0 W) = false := by
        have h := HN.out
        rwa [List.take_of_length_le (by rw [HL.out]; exact Nat.le_refl _)] at h
      have HEE := Lib.hid (HE2.out hnb)
      have HFL := Lib.hid (show fetL W r b z = r.map (fetX W b z) by unfold fetL; rw [if_pos HEE.out])
      have HB := Lib.hid (show ∀ x ∈ r, 0 ≤ x ∧ x ≤ W from fun x hx => by
        have := List.any_eq_false.1 hnb x hx
        unfold oB at this
        simp only [Bool.or_eq_true, decide_eq_true_eq, not_or] at this
        omega)
      clear HN HBX HE2 hnb O4
      obtain ⟨D, hD⟩ : ∃ D, D = W * W := ⟨_, rfl⟩
      have hDe : W * W = D := hD.symm
      have hDb : 1 ≤ D ∧ D ≤ 100000000000000 := by
        have h1 := Int.mul_le_mul hb1.1 hb1.1 (by omega) (by omega)
        have h2 := Int.mul_le_mul hb1.2 hb1.2 (by omega) (by omega)
        omega
      have HFX := Lib.hid (show ∀ x P, x * (W - x) = P → fetX W b z x = b + P * (4 * z) / D by intro x P h; unfold fetX; rw [h, hDe])
      have HP := Lib.hid (show ∀ x, 0 ≤ x → x ≤ W → 0 ≤ x * (W - x) ∧ x * (W - x) ≤ D by
        intro x h0 h1
        refine ⟨Int.mul_nonneg h0 (by omega), ?_⟩
        rw [hD]
        exact Int.mul_le_mul h1 (by omega) (by omega) (by omega))
      have SC := Lib.hid (fun (P : Int) (h : 0 ≤ P ∧ P ≤ D) w0 => by
        have h1 := scale_is (P, P) (4 * z) D w0 (by
          unfold ckE
          rw [if_pos (by intro y hy; simp at hy; subst hy; unfold fits M62; simp; omega), if_pos (by intro y hy; simp at hy; subst hy; simp)]) (by omega) (by omega)
        rw [span_eq (a := P) (num := 4 * z) (den := D) (by omega)] at h1
        exact h1)
      clear hD
      go_wp2_with fail
      have HMT := Lib.hid (fun j x (h : r[j]? = some x) => show (r.take (j + 1)).map (fetX W b z) = (r.take j).map (fetX W b z) ++ [fetX W b z x] by rw [List.take_add_one, h]; simp)
      have HM0 := Lib.hid (show (r.take 0).map (fetX W b z) = [] by simp)
      have HMA := Lib.hid (show (r.take k).map (fetX W b z) = r.map (fetX W b z) by rw [List.take_of_length_le (by rw [HL.out]; exact Nat.le_refl _)])
      have HMN := Lib.hid (show ∀ j, j ≤ k → ((r.take j).map (fetX W b z)).length = j from fun j hj => by rw [List.length_map, List.length_take, HL.out]; omega)
      go_loopw [11, 12] (fun v i wr => ∃ (j : Nat) (A : Option Addr) (c : Nat), j ≤ k ∧ i = .int .i64 (j : Nat) ∧ v = .slice A j c ∧ OwL wr w1.heap.size (.slice A j c) ((r.take j).map (fetX W b z)) ∧ Kp No w1 wr) (fun _ i _ => k - (intOf i).toNat)
      case atStart => exact ⟨0, none, 0, by omega, rfl, rfl, by rw [HM0.out]; exact World.ownsRow_nil _ _ _ _, Kp.refl _ _⟩
      case round =>
        obtain ⟨j, A, c, hj, rfl, rfl, hown, hkp⟩ := hrel
        have HO := Lib.hid hown
        have HKP := Lib.hid hkp
        clear hown hkp
        by_cases hlt : j < k
        · obtain ⟨x, hx⟩ : ∃ x, r[j]? = some x := ⟨_, List.getElem?_eq_getElem (by rw [HL.out]; exact hlt)⟩
          obtain ⟨b0, o, rfl, hb, hc⟩ := (HR.out.no HKP.out).2 j x hx
          have hx1 := HB.out x (List.mem_of_getElem? hx)
          have HMJ := Lib.hid (HMT.out j x hx)
          have HLJ := Lib.hid (HMN.out j hj)
          obtain ⟨P, hP⟩ : ∃ P, x * (W - x) = P := ⟨_, rfl⟩
          have hPb := HP.out x hx1.1 hx1.2
          rw [hP] at hPb
          have HFX1 := Lib.hid (HFX.out x P hP)
          have hsp := fet_span (p := P) (n := 4 * z) (D := D) hPb.1 hPb.2 hDb.1 (by omega)
          have SC1 := Lib.hid (SC.out P hPb)
          obtain ⟨hsp, hYb⟩ := hsp
          rw [hsp] at SC1
          generalize P * (4 * z) / D = Y at *
          generalize -((-(P * (4 * z))) / D) = Z at *
          simp only [ieV, ivV] at SC1
          clear hx hsp
          have d1 : IntKind.i64.wrap (x * (W - x)) = P := by rw [hP]; rw [IntKind.wrap_i64]; omega
          go_wp2_with fail
          go_quiet (fail)
          have HKQ := Lib.hid (HKP.out.tr (Kp.drewN No wr nq))
          have HOQ := Lib.hid (own_kp HO.out (Kp.drewN No wr nq) (fun _ _ => id))
          clear hb hc d1
          go_wp2_with fail
          with_reducible refine (SC1.out _).mono ?_
          rintro e w3 ⟨rfl, k3⟩
          have K4 := Lib.hid ((HKQ.out.tr k3).tr (Kp.alloc No w3 (.cells #[.int .i64 Y, .int .i64 Z] 53)))
          have O4 := Lib.hid (own_kp HOQ.out (k3.tr (Kp.alloc No w3 (.cells #[.int .i64 Y, .int .i64 Z] 53))) (fun _ _ => id))
          clear k3
          go_wp2_with (at_builtin; refine stop_in ?_)
          refine stop_out ?_
          refine push_long rfl _ _ rfl w1.heap.size A j c ((r.take j).map (fetX W b z)) (b + Y) rfl rfl (by rw [show (w3.alloc (.cells #[.int .i64 Y, .int .i64 Z] 53)).heap.size = w3.heap.size + 1 by simp]; rfl) HLJ.out (by have := O4.out; rw [HLJ.out] at this; show World.ownsRow _ _ _ _ _ _ _; rw [HLJ.out]; exact this) (by omega) K4.out (Nat.le_refl _) K4.out.size ?_
          intro g c' w4 hown' hk4 _
          have HO4 := Lib.hid hown'
          have HK4 := Lib.hid hk4
          clear hown' hk4
          go_wp2_with fail
          go_roundw
          case rel =>
            refine ⟨j + 1, _, c', by omega, by go_num, rfl, ?_, HK4.out⟩
            rw [HMJ.out, HFX1.out]
            exact HO4.out
          case measure => simp [intOf]; omega
        · obtain rfl : j = k := by omega
          go_wp2_with fail
          refine bodyPost_ret (v := .tuple #[.slice A j c, .int .i64 0]) (by simp [results, Tryz.results8, go_sem]) rfl ?_
          refine ⟨A, c, ?_, ?_, HKP.out⟩
          · rw [HFL.out, HEE.out, List.length_map, HL.out]
          · rw [HFL.out, List.length_map, HL.out, ← HMA.out]; exact HO.out
end Go.Proofs.YtakgcnjpmpcekaaGreat
