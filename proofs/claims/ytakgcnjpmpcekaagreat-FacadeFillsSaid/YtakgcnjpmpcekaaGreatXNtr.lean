/- Fractions: QFloor, floor, ceil: walks. -/
import Derived.Test.YtakgcnjpmpcekaaGreatXNtn
namespace Go.Proofs.YtakgcnjpmpcekaaGreat
open Go.RowKit Go.Kq

theorem qat_one {w : World} {g : Nat} {t : TypeId} {n1 d1 : Value} {a : Rat} {s1 : Bool} (hh : w.heap[g]? = some (.cells #[.bool s1, n1, d1] t (0, 0))) (h1 : negQ a = s1) (ha : IsQuo w (.agg #[.bool s1, n1, d1]) a 300) : QAt w g [a] := by
  subst h1
  intro i q hq
  match i, hq with
  | 0, hq => simp at hq; subst hq; exact ⟨n1, d1, by rw [cell_of_row _ _ _ _ _ _ hh]; rfl, by rw [cell_of_row _ _ _ _ _ _ hh]; rfl, by rw [cell_of_row _ _ _ _ _ _ hh]; rfl, ha⟩
  | i + 1, hq => simp at hq
theorem two_newQ (w : World) (o1 o2 : Obj) : ((w.alloc o1).alloc o2).heap[w.heap.size]? = some o1 ∧ ((w.alloc o1).alloc o2).heap[w.heap.size + 1]? = some o2 ∧ Kp No w ((w.alloc o1).alloc o2) := by
  refine ⟨?_, ?_, (Kp.alloc _ _ _).tr (Kp.alloc _ _ _)⟩
  · rw [Below.heap_alloc _ _ _ (by simp), heap_alloc_new]
  · have := heap_alloc_new (w.alloc o1) o2
    simpa using this
/-- The whole part of a fraction, without its sign. -/
def flN (q : Rat) : Nat := q.num.natAbs / q.den + (if negQ q then (if 0 < q.num.natAbs % q.den then 1 else 0) else 0)
theorem floor_fl (q : Rat) : q.floor = sgn (negQ q) (flN q) := by
  rw [floor_low]
  unfold flN sgn
  cases negQ q <;> simp
set_option maxHeartbeats 1000000 in
set_option maxRecDepth 100000 in
theorem qfloor_is (u : Value) (a : Rat) (k : Nat) (w : World) (hu : IsQuo w u a k) (hk : k ≤ 200) :
    Calls Tryz.prog 86 #[u] w fun e w' => ∃ z, e = .returned (.tuple #[.bool (negQ a), z, .int .i64 0]) ∧ IsNat w' z (flN a) (k + 3) ∧ Kp No w w' := by
  have hu0 := hu
  obtain ⟨n1, d1, rfl, hn1, hd1⟩ := hu
  have hfl : flN a = a.num.natAbs / a.den + (if negQ a = true then (if 0 < a.num.natAbs % a.den then 1 else 0) else 0) := rfl
  obtain ⟨s1, hs1⟩ : ∃ s, negQ a = s := ⟨_, rfl⟩
  rw [hs1] at hu0 hfl ⊢
  have BQ := Lib.hid (fun (g : Nat) (w0 : World) (hk0 : Kp No w w0) (hh : w0.heap[g]? = some (.cells #[.bool s1, n1, d1] 89 (0, 0))) => badq_is g 1 1 [a] w0 rfl (by omega) (qat_one hh hs1 ((hu0.no hk0).le (by omega))))
  have DI := Lib.hid (fun (w0 : World) (hk0 : Kp No w w0) => divide_is n1 d1 _ _ k k w0 (hn1.no hk0) (hd1.no hk0) (by omega) (by omega) a.den_pos)
  generalize flN a = fl at *
  generalize a.num.natAbs = x1 at *
  generalize a.den = y1 at *
  obtain ⟨A1, m1, c1, _, rfl, _⟩ := hn1.pos
  obtain ⟨A2, m2, c2, _, rfl, _⟩ := hd1.pos
  clear hn1 hd1 hu0 hs1
  obtain ⟨h1, h2, KA⟩ := two_newQ w (.cells #[.bool s1, .slice A1 m1 c1, .slice A2 m2 c2] 89) (.cells #[.bool s1, .slice A1 m1 c1, .slice A2 m2 c2] 89)
  replace h1 := Lib.hid h1
  replace h2 := Lib.hid h2
  replace KA := Lib.hid KA
  generalize x1 / y1 = Q at *
  generalize x1 % y1 = R at *
  replace hfl := Lib.hid hfl
  go_enter Tryz.func86, Tryz.ntmps86
  go_wp2_with fail
  refine (BQ.out _ _ KA.out h2.out).mono ?_
  rintro _ wb ⟨rfl, kb⟩
  have KB := Lib.hid (KA.out.tr kb)
  have HB1 := kb.heap h1.out id
  obtain ⟨a0, a1, a2, _⟩ := three_cells HB1
  clear h1 h2 KA kb BQ
  replace HB1 := Lib.hid HB1
  go_wp2_with fail
  refine (DI.out _ KB.out).mono ?_
  rintro _ wc ⟨q, r, rfl, hq, hr, kc⟩
  have KC := Lib.hid (KB.out.tr kc)
  obtain ⟨b0, b1, b2, _⟩ := three_cells (kc.heap HB1.out id)
  have HQ := Lib.hid hq.1
  obtain ⟨B, m3, c3, _, rfl, _, _, _, g3⟩ := hr.pos
  clear hr hq kc a0 a1 a2 KB
  cases s1
  · have hf := hfl.out
    simp only [Bool.false_eq_true, if_false, Nat.add_zero] at hf
    subst hf
    go_wp2_with fail
    refine bodyPost_ret (v := .tuple #[.bool false, q, .int .i64 0]) (by simp [results, Tryz.results86, go_sem]) rfl ⟨q, rfl, HQ.out.le (by omega), KC.out⟩
  · by_cases hp : 0 < R
    · have hm3 : (0 : Int) < (m3 : Int) := by have := g3.2 hp; omega
      have hf := hfl.out
      rw [if_pos rfl, if_pos hp] at hf
      subst hf
      clear g3 hp hfl
      have K9 := Lib.hid (show k + 2 + 1 ≤ k + 3 ∧ k ≤ 1000 by omega)
      go_wp2_with fail
      refine (ofone_any _).mono ?_
      rintro _ wd ⟨v, rfl, hv, kd⟩
      have PL := Lib.hid (plus_new q v Q 1 k 2 (k + 3) wd (HQ.out.no kd) hv.1 K9.out.2 (by omega) K9.out.1)
      have KD := Lib.hid (KC.out.tr kd)
      have d0 := kd.cell b0 id
      clear b0 b1 b2 kd hv
      go_wp2_with fail
      refine PL.out.mono ?_
      rintro _ we ⟨z, rfl, hz, ke⟩
      have HZ := Lib.hid hz.1
      have KE := Lib.hid (KD.out.tr ke)
      have e0 := ke.cell d0 id
      clear d0 ke hz
      go_wp2_with fail
      refine bodyPost_ret (v := .tuple #[.bool true, z, .int .i64 0]) (by simp [results, Tryz.results86, go_sem]) rfl ⟨z, rfl, HZ.out, KE.out⟩
    · obtain rfl : m3 = 0 := by
        rcases Nat.eq_zero_or_pos m3 with h | h
        · exact h
        · exact absurd (g3.1 h) hp
      have hf := hfl.out
      rw [if_pos rfl, if_neg hp, Nat.add_zero] at hf
      subst hf
      clear g3 hp hfl
      go_wp2_with fail
      refine bodyPost_ret (v := .tuple #[.bool true, q, .int .i64 0]) (by simp [results, Tryz.results86, go_sem]) rfl ⟨q, rfl, HQ.out.le (by omega), KC.out⟩
/-- Whether a whole number is from -2^62 to 2^62. -/
def in62 (z : Int) : Bool := decide (-4611686018427387904 ≤ z ∧ z ≤ 4611686018427387904)
def flV (z : Int) : Value := if in62 z then .tuple #[.int .i64 z, .bool true] else .tuple #[.int .i64 0, .bool false]
set_option maxHeartbeats 1000000 in
set_option maxRecDepth 100000 in
theorem floor_is (u : Value) (a : Rat) (k : Nat) (w : World) (hu : IsQuo w u a k) (hk : k ≤ 200) :
    Calls Tryz.prog 69 #[u] w fun e w' => e = .returned (flV a.floor) ∧ Kp No w w' := by
  have FL := Lib.hid (fun (w0 : World) (hk0 : Kp No w w0) => qfloor_is u a k w0 (hu.no hk0) hk)
  have hfl := floor_fl a
  obtain ⟨n1, d1, rfl, hn1, hd1⟩ := hu
  obtain ⟨A1, m1, c1, _, rfl, _⟩ := hn1.pos
  obtain ⟨A2, m2, c2, _, rfl, _⟩ := hd1.pos
  clear hn1 hd1
  rw [hfl]
  generalize flN a = x at *
  generalize negQ a = s at *
  have SM := Lib.hid (fun (w0 : World) (z : Value) (hz : IsNat w0 z x (k + 3)) => small_is z x (k + 3) w0 hz (by omega))
  obtain ⟨fv, hfv⟩ : ∃ v, flV (sgn s x) = v := ⟨_, rfl⟩
  rw [hfv]
  unfold flV in62 sgn at hfv
  clear hfl
  replace hfv := Lib.hid hfv
  have KA := Lib.hid (Kp.alloc No w (.cells #[.bool s, .slice A1 m1 c1, .slice A2 m2 c2] 89))
  go_enter Tryz.func69, Tryz.ntmps69
  go_wp2_with fail
  refine (FL.out _ KA.out).mono ?_
  rintro _ wb ⟨z, rfl, hz, kb⟩
  have S2 := SM.out wb z hz
  have KB := Lib.hid (KA.out.tr kb)
  clear hz kb KA FL SM
  unfold smallV at S2
  by_cases hx : x < 18446744073709551616
  · rw [if_pos hx] at S2
    by_cases hx2 : x ≤ 4611686018427387904
    · have w1 : IntKind.i64.wrap (x : Int) = (x : Int) := by rw [IntKind.wrap_i64]; omega
      have w2 : IntKind.i64.wrap (-(x : Int)) = -(x : Int) := by rw [IntKind.wrap_i64]; omega
      have hx3 : ¬ (4611686018427387904 : Int) < (x : Int) := by omega
      have hf := hfv.out
      rw [if_pos (by rw [decide_eq_true_eq]; split <;> omega)] at hf
      subst hf
      obtain ⟨X, hX⟩ : ∃ X : Int, (x : Int) = X := ⟨_, rfl⟩
      rw [hX] at S2 w1 w2 hx3
      replace S2 := Lib.hid S2
      have HX := Lib.hid hX
      clear hX hx hx2 hfv
      go_wp2_with fail
      refine S2.out.mono ?_
      rintro _ wc ⟨rfl, kc⟩
      have KC := Lib.hid (KB.out.tr kc)
      clear kc
      cases s
      · go_wp2_with fail
        refine bodyPost_ret (v := .tuple #[.int .i64 X, .bool true]) (by simp [results, Tryz.results69, go_sem]) rfl ⟨by simp [HX.out], KC.out⟩
      · go_wp2_with fail
        refine bodyPost_ret (v := .tuple #[.int .i64 (-X), .bool true]) (by simp [results, Tryz.results69, go_sem]) rfl ⟨by simp [HX.out], KC.out⟩
    · have hx3 : (4611686018427387904 : Int) < (x : Int) := by omega
      have hf := hfv.out
      rw [if_neg (by rw [decide_eq_true_eq]; split <;> omega)] at hf
      subst hf
      obtain ⟨X, hX⟩ : ∃ X : Int, (x : Int) = X := ⟨_, rfl⟩
      rw [hX] at S2 hx3
      replace S2 := Lib.hid S2
      clear hX hx hx2 hfv
      go_wp2_with fail
      refine S2.out.mono ?_
      rintro _ wc ⟨rfl, kc⟩
      have KC := Lib.hid (KB.out.tr kc)
      clear kc
      go_wp2_with fail
      refine bodyPost_ret (v := .tuple #[.int .i64 0, .bool false]) (by simp [results, Tryz.results69, go_sem]) rfl ⟨rfl, KC.out⟩
  · rw [if_neg hx] at S2
    have hf := hfv.out
    rw [if_neg (by rw [decide_eq_true_eq]; split <;> omega)] at hf
    subst hf
    replace S2 := Lib.hid S2
    clear hx hfv
    go_wp2_with fail
    refine S2.out.mono ?_
    rintro _ wc ⟨rfl, kc⟩
    have KC := Lib.hid (KB.out.tr kc)
    clear kc
    go_wp2_with fail
    refine bodyPost_ret (v := .tuple #[.int .i64 0, .bool false]) (by simp [results, Tryz.results69, go_sem]) rfl ⟨rfl, KC.out⟩
set_option maxHeartbeats 1000000 in
set_option maxRecDepth 100000 in
theorem ceil_is (u : Value) (a : Rat) (k : Nat) (w : World) (hu : IsQuo w u a k) (hk : k ≤ 200) :
    Calls Tryz.prog 70 #[u] w fun e w' => e = .returned (flV a.ceil) ∧ Kp No w w' := by
  have hc := Rat.ceil_eq_neg_floor_neg a
  obtain ⟨t1, t2, t3⟩ := neg_low a
  obtain ⟨n1, d1, rfl, hn1, hd1⟩ := hu
  obtain ⟨A1, m1, c1, _, rfl, _, _, _, g⟩ := hn1.pos
  obtain ⟨A2, m2, c2, _, rfl, _⟩ := hd1.pos
  have FL := Lib.hid (fun (w0 : World) (b : Bool) (hb : b = (!negQ a && decide (0 < m1))) (hk0 : Kp No w w0) => floor_is (.agg #[.bool b, .slice A1 m1 c1, .slice A2 m2 c2]) (-a) k w0 ⟨.slice A1 m1 c1, .slice A2 m2 c2, by rw [t1, hb, decide_eq_decide.2 g], by rw [t2]; exact hn1.no hk0, by rw [t3]; exact hd1.no hk0⟩ hk)
  rw [hc]
  generalize (-a).floor = z at *
  generalize negQ a = s at *
  have hv : flV (-z) = if in62 z then .tuple #[.int .i64 (-z), .bool true] else .tuple #[.int .i64 0, .bool false] := by
    unfold flV
    have : in62 (-z) = in62 z := by
      unfold in62
      rw [decide_eq_decide]
      omega
    rw [this]
  rw [hv]
  unfold flV at FL
  have hw1 : in62 z = true → IntKind.i64.wrap (-z) = -z := fun h => by unfold in62 at h; simp at h; rw [IntKind.wrap_i64]; omega
  clear hn1 hd1 t1 t2 t3 hc hv g
  have KA := Lib.hid (Kp.alloc No w (.cells #[.bool s, .slice A1 m1 c1, .slice A2 m2 c2] 89))
  cases hz : in62 z
  · rw [hz] at FL
    simp only [Bool.false_eq_true, if_false] at FL ⊢
    cases s
    all_goals
      go_enter Tryz.func70, Tryz.ntmps70
      go_wp2_with fail
      refine (FL.out _ _ (by simp) KA.out).mono ?_
      rintro _ wb ⟨rfl, kb⟩
      have KB := Lib.hid (KA.out.tr kb)
      clear kb
      go_wp2_with fail
      refine bodyPost_ret (v := .tuple #[.int .i64 0, .bool false]) (by simp [results, Tryz.results70, go_sem]) rfl ⟨rfl, KB.out⟩
  · rw [hz] at FL
    have hw2 := hw1 hz
    simp only [if_true] at FL ⊢
    cases s
    all_goals
      go_enter Tryz.func70, Tryz.ntmps70
      go_wp2_with fail
      refine (FL.out _ _ (by simp) KA.out).mono ?_
      rintro _ wb ⟨rfl, kb⟩
      have KB := Lib.hid (KA.out.tr kb)
      clear kb
      go_wp2_with fail
      refine bodyPost_ret (v := .tuple #[.int .i64 (-z), .bool true]) (by simp [results, Tryz.results70, go_sem]) rfl ⟨rfl, KB.out⟩
end Go.Proofs.YtakgcnjpmpcekaaGreat
