/- Fractions: QFloor, floor, ceil: walks. · Fractions: turned, QSub: walks. Printed by gen_ntn.py. -/
import Derived.Test.YtamjhpdgclbfgaaGreatXNtn
import Derived.Test.YtamjhpdgclbfgaaGreatXNtp
namespace Go.Proofs.YtamjhpdgclbfgaaGreat
open Go.RowKit Go.Kq

theorem qat_one {w : World} {g : Nat} {t : TypeId} {n1 d1 : Value} {a : Rat} {s1 : Bool} (hh : w.heap[g]? = some (.cells #[.bool s1, n1, d1] t (0, 0))) (h1 : negQ a = s1) (ha : IsQuo w (.agg #[.bool s1, n1, d1]) a 300) : QAt w g [a] := by
  subst h1
  intro i q hq
  match i, hq with
  | 0, hq => simp at hq; subst hq; exact ⟨n1, d1, by rw [cell_of_row _ _ _ _ _ _ hh]; rfl, by rw [cell_of_row _ _ _ _ _ _ hh]; rfl, by rw [cell_of_row _ _ _ _ _ _ hh]; rfl, ha⟩
  | i + 1, hq => simp at hq
theorem two_newQ (w : World) (o1 o2 : Obj) : ((w.alloc o1).alloc o2).heap[w.heap.size]? = some o1 ∧ ((w.alloc o1).alloc o2).heap[w.heap.size + 1]? = some o2 ∧ Kp No w ((w.alloc o1).alloc o2) := by
  refine ⟨?_, ?_, (Kp.alloc _ _ _).tr (Kp.alloc _ _ _)⟩
  · rw [Below.heap_alloc _ _ _ (by simp), heap_alloc_new]
  · have := heap_alloc_new (w.alloc o1) o2
    simpa using this
/-- The whole part of a fraction, without its sign. -/
def flN (q : Rat) : Nat := q.num.natAbs / q.den + (if negQ q then (if 0 < q.num.natAbs % q.den then 1 else 0) else 0)
theorem floor_fl (q : Rat) : q.floor = sgn (negQ q) (flN q) := by
  rw [floor_low]
  unfold flN sgn
  cases negQ q <;> simp
set_option maxHeartbeats 1000000 in
set_option maxRecDepth 100000 in
theorem qfloor_is (u : Value) (a : Rat) (k : Nat) (w : World) (hu : IsQuo w u a k) (hk : k ≤ 200) :
    Calls Tryz.prog 92 #[u] w fun e w' => ∃ z, e = .returned (.tuple #[.bool (negQ a), z, .int .i64 0]) ∧ IsNat w' z (flN a) (k + 3) ∧ Kp No w w' := by
  have hu0 := hu
  obtain ⟨n1, d1, rfl, hn1, hd1⟩ := hu
  have hfl : flN a = a.num.natAbs / a.den + (if negQ a = true then (if 0 < a.num.natAbs % a.den then 1 else 0) else 0) := rfl
  obtain ⟨s1, hs1⟩ : ∃ s, negQ a = s := ⟨_, rfl⟩
  rw [hs1] at hu0 hfl ⊢
  have BQ := Lib.hid (fun (g : Nat) (w0 : World) (hk0 : Kp No w w0) (hh : w0.heap[g]? = some (.cells #[.bool s1, n1, d1] 76 (0, 0))) => badq_is g 1 1 [a] w0 rfl (by omega) (qat_one hh hs1 ((hu0.no hk0).le (by omega))))
  have DI := Lib.hid (fun (w0 : World) (hk0 : Kp No w w0) => divide_is n1 d1 _ _ k k w0 (hn1.no hk0) (hd1.no hk0) (by omega) (by omega) a.den_pos)
  generalize flN a = fl at *
  generalize a.num.natAbs = x1 at *
  generalize a.den = y1 at *
  obtain ⟨A1, m1, c1, _, rfl, _⟩ := hn1.pos
  obtain ⟨A2, m2, c2, _, rfl, _⟩ := hd1.pos
  clear hn1 hd1 hu0 hs1
  obtain ⟨h1, h2, KA⟩ := two_newQ w (.cells #[.bool s1, .slice A1 m1 c1, .slice A2 m2 c2] 76) (.cells #[.bool s1, .slice A1 m1 c1, .slice A2 m2 c2] 76)
  replace h1 := Lib.hid h1
  replace h2 := Lib.hid h2
  replace KA := Lib.hid KA
  generalize x1 / y1 = Q at *
  generalize x1 % y1 = R at *
  replace hfl := Lib.hid hfl
  go_enter Tryz.func92, Tryz.ntmps92
  go_wp2_with fail
  refine (BQ.out _ _ KA.out h2.out).mono ?_
  rintro _ wb ⟨rfl, kb⟩
  have KB := Lib.hid (KA.out.tr kb)
  have HB1 := kb.heap h1.out id
  obtain ⟨a0, a1, a2, _⟩ := three_cells HB1
  clear h1 h2 KA kb BQ
  replace HB1 := Lib.hid HB1
  go_wp2_with fail
  refine (DI.out _ KB.out).mono ?_
  rintro _ wc ⟨q, r, rfl, hq, hr, kc⟩
  have KC := Lib.hid (KB.out.tr kc)
  obtain ⟨b0, b1, b2, _⟩ := three_cells (kc.heap HB1.out id)
  have HQ := Lib.hid hq.1
  obtain ⟨B, m3, c3, _, rfl, _, _, _, g3⟩ := hr.pos
  clear hr hq kc a0 a1 a2 KB
  cases s1
  · have hf := hfl.out
    simp only [Bool.false_eq_true, if_false, Nat.add_zero] at hf
    subst hf
    go_wp2_with fail
    refine bodyPost_ret (v := .tuple #[.bool false, q, .int .i64 0]) (by simp [results, Tryz.results92, go_sem]) rfl ⟨q, rfl, HQ.out.le (by omega), KC.out⟩
  · by_cases hp : 0 < R
    · have hm3 : (0 : Int) < (m3 : Int) := by have := g3.2 hp; omega
      have hf := hfl.out
      rw [if_pos rfl, if_pos hp] at hf
      subst hf
      clear g3 hp hfl
      have K9 := Lib.hid (show k + 2 + 1 ≤ k + 3 ∧ k ≤ 1000 by omega)
      go_wp2_with fail
      refine (ofone_any _).mono ?_
      rintro _ wd ⟨v, rfl, hv, kd⟩
      have PL := Lib.hid (plus_new q v Q 1 k 2 (k + 3) wd (HQ.out.no kd) hv.1 K9.out.2 (by omega) K9.out.1)
      have KD := Lib.hid (KC.out.tr kd)
      have d0 := kd.cell b0 id
      clear b0 b1 b2 kd hv
      go_wp2_with fail
      refine PL.out.mono ?_
      rintro _ we ⟨z, rfl, hz, ke⟩
      have HZ := Lib.hid hz.1
      have KE := Lib.hid (KD.out.tr ke)
      have e0 := ke.cell d0 id
      clear d0 ke hz
      go_wp2_with fail
      refine bodyPost_ret (v := .tuple #[.bool true, z, .int .i64 0]) (by simp [results, Tryz.results92, go_sem]) rfl ⟨z, rfl, HZ.out, KE.out⟩
    · obtain rfl : m3 = 0 := by
        rcases Nat.eq_zero_or_pos m3 with h | h
        · exact h
        · exact absurd (g3.1 h) hp
      have hf := hfl.out
      rw [if_pos rfl, if_neg hp, Nat.add_zero] at hf
      subst hf
      clear g3 hp hfl
      go_wp2_with fail
      refine bodyPost_ret (v := .tuple #[.bool true, q, .int .i64 0]) (by simp [results, Tryz.results92, go_sem]) rfl ⟨q, rfl, HQ.out.le (by omega), KC.out⟩
/-- Whether a whole number is from -2^62 to 2^62. -/
def in62 (z : Int) : Bool := decide (-4611686018427387904 ≤ z ∧ z ≤ 4611686018427387904)
def flV (z : Int) : Value := if in62 z then .tuple #[.int .i64 z, .bool true] else .tuple #[.int .i64 0, .bool false]
set_option maxHeartbeats 1000000 in
set_option maxRecDepth 100000 in
theorem floor_is (u : Value) (a : Rat) (k : Nat) (w : World) (hu : IsQuo w u a k) (hk : k ≤ 200) :
    Calls Tryz.prog 70 #[u] w fun e w' => e = .returned (flV a.floor) ∧ Kp No w w' := by
  have FL := Lib.hid (fun (w0 : World) (hk0 : Kp No w w0) => qfloor_is u a k w0 (hu.no hk0) hk)
  have hfl := floor_fl a
  obtain ⟨n1, d1, rfl, hn1, hd1⟩ := hu
  obtain ⟨A1, m1, c1, _, rfl, _⟩ := hn1.pos
  obtain ⟨A2, m2, c2, _, rfl, _⟩ := hd1.pos
  clear hn1 hd1
  rw [hfl]
  generalize flN a = x at *
  generalize negQ a = s at *
  have SM := Lib.hid (fun (w0 : World) (z : Value) (hz : IsNat w0 z x (k + 3)) => small_is z x (k + 3) w0 hz (by omega))
  obtain ⟨fv, hfv⟩ : ∃ v, flV (sgn s x) = v := ⟨_, rfl⟩
  rw [hfv]
  unfold flV in62 sgn at hfv
  clear hfl
  replace hfv := Lib.hid hfv
  have KA := Lib.hid (Kp.alloc No w (.cells #[.bool s, .slice A1 m1 c1, .slice A2 m2 c2] 76))
  go_enter Tryz.func70, Tryz.ntmps70
  go_wp2_with fail
  refine (FL.out _ KA.out).mono ?_
  rintro _ wb ⟨z, rfl, hz, kb⟩
  have S2 := SM.out wb z hz
  have KB := Lib.hid (KA.out.tr kb)
  clear hz kb KA FL SM
  unfold smallV at S2
  by_cases hx : x < 18446744073709551616
  · rw [if_pos hx] at S2
    by_cases hx2 : x ≤ 4611686018427387904
    · have w1 : IntKind.i64.wrap (x : Int) = (x : Int) := by rw [IntKind.wrap_i64]; omega
      have w2 : IntKind.i64.wrap (-(x : Int)) = -(x : Int) := by rw [IntKind.wrap_i64]; omega
      have hx3 : ¬ (4611686018427387904 : Int) < (x : Int) := by omega
      have hf := hfv.out
      rw [if_pos (by rw [decide_eq_true_eq]; split <;> omega)] at hf
      subst hf
      obtain ⟨X, hX⟩ : ∃ X : Int, (x : Int) = X := ⟨_, rfl⟩
      rw [hX] at S2 w1 w2 hx3
      replace S2 := Lib.hid S2
      have HX := Lib.hid hX
      clear hX hx hx2 hfv
      go_wp2_with fail
      refine S2.out.mono ?_
      rintro _ wc ⟨rfl, kc⟩
      have KC := Lib.hid (KB.out.tr kc)
      clear kc
      cases s
      · go_wp2_with fail
        refine bodyPost_ret (v := .tuple #[.int .i64 X, .bool true]) (by simp [results, Tryz.results70, go_sem]) rfl ⟨by simp [HX.out], KC.out⟩
      · go_wp2_with fail
        refine bodyPost_ret (v := .tuple #[.int .i64 (-X), .bool true]) (by simp [results, Tryz.results70, go_sem]) rfl ⟨by simp [HX.out], KC.out⟩
    · have hx3 : (4611686018427387904 : Int) < (x : Int) := by omega
      have hf := hfv.out
      rw [if_neg (by rw [decide_eq_true_eq]; split <;> omega)] at hf
      subst hf
      obtain ⟨X, hX⟩ : ∃ X : Int, (x : Int) = X := ⟨_, rfl⟩
      rw [hX] at S2 hx3
      replace S2 := Lib.hid S2
      clear hX hx hx2 hfv
      go_wp2_with fail
      refine S2.out.mono ?_
      rintro _ wc ⟨rfl, kc⟩
      have KC := Lib.hid (KB.out.tr kc)
      clear kc
      go_wp2_with fail
      refine bodyPost_ret (v := .tuple #[.int .i64 0, .bool false]) (by simp [results, Tryz.results70, go_sem]) rfl ⟨rfl, KC.out⟩
  · rw [if_neg hx] at S2
    have hf := hfv.out
    rw [if_neg (by rw [decide_eq_true_eq]; split <;> omega)] at hf
    subst hf
    replace S2 := Lib.hid S2
    clear hx hfv
    go_wp2_with fail
    refine S2.out.mono ?_
    rintro _ wc ⟨rfl, kc⟩
    have KC := Lib.hid (KB.out.tr kc)
    clear kc
    go_wp2_with fail
    refine bodyPost_ret (v := .tuple #[.int .i64 0, .bool false]) (by simp [results, Tryz.results70, go_sem]) rfl ⟨rfl, KC.out⟩
set_option maxHeartbeats 1000000 in
set_option maxRecDepth 100000 in
theorem ceil_is (u : Value) (a : Rat) (k : Nat) (w : World) (hu : IsQuo w u a k) (hk : k ≤ 200) :
    Calls Tryz.prog 71 #[u] w fun e w' => e = .returned (flV a.ceil) ∧ Kp No w w' := by
  have hc := Rat.ceil_eq_neg_floor_neg a
  obtain ⟨t1, t2, t3⟩ := neg_low a
  obtain ⟨n1, d1, rfl, hn1, hd1⟩ := hu
  obtain ⟨A1, m1, c1, _, rfl, _, _, _, g⟩ := hn1.pos
  obtain ⟨A2, m2, c2, _, rfl, _⟩ := hd1.pos
  have FL := Lib.hid (fun (w0 : World) (b : Bool) (hb : b = (!negQ a && decide (0 < m1))) (hk0 : Kp No w w0) => floor_is (.agg #[.bool b, .slice A1 m1 c1, .slice A2 m2 c2]) (-a) k w0 ⟨.slice A1 m1 c1, .slice A2 m2 c2, by rw [t1, hb, decide_eq_decide.2 g], by rw [t2]; exact hn1.no hk0, by rw [t3]; exact hd1.no hk0⟩ hk)
  rw [hc]
  generalize (-a).floor = z at *
  generalize negQ a = s at *
  have hv : flV (-z) = if in62 z then .tuple #[.int .i64 (-z), .bool true] else .tuple #[.int .i64 0, .bool false] := by
    unfold flV
    have : in62 (-z) = in62 z := by
      unfold in62
      rw [decide_eq_decide]
      omega
    rw [this]
  rw [hv]
  unfold flV at FL
  have hw1 : in62 z = true → IntKind.i64.wrap (-z) = -z := fun h => by unfold in62 at h; simp at h; rw [IntKind.wrap_i64]; omega
  clear hn1 hd1 t1 t2 t3 hc hv g
  have KA := Lib.hid (Kp.alloc No w (.cells #[.bool s, .slice A1 m1 c1, .slice A2 m2 c2] 76))
  cases hz : in62 z
  · rw [hz] at FL
    simp only [Bool.false_eq_true, if_false] at FL ⊢
    cases s
    all_goals
      go_enter Tryz.func71, Tryz.ntmps71
      go_wp2_with fail
      refine (FL.out _ _ (by simp) KA.out).mono ?_
      rintro _ wb ⟨rfl, kb⟩
      have KB := Lib.hid (KA.out.tr kb)
      clear kb
      go_wp2_with fail
      refine bodyPost_ret (v := .tuple #[.int .i64 0, .bool false]) (by simp [results, Tryz.results71, go_sem]) rfl ⟨rfl, KB.out⟩
  · rw [hz] at FL
    have hw2 := hw1 hz
    simp only [if_true] at FL ⊢
    cases s
    all_goals
      go_enter Tryz.func71, Tryz.ntmps71
      go_wp2_with fail
      refine (FL.out _ _ (by simp) KA.out).mono ?_
      rintro _ wb ⟨rfl, kb⟩
      have KB := Lib.hid (KA.out.tr kb)
      clear kb
      go_wp2_with fail
      refine bodyPost_ret (v := .tuple #[.int .i64 (-z), .bool true]) (by simp [results, Tryz.results71, go_sem]) rfl ⟨rfl, KB.out⟩
end Go.Proofs.YtamjhpdgclbfgaaGreat

namespace Go.Proofs.YtamjhpdgclbfgaaGreat
open Go.RowKit Go.Kq

set_option maxHeartbeats 1000000 in
theorem turned_is (s s3 : Bool) (A B : Option Addr) (m c m2 c2 : Nat) (w : World) (h : s3 = (!s && decide (0 < m))) :
    Calls Tryz.prog 116 #[.agg #[.bool s, .slice A m c, .slice B m2 c2]] w fun e w' => e = .returned (.agg #[.bool s3, .slice A m c, .slice B m2 c2]) ∧ Kp No w w' := by
  have HS := Lib.hid h
  clear h
  cases s
  all_goals
    go_enter Tryz.func116, Tryz.ntmps116
    go_wp2_with fail
  · exact bodyPost_ret (v := .agg #[.bool (decide (0 < m)), .slice A m c, .slice B m2 c2]) (by simp [results, Tryz.results116, go_sem]) rfl ⟨by rw [HS.out]; rfl, (Kp.alloc _ _ _).tr (Kp.alloc _ _ _)⟩
  · exact bodyPost_ret (v := .agg #[.bool false, .slice A m c, .slice B m2 c2]) (by simp [results, Tryz.results116, go_sem]) rfl ⟨by rw [HS.out]; rfl, (Kp.alloc _ _ _).tr (Kp.alloc _ _ _)⟩
set_option maxHeartbeats 2000000 in
set_option maxRecDepth 100000 in
theorem qsub_is (u v : Value) (a b : Rat) (k m : Nat) (w : World) (hu : IsQuo w u a k) (hv : IsQuo w v b m) (hkm : k + m + 1 ≤ 140) :
    Calls Tryz.prog 100 #[u, v] w fun e w' => ∃ z, e = .returned (.tuple #[z, .int .i64 0]) ∧ QuoNew w.heap.size w' z (a - b) (2 * (k + m) + 3) ∧ Kp No w w' := by
  have hu0 := hu
  have hv0 := hv
  obtain ⟨n1, d1, rfl, hn1, hd1⟩ := hu
  obtain ⟨n2, d2, rfl, hn2, hd2⟩ := hv
  obtain ⟨s1, hs1⟩ : ∃ s, negQ a = s := ⟨_, rfl⟩
  obtain ⟨s2, hs2⟩ : ∃ s, negQ b = s := ⟨_, rfl⟩
  rw [hs1] at hu0 ⊢
  rw [hs2] at hv0 ⊢
  have BQ := Lib.hid (fun (g : Nat) (w0 : World) (hk0 : Kp No w w0) hh => badq_two n1 d1 n2 d2 a b s1 s2 g k m 76 w0 (by omega) (by omega) hs1 hs2 (hu0.no hk0) (hv0.no hk0) hh)
  obtain ⟨t1, t2, t3⟩ := neg_low b
  obtain ⟨s3, hs3⟩ : ∃ s, negQ (-b) = s := ⟨_, rfl⟩
  have hv3 : IsQuo w (.agg #[.bool s3, n2, d2]) (-b) m := ⟨n2, d2, by rw [hs3], by rw [t2]; exact hn2, by rw [t3]; exact hd2⟩
  have QA := Lib.hid (fun (w0 : World) (hk0 : Kp No w w0) => qadd_is _ _ a (-b) k m w0 (hu0.no hk0) (hv3.no hk0) hkm)
  obtain ⟨qq, hqq⟩ : ∃ q, q = a - b := ⟨_, rfl⟩
  rw [← Rat.sub_eq_add_neg, ← hqq] at QA
  rw [← hqq]
  obtain ⟨KK, hKK⟩ : ∃ K, K = 2 * (k + m) + 3 := ⟨_, rfl⟩
  rw [hs3, hs2] at t1
  have TU := Lib.hid (fun (w0 : World) (B : Option Addr) (mm cc : Nat) (B2 : Option Addr) (m2 c2 : Nat) (hnn : n2 = .slice B mm cc) (_hdd : d2 = .slice B2 m2 c2) => turned_is s2 s3 B B2 mm cc m2 c2 w0 (by
    rw [t1]
    obtain ⟨_, _, _, _, e, _, _, _, g⟩ := hn2.pos
    rw [hnn] at e
    injection e with e1 e2 e3
    subst e2
    rw [decide_eq_decide.2 g]))
  clear hs1 hs2 hs3 t1 t2 t3 hqq hv3
  obtain ⟨A1, m1, c1, _, rfl, _⟩ := hn1.pos
  obtain ⟨A2, m2, c2, _, rfl, _⟩ := hd1.pos
  obtain ⟨A3, m3, c3, _, rfl, _⟩ := hn2.pos
  obtain ⟨A4, m4, c4, _, rfl, _⟩ := hd2.pos
  clear hn1 hn2 hd1 hd2 hu0 hv0
  replace TU := Lib.hid (fun w0 => TU.out w0 _ _ _ _ _ _ rfl rfl)
  obtain ⟨h1, h2, h3, h4, KA⟩ := four_new w (.cells #[.bool s1, .slice A1 m1 c1, .slice A2 m2 c2] 76) (.cells #[.bool s2, .slice A3 m3 c3, .slice A4 m4 c4] 76) (.cells #[.bool false, .slice none 0 0, .slice none 0 0] 76) (.cells #[.bool s1, .slice A1 m1 c1, .slice A2 m2 c2, .bool s2, .slice A3 m3 c3, .slice A4 m4 c4] 76)
  replace h1 := Lib.hid h1
  replace h2 := Lib.hid h2
  replace h3 := Lib.hid h3
  replace h4 := Lib.hid h4
  replace KA := Lib.hid KA
  rw [← hKK] at QA ⊢
  clear hKK
  go_enter Tryz.func100, Tryz.ntmps100
  go_wp2_with fail
  refine (BQ.out _ _ KA.out h4.out).mono ?_
  rintro _ wb ⟨rfl, kb⟩
  have KB := KA.out.tr kb
  have HB1 := kb.heap h1.out id
  have HB2 := kb.heap h2.out id
  have HB3 := Lib.hid (kb.heap h3.out id)
  have SB := Lib.hid (show w.heap.size + 1 + 1 + 1 ≤ wb.heap.size from (Array.getElem?_eq_some_iff.1 HB3.out).1)
  have KW := Lib.hid (fun (w0 : World) (h : Kp (Kq.One (w.heap.size + 1 + 1)) wb w0) => KB.trans h (T := Kq.One (w.heap.size + 1 + 1)) (S := No) (fun k hk e => by unfold Kq.One at e; omega))
  obtain ⟨a0, a1, a2, _⟩ := three_cells HB1
  obtain ⟨b0, b1, b2, _⟩ := three_cells HB2
  have nA := Lib.hid (show ¬ Kq.One (w.heap.size + 1 + 1) w.heap.size from fun e => by unfold Kq.One at e; omega)
  have nB := Lib.hid (show ¬ Kq.One (w.heap.size + 1 + 1) (w.heap.size + 1) from fun e => by unfold Kq.One at e; omega)
  clear h1 h2 h3 h4 KA kb KB HB1 HB2 BQ
  go_wp2_with fail
  have FS : Stab (fun i wz u => (i = 3 → TupQ (w.heap.size + 1 + 1 + 1) wz u qq KK) ∧ (i = 4 → QuoNew (w.heap.size + 1 + 1 + 1) wz u qq KK) ∧ True) := fun i u wz wz' k h => ⟨fun e => TupQ.no (h.1 e) k, fun e => QuoNew.no (h.2.1 e) k, trivial⟩
  have FB : ∀ (i : Nat) (u : Value) (wz wz' : World), Kp (Kq.One (w.heap.size + 1 + 1)) wz wz' → ((fun i wz u => (i = 3 → TupQ (w.heap.size + 1 + 1 + 1) wz u qq KK) ∧ (i = 4 → QuoNew (w.heap.size + 1 + 1 + 1) wz u qq KK) ∧ True : Nat → World → Value → Prop) i wz u) → ((fun i wz u => (i = 3 → TupQ (w.heap.size + 1 + 1 + 1) wz u qq KK) ∧ (i = 4 → QuoNew (w.heap.size + 1 + 1 + 1) wz u qq KK) ∧ True : Nat → World → Value → Prop) i wz' u) := fun i u wz wz' k h => ⟨fun e => TupQ.kpS (h.1 e) k, fun e => QuoNew.kpS (h.2.1 e) k, trivial⟩
  have FS := Lib.hid FS
  have FB := Lib.hid FB
  refine wp_region_each (fun i u => match i with | 0 => u = .agg #[.bool s1, .slice A1 m1 c1, .slice A2 m2 c2] | 1 => u = .agg #[.bool s2, .slice A3 m3 c3, .slice A4 m4 c4] | 2 => u = .agg #[.bool s3, .slice A3 m3 c3, .slice A4 m4 c4] | 5 => u = .int .i64 0 | 7 => u = .int .i64 0 | _ => True) (HvS wb (w.heap.size + 1 + 1) 76 #[.bool false, .slice none 0 0, .slice none 0 0] 6 4 (fun i wz u => (i = 3 → TupQ (w.heap.size + 1 + 1 + 1) wz u qq KK) ∧ (i = 4 → QuoNew (w.heap.size + 1 + 1 + 1) wz u qq KK) ∧ True)) (by kernel_rfl) (by kernel_rfl) (by kernel_rfl) ?_ ?_ ?_
  · exact HvS.start HB3.out
  · refine ⟨?_, ?_, ?_, ?_, ?_, ?_, ?_, ?_, trivial⟩
    · intro r a w' hf hg hW hr hd K hK
      refine wpOp_of rfl rfl ?_
      have e0 : a.tmps.getD 2 undef = .pointer (some ⟨w.heap.size, 0, none⟩) := hf.evalFree (by kernel_rfl)
      have z0 := hW.kp.cell a0 nA.out
      have z1 := hW.kp.cell a1 nA.out
      have z2 := hW.kp.cell a2 nA.out
      go_simp
      exact hK _ _ rfl (hW.upd 0 _ hr (by decide) ⟨fun e => absurd e (by decide), fun e => absurd e (by decide), trivial⟩)
    · intro r a w' hf hg hW hr hd K hK
      refine wpOp_of rfl rfl ?_
      have e0 : a.tmps.getD 3 undef = .pointer (some ⟨w.heap.size + 1, 0, none⟩) := hf.evalFree (by kernel_rfl)
      have z0 := hW.kp.cell b0 nB.out
      have z1 := hW.kp.cell b1 nB.out
      have z2 := hW.kp.cell b2 nB.out
      go_simp
      exact hK _ _ rfl (hW.upd 1 _ hr (by decide) ⟨fun e => absurd e (by decide), fun e => absurd e (by decide), trivial⟩)
    · intro r a w' hf hg hW hr hd K hK
      refine wpOp_of rfl rfl ?_
      refine hf.depE hg hd 1 16 (by kernel_rfl) fun u0 e0 g0 h0 => ?_
      replace g0 : u0 = .agg #[.bool s2, .slice A3 m3 c3, .slice A4 m4 c4] := g0
      subst g0
      go_simp
      with_reducible refine (TU.out _).mono ?_
      rintro e w'' ⟨rfl, k⟩
      exact hK _ _ rfl ((hW.call FS.out k).upd 2 _ hr (by decide) ⟨fun e => absurd e (by decide), fun e => absurd e (by decide), trivial⟩)
    · intro r a w' hf hg hW hr hd K hK
      refine wpOp_of rfl rfl ?_
      refine hf.depE hg hd 0 15 (by kernel_rfl) fun u0 e0 g0 h0 => ?_
      replace g0 : u0 = .agg #[.bool s1, .slice A1 m1 c1, .slice A2 m2 c2] := g0
      subst g0
      refine hf.depE hg hd 2 17 (by kernel_rfl) fun u1 e1 g1 h1 => ?_
      replace g1 : u1 = .agg #[.bool s3, .slice A3 m3 c3, .slice A4 m4 c4] := g1
      subst g1
      go_simp
      with_reducible refine (QA.out _ (KW.out _ hW.kp)).mono ?_
      rintro e w'' ⟨z, rfl, hz, k⟩
      exact hK _ _ trivial ((hW.call FS.out k).upd 3 _ hr (by decide) ⟨fun _ => ⟨z, rfl, hz.mono (Nat.le_trans SB.out hW.kp.size)⟩, fun e => absurd e (by decide), trivial⟩)
    · intro r a w' hf hg hW hr hd K hK
      refine wpOp_of rfl rfl ?_
      refine hf.depE hg hd 3 18 (by kernel_rfl) fun u0 e0 g0 h0 => ?_
      have f0 := (hW.hv 3 u0 h0).1 rfl
      obtain ⟨z, rfl, hz⟩ := f0
      go_simp
      exact hK _ _ trivial (hW.upd 4 _ hr (by decide) ⟨fun e => absurd e (by decide), fun _ => hz, trivial⟩)
    · intro r a w' hf hg hW hr hd K hK
      refine wpOp_of rfl rfl ?_
      refine hf.depE hg hd 3 18 (by kernel_rfl) fun u0 e0 g0 h0 => ?_
      have f0 := (hW.hv 3 u0 h0).1 rfl
      obtain ⟨z, rfl, hz⟩ := f0
      go_simp
      exact hK _ _ rfl (hW.upd 5 _ hr (by decide) ⟨fun e => absurd e (by decide), fun e => absurd e (by decide), trivial⟩)
    · intro r a w' hf hg hW hr hd K hK
      refine wpOp_of rfl rfl ?_
      have e0 : a.tmps.getD 4 undef = .pointer (some ⟨w.heap.size + 1 + 1, 0, none⟩) := hf.evalFree (by kernel_rfl)
      refine hf.depE hg hd 4 19 (by kernel_rfl) fun u1 e1 g1 h1 => ?_
      have f1 := (hW.hv 4 u1 h1).2.1 rfl
      obtain ⟨n, d, rfl, hn, hd⟩ := f1
      obtain ⟨An, mn, cn, _, rfl, _⟩ := hn.1.pos
      obtain ⟨Ad, md, cd, _, rfl, _⟩ := hd.1.pos
      obtain ⟨x0, x1, x2, y0, y1, y2⟩ := three_cells (hW.b0 hr)
      go_simp
      exact hK undef _ trivial (hW.store FB.out (by decide) h1 (kp_setQ _ _ _ _ _) (setQ_at (hW.b0 hr) _ _ _) _ ⟨fun e => absurd e (by decide), fun e => absurd e (by decide), trivial⟩)
    · intro r a w' hf hg hW hr hd K hK
      refine wpOp_of rfl rfl ?_
      refine hf.depE hg hd 5 20 (by kernel_rfl) fun u0 e0 g0 h0 => ?_
      replace g0 : u0 = .int .i64 0 := g0
      subst g0
      go_simp
      exact hK _ _ rfl (hW.upd 7 _ hr (by decide) ⟨fun e => absurd e (by decide), fun e => absurd e (by decide), trivial⟩)
  intro r' w3 hg hW hr'
  have hkN := hW.kp
  obtain ⟨q4, hq4⟩ : ∃ u, r' 4 = some u := Option.ne_none_iff_exists'.1 (hr' 4 (by decide))
  have hF4 := (hW.hv 4 q4 hq4).2.1 rfl
  obtain ⟨q7, hq7⟩ : ∃ u, r' 7 = some u := Option.ne_none_iff_exists'.1 (hr' 7 (by decide))
  have hk7 := hg 7 q7 hq7
  replace hk7 : q7 = .int .i64 0 := hk7
  subst hk7
  obtain ⟨cs, hcs, hB⟩ := hW.b1 (hr' 6 (by decide))
  simp only [List.length_cons, List.length_nil, Nat.reduceAdd, List.range_succ, List.range_zero, List.nil_append, List.cons_append, List.map_cons, List.map_nil, putAll, Act.put, List.setIfInBounds_toArray, List.set_cons_succ, List.set_cons_zero, hq4, hq7, Option.getD_some]
  clear hg hW hr' FS FB hq7
  rw [hq4] at hcs
  injection hcs with hcs
  subst hcs
  obtain ⟨n, d, e, hn, hd⟩ := hF4
  injection e with e
  subst e
  obtain ⟨z0, z1, z2, _⟩ := three_cells hB
  have F := Lib.hid (show QuoNew w.heap.size w3 (.agg #[.bool (negQ qq), n, d]) qq KK from ⟨n, d, rfl, hn.mono (by omega), hd.mono (by omega)⟩)
  have KE := Lib.hid (KW.out _ hkN)
  clear hn hd hkN hB
  go_wp2_with fail
  exact bodyPost_ret (v := .tuple #[.agg #[.bool (negQ qq), n, d], .int .i64 0]) (by simp [results, Tryz.results100, go_sem, z0, z1, z2]) rfl ⟨_, rfl, F.out, KE.out⟩
end Go.Proofs.YtamjhpdgclbfgaaGreat
