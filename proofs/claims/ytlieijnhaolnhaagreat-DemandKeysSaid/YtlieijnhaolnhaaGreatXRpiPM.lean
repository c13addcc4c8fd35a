/- Spans of fractions: Root with exponent 2: the walk. · Chapter 13: the reference's one, Toe, Pressure; Meet of ref03: walks. · Fractions and whole numbers: floor and ceil are the roundings. No program in sight. · Chapter 13: what the reference's spans give for a toe: plain. -/
import Derived.Test.YtlieijnhaolnhaaGreatXNueM
import Derived.Test.YtlieijnhaolnhaaGreatXChkM
import Derived.Test.YtlieijnhaolnhaaGreatXTkPM
import Derived.Test.YtlieijnhaolnhaaGreatXNtkM
namespace Go.Proofs.YtlieijnhaolnhaaGreat
open Go.RowKit Go.Kq

theorem small_u64 (v : Value) (x k : Nat) (w : World) (h : IsNat w v x k) (hk : k ≤ 300) (hx : x < 18446744073709551616) :
    Calls Tryz.prog 76 #[v] w fun e w' => e = .returned (.tuple #[.int .u64 (x : Nat), .int .i64 0]) ∧ Kp No w w' := by
  have := small_is v x k w h hk
  unfold smallV at this
  rwa [if_pos hx] at this
theorem of_int (N : Nat) (w : World) (hN : N < 18446744073709551616) : Calls Tryz.prog 74 #[.int .u64 (N : Int)] w fun e w' => ∃ v, e = .returned v ∧ IsNew w.heap.size w' v N 2 ∧ Kp No w w' := of_any N w hN
set_option maxHeartbeats 2000000 in
set_option maxRecDepth 100000 in
theorem root03_is (a : Int × Int) (w : World) (hc : ckE [a] = 0) (h0 : 0 ≤ a.1) :
    Calls Tryz.prog 32 #[ivV a.1 a.2, .int .i64 2] w fun e w' => (∃ r s : Nat, r * r ≤ a.1.toNat ∧ a.1.toNat < (r + 1) * (r + 1) ∧ s * s ≤ a.2.toNat ∧ a.2.toNat < (s + 1) * (s + 1) ∧ e = .returned (ieV ((r : Int), ((if s * s < a.2.toNat then s + 1 else s : Nat) : Int), 0))) ∧ Kp No w w' := by
  have CK := Lib.hid (fun w0 => check03_is a w0)
  have hfa := ck_fits hc a (by simp)
  have hle := ck_le hc a (by simp)
  rw [hc] at CK
  simp only [fits_in62] at hfa
  unfold in62 at hfa
  obtain ⟨al, ah⟩ := a
  simp only [decide_eq_true_eq] at hfa hle h0
  obtain ⟨L, rfl⟩ : ∃ L : Nat, al = (L : Int) := ⟨al.toNat, by omega⟩
  obtain ⟨H, rfl⟩ : ∃ H : Nat, ah = (H : Int) := ⟨ah.toNat, by omega⟩
  have hL : L ≤ 4611686018427387904 := by omega
  have hH : H ≤ 4611686018427387904 := by omega
  simp only [Int.toNat_natCast]
  have g1 : IntKind.u64.wrap (L : Int) = (L : Int) := by rw [IntKind.wrap_u64]; omega
  have g2 : IntKind.u64.wrap (H : Int) = (H : Int) := by rw [IntKind.wrap_u64]; omega
  have OL := Lib.hid (fun w0 => of_int L w0 (by omega))
  have OH := Lib.hid (fun w0 => of_int H w0 (by omega))
  have RL := Lib.hid (fun (v : Value) w0 (hv : IsNat w0 v L 2) => root_two v L 2 w0 hv (by omega))
  have RH := Lib.hid (fun (v : Value) w0 (hv : IsNat w0 v H 2) => root_two v H 2 w0 hv (by omega))
  simp only [ieV, ivV] at *
  clear hc hle hfa h0
  obtain ⟨h1, h2, KA⟩ := two_newQ w (.cells #[.int .i64 L, .int .i64 H] 25) (.cells #[.int .i64 0, .int .i64 0] 25)
  replace h1 := Lib.hid h1
  replace h2 := Lib.hid h2
  replace KA := Lib.hid KA
  go_enter Tryz.func32, Tryz.ntmps32
  go_wp2_with fail
  refine (CK.out _).mono ?_
  rintro _ wb ⟨rfl, kb⟩
  have KB := Lib.hid (KA.out.tr kb)
  replace h1 := kb.heap h1.out id
  replace h2 := Lib.hid (kb.heap h2.out id)
  obtain ⟨c0, c1, _⟩ := two_cells h1
  clear kb CK KA
  replace h1 := Lib.hid h1
  have p0 : (0 : Int) ≤ (L : Int) := by omega
  go_wp2_with fail
  refine (OL.out _).mono ?_
  rintro _ wc ⟨u, rfl, hu, kc⟩
  have R1 := Lib.hid (RL.out u wc hu.1)
  have KC := Lib.hid (KB.out.tr kc)
  replace h1 := Lib.hid (kc.heap h1.out id)
  replace h2 := Lib.hid (kc.heap h2.out id)
  clear c0 c1 hu kc KB OL RL
  go_wp2_with fail
  refine R1.out.mono ?_
  rintro _ wd ⟨x, r, rfl, hx, hr1, hr2, kd⟩
  have HX := Lib.hid hx
  have HR := Lib.hid (And.intro hr1 hr2)
  have KD := Lib.hid (KC.out.tr kd)
  replace h1 := kd.heap h1.out id
  replace h2 := Lib.hid (kd.heap h2.out id)
  obtain ⟨c0, c1, _⟩ := two_cells h1
  clear hx kd KC R1 hr1 hr2
  replace h1 := Lib.hid h1
  go_wp2_with fail
  refine (OH.out _).mono ?_
  rintro _ we ⟨u, rfl, hu, ke⟩
  have R1 := Lib.hid (RH.out u we hu.1)
  have KE := Lib.hid (KD.out.tr ke)
  replace HX := Lib.hid (HX.out.no ke)
  replace h1 := Lib.hid (ke.heap h1.out id)
  replace h2 := Lib.hid (ke.heap h2.out id)
  clear c0 c1 hu ke KD RH
  go_wp2_with fail
  refine R1.out.mono ?_
  rintro _ wf ⟨y, s, rfl, hy, hs1, hs2, kf⟩
  have HY := Lib.hid hy
  have HS := Lib.hid (And.intro hs1 hs2)
  have KF := Lib.hid (KE.out.tr kf)
  replace HX := Lib.hid (HX.out.no kf)
  replace h1 := Lib.hid (kf.heap h1.out id)
  replace h2 := Lib.hid (kf.heap h2.out id)
  have PW := Lib.hid (pow_two y s 3 wf hy (by omega))
  clear hy kf KE R1 hs1 hs2
  go_wp2_with fail
  refine PW.out.mono ?_
  rintro _ wg ⟨p, rfl, hp, kg⟩
  have HP := Lib.hid hp
  have KG := Lib.hid (KF.out.tr kg)
  replace HY := Lib.hid (HY.out.no kg)
  replace h1 := Lib.hid (kg.heap h1.out id)
  replace h2 := Lib.hid (kg.heap h2.out id)
  have hr9 : r < 4294967296 := lt_of_sq HR.out.1 (by omega)
  have hs9 : s < 4294967296 := lt_of_sq HS.out.1 (by omega)
  have S1 := Lib.hid (small_u64 x r 3 wg (HX.out.no kg) (by omega) (by omega))
  clear hp kg KF PW HX
  go_wp2_with fail
  refine S1.out.mono ?_
  rintro _ wh ⟨rfl, kh⟩
  have KH := Lib.hid (KG.out.tr kh)
  replace HP := Lib.hid (HP.out.no kh)
  replace h1 := Lib.hid (kh.heap h1.out id)
  replace h2 := Lib.hid (kh.heap h2.out id)
  have S2 := Lib.hid (small_u64 y s 3 wh (HY.out.no kh) (by omega) (by omega))
  clear kh KG S1 HY
  go_wp2_with fail
  refine S2.out.mono ?_
  rintro _ wi ⟨rfl, ki⟩
  have KI := Lib.hid (KH.out.tr ki)
  replace HP := Lib.hid (HP.out.no ki)
  replace h1 := ki.heap h1.out id
  replace h2 := Lib.hid (ki.heap h2.out id)
  obtain ⟨c0, c1, _⟩ := two_cells h1
  clear ki KH S2
  replace h1 := Lib.hid h1
  go_wp2_with fail
  refine (OH.out _).mono ?_
  rintro _ wj ⟨u, rfl, hu, kj⟩
  have OR := Lib.hid (order_is p u (s * s) H 10 2 wj (HP.out.no kj) hu.1 (by omega) (by omega))
  have KJ := Lib.hid (KI.out.tr kj)
  have h2' := kj.heap h2.out id
  clear h2
  replace h2' := Lib.hid h2'
  clear hu kj KI OH c0 c1 h1 HP
  go_wp2_with fail
  refine OR.out.mono ?_
  rintro _ wk ⟨rfl, rfl⟩
  clear OR
  obtain ⟨d0, d1, z0, z1⟩ := two_cells h2'.out
  have f1 : IntKind.i64.wrap (r : Int) = (r : Int) := by rw [IntKind.wrap_i64]; omega
  have f2 : IntKind.i64.wrap (s : Int) = (s : Int) := by rw [IntKind.wrap_i64]; omega
  have f3 : IntKind.u64.wrap ((s : Int) + 1) = (s : Int) + 1 := by rw [IntKind.wrap_u64]; omega
  have f4 : IntKind.i64.wrap ((s : Int) + 1) = (s : Int) + 1 := by rw [IntKind.wrap_i64]; omega
  have hlw : w.heap.size ≤ w.heap.size + 1 := by omega
  by_cases hlt : s * s < H
  · have hz0 : cmpN (s * s) H = -1 := by unfold cmpN; rw [if_pos hlt]
    rw [hz0]
    have HLT := Lib.hid hlt
    clear hz0 hlt
    go_wp2_with fail
    have hs := setI_at h2'.out (.int .i64 (r : Int)) (.int .i64 ((s : Int) + 1))
    obtain ⟨v0, v1, _, _⟩ := two_cells hs
    exact bodyPost_ret (v := .tuple #[.agg #[.int .i64 (r : Int), .int .i64 ((s : Int) + 1)], .int .i64 0]) (by simp [results, Tryz.results32, go_sem, v0, v1]) rfl ⟨⟨r, s, HR.out.1, HR.out.2, HS.out.1, HS.out.2, by rw [if_pos HLT.out]; rfl⟩, kp_set2 KJ.out (by omega)⟩
  · have hz0 : 0 ≤ cmpN (s * s) H := cmpN_ge (by omega)
    generalize cmpN (s * s) H = cc at hz0 ⊢
    have HLT := Lib.hid hlt
    clear hlt
    go_wp2_with fail
    have hs := setI_at h2'.out (.int .i64 (r : Int)) (.int .i64 (s : Int))
    obtain ⟨v0, v1, _, _⟩ := two_cells hs
    exact bodyPost_ret (v := .tuple #[.agg #[.int .i64 (r : Int), .int .i64 (s : Int)], .int .i64 0]) (by simp [results, Tryz.results32, go_sem, v0, v1]) rfl ⟨⟨r, s, HR.out.1, HR.out.2, HS.out.1, HS.out.2, by rw [if_neg HLT.out]⟩, kp_set2 KJ.out (by omega)⟩
end Go.Proofs.YtlieijnhaolnhaaGreat

namespace Go.Proofs.YtlieijnhaolnhaaGreat
open Go.RowKit Go.Kq

theorem toe13_is (b f : Int) (w : World) : Calls Tryz.prog 28 #[toeV b f] w fun e w' => e = .returned (.bool (toeB b f)) ∧ Kp No w w' := by
  simp only [toeV]
  go_enter Tryz.func28, Tryz.ntmps28
  go_wp2
  all_goals
    go_ret
    refine ⟨ret_bool ?_, Kp.alloc _ _ _⟩
    unfold toeB
    simp [*] <;> (intros; omega)
theorem pressure13_is (p : Int) (w : World) : Calls Tryz.prog 29 #[.int .i64 p] w fun e w' => e = .returned (.bool (preB p)) ∧ w = w' := by
  go_enter Tryz.func29, Tryz.ntmps29
  go_wp2
  all_goals
    go_ret
    refine ⟨ret_bool ?_, rfl⟩
    unfold preB
    simp [*] <;> (intros; omega)
set_option maxHeartbeats 1000000 in
theorem one13_is (n : Int) (w : World) : Calls Tryz.prog 31 #[.int .i64 n] w fun e w' => e = .returned (.agg #[.int .i64 n, .int .i64 n]) ∧ Kp No w w' := by
  have KA := Lib.hid (Kp.alloc No w (.cells #[.int .i64 n, .int .i64 n] 25))
  obtain ⟨v0, v1, _, _⟩ := two_cells (heap_alloc_new w (.cells #[.int .i64 n, .int .i64 n] 25))
  go_enter Tryz.func31, Tryz.ntmps31
  go_wp2_with fail
  exact bodyPost_ret (v := .agg #[.int .i64 n, .int .i64 n]) (by simp [results, Tryz.results31, go_sem, v0, v1]) rfl ⟨rfl, KA.out⟩
set_option maxHeartbeats 1000000 in
set_option maxRecDepth 100000 in
theorem meet03_is (a b : Int × Int) (w : World) (hc : ckE [a, b] = 0) (hm : max a.1 b.1 ≤ min a.2 b.2) :
    Calls Tryz.prog 36 #[ivV a.1 a.2, ivV b.1 b.2] w fun e w' => e = .returned (ieV (max a.1 b.1, min a.2 b.2, 0)) ∧ Kp No w w' := by
  have BD := Lib.hid (fun (g : Nat) (w0 : World) hh => bad03_two a b g 25 w0 hh)
  rw [hc] at BD
  obtain ⟨al, ah⟩ := a
  obtain ⟨bl, bh⟩ := b
  simp only [ieV, ivV] at *
  obtain ⟨h1, h2, h3, h4, KA⟩ := four_new w (.cells #[.int .i64 al, .int .i64 ah] 25) (.cells #[.int .i64 bl, .int .i64 bh] 25) (.cells #[.int .i64 0, .int .i64 0] 25) (.cells #[.int .i64 al, .int .i64 ah, .int .i64 bl, .int .i64 bh] 25)
  replace h1 := Lib.hid h1
  replace h2 := Lib.hid h2
  replace h3 := Lib.hid h3
  replace h4 := Lib.hid h4
  replace KA := Lib.hid KA
  clear hc
  go_enter Tryz.func36, Tryz.ntmps36
  go_wp2_with fail
  refine (BD.out _ _ h4.out).mono ?_
  rintro _ wb ⟨rfl, kb⟩
  have KB := Lib.hid (KA.out.tr kb)
  obtain ⟨a0, a1, _, _⟩ := two_cells (kb.heap h1.out id)
  obtain ⟨b0, b1, _, _⟩ := two_cells (kb.heap h2.out id)
  have hr := kb.heap h3.out id
  obtain ⟨r0, r1, z0, z1⟩ := two_cells hr
  have hlt : w.heap.size + 1 + 1 < wb.heap.size := (Array.getElem?_eq_some_iff.1 hr).1
  replace hr := Lib.hid hr
  clear kb h1 h2 h3 h4 KA BD
  go_wp2_with fail
  have hs := setI_at hr.out (.int .i64 (max al bl)) (.int .i64 (min ah bh))
  have ks := kp_set2 (x := .int .i64 (max al bl)) (y := .int .i64 (min ah bh)) KB.out (show w.heap.size ≤ w.heap.size + 1 + 1 by omega)
  have ka := Kp.alloc No ((wb.setCell ⟨w.heap.size + 1 + 1, 0, none⟩ (.int .i64 (max al bl))).setCell ⟨w.heap.size + 1 + 1, 1, none⟩ (.int .i64 (min ah bh))) (.cells #[.int .i64 (max al bl), .int .i64 (min ah bh)] 25)
  obtain ⟨v0, v1, _, _⟩ := two_cells (ka.heap hs id)
  exact bodyPost_ret (v := .tuple #[.agg #[.int .i64 (max al bl), .int .i64 (min ah bh)], .int .i64 0]) (by simp [results, Tryz.results36, go_sem, v0, v1]) rfl ⟨rfl, ks.tr ka⟩
end Go.Proofs.YtlieijnhaolnhaaGreat

namespace Go.Kq

theorem floor_rnd {q : Rat} {V d : Int} (hd : 0 < d) (hq : q * (d : Rat) = (V : Rat)) : q.floor = rnd false V d := by
  obtain ⟨h1, h2⟩ := rnd_down V hd
  generalize rnd false V d = z at h1 h2 ⊢
  have hd' : (0 : Rat) < (d : Rat) := Rat.intCast_lt_intCast.2 hd
  have a : z ≤ q.floor := Rat.le_floor_iff.2 (Rat.le_of_mul_le_mul_right (by
    rw [hq, ← Rat.intCast_mul]
    exact Rat.intCast_le_intCast.2 h1) hd')
  have b : q.floor < z + 1 := Rat.floor_lt_iff.2 ((Rat.mul_lt_mul_right hd').1 (by
    rw [hq, ← Rat.intCast_mul]
    exact Rat.intCast_lt_intCast.2 (by rw [Int.add_mul]; omega)))
  omega
theorem ceil_rnd {q : Rat} {V d : Int} (hd : 0 < d) (hq : q * (d : Rat) = (V : Rat)) : q.ceil = rnd true V d := by
  rw [Rat.ceil_eq_neg_floor_neg, floor_rnd (V := -V) hd (by rw [Rat.neg_mul, hq, Rat.intCast_neg])]
  rfl
theorem scale_mul (x num den : Int) (hd : 0 < den) : (x : Rat) * ((num : Rat) / (den : Rat)) * (den : Rat) = ((x * num : Int) : Rat) := by
  have hne : (den : Rat) ≠ 0 := fun h => by
    have := (Rat.intCast_lt_intCast (a := 0) (b := den)).2 hd
    rw [h] at this
    exact absurd this (by decide)
  rw [Rat.mul_assoc, Rat.div_mul_cancel hne, Rat.intCast_mul]
theorem div_nn (num den : Int) (hn : 0 ≤ num) (hd : 0 < den) : (0 : Rat) ≤ (num : Rat) / (den : Rat) := by
  have hd' : (0 : Rat) < (den : Rat) := Rat.intCast_lt_intCast.2 hd
  refine Rat.le_of_mul_le_mul_right (c := (den : Rat)) ?_ hd'
  rw [Rat.div_mul_cancel (fun h => by rw [h] at hd'; exact absurd hd' (by decide)), Rat.zero_mul]
  exact Rat.intCast_le_intCast (a := 0).2 hn
theorem disc_mul (b k : Int) : ((b : Rat) * (b : Rat) * (((1 : Int) : Rat) / ((4 : Int) : Rat))) * ((k : Rat) / ((1000000000000000000 : Int) : Rat)) * ((4000000000000000000 : Int) : Rat) = ((b * b * k : Int) : Rat) := by
  have h4 : ((4 : Int) : Rat) ≠ 0 := by decide
  have h1 : ((1000000000000000000 : Int) : Rat) ≠ 0 := by decide
  have e : ((4000000000000000000 : Int) : Rat) = ((4 : Int) : Rat) * ((1000000000000000000 : Int) : Rat) := by rw [← Rat.intCast_mul]; rfl
  rw [e, Rat.intCast_mul, Rat.intCast_mul]
  generalize ((1000000000000000000 : Int) : Rat) = M at *
  have e1 : (k : Rat) / M * (((4 : Int) : Rat) * M) = ((4 : Int) : Rat) * (k : Rat) := by
    rw [Rat.mul_comm ((4 : Int) : Rat) M, ← Rat.mul_assoc, Rat.div_mul_cancel h1, Rat.mul_comm]
  rw [Rat.mul_assoc _ ((k : Rat) / M), e1, Rat.mul_assoc ((b : Rat) * (b : Rat)), ← Rat.mul_assoc (((1 : Int) : Rat) / ((4 : Int) : Rat)), Rat.div_mul_cancel h4, Rat.intCast_one, Rat.one_mul]
end Go.Kq

namespace Go.Proofs.YtlieijnhaolnhaaGreat
open Go.RowKit Go.Kq

theorem ck_one13 {x y : Int} (h1 : -4611686018427387904 ≤ x) (h2 : x ≤ y) (h3 : y ≤ 4611686018427387904) : ckE [(x, y)] = 0 := by
  unfold ckE
  rw [if_pos (fun z hz => by simp at hz; subst hz; exact ⟨fits_of h1 (by omega), fits_of (by omega) h3⟩), if_pos (fun z hz => by simp at hz; subst hz; exact h2)]
theorem ck_both {a b : Int × Int} (h1 : ckE [a] = 0) (h2 : ckE [b] = 0) : ckE [a, b] = 0 := by
  have f1 := ck_fits h1 a (by simp)
  have f2 := ck_fits h2 b (by simp)
  have l1 := ck_le h1 a (by simp)
  have l2 := ck_le h2 b (by simp)
  unfold ckE
  rw [if_pos (fun z hz => by simp at hz; rcases hz with rfl | rfl <;> assumption), if_pos (fun z hz => by simp at hz; rcases hz with rfl | rfl <;> assumption)]
theorem spanE_ok {lo hi : Int} (h1 : -4611686018427387904 ≤ lo) (h2 : lo ≤ hi) (h3 : hi ≤ 4611686018427387904) : spanE lo hi = (lo, hi, 0) := by
  unfold spanE
  rw [if_pos]
  unfold in62
  simp
  omega
theorem two_span {x y : Rat} (h : x ≤ y) : spanL [x, y] = spanE x.floor y.ceil :=
  spanL_of (by simp) (fun z hz => by
    rcases List.mem_cons.1 hz with rfl | hz
    · exact Rat.le_refl
    · rw [List.mem_singleton.1 hz]; exact h) (by simp) (fun z hz => by
    rcases List.mem_cons.1 hz with rfl | hz
    · exact h
    · rw [List.mem_singleton.1 hz]; exact Rat.le_refl)
theorem scale_span {a1 a2 num den : Int} (h12 : a1 ≤ a2) (hn : 0 ≤ num) (hd : 0 < den) :
    spanL [(a1 : Rat) * ((num : Rat) / (den : Rat)), (a2 : Rat) * ((num : Rat) / (den : Rat))] = spanE (rnd false (a1 * num) den) (rnd true (a2 * num) den) := by
  rw [two_span (Rat.mul_le_mul_of_nonneg_right (Rat.intCast_le_intCast.2 h12) (div_nn num den hn hd)), floor_rnd hd (scale_mul a1 num den hd), ceil_rnd hd (scale_mul a2 num den hd)]
theorem pi_le : piL ≤ piH := by
  unfold piL piH
  refine Rat.le_of_mul_le_mul_right (c := ((1000000000000000000 : Int) : Rat)) ?_ (Rat.intCast_lt_intCast (a := 0).2 (by omega))
  rw [Rat.div_mul_cancel (by decide), Rat.div_mul_cancel (by decide)]
  exact Rat.intCast_le_intCast.2 (by omega)
theorem sq_quart (b : Int) : (0 : Rat) ≤ (b : Rat) * (b : Rat) * quart := by
  have h1 : (0 : Rat) ≤ (b : Rat) * (b : Rat) := by
    rw [← Rat.intCast_mul]
    have : (0 : Int) ≤ b * b := by
      rcases Int.le_total 0 b with h | h
      · exact Int.mul_nonneg h h
      · exact Int.mul_nonneg_of_nonpos_of_nonpos h h
    exact Rat.intCast_le_intCast (a := 0).2 this
  exact Rat.mul_nonneg h1 (div_nn 1 4 (by omega) (by omega))
theorem four_span {x y : Rat} (h : x ≤ y) : spanL [x, y, x, y] = spanE x.floor y.ceil :=
  spanL_of (by simp) (fun z hz => by
    simp only [List.mem_cons, List.not_mem_nil, or_false] at hz
    rcases hz with rfl | rfl | rfl | rfl
    · exact Rat.le_refl
    · exact h
    · exact Rat.le_refl
    · exact h) (by simp) (fun z hz => by
    simp only [List.mem_cons, List.not_mem_nil, or_false] at hz
    rcases hz with rfl | rfl | rfl | rfl
    · exact h
    · exact Rat.le_refl
    · exact h
    · exact Rat.le_refl)
theorem disc_span (b : Int) : spanL (pisL [(b : Rat) * (b : Rat) * quart, (b : Rat) * (b : Rat) * quart]) = spanE (dlo b) (dhi b) := by
  have h := Rat.mul_le_mul_of_nonneg_left pi_le (sq_quart b)
  have e1 : ((b : Rat) * (b : Rat) * quart * piL).floor = dlo b := floor_rnd (by omega) (disc_mul b 3141592653589793238)
  have e2 : ((b : Rat) * (b : Rat) * quart * piH).ceil = dhi b := ceil_rnd (by omega) (disc_mul b 3141592653589793239)
  rw [← e1, ← e2]
  exact four_span h
theorem mul_span {a b : Int × Int} (ha : ckE [a] = 0) (hb : ckE [b] = 0) (h1 : 0 ≤ a.1) (h2 : 0 ≤ b.1) : twoE 2 a b = spanE (a.1 * b.1) (a.2 * b.2) := by
  unfold twoE
  rw [if_pos (ck_both ha hb)]
  have l1 := ck_le ha a (by simp)
  have l2 := ck_le hb b (by simp)
  have m1 := mul_mono (Int.le_refl a.1) l2 h1 h2
  have m2 := mul_mono l1 (Int.le_refl b.1) h1 h2
  have m3 := mul_mono l1 (Int.le_refl b.2) h1 (by omega)
  have m4 := mul_mono (Int.le_refl a.2) l2 (by omega) h2
  refine spanL_ints (by simp [cornI, opI]) (fun y hy => ?_) (by simp [cornI, opI]) (fun y hy => ?_)
  all_goals
    simp only [cornI, opI, List.mem_cons, List.not_mem_nil, or_false] at hy
    rcases hy with rfl | rfl | rfl | rfl <;> omega
theorem sub_span {a b : Int × Int} (ha : ckE [a] = 0) (hb : ckE [b] = 0) : twoE 1 a b = spanE (a.1 - b.2) (a.2 - b.1) := by
  unfold twoE
  rw [if_pos (ck_both ha hb)]
  have l1 := ck_le ha a (by simp)
  have l2 := ck_le hb b (by simp)
  refine spanL_ints (by simp [cornI, opI]) (fun y hy => ?_) (by simp [cornI, opI]) (fun y hy => ?_)
  all_goals
    simp only [cornI, opI, List.mem_cons, List.not_mem_nil, or_false] at hy
    rcases hy with rfl | rfl | rfl | rfl <;> omega
end Go.Proofs.YtlieijnhaolnhaaGreat
