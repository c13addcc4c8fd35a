/- Great numbers by limbs: Minus: the walk. · Great numbers by limbs: double: the walk. -/
import Derived.Test.YtakgcnjpmpcekaaGreatXNtd
import Derived.Test.YtakgcnjpmpcekaaGreatXLibBitM
namespace Go.Proofs.YtakgcnjpmpcekaaGreat
open Go.RowKit Go.Kq

theorem own_nilg {w : World} {base n cap : Nat} {e : TypeId} {size : Nat} {a : Option Addr} {xs : List Value} (h : w.ownsRow base e size (.slice a n cap) n xs) : a = none → n = 0 ∧ cap = 0 := fun ha => by
  rcases h.2 with ⟨h0, _⟩ | ⟨g, cp, cur, hv, _⟩
  · injection h0 with _ e2 e3
    exact ⟨e2, e3⟩
  · injection hv with e1 _ _
    rw [e1] at ha
    cases ha
theorem RowR.trim0 {w wr : World} {k : Nat} {out : List Nat} {v : Value} (h : RowR w k out v wr) (hk2 : k ≤ 1000000) :
    Calls Tryz.prog 84 #[v] wr fun e w' => ∃ z, e = .returned z ∧ IsNew w.heap.size w' z (valN BB out) k ∧ Kp No w w' := by
  obtain ⟨a, c, rfl, h1, h2, _⟩ := own_form h.own
  refine (trim_any a k c out wr (NatAt.of_own h.own h.small) hk2 (own_nilg h.own) h1 h2).mono ?_
  rintro _ w' ⟨z, rfl, h4, h5⟩
  exact ⟨z, rfl, ⟨h4.1, h4.2.mono h.kp.size⟩, h.kp.tr h5⟩
theorem minus_step {out : List Nat} {k V x y c P Q : Nat} (hl : out.length = k) (hI : valN BB out + Q = P + c * BB ^ k) (hx : x < BB) (hy : y < BB) (hc : c ≤ 1) (hV : V = BB + x - y - c) :
    valN BB (out ++ [V % BB]) + (Q + BB ^ k * y) = (P + BB ^ k * x) + (1 - V / BB) * BB ^ (k + 1) := by
  have hB : 0 < BB := by unfold BB; omega
  have hd := Nat.div_add_mod V BB
  have hq : V / BB ≤ 1 := by unfold BB at *; omega
  have hr : V % BB + y + c = x + BB * (1 - V / BB) := by
    rcases Nat.le_one_iff_eq_zero_or_eq_one.1 hq with h | h
    · rw [h] at hd ⊢
      unfold BB at *
      omega
    · rw [h] at hd ⊢
      unfold BB at *
      omega
  rw [valN_append, hl, Nat.pow_succ]
  have e1 : valN BB [V % BB] = V % BB := by simp [valN]
  have e2 : (1 - V / BB) * (BB ^ k * BB) = BB ^ k * (BB * (1 - V / BB)) := by rw [Nat.mul_comm (1 - V / BB), Nat.mul_assoc]
  have e3 : BB ^ k * (V % BB + y + c) = BB ^ k * (x + BB * (1 - V / BB)) := by rw [hr]
  rw [Nat.mul_add, Nat.mul_add, Nat.mul_add] at e3
  have e5 : c * BB ^ k = BB ^ k * c := Nat.mul_comm _ _
  rw [e1, e2]
  omega
theorem minus_top {a b : List Nat} {n : Nat} (ha : ∀ u ∈ a, u < BB) (hn : a.length = n) (h : valN BB b ≤ valN BB a) : valN BB (b.take n) = valN BB b := by
  have hBB : 0 < BB := by unfold BB; omega
  by_cases hl : b.length ≤ n
  · rw [List.take_of_length_le hl]
  · have g1 := valN_lt hBB a ha
    have g2 := valN_append BB (b.take n) (b.drop n)
    rw [List.take_append_drop, List.length_take, Nat.min_eq_left (by omega)] at g2
    rw [hn] at g1
    rcases Nat.eq_zero_or_pos (valN BB (b.drop n)) with h0 | h0
    · rw [h0] at g2
      omega
    · have := Nat.mul_le_mul_left (BB ^ n) h0
      omega
theorem minus_end {out a b : List Nat} {n c : Nat} (ho : ∀ u ∈ out, u < BB) (hl : out.length = n) (hI : valN BB out + valN BB b = valN BB a + c * BB ^ n) (h : valN BB b ≤ valN BB a) : valN BB out = valN BB a - valN BB b := by
  have hBB : 0 < BB := by unfold BB; omega
  have g1 := valN_lt hBB out ho
  rw [hl] at g1
  rcases Nat.eq_zero_or_pos c with h0 | h0
  · subst h0
    omega
  · have := Nat.mul_le_mul_right (BB ^ n) h0
    omega
theorem one_sub {q : Nat} {D : Int} (h : q ≤ 1) (hD : (q : Int) = D) : IntKind.u64.wrap (1 - D) = 1 - D ∧ ((1 - q : Nat) : Int) = 1 - D := by
  subst hD
  rw [IntKind.wrap_u64]
  omega
set_option maxHeartbeats 1000000 in
set_option maxRecDepth 100000 in
theorem minus_num (A B : Option Addr) (n m ca cb : Nat) (a b : List Nat) (w : World) (ha : NatAt w A n a) (hb : NatAt w B m b) (hn : n ≤ 10000) (hm : m ≤ 10000) (hle : valN BB b ≤ valN BB a) :
    Calls Tryz.prog 97 #[.slice A n ca, .slice B m cb] w fun e w' => ∃ v, e = .returned v ∧ IsNew w.heap.size w' v (valN BB a - valN BB b) n ∧ Kp No w w' := by
  have hBB : 0 < BB := by unfold BB; omega
  obtain ⟨i0, hi, hz0, hz1, hz2⟩ := info_parts infoU
  have hal := ha.len
  have hbl := hb.len
  have LA := Lib.hid (fun i w0 (h : Kp No w w0) => limb_any A n ca i a w0 (ha.no h) (by omega))
  have LB := Lib.hid (fun i w0 (h : Kp No w w0) => limb_any B m cb i b w0 (hb.no h) (by omega))
  have HA := Lib.hid ha
  have HB := Lib.hid hb
  have HLE := Lib.hid hle
  clear ha hb hle
  go_enter Tryz.func97, Tryz.ntmps97
  generalize hC : (4294967296 : Int) = CC at *
  have HC := Lib.hid hC
  clear hC
  have hC0 : (CC == 0) = false := by rw [← HC.out]; rfl
  have hC1 : ¬ CC = 0 := by rw [← HC.out]; decide
  go_wp2_with fail
  go_loopw [5, 6, 7] (fun v c i wr => ∃ (k cc : Nat) (out : List Nat), k ≤ n ∧ i = .int .i64 k ∧ c = .int .u64 (cc : Nat) ∧ cc ≤ 1 ∧ RowR w k out v wr ∧ valN BB out + valN BB (b.take k) = valN BB (a.take k) + cc * BB ^ k) (fun _ _ i _ => n - (intOf i).toNat)
  case atStart => exact ⟨0, 0, [], by omega, rfl, rfl, by omega, ⟨rfl, by simp, World.ownsRow_nil w _ _ _, Kp.refl _ _⟩, by simp [valN]⟩
  case round =>
    obtain ⟨k, cc, out, hk, rfl, rfl, hcc, hR, hV⟩ := hrel
    have HR := Lib.hid hR
    have HV := Lib.hid hV
    clear hR hV
    by_cases hlt : k < n
    · have hxs := limN_lt hBB HA.out.small k
      have hys := limN_lt hBB HB.out.small k
      have LX := LA.out k
      have LY := LB.out k
      have ta := valN_takeL BB a k
      have tb := valN_takeL BB b k
      obtain ⟨V, hVV⟩ : ∃ V, V = BB + limN a k - limN b k - cc := ⟨_, rfl⟩
      have ST := Lib.hid (minus_step HR.out.len HV.out hxs hys hcc hVV)
      have hSM : 1 - V / BB ≤ 1 := Nat.sub_le _ _
      have SM := Lib.hid hSM
      clear hSM
      have hRl : V % BB < BB := Nat.mod_lt _ hBB
      generalize limN a k = X at *
      generalize limN b k = Y at *
      have TA := Lib.hid ta
      have TB := Lib.hid tb
      have p0 : IntKind.u64.wrap (CC + (X : Int)) = CC + (X : Int) := by unfold BB at hxs hys; rw [← HC.out, IntKind.wrap_u64]; omega
      have p1 : IntKind.u64.wrap (CC + (X : Int) - (Y : Int)) = CC + (X : Int) - (Y : Int) := by unfold BB at hxs hys; rw [← HC.out, IntKind.wrap_u64]; omega
      have p2 : IntKind.u64.wrap (CC + (X : Int) - (Y : Int) - (cc : Int)) = (V : Int) := by unfold BB at hxs hys hVV; rw [← HC.out, IntKind.wrap_u64]; omega
      have hV64 : V < 18446744073709551616 := by unfold BB at hxs hys hVV; omega
      have hq1 : V / BB ≤ 1 := by unfold BB at hxs hys hVV ⊢; omega
      have r1 : (V : Int) % CC = ((V % BB : Nat) : Int) := by rw [← HC.out]; unfold BB; omega
      have r2 : (V : Int) / CC = ((V / BB : Nat) : Int) := by rw [← HC.out]; unfold BB; omega
      have r3 : (V : Int).tmod CC = ((V % BB : Nat) : Int) := by rw [Int.tmod_eq_emod_of_nonneg (by omega)]; exact r1
      have r4 : (V : Int).tdiv CC = ((V / BB : Nat) : Int) := by rw [Int.tdiv_eq_ediv_of_nonneg (by omega)]; exact r2
      have q1 : IntKind.u32.wrap ((V % BB : Nat) : Int) = ((V % BB : Nat) : Int) := by unfold BB at hRl ⊢; rw [IntKind.wrap_u32]; omega
      have q2 : IntKind.u64.wrap ((V / BB : Nat) : Int) = ((V / BB : Nat) : Int) := by
        have h1 : V / BB < 18446744073709551616 := Nat.lt_of_le_of_lt (Nat.div_le_self _ _) hV64
        generalize V / BB = d at h1 ⊢
        rw [IntKind.wrap_u64]
        omega
      have q3 : IntKind.u64.wrap ((V % BB : Nat) : Int) = ((V % BB : Nat) : Int) := by
        have h1 : V % BB < 18446744073709551616 := Nat.lt_of_le_of_lt (Nat.mod_le _ _) hV64
        generalize V % BB = d at h1 ⊢
        rw [IntKind.wrap_u64]
        omega
      have LX := Lib.hid LX
      have LY := Lib.hid LY
      have HRL := Lib.hid hRl
      clear hxs hys hV64 hRl hVV ta tb
      obtain ⟨R, hR⟩ : ∃ R : Int, ((V % BB : Nat) : Int) = R := ⟨_, rfl⟩
      rw [hR] at r1 r3 q1 q3
      have HRR := Lib.hid hR
      clear hR
      obtain ⟨D, hD⟩ : ∃ D : Int, ((V / BB : Nat) : Int) = D := ⟨_, rfl⟩
      rw [hD] at r2 r4 q2
      obtain ⟨d1, hDD⟩ := one_sub hq1 hD
      have HD := Lib.hid hDD
      clear hD hDD hq1
      generalize ((V : Nat) : Int) = VI at *
      generalize ((X : Nat) : Int) = XI at *
      generalize ((Y : Nat) : Int) = YI at *
      have HCC := Lib.hid hcc
      obtain ⟨CI, hCI⟩ : ∃ CI : Int, ((cc : Nat) : Int) = CI := ⟨_, rfl⟩
      rw [hCI] at p2 ⊢
      clear hCI hcc
      have hkx : (k : Int) < (n : Int) := by omega
      obtain ⟨av, cv, rfl, hle, hcm, _⟩ := own_form HR.out.own
      go_wp2_with fail
      refine (LX.out _ HR.out.kp).mono ?_
      rintro _ w2 ⟨rfl, rfl⟩
      go_wp2_with fail
      refine (LY.out _ HR.out.kp).mono ?_
      rintro _ w3 ⟨rfl, rfl⟩
      go_wp2_with (at_builtin; refine stop_in ?_)
      refine stop_out ?_
      refine wpL_append_any rfl _ _ 87 rfl w.heap.size 134 i0 (.int .u32 0) 1 4 Tryz.underlying87 hi hz0 hz1 hz2 rfl (by decide) (.slice av k cv) k (out.map u32V) rfl (HR.out.own.alloc _) (some ⟨w3.heap.size, 0, none⟩) 1 1 [.int .u32 R] rfl rfl (fun h => by cases h) (fun ad had j u hu => one_news ad (by cases had; rfl) j u hu) (fun u hu => by simp at hu; subst hu; rfl) (by unfold maxLen; omega) (by omega) (by have := HR.out.kp.size; simp; omega) ?_
      intro v' w5 hown hgrow _
      have R5 := Lib.hid (HR.out.snoc (x := V % BB) HRL.out (by unfold u32V; rw [HRR.out]; exact hown) hgrow)
      clear hown hgrow
      go_wp2_with fail
      go_round
      case rel =>
        refine ⟨k + 1, 1 - V / BB, out ++ [V % BB], by omega, by go_num, by rw [HD.out], SM.out, R5.out, ?_⟩
        have e1 := ST.out
        have e2 := TA.out
        have e3 := TB.out
        omega
      case measure => simp [intOf] <;> omega
    · obtain rfl : k = n := by omega
      have e1 := HV.out
      rw [List.take_of_length_le (show a.length ≤ k by omega), minus_top HA.out.small HA.out.len HLE.out] at e1
      have TR := HR.out.trim0 (by omega)
      rw [minus_end HR.out.small HR.out.len e1 HLE.out] at TR
      have TR := Lib.hid TR
      have hxx : ¬ ((k : Int) < (k : Int)) := by omega
      obtain ⟨av, cv, rfl, _, _, _⟩ := own_form HR.out.own
      clear e1
      go_wp2_with fail
      refine TR.out.mono ?_
      rintro _ w' ⟨z, rfl, hz, hkp⟩
      go_wp2_with fail
      go_ret
      exact ⟨z, rfl, hz, hkp⟩
end Go.Proofs.YtakgcnjpmpcekaaGreat

namespace Go.Proofs.YtakgcnjpmpcekaaGreat
open Go.RowKit Go.Kq

theorem or_u32 (p c : Nat) (hp : p < 4294967296) (hc : c < 4294967296) : bits .or .u32 (p : Int) (c : Int) = ((p ||| c : Nat) : Int) := by
  have hx : p ||| c < 2 ^ 32 := Nat.or_lt_two_pow (by omega) (by omega)
  have h1 : (BitVec.ofInt 32 (p : Int)).toNat = p := by
    rw [BitVec.ofInt_natCast, BitVec.toNat_ofNat]
    exact Nat.mod_eq_of_lt (by omega)
  have h2 : (BitVec.ofInt 32 (c : Int)).toNat = c := by
    rw [BitVec.ofInt_natCast, BitVec.toNat_ofNat]
    exact Nat.mod_eq_of_lt (by omega)
  show IntKind.u32.wrap ((BitVec.ofInt 32 (p : Int) ||| BitVec.ofInt 32 (c : Int)).toNat : Int) = _
  rw [BitVec.toNat_or, h1, h2, IntKind.wrap_u32]
  omega
theorem dbl_or {y c : Nat} (hc : c ≤ 1) : bits .or .u32 ((y : Int) * 2 % 4294967296) (c : Int) = (((0 + 2 * y + c) % BB : Nat) : Int) := by
  have e : (y : Int) * 2 % 4294967296 = ((y % 2147483648 * 2 ^ 1 : Nat) : Int) := by omega
  have e2 := or_sum (a := y % 2147483648) (b := c) (s := 1) (by omega)
  rw [e, or_u32 _ _ (by omega) (by omega), e2]
  unfold BB
  omega
theorem dbl_carry {y c : Nat} (hy : y < BB) (hc : c ≤ 1) : (y : Int) / 2147483648 = (((0 + 2 * y + c) / BB : Nat) : Int) ∧ (0 + 2 * y + c) / BB ≤ 1 := by
  unfold BB at *
  omega
set_option maxHeartbeats 1000000 in
set_option maxRecDepth 100000 in
theorem double_num (A : Option Addr) (n ca x0 : Nat) (a : List Nat) (w : World) (ha : NatAt w A n a) (hn : n ≤ 10000) (hx0 : x0 ≤ 1) :
    Calls Tryz.prog 95 #[.slice A n ca, .int .u32 (x0 : Nat)] w fun e w' => ∃ v, e = .returned v ∧ IsNew w.heap.size w' v (2 * valN BB a + x0) (n + 1) ∧ Kp No w w' := by
  have hBB : 0 < BB := by unfold BB; omega
  have hal := ha.len
  have HA := Lib.hid ha
  have hmk := make_us (n + 1) ((n : Int) + 1) (by omega) (by omega)
  obtain ⟨N, hN⟩ : ∃ N, N = n + 1 := ⟨_, rfl⟩
  rw [← hN] at hmk ⊢
  have HN := Lib.hid hN
  clear ha hN
  go_enter Tryz.func95, Tryz.ntmps95
  go_wp2_with fail
  clear hmk
  go_loopw [1, 6] (fun x i wr => ∃ (k cc : Nat) (out : List Nat), k ≤ n ∧ i = .int .i64 k ∧ x = .int .u32 (cc : Nat) ∧ cc ≤ 1 ∧ MulR w N out wr ∧ (∀ j, k ≤ j → j < N → out[j]? = some 0) ∧ valN BB out + cc * BB ^ k = 2 * valN BB (a.take k) + x0) (fun _ i _ => n - (intOf i).toNat)
  case atStart =>
    refine ⟨0, x0, List.replicate N 0, by omega, rfl, rfl, hx0, ⟨by simp, fun x hx => by rw [(List.mem_replicate.1 hx).2]; exact hBB, ?_, Kp.alloc _ _ _⟩, fun j _ hj => by simp [hj], by rw [valN_zeros]; simp [valN]⟩
    have h := own_made w (e := 134) (n := N) (s := 1) (base := w.heap.size) (xs := (List.replicate N 0).map u32V) (by simp) (by omega) (by have := HN.out; unfold maxLen; omega)
    simpa using h
  case round =>
    obtain ⟨k, cc, out, hk, rfl, rfl, hcc, hR, hz, hV⟩ := hrel
    have HR := Lib.hid hR
    have HV := Lib.hid hV
    have HZ := Lib.hid hz
    clear hR hV hz
    have hNk : k < N := by have := HN.out; omega
    have hNu : N ≤ n + 1 := by have := HN.out; omega
    have zc := own_cell HR.out.own (j := k) (u := u32V 0) (by rw [List.getElem?_map, HZ.out k (Nat.le_refl _) hNk]; rfl)
    have zf := own_free HR.out.own k
    unfold u32V at zc
    by_cases hlt : k < n
    · obtain ⟨y, hy⟩ : ∃ y, a[k]? = some y := ⟨_, List.getElem?_eq_getElem (by omega)⟩
      have hys := HA.out.small y (List.mem_of_getElem? hy)
      obtain ⟨b, o, rfl, hb, c00⟩ := HA.out.at_ k y hy
      have c0 := HR.out.kp.cell c00 id
      have hnb : b ≠ w.heap.size := by omega
      clear c00
      obtain ⟨V, hVV⟩ : ∃ V, V = 0 + 2 * y + cc := ⟨_, rfl⟩
      have MS := Lib.hid (mul_step (B := BB) (i := k) (k := 0) (x := 2) (y := y) (HZ.out k (Nat.le_refl _) hNk) HV.out hVV hBB)
      have TA := Lib.hid (valN_take BB a k y hy)
      have r1 := dbl_or (y := y) hcc
      have r2 := dbl_carry hys hcc
      rw [← hVV] at r1 r2
      have R1 := Lib.hid r1
      have R2 := Lib.hid r2
      have MR := Lib.hid (HR.out.set k (V % BB) (Nat.mod_lt _ hBB))
      clear r1 r2 hys hVV hy
      go_wp2_with fail
      go_round
      case rel =>
        have m1 := MR.out
        unfold u32V at m1
        refine ⟨k + 1, V / BB, out.set k (V % BB), by omega, by go_num, by rw [R2.out.1], R2.out.2, by rw [R1.out]; exact m1, fun j h1 h2 => ?_, ?_⟩
        · rw [List.getElem?_set_ne (by omega)]
          exact HZ.out j (by omega) h2
        · have e1 := MS.out
          have e2 := TA.out
          simp only [Nat.add_zero, Nat.zero_add] at e1
          have e3 : BB ^ k * (2 * y) = 2 * (BB ^ k * y) := by rw [Nat.mul_left_comm]
          rw [e3] at e1
          omega
      case measure => simp [intOf] <;> omega
    · obtain rfl : k = n := by omega
      have hkk : ¬ ((k : Int) < (k : Int)) := by omega
      have MR0 := HR.out.set k cc (by unfold BB; omega)
      have hval : valN BB (out.set k cc) = 2 * valN BB a + x0 := by
        have e1 := valN_set BB out k cc 0 (HZ.out k (Nat.le_refl _) hNk)
        have e2 := HV.out
        rw [List.take_of_length_le (by omega)] at e2
        rw [Nat.mul_comm cc] at e2
        omega
      have TR := trim_any (some ⟨w.heap.size, 0, none⟩) N N (out.set k cc) _ (NatAt.of_own MR0.own MR0.small) (by omega) (fun h => by cases h) (Nat.le_refl _) (by unfold maxLen; omega)
      rw [hval] at TR
      have KW := Lib.hid MR0.kp
      unfold u32V at TR KW
      have TR := Lib.hid TR
      clear MR0 hval
      go_wp2_with fail
      refine TR.out.mono ?_
      rintro _ w' ⟨v, rfl, hv, hkp⟩
      go_wp2_with fail
      go_ret
      exact ⟨v, rfl, ⟨hv.1, hv.2.mono KW.out.size⟩, KW.out.tr hkp⟩
end Go.Proofs.YtakgcnjpmpcekaaGreat
