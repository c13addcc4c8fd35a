/- Great numbers by limbs: Divide: the walk (under way). -/
import Derived.Test.YtamjhpdgclbfgaaXNthM
namespace Go.Proofs.Ytamjhpdgclbfgaa
open Go.RowKit Go.Kq

theorem double_is (u : Value) (x k x0 : Nat) (w : World) (hu : IsNat w u x k) (hk : k ≤ 10000) (hx : x0 ≤ 1) :
    Calls Try.prog 128 #[u, .int .u32 (x0 : Nat)] w fun e w' => ∃ z, e = .returned z ∧ IsNew w.heap.size w' z (2 * x + x0) (k + 1) ∧ Kp No w w' := by
  obtain ⟨A, n, c, l, rfl, h1, rfl, h3, _⟩ := hu
  refine (double_num A n c x0 l w h1 (by omega) hx).mono ?_
  rintro e w' ⟨z, rfl, ⟨⟨a, n', c', l', e1, e2, e3, e4, e5⟩, hf⟩, hk⟩
  exact ⟨z, rfl, ⟨⟨a, n', c', l', e1, e2, e3, by omega, e5⟩, hf⟩, hk⟩
theorem order_is (u v : Value) (x y k m : Nat) (w : World) (hu : IsNat w u x k) (hv : IsNat w v y m) (hk : k ≤ 1000000) (hm : m ≤ 1000000) :
    Calls Try.prog 103 #[u, v] w fun e w' => e = .returned (.int .i64 (cmpN x y)) ∧ w = w' := by
  obtain ⟨A, n, c, l, rfl, h1, rfl, h3, _⟩ := hu
  obtain ⟨B, n2, c2, l2, rfl, g1, rfl, g3, _⟩ := hv
  exact order_num A B n n2 c c2 l l2 w h1 g1 (by omega) (by omega)
theorem minus_is (u v : Value) (x y k m : Nat) (w : World) (hu : IsNat w u x k) (hv : IsNat w v y m) (hk : k ≤ 10000) (hm : m ≤ 10000) (hle : y ≤ x) :
    Calls Try.prog 130 #[u, v] w fun e w' => ∃ z, e = .returned z ∧ IsNew w.heap.size w' z (x - y) k ∧ Kp No w w' := by
  obtain ⟨A, n, c, l, rfl, h1, rfl, h3, _⟩ := hu
  obtain ⟨B, n2, c2, l2, rfl, g1, rfl, g3, _⟩ := hv
  refine (minus_num A B n n2 c c2 l l2 w h1 g1 (by omega) (by omega) hle).mono ?_
  rintro e w' ⟨z, rfl, ⟨⟨a, n', c', l', e1, e2, e3, e4, e5⟩, hf⟩, hk⟩
  exact ⟨z, rfl, ⟨⟨a, n', c', l', e1, e2, e3, by omega, e5⟩, hf⟩, hk⟩
theorem MulR.no {w wr w' : World} {N : Nat} {out : List Nat} (h : MulR w N out wr) (hk : Kp No wr w') : MulR w N out w' :=
  ⟨h.len, h.small, own_kp h.own hk (fun _ _ h => h), h.kp.tr hk⟩
theorem cmpN_ge {a b : Nat} (h : b ≤ a) : 0 ≤ cmpN a b := by
  unfold cmpN
  split <;> (try split) <;> omega
theorem IsNat.nil (w : World) : IsNat w (.slice none 0 0) 0 0 :=
  ⟨none, 0, 0, [], rfl, ⟨rfl, fun i x hx => by simp at hx, fun x hx => by simp at hx⟩, rfl, Nat.le_refl _, fun _ => ⟨rfl, rfl⟩, fun j hj => by omega⟩
theorem make_us2 (k : Nat) (hk : k ≤ 100000) (w : World) : (Instr.makeSlice 95 (.int .i64 k) (.int .i64 k)).run Try.prog w = .ok (.slice (some ⟨w.heap.size, 0, none⟩) k k) (w.alloc (.cells ((List.replicate k 0).map u32V).toArray 142)) := make_us k k rfl hk w
set_option maxHeartbeats 1000000 in
set_option maxRecDepth 100000 in
theorem divide_num (A B : Option Addr) (n m ca cb y : Nat) (a : List Nat) (w : World) (ha : NatAt w A n a) (hb : IsNat w (.slice B m cb) y m) (hn : n ≤ 300) (hm : m ≤ 300) (hy : 0 < y) (hym : y < BB ^ m) :
    Calls Try.prog 121 #[.slice A n ca, .slice B m cb] w fun e w' => ∃ v r, e = .returned (.tuple #[v, r]) ∧ IsNew w.heap.size w' v (valN BB a / y) n ∧ IsNat w' r (valN BB a % y) m ∧ Kp No w w' := by
  have hBB : 0 < BB := by unfold BB; omega
  have hal := ha.len
  have SZ := Lib.hid (fun w0 (h : Kp No w w0) => size_num A n ca a w0 (ha.no h) (by omega))
  have BT := Lib.hid (fun i w0 (h : Kp No w w0) (hi : i < 32 * n) => bit_any A n ca i a w0 (ha.no h) (by omega) hi)
  have HA := Lib.hid ha
  have HB := Lib.hid hb
  have HY := Lib.hid hy
  have HYM := Lib.hid hym
  have hmk := make_us2 n (by omega)
  clear ha hb hy hym
  go_enter Try.func121, Try.ntmps121
  go_wp2_with fail
  clear hmk
  have M0 : MulR w n (List.replicate n 0) (w.alloc (.cells (Array.replicate n (u32V 0)) 142)) := by
    refine ⟨by simp, fun x hx => by rw [(List.mem_replicate.1 hx).2]; exact hBB, ?_, Kp.alloc _ _ _⟩
    have h := own_made w (e := 142) (n := n) (s := 1) (base := w.heap.size) (xs := (List.replicate n 0).map u32V) (by simp) (by omega) (by unfold maxLen; omega)
    simpa using h
  have S1 := SZ.out _ M0.kp
  have M0 := Lib.hid M0
  refine S1.mono ?_
  rintro _ w1 ⟨s0, rfl, hs0, hs1, k1⟩
  have S0 := Lib.hid hs0
  have M1 := Lib.hid (show MulR w n (List.replicate n 0) w1 from ⟨M0.out.len, M0.out.small, own_kp M0.out.own (show Kp No _ w1 from k1) (fun _ _ h => h), M0.out.kp.tr k1⟩)
  clear S1 hs0 k1
  have hw0 : IntKind.i64.wrap ((s0 : Int) - 1) = (s0 : Int) - 1 := by rw [IntKind.wrap_i64]; omega
  go_wp2_with fail
  go_loopw [7, 8] (fun r i wr => ∃ (s : Nat) (out : List Nat) (rv : Value), s ≤ 32 * n ∧ i = .int .i64 ((s : Int) - 1) ∧ rv = r ∧ MulR w n out wr ∧ IsNew (w.heap.size + 1) wr r (valN BB a / 2 ^ s % y) m ∧ valN BB out = valN BB a / 2 ^ s / y * 2 ^ s) (fun _ i _ => (intOf i + 1).toNat)
  case atStart =>
    refine ⟨s0, List.replicate n 0, _, hs1, rfl, rfl, M1.out, ?_, ?_⟩
    · rw [Nat.div_eq_of_lt S0.out, Nat.zero_mod]
      exact ⟨(IsNat.nil w1).le (by omega), fun b hb => by cases hb⟩
    · rw [Nat.div_eq_of_lt S0.out, Nat.zero_div, Nat.zero_mul, valN_zeros]
  case round =>
    obtain ⟨s, out, r, hs, rfl, rfl, hR, hI, hV⟩ := hrel
    have HR := Lib.hid hR
    have HI := Lib.hid hI
    have HV := Lib.hid hV
    clear hR hI hV
    by_cases hpos : 0 < s
    · obtain ⟨i, rfl⟩ : ∃ i, s = i + 1 := ⟨s - 1, by omega⟩
      have DV := Lib.hid (div_round (valN BB a) y i HY.out)
      have BV := bit_val (valN BB a) i
      rw [← limN_digit HA.out.small] at BV
      have B1 := BT.out i wr HR.out.kp (by omega)
      have hbt : limN a (i / 32) / 2 ^ (i % 32) % 2 ≤ 1 := by omega
      rw [BV] at B1 hbt
      rw [show (((i + 1 : Nat) : Int) - 1) = (i : Int) by omega]
      have hi0 : (0 : Int) ≤ (i : Int) := by omega
      have hi1 : IntKind.i64.wrap ((i : Int) - 1) = (i : Int) - 1 := by rw [IntKind.wrap_i64]; omega
      generalize valN BB a / 2 ^ i % 2 = bt at *
      have D1 := Lib.hid (double_is r _ m bt wr HI.out.1 (by omega) hbt)
      have B1 := Lib.hid B1
      generalize hRm : valN BB a / 2 ^ (i + 1) % y = Rm at *
      have HRm := Lib.hid hRm
      have HBT := Lib.hid hbt
      clear BV hbt hRm
      go_wp2_with fail
      refine B1.out.mono ?_
      rintro _ w2 ⟨rfl, rfl⟩
      go_wp2_with fail
      refine D1.out.mono ?_
      rintro _ w3 ⟨z, rfl, hz, k3⟩
      have HZ := Lib.hid hz
      have M3 := Lib.hid (HR.out.no k3)
      have B3 := Lib.hid (HB.out.no M3.out.kp)
      have HSZ := Lib.hid (show w.heap.size + 1 ≤ w2.heap.size from (own_ge HR.out.own (g := w.heap.size) rfl).2)
      clear hz k3
      have OR := Lib.hid (order_is z (.slice B m cb) _ y (m + 1) m w3 HZ.out.1 B3.out (by omega) (by omega))
      go_wp2_with fail
      by_cases hc : y ≤ 2 * Rm + bt
      · have hz0 := cmpN_ge hc
        obtain ⟨c, hcc⟩ : ∃ c : Int, cmpN (2 * Rm + bt) y = c := ⟨_, rfl⟩
        rw [hcc] at OR hz0
        clear hcc
        refine OR.out.mono ?_
        rintro _ w4 ⟨rfl, rfl⟩
        have MN := Lib.hid (minus_is z (.slice B m cb) _ y (m + 1) m w3 HZ.out.1 B3.out (by omega) (by omega) hc)
        go_wp2_with fail
        refine MN.out.mono ?_
        rintro _ w5 ⟨z2, rfl, hz2, k5⟩
        have HZ2 := Lib.hid hz2
        have M5 := Lib.hid (M3.out.no k5)
        clear hz2 k5
        obtain ⟨q, hq⟩ : ∃ q, q = i / 32 := ⟨_, rfl⟩
        obtain ⟨e, he⟩ : ∃ e, e = i % 32 := ⟨_, rfl⟩
        obtain ⟨L, hL⟩ : ∃ L, out[q]? = some L := ⟨_, List.getElem?_eq_getElem (by have := M5.out.len; omega)⟩
        have zc := own_cell M5.out.own (j := q) (u := u32V L) (by rw [List.getElem?_map, hL]; rfl)
        have zf := own_free M5.out.own q
        unfold u32V at zc
        have t1 : (i : Int).tdiv 32 = (q : Int) := by rw [Int.tdiv_eq_ediv_of_nonneg (by omega)]; omega
        have t2 : (i : Int).tmod 32 = (e : Int) := by rw [Int.tmod_eq_emod_of_nonneg (by omega)]; omega
        have t3 : (i : Int) / 32 = (q : Int) := by omega
        have t4 : (i : Int) % 32 = (e : Int) := by omega
        have hqn : q < n := by omega
        have he32 : e < 32 := by omega
        have HQ := Lib.hid hq
        have HE := Lib.hid he
        have HL := Lib.hid hL
        clear hq he hL
        go_wp2_with fail
        go_region
        go_wp2_with fail
        go_round
        case rel =>
          have hLs : L < BB := M5.out.small L (List.mem_of_getElem? HL.out)
          have hLd : L = valN BB out / BB ^ (i / 32) % BB := by
            have h1 := limN_digit M5.out.small (i / 32)
            rwa [limN_some (HQ.out ▸ HL.out)] at h1
          obtain ⟨o1, o2⟩ := or_set (Q := valN BB out) (i := i) (by rw [HV.out]; exact Nat.mul_mod_left _ _)
          rw [← hLd, ← HE.out] at o1 o2
          have hval : bits .or .u32 (L : Int) (2 ^ e % 4294967296) = ((L + 2 ^ e : Nat) : Int) := by
            have hp : 2 ^ e < 2 ^ 32 := Nat.pow_lt_pow_right (by omega) he32
            have h0 : ∀ P : Nat, P < 4294967296 → (P : Int) % 4294967296 = (P : Int) := fun P h => by omega
            have h1 : ((2 : Int) ^ e % 4294967296) = ((2 ^ e : Nat) : Int) := by
              rw [show (2 : Int) ^ e = ((2 ^ e : Nat) : Int) by simp, h0 _ hp]
            rw [h1, or_u32 _ _ (by unfold BB at hLs; omega) (by omega), o1]
          have hRy : Rm < y := by rw [← HRm.out]; exact Nat.mod_lt _ HY.out
          have hbt := HBT.out
          have e1 : (2 * Rm + bt) % y = 2 * Rm + bt - y := by rw [Nat.mod_eq_sub_mod hc, Nat.mod_eq_of_lt (by omega)]
          have e2 : (2 * Rm + bt) / y = 1 := by rw [Nat.div_eq_sub_div HY.out hc, Nat.div_eq_of_lt (by omega)]
          have hsz3 : w.heap.size + 1 ≤ w3.heap.size := (own_ge M3.out.own (g := w.heap.size) rfl).2
          have hk := (kp_setOne w5 w.heap.size q (.int .u32 ((L + 2 ^ e : Nat) : Int))).tr (Kp.drew (Kq.One w.heap.size) _)
          rw [hval]
          refine ⟨i, out.set q (L + 2 ^ e), z2, by omega, rfl, rfl, (M5.out.set q (L + 2 ^ e) o2).no (Kp.drew No _), ⟨?_, HZ2.out.2.mono hsz3⟩, ?_⟩
          · rw [DV.out.1, e1]
            refine (HZ2.out.1.kp hk (fun b hb e => ?_)).tight ?_
            · have := HZ2.out.2 b hb
              unfold Kq.One at e
              omega
            · have := HYM.out
              omega
          · have s1 := valN_set BB out q (L + 2 ^ e) L HL.out
            have s2 := i_split i
            rw [← HQ.out, ← HE.out] at s2
            rw [DV.out.2, e2, Nat.add_mul, Nat.one_mul]
            rw [Nat.mul_add, ← s2] at s1
            have s3 := HV.out
            generalize valN BB a / 2 ^ (i + 1) / y = Q at s3 ⊢
            rw [Nat.pow_succ, Nat.mul_comm (2 ^ i) 2, ← Nat.mul_assoc, Nat.mul_comm _ 2] at s3
            omega
        case measure => simp [intOf] <;> omega
      · obtain hz0 : cmpN (2 * Rm + bt) y = -1 := by
          unfold cmpN
          rw [if_pos (by omega)]
        rw [hz0] at OR
        clear hz0
        refine OR.out.mono ?_
        rintro _ w4 ⟨rfl, rfl⟩
        have d1 : (2 * Rm + bt) / y = 0 := Nat.div_eq_of_lt (by omega)
        have d2 : (2 * Rm + bt) % y = 2 * Rm + bt := Nat.mod_eq_of_lt (by omega)
        rw [d1, d2] at DV
        clear d1 d2
        go_wp2_with fail
        go_round
        case rel =>
          refine ⟨i, out, z, by omega, rfl, rfl, M3.out, ?_, ?_⟩
          · rw [DV.out.1]
            refine ⟨HZ.out.1.tight ?_, HZ.out.2.mono ?_⟩
            · have := HYM.out
              omega
            · exact HSZ.out
          · rw [HV.out, DV.out.2, Nat.pow_succ, Nat.add_zero, Nat.mul_comm (2 ^ i) 2, ← Nat.mul_assoc, Nat.mul_comm (_ / y) 2]
        case measure => simp [intOf] <;> omega
    · obtain rfl : s = 0 := by omega
      have TR := trim_any (some ⟨w.heap.size, 0, none⟩) n n out wr (NatAt.of_own HR.out.own HR.out.small) (by omega) (fun h => by cases h) (Nat.le_refl _) (by unfold maxLen; omega)
      have e1 := HV.out
      have e2 := HI.out
      rw [Nat.pow_zero, Nat.div_one, Nat.mul_one] at e1
      rw [Nat.pow_zero, Nat.div_one] at e2
      rw [e1] at TR
      have TR := Lib.hid TR
      have HI2 := Lib.hid e2
      clear e1 e2
      go_wp2_with fail
      refine TR.out.mono ?_
      rintro _ w' ⟨v, rfl, hv, hkp⟩
      go_wp2_with fail
      refine bodyPost_ret (v := .tuple #[v, r]) (by simp [results, Try.results121, go_sem]) rfl ⟨v, r, rfl, ⟨hv.1, hv.2.mono HR.out.kp.size⟩, HI2.out.1.no hkp, HR.out.kp.tr hkp⟩
end Go.Proofs.Ytamjhpdgclbfgaa
