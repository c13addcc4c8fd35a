/- Great numbers by limbs: power with exponent 2: the walk (printed by gen_nty.py). · Great numbers by limbs: Shift of 1: the walk (printed by gen_nua.py). -/
import Derived.Test.YtamjhpdgclbfgaaGreatXNtxM
import Derived.Test.YtamjhpdgclbfgaaGreatXCspM
namespace Go.Proofs.YtamjhpdgclbfgaaGreat
open Go.RowKit Go.Kq

theorem cmpN_le {a b : Nat} (h : a ≤ b) : cmpN a b ≤ 0 := by
  unfold cmpN
  split <;> (try split) <;> omega
theorem cmpN_gt {a b : Nat} (h : b < a) : 0 < cmpN a b := by
  unfold cmpN
  split <;> (try split) <;> omega
set_option maxHeartbeats 1000000 in
theorem power_two (u : Value) (x k : Nat) (w : World) (hu : IsNat w u x k) (hk : k ≤ 150) :
    Calls Tryz.prog 77 #[u, .int .i64 2] w fun e w' => ∃ z, e = .returned (.tuple #[z, .bool true]) ∧ IsNew w.heap.size w' z (x * x) (2 * k + 4) ∧ Kp No w w' := by
  have OF := Lib.hid (of_any 1 w (by omega))
  have HU := Lib.hid hu
  have TI := Lib.hid (fun (z : Value) (y m : Nat) (w0 : World) (hz : IsNat w0 z y m) (hk0 : Kp No w w0) (hm : m ≤ 400) => times_new z u y x m k (m + k + 1) w0 hz (hu.no hk0) (by omega) (by omega) (by omega))
  have OR := Lib.hid (fun (z : Value) (w0 : World) (hz : IsNat w0 z 1 2) (hk0 : Kp No w w0) => order_is u z x 1 k 2 w0 (hu.no hk0) hz (by omega) (by omega))
  obtain ⟨A, n, c, l, rfl, _⟩ := hu.pos
  clear hu
  go_enter Tryz.func77, Tryz.ntmps77
  go_wp2_with fail
  refine OF.out.mono ?_
  rintro _ w1 ⟨v, rfl, hv, k1⟩
  have HV := Lib.hid hv
  have K1 := Lib.hid k1
  obtain ⟨V0, n0, c0, l0, rfl, _⟩ := hv.1.pos
  clear hv k1 OF
  go_wp2_with fail
  refine (OR.out _ _ HV.out.1 K1.out).mono ?_
  rintro _ w2 ⟨rfl, rfl⟩
  by_cases hx : x ≤ 1
  · have hc := cmpN_le hx
    have HX := Lib.hid (show x ^ 1 = x * x by
      have : x = 0 ∨ x = 1 := by omega
      rcases this with rfl | rfl <;> rfl)
    generalize cmpN x 1 = cc at hc ⊢
    clear hx OR
    go_wp2_with fail
    go_loopw [6, 7] (fun a b wr => ∃ i : Nat, b = .int .i64 (i : Nat) ∧ i ≤ 1 ∧ IsNew w.heap.size wr a (x ^ i) (2 + i * (k + 1)) ∧ Kp No w wr) (fun _ t _ => (1 - intOf t).toNat)
    case atStart => exact ⟨0, rfl, by omega, ⟨by simpa using HV.out.1, HV.out.2⟩, K1.out⟩
    case round =>
      obtain ⟨i, rfl, hi, ha, hkp⟩ := hrel
      have HA := Lib.hid ha
      have KP := Lib.hid hkp
      obtain ⟨A3, n3, c3, l3, rfl, _⟩ := ha.1.pos
      clear ha hkp
      by_cases hlt : i < 1
      · have g1 : (i : Int) < 1 := by omega
        have g2 : IntKind.i64.wrap ((i : Int) + 1) = (i : Int) + 1 := by rw [IntKind.wrap_i64]; omega
        have hm : 2 + i * (k + 1) ≤ 400 := by
          have : i = 0 ∨ i = 1 := by omega
          rcases this with rfl | rfl <;> omega
        have hm2 : 2 + i * (k + 1) + k + 1 ≤ 400 := by
          have : i = 0 ∨ i = 1 := by omega
          rcases this with rfl | rfl <;> omega
        have hsz := KP.out.size
        go_wp2_with fail
        refine (TI.out _ _ _ _ HA.out.1 KP.out hm).mono ?_
        rintro _ w4 ⟨z, rfl, hz, k4⟩
        have HZ := Lib.hid (hz.mono hsz)
        have K4 := Lib.hid k4
        obtain ⟨A5, n5, c5, l5, rfl, _, _, hn5, _⟩ := hz.1.pos
        have g3 : ((n5 : Nat) : Int) ≤ 512 := by omega
        clear hz k4 hn5
        go_wp2_with fail
        go_round
        case rel => exact ⟨i + 1, rfl, hlt, by rw [Nat.pow_succ, show 2 + (i + 1) * (k + 1) = 2 + i * (k + 1) + k + 1 by rw [Nat.add_mul]; omega]; exact HZ.out, KP.out.tr K4.out⟩
        case measure => simp [intOf] <;> omega
      · obtain rfl : i = 1 := by omega
        go_wp2_with fail
        exact bodyPost_ret (v := .tuple #[.slice A3 n3 c3, .bool true]) (by simp [results, Tryz.results77, go_sem]) rfl ⟨_, rfl, by rw [← HX.out]; exact ⟨HA.out.1.le (by omega), HA.out.2⟩, KP.out⟩
  · have hc := cmpN_gt (show 1 < x by omega)
    have HX := Lib.hid (show x ^ 2 = x * x by rw [Nat.pow_succ, Nat.pow_one])
    generalize cmpN x 1 = cc at hc ⊢
    clear hx OR
    go_wp2_with fail
    go_loopw [6, 7] (fun a b wr => ∃ i : Nat, b = .int .i64 (i : Nat) ∧ i ≤ 2 ∧ IsNew w.heap.size wr a (x ^ i) (2 + i * (k + 1)) ∧ Kp No w wr) (fun _ t _ => (2 - intOf t).toNat)
    case atStart => exact ⟨0, rfl, by omega, ⟨by simpa using HV.out.1, HV.out.2⟩, K1.out⟩
    case round =>
      obtain ⟨i, rfl, hi, ha, hkp⟩ := hrel
      have HA := Lib.hid ha
      have KP := Lib.hid hkp
      obtain ⟨A3, n3, c3, l3, rfl, _⟩ := ha.1.pos
      clear ha hkp
      by_cases hlt : i < 2
      · have g1 : (i : Int) < 2 := by omega
        have g2 : IntKind.i64.wrap ((i : Int) + 1) = (i : Int) + 1 := by rw [IntKind.wrap_i64]; omega
        have hm : 2 + i * (k + 1) ≤ 400 := by
          have : i = 0 ∨ i = 1 := by omega
          rcases this with rfl | rfl <;> omega
        have hm2 : 2 + i * (k + 1) + k + 1 ≤ 400 := by
          have : i = 0 ∨ i = 1 := by omega
          rcases this with rfl | rfl <;> omega
        have hsz := KP.out.size
        go_wp2_with fail
        refine (TI.out _ _ _ _ HA.out.1 KP.out hm).mono ?_
        rintro _ w4 ⟨z, rfl, hz, k4⟩
        have HZ := Lib.hid (hz.mono hsz)
        have K4 := Lib.hid k4
        obtain ⟨A5, n5, c5, l5, rfl, _, _, hn5, _⟩ := hz.1.pos
        have g3 : ((n5 : Nat) : Int) ≤ 512 := by omega
        clear hz k4 hn5
        go_wp2_with fail
        go_round
        case rel => exact ⟨i + 1, rfl, hlt, by rw [Nat.pow_succ, show 2 + (i + 1) * (k + 1) = 2 + i * (k + 1) + k + 1 by rw [Nat.add_mul]; omega]; exact HZ.out, KP.out.tr K4.out⟩
        case measure => simp [intOf] <;> omega
      · obtain rfl : i = 2 := by omega
        go_wp2_with fail
        exact bodyPost_ret (v := .tuple #[.slice A3 n3 c3, .bool true]) (by simp [results, Tryz.results77, go_sem]) rfl ⟨_, rfl, by rw [← HX.out]; exact ⟨HA.out.1.le (by omega), HA.out.2⟩, KP.out⟩
end Go.Proofs.YtamjhpdgclbfgaaGreat

namespace Go.Proofs.YtamjhpdgclbfgaaGreat
open Go.RowKit Go.Kq

theorem IsNat.one {w : World} {v : Value} {k : Nat} (h : IsNat w v 1 k) : ∃ A c, v = .slice A 1 c ∧ NatAt w A 1 [1] := by
  obtain ⟨A, n, c, l, rfl, h1, h2, h3, h4⟩ := (h.tight (k' := 1) (by unfold BB; omega)).pos
  obtain rfl : n = 1 := by have := h4.2 (by omega); omega
  have hl := h1.len
  match l, hl with
  | [x], _ =>
    simp [valN] at h2
    subst h2
    exact ⟨A, c, rfl, h1⟩
theorem limN_of_one (i : Nat) (hi : i < 32) : limN [1] (i / 32) / 2 ^ (i % 32) % 2 = if i = 0 then 1 else 0 := by
  rw [Nat.div_eq_of_lt hi, Nat.mod_eq_of_lt hi]
  rcases Nat.eq_zero_or_pos i with rfl | h
  · rfl
  · rw [if_neg (by omega)]
    show 1 / 2 ^ i % 2 = 0
    rw [Nat.div_eq_of_lt (Nat.one_lt_two_pow (by omega))]
set_option maxHeartbeats 1000000 in
set_option maxRecDepth 100000 in
theorem shift_one (v : Value) (n k : Nat) (w : World) (hv : IsNat w v 1 k) (hn : n ≤ 64) :
    Calls Tryz.prog 75 #[v, .int .i64 (n : Nat)] w fun e w' => ∃ z, e = .returned (.tuple #[z, .int .i64 0]) ∧ IsNew w.heap.size w' z (2 ^ n) 3 ∧ Kp No w w' := by
  have hBB : 0 < BB := by unfold BB; omega
  have hv1 : IsNat w v 1 300 := hv.tight (by unfold BB; omega) |>.le (by omega : (1 : Nat) ≤ 300)
  have BD := Lib.hid (fun (g : Nat) (w0 : World) (hc : w0.cell? ⟨g, 0, none⟩ = some v) (hk : Kp No w w0) => bad_is g 1 1 [(v, 1)] w0 rfl (by omega) (fun i y hy => by
    match i, hy with
    | 0, hy => simp at hy; subst hy; exact ⟨hc, hv1.no hk⟩
    | i + 1, hy => simp at hy))
  obtain ⟨A, c, rfl, ha⟩ := hv.one
  have SZ := Lib.hid (fun w0 (h : Kp No w w0) => size_num A 1 c [1] w0 (ha.no h) (by omega))
  have BT := Lib.hid (fun i w0 (h : Kp No w w0) (hi : i < 32) => bit_any A 1 c i [1] w0 (ha.no h) (by omega) (by omega))
  obtain ⟨N, hN⟩ : ∃ N, N = 512 := ⟨_, rfl⟩
  have hmk : ∀ w0 : World, (Instr.makeSlice 74 (.int .i64 512) (.int .i64 512)).run Tryz.prog w0 = .ok (.slice (some ⟨w0.heap.size, 0, none⟩) N N) (w0.alloc (.cells ((List.replicate N 0).map u32V).toArray 127)) := fun w0 => by subst hN; exact make_us 512 512 rfl (by omega) w0
  have KA := Lib.hid (Kp.alloc No w (.cells #[.slice A 1 c] 74))
  have HA0 := Lib.hid (show (w.alloc (.cells #[.slice A 1 c] 74)).cell? ⟨w.heap.size, 0, none⟩ = some (.slice A 1 c) by rw [cell_of_row _ _ _ _ _ _ (heap_alloc_new w _)]; rfl)
  have HN := Lib.hid hN
  have hn64 : (n : Int) ≤ 64 := by omega
  clear hv hv1 ha hN
  go_enter Tryz.func75, Tryz.ntmps75
  go_wp2_with fail
  refine (BD.out _ _ HA0.out KA.out).mono ?_
  rintro _ w1 ⟨rfl, rfl⟩
  clear BD HA0
  go_wp2_with fail
  refine (SZ.out _ KA.out).mono ?_
  rintro _ w1 ⟨s0, rfl, hs0, hs1, k1⟩
  have K1 := Lib.hid (KA.out.tr k1)
  have hs2 : (s0 : Int) ≤ 32 := by omega
  have g0 : IntKind.i64.wrap ((s0 : Int) + (n : Int)) = (s0 : Int) + (n : Int) := by rw [IntKind.wrap_i64]; omega
  have g1 : (s0 : Int) + (n : Int) ≤ 16384 := by omega
  clear hs0 hs1 KA k1
  go_wp2_with fail
  clear hmk g0 g1
  have K1S := Lib.hid K1.out.size
  have M0 : MulR w1 N (List.replicate N 0) (w1.alloc (.cells (Array.replicate N (u32V 0)) 127)) := by
    refine ⟨by simp, fun x hx => by rw [(List.mem_replicate.1 hx).2]; exact hBB, ?_, Kp.alloc _ _ _⟩
    have h := own_made w1 (e := 127) (n := N) (s := 1) (base := w1.heap.size) (xs := (List.replicate N 0).map u32V) (by simp) (by omega) (by have := HN.out; unfold maxLen; omega)
    simpa using h
  replace M0 := Lib.hid M0
  go_loopw [8] (fun i wr => ∃ (j : Nat) (out : List Nat), i = .int .i64 (j : Nat) ∧ j ≤ 32 ∧ MulR w1 N out wr ∧ (j = 0 → out = List.replicate N 0) ∧ (0 < j → valN BB out = 2 ^ n)) (fun i _ => (33 - intOf i).toNat)
  case atStart => exact ⟨0, List.replicate N 0, rfl, by omega, M0.out, fun _ => rfl, fun h => absurd h (by omega)⟩
  case round =>
    obtain ⟨j, out, rfl, hj, hR, hz, hV⟩ := hrel
    have HR := Lib.hid hR
    have HZ := Lib.hid hz
    have HV := Lib.hid hV
    have KR := Lib.hid (K1.out.tr hR.kp)
    clear hR hz hV
    go_wp2_with fail
    refine (SZ.out _ KR.out).mono ?_
    rintro _ w2 ⟨s, rfl, hs0, hs1, k2⟩
    have hs3 : 0 < s := by
      rcases Nat.eq_zero_or_pos s with rfl | h
      · simp [valN] at hs0
      · exact h
    have M2 := Lib.hid (HR.out.no k2)
    have K2 := Lib.hid (KR.out.tr k2)
    clear hs0 k2 HR KR
    by_cases hjs : j < s
    · have g2 : (j : Int) < (s : Int) := by omega
      have g3 : IntKind.i64.wrap ((j : Int) + (n : Int)) = ((j + n : Nat) : Int) := by rw [IntKind.wrap_i64]; omega
      have g4 : (0 : Int) ≤ ((j + n : Nat) : Int) := by omega
      have g5 : IntKind.i64.wrap ((j : Int) + 1) = (j : Int) + 1 := by rw [IntKind.wrap_i64]; omega
      have hJ32 : j < 32 := by omega
      go_wp2_with fail
      obtain ⟨q, hq⟩ : ∃ q, q = (j + n) / 32 := ⟨_, rfl⟩
      obtain ⟨e, he⟩ : ∃ e, e = (j + n) % 32 := ⟨_, rfl⟩
      obtain ⟨L, hL⟩ : ∃ L, out[q]? = some L := ⟨_, List.getElem?_eq_getElem (by have := M2.out.len; have := HN.out; omega)⟩
      have zc := own_cell M2.out.own (j := q) (u := u32V L) (by rw [List.getElem?_map, hL]; rfl)
      have zf := own_free M2.out.own q
      unfold u32V at zc
      obtain ⟨T, hT⟩ : ∃ T : Int, T = ((j + n : Nat) : Int) := ⟨_, rfl⟩
      rw [← hT] at g3 g4
      have t1 : T.tdiv 32 = (q : Int) := by rw [hT, Int.tdiv_eq_ediv_of_nonneg (by omega)]; omega
      have t2 : T.tmod 32 = (e : Int) := by rw [hT, Int.tmod_eq_emod_of_nonneg (by omega)]; omega
      have t3 : T / 32 = (q : Int) := by omega
      have t4 : T % 32 = (e : Int) := by omega
      have hqn : q < N := by have := HN.out; omega
      have he32 : e < 32 := by omega
      have hqw : IntKind.i64.wrap (q : Int) = (q : Int) := by rw [IntKind.wrap_i64]; have := HN.out; omega
      obtain ⟨bt, hbt⟩ : ∃ bt : Nat, bt = if j = 0 then 1 else 0 := ⟨_, rfl⟩
      obtain ⟨X, hX1, hX2, hX3⟩ : ∃ X : Nat, bits .or .u32 (L : Int) ((bt : Int) * 2 ^ e % 4294967296) = (X : Int) ∧ X < BB ∧ valN BB (out.set q X) = 2 ^ n := by
        have s1 := fun X => valN_set BB out q X L hL
        rcases Nat.eq_zero_or_pos j with rfl | hj0
        · obtain rfl : bt = 1 := by rw [hbt, if_pos rfl]
          obtain rfl := HZ.out rfl
          obtain rfl : L = 0 := by
            rw [List.getElem?_replicate, if_pos hqn] at hL
            injection hL with hL
            exact hL.symm
          have hp : 2 ^ e < 2 ^ 32 := Nat.pow_lt_pow_right (by omega) he32
          refine ⟨2 ^ e, ?_, hp, ?_⟩
          · have h1 : (((1 : Nat) : Int) * (2 : Int) ^ e % 4294967296) = ((2 ^ e : Nat) : Int) := by
              have h0 : ∀ P : Nat, P < 4294967296 → ((1 : Nat) : Int) * (P : Int) % 4294967296 = (P : Int) := fun P h => by omega
              rw [show (2 : Int) ^ e = ((2 ^ e : Nat) : Int) by simp, h0 _ hp]
            rw [h1, or_u32 _ _ (by omega) hp, Nat.zero_or]
          · have s2 := s1 (2 ^ e)
            have s3 := i_split n
            rw [valN_zeros] at s2
            rw [hq, he] at *
            rw [Nat.zero_add] at *
            omega
        · obtain rfl : bt = 0 := by rw [hbt, if_neg (by omega)]
          have hLs : L < BB := M2.out.small L (List.mem_of_getElem? hL)
          refine ⟨L, ?_, hLs, ?_⟩
          · have h1 : (((0 : Nat) : Int) * (2 : Int) ^ e % 4294967296) = ((0 : Nat) : Int) := by
              rw [show ((0 : Nat) : Int) = 0 from rfl, Int.zero_mul]
              rfl
            rw [h1, or_u32 _ _ (by unfold BB at hLs; omega) (by omega), Nat.or_zero]
          · have s2 := s1 L
            have s3 := HV.out hj0
            omega
      have HX1 := Lib.hid hX1
      have HX2 := Lib.hid hX2
      have HX3 := Lib.hid hX3
      have BV := Lib.hid (limN_of_one j hJ32)
      have BTJ := Lib.hid (fun (w0 : World) (h : Kp No w2 w0) => BT.out j w0 (K2.out.tr h) hJ32)
      rw [BV.out, ← hbt] at BTJ
      clear hq he hL hT hbt hX1 hX2 hX3 BV
      have FS : Stab (fun ix wz u => True) := fun ix u wz wz' kz h => trivial
      have FS := Lib.hid FS
      refine wp_region_each (fun ix u => match ix with | 0 => u = .slice (some ⟨w1.heap.size, 0, none⟩) N N | 1 => u = .int .i64 (j : Nat) | 2 => u = .int .i64 (n : Nat) | 3 => u = .int .i64 T | 4 => u = .int .i64 (q : Nat) | 5 => u = .slice (some ⟨w1.heap.size, 0, none⟩) N N | 6 => u = .int .i64 (j : Nat) | 7 => u = .int .i64 (n : Nat) | 8 => u = .int .i64 T | 9 => u = .int .i64 (q : Nat) | 10 => u = .pointer (some ⟨w1.heap.size, q, none⟩) | 11 => u = .int .u32 (L : Nat) | 12 => u = .slice A 1 c | 13 => u = .int .i64 (j : Nat) | 14 => u = .int .u32 (bt : Nat) | 15 => u = .int .i64 (j : Nat) | 16 => u = .int .i64 (n : Nat) | 17 => u = .int .i64 T | 18 => u = .int .i64 (e : Nat) | 19 => u = .int .u32 ((bt : Int) * 2 ^ e % 4294967296) | 20 => u = .int .u32 (bits .or .u32 (L : Int) ((bt : Int) * 2 ^ e % 4294967296)) | 21 => u = .pointer (some ⟨w1.heap.size, q, none⟩) | _ => True) (HvC w2 ⟨w1.heap.size, q, none⟩ (.int .u32 (bits .or .u32 (L : Int) ((bt : Int) * 2 ^ e % 4294967296))) 22 [(22, 20), (20, 11), (20, 19), (19, 14)]) (by kernel_rfl) (by kernel_rfl) (by kernel_rfl) ?_ ?_ ?_
      · exact HvC.start _ _ _ _ _
      · refine ⟨?_, ?_, ?_, ?_, ?_, ?_, ?_, ?_, ?_, ?_, ?_, ?_, ?_, ?_, ?_, ?_, ?_, ?_, ?_, ?_, ?_, ?_, ?_, trivial⟩
        · intro r a w' hf hg hW hr hd K hK
          refine wpOp_of rfl rfl ?_
          have e0 : a.tmps.getD 7 undef = .slice (some ⟨w1.heap.size, 0, none⟩) N N := hf.evalFree (by kernel_rfl)
          go_simp
          exact hK _ _ rfl (hW.upd 0 _ (by decide) (by decide))
        · intro r a w' hf hg hW hr hd K hK
          refine wpOp_of rfl rfl ?_
          have e0 : a.tmps.getD 8 undef = .int .i64 (j : Nat) := hf.evalFree (by kernel_rfl)
          go_simp
          exact hK _ _ rfl (hW.upd 1 _ (by decide) (by decide))
        · intro r a w' hf hg hW hr hd K hK
          refine wpOp_of rfl rfl ?_
          have e0 : a.tmps.getD 1 undef = .int .i64 (n : Nat) := hf.evalFree (by kernel_rfl)
          go_simp
          exact hK _ _ rfl (hW.upd 2 _ (by decide) (by decide))
        · intro r a w' hf hg hW hr hd K hK
          refine wpOp_of rfl rfl ?_
          refine hf.depE hg hd 1 51 (by kernel_rfl) fun u0 e0 g0 h0 => ?_
          replace g0 : u0 = .int .i64 (j : Nat) := g0
          subst g0
          refine hf.depE hg hd 2 52 (by kernel_rfl) fun u1 e1 g1 h1 => ?_
          replace g1 : u1 = .int .i64 (n : Nat) := g1
          subst g1
          go_simp
          exact hK _ _ rfl (hW.upd 3 _ (by decide) (by decide))
        · intro r a w' hf hg hW hr hd K hK
          refine wpOp_of rfl rfl ?_
          refine hf.depE hg hd 3 53 (by kernel_rfl) fun u0 e0 g0 h0 => ?_
          replace g0 : u0 = .int .i64 T := g0
          subst g0
          go_simp
          exact hK _ _ rfl (hW.upd 4 _ (by decide) (by decide))
        · intro r a w' hf hg hW hr hd K hK
          refine wpOp_of rfl rfl ?_
          have e0 : a.tmps.getD 7 undef = .slice (some ⟨w1.heap.size, 0, none⟩) N N := hf.evalFree (by kernel_rfl)
          go_simp
          exact hK _ _ rfl (hW.upd 5 _ (by decide) (by decide))
        · intro r a w' hf hg hW hr hd K hK
          refine wpOp_of rfl rfl ?_
          have e0 : a.tmps.getD 8 undef = .int .i64 (j : Nat) := hf.evalFree (by kernel_rfl)
          go_simp
          exact hK _ _ rfl (hW.upd 6 _ (by decide) (by decide))
        · intro r a w' hf hg hW hr hd K hK
          refine wpOp_of rfl rfl ?_
          have e0 : a.tmps.getD 1 undef = .int .i64 (n : Nat) := hf.evalFree (by kernel_rfl)
          go_simp
          exact hK _ _ rfl (hW.upd 7 _ (by decide) (by decide))
        · intro r a w' hf hg hW hr hd K hK
          refine wpOp_of rfl rfl ?_
          refine hf.depE hg hd 6 56 (by kernel_rfl) fun u0 e0 g0 h0 => ?_
          replace g0 : u0 = .int .i64 (j : Nat) := g0
          subst g0
          refine hf.depE hg hd 7 57 (by kernel_rfl) fun u1 e1 g1 h1 => ?_
          replace g1 : u1 = .int .i64 (n : Nat) := g1
          subst g1
          go_simp
          exact hK _ _ rfl (hW.upd 8 _ (by decide) (by decide))
        · intro r a w' hf hg hW hr hd K hK
          refine wpOp_of rfl rfl ?_
          refine hf.depE hg hd 8 58 (by kernel_rfl) fun u0 e0 g0 h0 => ?_
          replace g0 : u0 = .int .i64 T := g0
          subst g0
          go_simp
          exact hK _ _ rfl (hW.upd 9 _ (by decide) (by decide))
        · intro r a w' hf hg hW hr hd K hK
          refine wpOp_of rfl rfl ?_
          refine hf.depE hg hd 5 55 (by kernel_rfl) fun u0 e0 g0 h0 => ?_
          replace g0 : u0 = .slice (some ⟨w1.heap.size, 0, none⟩) N N := g0
          subst g0
          refine hf.depE hg hd 9 59 (by kernel_rfl) fun u1 e1 g1 h1 => ?_
          replace g1 : u1 = .int .i64 (q : Nat) := g1
          subst g1
          go_simp
          exact hK _ _ rfl (hW.upd 10 _ (by decide) (by decide))
        · intro r a w' hf hg hW hr hd K hK
          refine wpOp_of rfl rfl ?_
          refine hf.depE hg hd 10 60 (by kernel_rfl) fun u0 e0 g0 h0 => ?_
          replace g0 : u0 = .pointer (some ⟨w1.heap.size, q, none⟩) := g0
          subst g0
          have f20 := hW.back (x := 20) (y := 11) (by decide) hr
          have f22 := hW.back (x := 22) (y := 20) (by decide) f20
          have kz := hW.b0 f22
          have zc2 := kz.cell zc id
          go_simp
          exact hK _ _ rfl (hW.upd 11 _ (by decide) (by decide))
        · intro r a w' hf hg hW hr hd K hK
          refine wpOp_of rfl rfl ?_
          have e0 : a.tmps.getD 0 undef = .slice A 1 c := hf.evalFree (by kernel_rfl)
          go_simp
          exact hK _ _ rfl (hW.upd 12 _ (by decide) (by decide))
        · intro r a w' hf hg hW hr hd K hK
          refine wpOp_of rfl rfl ?_
          have e0 : a.tmps.getD 8 undef = .int .i64 (j : Nat) := hf.evalFree (by kernel_rfl)
          go_simp
          exact hK _ _ rfl (hW.upd 13 _ (by decide) (by decide))
        · intro r a w' hf hg hW hr hd K hK
          refine wpOp_of rfl rfl ?_
          refine hf.depE hg hd 12 62 (by kernel_rfl) fun u0 e0 g0 h0 => ?_
          replace g0 : u0 = .slice A 1 c := g0
          subst g0
          refine hf.depE hg hd 13 63 (by kernel_rfl) fun u1 e1 g1 h1 => ?_
          replace g1 : u1 = .int .i64 (j : Nat) := g1
          subst g1
          have f19 := hW.back (x := 19) (y := 14) (by decide) hr
          have f20 := hW.back (x := 20) (y := 19) (by decide) f19
          have f22 := hW.back (x := 22) (y := 20) (by decide) f20
          have kz := hW.b0 f22
          go_simp
          with_reducible refine (BTJ.out _ kz).mono ?_
          rintro e w'' ⟨rfl, rfl⟩
          exact hK _ _ rfl (hW.upd 14 _ (by decide) (by decide))
        · intro r a w' hf hg hW hr hd K hK
          refine wpOp_of rfl rfl ?_
          have e0 : a.tmps.getD 8 undef = .int .i64 (j : Nat) := hf.evalFree (by kernel_rfl)
          go_simp
          exact hK _ _ rfl (hW.upd 15 _ (by decide) (by decide))
        · intro r a w' hf hg hW hr hd K hK
          refine wpOp_of rfl rfl ?_
          have e0 : a.tmps.getD 1 undef = .int .i64 (n : Nat) := hf.evalFree (by kernel_rfl)
          go_simp
          exact hK _ _ rfl (hW.upd 16 _ (by decide) (by decide))
        · intro r a w' hf hg hW hr hd K hK
          refine wpOp_of rfl rfl ?_
          refine hf.depE hg hd 15 65 (by kernel_rfl) fun u0 e0 g0 h0 => ?_
          replace g0 : u0 = .int .i64 (j : Nat) := g0
          subst g0
          refine hf.depE hg hd 16 66 (by kernel_rfl) fun u1 e1 g1 h1 => ?_
          replace g1 : u1 = .int .i64 (n : Nat) := g1
          subst g1
          go_simp
          exact hK _ _ rfl (hW.upd 17 _ (by decide) (by decide))
        · intro r a w' hf hg hW hr hd K hK
          refine wpOp_of rfl rfl ?_
          refine hf.depE hg hd 17 67 (by kernel_rfl) fun u0 e0 g0 h0 => ?_
          replace g0 : u0 = .int .i64 T := g0
          subst g0
          go_simp
          exact hK _ _ rfl (hW.upd 18 _ (by decide) (by decide))
        · intro r a w' hf hg hW hr hd K hK
          refine wpOp_of rfl rfl ?_
          refine hf.depE hg hd 14 64 (by kernel_rfl) fun u0 e0 g0 h0 => ?_
          replace g0 : u0 = .int .u32 (bt : Nat) := g0
          subst g0
          refine hf.depE hg hd 18 68 (by kernel_rfl) fun u1 e1 g1 h1 => ?_
          replace g1 : u1 = .int .i64 (e : Nat) := g1
          subst g1
          go_simp
          exact hK _ _ rfl (hW.updL 19 _ (by decide) (fun p hp e => by simp only [List.mem_cons, List.not_mem_nil, or_false] at hp; rcases hp with rfl | rfl | rfl | rfl <;> first | (exact absurd e (by decide)) | (rw [h0]; exact fun h => by cases h) | (rw [h0]; exact fun h => by cases h)))
        · intro r a w' hf hg hW hr hd K hK
          refine wpOp_of rfl rfl ?_
          refine hf.depE hg hd 11 61 (by kernel_rfl) fun u0 e0 g0 h0 => ?_
          replace g0 : u0 = .int .u32 (L : Nat) := g0
          subst g0
          refine hf.depE hg hd 19 69 (by kernel_rfl) fun u1 e1 g1 h1 => ?_
          replace g1 : u1 = .int .u32 ((bt : Int) * 2 ^ e % 4294967296) := g1
          subst g1
          go_simp
          exact hK _ _ rfl (hW.updL 20 _ (by decide) (fun p hp e => by simp only [List.mem_cons, List.not_mem_nil, or_false] at hp; rcases hp with rfl | rfl | rfl | rfl <;> first | (exact absurd e (by decide)) | (rw [h0]; exact fun h => by cases h) | (rw [h1]; exact fun h => by cases h)))
        · intro r a w' hf hg hW hr hd K hK
          refine wpOp_of rfl rfl ?_
          refine hf.depE hg hd 0 50 (by kernel_rfl) fun u0 e0 g0 h0 => ?_
          replace g0 : u0 = .slice (some ⟨w1.heap.size, 0, none⟩) N N := g0
          subst g0
          refine hf.depE hg hd 4 54 (by kernel_rfl) fun u1 e1 g1 h1 => ?_
          replace g1 : u1 = .int .i64 (q : Nat) := g1
          subst g1
          go_simp
          exact hK _ _ rfl (hW.upd 21 _ (by decide) (by decide))
        · intro r a w' hf hg hW hr hd K hK
          refine wpOp_of rfl rfl ?_
          refine hf.depE hg hd 21 71 (by kernel_rfl) fun u0 e0 g0 h0 => ?_
          replace g0 : u0 = .pointer (some ⟨w1.heap.size, q, none⟩) := g0
          subst g0
          refine hf.depE hg hd 20 70 (by kernel_rfl) fun u1 e1 g1 h1 => ?_
          replace g1 : u1 = .int .u32 (bits .or .u32 (L : Int) ((bt : Int) * 2 ^ e % 4294967296)) := g1
          subst g1
          have kz := hW.b0 hr
          have zc2 := kz.cell zc id
          have zf2 := own_free (M2.out.no kz).own q
          go_simp
          exact hK undef _ trivial (hW.store _ hr (fun p hp e => by simp only [List.mem_cons, List.not_mem_nil, or_false] at hp; rcases hp with rfl | rfl | rfl | rfl <;> first | (exact absurd e (by decide)) | (rw [h1]; exact fun h => by cases h) | (rw [h1]; exact fun h => by cases h)))
      intro r' w3 hg hW hr'
      have hkN := hW.b1 (hr' 22 (by decide))
      simp only [List.length_cons, List.length_nil, Nat.reduceAdd, List.range_succ, List.range_zero, List.nil_append, List.cons_append, List.map_cons, List.map_nil, putAll, Act.put, List.setIfInBounds_toArray, List.set_cons_succ, List.set_cons_zero]
      clear hg hW hr' FS
      obtain ⟨w0, kz, rfl⟩ := hkN
      rw [HX1.out]
      have M3 := Lib.hid ((M2.out.no kz).set q X HX2.out)
      clear kz
      go_wp2_with fail
      go_round
      case rel => exact ⟨j + 1, out.set q X, rfl, hJ32, M3.out, fun h => absurd h (by omega), fun _ => HX3.out⟩
      case measure => simp [intOf] <;> omega
    · have TR := trim_any (some ⟨w1.heap.size, 0, none⟩) N N out w2 (NatAt.of_own M2.out.own M2.out.small) (by have := HN.out; omega) (fun h => by cases h) (Nat.le_refl _) (by have := HN.out; unfold maxLen; omega)
      rw [HV.out (by omega)] at TR
      have TR := Lib.hid TR
      have KF := Lib.hid (K1.out.tr M2.out.kp)
      go_wp2_with fail
      refine TR.out.mono ?_
      rintro _ w' ⟨z, rfl, hz, kz⟩
      have FZ := Lib.hid (show IsNew w.heap.size w' z (2 ^ n) 3 from ⟨hz.1.tight (by
        have : 2 ^ n ≤ 2 ^ 64 := Nat.pow_le_pow_right (by omega) hn
        exact Nat.lt_of_le_of_lt this (by unfold BB; omega)), hz.2.mono KF.out.size⟩)
      have KZ := Lib.hid (KF.out.tr kz)
      clear hz kz
      go_wp2_with fail
      exact bodyPost_ret (v := .tuple #[z, .int .i64 0]) (by simp [results, Tryz.results75, go_sem]) rfl ⟨z, rfl, FZ.out, KZ.out⟩
end Go.Proofs.YtamjhpdgclbfgaaGreat
