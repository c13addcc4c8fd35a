/- Great numbers by limbs: Shift of 1: the walk (printed by gen_nua.py). · Great numbers by limbs: Root with exponent 2, Pow with exponent 2: walks. -/
import Derived.Test.YtlieijnhaolnhaaGreatXLibHxM
namespace Go.Proofs.YtlieijnhaolnhaaGreat
open Go.RowKit Go.Kq

theorem IsNat.one {w : World} {v : Value} {k : Nat} (h : IsNat w v 1 k) : ∃ A c, v = .slice A 1 c ∧ NatAt w A 1 [1] := by
  obtain ⟨A, n, c, l, rfl, h1, h2, h3, h4⟩ := (h.tight (k' := 1) (by unfold BB; omega)).pos
  obtain rfl : n = 1 := by have := h4.2 (by omega); omega
  have hl := h1.len
  match l, hl with
  | [x], _ =>
    simp [valN] at h2
    subst h2
    exact ⟨A, c, rfl, h1⟩
theorem limN_of_one (i : Nat) (hi : i < 32) : limN [1] (i / 32) / 2 ^ (i % 32) % 2 = if i = 0 then 1 else 0 := by
  rw [Nat.div_eq_of_lt hi, Nat.mod_eq_of_lt hi]
  rcases Nat.eq_zero_or_pos i with rfl | h
  · rfl
  · rw [if_neg (by omega)]
    show 1 / 2 ^ i % 2 = 0
    rw [Nat.div_eq_of_lt (Nat.one_lt_two_pow (by omega))]
set_option maxHeartbeats 1000000 in
set_option maxRecDepth 100000 in
theorem shift_one (v : Value) (n k : Nat) (w : World) (hv : IsNat w v 1 k) (hn : n ≤ 64) :
    Calls Tryz.prog 114 #[v, .int .i64 (n : Nat)] w fun e w' => ∃ z, e = .returned (.tuple #[z, .int .i64 0]) ∧ IsNew w.heap.size w' z (2 ^ n) 3 ∧ Kp No w w' := by
  have hBB : 0 < BB := by unfold BB; omega
  have hv1 : IsNat w v 1 300 := hv.tight (by unfold BB; omega) |>.le (by omega : (1 : Nat) ≤ 300)
  have BD := Lib.hid (fun (g : Nat) (w0 : World) (hc : w0.cell? ⟨g, 0, none⟩ = some v) (hk : Kp No w w0) => bad_is g 1 1 [(v, 1)] w0 rfl (by omega) (fun i y hy => by
    match i, hy with
    | 0, hy => simp at hy; subst hy; exact ⟨hc, hv1.no hk⟩
    | i + 1, hy => simp at hy))
  obtain ⟨A, c, rfl, ha⟩ := hv.one
  have SZ := Lib.hid (fun w0 (h : Kp No w w0) => size_num A 1 c [1] w0 (ha.no h) (by omega))
  have BT := Lib.hid (fun i w0 (h : Kp No w w0) (hi : i < 32) => bit_any A 1 c i [1] w0 (ha.no h) (by omega) (by omega))
  obtain ⟨N, hN⟩ : ∃ N, N = 512 := ⟨_, rfl⟩
  have hmk : ∀ w0 : World, (Instr.makeSlice 92 (.int .i64 512) (.int .i64 512)).run Tryz.prog w0 = .ok (.slice (some ⟨w0.heap.size, 0, none⟩) N N) (w0.alloc (.cells ((List.replicate N 0).map u32V).toArray 151)) := fun w0 => by subst hN; exact make_us 512 512 rfl (by omega) w0
  have KA := Lib.hid (Kp.alloc No w (.cells #[.slice A 1 c] 92))
  have HA0 := Lib.hid (show (w.alloc (.cells #[.slice A 1 c] 92)).cell? ⟨w.heap.size, 0, none⟩ = some (.slice A 1 c) by rw [cell_of_row _ _ _ _ _ _ (heap_alloc_new w _)]; rfl)
  have HN := Lib.hid hN
  have hn64 : (n : Int) ≤ 64 := by omega
  clear hv hv1 ha hN
  go_enter Tryz.func114, Tryz.ntmps114
  go_wp2_with fail
  refine (BD.out _ _ HA0.out KA.out).mono ?_
  rintro _ w1 ⟨rfl, rfl⟩
  clear BD HA0
  go_wp2_with fail
  refine (SZ.out _ KA.out).mono ?_
  rintro _ w1 ⟨s0, rfl, hs0, hs1, k1⟩
  have K1 := Lib.hid (KA.out.tr k1)
  have hs2 : (s0 : Int) ≤ 32 := by omega
  have g0 : IntKind.i64.wrap ((s0 : Int) + (n : Int)) = (s0 : Int) + (n : Int) := by rw [IntKind.wrap_i64]; omega
  have g1 : (s0 : Int) + (n : Int) ≤ 16384 := by omega
  clear hs0 hs1 KA k1
  go_wp2_with fail
  clear hmk g0 g1
  have K1S := Lib.hid K1.out.size
  have M0 : MulR w1 N (List.replicate N 0) (w1.alloc (.cells (Array.replicate N (u32V 0)) 151)) := by
    refine ⟨by simp, fun x hx => by rw [(List.mem_replicate.1 hx).2]; exact hBB, ?_, Kp.alloc _ _ _⟩
    have h := own_made w1 (e := 151) (n := N) (s := 1) (base := w1.heap.size) (xs := (List.replicate N 0).map u32V) (by simp) (by omega) (by have := HN.out; unfold maxLen; omega)
    simpa using h
  replace M0 := Lib.hid M0
  go_loopw [8] (fun i wr => ∃ (j : Nat) (out : List Nat), i = .int .i64 (j : Nat) ∧ j ≤ 32 ∧ MulR w1 N out wr ∧ (j = 0 → out = List.replicate N 0) ∧ (0 < j → valN BB out = 2 ^ n)) (fun i _ => (33 - intOf i).toNat)
  case atStart => exact ⟨0, List.replicate N 0, rfl, by omega, M0.out, fun _ => rfl, fun h => absurd h (by omega)⟩
  case round =>
    obtain ⟨j, out, rfl, hj, hR, hz, hV⟩ := hrel
    have HR := Lib.hid hR
    have HZ := Lib.hid hz
    have HV := Lib.hid hV
    have KR := Lib.hid (K1.out.tr hR.kp)
    clear hR hz hV
    go_wp2_with fail
    refine (SZ.out _ KR.out).mono ?_
    rintro _ w2 ⟨s, rfl, hs0, hs1, k2⟩
    have hs3 : 0 < s := by
      rcases Nat.eq_zero_or_pos s with rfl | h
      · simp [valN] at hs0
      · exact h
    have M2 := Lib.hid (HR.out.no k2)
    have K2 := Lib.hid (KR.out.tr k2)
    clear hs0 k2 HR KR
    by_cases hjs : j < s
    · have g2 : (j : Int) < (s : Int) := by omega
      have g3 : IntKind.i64.wrap ((j : Int) + (n : Int)) = ((j + n : Nat) : Int) := by rw [IntKind.wrap_i64]; omega
      have g4 : (0 : Int) ≤ ((j + n : Nat) : Int) := by omega
      have g5 : IntKind.i64.wrap ((j : Int) + 1) = (j : Int) + 1 := by rw [IntKind.wrap_i64]; omega
      have hJ32 : j < 32 := by omega
      go_wp2_with fail
      obtain ⟨q, hq⟩ : ∃ q, q = (j + n) / 32 := ⟨_, rfl⟩
      obtain ⟨e, he⟩ : ∃ e, e = (j + n) % 32 := ⟨_, rfl⟩
      obtain ⟨L, hL⟩ : ∃ L, out[q]? = some L := ⟨_, List.getElem?_eq_getElem (by have := M2.out.len; have := HN.out; omega)⟩
      have zc := own_cell M2.out.own (j := q) (u := u32V L) (by rw [List.getElem?_map, hL]; rfl)
      have zf := own_free M2.out.own q
      unfold u32V at zc
      obtain ⟨T, hT⟩ : ∃ T : Int, T = ((j + n : Nat) : Int) := ⟨_, rfl⟩
      rw [← hT] at g3 g4
      have t1 : T.tdiv 32 = (q : Int) := by rw [hT, Int.tdiv_eq_ediv_of_nonneg (by omega)]; omega
      have t2 : T.tmod 32 = (e : Int) := by rw [hT, Int.tmod_eq_emod_of_nonneg (by omega)]; omega
      have t3 : T / 32 = (q : Int) := by omega
      have t4 : T % 32 = (e : Int) := by omega
      have hqn : q < N := by have := HN.out; omega
      have he32 : e < 32 := by omega
      have hqw : IntKind.i64.wrap (q : Int) = (q : Int) := by rw [IntKind.wrap_i64]; have := HN.out; omega
      obtain ⟨bt, hbt⟩ : ∃ bt : Nat, bt = if j = 0 then 1 else 0 := ⟨_, rfl⟩
      obtain ⟨X, hX1, hX2, hX3⟩ : ∃ X : Nat, bits .or .u32 (L : Int) ((bt : Int) * 2 ^ e % 4294967296) = (X : Int) ∧ X < BB ∧ valN BB (out.set q X) = 2 ^ n := by
        have s1 := fun X => valN_set BB out q X L hL
        rcases Nat.eq_zero_or_pos j with rfl | hj0
        · obtain rfl : bt = 1 := by rw [hbt, if_pos rfl]
          obtain rfl := HZ.out rfl
          obtain rfl : L = 0 := by
            rw [List.getElem?_replicate, if_pos hqn] at hL
            injection hL with hL
            exact hL.symm
          have hp : 2 ^ e < 2 ^ 32 := Nat.pow_lt_pow_right (by omega) he32
          refine ⟨2 ^ e, ?_, hp, ?_⟩
          · have h1 : (((1 : Nat) : Int) * (2 : Int) ^ e % 4294967296) = ((2 ^ e : Nat) : Int) := by
              have h0 : ∀ P : Nat, P < 4294967296 → ((1 : Nat) : Int) * (P : Int) % 4294967296 = (P : Int) := fun P h => by omega
              rw [show (2 : Int) ^ e = ((2 ^ e : Nat) : Int) by simp, h0 _ hp]
            rw [h1, or_u32 _ _ (by omega) hp, Nat.zero_or]
          · have s2 := s1 (2 ^ e)
            have s3 := i_split n
            rw [valN_zeros] at s2
            rw [hq, he] at *
            rw [Nat.zero_add] at *
            omega
        · obtain rfl : bt = 0 := by rw [hbt, if_neg (by omega)]
          have hLs : L < BB := M2.out.small L (List.mem_of_getElem? hL)
          refine ⟨L, ?_, hLs, ?_⟩
          · have h1 : (((0 : Nat) : Int) * (2 : Int) ^ e % 4294967296) = ((0 : Nat) : Int) := by
              rw [show ((0 : Nat) : Int) = 0 from rfl, Int.zero_mul]
              rfl
            rw [h1, or_u32 _ _ (by unfold BB at hLs; omega) (by omega), Nat.or_zero]
          · have s2 := s1 L
            have s3 := HV.out hj0
            omega
      have HX1 := Lib.hid hX1
      have HX2 := Lib.hid hX2
      have HX3 := Lib.hid hX3
      have BV := Lib.hid (limN_of_one j hJ32)
      have BTJ := Lib.hid (fun (w0 : World) (h : Kp No w2 w0) => BT.out j w0 (K2.out.tr h) hJ32)
      rw [BV.out, ← hbt] at BTJ
      clear hq he hL hT hbt hX1 hX2 hX3 BV
      have FS : Stab (fun ix wz u => True) := fun ix u wz wz' kz h => trivial
      have FS := Lib.hid FS
      refine wp_region_each (fun ix u => match ix with | 0 => u = .slice (some ⟨w1.heap.size, 0, none⟩) N N | 1 => u = .int .i64 (j : Nat) | 2 => u = .int .i64 (n : Nat) | 3 => u = .int .i64 T | 4 => u = .int .i64 (q : Nat) | 5 => u = .slice (some ⟨w1.heap.size, 0, none⟩) N N | 6 => u = .int .i64 (j : Nat) | 7 => u = .int .i64 (n : Nat) | 8 => u = .int .i64 T | 9 => u = .int .i64 (q : Nat) | 10 => u = .pointer (some ⟨w1.heap.size, q, none⟩) | 11 => u = .int .u32 (L : Nat) | 12 => u = .slice A 1 c | 13 => u = .int .i64 (j : Nat) | 14 => u = .int .u32 (bt : Nat) | 15 => u = .int .i64 (j : Nat) | 16 => u = .int .i64 (n : Nat) | 17 => u = .int .i64 T | 18 => u = .int .i64 (e : Nat) | 19 => u = .int .u32 ((bt : Int) * 2 ^ e % 4294967296) | 20 => u = .int .u32 (bits .or .u32 (L : Int) ((bt : Int) * 2 ^ e % 4294967296)) | 21 => u = .pointer (some ⟨w1.heap.size, q, none⟩) | _ => True) (HvC w2 ⟨w1.heap.size, q, none⟩ (.int .u32 (bits .or .u32 (L : Int) ((bt : Int) * 2 ^ e % 4294967296))) 22 [(22, 20), (20, 11), (20, 19), (19, 14)]) (by kernel_rfl) (by kernel_rfl) (by kernel_rfl) ?_ ?_ ?_
      · exact HvC.start _ _ _ _ _
      · refine ⟨?_, ?_, ?_, ?_, ?_, ?_, ?_, ?_, ?_, ?_, ?_, ?_, ?_, ?_, ?_, ?_, ?_, ?_, ?_, ?_, ?_, ?_, ?_, trivial⟩
        · intro r a w' hf hg hW hr hd K hK
          refine wpOp_of rfl rfl ?_
          have e0 : a.tmps.getD 7 undef = .slice (some ⟨w1.heap.size, 0, none⟩) N N := hf.evalFree (by kernel_rfl)
          go_simp
          exact hK _ _ rfl (hW.upd 0 _ (by decide) (by decide))
        · intro r a w' hf hg hW hr hd K hK
          refine wpOp_of rfl rfl ?_
          have e0 : a.tmps.getD 8 undef = .int .i64 (j : Nat) := hf.evalFree (by kernel_rfl)
          go_simp
          exact hK _ _ rfl (hW.upd 1 _ (by decide) (by decide))
        · intro r a w' hf hg hW hr hd K hK
          refine wpOp_of rfl rfl ?_
          have e0 : a.tmps.getD 1 undef = .int .i64 (n : Nat) := hf.evalFree (by kernel_rfl)
          go_simp
          exact hK _ _ rfl (hW.upd 2 _ (by decide) (by decide))
        · intro r a w' hf hg hW hr hd K hK
          refine wpOp_of rfl rfl ?_
          refine hf.depE hg hd 1 51 (by kernel_rfl) fun u0 e0 g0 h0 => ?_
          replace g0 : u0 = .int .i64 (j : Nat) := g0
          subst g0
          refine hf.depE hg hd 2 52 (by kernel_rfl) fun u1 e1 g1 h1 => ?_
          replace g1 : u1 = .int .i64 (n : Nat) := g1
          subst g1
          go_simp
          exact hK _ _ rfl (hW.upd 3 _ (by decide) (by decide))
        · intro r a w' hf hg hW hr hd K hK
          refine wpOp_of rfl rfl ?_
          refine hf.depE hg hd 3 53 (by kernel_rfl) fun u0 e0 g0 h0 => ?_
          replace g0 : u0 = .int .i64 T := g0
          subst g0
          go_simp
          exact hK _ _ rfl (hW.upd 4 _ (by decide) (by decide))
        · intro r a w' hf hg hW hr hd K hK
          refine wpOp_of rfl rfl ?_
          have e0 : a.tmps.getD 7 undef = .slice (some ⟨w1.heap.size, 0, none⟩) N N := hf.evalFree (by kernel_rfl)
          go_simp
          exact hK _ _ rfl (hW.upd 5 _ (by decide) (by decide))
        · intro r a w' hf hg hW hr hd K hK
          refine wpOp_of rfl rfl ?_
          have e0 : a.tmps.getD 8 undef = .int .i64 (j : Nat) := hf.evalFree (by kernel_rfl)
          go_simp
          exact hK _ _ rfl (hW.upd 6 _ (by decide) (by decide))
        · intro r a w' hf hg hW hr hd K hK
          refine wpOp_of rfl rfl ?_
          have e0 : a.tmps.getD 1 undef = .int .i64 (n : Nat) := hf.evalFree (by kernel_rfl)
          go_simp
          exact hK _ _ rfl (hW.upd 7 _ (by decide) (by decide))
        · intro r a w' hf hg hW hr hd K hK
          refine wpOp_of rfl rfl ?_
          refine hf.depE hg hd 6 56 (by kernel_rfl) fun u0 e0 g0 h0 => ?_
          replace g0 : u0 = .int .i64 (j : Nat) := g0
          subst g0
          refine hf.depE hg hd 7 57 (by kernel_rfl) fun u1 e1 g1 h1 => ?_
          replace g1 : u1 = .int .i64 (n : Nat) := g1
          subst g1
          go_simp
          exact hK _ _ rfl (hW.upd 8 _ (by decide) (by decide))
        · intro r a w' hf hg hW hr hd K hK
          refine wpOp_of rfl rfl ?_
          refine hf.depE hg hd 8 58 (by kernel_rfl) fun u0 e0 g0 h0 => ?_
          replace g0 : u0 = .int .i64 T := g0
          subst g0
          go_simp
          exact hK _ _ rfl (hW.upd 9 _ (by decide) (by decide))
        · intro r a w' hf hg hW hr hd K hK
          refine wpOp_of rfl rfl ?_
          refine hf.depE hg hd 5 55 (by kernel_rfl) fun u0 e0 g0 h0 => ?_
          replace g0 : u0 = .slice (some ⟨w1.heap.size, 0, none⟩) N N := g0
          subst g0
          refine hf.depE hg hd 9 59 (by kernel_rfl) fun u1 e1 g1 h1 => ?_
          replace g1 : u1 = .int .i64 (q : Nat) := g1
          subst g1
          go_simp
          exact hK _ _ rfl (hW.upd 10 _ (by decide) (by decide))
        · intro r a w' hf hg hW hr hd K hK
          refine wpOp_of rfl rfl ?_
          refine hf.depE hg hd 10 60 (by kernel_rfl) fun u0 e0 g0 h0 => ?_
          replace g0 : u0 = .pointer (some ⟨w1.heap.size, q, none⟩) := g0
          subst g0
          have f20 := hW.back (x := 20) (y := 11) (by decide) hr
          have f22 := hW.back (x := 22) (y := 20) (by decide) f20
          have kz := hW.b0 f22
          have zc2 := kz.cell zc id
          go_simp
          exact hK _ _ rfl (hW.upd 11 _ (by decide) (by decide))
        · intro r a w' hf hg hW hr hd K hK
          refine wpOp_of rfl rfl ?_
          have e0 : a.tmps.getD 0 undef = .slice A 1 c := hf.evalFree (by kernel_rfl)
          go_simp
          exact hK _ _ rfl (hW.upd 12 _ (by decide) (by decide))
        · intro r a w' hf hg hW hr hd K hK
          refine wpOp_of rfl rfl ?_
          have e0 : a.tmps.getD 8 undef = .int .i64 (j : Nat) := hf.evalFree (by kernel_rfl)
          go_simp
          exact hK _ _ rfl (hW.upd 13 _ (by decide) (by decide))
        · intro r a w' hf hg hW hr hd K hK
          refine wpOp_of rfl rfl ?_
          refine hf.depE hg hd 12 62 (by kernel_rfl) fun u0 e0 g0 h0 => ?_
          replace g0 : u0 = .slice A 1 c := g0
          subst g0
          refine hf.depE hg hd 13 63 (by kernel_rfl) fun u1 e1 g1 h1 => ?_
          replace g1 : u1 = .int .i64 (j : Nat) := g1
          subst g1
          have f19 := hW.back (x := 19) (y := 14) (by decide) hr
          have f20 := hW.back (x := 20) (y := 19) (by decide) f19
          have f22 := hW.back (x := 22) (y := 20) (by decide) f20
          have kz := hW.b0 f22
          go_simp
          with_reducible refine (BTJ.out _ kz).mono ?_
          rintro e w'' ⟨rfl, rfl⟩
          exact hK _ _ rfl (hW.upd 14 _ (by decide) (by decide))
        · intro r a w' hf hg hW hr hd K hK
          refine wpOp_of rfl rfl ?_
          have e0 : a.tmps.getD 8 undef = .int .i64 (j : Nat) := hf.evalFree (by kernel_rfl)
          go_simp
          exact hK _ _ rfl (hW.upd 15 _ (by decide) (by decide))
        · intro r a w' hf hg hW hr hd K hK
          refine wpOp_of rfl rfl ?_
          have e0 : a.tmps.getD 1 undef = .int .i64 (n : Nat) := hf.evalFree (by kernel_rfl)
          go_simp
          exact hK _ _ rfl (hW.upd 16 _ (by decide) (by decide))
        · intro r a w' hf hg hW hr hd K hK
          refine wpOp_of rfl rfl ?_
          refine hf.depE hg hd 15 65 (by kernel_rfl) fun u0 e0 g0 h0 => ?_
          replace g0 : u0 = .int .i64 (j : Nat) := g0
          subst g0
          refine hf.depE hg hd 16 66 (by kernel_rfl) fun u1 e1 g1 h1 => ?_
          replace g1 : u1 = .int .i64 (n : Nat) := g1
          subst g1
          go_simp
          exact hK _ _ rfl (hW.upd 17 _ (by decide) (by decide))
        · intro r a w' hf hg hW hr hd K hK
          refine wpOp_of rfl rfl ?_
          refine hf.depE hg hd 17 67 (by kernel_rfl) fun u0 e0 g0 h0 => ?_
          replace g0 : u0 = .int .i64 T := g0
          subst g0
          go_simp
          exact hK _ _ rfl (hW.upd 18 _ (by decide) (by decide))
        · intro r a w' hf hg hW hr hd K hK
          refine wpOp_of rfl rfl ?_
          refine hf.depE hg hd 14 64 (by kernel_rfl) fun u0 e0 g0 h0 => ?_
          replace g0 : u0 = .int .u32 (bt : Nat) := g0
          subst g0
          refine hf.depE hg hd 18 68 (by kernel_rfl) fun u1 e1 g1 h1 => ?_
          replace g1 : u1 = .int .i64 (e : Nat) := g1
          subst g1
          go_simp
          exact hK _ _ rfl (hW.updL 19 _ (by decide) (fun p hp e => by simp only [List.mem_cons, List.not_mem_nil, or_false] at hp; rcases hp with rfl | rfl | rfl | rfl <;> first | (exact absurd e (by decide)) | (rw [h0]; exact fun h => by cases h) | (rw [h0]; exact fun h => by cases h)))
        · intro r a w' hf hg hW hr hd K hK
          refine wpOp_of rfl rfl ?_
          refine hf.depE hg hd 11 61 (by kernel_rfl) fun u0 e0 g0 h0 => ?_
          replace g0 : u0 = .int .u32 (L : Nat) := g0
          subst g0
          refine hf.depE hg hd 19 69 (by kernel_rfl) fun u1 e1 g1 h1 => ?_
          replace g1 : u1 = .int .u32 ((bt : Int) * 2 ^ e % 4294967296) := g1
          subst g1
          go_simp
          exact hK _ _ rfl (hW.updL 20 _ (by decide) (fun p hp e => by simp only [List.mem_cons, List.not_mem_nil, or_false] at hp; rcases hp with rfl | rfl | rfl | rfl <;> first | (exact absurd e (by decide)) | (rw [h0]; exact fun h => by cases h) | (rw [h1]; exact fun h => by cases h)))
        · intro r a w' hf hg hW hr hd K hK
          refine wpOp_of rfl rfl ?_
          refine hf.depE hg hd 0 50 (by kernel_rfl) fun u0 e0 g0 h0 => ?_
          replace g0 : u0 = .slice (some ⟨w1.heap.size, 0, none⟩) N N := g0
          subst g0
          refine hf.depE hg hd 4 54 (by kernel_rfl) fun u1 e1 g1 h1 => ?_
          replace g1 : u1 = .int .i64 (q : Nat) := g1
          subst g1
          go_simp
          exact hK _ _ rfl (hW.upd 21 _ (by decide) (by decide))
        · intro r a w' hf hg hW hr hd K hK
          refine wpOp_of rfl rfl ?_
          refine hf.depE hg hd 21 71 (by kernel_rfl) fun u0 e0 g0 h0 => ?_
          replace g0 : u0 = .pointer (some ⟨w1.heap.size, q, none⟩) := g0
          subst g0
          refine hf.depE hg hd 20 70 (by kernel_rfl) fun u1 e1 g1 h1 => ?_
          replace g1 : u1 = .int .u32 (bits .or .u32 (L : Int) ((bt : Int) * 2 ^ e % 4294967296)) := g1
          subst g1
          have kz := hW.b0 hr
          have zc2 := kz.cell zc id
          have zf2 := own_free (M2.out.no kz).own q
          go_simp
          exact hK undef _ trivial (hW.store _ hr (fun p hp e => by simp only [List.mem_cons, List.not_mem_nil, or_false] at hp; rcases hp with rfl | rfl | rfl | rfl <;> first | (exact absurd e (by decide)) | (rw [h1]; exact fun h => by cases h) | (rw [h1]; exact fun h => by cases h)))
      intro r' w3 hg hW hr'
      have hkN := hW.b1 (hr' 22 (by decide))
      simp only [List.length_cons, List.length_nil, Nat.reduceAdd, List.range_succ, List.range_zero, List.nil_append, List.cons_append, List.map_cons, List.map_nil, putAll, Act.put, List.setIfInBounds_toArray, List.set_cons_succ, List.set_cons_zero, Option.getD_some]
      clear hg hW hr' FS
      obtain ⟨w0, kz, rfl⟩ := hkN
      rw [HX1.out]
      have M3 := Lib.hid ((M2.out.no kz).set q X HX2.out)
      clear kz
      go_wp2_with fail
      go_round
      case rel => exact ⟨j + 1, out.set q X, rfl, hJ32, M3.out, fun h => absurd h (by omega), fun _ => HX3.out⟩
      case measure => simp [intOf] <;> omega
    · have TR := trim_any (some ⟨w1.heap.size, 0, none⟩) N N out w2 (NatAt.of_own M2.out.own M2.out.small) (by have := HN.out; omega) (fun h => by cases h) (Nat.le_refl _) (by have := HN.out; unfold maxLen; omega)
      rw [HV.out (by omega)] at TR
      have TR := Lib.hid TR
      have KF := Lib.hid (K1.out.tr M2.out.kp)
      go_wp2_with fail
      refine TR.out.mono ?_
      rintro _ w' ⟨z, rfl, hz, kz⟩
      have FZ := Lib.hid (show IsNew w.heap.size w' z (2 ^ n) 3 from ⟨hz.1.tight (by
        have : 2 ^ n ≤ 2 ^ 64 := Nat.pow_le_pow_right (by omega) hn
        exact Nat.lt_of_le_of_lt this (by unfold BB; omega)), hz.2.mono KF.out.size⟩)
      have KZ := Lib.hid (KF.out.tr kz)
      clear hz kz
      go_wp2_with fail
      exact bodyPost_ret (v := .tuple #[z, .int .i64 0]) (by simp [results, Tryz.results114, go_sem]) rfl ⟨z, rfl, FZ.out, KZ.out⟩
end Go.Proofs.YtlieijnhaolnhaaGreat

namespace Go.Proofs.YtlieijnhaolnhaaGreat
open Go.RowKit Go.Kq

theorem sq_lt_of {r P x : Nat} (h : x < (r + 2 * P) * (r + 2 * P)) (h2 : ¬ x < (r + P) * (r + P)) : x < (r + P + P) * (r + P + P) := by
  rw [show r + P + P = r + 2 * P by omega]
  exact h
theorem lt_of_sq {r B x : Nat} (h : r * r ≤ x) (hx : x < B * B) : r < B :=
  Nat.lt_of_not_le fun hle => by
    have := Nat.mul_le_mul hle hle
    omega
set_option maxHeartbeats 1000000 in
set_option maxRecDepth 100000 in
theorem root_two (v : Value) (x k : Nat) (w : World) (hv : IsNat w v x k) (hx : x < 18446744073709551616) :
    Calls Tryz.prog 73 #[v, .int .i64 2] w fun e w' => ∃ z r, e = .returned (.tuple #[z, .int .i64 0]) ∧ IsNat w' z r 3 ∧ r * r ≤ x ∧ x < (r + 1) * (r + 1) ∧ Kp No w w' := by
  have hv2 : IsNat w v x 2 := hv.tight (by unfold BB; omega)
  have hv1 : IsNat w v x 300 := hv2.le (by omega)
  have BD := Lib.hid (fun (g : Nat) (w0 : World) (hc : w0.cell? ⟨g, 0, none⟩ = some v) (hk : Kp No w w0) => bad_is g 1 1 [(v, x)] w0 rfl (by omega) (fun i y hy => by
    match i, hy with
    | 0, hy => simp at hy; subst hy; exact ⟨hc, hv1.no hk⟩
    | i + 1, hy => simp at hy))
  have HV := Lib.hid hv2
  have OR := Lib.hid (fun (z : Value) (y : Nat) (w0 : World) (hz : IsNat w0 z y 10) (hk : Kp No w w0) => order_is z v y x 10 2 w0 hz (hv2.no hk) (by omega) (by omega))
  obtain ⟨A, n, c, l, rfl, ha, hl, hn, _⟩ := hv2.pos
  have SZ := Lib.hid (fun w0 (h : Kp No w w0) => size_num A n c l w0 (ha.no h) (by omega))
  rw [hl] at SZ
  have KA := Lib.hid (Kp.alloc No w (.cells #[.slice A n c] 92))
  have HA0 := Lib.hid (show (w.alloc (.cells #[.slice A n c] 92)).cell? ⟨w.heap.size, 0, none⟩ = some (.slice A n c) by rw [cell_of_row _ _ _ _ _ _ (heap_alloc_new w _)]; rfl)
  clear hv hv1 hv2 ha hl
  go_enter Tryz.func73, Tryz.ntmps73
  go_wp2_with fail
  refine (BD.out _ _ HA0.out KA.out).mono ?_
  rintro _ w1 ⟨rfl, rfl⟩
  clear BD HA0
  go_wp2_with fail
  refine (SZ.out _ KA.out).mono ?_
  rintro _ w1 ⟨s, rfl, hs0, hs1, k1⟩
  have K1 := Lib.hid (KA.out.tr k1)
  have t1 : (s : Int).tdiv 2 = ((s / 2 : Nat) : Int) := by rw [Int.tdiv_eq_ediv_of_nonneg (by omega)]; omega
  have t2 : (s : Int) / 2 = ((s / 2 : Nat) : Int) := by omega
  have t3 : IntKind.i64.wrap ((s / 2 : Nat) : Int) = ((s / 2 : Nat) : Int) := by rw [IntKind.wrap_i64]; omega
  have hm : s / 2 ≤ 32 := by omega
  have HS := Lib.hid (show x < (0 + 2 ^ (s / 2 + 1)) * (0 + 2 ^ (s / 2 + 1)) by
    rw [Nat.zero_add, ← Nat.pow_add]
    exact Nat.lt_of_lt_of_le hs0 (Nat.pow_le_pow_right (by omega) (by omega)))
  clear hs0 hs1 k1 KA
  obtain ⟨M, hM⟩ : ∃ M, M = s / 2 := ⟨_, rfl⟩
  rw [← hM] at t1 t2 t3 hm HS
  clear hM
  go_wp2_with fail
  go_loopw [7, 8] (fun r i wr => ∃ (m R : Nat) (rv : Value), rv = r ∧ i = .int .i64 ((m : Int) - 1) ∧ m ≤ 33 ∧ IsNat wr r R 3 ∧ R * R ≤ x ∧ x < (R + 2 ^ m) * (R + 2 ^ m) ∧ Kp No w wr) (fun _ i _ => (intOf i + 1).toNat)
  case atStart => exact ⟨M + 1, 0, _, rfl, by congr 1; omega, by omega, (IsNat.nil _).le (by omega), by omega, HS.out, K1.out⟩
  case round =>
    obtain ⟨m, R, r, rfl, rfl, hm, hr, hR, hR2, hkp⟩ := hrel
    have HR := Lib.hid hr
    have H1 := Lib.hid hR
    have H2 := Lib.hid hR2
    have KP := Lib.hid hkp
    clear hr hR hR2 hkp
    by_cases hpos : 0 < m
    · obtain ⟨i, rfl⟩ : ∃ i, m = i + 1 := ⟨m - 1, by omega⟩
      rw [show (((i + 1 : Nat) : Int) - 1) = (i : Int) by omega]
      have hi0 : (0 : Int) ≤ (i : Int) := by omega
      have hi1 : IntKind.i64.wrap ((i : Int) - 1) = (i : Int) - 1 := by rw [IntKind.wrap_i64]; omega
      have O1 := Lib.hid (of_any 1 wr (by omega))
      go_wp2_with fail
      refine O1.out.mono ?_
      rintro _ w2 ⟨o1, rfl, ho1, k2⟩
      have K2 := Lib.hid (KP.out.tr k2)
      have HR2 := Lib.hid (HR.out.no k2)
      have S1 := Lib.hid (shift_one o1 i 2 w2 ho1.1 (by omega))
      clear ho1 k2 O1
      go_wp2_with fail
      refine S1.out.mono ?_
      rintro _ w3 ⟨o2, rfl, ho2, k3⟩
      have K3 := Lib.hid (K2.out.tr k3)
      have P1 := Lib.hid (plus_new r o2 R (2 ^ i) 3 3 7 w3 (HR2.out.no k3) ho2.1 (by omega) (by omega) (by omega))
      have HR3 := Lib.hid (HR2.out.no k3)
      clear ho2 k3 S1
      go_wp2_with fail
      refine P1.out.mono ?_
      rintro _ w4 ⟨y, rfl, hy, k4⟩
      have K4 := Lib.hid (K3.out.tr k4)
      have HR4 := Lib.hid (HR3.out.no k4)
      have hb : R + 2 ^ i < BB ^ 3 := by
        have h1 : R < 4294967296 := lt_of_sq H1.out (by omega)
        have h2 : 2 ^ i ≤ 2 ^ 32 := Nat.pow_le_pow_right (by omega) (by omega)
        have h3 : BB ^ 3 = 79228162514264337593543950336 := by unfold BB; rfl
        omega
      have HY := Lib.hid (hy.1.tight hb)
      have W1 := Lib.hid (power_two y (R + 2 ^ i) 3 w4 HY.out (by omega))
      clear hy k4 P1 hb
      go_wp2_with fail
      refine W1.out.mono ?_
      rintro _ w5 ⟨z, rfl, hz, k5⟩
      have K5 := Lib.hid (K4.out.tr k5)
      have HR5 := Lib.hid (HR4.out.no k5)
      have HY5 := Lib.hid (HY.out.no k5)
      have OZ := Lib.hid (OR.out z _ w5 hz.1 K5.out)
      clear hz k5 W1
      go_wp2_with fail
      by_cases hc : (R + 2 ^ i) * (R + 2 ^ i) ≤ x
      · have hz0 := cmpN_le hc
        obtain ⟨cc, hcc⟩ : ∃ c : Int, cmpN ((R + 2 ^ i) * (R + 2 ^ i)) x = c := ⟨_, rfl⟩
        rw [hcc] at OZ hz0
        clear hcc
        refine OZ.out.mono ?_
        rintro _ w6 ⟨rfl, rfl⟩
        have H3 := Lib.hid hc
        have H4 := Lib.hid (show x < (R + 2 ^ i + 2 ^ i) * (R + 2 ^ i + 2 ^ i) by
          have h := H2.out
          rw [Nat.pow_succ, show R + 2 ^ i * 2 = R + 2 ^ i + 2 ^ i by omega] at h
          exact h)
        clear hc
        go_wp2_with fail
        go_round
        case rel => exact ⟨i, R + 2 ^ i, y, rfl, rfl, by omega, HY5.out, H3.out, H4.out, K5.out⟩
        case measure => simp [intOf] <;> omega
      · have hz0 := cmpN_gt (show x < (R + 2 ^ i) * (R + 2 ^ i) by omega)
        obtain ⟨cc, hcc⟩ : ∃ c : Int, cmpN ((R + 2 ^ i) * (R + 2 ^ i)) x = c := ⟨_, rfl⟩
        rw [hcc] at OZ hz0
        clear hcc
        refine OZ.out.mono ?_
        rintro _ w6 ⟨rfl, rfl⟩
        have H4 := Lib.hid (show x < (R + 2 ^ i) * (R + 2 ^ i) by omega)
        clear hc
        go_wp2_with fail
        go_round
        case rel => exact ⟨i, R, r, rfl, rfl, by omega, HR5.out, H1.out, H4.out, K5.out⟩
        case measure => simp [intOf] <;> omega
    · obtain rfl : m = 0 := by omega
      go_wp2_with fail
      exact bodyPost_ret (v := .tuple #[r, .int .i64 0]) (by simp [results, Tryz.results73, go_sem]) rfl ⟨r, R, rfl, HR.out, H1.out, by simpa using H2.out, KP.out⟩
set_option maxHeartbeats 1000000 in
set_option maxRecDepth 100000 in
theorem pow_two (v : Value) (x k : Nat) (w : World) (hv : IsNat w v x k) (hk : k ≤ 150) :
    Calls Tryz.prog 75 #[v, .int .i64 2] w fun e w' => ∃ z, e = .returned (.tuple #[z, .int .i64 0]) ∧ IsNat w' z (x * x) (2 * k + 4) ∧ Kp No w w' := by
  have hv1 : IsNat w v x 300 := hv.le (by omega)
  have BD := Lib.hid (fun (g : Nat) (w0 : World) (hc : w0.cell? ⟨g, 0, none⟩ = some v) (hk : Kp No w w0) => bad_is g 1 1 [(v, x)] w0 rfl (by omega) (fun i y hy => by
    match i, hy with
    | 0, hy => simp at hy; subst hy; exact ⟨hc, hv1.no hk⟩
    | i + 1, hy => simp at hy))
  have PW := Lib.hid (fun (w0 : World) (hk0 : Kp No w w0) => power_two v x k w0 (hv.no hk0) hk)
  obtain ⟨A, n, c, l, rfl, _⟩ := hv.pos
  have KA := Lib.hid (Kp.alloc No w (.cells #[.slice A n c] 92))
  have HA0 := Lib.hid (show (w.alloc (.cells #[.slice A n c] 92)).cell? ⟨w.heap.size, 0, none⟩ = some (.slice A n c) by rw [cell_of_row _ _ _ _ _ _ (heap_alloc_new w _)]; rfl)
  clear hv hv1
  go_enter Tryz.func75, Tryz.ntmps75
  go_wp2_with fail
  refine (BD.out _ _ HA0.out KA.out).mono ?_
  rintro _ w1 ⟨rfl, rfl⟩
  clear BD HA0
  go_wp2_with fail
  refine (PW.out _ KA.out).mono ?_
  rintro _ w2 ⟨z, rfl, hz, k2⟩
  have HZ := Lib.hid hz.1
  have K2 := Lib.hid (KA.out.tr k2)
  clear hz k2
  go_wp2_with fail
  exact bodyPost_ret (v := .tuple #[z, .int .i64 0]) (by simp [results, Tryz.results75, go_sem]) rfl ⟨z, rfl, HZ.out, K2.out⟩
end Go.Proofs.YtlieijnhaolnhaaGreat
