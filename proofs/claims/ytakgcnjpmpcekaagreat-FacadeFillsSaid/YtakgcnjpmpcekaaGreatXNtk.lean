/- Great numbers by limbs: Valid, bad, Small: walks. -/
import Derived.Test.YtakgcnjpmpcekaaGreatXNtjM
namespace Go.Proofs.YtakgcnjpmpcekaaGreat
open Go.RowKit Go.Kq

theorem IsNat.top {w : World} {v : Value} {N k : Nat} (h : IsNat w v N k) : ∃ A n c l, v = .slice A n c ∧ NatAt w A n l ∧ valN BB l = N ∧ n ≤ k ∧ ∀ j, n = j + 1 → ∃ y, l[j]? = some y ∧ y ≠ 0 := by
  obtain ⟨A, n, c, l, h1, h2, h3, h4, h5, h6⟩ := h
  refine ⟨A, n, c, l, h1, h2, h3, h4, fun j hj => ?_⟩
  have hl := h2.len
  obtain ⟨y, hy⟩ : ∃ y, l[j]? = some y := ⟨_, List.getElem?_eq_getElem (by omega)⟩
  refine ⟨y, hy, fun h0 => ?_⟩
  subst h0
  have e := valN_take BB l j 0 hy
  rw [List.take_of_length_le (by omega), h3] at e
  have g := valN_lt (show 0 < BB by unfold BB; omega) (l.take j) fun x hx => h2.small x (List.mem_of_mem_take hx)
  rw [List.length_take, Nat.min_eq_left (by omega)] at g
  have := h6 j hj
  omega
set_option maxHeartbeats 1000000 in
theorem valid_is (v : Value) (N k : Nat) (w : World) (h : IsNat w v N k) (hk : k ≤ 300) :
    Calls Tryz.prog 93 #[v] w fun e w' => e = .returned (.bool true) ∧ w = w' := by
  obtain ⟨A, n, c, l, rfl, h1, hN, h3, h5⟩ := h.top
  clear h
  rcases n with _ | j
  · clear h1 h5
    go_enter Tryz.func93, Tryz.ntmps93
    go_wp2_with fail
    go_ret
    exact ⟨rfl, rfl⟩
  · obtain ⟨y, hy, hy0⟩ := h5 j rfl
    obtain ⟨b, o, rfl, hb, c0⟩ := h1.at_ j y hy
    have hne := Lib.hid (show ((y : Int) != 0) = true from bne_iff_ne.2 (by omega))
    have g0 : ((j + 1 : Nat) : Int) = (j : Int) + 1 := by omega
    have g1 : (((j : Int) + 1) == 0) = false := by rw [beq_eq_false_iff_ne]; omega
    have g2 : IntKind.i64.wrap (j : Int) = (j : Int) := by rw [IntKind.wrap_i64]; omega
    have g4 : (0 : Int) ≤ (j : Int) := by omega
    have g5 : (j : Int) < (j : Int) + 1 := by omega
    have g6 : (j : Int) + 1 ≤ 512 := by omega
    clear h1 h5 hy hy0 hN
    go_enter Tryz.func93, Tryz.ntmps93
    go_wp2_with fail
    go_ret
    exact ⟨ret_bool hne.out, rfl⟩
set_option maxHeartbeats 1000000 in
theorem bad_is (b n c : Nat) (vs : List (Value × Nat)) (w : World) (hl : vs.length = n) (hn : n ≤ 100) (hc : ∀ (i : Nat) x, vs[i]? = some x → w.cell? ⟨b, i, none⟩ = some x.1 ∧ IsNat w x.1 x.2 300) :
    Calls Tryz.prog 99 #[.slice (some ⟨b, 0, none⟩) n c] w fun e w' => e = .returned (.int .i64 0) ∧ w = w' := by
  have HC := Lib.hid hc
  clear hc
  go_enter Tryz.func99, Tryz.ntmps99
  go_wp2_with fail
  go_loop [3] (fun s => ∃ k : Nat, k ≤ n ∧ s = .int .i64 k) (fun s => n - (intOf s).toNat)
  case atStart => exact ⟨0, by omega, rfl⟩
  case round =>
    obtain ⟨k, hk, rfl⟩ := hrel
    by_cases hlt : k < n
    · obtain ⟨x, hx⟩ : ∃ x, vs[k]? = some x := ⟨_, List.getElem?_eq_getElem (by omega)⟩
      obtain ⟨c0, h0⟩ := HC.out k x hx
      obtain ⟨A, m, cc, l, he, _, _, h3, _⟩ := h0.top
      rw [he] at c0
      have hm : (m : Int) ≤ 300 := by omega
      clear hx h0 he
      go_wp2_with fail
      go_round
      case rel => exact ⟨k + 1, by omega, by go_num⟩
      case measure => simp [intOf] <;> omega
    · obtain rfl : k = n := by omega
      have hkk : ¬ ((k : Int) < (k : Int)) := by omega
      go_wp2_with fail
      go_loop [4] (fun s => ∃ j : Nat, j ≤ k ∧ s = .int .i64 j) (fun s => k - (intOf s).toNat)
      case atStart => exact ⟨0, by omega, rfl⟩
      case round =>
        obtain ⟨j, hj, rfl⟩ := hrel
        by_cases hlt2 : j < k
        · obtain ⟨x, hx⟩ : ∃ x, vs[j]? = some x := ⟨_, List.getElem?_eq_getElem (by omega)⟩
          obtain ⟨c0, h0⟩ := HC.out j x hx
          have VA := Lib.hid (valid_is x.1 x.2 300 w h0 (by omega))
          obtain ⟨x1, x2⟩ := x
          simp only at c0 VA
          clear hx h0
          go_wp2_with fail
          refine VA.out.mono ?_
          rintro _ w2 ⟨rfl, rfl⟩
          go_wp2_with fail
          go_round
          case rel => exact ⟨j + 1, by omega, by go_num⟩
          case measure => simp [intOf] <;> omega
        · obtain rfl : j = k := by omega
          go_wp2_with fail
          go_ret
          exact ⟨rfl, rfl⟩
theorem valN_two {l : List Nat} (h : l.length ≤ 2) : valN BB l = limN l 1 * BB + limN l 0 := by
  match l, h with
  | [], _ => rfl
  | [x], _ => simp [valN, limN]
  | [x, y], _ =>
    simp only [valN, limN, List.getD_cons_zero, List.getD_cons_succ, Nat.mul_zero, Nat.add_zero]
    rw [Nat.mul_comm BB y, Nat.add_comm]
/-- What Small gives. -/
def smallV (x : Nat) : Value := if x < 18446744073709551616 then .tuple #[.int .u64 (x : Nat), .int .i64 0] else .tuple #[.int .u64 0, .int .i64 7]
set_option maxHeartbeats 1000000 in
theorem small_is (v : Value) (x k : Nat) (w : World) (h : IsNat w v x k) (hk : k ≤ 300) :
    Calls Tryz.prog 87 #[v] w fun e w' => e = .returned (smallV x) ∧ Kp No w w' := by
  have BD := Lib.hid (fun (g : Nat) (w0 : World) (hc : w0.cell? ⟨g, 0, none⟩ = some v) (hk : Kp No w w0) => bad_is g 1 1 [(v, x)] w0 rfl (by omega) (fun i y hy => by
    match i, hy with
    | 0, hy => simp at hy; subst hy; exact ⟨hc, (h.no hk).le (by omega)⟩
    | i + 1, hy => simp at hy))
  have LB := Lib.hid (fun w0 (hk : Kp No w w0) => h.no hk)
  obtain ⟨A, n, c, l, rfl, h1, hN, h3, h4, h5⟩ := h
  have LM := Lib.hid (fun i w0 (hk : Kp No w w0) => limb_any A n c i l w0 (h1.no hk) (by omega))
  have hll := h1.len
  have hsm := limN_lt (show 0 < BB by unfold BB; omega) h1.small
  by_cases h2 : n ≤ 2
  · have hv := valN_two (l := l) (by omega)
    rw [hN] at hv
    have s0 := hsm 0
    have s1 := hsm 1
    have hx : x < 18446744073709551616 := by unfold BB at s0 s1 hv; omega
    unfold smallV
    rw [if_pos hx]
    have L0 := fun w0 hk => LM.out 0 w0 hk
    have L1 := fun w0 hk => LM.out 1 w0 hk
    generalize limN l 0 = p at *
    generalize limN l 1 = q at *
    obtain ⟨X, hX⟩ : ∃ X : Int, (x : Int) = X := ⟨_, rfl⟩
    rw [hX]
    have w1 : IntKind.u64.wrap ((q : Int) * 4294967296) = (q : Int) * 4294967296 := by unfold BB at s1; rw [IntKind.wrap_u64]; omega
    have w2 : IntKind.u64.wrap ((q : Int) * 4294967296 + (p : Int)) = X := by unfold BB at s0 s1 hv; rw [IntKind.wrap_u64]; omega
    have L0 := Lib.hid L0
    have L1 := Lib.hid L1
    have hnI : (n : Int) ≤ 2 := by omega
    clear hv s0 s1 hX hx hN h4 h5 h1 hll hsm LM LB h2 h3
    generalize ((p : Nat) : Int) = P at *
    generalize ((q : Nat) : Int) = Q at *
    go_enter Tryz.func87, Tryz.ntmps87
    generalize hB : (4294967296 : Int) = B at *
    have HB := Lib.hid hB
    clear hB
    go_wp2_with fail
    have KA := Kp.alloc No w (.cells #[.slice A n c] 87)
    refine (BD.out w.heap.size _ (by rw [cell_of_row _ _ _ _ _ _ (heap_alloc_new w _)]; rfl) KA).mono ?_
    rintro _ w2 ⟨rfl, rfl⟩
    have KA := Lib.hid KA
    generalize w.alloc (.cells #[.slice A n c] 87) = wa at *
    go_wp2_with fail
    refine (L1.out wa KA.out).mono ?_
    rintro _ w3 ⟨rfl, rfl⟩
    go_wp2_with fail
    refine (L0.out w3 KA.out).mono ?_
    rintro _ w4 ⟨rfl, rfl⟩
    go_wp2_with fail
    refine bodyPost_ret (v := .tuple #[.int .u64 X, .int .i64 0]) (by simp [results, Tryz.results87, go_sem]) rfl ⟨rfl, KA.out⟩
  · have hx : ¬ x < 18446744073709551616 := by
      obtain ⟨j, rfl⟩ : ∃ j, n = j + 3 := ⟨n - 3, by omega⟩
      have g1 := h5 (j + 2) rfl
      have g2 : BB ^ 2 ≤ BB ^ (j + 2) := Nat.pow_le_pow_right (by unfold BB; omega) (by omega)
      have g3 : BB ^ 2 = 18446744073709551616 := rfl
      omega
    unfold smallV
    rw [if_neg hx]
    have hnI : (2 : Int) < (n : Int) := by omega
    clear hN h4 h5 h1 hll hsm LM LB h2 h3 hx
    go_enter Tryz.func87, Tryz.ntmps87
    go_wp2_with fail
    have KA := Kp.alloc No w (.cells #[.slice A n c] 87)
    refine (BD.out w.heap.size _ (by rw [cell_of_row _ _ _ _ _ _ (heap_alloc_new w _)]; rfl) KA).mono ?_
    rintro _ w2 ⟨rfl, rfl⟩
    go_wp2_with fail
    refine bodyPost_ret (v := .tuple #[.int .u64 0, .int .i64 7]) (by simp [results, Tryz.results87, go_sem]) rfl ⟨rfl, KA⟩
end Go.Proofs.YtakgcnjpmpcekaaGreat
