/- Chapter 14: the walk of members. -/
import Derived.Test.YtjjecadfcndkaaaRg2
import Derived.Test.YtjjecadfcndkaaaPrv
import Derived.Laws.BitsLemmas
namespace Go.Proofs.Ytjjecadfcndkaaa
open Go.RowKit Go.Kq Go.Flow

def bitR (b v : Nat) : Bool := b.testBit v
theorem wraps_i64 (n : Int) (h₀ : 0 ≤ n) (h₁ : n < 2 ^ 63) : IntKind.i64.wrap n = n := by rw [IntKind.wrap_i64]; omega
theorem bit_is (b k : Nat) (hb : b < 2 ^ 20) : bits .and .i64 ((b : Int) / 2 ^ k) 1 = (b : Int) / 2 ^ k % 2 := by
  have h0 : ((b : Int) / 2 ^ k) = ((b / 2 ^ k : Nat) : Int) := by simp
  have hlt : b / 2 ^ k < 2 ^ 20 := Nat.lt_of_le_of_lt (Nat.div_le_self _ _) hb
  rw [h0]
  generalize b / 2 ^ k = c at hlt ⊢
  have h := bits_mask .i64 63 (by decide) wraps_i64 1 (by decide) (c : Int) (by omega) (by omega)
  have e1 : ((2 : Int) ^ 1 - 1) = 1 := by decide
  rw [e1] at h
  rw [h]
  simp
theorem bit_eq (b k : Nat) : ((b : Int) / 2 ^ k % 2 == 1) = bitR b k := by
  have h0 : ((b : Int) / 2 ^ k) = ((b / 2 ^ k : Nat) : Int) := by simp
  unfold bitR
  rw [Nat.testBit_eq_decide_div_mod_eq, h0]
  generalize b / 2 ^ k = c
  rw [Bool.eq_iff_iff, beq_iff_eq, decide_eq_true_eq]
  omega
theorem info4 : (Try.prog.info? 4).map (fun i => (i.zero, i.size, i.bytes)) = some (some (.bool false), 1, 1) := by kernel_rfl
theorem tRow_succ (k : Nat) (R : Nat → Bool) : tRow k R ++ [.bool (R k)] = tRow (k + 1) R := by
  unfold tRow
  rw [List.range_succ, List.map_append]
  rfl
theorem one_newsb (w : World) (t : TypeId) (c : Bool) : ∀ (j : Nat) (u : Value), [Value.bool c][j]? = some u → (w.alloc (.cells #[.bool c] t)).cell? ((⟨w.heap.size, 0, none⟩ : Addr).add j) = some u := fun j u hj => by
  match j, hj with
  | 0, hj =>
    simp at hj
    subst hj
    rw [add_at]
    go_simp
  | k + 1, hj => simp at hj
set_option maxHeartbeats 2000000 in
theorem members_any (n b : Nat) (w : World) (hn : n ≤ 20) (hb : b < 2 ^ 20) :
    Calls Try.prog 53 #[.int .i64 n, .int .i64 b] w fun e w' => ∃ v, e = .returned v ∧ w'.ownsRow w.heap.size 4 1 v n (tRow n (bitR b)) ∧ Kp No w w' := by
  obtain ⟨i0, hi0, hz0, hz1, hz2⟩ := info_parts info4
  have HB := Lib.hid hb
  have hb2 : (b : Int) < 1048576 := by omega
  clear hb
  go_enter Try.func53, Try.ntmps53
  go_wp2_with fail
  go_loopw [5, 6] (fun v i wr => ∃ k : Nat, k ≤ n ∧ i = .int .i64 k ∧ wr.ownsRow w.heap.size 4 1 v k (tRow k (bitR b)) ∧ Kp No w wr) (fun _ i _ => n - (intOf i).toNat)
  case atStart => exact ⟨0, by omega, rfl, ⟨by simp [tRow], .inl ⟨rfl, rfl⟩⟩, Kp.refl _ _⟩
  case round =>
    obtain ⟨k, hk, rfl, hown, hkp⟩ := hrel
    obtain ⟨av, cv, rfl, _, _, _⟩ := own_form hown
    have HO := Lib.hid hown
    have HK := Lib.hid hkp
    clear hown hkp
    by_cases hlt : (k : Int) < n
    · have hbit := bit_is b k HB.out
      have hbe := bit_eq b k
      have HT := Lib.hid (tRow_succ k (bitR b))
      go_wp2_with (at_builtin; refine stop_in ?_)
      refine stop_out ?_
      refine wpList_append_own_at _ rfl _ _ 45 rfl w.heap.size 4 i0 (.bool false) 1 1 Try.underlying45 hi0 hz0 hz1 hz2 rfl (by decide) (.slice av k cv) k (tRow k (bitR b)) rfl (own_kp HO.out (Kp.alloc No _ _) (fun _ _ h => h)) ⟨wr.heap.size, 0, none⟩ 1 1 [.bool (bitR b k)] rfl rfl (one_newsb wr 4 _) (by simp [Value.oneCell']) (by unfold maxLen; omega) (by omega) (by have := HK.out.size; simp; omega) ?_
      intro v' w5 hown' hgrow hnil hat
      rw [HT.out] at hown'
      have K5 := Lib.hid (HK.out.trans ((Kp.alloc (fun k => w.heap.size ≤ k) _ _).tr (Kp.grown hgrow fun k hk _ => (own_ge HO.out hk).1)) fun k hk h => absurd h (by omega))
      have O5 := Lib.hid hown'
      clear hown' hgrow hnil hat hbit hbe
      go_wp2_with fail
      go_roundw
      case rel => exact ⟨k + 1, by omega, by go_num, O5.out, K5.out⟩
      case measure => simp [intOf]; omega
    · obtain rfl : k = n := by omega
      go_wp2_with fail
      refine bodyPost_ret (v := .slice av k cv) (by simp [results, Try.results53, go_sem]) rfl ⟨_, rfl, HO.out, HK.out⟩
end Go.Proofs.Ytjjecadfcndkaaa
