/- Chapter 14: the least set out of all of them: plain laws. No walk. -/
import Derived.Test.YtjjecadfcndkaaaMem
namespace Go.Proofs.Ytjjecadfcndkaaa
open Go.RowKit Go.Kq Go.Flow

def numOf (R : Nat → Bool) : Nat → Nat
  | 0 => 0
  | n + 1 => numOf R n ||| (if R n then 2 ^ n else 0)
theorem numOf_lt (R : Nat → Bool) : ∀ n, numOf R n < 2 ^ n
  | 0 => by simp [numOf]
  | n + 1 => by
    have ih := numOf_lt R n
    have h1 : (2 : Nat) ^ n < 2 ^ (n + 1) := Nat.pow_lt_pow_right (by omega) (by omega)
    unfold numOf
    refine Nat.or_lt_two_pow (by omega) ?_
    split
    · exact h1
    · exact Nat.two_pow_pos _
theorem numOf_bit (R : Nat → Bool) : ∀ (n i : Nat), i < n → bitR (numOf R n) i = R i
  | 0, i, h => by omega
  | n + 1, i, h => by
    unfold bitR numOf
    rw [Nat.testBit_or]
    by_cases e : i = n
    · subst e
      rw [Nat.testBit_lt_two_pow (numOf_lt R i)]
      cases R i <;> simp [Nat.testBit_two_pow_self]
    · have ih := numOf_bit R n i (by omega)
      unfold bitR at ih
      rw [ih]
      cases R n
      · simp
      · simp [show n ≠ i by omega]
/-- What is known when the sets below a number were looked at. -/
def LInv (A : (Nat → Bool) → Prop) (W : (Nat → Bool) → Int) (b : Nat) (low : Int) (all : Nat) : Prop :=
  (low = -1 ∧ ∀ c, c < b → c % 2 = 1 → ¬ A (bitR c)) ∨
  (0 ≤ low ∧ (∀ c, c < b → c % 2 = 1 → A (bitR c) → low ≤ W (bitR c)) ∧ (∃ c, c < b ∧ c % 2 = 1 ∧ A (bitR c) ∧ W (bitR c) = low) ∧
    ∀ i, bitR all i = true ↔ ∀ c, c < b → c % 2 = 1 → A (bitR c) → W (bitR c) = low → bitR c i = true)
section
variable {A : (Nat → Bool) → Prop} {W : (Nat → Bool) → Int} {b : Nat} {low : Int} {all : Nat}
theorem LInv.start : LInv A W 1 (-1) 0 := .inl ⟨rfl, fun c h1 h2 => by omega⟩
theorem odd_cases {b c : Nat} (hb : b % 2 = 1) (h : c < b + 2) (hc : c % 2 = 1) : c < b ∨ c = b := by omega
theorem LInv.skip (h : LInv A W b low all) (hb : b % 2 = 1) (hn : ¬ A (bitR b)) : LInv A W (b + 2) low all := by
  rcases h with ⟨h1, h2⟩ | ⟨h1, h2, ⟨c0, h3, h4, h5, h6⟩, h7⟩
  · refine .inl ⟨h1, fun c hc ho hA => ?_⟩
    rcases odd_cases hb hc ho with h | rfl
    · exact h2 c h ho hA
    · exact hn hA
  · refine .inr ⟨h1, fun c hc ho hA => ?_, ⟨c0, by omega, h4, h5, h6⟩, fun i => ⟨fun hi c hc ho hA hw => ?_, fun hi => (h7 i).2 fun c hc => hi c (by omega)⟩⟩
    · rcases odd_cases hb hc ho with h | rfl
      · exact h2 c h ho hA
      · exact absurd hA hn
    · rcases odd_cases hb hc ho with h | rfl
      · exact (h7 i).1 hi c h ho hA hw
      · exact absurd hA hn
theorem LInv.more (h : LInv A W b low all) (hb : b % 2 = 1) (hg : 0 ≤ low) (hw : low < W (bitR b)) : LInv A W (b + 2) low all := by
  rcases h with ⟨h1, h2⟩ | ⟨h1, h2, ⟨c0, h3, h4, h5, h6⟩, h7⟩
  · omega
  · refine .inr ⟨h1, fun c hc ho hA => ?_, ⟨c0, by omega, h4, h5, h6⟩, fun i => ⟨fun hi c hc ho hA hw => ?_, fun hi => (h7 i).2 fun c hc => hi c (by omega)⟩⟩
    · rcases odd_cases hb hc ho with h | rfl
      · exact h2 c h ho hA
      · omega
    · rcases odd_cases hb hc ho with h | rfl
      · exact (h7 i).1 hi c h ho hA hw
      · omega
theorem LInv.less (h : LInv A W b low all) (hb : b % 2 = 1) (hA : A (bitR b)) (h0 : 0 ≤ W (bitR b)) (hw : low < 0 ∨ W (bitR b) < low) : LInv A W (b + 2) (W (bitR b)) b := by
  refine .inr ⟨h0, fun c hc ho hAc => ?_, ⟨b, by omega, hb, hA, rfl⟩, fun i => ⟨fun hi c hc ho hAc hwc => ?_, fun hi => hi b (by omega) hb hA rfl⟩⟩
  · rcases odd_cases hb hc ho with hlt | rfl
    · rcases h with ⟨_, h2⟩ | ⟨h1, h2, _⟩
      · exact absurd hAc (h2 c hlt ho)
      · have := h2 c hlt ho hAc
        omega
    · exact Int.le_refl _
  · rcases odd_cases hb hc ho with hlt | rfl
    · rcases h with ⟨_, h2⟩ | ⟨h1, h2, _⟩
      · exact absurd hAc (h2 c hlt ho)
      · have := h2 c hlt ho hAc
        omega
    · exact hi
theorem LInv.same (h : LInv A W b low all) (hb : b % 2 = 1) (hA : A (bitR b)) (h0 : 0 ≤ low) (hw : W (bitR b) = low) : LInv A W (b + 2) low (all &&& b) := by
  have hbit : ∀ i, bitR (all &&& b) i = (bitR all i && bitR b i) := fun i => by unfold bitR; rw [Nat.testBit_and]
  rcases h with ⟨h1, h2⟩ | ⟨h1, h2, ⟨c0, h3, h4, h5, h6⟩, h7⟩
  · omega
  · refine .inr ⟨h1, fun c hc ho hAc => ?_, ⟨c0, by omega, h4, h5, h6⟩, fun i => ?_⟩
    · rcases odd_cases hb hc ho with hlt | rfl
      · exact h2 c hlt ho hAc
      · omega
    · rw [hbit, Bool.and_eq_true, h7 i]
      constructor
      · rintro ⟨g1, g2⟩ c hc ho hAc hwc
        rcases odd_cases hb hc ho with hlt | rfl
        · exact g1 c hlt ho hAc hwc
        · exact g2
      · exact fun g => ⟨fun c hc ho hAc hwc => g c (by omega) ho hAc hwc, g b (by omega) hb hA hw⟩
theorem LInv.fin (h : LInv A W b low all) {n : Nat} (hb : 2 ^ n ≤ b) {R : Nat → Bool} (hR : Min A W R) (hn : 0 < n) (h0 : R 0 = true) (hA : ∀ S S', (∀ v, v < n → S v = S' v) → (∀ v, n ≤ v → S' v = false) → A S → A S') (hW : ∀ S S', (∀ v, v < n → S v = S' v) → W S = W S') : ∀ i, i < n → bitR all i = R i := fun i hi => by
  have hr := numOf_lt R n
  have hbit := numOf_bit R n
  have hodd : numOf R n % 2 = 1 := by
    have h1 := hbit 0 hn
    rw [h0] at h1
    unfold bitR at h1
    rw [Nat.testBit_zero, decide_eq_true_eq] at h1
    exact h1
  have hAr : A (bitR (numOf R n)) := hA R _ (fun v hv => (hbit v hv).symm) (fun v hv => by
    unfold bitR
    exact Nat.testBit_lt_two_pow (Nat.lt_of_lt_of_le hr (Nat.pow_le_pow_right (by omega) hv))) hR.1
  have hWr : W (bitR (numOf R n)) = W R := hW _ _ hbit
  rcases h with ⟨_, h2⟩ | ⟨_, h2, ⟨c0, h3, h4, h5, h6⟩, h7⟩
  · exact absurd hAr (h2 _ (by omega) hodd)
  · have g1 := h2 _ (by omega) hodd hAr
    have g2 := (hR.2 _ h5).1
    have hlow : low = W R := by omega
    cases hRi : R i with
    | true =>
      refine (h7 i).2 fun c hc ho hAc hwc => ?_
      exact (hR.2 _ hAc).2 (by omega) i hRi
    | false =>
      cases hai : bitR all i with
      | false => rfl
      | true =>
        have := (h7 i).1 hai _ (by omega) hodd hAr (by omega)
        rw [hbit i hi, hRi] at this
        cases this
end
theorem tRow_mem (n : Nat) (R : Nat → Bool) : tRow n R = (rowOf n (mem R n)).map Value.bool := by
  apply List.ext_getElem?
  intro i
  by_cases h : i < n
  · rw [tRow_at R h, rowOf_at R h]
  · rw [List.getElem?_eq_none (by simp [tRow]; omega), List.getElem?_eq_none (by simp [rowOf]; omega)]
theorem bitR_big {c n v : Nat} (hc : c < 2 ^ n) (hv : n ≤ v) : bitR c v = false := by
  unfold bitR
  exact Nat.testBit_lt_two_pow (Nat.lt_of_lt_of_le hc (Nat.pow_le_pow_right (by omega) hv))
theorem bitR_odd {c : Nat} (hc : c % 2 = 1) : bitR c 0 = true := by
  unfold bitR
  rw [Nat.testBit_zero, decide_eq_true_eq]
  exact hc
theorem held_snoc (R : Nat → Bool) (x : Nat × Int) : ∀ l : List (Nat × Int), held R (l ++ [x]) = held R l + if R x.1 then x.2 else 0
  | [] => by simp [held]
  | y :: l => by simp only [List.cons_append, held, held_snoc R x l]; omega
theorem held_bd (R : Nat → Bool) : ∀ (l : List (Nat × Int)), (∀ x ∈ l, dOk x.2) → 0 ≤ held R l ∧ held R l ≤ 1000000000000 * l.length
  | [], _ => by simp [held]
  | x :: l, h => by
    have ih := held_bd R l fun y hy => h y (by simp [hy])
    have := h x (by simp)
    unfold dOk at this
    have e : (1000000000000 : Int) * ((x :: l).length : Nat) = 1000000000000 * (l.length : Nat) + 1000000000000 := by simp [Int.mul_add]
    rw [e, held]
    split <;> omega
theorem held_congr {R S : Nat → Bool} : ∀ l : List (Nat × Int), (∀ x ∈ l, R x.1 = S x.1) → held R l = held S l
  | [], _ => rfl
  | x :: l, h => by rw [held, held, held_congr l fun y hy => h y (by simp [hy]), h x (by simp)]
theorem wt_congr {N : Net} (hN : N.Ok) (h : Bool) (ds : List Int) {R S : Nat → Bool} (e : ∀ v, v < N.n → R v = S v) : N.wt h ds R = N.wt h ds S := by
  unfold Net.wt
  rw [out_congr hN h e, held_congr _ fun x hx => e _ (hN.ck x.1 (mem_zip_fst hx)).2]
/-- Is a chest among the first k in a set? -/
def anyCh (R : Nat → Bool) (l : List Nat) : Bool := l.any R
theorem anyCh_snoc (R : Nat → Bool) (l : List Nat) (c : Nat) : anyCh R (l ++ [c]) = (anyCh R l || R c) := by simp [anyCh]
end Go.Proofs.Ytjjecadfcndkaaa
