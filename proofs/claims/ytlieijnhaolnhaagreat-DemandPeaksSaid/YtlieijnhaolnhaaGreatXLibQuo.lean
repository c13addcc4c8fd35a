/- Fractions by sign, numerator and denominator: plain laws over Rat. No program in sight. -/

namespace Go.Kq

/-- Whether a fraction is below 0. -/
def negQ (q : Rat) : Bool := decide (q.num < 0)
/-- A whole number with a sign. -/
def sgn (neg : Bool) (x : Nat) : Int := if neg then -(x : Int) else x
theorem num_sgn (q : Rat) : q.num = sgn (negQ q) q.num.natAbs := by
  unfold sgn negQ
  by_cases h : q.num < 0
  · simp only [h, decide_true, if_true]
    omega
  · simp only [h, decide_false, Bool.false_eq_true, if_false]
    omega
theorem sgn_abs (neg : Bool) (x : Nat) : (sgn neg x).natAbs = x := by
  unfold sgn
  cases neg <;> simp
/-- The lowest terms. -/
theorem low_num (neg : Bool) (x y : Nat) (hy : 0 < y) : (mkRat (sgn neg x) y).num.natAbs = x / Nat.gcd x y ∧ (mkRat (sgn neg x) y).den = y / Nat.gcd x y ∧ negQ (mkRat (sgn neg x) y) = (neg && decide (0 < x / Nat.gcd x y)) := by
  have hg : 0 < Nat.gcd x y := Nat.gcd_pos_of_pos_right x hy
  have hd := Nat.gcd_dvd_left x y
  have e : y ≠ 0 := by omega
  have e1 : (mkRat (sgn neg x) y).num = sgn neg (x / Nat.gcd x y) := by
    rw [Rat.num_mkRat, if_neg e, sgn_abs, Nat.gcd_comm y x]
    unfold sgn
    obtain ⟨c, hc⟩ := hd
    have h2 : x / Nat.gcd x y = c := by
      conv => lhs; arg 1; rw [hc]
      exact Nat.mul_div_cancel_left c hg
    cases neg
    · simp
    · simp only [if_true]
      rw [h2]
      conv => lhs; arg 1; arg 1; rw [hc]
      rw [Int.natCast_mul, ← Int.mul_neg]
      exact Int.mul_ediv_cancel_left _ (by omega)
  refine ⟨by rw [e1, sgn_abs], by rw [Rat.den_mkRat, if_neg e, sgn_abs, Nat.gcd_comm], ?_⟩
  unfold negQ
  rw [e1]
  unfold sgn
  cases neg
  · simp only [Bool.false_eq_true, if_false, Bool.false_and, decide_eq_false_iff_not]
    exact Int.not_lt.2 (Int.natCast_nonneg _)
  · simp only [if_true, Bool.true_and, decide_eq_decide]
    generalize x / Nat.gcd x y = z
    omega
theorem add_low (a b : Rat) : a + b = if negQ a = negQ b then mkRat (sgn (negQ a) (a.num.natAbs * b.den + b.num.natAbs * a.den)) (a.den * b.den)
    else if b.num.natAbs * a.den ≤ a.num.natAbs * b.den then mkRat (sgn (negQ a) (a.num.natAbs * b.den - b.num.natAbs * a.den)) (a.den * b.den)
    else mkRat (sgn (negQ b) (b.num.natAbs * a.den - a.num.natAbs * b.den)) (a.den * b.den) := by
  rw [Rat.add_def']
  have ha := num_sgn a
  have hb := num_sgn b
  generalize negQ a = p at *
  generalize negQ b = q at *
  generalize a.num.natAbs = x at *
  generalize b.num.natAbs = y at *
  rw [ha, hb]
  have e1 : ∀ n : Bool, ∀ u v : Nat, sgn n u * (v : Int) = sgn n (u * v) := fun n u v => by
    unfold sgn
    cases n <;> simp [Int.neg_mul]
  rw [e1, e1]
  generalize x * b.den = X
  generalize y * a.den = Y
  split
  · rename_i h
    subst h
    congr 1
    unfold sgn
    cases p <;> simp <;> omega
  · rename_i h
    split
    · rename_i h2
      congr 1
      unfold sgn
      cases p <;> cases q <;> simp_all <;> omega
    · rename_i h2
      congr 1
      unfold sgn
      cases p <;> cases q <;> simp_all <;> omega
theorem sgn_mul (p q : Bool) (x y : Nat) : sgn p x * sgn q y = sgn (p != q) (x * y) := by
  unfold sgn
  cases p <;> cases q <;> simp [Int.neg_mul, Int.mul_neg]
theorem mul_low (a b : Rat) : a * b = mkRat (sgn (negQ a != negQ b) (a.num.natAbs * b.num.natAbs)) (a.den * b.den) := by
  rw [Rat.mul_def', ← sgn_mul, ← num_sgn, ← num_sgn]
theorem div_low (a b : Rat) (hb : b ≠ 0) : a / b = mkRat (sgn (negQ a != negQ b) (a.num.natAbs * b.den)) (a.den * b.num.natAbs) := by
  rw [Rat.div_def, Rat.inv_def]
  conv => lhs; arg 1; rw [← Rat.num_divInt_den a]
  rw [Rat.divInt_mul_divInt]
  have h0 : b.num ≠ 0 := fun h => hb (Rat.num_eq_zero.1 h)
  have hs := num_sgn b
  have ha := num_sgn a
  have hx : b.num.natAbs ≠ 0 := by omega
  have hd := a.den_nz
  generalize negQ b = q at *
  generalize negQ a = p at *
  generalize b.num.natAbs = y at *
  generalize a.num.natAbs = x at *
  rw [hs, ha, ← Rat.divInt_ofNat]
  cases q
  · show _ = Rat.divInt _ _
    congr 1
    · unfold sgn
      cases p <;> simp [Int.neg_mul]
  · rw [show (a.den : Int) * sgn true y = -((a.den * y : Nat) : Int) by unfold sgn; simp [Int.mul_neg], Rat.divInt_neg']
    congr 1
    unfold sgn
    cases p <;> simp [Int.neg_mul]
/-- How two fractions are ordered. -/
def cmpQ (a b : Rat) : Int := if a < b then -1 else if b < a then 1 else 0
theorem cmp_low (a b : Rat) (c : Int) (hc : c = if a.num.natAbs * b.den < b.num.natAbs * a.den then -1 else if b.num.natAbs * a.den < a.num.natAbs * b.den then 1 else 0) :
    cmpQ a b = if negQ a && negQ b then -c else if negQ a then -1 else if negQ b then 1 else c := by
  unfold cmpQ
  simp only [Rat.lt_iff]
  have ha := num_sgn a
  have hb := num_sgn b
  have na : negQ a = true → 0 < a.num.natAbs := fun h => by unfold negQ at h; simp at h; omega
  have nb : negQ b = true → 0 < b.num.natAbs := fun h => by unfold negQ at h; simp at h; omega
  generalize negQ a = p at *
  generalize negQ b = q at *
  have da := a.den_pos
  have db := b.den_pos
  generalize a.num.natAbs = x at *
  generalize b.num.natAbs = y at *
  rw [ha, hb]
  have e1 : ∀ n : Bool, ∀ u v : Nat, sgn n u * (v : Int) = sgn n (u * v) := fun n u v => by
    unfold sgn
    cases n <;> simp [Int.neg_mul]
  rw [e1, e1]
  have px : 0 < x → 0 < x * b.den := fun h => Nat.mul_pos h db
  have py : 0 < y → 0 < y * a.den := fun h => Nat.mul_pos h da
  generalize x * b.den = X at *
  generalize y * a.den = Y at *
  subst hc
  unfold sgn
  cases p <;> cases q <;> simp at * <;> (repeat' split) <;> omega
theorem floor_low (a : Rat) : a.floor = if negQ a then -((a.num.natAbs / a.den + (if 0 < a.num.natAbs % a.den then 1 else 0) : Nat) : Int) else ((a.num.natAbs / a.den : Nat) : Int) := by
  rw [Rat.floor_def]
  have ha := num_sgn a
  generalize negQ a = p at *
  have da := a.den_pos
  generalize a.num.natAbs = x at *
  generalize a.den = d at *
  rw [ha]
  unfold sgn
  cases p
  · simp
  · simp only [if_true]
    have h1 := Nat.div_add_mod x d
    have h2 := Nat.mod_lt x da
    generalize hq : x / d = q at *
    generalize hr : x % d = r at *
    split
    · have e : -(x : Int) = (d - r) + d * (-((q : Int) + 1)) := by
        rw [← h1]
        push_cast
        rw [Int.mul_neg, Int.mul_add]
        omega
      rw [e, Int.add_mul_ediv_left _ _ (by omega), Int.ediv_eq_zero_of_lt (by omega) (by omega)]
      omega
    · have e : -(x : Int) = d * (-(q : Int)) := by
        rw [← h1]
        push_cast
        rw [Int.mul_neg]
        omega
      rw [e, Int.mul_ediv_cancel_left _ (by omega)]
      omega
theorem neg_low (a : Rat) : negQ (-a) = (!negQ a && decide (0 < a.num.natAbs)) ∧ (-a).num.natAbs = a.num.natAbs ∧ (-a).den = a.den := by
  refine ⟨?_, by rw [Rat.neg_num, Int.natAbs_neg], rfl⟩
  unfold negQ
  rw [Rat.neg_num]
  rw [Bool.eq_iff_iff]
  simp only [decide_eq_true_eq, Bool.and_eq_true, Bool.not_eq_true', decide_eq_false_iff_not]
  omega
end Go.Kq
