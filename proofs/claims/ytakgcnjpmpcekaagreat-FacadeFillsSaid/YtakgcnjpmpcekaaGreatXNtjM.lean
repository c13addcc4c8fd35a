/- Fractions by sign, numerator and denominator: plain laws over Rat. No program in sight. · Great numbers by limbs: Common, lowest, over numbers and fractions: walks. -/
import Derived.Deep.LoopGhost
import Derived.Test.YtakgcnjpmpcekaaGreatXNtiM
namespace Go.Kq

/-- Whether a fraction is below 0. -/
def negQ (q : Rat) : Bool := decide (q.num < 0)
/-- A whole number with a sign. -/
def sgn (neg : Bool) (x : Nat) : Int := if neg then -(x : Int) else x
theorem num_sgn (q : Rat) : q.num = sgn (negQ q) q.num.natAbs := by
  unfold sgn negQ
  by_cases h : q.num < 0
  · simp only [h, decide_true, if_true]
    omega
  · simp only [h, decide_false, Bool.false_eq_true, if_false]
    omega
theorem sgn_abs (neg : Bool) (x : Nat) : (sgn neg x).natAbs = x := by
  unfold sgn
  cases neg <;> simp
/-- The lowest terms. -/
theorem low_num (neg : Bool) (x y : Nat) (hy : 0 < y) : (mkRat (sgn neg x) y).num.natAbs = x / Nat.gcd x y ∧ (mkRat (sgn neg x) y).den = y / Nat.gcd x y ∧ negQ (mkRat (sgn neg x) y) = (neg && decide (0 < x / Nat.gcd x y)) := by
  have hg : 0 < Nat.gcd x y := Nat.gcd_pos_of_pos_right x hy
  have hd := Nat.gcd_dvd_left x y
  have e : y ≠ 0 := by omega
  have e1 : (mkRat (sgn neg x) y).num = sgn neg (x / Nat.gcd x y) := by
    rw [Rat.num_mkRat, if_neg e, sgn_abs, Nat.gcd_comm y x]
    unfold sgn
    obtain ⟨c, hc⟩ := hd
    have h2 : x / Nat.gcd x y = c := by
      conv => lhs; arg 1; rw [hc]
      exact Nat.mul_div_cancel_left c hg
    cases neg
    · simp
    · simp only [if_true]
      rw [h2]
      conv => lhs; arg 1; arg 1; rw [hc]
      rw [Int.natCast_mul, ← Int.mul_neg]
      exact Int.mul_ediv_cancel_left _ (by omega)
  refine ⟨by rw [e1, sgn_abs], by rw [Rat.den_mkRat, if_neg e, sgn_abs, Nat.gcd_comm], ?_⟩
  unfold negQ
  rw [e1]
  unfold sgn
  cases neg
  · simp only [Bool.false_eq_true, if_false, Bool.false_and, decide_eq_false_iff_not]
    exact Int.not_lt.2 (Int.natCast_nonneg _)
  · simp only [if_true, Bool.true_and, decide_eq_decide]
    generalize x / Nat.gcd x y = z
    omega
theorem add_low (a b : Rat) : a + b = if negQ a = negQ b then mkRat (sgn (negQ a) (a.num.natAbs * b.den + b.num.natAbs * a.den)) (a.den * b.den)
    else if b.num.natAbs * a.den ≤ a.num.natAbs * b.den then mkRat (sgn (negQ a) (a.num.natAbs * b.den - b.num.natAbs * a.den)) (a.den * b.den)
    else mkRat (sgn (negQ b) (b.num.natAbs * a.den - a.num.natAbs * b.den)) (a.den * b.den) := by
  rw [Rat.add_def']
  have ha := num_sgn a
  have hb := num_sgn b
  generalize negQ a = p at *
  generalize negQ b = q at *
  generalize a.num.natAbs = x at *
  generalize b.num.natAbs = y at *
  rw [ha, hb]
  have e1 : ∀ n : Bool, ∀ u v : Nat, sgn n u * (v : Int) = sgn n (u * v) := fun n u v => by
    unfold sgn
    cases n <;> simp [Int.neg_mul]
  rw [e1, e1]
  generalize x * b.den = X
  generalize y * a.den = Y
  split
  · rename_i h
    subst h
    congr 1
    unfold sgn
    cases p <;> simp <;> omega
  · rename_i h
    split
    · rename_i h2
      congr 1
      unfold sgn
      cases p <;> cases q <;> simp_all <;> omega
    · rename_i h2
      congr 1
      unfold sgn
      cases p <;> cases q <;> simp_all <;> omega
theorem sgn_mul (p q : Bool) (x y : Nat) : sgn p x * sgn q y = sgn (p != q) (x * y) := by
  unfold sgn
  cases p <;> cases q <;> simp [Int.neg_mul, Int.mul_neg]
theorem mul_low (a b : Rat) : a * b = mkRat (sgn (negQ a != negQ b) (a.num.natAbs * b.num.natAbs)) (a.den * b.den) := by
  rw [Rat.mul_def', ← sgn_mul, ← num_sgn, ← num_sgn]
theorem div_low (a b : Rat) (hb : b ≠ 0) : a / b = mkRat (sgn (negQ a != negQ b) (a.num.natAbs * b.den)) (a.den * b.num.natAbs) := by
  rw [Rat.div_def, Rat.inv_def]
  conv => lhs; arg 1; rw [← Rat.num_divInt_den a]
  rw [Rat.divInt_mul_divInt]
  have h0 : b.num ≠ 0 := fun h => hb (Rat.num_eq_zero.1 h)
  have hs := num_sgn b
  have ha := num_sgn a
  have hx : b.num.natAbs ≠ 0 := by omega
  have hd := a.den_nz
  generalize negQ b = q at *
  generalize negQ a = p at *
  generalize b.num.natAbs = y at *
  generalize a.num.natAbs = x at *
  rw [hs, ha, ← Rat.divInt_ofNat]
  cases q
  · show _ = Rat.divInt _ _
    congr 1
    · unfold sgn
      cases p <;> simp [Int.neg_mul]
  · rw [show (a.den : Int) * sgn true y = -((a.den * y : Nat) : Int) by unfold sgn; simp [Int.mul_neg], Rat.divInt_neg']
    congr 1
    unfold sgn
    cases p <;> simp [Int.neg_mul]
/-- How two fractions are ordered. -/
def cmpQ (a b : Rat) : Int := if a < b then -1 else if b < a then 1 else 0
theorem cmp_low (a b : Rat) (c : Int) (hc : c = if a.num.natAbs * b.den < b.num.natAbs * a.den then -1 else if b.num.natAbs * a.den < a.num.natAbs * b.den then 1 else 0) :
    cmpQ a b = if negQ a && negQ b then -c else if negQ a then -1 else if negQ b then 1 else c := by
  unfold cmpQ
  simp only [Rat.lt_iff]
  have ha := num_sgn a
  have hb := num_sgn b
  have na : negQ a = true → 0 < a.num.natAbs := fun h => by unfold negQ at h; simp at h; omega
  have nb : negQ b = true → 0 < b.num.natAbs := fun h => by unfold negQ at h; simp at h; omega
  generalize negQ a = p at *
  generalize negQ b = q at *
  have da := a.den_pos
  have db := b.den_pos
  generalize a.num.natAbs = x at *
  generalize b.num.natAbs = y at *
  rw [ha, hb]
  have e1 : ∀ n : Bool, ∀ u v : Nat, sgn n u * (v : Int) = sgn n (u * v) := fun n u v => by
    unfold sgn
    cases n <;> simp [Int.neg_mul]
  rw [e1, e1]
  have px : 0 < x → 0 < x * b.den := fun h => Nat.mul_pos h db
  have py : 0 < y → 0 < y * a.den := fun h => Nat.mul_pos h da
  generalize x * b.den = X at *
  generalize y * a.den = Y at *
  subst hc
  unfold sgn
  cases p <;> cases q <;> simp at * <;> (repeat' split) <;> omega
theorem floor_low (a : Rat) : a.floor = if negQ a then -((a.num.natAbs / a.den + (if 0 < a.num.natAbs % a.den then 1 else 0) : Nat) : Int) else ((a.num.natAbs / a.den : Nat) : Int) := by
  rw [Rat.floor_def]
  have ha := num_sgn a
  generalize negQ a = p at *
  have da := a.den_pos
  generalize a.num.natAbs = x at *
  generalize a.den = d at *
  rw [ha]
  unfold sgn
  cases p
  · simp
  · simp only [if_true]
    have h1 := Nat.div_add_mod x d
    have h2 := Nat.mod_lt x da
    generalize hq : x / d = q at *
    generalize hr : x % d = r at *
    split
    · have e : -(x : Int) = (d - r) + d * (-((q : Int) + 1)) := by
        rw [← h1]
        push_cast
        rw [Int.mul_neg, Int.mul_add]
        omega
      rw [e, Int.add_mul_ediv_left _ _ (by omega), Int.ediv_eq_zero_of_lt (by omega) (by omega)]
      omega
    · have e : -(x : Int) = d * (-(q : Int)) := by
        rw [← h1]
        push_cast
        rw [Int.mul_neg]
        omega
      rw [e, Int.mul_ediv_cancel_left _ (by omega)]
      omega
theorem neg_low (a : Rat) : negQ (-a) = (!negQ a && decide (0 < a.num.natAbs)) ∧ (-a).num.natAbs = a.num.natAbs ∧ (-a).den = a.den := by
  refine ⟨?_, by rw [Rat.neg_num, Int.natAbs_neg], rfl⟩
  unfold negQ
  rw [Rat.neg_num]
  rw [Bool.eq_iff_iff]
  simp only [decide_eq_true_eq, Bool.and_eq_true, Bool.not_eq_true', decide_eq_false_iff_not]
  omega
end Go.Kq

namespace Go.Proofs.YtakgcnjpmpcekaaGreat
open Go.RowKit Go.Kq

theorem at_newQ (w : World) (o : Obj) : (w.alloc o).heap[w.heap.size]? = some o := heap_alloc_new w o
theorem three_cells {w : World} {B : Nat} {a b c : Value} {t : TypeId} (h : w.heap[B]? = some (.cells #[a, b, c] t (0, 0))) : w.cell? ⟨B, 0, none⟩ = some a ∧ w.cell? ⟨B, 1, none⟩ = some b ∧ w.cell? ⟨B, 2, none⟩ = some c ∧ w.frozen? ⟨B, 0, none⟩ = false ∧ w.frozen? ⟨B, 1, none⟩ = false ∧ w.frozen? ⟨B, 2, none⟩ = false := by
  refine ⟨by rw [cell_of_row w B 0 _ _ _ h]; rfl, by rw [cell_of_row w B 1 _ _ _ h]; rfl, by rw [cell_of_row w B 2 _ _ _ h]; rfl, ?_, ?_, ?_⟩
  all_goals simp [World.frozen?, h]
theorem setQ_at {w : World} {B : Nat} {x y z : Value} {t : TypeId} (h : w.heap[B]? = some (.cells #[x, y, z] t (0, 0))) (a b c : Value) : (((w.setCell ⟨B, 0, none⟩ a).setCell ⟨B, 1, none⟩ b).setCell ⟨B, 2, none⟩ c).heap[B]? = some (.cells #[a, b, c] t (0, 0)) := by
  simp [World.setCell, Array.getElem?_modify, h]
theorem kp_setQ (w : World) (B : Nat) (a b c : Value) : Kp (Kq.One B) w (((w.setCell ⟨B, 0, none⟩ a).setCell ⟨B, 1, none⟩ b).setCell ⟨B, 2, none⟩ c) :=
  ((Kp.setCell (Kq.One B) w ⟨B, 0, none⟩ _ (fun _ => rfl)).tr (Kp.setCell (Kq.One B) _ ⟨B, 1, none⟩ _ (fun _ => rfl))).tr (Kp.setCell (Kq.One B) _ ⟨B, 2, none⟩ _ (fun _ => rfl))
theorem divide_is (u v : Value) (x y k m : Nat) (w : World) (hu : IsNat w u x k) (hv : IsNat w v y m) (hk : k ≤ 300) (hm : m ≤ 300) (hy : 0 < y) :
    Calls Tryz.prog 82 #[u, v] w fun e w' => ∃ q r, e = .returned (.tuple #[q, r]) ∧ IsNew w.heap.size w' q (x / y) k ∧ IsNat w' r (x % y) m ∧ Kp No w w' := by
  obtain ⟨A, n, c, l, rfl, h1, rfl, h3, h4, h5⟩ := hu
  obtain ⟨B, n2, c2, l2, rfl, g1, rfl, g3, g4, g5⟩ := hv
  have hlt := valN_lt (show 0 < BB by unfold BB; omega) l2 g1.small
  rw [g1.len] at hlt
  refine (divide_num A B n n2 c c2 _ l w h1 ⟨B, n2, c2, l2, rfl, g1, rfl, Nat.le_refl _, g4, g5⟩ (by omega) (by omega) hy hlt).mono ?_
  rintro e w' ⟨q, r, rfl, hq, hr, hk⟩
  exact ⟨q, r, rfl, ⟨hq.1.le h3, hq.2⟩, hr.le g3, hk⟩
set_option maxHeartbeats 1000000 in
theorem common_is (u v : Value) (x y k : Nat) (w : World) (hu : IsNat w u x k) (hv : IsNat w v y k) (hk : k ≤ 300) :
    Calls Tryz.prog 81 #[u, v] w fun e w' => ∃ z, e = .returned z ∧ IsNat w' z (Nat.gcd x y) k ∧ Kp No w w' := by
  have HU := Lib.hid hu
  have HV := Lib.hid hv
  have DI := Lib.hid divide_is
  clear hu hv
  go_enter Tryz.func81, Tryz.ntmps81
  go_wp2_with fail
  go_loopg [0, 1] y (fun gk a b wr => ∃ (X : Nat) (av bv : Value), av = a ∧ bv = b ∧ IsNat wr a X k ∧ IsNat wr b gk k ∧ Nat.gcd X gk = Nat.gcd x y ∧ Kp No w wr)
  case atStart => exact ⟨x, u, v, rfl, rfl, HU.out, HV.out, rfl, Kp.refl _ _⟩
  case round =>
    obtain ⟨X, a, b, rfl, rfl, ha, hb, hg, hkp⟩ := hrel
    have HA := Lib.hid ha
    have HB := Lib.hid hb
    have HG := Lib.hid hg
    have KP := Lib.hid hkp
    obtain ⟨B, n, c, l, rfl, h1, h2, h3, h4⟩ := hb.pos
    by_cases hz : 0 < gk
    · have hn : 0 < n := h4.2 hz
      have D := Lib.hid (DI.out a (.slice B n c) X gk k k wr HA.out HB.out hk hk hz)
      have HZ := Lib.hid hz
      clear ha hb hg hkp h1 h2 h3 h4 hz
      go_wp2_with fail
      refine D.out.mono ?_
      rintro _ w2 ⟨q, r, rfl, hq, hr, k2⟩
      have HR := Lib.hid hr
      have K2 := Lib.hid k2
      clear hq hr k2
      go_wp2_with fail
      go_roundg (X % gk)
      case measure => exact Nat.mod_lt _ HZ.out
      case rel => exact ⟨gk, _, _, rfl, rfl, HB.out.no K2.out, HR.out, by rw [← HG.out, Nat.gcd_comm gk, ← Nat.gcd_rec, Nat.gcd_comm], KP.out.tr K2.out⟩
    · obtain rfl : gk = 0 := by omega
      obtain rfl : n = 0 := by omega
      have hX : Nat.gcd x y = X := by rw [← HG.out, Nat.gcd_zero_right]
      have HX := Lib.hid hX
      clear ha hb hg hkp h1 h2 h3 h4 hz hX
      go_wp2_with fail
      go_ret
      exact ⟨a, rfl, by rw [HX.out]; exact HA.out, KP.out⟩
/-- A fraction in lowest terms, of at most k limbs above and below. -/
def IsQuo (w : World) (v : Value) (q : Rat) (k : Nat) : Prop := ∃ n d, v = .agg #[.bool (negQ q), n, d] ∧ IsNat w n q.num.natAbs k ∧ IsNat w d q.den k
theorem IsQuo.no {w w' : World} {v : Value} {q : Rat} {k : Nat} (h : IsQuo w v q k) (hk : Kp No w w') : IsQuo w' v q k := by
  obtain ⟨n, d, h1, h2, h3⟩ := h
  exact ⟨n, d, h1, h2.no hk, h3.no hk⟩
theorem IsQuo.le {w : World} {v : Value} {q : Rat} {k k' : Nat} (h : IsQuo w v q k) (hk : k ≤ k') : IsQuo w v q k' := by
  obtain ⟨n, d, h1, h2, h3⟩ := h
  exact ⟨n, d, h1, h2.le hk, h3.le hk⟩
/-- A fraction in blocks of its own, from g on. -/
def QuoNew (g : Nat) (w : World) (v : Value) (q : Rat) (k : Nat) : Prop := ∃ n d, v = .agg #[.bool (negQ q), n, d] ∧ IsNew g w n q.num.natAbs k ∧ IsNew g w d q.den k
theorem QuoNew.is {g : Nat} {w : World} {v : Value} {q : Rat} {k : Nat} (h : QuoNew g w v q k) : IsQuo w v q k := by
  obtain ⟨n, d, h1, h2, h3⟩ := h
  exact ⟨n, d, h1, h2.1, h3.1⟩
theorem IsNew.no {w w' : World} {v : Value} {N k g : Nat} (h : IsNew g w v N k) (hk : Kp No w w') : IsNew g w' v N k := ⟨h.1.no hk, h.2⟩
theorem IsNew.mono {w : World} {v : Value} {N k g g' : Nat} (h : IsNew g w v N k) (hg : g' ≤ g) : IsNew g' w v N k := ⟨h.1, h.2.mono hg⟩
theorem QuoNew.no {w w' : World} {v : Value} {q : Rat} {k g : Nat} (h : QuoNew g w v q k) (hk : Kp No w w') : QuoNew g w' v q k := by
  obtain ⟨n, d, h1, h2, h3⟩ := h
  exact ⟨n, d, h1, h2.no hk, h3.no hk⟩
theorem QuoNew.kp {w w' : World} {v : Value} {q : Rat} {k g B : Nat} (h : QuoNew g w v q k) (hk : Kp (Kq.One B) w w') (hB : B < g) : QuoNew g w' v q k := by
  obtain ⟨n, d, h1, h2, h3⟩ := h
  exact ⟨n, d, h1, h2.kp hk hB, h3.kp hk hB⟩
theorem QuoNew.mono {w : World} {v : Value} {q : Rat} {k g g' : Nat} (h : QuoNew g w v q k) (hg : g' ≤ g) : QuoNew g' w v q k := by
  obtain ⟨n, d, h1, h2, h3⟩ := h
  exact ⟨n, d, h1, h2.mono hg, h3.mono hg⟩
set_option maxHeartbeats 1000000 in
theorem lowest_is (neg : Bool) (u v : Value) (x y k : Nat) (w : World) (hu : IsNat w u x k) (hv : IsNat w v y k) (hk : k ≤ 300) (hy : 0 < y) :
    Calls Tryz.prog 65 #[.bool neg, u, v] w fun e w' => ∃ z, e = .returned (.tuple #[z, .int .i64 0]) ∧ QuoNew w.heap.size w' z (mkRat (sgn neg x) y) k ∧ Kp No w w' := by
  have hg : 0 < Nat.gcd x y := Nat.gcd_pos_of_pos_right x hy
  obtain ⟨l1, l2, l3⟩ := low_num neg x y hy
  have FIN := Lib.hid (fun w' (b : Bool) (n d : Value) (hb : b = (neg && decide (0 < x / Nat.gcd x y))) (hn : IsNew w.heap.size w' n (x / Nat.gcd x y) k) (hd : IsNew w.heap.size w' d (y / Nat.gcd x y) k) => show QuoNew w.heap.size w' (.agg #[.bool b, n, d]) (mkRat (sgn neg x) y) k from ⟨n, d, by rw [l3, hb], by rw [l1]; exact hn, by rw [l2]; exact hd⟩)
  have CO := Lib.hid (fun w0 (h : Kp No w w0) => common_is u v x y k w0 (hu.no h) (hv.no h) hk)
  have DX := Lib.hid (fun w0 (h : Kp No w w0) g (hgv : IsNat w0 g (Nat.gcd x y) k) => divide_is u g x (Nat.gcd x y) k k w0 (hu.no h) hgv hk hk hg)
  have DY := Lib.hid (fun w0 (h : Kp No w w0) g (hgv : IsNat w0 g (Nat.gcd x y) k) => divide_is v g y (Nat.gcd x y) k k w0 (hv.no h) hgv hk hk hg)
  generalize Nat.gcd x y = G at *
  clear hu hv l1 l2 l3 hg
  have hB0 := at_newQ w (.cells #[.bool false, .slice none 0 0, .slice none 0 0] 89)
  have KB := Lib.hid (Kp.alloc No w (.cells #[.bool false, .slice none 0 0, .slice none 0 0] 89))
  have SB := Lib.hid (show w.heap.size < (w.alloc (.cells #[.bool false, .slice none 0 0, .slice none 0 0] 89)).heap.size by simp)
  have HB0 := Lib.hid hB0
  clear hB0
  go_enter Tryz.func65, Tryz.ntmps65
  go_wp2_with fail
  refine (CO.out _ KB.out).mono ?_
  rintro _ w1 ⟨g, rfl, hg1, k1⟩
  have G1 := Lib.hid hg1
  have K1 := Lib.hid (KB.out.tr k1)
  have B1 := Lib.hid (k1.heap HB0.out id)
  have S1 := Lib.hid (Nat.lt_of_lt_of_le SB.out k1.size)
  clear hg1 k1
  go_wp2_with fail
  refine (DX.out w1 K1.out g G1.out).mono ?_
  rintro _ w2 ⟨n, r, rfl, hn, _, k2⟩
  have N2 := Lib.hid (hn.mono (Nat.le_of_lt S1.out))
  have N2g := Lib.hid hn.2
  have K2 := Lib.hid (K1.out.tr k2)
  have G2 := Lib.hid (G1.out.no k2)
  have B2 := Lib.hid (k2.heap B1.out id)
  have S2 := Lib.hid (Nat.lt_of_lt_of_le S1.out k2.size)
  clear hn k2
  go_wp2_with fail
  refine (DY.out w2 K2.out g G2.out).mono ?_
  rintro _ w3 ⟨d, r2, rfl, hd, _, k3⟩
  have D3 := Lib.hid (hd.mono (Nat.le_of_lt S2.out))
  have D3g := Lib.hid (hd.2.mono (show w.heap.size + 1 ≤ _ from S2.out))
  have K3 := Lib.hid (K2.out.tr k3)
  have N3 := Lib.hid (N2.out.no k3)
  have B3 := k3.heap B2.out id
  clear hd k3
  obtain ⟨A, m, c, l, rfl, _, _, h3, h4⟩ := N3.out.1.pos
  obtain ⟨B, m2, c2, l2, rfl, _, _, g3, g4⟩ := D3.out.1.pos
  obtain ⟨x0, x1, x2, y0, y1, y2⟩ := three_cells B3
  have N3g := Lib.hid (N2g.out.mono (show w.heap.size + 1 ≤ _ from S1.out))
  have FIN2 := Lib.hid (fun (b : Bool) (hb : b = (neg && decide (0 < x / G))) (w4 : World) (hk : Kp (Kq.One w.heap.size) w3 w4) => FIN.out w4 b (.slice A m c) (.slice B m2 c2) hb ⟨(N3.out.1.kp hk (fun b hb e => by have := N3g.out b hb; unfold Kq.One at e; omega)), N3.out.2⟩ ⟨(D3.out.1.kp hk (fun b hb e => by have := D3g.out b hb; unfold Kq.One at e; omega)), D3.out.2⟩)
  have hm5 : (m : Int) ≤ 300 := by omega
  have hm6 : (m2 : Int) ≤ 300 := by omega
  have K3 := Lib.hid K3.out
  have H4 := Lib.hid h4
  have B3 := Lib.hid B3
  clear N3 D3 N3g D3g h3 h4 g3 g4
  cases neg
  · have FIN3 := Lib.hid (FIN2.out false (by simp))
    clear FIN2 H4
    go_wp2_with fail
    have hs := setQ_at B3.out (.bool false) (.slice A m c) (.slice B m2 c2)
    have hk := kp_setQ w3 w.heap.size (.bool false) (.slice A m c) (.slice B m2 c2)
    obtain ⟨z0, z1, z2, _⟩ := three_cells hs
    exact bodyPost_ret (v := .tuple #[.agg #[.bool false, .slice A m c, .slice B m2 c2], .int .i64 0]) (by simp [results, Tryz.results65, go_sem, z0, z1, z2]) rfl ⟨_, rfl, FIN3.out _ hk, K3.out.trans hk (fun k hk e => by unfold Kq.One at e; omega)⟩
  · by_cases hp : 0 < m
    · have FIN3 := Lib.hid (FIN2.out (decide (0 < m)) (by rw [Bool.true_and]; exact decide_eq_decide.2 H4.out))
      have hpI : (0 : Int) < (m : Int) := by omega
      clear FIN2 H4 hp
      go_wp2_with fail
      have hs := setQ_at B3.out (.bool (decide (0 < m))) (.slice A m c) (.slice B m2 c2)
      have hk := kp_setQ w3 w.heap.size (.bool (decide (0 < m))) (.slice A m c) (.slice B m2 c2)
      obtain ⟨z0, z1, z2, _⟩ := three_cells hs
      exact bodyPost_ret (v := .tuple #[.agg #[.bool (decide (0 < m)), .slice A m c, .slice B m2 c2], .int .i64 0]) (by simp [results, Tryz.results65, go_sem, z0, z1, z2]) rfl ⟨_, rfl, FIN3.out _ hk, K3.out.trans hk (fun k hk e => by unfold Kq.One at e; omega)⟩
    · have FIN3 := Lib.hid (FIN2.out false (by
        have : ¬ 0 < x / G := fun h => hp (H4.out.2 h)
        simp [this]))
      obtain rfl : m = 0 := by omega
      clear FIN2 H4 hp
      go_wp2_with fail
      have hs := setQ_at B3.out (.bool false) (.slice A 0 c) (.slice B m2 c2)
      have hk := kp_setQ w3 w.heap.size (.bool false) (.slice A 0 c) (.slice B m2 c2)
      obtain ⟨z0, z1, z2, _⟩ := three_cells hs
      exact bodyPost_ret (v := .tuple #[.agg #[.bool false, .slice A 0 c, .slice B m2 c2], .int .i64 0]) (by simp [results, Tryz.results65, go_sem, z0, z1, z2]) rfl ⟨_, rfl, FIN3.out _ hk, K3.out.trans hk (fun k hk e => by unfold Kq.One at e; omega)⟩
end Go.Proofs.YtakgcnjpmpcekaaGreat
