/- Fractions: QFloor, floor, ceil: walks. · Rows of fractions: plain facts. -/
import Derived.Test.YtamjhpdgclbfgaaXNtn
namespace Go.Proofs.Ytamjhpdgclbfgaa
open Go.RowKit Go.Kq

theorem qat_one {w : World} {g : Nat} {t : TypeId} {n1 d1 : Value} {a : Rat} {s1 : Bool} (hh : w.heap[g]? = some (.cells #[.bool s1, n1, d1] t (0, 0))) (h1 : negQ a = s1) (ha : IsQuo w (.agg #[.bool s1, n1, d1]) a 300) : QAt w g [a] := by
  subst h1
  intro i q hq
  match i, hq with
  | 0, hq => simp at hq; subst hq; exact ⟨n1, d1, by rw [cell_of_row _ _ _ _ _ _ hh]; rfl, by rw [cell_of_row _ _ _ _ _ _ hh]; rfl, by rw [cell_of_row _ _ _ _ _ _ hh]; rfl, ha⟩
  | i + 1, hq => simp at hq
theorem two_newQ (w : World) (o1 o2 : Obj) : ((w.alloc o1).alloc o2).heap[w.heap.size]? = some o1 ∧ ((w.alloc o1).alloc o2).heap[w.heap.size + 1]? = some o2 ∧ Kp No w ((w.alloc o1).alloc o2) := by
  refine ⟨?_, ?_, (Kp.alloc _ _ _).tr (Kp.alloc _ _ _)⟩
  · rw [Below.heap_alloc _ _ _ (by simp), heap_alloc_new]
  · have := heap_alloc_new (w.alloc o1) o2
    simpa using this
/-- The whole part of a fraction, without its sign. -/
def flN (q : Rat) : Nat := q.num.natAbs / q.den + (if negQ q then (if 0 < q.num.natAbs % q.den then 1 else 0) else 0)
theorem floor_fl (q : Rat) : q.floor = sgn (negQ q) (flN q) := by
  rw [floor_low]
  unfold flN sgn
  cases negQ q <;> simp
set_option maxHeartbeats 1000000 in
set_option maxRecDepth 100000 in
theorem qfloor_is (u : Value) (a : Rat) (k : Nat) (w : World) (hu : IsQuo w u a k) (hk : k ≤ 200) :
    Calls Try.prog 105 #[u] w fun e w' => ∃ z, e = .returned (.tuple #[.bool (negQ a), z, .int .i64 0]) ∧ IsNat w' z (flN a) (k + 3) ∧ Kp No w w' := by
  have hu0 := hu
  obtain ⟨n1, d1, rfl, hn1, hd1⟩ := hu
  have hfl : flN a = a.num.natAbs / a.den + (if negQ a = true then (if 0 < a.num.natAbs % a.den then 1 else 0) else 0) := rfl
  obtain ⟨s1, hs1⟩ : ∃ s, negQ a = s := ⟨_, rfl⟩
  rw [hs1] at hu0 hfl ⊢
  have BQ := Lib.hid (fun (g : Nat) (w0 : World) (hk0 : Kp No w w0) (hh : w0.heap[g]? = some (.cells #[.bool s1, n1, d1] 97 (0, 0))) => badq_is g 1 1 [a] w0 rfl (by omega) (qat_one hh hs1 ((hu0.no hk0).le (by omega))))
  have DI := Lib.hid (fun (w0 : World) (hk0 : Kp No w w0) => divide_is n1 d1 _ _ k k w0 (hn1.no hk0) (hd1.no hk0) (by omega) (by omega) a.den_pos)
  generalize flN a = fl at *
  generalize a.num.natAbs = x1 at *
  generalize a.den = y1 at *
  obtain ⟨A1, m1, c1, _, rfl, _⟩ := hn1.pos
  obtain ⟨A2, m2, c2, _, rfl, _⟩ := hd1.pos
  clear hn1 hd1 hu0 hs1
  obtain ⟨h1, h2, KA⟩ := two_newQ w (.cells #[.bool s1, .slice A1 m1 c1, .slice A2 m2 c2] 97) (.cells #[.bool s1, .slice A1 m1 c1, .slice A2 m2 c2] 97)
  replace h1 := Lib.hid h1
  replace h2 := Lib.hid h2
  replace KA := Lib.hid KA
  generalize x1 / y1 = Q at *
  generalize x1 % y1 = R at *
  replace hfl := Lib.hid hfl
  go_enter Try.func105, Try.ntmps105
  go_wp2_with fail
  refine (BQ.out _ _ KA.out h2.out).mono ?_
  rintro _ wb ⟨rfl, kb⟩
  have KB := Lib.hid (KA.out.tr kb)
  have HB1 := kb.heap h1.out id
  obtain ⟨a0, a1, a2, _⟩ := three_cells HB1
  clear h1 h2 KA kb BQ
  replace HB1 := Lib.hid HB1
  go_wp2_with fail
  refine (DI.out _ KB.out).mono ?_
  rintro _ wc ⟨q, r, rfl, hq, hr, kc⟩
  have KC := Lib.hid (KB.out.tr kc)
  obtain ⟨b0, b1, b2, _⟩ := three_cells (kc.heap HB1.out id)
  have HQ := Lib.hid hq.1
  obtain ⟨B, m3, c3, _, rfl, _, _, _, g3⟩ := hr.pos
  clear hr hq kc a0 a1 a2 KB
  cases s1
  · have hf := hfl.out
    simp only [Bool.false_eq_true, if_false, Nat.add_zero] at hf
    subst hf
    go_wp2_with fail
    refine bodyPost_ret (v := .tuple #[.bool false, q, .int .i64 0]) (by simp [results, Try.results105, go_sem]) rfl ⟨q, rfl, HQ.out.le (by omega), KC.out⟩
  · by_cases hp : 0 < R
    · have hm3 : (0 : Int) < (m3 : Int) := by have := g3.2 hp; omega
      have hf := hfl.out
      rw [if_pos rfl, if_pos hp] at hf
      subst hf
      clear g3 hp hfl
      have K9 := Lib.hid (show k + 2 + 1 ≤ k + 3 ∧ k ≤ 1000 by omega)
      go_wp2_with fail
      refine (ofone_any _).mono ?_
      rintro _ wd ⟨v, rfl, hv, kd⟩
      have PL := Lib.hid (plus_new q v Q 1 k 2 (k + 3) wd (HQ.out.no kd) hv.1 K9.out.2 (by omega) K9.out.1)
      have KD := Lib.hid (KC.out.tr kd)
      have d0 := kd.cell b0 id
      clear b0 b1 b2 kd hv
      go_wp2_with fail
      refine PL.out.mono ?_
      rintro _ we ⟨z, rfl, hz, ke⟩
      have HZ := Lib.hid hz.1
      have KE := Lib.hid (KD.out.tr ke)
      have e0 := ke.cell d0 id
      clear d0 ke hz
      go_wp2_with fail
      refine bodyPost_ret (v := .tuple #[.bool true, z, .int .i64 0]) (by simp [results, Try.results105, go_sem]) rfl ⟨z, rfl, HZ.out, KE.out⟩
    · obtain rfl : m3 = 0 := by
        rcases Nat.eq_zero_or_pos m3 with h | h
        · exact h
        · exact absurd (g3.1 h) hp
      have hf := hfl.out
      rw [if_pos rfl, if_neg hp, Nat.add_zero] at hf
      subst hf
      clear g3 hp hfl
      go_wp2_with fail
      refine bodyPost_ret (v := .tuple #[.bool true, q, .int .i64 0]) (by simp [results, Try.results105, go_sem]) rfl ⟨q, rfl, HQ.out.le (by omega), KC.out⟩
/-- Whether a whole number is from -2^62 to 2^62. -/
def in62 (z : Int) : Bool := decide (-4611686018427387904 ≤ z ∧ z ≤ 4611686018427387904)
def flV (z : Int) : Value := if in62 z then .tuple #[.int .i64 z, .bool true] else .tuple #[.int .i64 0, .bool false]
set_option maxHeartbeats 1000000 in
set_option maxRecDepth 100000 in
theorem floor_is (u : Value) (a : Rat) (k : Nat) (w : World) (hu : IsQuo w u a k) (hk : k ≤ 200) :
    Calls Try.prog 79 #[u] w fun e w' => e = .returned (flV a.floor) ∧ Kp No w w' := by
  have FL := Lib.hid (fun (w0 : World) (hk0 : Kp No w w0) => qfloor_is u a k w0 (hu.no hk0) hk)
  have hfl := floor_fl a
  obtain ⟨n1, d1, rfl, hn1, hd1⟩ := hu
  obtain ⟨A1, m1, c1, _, rfl, _⟩ := hn1.pos
  obtain ⟨A2, m2, c2, _, rfl, _⟩ := hd1.pos
  clear hn1 hd1
  rw [hfl]
  generalize flN a = x at *
  generalize negQ a = s at *
  have SM := Lib.hid (fun (w0 : World) (z : Value) (hz : IsNat w0 z x (k + 3)) => small_is z x (k + 3) w0 hz (by omega))
  obtain ⟨fv, hfv⟩ : ∃ v, flV (sgn s x) = v := ⟨_, rfl⟩
  rw [hfv]
  unfold flV in62 sgn at hfv
  clear hfl
  replace hfv := Lib.hid hfv
  have KA := Lib.hid (Kp.alloc No w (.cells #[.bool s, .slice A1 m1 c1, .slice A2 m2 c2] 97))
  go_enter Try.func79, Try.ntmps79
  go_wp2_with fail
  refine (FL.out _ KA.out).mono ?_
  rintro _ wb ⟨z, rfl, hz, kb⟩
  have S2 := SM.out wb z hz
  have KB := Lib.hid (KA.out.tr kb)
  clear hz kb KA FL SM
  unfold smallV at S2
  by_cases hx : x < 18446744073709551616
  · rw [if_pos hx] at S2
    by_cases hx2 : x ≤ 4611686018427387904
    · have w1 : IntKind.i64.wrap (x : Int) = (x : Int) := by rw [IntKind.wrap_i64]; omega
      have w2 : IntKind.i64.wrap (-(x : Int)) = -(x : Int) := by rw [IntKind.wrap_i64]; omega
      have hx3 : ¬ (4611686018427387904 : Int) < (x : Int) := by omega
      have hf := hfv.out
      rw [if_pos (by rw [decide_eq_true_eq]; split <;> omega)] at hf
      subst hf
      obtain ⟨X, hX⟩ : ∃ X : Int, (x : Int) = X := ⟨_, rfl⟩
      rw [hX] at S2 w1 w2 hx3
      replace S2 := Lib.hid S2
      have HX := Lib.hid hX
      clear hX hx hx2 hfv
      go_wp2_with fail
      refine S2.out.mono ?_
      rintro _ wc ⟨rfl, kc⟩
      have KC := Lib.hid (KB.out.tr kc)
      clear kc
      cases s
      · go_wp2_with fail
        refine bodyPost_ret (v := .tuple #[.int .i64 X, .bool true]) (by simp [results, Try.results79, go_sem]) rfl ⟨by simp [HX.out], KC.out⟩
      · go_wp2_with fail
        refine bodyPost_ret (v := .tuple #[.int .i64 (-X), .bool true]) (by simp [results, Try.results79, go_sem]) rfl ⟨by simp [HX.out], KC.out⟩
    · have hx3 : (4611686018427387904 : Int) < (x : Int) := by omega
      have hf := hfv.out
      rw [if_neg (by rw [decide_eq_true_eq]; split <;> omega)] at hf
      subst hf
      obtain ⟨X, hX⟩ : ∃ X : Int, (x : Int) = X := ⟨_, rfl⟩
      rw [hX] at S2 hx3
      replace S2 := Lib.hid S2
      clear hX hx hx2 hfv
      go_wp2_with fail
      refine S2.out.mono ?_
      rintro _ wc ⟨rfl, kc⟩
      have KC := Lib.hid (KB.out.tr kc)
      clear kc
      go_wp2_with fail
      refine bodyPost_ret (v := .tuple #[.int .i64 0, .bool false]) (by simp [results, Try.results79, go_sem]) rfl ⟨rfl, KC.out⟩
  · rw [if_neg hx] at S2
    have hf := hfv.out
    rw [if_neg (by rw [decide_eq_true_eq]; split <;> omega)] at hf
    subst hf
    replace S2 := Lib.hid S2
    clear hx hfv
    go_wp2_with fail
    refine S2.out.mono ?_
    rintro _ wc ⟨rfl, kc⟩
    have KC := Lib.hid (KB.out.tr kc)
    clear kc
    go_wp2_with fail
    refine bodyPost_ret (v := .tuple #[.int .i64 0, .bool false]) (by simp [results, Try.results79, go_sem]) rfl ⟨rfl, KC.out⟩
set_option maxHeartbeats 1000000 in
set_option maxRecDepth 100000 in
theorem ceil_is (u : Value) (a : Rat) (k : Nat) (w : World) (hu : IsQuo w u a k) (hk : k ≤ 200) :
    Calls Try.prog 80 #[u] w fun e w' => e = .returned (flV a.ceil) ∧ Kp No w w' := by
  have hc := Rat.ceil_eq_neg_floor_neg a
  obtain ⟨t1, t2, t3⟩ := neg_low a
  obtain ⟨n1, d1, rfl, hn1, hd1⟩ := hu
  obtain ⟨A1, m1, c1, _, rfl, _, _, _, g⟩ := hn1.pos
  obtain ⟨A2, m2, c2, _, rfl, _⟩ := hd1.pos
  have FL := Lib.hid (fun (w0 : World) (b : Bool) (hb : b = (!negQ a && decide (0 < m1))) (hk0 : Kp No w w0) => floor_is (.agg #[.bool b, .slice A1 m1 c1, .slice A2 m2 c2]) (-a) k w0 ⟨.slice A1 m1 c1, .slice A2 m2 c2, by rw [t1, hb, decide_eq_decide.2 g], by rw [t2]; exact hn1.no hk0, by rw [t3]; exact hd1.no hk0⟩ hk)
  rw [hc]
  generalize (-a).floor = z at *
  generalize negQ a = s at *
  have hv : flV (-z) = if in62 z then .tuple #[.int .i64 (-z), .bool true] else .tuple #[.int .i64 0, .bool false] := by
    unfold flV
    have : in62 (-z) = in62 z := by
      unfold in62
      rw [decide_eq_decide]
      omega
    rw [this]
  rw [hv]
  unfold flV at FL
  have hw1 : in62 z = true → IntKind.i64.wrap (-z) = -z := fun h => by unfold in62 at h; simp at h; rw [IntKind.wrap_i64]; omega
  clear hn1 hd1 t1 t2 t3 hc hv g
  have KA := Lib.hid (Kp.alloc No w (.cells #[.bool s, .slice A1 m1 c1, .slice A2 m2 c2] 97))
  cases hz : in62 z
  · rw [hz] at FL
    simp only [Bool.false_eq_true, if_false] at FL ⊢
    cases s
    all_goals
      go_enter Try.func80, Try.ntmps80
      go_wp2_with fail
      refine (FL.out _ _ (by simp) KA.out).mono ?_
      rintro _ wb ⟨rfl, kb⟩
      have KB := Lib.hid (KA.out.tr kb)
      clear kb
      go_wp2_with fail
      refine bodyPost_ret (v := .tuple #[.int .i64 0, .bool false]) (by simp [results, Try.results80, go_sem]) rfl ⟨rfl, KB.out⟩
  · rw [hz] at FL
    have hw2 := hw1 hz
    simp only [if_true] at FL ⊢
    cases s
    all_goals
      go_enter Try.func80, Try.ntmps80
      go_wp2_with fail
      refine (FL.out _ _ (by simp) KA.out).mono ?_
      rintro _ wb ⟨rfl, kb⟩
      have KB := Lib.hid (KA.out.tr kb)
      clear kb
      go_wp2_with fail
      refine bodyPost_ret (v := .tuple #[.int .i64 (-z), .bool true]) (by simp [results, Try.results80, go_sem]) rfl ⟨rfl, KB.out⟩
end Go.Proofs.Ytamjhpdgclbfgaa

namespace Go.Proofs.Ytamjhpdgclbfgaa
open Go.RowKit Go.Kq

/-- The block of limbs of a number that has some. -/
def NatBlk (v : Value) (b : Nat) : Prop := ∃ o n c, v = .slice (some ⟨b, o, none⟩) n c ∧ 0 < n
theorem IsNat.kpB {S : Nat → Prop} {w w' : World} {v : Value} {N k : Nat} (h : IsNat w v N k) (hk : Kp S w w') (hS : ∀ b, NatBlk v b → ¬ S b) : IsNat w' v N k := by
  obtain ⟨A, n, c, l, rfl, h2, h3⟩ := h
  refine ⟨A, n, c, l, rfl, ⟨h2.len, fun i x hx => ?_, h2.small⟩, h3⟩
  have hi := (List.getElem?_eq_some_iff.1 hx).1
  have hl := h2.len
  obtain ⟨b, o, hA, hb, hc⟩ := h2.at_ i x hx
  subst hA
  exact ⟨b, o, rfl, Nat.lt_of_lt_of_le hb hk.size, hk.cell hc (hS b ⟨o, n, c, rfl, by omega⟩)⟩
theorem IsNat.blk {w : World} {v : Value} {N k b : Nat} (h : IsNat w v N k) (hb : NatBlk v b) : b < w.heap.size := by
  obtain ⟨A, n, c, l, rfl, h2, h3⟩ := h
  obtain ⟨o, n', c', e, hn⟩ := hb
  injection e with e1 e2 e3
  subst e1 e2
  have hl := h2.len
  obtain ⟨x, hx⟩ : ∃ x, l[0]? = some x := ⟨_, List.getElem?_eq_getElem (by omega)⟩
  obtain ⟨b', o', hA, hb, _⟩ := h2.at_ 0 x hx
  injection hA with hA
  injection hA with hA
  omega
theorem FreshV.blk {g b : Nat} {v : Value} (h : FreshV g v) (hb : NatBlk v b) : g ≤ b := by
  obtain ⟨o, n, c, rfl, _⟩ := hb
  exact h b rfl
def qC (e : Bool × Value × Value) : List Value := [.bool e.1, e.2.1, e.2.2]
theorem qC_len (e : Bool × Value × Value) : (qC e).length = 3 := rfl
/-- A row of fractions. -/
structure QEl (wr : World) (v : Value) (K : Nat) (e : Bool × Value × Value) (q : Rat) : Prop where
  s : e.1 = negQ q
  n : IsNat wr e.2.1 q.num.natAbs K
  d : IsNat wr e.2.2 q.den K
  nb : ∀ b, NatBlk e.2.1 b → v.ownBlock ≠ some b
  db : ∀ b, NatBlk e.2.2 b → v.ownBlock ≠ some b
def RowQ (base : Nat) (wr : World) (v : Value) (qs : List Rat) (K : Nat) : Prop := ∃ es : List (Bool × Value × Value), es.length = qs.length ∧ wr.ownsRow base 97 3 v qs.length (es.flatMap qC) ∧ ∀ (i : Nat) e q, es[i]? = some e → qs[i]? = some q → QEl wr v K e q
theorem RowQ.nil (base : Nat) (w : World) (K : Nat) : RowQ base w (.slice none 0 0) [] K := ⟨[], rfl, World.ownsRow_nil w _ _ _, fun i e q h => by simp at h⟩
theorem QEl.no {w w' : World} {v : Value} {K : Nat} {e : Bool × Value × Value} {q : Rat} (h : QEl w v K e q) (hk : Kp No w w') : QEl w' v K e q := ⟨h.s, h.n.no hk, h.d.no hk, h.nb, h.db⟩
theorem RowQ.no {base : Nat} {w w' : World} {v : Value} {qs : List Rat} {K : Nat} (h : RowQ base w v qs K) (hk : Kp No w w') : RowQ base w' v qs K := by
  obtain ⟨es, h1, h2, h3⟩ := h
  exact ⟨es, h1, own_kp h2 hk (fun _ _ h => h), fun i e q he hq => (h3 i e q he hq).no hk⟩
theorem RowQ.kp {S : Nat → Prop} {base : Nat} {w w' : World} {v : Value} {qs : List Rat} {K : Nat} (h : RowQ base w v qs K) (hk : Kp S w w') (hS : ∀ k, k < w.heap.size → ¬ S k) : RowQ base w' v qs K := h.no (hk.mono fun k h1 h2 => hS k h1 h2)
theorem RowQ.form {base : Nat} {w : World} {v : Value} {qs : List Rat} {K : Nat} (h : RowQ base w v qs K) : ∃ a c, v = .slice a qs.length c ∧ qs.length ≤ c ∧ c ≤ maxLen := by
  obtain ⟨es, h1, h2, h3⟩ := h
  obtain ⟨a, c, h4, h5, h6, _⟩ := own_form h2
  exact ⟨a, c, h4, h5, h6⟩
theorem RowQ.snoc {base : Nat} {wr w1 w5 : World} {v v' : Value} {qs : List Rat} {q : Rat} {K B : Nat} {n d : Value} {m : Nat} (hm : qs.length = m) (hw : Kp No wr w1) (hn : IsNew (B + 1) w1 n q.num.natAbs K) (hd : IsNew (B + 1) w1 d q.den K) (hB : wr.heap.size ≤ B)
    (hgrow : w1.grownBy w5 v.ownBlock) (hat : v'.ownBlock = v.ownBlock ∨ v'.ownBlock = some w1.heap.size) (es : List (Bool × Value × Value)) (he1 : es.length = qs.length) (he2 : wr.ownsRow base 97 3 v m (es.flatMap qC)) (he3 : ∀ (i : Nat) e q, es[i]? = some e → qs[i]? = some q → QEl wr v K e q)
    (hown : w5.ownsRow base 97 3 v' (m + 1) (es.flatMap qC ++ [.bool (negQ q), n, d])) : RowQ base w5 v' (qs ++ [q]) K := by
  subst hm
  have hk : Kp (fun k => v.ownBlock = some k) w1 w5 := Kp.grown hgrow fun k hk _ => hk
  have fresh : ∀ b, NatBlk n b ∨ NatBlk d b → v.ownBlock ≠ some b := fun b hb e => by
    have h1 := (own_ge he2 e).2
    rcases hb with hb | hb
    · have := hn.2.blk hb; omega
    · have := hd.2.blk hb; omega
  have turn : ∀ x : Value, (∀ b, NatBlk x b → v.ownBlock ≠ some b) → (∀ b, NatBlk x b → b < w1.heap.size) → ∀ b, NatBlk x b → v'.ownBlock ≠ some b := fun x h1 h2 b hb e => by
    rcases hat with hat | hat
    · exact h1 b hb (hat ▸ e)
    · rw [hat] at e
      have := h2 b hb
      injection e with e
      omega
  refine ⟨es ++ [(negQ q, n, d)], by simp [he1], by simpa [qC] using hown, fun i e r he hr => ?_⟩
  rcases Nat.lt_or_ge i es.length with hi | hi
  · rw [List.getElem?_append_left hi] at he
    rw [List.getElem?_append_left (by omega)] at hr
    have hE := (he3 i e r he hr).no hw
    exact ⟨hE.s, hE.n.kpB hk (fun b hb e => hE.nb b hb e), hE.d.kpB hk (fun b hb e => hE.db b hb e), turn _ hE.nb (fun b hb => hE.n.blk hb), turn _ hE.db (fun b hb => hE.d.blk hb)⟩
  · rw [List.getElem?_append_right hi] at he
    rw [List.getElem?_append_right (by omega)] at hr
    have h0 : i - es.length = 0 := by
      rcases Nat.eq_zero_or_pos (i - es.length) with h | h
      · exact h
      · rw [List.getElem?_eq_none (by simp; omega)] at he
        cases he
    rw [h0] at he
    rw [← he1, h0] at hr
    simp at he hr
    subst he hr
    exact ⟨rfl, hn.1.kpB hk (fun b hb e => fresh b (.inl hb) e), hd.1.kpB hk (fun b hb e => fresh b (.inr hb) e), turn _ (fun b hb => fresh b (.inl hb)) (fun b hb => hn.1.blk hb), turn _ (fun b hb => fresh b (.inr hb)) (fun b hb => hd.1.blk hb)⟩
/-- Fractions that lie in memory one behind the other, of at most K limbs. -/
def QAtK (K : Nat) (w : World) (b : Nat) (qs : List Rat) : Prop := ∀ (i : Nat) q, qs[i]? = some q → ∃ n d, w.cell? ⟨b, i * 3, none⟩ = some (.bool (negQ q)) ∧ w.cell? ⟨b, i * 3 + 1, none⟩ = some n ∧ w.cell? ⟨b, i * 3 + 2, none⟩ = some d ∧ IsQuo w (.agg #[.bool (negQ q), n, d]) q K
theorem RowQ.at_ {base : Nat} {w : World} {v : Value} {qs : List Rat} {K : Nat} (h : RowQ base w v qs K) (hp : 0 < qs.length) : ∃ g c, v = .slice (some ⟨g, 0, none⟩) qs.length c ∧ QAtK K w g qs := by
  obtain ⟨es, h1, h2, h3⟩ := h
  obtain ⟨a, c, rfl, _, _, h6⟩ := own_form h2
  obtain ⟨g, rfl⟩ := h6 hp
  refine ⟨g, c, rfl, fun i q hq => ?_⟩
  have hi := (List.getElem?_eq_some_iff.1 hq).1
  obtain ⟨e, he⟩ : ∃ e, es[i]? = some e := ⟨_, List.getElem?_eq_getElem (by omega)⟩
  have hE := h3 i e q he hq
  have c0 := own_cell h2 (flat_at qC_len es i e 0 _ he rfl)
  have c1 := own_cell h2 (flat_at qC_len es i e 1 _ he rfl)
  have c2 := own_cell h2 (flat_at qC_len es i e 2 _ he rfl)
  rw [hE.s] at c0
  exact ⟨e.2.1, e.2.2, c0, c1, c2, ⟨_, _, rfl, hE.n, hE.d⟩⟩
theorem QuoNew.le {g : Nat} {w : World} {v : Value} {q : Rat} {k k' : Nat} (h : QuoNew g w v q k) (hk : k ≤ k') : QuoNew g w v q k' := by
  obtain ⟨n, d, h1, h2, h3⟩ := h
  exact ⟨n, d, h1, ⟨h2.1.le hk, h2.2⟩, ⟨h3.1.le hk, h3.2⟩⟩
theorem newsQ (w : World) (a b c : Value) (t : TypeId) : ∀ j u, [a, b, c][j]? = some u → (w.alloc (.cells #[a, b, c] t)).cell? ((⟨w.heap.size, 0, none⟩ : Addr).add j) = some u := by
  intro j u hu
  rw [add_at, Nat.zero_add, cell_of_row _ _ _ _ _ _ (heap_alloc_new w _)]
  simpa using hu
theorem infoQ : (Try.prog.info? 97).map (fun i => (i.zero, i.size, i.bytes)) = some (some (.agg #[.bool false, .slice none 0 0, .slice none 0 0]), 3, 56) := by kernel_rfl
theorem row_ints {w : World} {g : Nat} {t : TypeId} {a b : Int} (h : w.heap[g]? = some (.cells #[.int .i64 a, .int .i64 b] t (0, 0))) (i : Nat) (x : Int) (hx : [a, b][i]? = some x) : w.cell? ⟨g, i, none⟩ = some (.int .i64 x) := by
  match i, hx with
  | 0, hx => simp at hx; subst hx; rw [cell_of_row _ _ _ _ _ _ h]; rfl
  | 1, hx => simp at hx; subst hx; rw [cell_of_row _ _ _ _ _ _ h]; rfl
  | i + 2, hx => simp at hx

end Go.Proofs.Ytamjhpdgclbfgaa
