/- A slice of elements of several cells that begins anywhere in a block of the call's own: appended to. No program in sight. · Chapter 09: the reference's higher and falling: the order of cuts. · A walk stops at a load of a given slot. No program in sight. · Chapter 09: the reference's from, valid, cuts. -/
import Derived.Maps.AppendAt
import Derived.ArgAppend
import Derived.Deep.RegionLaw
import Derived.Deep.CutBlock
import Derived.Deep.CutRange
import Derived.Sort.Grow
import Derived.BigQuiet
import Derived.StillTailTactics
import Derived.TacticsIn
import Derived.Test.YtamjhpdgclbfgaaXLibRowM
import Derived.Test.YtamjhpdgclbfgaaXSsQM
import Derived.Test.YtamjhpdgclbfgaaXSpaM
import Derived.Test.YtamjhpdgclbfgaaXLibBitM
namespace Go.Kq
open Go.RowKit

/-- n elements of s cells each, from an offset on. -/
def Qs (w : World) (base : Nat) (e : TypeId) (s g off cap n : Nat) (xs : List Value) : Prop :=
  ∃ cur, base ≤ g ∧ w.heap[g]? = some (.cells cur e (0, 0)) ∧ xs.length = n * s ∧ n ≤ cap ∧ off + cap * s ≤ cur.size ∧ ∀ j u, xs[j]? = some u → cur[off + j]? = some u
/-- Such a slice, nil too. -/
def Qv (w : World) (base : Nat) (e : TypeId) (s : Nat) (v : Value) (n : Nat) (xs : List Value) : Prop :=
  (v = .slice none 0 0 ∧ n = 0 ∧ xs = []) ∨ ∃ g off cap, v = .slice (some ⟨g, off, none⟩) n cap ∧ Qs w base e s g off cap n xs
theorem Qv.kp {S : Nat → Prop} {w w' : World} {base : Nat} {e : TypeId} {s : Nat} {v : Value} {n : Nat} {xs : List Value} (h : Qv w base e s v n xs) (hk : Kp S w w') (hS : ∀ g, base ≤ g → ¬ S g) : Qv w' base e s v n xs := by
  rcases h with h | ⟨g, off, cap, h1, cur, h2, h3, h4⟩
  · exact .inl h
  · exact .inr ⟨g, off, cap, h1, cur, h2, hk.heap h3 (hS g h2), h4⟩
theorem Qv.form {w : World} {base : Nat} {e : TypeId} {s : Nat} {v : Value} {n : Nat} {xs : List Value} (h : Qv w base e s v n xs) : ∃ a cap, v = .slice a n cap ∧ n ≤ cap := by
  rcases h with ⟨rfl, rfl, _⟩ | ⟨g, off, cap, rfl, cur, _, _, _, h4, _⟩
  · exact ⟨none, 0, rfl, Nat.le_refl _⟩
  · exact ⟨_, cap, rfl, h4⟩
theorem Qs.of_own {w : World} {base n cap g : Nat} {e : TypeId} {s : Nat} {xs : List Value} (h : w.ownsRow base e s (.slice (some ⟨g, 0, none⟩) n cap) n xs) : Qs w base e s g 0 cap n xs := by
  rcases h.2 with ⟨h0, _⟩ | ⟨g', cap', cur, hv, hb, hg, h1, h2, h3, h4⟩
  · cases h0
  · cases hv
    refine ⟨cur, hb, hg, h.1, h1, by omega, fun j u hj => ?_⟩
    rw [← h4, List.getElem?_take] at hj
    split at hj
    · rw [Nat.zero_add]
      simpa using hj
    · cases hj
theorem Qv.of_own {w : World} {base n : Nat} {e : TypeId} {s : Nat} {v : Value} {xs : List Value} (h : w.ownsRow base e s v n xs) : Qv w base e s v n xs := by
  rcases h.2 with ⟨h0, h1⟩ | ⟨g', cap', cur, rfl, _⟩
  · have hl := h.1
    rw [h1, Nat.zero_mul] at hl
    exact .inl ⟨h0, h1, List.length_eq_zero_iff.1 hl⟩
  · exact .inr ⟨g', 0, cap', rfl, Qs.of_own h⟩
/-- The rest of a row behind its first k elements. -/
theorem Qs.drop {w : World} {base g off cap n k : Nat} {e : TypeId} {s : Nat} {xs : List Value} (h : Qs w base e s g off cap n xs) (hk : k ≤ n) : Qs w base e s g (off + k * s) (cap - k) (n - k) (xs.drop (k * s)) := by
  obtain ⟨cur, h1, h2, h3, h4, h5, h6⟩ := h
  have e1 : (cap - k) * s = cap * s - k * s := Nat.sub_mul _ _ _
  have e2 : (n - k) * s = n * s - k * s := Nat.sub_mul _ _ _
  have e3 : k * s ≤ cap * s := Nat.mul_le_mul_right _ (by omega)
  refine ⟨cur, h1, h2, by rw [List.length_drop]; omega, by omega, by omega, fun j u hj => ?_⟩
  rw [List.getElem?_drop] at hj
  rw [Nat.add_assoc]
  exact h6 _ u hj
theorem Qs.none {w : World} {base g off cap n : Nat} {e : TypeId} {s : Nat} {xs : List Value} (h : Qs w base e s g off cap n xs) : Qs w base e s g off 0 0 [] := by
  obtain ⟨cur, h1, h2, h3, h4, h5, h6⟩ := h
  exact ⟨cur, h1, h2, by simp, by omega, by simp; omega, fun j u hj => by simp at hj⟩
theorem setCells_heap {w : World} {g : Nat} {cur : Array Value} {e : TypeId} {m : Nat × Nat} (h : w.heap[g]? = some (.cells cur e m)) : ∀ (news : List Value) (o : Nat), ∃ cur', (w.setCells g o news).heap[g]? = some (.cells cur' e m) ∧ cur'.size = cur.size ∧ (∀ i, i < o → cur'[i]? = cur[i]?) ∧ (∀ j u, news[j]? = some u → o + j < cur.size → cur'[o + j]? = some u) := by
  intro news
  induction news generalizing w cur with
  | nil => exact fun o => ⟨cur, by simpa [World.setCells] using h, rfl, fun _ _ => rfl, fun j u hj => by simp at hj⟩
  | cons x news ih =>
    intro o
    have h1 : (w.setCell ⟨g, o, none⟩ x).heap[g]? = some (.cells (cur.setIfInBounds o x) e m) := by simp [World.setCell, Array.getElem?_modify, h]
    obtain ⟨cur', g1, g2, g3, g4⟩ := ih h1 (o + 1)
    refine ⟨cur', by simpa [World.setCells] using g1, by simpa using g2, fun i hi => ?_, fun j u hj hlt => ?_⟩
    · rw [g3 i (by omega), Array.getElem?_setIfInBounds_ne (by omega)]
    · match j, hj with
      | 0, hj =>
        simp at hj
        subst hj
        rw [Nat.add_zero, g3 o (by omega), Array.getElem?_setIfInBounds_self_of_lt (by omega)]
      | j + 1, hj =>
        have := g4 j u (by simpa using hj) (by simp; omega)
        rw [show o + (j + 1) = o + 1 + j by omega]
        exact this
theorem kp_setCells (w : World) (g : Nat) : ∀ (news : List Value) (o : Nat), Kp (One g) w (w.setCells g o news) := by
  intro news
  induction news generalizing w with
  | nil => exact fun o => by simpa [World.setCells] using Kp.refl (One g) w
  | cons x news ih =>
    intro o
    have h := (kp_setOne w g o x).tr (ih (w.setCell ⟨g, o, none⟩ x) (o + 1))
    simpa [World.setCells] using h
section
variable {P : Program} (w : World)
theorem run_append_qv (base : Nat) (t ty e : TypeId) (i : TypeInfo) (z : Value) (s bytes : Nat) (ht : P.underlying t = some (.slice e)) (hi : P.info? e = some i) (hz : i.zero = some z)
    (hsize : i.size = s) (hby : i.bytes = bytes) (hzs : z.cells.size = s) (hs : 0 < s) (v : Value) (n : Nat) (xs : List Value) (hq : Qv w base e s v n xs)
    (a : Addr) (c : Nat) (news : List Value) (hl : news.length = 1 * s) (hnews : ∀ j u, news[j]? = some u → w.cell? (a.add j) = some u) (h1 : ∀ u ∈ news, u.oneCell' = true) (h63 : n + 1 ≤ maxLen) (hbytes : (n + 1) * bytes ≤ 140737488355328) (hbase : base ≤ w.heap.size) :
    ∃ v' w', (Builtin.append_ #[t, t] ty #[v, .slice (some a) 1 c]).run P w = .ok v' w' ∧ Qv w' base e s v' (n + 1) (xs ++ news) ∧ Kp (fun k => base ≤ k) w w' := by
  rcases hq with ⟨rfl, rfl, rfl⟩ | ⟨g, off, cap, rfl, cur, q1, q2, q3, q4, q5, q6⟩
  · obtain ⟨v', w', hr, h2, h3, _⟩ := run_append_own_at (P := P) w base t ty e i z s bytes ht hi hz hsize hby hzs hs (.slice none 0 0) 0 [] ⟨by simp, .inl ⟨rfl, rfl⟩⟩ a 1 c news hl hnews h1 h63 hbytes hbase
    exact ⟨v', w', hr, Qv.of_own h2, Kp.grown h3 fun k hk _ => by simp [Value.ownBlock] at hk⟩
  · have hes : (n + 1) * s = n * s + s := by rw [Nat.add_mul, Nat.one_mul]
    by_cases hroom : n + 1 ≤ cap
    · have hcs : (n + 1) * s ≤ cap * s := Nat.mul_le_mul_right _ hroom
      have hc : ∀ j, j < news.length → (w.cell? ⟨g, off + n * i.size + j, none⟩).isSome = true := fun j hj => by
        rw [cell_of_row w g _ cur e (0, 0) q2, hsize, Array.getElem?_eq_getElem (by omega)]
        rfl
      have hf : ∀ j, j < news.length → w.frozen? ⟨g, off + n * i.size + j, none⟩ = false := fun j _ => by simp [World.frozen?, q2]
      have hr := run_append_room_cells (P := P) w t ty e i ht hi g off n cap a 1 c news (by rw [hl, hsize]) hnews h1 hroom hc hf
      rw [hsize] at hr
      obtain ⟨cur', g1, g2, g3, g4⟩ := setCells_heap q2 news (off + n * s)
      refine ⟨_, _, hr, .inr ⟨g, off, cap, rfl, cur', q1, g1, by rw [List.length_append, q3, hl]; omega, hroom, by omega, fun j u hj => ?_⟩, (kp_setCells w g news _).mono fun k _ e => by have e2 : k = g := e; omega⟩
      rw [List.getElem?_append] at hj
      split at hj
      · rename_i hlt
        rw [g3 _ (by omega)]
        exact q6 j u hj
      · rename_i hge
        have hjn := (List.getElem?_eq_some_iff.1 hj).1
        have := g4 (j - xs.length) u hj (by omega)
        rw [show off + n * s + (j - xs.length) = off + j by omega] at this
        exact this
    · obtain ⟨v', w', hr, hown, hgr⟩ := run_append_arg_grows (P := P) w t ty e i z s bytes ht hi hz hsize hby hzs hs ⟨g, off, none⟩ n cap xs q3 (fun j u hj => by
        have : (⟨g, off, none⟩ : Addr).add j = ⟨g, off + j, none⟩ := by unfold Addr.add; split <;> simp_all
        rw [this, cell_of_row w g _ cur e (0, 0) q2]
        exact q6 j u hj) a 1 c news hl hnews (by omega) h63 hbytes
      exact ⟨v', w', hr, Qv.of_own (own_mono hown hbase), Kp.grown hgr fun k hk _ => by simp at hk⟩
theorem stepS_append_qv {ops : Array Oper} {o : Oper} {a : Act} {K : Act → World → Prop} {Q : Exit → Act → World → Prop} {E : Prop} (hgd : o.guard = none) (sx x : Operand) (t : TypeId)
    (ho : o.op = .call { callee := .builtin .append, args := #[sx, x], argTypes := #[t, t] })
    (base : Nat) (e : TypeId) (i : TypeInfo) (z : Value) (s bytes : Nat) (ht : P.underlying t = some (.slice e)) (hi : P.info? e = some i) (hz : i.zero = some z)
    (hsize : i.size = s) (hby : i.bytes = bytes) (hzs : z.cells.size = s) (hs : 0 < s) (v : Value) (n : Nat) (xs : List Value) (hv : a.eval sx = v) (hq : Qv w base e s v n xs)
    (ad : Addr) (c : Nat) (news : List Value) (hx : a.eval x = .slice (some ad) 1 c) (hl : news.length = 1 * s) (hnews : ∀ j u, news[j]? = some u → w.cell? (ad.add j) = some u) (h1 : ∀ u ∈ news, u.oneCell' = true) (h63 : n + 1 ≤ maxLen) (hbytes : (n + 1) * bytes ≤ 140737488355328) (hbase : base ≤ w.heap.size) (nm : Nat) (hnm : n + 1 = nm) (ys : List Value) (hys : xs ++ news = ys)
    (h : ∀ v' w', Qv w' base e s v' nm ys → Kp (fun k => base ≤ k) w w' → K (a.put o.dst v') w') :
    if Region.wanted o (yielded ops a.tmps) = true then Oper.wp P o a w K Q else E := by
  subst hnm hys
  have hw : Region.wanted o (yielded ops a.tmps) = true := by simp [Region.wanted, hgd]
  rw [if_pos hw]
  obtain ⟨v', w', hr, h2, h3⟩ := run_append_qv (P := P) w base t o.type e i z s bytes ht hi hz hsize hby hzs hs v n xs hq ad c news hl hnews h1 h63 hbytes hbase
  unfold Oper.wp execOp
  simp only [ho, resolve, invoke, builtin, Sem.run_bind, Sem.run_pure, Result.andThen_ok, List.map_toArray, List.map_cons, List.map_nil, hv, hx, hr]
  exact h v' w' h2 h3
theorem wpL_append_qv {ops : Array Oper} {rest : List Oper} {o : Oper} {a : Act} {Q : Exit → Act → World → Prop} (hgd : o.guard = none) (sx x : Operand) (t : TypeId)
    (ho : o.op = .call { callee := .builtin .append, args := #[sx, x], argTypes := #[t, t] })
    (base : Nat) (e : TypeId) (i : TypeInfo) (z : Value) (s bytes : Nat) (ht : P.underlying t = some (.slice e)) (hi : P.info? e = some i) (hz : i.zero = some z)
    (hsize : i.size = s) (hby : i.bytes = bytes) (hzs : z.cells.size = s) (hs : 0 < s) (v : Value) (n : Nat) (xs : List Value) (hv : a.eval sx = v) (hq : Qv w base e s v n xs)
    (ad : Addr) (c : Nat) (news : List Value) (hx : a.eval x = .slice (some ad) 1 c) (hl : news.length = 1 * s) (hnews : ∀ j u, news[j]? = some u → w.cell? (ad.add j) = some u) (h1 : ∀ u ∈ news, u.oneCell' = true) (h63 : n + 1 ≤ maxLen) (hbytes : (n + 1) * bytes ≤ 140737488355328) (hbase : base ≤ w.heap.size)
    (h : ∀ v' w', Qv w' base e s v' (n + 1) (xs ++ news) → Kp (fun k => base ≤ k) w w' → wpList P ops Q rest (a.put o.dst v') w') :
    wpList P ops Q (o :: rest) a w := by
  refine wpList_plain hgd fun K hK => ?_
  obtain ⟨v', w', hr, h2, h3⟩ := run_append_qv (P := P) w base t o.type e i z s bytes ht hi hz hsize hby hzs hs v n xs hq ad c news hl hnews h1 h63 hbytes hbase
  unfold Oper.wp execOp
  simp only [ho, resolve, invoke, builtin, Sem.run_bind, Sem.run_pure, Result.andThen_ok, List.map_toArray, List.map_cons, List.map_nil, hv, hx, hr]
  exact hK _ _ (h v' w' h2 h3)
end
end Go.Kq

namespace Go.Proofs.Ytamjhpdgclbfgaa
open Go.RowKit Go.Kq

theorem ltB_at {l : List Ct} {i k : Nat} {x y : Ct} (hi : l[i]? = some x) (hk : l[k]? = some y) : ltB l i k = decide (y.h < x.h ∨ (y.h = x.h ∧ (y.w < x.w ∨ (y.w = x.w ∧ i < k)))) := by
  have e1 : l.getD i default = x := by rw [List.getD_eq_getElem?_getD, hi]; rfl
  have e2 : l.getD k default = y := by rw [List.getD_eq_getElem?_getD, hk]; rfl
  unfold ltB
  rw [decide_eq_decide, befF_neg, e1, e2]
theorem grow_none (w : World) : Sort.grow w #[] = w := by simp [Sort.grow]
theorem drew1 (w : World) (a : Nat) : ∃ q os, w.drewN a = Sort.grow (w.drewN q) os := ⟨a, #[], by rw [grow_none]⟩
theorem drew2 (w : World) (a b : Nat) : ∃ q os, (w.drewN a).drewN b = Sort.grow (w.drewN q) os := ⟨a + b, #[], by rw [grow_none, World.drewN_drewN]⟩
theorem drew3 (w : World) (a b c : Nat) : ∃ q os, ((w.drewN a).drewN b).drewN c = Sort.grow (w.drewN q) os := ⟨a + b + c, #[], by rw [grow_none, World.drewN_drewN, World.drewN_drewN, Nat.add_assoc]⟩
set_option maxHeartbeats 4000000 in
set_option maxRecDepth 100000 in
theorem higher_any (A : Option Addr) (n ca : Nat) (l : List Ct) (i k : Nat) (x y : Ct) (w : World) (hx : RdC w A n l) (hi : l[i]? = some x) (hk : l[k]? = some y) :
    Calls Try.prog 69 #[.slice A n ca, .int .i64 (i : Nat), .int .i64 (k : Nat)] w fun e w' => e = .returned (.bool (ltB l i k)) ∧ ∃ q os, w' = Sort.grow (w.drewN q) os := by
  have hin : i < n := by rw [← hx.1]; exact (List.getElem?_eq_some_iff.1 hi).1
  have hkn : k < n := by rw [← hx.1]; exact (List.getElem?_eq_some_iff.1 hk).1
  have hin' : (i : Int) < (n : Nat) := by omega
  have hkn' : (k : Int) < (n : Nat) := by omega
  obtain ⟨b, o, rfl, hb, hc⟩ := hx.2 i x hi
  obtain ⟨b', o', he, _, hc'⟩ := hx.2 k y hk
  cases he
  have c0 := hc 0 _ rfl
  have c1 := hc 1 _ rfl
  have d0 := hc' 0 _ rfl
  have d1 := hc' 1 _ rfl
  simp only [Nat.add_zero] at c0 d0
  have HL := Lib.hid (ltB_at hi hk)
  obtain ⟨xw, xh⟩ := x
  obtain ⟨yw, yh⟩ := y
  dsimp only at c0 c1 d0 d1 HL
  clear hc hc' hx hi hk
  go_enter Try.func69, Try.ntmps69
  go_wp2_with fail
  go_quiet (fail)
  by_cases hh : xh = yh
  · have h1 : (xh != yh) = false := by rw [hh]; simp
    go_wp2_with fail
    go_quiet (fail)
    by_cases hw : xw = yw
    · have h2 : (xw != yw) = false := by rw [hw]; simp
      go_wp2_with fail
      go_ret
      refine ⟨?_, by first | exact drew1 _ _ | exact drew2 _ _ _ | exact drew3 _ _ _ _⟩
      rw [HL.out]
      simp [hh, hw]
    · have h2 : (xw != yw) = true := bne_iff_ne.2 hw
      go_wp2_with fail
      go_quiet (fail)
      go_wp2_with fail
      (try simp only [Exit.inBlock, Exit.then])
      go_ret
      refine ⟨?_, by first | exact drew1 _ _ | exact drew2 _ _ _ | exact drew3 _ _ _ _⟩
      rw [HL.out]
      have : ¬ yw = xw := fun e => hw e.symm
      simp [hh, this]
  · have h1 : (xh != yh) = true := bne_iff_ne.2 hh
    go_wp2_with fail
    go_quiet (fail)
    go_wp2_with fail
    (try simp only [Exit.inBlock, Exit.then])
    go_ret
    refine ⟨?_, by first | exact drew1 _ _ | exact drew2 _ _ _ | exact drew3 _ _ _ _⟩
    rw [HL.out]
    have : ¬ yh = xh := fun e => hh e.symm
    simp [this]
end Go.Proofs.Ytamjhpdgclbfgaa

namespace Go.Kq
open Go.RowKit

theorem stopIn_load {F : Fence} {n : Nat} {P : Program} {ops : Array Oper} {Q : Exit → Act → World → Prop} {rest : List Oper} {A : Act} {w : World} {d : Option Tmp} {p : String} {aft : Array Edge} {g : Option (Nat × Bool)} {ty t : TypeId} (x : Nat)
    (h : Stop (wpListIn F n P ops Q ({ dst := d, op := Op.load t (Operand.tmp x), type := ty, pos := p, after := aft, guard := g } :: rest) A w)) : wpListIn F n P ops Q ({ dst := d, op := Op.load t (Operand.tmp x), type := ty, pos := p, after := aft, guard := g } :: rest) A w := h
theorem stop_load {P : Program} {ops : Array Oper} {Q : Exit → Act → World → Prop} {rest : List Oper} {A : Act} {w : World} {d : Option Tmp} {p : String} {aft : Array Edge} {g : Option (Nat × Bool)} {ty t : TypeId} (x : Nat)
    (h : Stop (wpList P ops Q ({ dst := d, op := Op.load t (Operand.tmp x), type := ty, pos := p, after := aft, guard := g } :: rest) A w)) : wpList P ops Q ({ dst := d, op := Op.load t (Operand.tmp x), type := ty, pos := p, after := aft, guard := g } :: rest) A w := h
end Go.Kq

namespace Go.Proofs.Ytamjhpdgclbfgaa
open Go.RowKit Go.Kq

theorem from_any (n a b : Int) (w : World) : Calls Try.prog 59 #[.int .i64 n, .int .i64 a, .int .i64 b] w fun e w' => e = .returned (.bool (!outB n a b)) ∧ w' = w := by
  unfold outB
  by_cases h1 : a ≤ n
  · by_cases h2 : n ≤ b
    · have e1 : decide (a ≤ n) = true := decide_eq_true h1
      have HE := Lib.hid (show (!(decide (n < a) || decide (b < n))) = true by rw [decide_eq_false (by omega), decide_eq_false (by omega)]; rfl)
      go_enter Try.func59, Try.ntmps59
      go_wp2
      go_ret
      first | exact ⟨rfl, rfl⟩ | exact ⟨by rw [HE.out]; rfl, rfl⟩
    · have e1 : decide (a ≤ n) = true := decide_eq_true h1
      have HE := Lib.hid (show (!(decide (n < a) || decide (b < n))) = false by rw [decide_eq_false (by omega), decide_eq_true (by omega)]; rfl)
      go_enter Try.func59, Try.ntmps59
      go_wp2
      go_ret
      first | exact ⟨rfl, rfl⟩ | exact ⟨by rw [HE.out]; rfl, rfl⟩
  · have e1 : decide (a ≤ n) = false := decide_eq_false h1
    have HE := Lib.hid (show (!(decide (n < a) || decide (b < n))) = false by rw [decide_eq_true (by omega)]; rfl)
    go_enter Try.func59, Try.ntmps59
    go_wp2
    go_ret
    first | exact ⟨rfl, rfl⟩ | exact ⟨by rw [HE.out]; rfl, rfl⟩
set_option maxHeartbeats 2000000 in
theorem valid_any (c : Ct) (w : World) : Calls Try.prog 58 #[c.val] w fun e w' => e = .returned (.bool (!badC c)) ∧ Kp No w w' := by
  have H1 := Lib.hid (fun w0 => from_any c.w 1 20000000 w0)
  have H2 := Lib.hid (fun w0 => from_any c.h 1 20000000 w0)
  unfold badC
  generalize outB c.w 1 20000000 = q1 at *
  generalize outB c.h 1 20000000 = q2 at *
  unfold Ct.val
  have hk0 : Kp No w (w.alloc (.cells #[.int .i64 c.w, .int .i64 c.h] 35)) := Kp.alloc _ _ _
  go_enter Try.func58, Try.ntmps58
  cases q1
  · go_wp2_with fail
    with_reducible refine (H1.out _).mono ?_
    rintro e w1 ⟨rfl, hw⟩
    subst hw
    go_wp2_with fail
    with_reducible refine (H2.out _).mono ?_
    rintro e w1 ⟨rfl, hw⟩
    subst hw
    go_wp2_with fail
    go_ret
    exact ⟨rfl, hk0⟩
  · go_wp2_with fail
    with_reducible refine (H1.out _).mono ?_
    rintro e w1 ⟨rfl, hw⟩
    subst hw
    go_wp2_with fail
    go_ret
    exact ⟨rfl, hk0⟩
def cutE (l : List Ct) (m : Int) : Int := if m < (l.length : Int) then 3 else if l.any badC then 2 else 0
set_option maxHeartbeats 2000000 in
theorem cuts_any (A : Option Addr) (n ca : Nat) (l : List Ct) (m : Int) (w : World) (hx : RdC w A n l) (hn : n ≤ 100000000) :
    Calls Try.prog 60 #[.slice A n ca, .int .i64 m] w fun e w' => e = .returned (.int .i64 (cutE l m)) ∧ Kp No w w' := by
  have HX := Lib.hid hx
  have HL := Lib.hid hx.1
  have HV := Lib.hid (show cutE l m = if m < (n : Int) then 3 else if l.any badC then 2 else 0 by unfold cutE; rw [hx.1])
  clear hx
  go_enter Try.func60, Try.ntmps60
  by_cases hm : m < (n : Int)
  · rw [if_pos hm] at HV
    rw [HV.out]
    go_wp2_with fail
    go_ret
    exact ⟨rfl, Kp.refl _ _⟩
  rw [if_neg hm] at HV
  go_wp2_with fail
  go_loopw [5] (fun i wr => ∃ k : Nat, k ≤ n ∧ i = .int .i64 k ∧ (l.take k).any badC = false ∧ Kp No w wr) (fun i _ => n - (intOf i).toNat)
  case atStart => exact ⟨0, by omega, rfl, by simp, Kp.refl _ _⟩
  case round =>
    obtain ⟨k, hk, rfl, hno, hkp⟩ := hrel
    by_cases hlt : k < n
    · obtain ⟨v, hv⟩ : ∃ v, l[k]? = some v := ⟨_, List.getElem?_eq_getElem (by rw [HL.out]; exact hlt)⟩
      obtain ⟨b, o, rfl, hb, hc⟩ := (HX.out.no hkp).2 k v hv
      have c0 := hc 0 _ rfl
      have c1 := hc 1 _ rfl
      simp only [Nat.add_zero] at c0
      have Ht := Lib.hid (any_take_succ badC l k v hv)
      have Hno := Lib.hid hno
      have HK := Lib.hid hkp
      have Hv := Lib.hid hv
      have HC := Lib.hid (fun w0 => valid_any v w0)
      simp only [Ct.val] at HC
      clear hno hv hc hkp
      cases hbad : badC v
      · rw [hbad] at HC Ht
        clear hbad
        go_wp2_with fail
        with_reducible refine (HC.out _).mono ?_
        rintro e w1 ⟨rfl, k1⟩
        go_wp2_with fail
        go_roundw
        case rel => exact ⟨k + 1, by omega, by go_num, by rw [Ht.out, Hno.out]; rfl, HK.out.tr k1⟩
        case measure => simp [intOf]; omega
      · have HA := Lib.hid (show l.any badC = true from List.any_eq_true.2 ⟨v, List.mem_of_getElem? Hv.out, hbad⟩)
        rw [hbad] at HC
        rw [HA.out] at HV
        clear hbad
        go_wp2_with fail
        with_reducible refine (HC.out _).mono ?_
        rintro e w1 ⟨rfl, k1⟩
        go_wp2_with fail
        go_ret
        exact ⟨by rw [HV.out]; rfl, HK.out.tr k1⟩
    · obtain rfl : k = n := by omega
      have HA := Lib.hid (show l.any badC = false by rw [List.take_of_length_le (by rw [HL.out]; omega)] at hno; exact hno)
      rw [HA.out] at HV
      have HK := Lib.hid hkp
      clear hno hkp
      go_wp2_with fail
      go_ret
      exact ⟨by rw [HV.out]; rfl, HK.out⟩
end Go.Proofs.Ytamjhpdgclbfgaa
