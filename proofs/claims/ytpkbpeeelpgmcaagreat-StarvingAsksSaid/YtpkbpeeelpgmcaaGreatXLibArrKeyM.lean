/- The laws on maps at the operations of a walk. · Arrays of booleans as keys of a map; over any program. -/
import Derived.Maps.RangeWalk
import Derived.Test.YtpkbpeeelpgmcaaGreatXLibMap
namespace Go.Kq
open Go.RowKit
section
variable {κ ν : Type} [DecidableEq κ] {ek : κ → Value} {ev : ν → Value}
variable {P : Program} (w : World) {ops : Array Oper} {rest : List Oper} {o : Oper} {a : Act} {Q : Exit → Act → World → Prop} {b : Nat} {E : List (κ × ν)}

theorem wpL_lookup (hg : o.guard = none) (m x : Operand) (t : TypeId) (hop : o.op = Op.lookup t m x false) {kt e : TypeId} (L : KeyOk P kt ek) (ht : P.underlying t = some (.map kt e)) {z : ν} (hz : (zeroValue e).run P w = .ok (ev z) w)
    (hmap : MapAt w b ek ev E) (k : κ) (hm : a.eval m = .map (some b)) (hx : a.eval x = ek k) (hK : wpList P ops Q rest (a.put o.dst (ev ((get1 E k).getD z))) w) : wpList P ops Q (o :: rest) a w := by
  refine wpList_plain hg fun K' hK' => ?_
  have hrun := hmap.run_lookup L ht hz k false
  unfold Oper.wp
  simp only [execOp, hop, hm, hx, Sem.run_bind, hrun, Result.andThen]
  exact hK' _ _ hK

theorem wpL_update (hg : o.guard = none) (m x v : Operand) (t : TypeId) (hop : o.op = Op.mapUpdate t m x v) {kt e : TypeId} (L : KeyOk P kt ek) (ht : P.underlying t = some (.map kt e))
    (hmap : MapAt w b ek ev E) (k : κ) (u : ν) (hm : a.eval m = .map (some b)) (hx : a.eval x = ek k) (hv : a.eval v = ev u)
    (hK : ∀ w', MapAt w' b ek ev (ins k u E) → w.grownBy w' (some b) → w'.heap.size = w.heap.size → wpList P ops Q rest (a.put o.dst undef) w') : wpList P ops Q (o :: rest) a w := by
  refine wpList_plain hg fun K' hK' => ?_
  obtain ⟨w', hrun, h1, h2, h3⟩ := hmap.run_update L ht k u
  unfold Oper.wp
  simp only [execOp, hop, hm, hx, hv, Sem.run_bind, hrun, Result.andThen]
  exact hK' _ _ (hK w' h1 h2 h3)

omit [DecidableEq κ] in
theorem wpL_range (hg : o.guard = none) (m : Operand) (t : TypeId) (hop : o.op = Op.range t m) {kt e : TypeId} (ht : P.underlying t = some (.map kt e)) (hmap : MapAt w b ek ev E) (hm : a.eval m = .map (some b))
    (hK : ∀ w', RangeAt w' b w.heap.size ek ev E [] → w.grownBy w' none → w'.heap.size = w.heap.size + 1 → wpList P ops Q rest (a.put o.dst (.pointer (some ⟨w.heap.size, 0, none⟩))) w') : wpList P ops Q (o :: rest) a w := by
  refine wpList_plain hg fun K' hK' => ?_
  obtain ⟨w', hrun, h1, h2, h3⟩ := hmap.run_range (P := P) ht
  unfold Oper.wp
  simp only [execOp, hop, hm, Sem.run_bind, hrun, Result.andThen]
  exact hK' _ _ (hK w' h1 h2 h3)

omit [DecidableEq κ] in
theorem wpL_next (hg : o.guard = none) (it : Operand) (hop : o.op = Op.next it false) {kt : TypeId} (L : KeyOk P kt ek) {r : Nat} {S : List κ} (h : RangeAt w b r ek ev E S) (hit : a.eval it = .pointer (some ⟨r, 0, none⟩))
    (hDone : (∀ k ∈ keys E, k ∈ S) → wpList P ops Q rest (a.put o.dst (.tuple #[.bool false])) w)
    (hMore : ∀ k v w', (k, v) ∈ E → k ∉ S → RangeAt w' b r ek ev E (k :: S) → w.grownBy w' (some r) → w'.heap.size = w.heap.size → (Instr.entry (.pointer (some ⟨r, 0, none⟩))).run P w' = .ok (.tuple #[ek k, ev v]) w' →
      wpList P ops Q rest (a.put o.dst (.tuple #[.bool true, ek k, ev v])) w') : wpList P ops Q (o :: rest) a w := by
  refine wpList_plain hg fun K' hK' => ?_
  unfold Oper.wp
  rcases h.run_next (P := P) L o.type with ⟨h1, hrun⟩ | ⟨k, v, w', h1, h2, hrun, h3, h4, h5, h6⟩
  · simp only [execOp, hop, hit, Sem.run_bind, hrun, Result.andThen]
    exact hK' _ _ (hDone h1)
  · simp only [execOp, hop, hit, Sem.run_bind, hrun, Result.andThen]
    exact hK' _ _ (hMore k v w' h1 h2 h3 h4 h5 h6)
end

/-! ### 'm[k] op= v' inside a region that draws its order -/
section
variable {κ ν : Type} [DecidableEq κ] {ek : κ → Value} {ev : ν → Value} {P : Program} {w w' : World} {b : Nat} {E : List (κ × ν)} {k : κ} {old v : ν} {rL rE rX rS : Option Value}
/-- rL, rE, rX, rS: what the look-up, the entry, its stamp's extract and the store have handed back, if they have run. -/
structure OpW (w : World) (b : Nat) (ek : κ → Value) (ev : ν → Value) (E : List (κ × ν)) (k : κ) (old v : ν) (rL rE rX rS : Option Value) : Prop where
  e0 : rE = none → MapAt w b ek ev E
  e1 : ∀ u, rE = some u → rS = none → ∃ x : Nat, u = .tuple #[ev old, .int .i64 x] ∧ (∀ y, rX = some y → y = .int .i64 x) ∧ StampAt w b (ek k) x ∧ MapAt w b ek ev (ins k old E)
  e2 : rS ≠ none → MapAt w b ek ev (ins k v E)
  e3 : rS ≠ none → rL ≠ none ∧ rE ≠ none ∧ rX ≠ none
  e4 : rX ≠ none → rE ≠ none

theorem OpW.start (h : MapAt w b ek ev E) (k : κ) (old v : ν) : OpW w b ek ev E k old v none none none none :=
  ⟨fun _ => h, fun _ h => (by cases h), fun h => absurd rfl h, fun h => absurd rfl h, fun h => absurd rfl h⟩
theorem OpW.lt (h : OpW w b ek ev E k old v rL rE rX rS) : b < w.heap.size := by
  cases rE with
  | none => exact (h.e0 rfl).lt
  | some u =>
    cases rS with
    | none =>
      obtain ⟨_, _, _, _, h1⟩ := h.e1 u rfl rfl
      exact h1.lt
    | some y => exact (h.e2 (by simp)).lt
theorem OpW.of_block (h : OpW w b ek ev E k old v rL rE rX rS) (hb : w'.heap[b]? = w.heap[b]?) : OpW w' b ek ev E k old v rL rE rX rS := by
  refine ⟨fun h0 => (h.e0 h0).of_block hb, fun u hu hs => ?_, fun h0 => (h.e2 h0).of_block hb, h.e3, h.e4⟩
  obtain ⟨x, h1, h2, h3, h4⟩ := h.e1 u hu hs
  exact ⟨x, h1, h2, h3.of_block hb, h4.of_block hb⟩
theorem OpW.looked (h : OpW w b ek ev E k old v rL rE rX rS) (u : Value) : OpW w b ek ev E k old v (some u) rE rX rS :=
  ⟨h.e0, h.e1, h.e2, fun hs => ⟨by simp, (h.e3 hs).2⟩, h.e4⟩
theorem OpW.lookup {t kt e : TypeId} {z : ν} (h : OpW w b ek ev E k old v none rE rX rS) (ho : old = (get1 E k).getD z) (L : KeyOk P kt ek) (ht : P.underlying t = some (.map kt e)) (hz : (zeroValue e).run P w = .ok (ev z) w) :
    (Instr.lookup t (.map (some b)) (ek k) false).run P w = .ok (ev old) w := by
  cases rE with
  | none =>
    rw [ho]
    exact (h.e0 rfl).run_lookup L ht hz k false
  | some u =>
    cases rS with
    | none =>
      obtain ⟨x, _, _, _, h4⟩ := h.e1 u rfl rfl
      have := h4.run_lookup L ht hz k false
      simpa [get1_ins] using this
    | some y => exact absurd rfl (h.e3 (by simp)).1
theorem OpW.entry {t kt e : TypeId} {z : ν} (h : OpW w b ek ev E k old v rL none rX rS) (ho : old = (get1 E k).getD z) (L : KeyOk P kt ek) (ht : P.underlying t = some (.map kt e)) (hz : (zeroValue e).run P w = .ok (ev z) w) :
    ∃ w' x, (Instr.mapEntry t (.map (some b)) (ek k)).run P w = .ok (.tuple #[ev old, .int .i64 (x : Nat)]) w' ∧ OpW w' b ek ev E k old v rL (some (.tuple #[ev old, .int .i64 (x : Nat)])) rX rS ∧ w.grownBy w' (some b) ∧ w'.heap.size = w.heap.size := by
  obtain ⟨w2, x, hrun, hm', hst, hgr, hsz⟩ := (h.e0 rfl).run_entry L ht hz k
  rw [← ho] at hrun hm'
  have hX : rX = none := by
    cases rX with
    | none => rfl
    | some y => exact absurd rfl (h.e4 (by simp))
  have hS : rS = none := by
    cases rS with
    | none => rfl
    | some y => exact absurd rfl (h.e3 (by simp)).2.1
  subst hX hS
  refine ⟨w2, x, hrun, ⟨fun h => (by cases h), fun u hu _ => ⟨x, (by cases hu; rfl), fun y hy => (by cases hy), hst, hm'⟩, fun h => absurd rfl h, fun h => absurd rfl h, fun h => absurd rfl h⟩, hgr, hsz⟩
theorem OpW.extract {u : Value} (h : OpW w b ek ev E k old v rL (some u) none rS) : ∃ x : Nat, u = .tuple #[ev old, .int .i64 x] ∧ OpW w b ek ev E k old v rL (some u) (some (.int .i64 x)) rS := by
  have hS : rS = none := by
    cases rS with
    | none => rfl
    | some y => exact absurd rfl (h.e3 (by simp)).2.2
  subst hS
  obtain ⟨x, rfl, h10, hst, hm'⟩ := h.e1 u rfl rfl
  refine ⟨x, rfl, h.e0, fun u' hu' _ => ?_, fun h => absurd rfl h, fun h => absurd rfl h, fun _ => by simp⟩
  cases hu'
  exact ⟨x, rfl, fun y hy => (by cases hy; rfl), hst, hm'⟩
theorem OpW.store {t : TypeId} {u y u3 : Value} (h : OpW w b ek ev E k old v (some u3) (some u) (some y) none) (hinj : ∀ {a b : κ}, ek a = ek b → a = b) :
    ∃ (x : Nat) (w' : World), y = .int .i64 x ∧ (Instr.entryStore t (.map (some b)) (.int .i64 (x : Nat)) (ev v)).run P w = .ok () w' ∧ (∀ z, OpW w' b ek ev E k old v (some u3) (some u) (some y) (some z)) ∧ w.grownBy w' (some b) ∧ w'.heap.size = w.heap.size := by
  obtain ⟨x, rfl, h10, hst, hm'⟩ := h.e1 u rfl rfl
  obtain ⟨w2, hrun, hm2', hgr, hsz⟩ := hm'.run_entryStore (P := P) (t := t) (k := k) hinj hst v
  rw [ins_ins] at hm2'
  exact ⟨x, w2, h10 y rfl, hrun, fun z => ⟨fun h => (by cases h), fun _ _ h => (by cases h), fun _ => hm2', fun _ => by simp, fun _ => by simp⟩, hgr, hsz⟩
end
end Go.Kq

namespace Go.Kq
open Go.RowKit
section
variable {P : Program} {t e : TypeId} {n : Nat}
def boolsV (l : List Bool) : Value := .agg (l.map Value.bool).toArray
theorem boolsV_inj {a b : List Bool} (h : boolsV a = boolsV b) : a = b := by
  injection h with h
  have h2 : a.map Value.bool = b.map Value.bool := by simpa using congrArg Array.toList h
  have : ∀ {a b : List Bool}, a.map Value.bool = b.map Value.bool → a = b := by
    intro a
    induction a with
    | nil => intro b h; cases b with
      | nil => rfl
      | cons y b => simp at h
    | cons x a ih => intro b h; cases b with
      | nil => simp at h
      | cons y b =>
        simp only [List.map_cons, List.cons.injEq, Value.bool.injEq] at h
        rw [h.1, ih h.2]
  exact this h2
theorem part_bool (ha : ∀ w, (isAgg e).run P w = .ok false w) (l : List Bool) (i : Nat) (b : Bool) (h : l[i]? = some b) (w : World) : (part e (l.map Value.bool).toArray i).run P w = .ok (.bool b) w := by
  unfold part
  simp [Sem.run_bind, ha, h]
theorem equal_step (he : P.underlying e = some .bool) (d : Nat) (a b : Bool) (w : World) : (Op.equalIn (d + 1) e (.bool a) (.bool b)).run P w = .ok (a == b) w := by
  simp [Op.equalIn, run_underlying he]
theorem run_equal_bools (ht : P.underlying t = some (.array n e)) (he : P.underlying e = some .bool) (hs : ∀ w, (sizeOf e).run P w = .ok 1 w) (ha : ∀ w, (isAgg e).run P w = .ok false w) (d : Nat) (x y : List Bool) (hx : x.length = n) (hy : y.length = n) (w : World) :
    (Op.equalIn (d + 1 + 1) t (boolsV x) (boolsV y)).run P w = .ok (decide (x = y)) w := by
  unfold boolsV
  rw [Op.equalIn]
  simp only [Sem.run_bind, run_underlying ht, Result.andThen_ok, hs]
  rw [Std.Legacy.Range.forIn_eq_forIn_range']
  have loop : ∀ (m s : Nat), s + m = n → Sem.run P (forIn (List.range' s m 1) ((none : Option Bool), ()) fun i __s => do
            let __do_lift ← part e (List.map Value.bool x).toArray (i * 1)
            let __do_lift_1 ← part e (List.map Value.bool y).toArray (i * 1)
            let __do_lift ← Op.equalIn (d + 1) e __do_lift __do_lift_1
            if (!__do_lift) = true then pure (ForInStep.done (some false, ())) else pure (ForInStep.yield (none, ()))) w = .ok ((if x.drop s = y.drop s then none else some false), ()) w := by
    intro m
    induction m with
    | zero =>
      intro s h
      rw [List.drop_of_length_le (by omega), List.drop_of_length_le (by omega)]
      simp
    | succ m ih =>
      intro s h
      obtain ⟨a, hxa⟩ : ∃ a, x[s]? = some a := ⟨_, List.getElem?_eq_getElem (by omega)⟩
      obtain ⟨b, hyb⟩ : ∃ b, y[s]? = some b := ⟨_, List.getElem?_eq_getElem (by omega)⟩
      have dx : x.drop s = a :: x.drop (s + 1) := by
        obtain ⟨h1, h2⟩ := List.getElem?_eq_some_iff.1 hxa
        rw [List.drop_eq_getElem_cons h1, h2]
      have dy : y.drop s = b :: y.drop (s + 1) := by
        obtain ⟨h1, h2⟩ := List.getElem?_eq_some_iff.1 hyb
        rw [List.drop_eq_getElem_cons h1, h2]
      rw [List.range'_succ, List.forIn_cons]
      simp only [Sem.run_bind, Nat.mul_one, part_bool ha x s a hxa, part_bool ha y s b hyb, Result.andThen_ok, equal_step he]
      by_cases hab : a = b
      · subst hab
        simp only [beq_self_eq_true, Bool.not_true, Bool.false_eq_true, if_false, Sem.run_pure, Result.andThen_ok]
        have h1 := ih (s + 1) (by omega)
        simp only [Nat.mul_one] at h1
        rw [h1, dx, dy]
        simp
      · have hne : (a == b) = false := by simp [hab]
        rw [hne, dx, dy]
        simp [hab]
  have h := loop n 0 (by omega)
  have hsz : (([:n] : Std.Legacy.Range)).size = n := by simp [Std.Legacy.Range.size]
  rw [hsz]
  rw [h]
  simp only [Result.andThen_ok, List.drop_zero]
  by_cases hxy : x = y
  · simp [hxy]
  · simp [hxy]
theorem run_check_bools (ht : P.underlying t = some (.array n e)) (he : P.underlying e = some .bool) (hs : ∀ w, (sizeOf e).run P w = .ok 1 w) (ha : ∀ w, (isAgg e).run P w = .ok false w) (d : Nat) (em : Bool) (x : List Bool) (hx : x.length = n) (w : World) :
    (Instr.checkKey em (d + 1 + 1) t (boolsV x)).run P w = .ok () w := by
  have stp : ∀ (b : Bool) w, (Instr.checkKey em (d + 1) e (.bool b)).run P w = .ok () w := fun b w => by simp [Instr.checkKey, run_underlying he]
  unfold boolsV
  rw [Instr.checkKey]
  simp only [Sem.run_bind, run_underlying ht, Result.andThen_ok]
  rw [Std.Legacy.Range.forIn_eq_forIn_range']
  have loop : ∀ (m s : Nat), s + m = n → Sem.run P (forIn (List.range' s m 1) PUnit.unit fun i __s => do
            let __do_lift ← sizeOf e
            let __do_lift ← part e (List.map Value.bool x).toArray (i * __do_lift)
            Instr.checkKey em (d + 1) e __do_lift
            pure (ForInStep.yield PUnit.unit)) w = .ok PUnit.unit w := by
    intro m
    induction m with
    | zero => intro s h; simp
    | succ m ih =>
      intro s h
      obtain ⟨a, hxa⟩ : ∃ a, x[s]? = some a := ⟨_, List.getElem?_eq_getElem (by omega)⟩
      rw [List.range'_succ, List.forIn_cons]
      simp only [Sem.run_bind, hs, Nat.mul_one, part_bool ha x s a hxa, Result.andThen_ok, stp, Sem.run_pure]
      exact ih (s + 1) (by omega)
  have h := loop n 0 (by omega)
  have hsz : (([:n] : Std.Legacy.Range)).size = n := by simp [Std.Legacy.Range.size]
  rw [hsz]
  rw [h]
  simp
/-- Arrays of n booleans. -/
abbrev Bls (n : Nat) := { l : List Bool // l.length = n }
def ekB {n : Nat} (k : Bls n) : Value := boolsV k.1
theorem sameBits_bools (l : List Bool) : Instr.sameBits 10000 (boolsV l) (boolsV l) = true := by
  unfold boolsV
  simp only [Instr.sameBits, List.size_toArray, beq_self_eq_true, Bool.true_and]
  rw [List.all_eq_true]
  rintro ⟨a, b⟩ h
  have : ∃ i : Nat, l[i]?.map Value.bool = some a ∧ l[i]?.map Value.bool = some b := by
    obtain ⟨i, hi⟩ := List.mem_iff_getElem?.1 h
    rw [List.getElem?_zip_eq_some] at hi
    exact ⟨i, by simpa using hi.1, by simpa using hi.2⟩
  obtain ⟨i, h1, h2⟩ := this
  rw [h1] at h2
  injection h2 with h2
  subst h2
  obtain ⟨c, _, rfl⟩ := Option.map_eq_some_iff.1 h1
  simp [Instr.sameBits]
/-- An array of booleans as a key. -/
theorem arrKey_ok (ht : P.underlying t = some (.array n e)) (he : P.underlying e = some .bool) (hs : ∀ w, (sizeOf e).run P w = .ok 1 w) (ha : ∀ w, (isAgg e).run P w = .ok false w) : KeyOk P t (ekB (n := n)) := by
  refine ⟨fun h => Subtype.ext (boolsV_inj h), fun w em k => run_check_bools ht he hs ha 9998 em k.1 k.2 w, fun w x es hes => ?_, fun w k => by simp [Instr.keyThatStays, ekB, sameBits_bools]⟩
  have heq : ∀ (w : World) (x y : Bls n), (Op.equal t (ekB x) (ekB y)).run P w = .ok (decide (x = y)) w := fun w x y => by
    have h := run_equal_bools ht he hs ha 9998 x.1 y.1 x.2 y.2 w
    have e2 : decide (x = y) = decide (x.1 = y.1) := by
      by_cases hxy : x = y
      · simp [hxy]
      · have : ¬ x.1 = y.1 := fun h => hxy (Subtype.ext h)
        simp [hxy, this]
    rw [e2]
    exact h
  have hask : ∀ (es : List MapEntry) (i : Nat), (∀ e ∈ es, ∃ k : Bls n, e.key = ekB k) → ((Instr.findAsking t (ekB x) es i).run P w = .ok none w ∧ ∀ e ∈ es, e.key ≠ ekB x) ∨
      ∃ j e, (Instr.findAsking t (ekB x) es i).run P w = .ok (some (i + j, e.val)) w ∧ es[j]? = some e ∧ e.key = ekB x := by
    intro es
    induction es with
    | nil => intro i _; exact Or.inl ⟨by simp [Instr.findAsking], by simp⟩
    | cons e es ih =>
      intro i hes
      obtain ⟨k, hek⟩ := hes e (by simp)
      have h1 := heq w x k
      rw [← hek] at h1
      by_cases hxe : x = k
      · subst hxe
        refine Or.inr ⟨0, e, ?_, rfl, hek⟩
        simp only [decide_true] at h1
        simp [Instr.findAsking, h1, Result.andThen]
      · simp only [hxe, decide_false] at h1
        rcases ih (i + 1) (fun y hy => hes y (by simp [hy])) with ⟨h2, h3⟩ | ⟨j, e', h2, h3, h4⟩
        · refine Or.inl ⟨?_, ?_⟩
          · simp [Instr.findAsking, h1, Result.andThen, h2]
          · intro y hy
            rcases List.mem_cons.1 hy with rfl | hy
            · rw [hek]
              exact fun e => hxe (Subtype.ext (boolsV_inj e)).symm
            · exact h3 y hy
        · refine Or.inr ⟨j + 1, e', ?_, by simpa using h3, h4⟩
          rw [show i + (j + 1) = i + 1 + j by omega]
          simp [Instr.findAsking, h1, Result.andThen, h2]
  cases es with
  | nil => exact Or.inl ⟨by simp [Instr.findKey, run_underlying ht, Instr.findNow], by simp⟩
  | cons e0 es =>
    have hnow : Instr.findNow (.array n e) (ekB x) (e0 :: es) 0 = none := by
      simp [Instr.findNow, Instr.sameNow]
    have hrun : (Instr.findKey t (ekB x) (e0 :: es)).run P w = (Instr.findAsking t (ekB x) (e0 :: es)).run P w := by
      simp [Instr.findKey, run_underlying ht, hnow]
    rw [hrun]
    rcases hask (e0 :: es) 0 hes with h | ⟨j, e', h2, h3, h4⟩
    · exact Or.inl h
    · exact Or.inr ⟨j, e', by simpa using h2, h3, h4⟩
end
end Go.Kq
