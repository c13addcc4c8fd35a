/- An append to a row whose slice lies in a cell of a box (x.f = append(x.f, v)), in a region that draws its order. No program in sight. · A slot that one operation of a region writes, ahead of it. No program in sight. · spans: over, a quotient rounded down or up. · spans: the order of two numbers of two words and a sign. · spans: fit, Add, Check. -/
import Derived.Test.YtamjhpdgclbfgaaXLibReg
import Derived.Test.YtamjhpdgclbfgaaXLibRowM
import Derived.Test.YtamjhpdgclbfgaaXCspM
import Derived.Test.YtamjhpdgclbfgaaXSpd
import Derived.Test.YtamjhpdgclbfgaaXLibHvM
import Derived.Test.YtamjhpdgclbfgaaXSrtIM
namespace Go.Kq
open Go.RowKit

theorem wpo_append {P : Program} {w : World} {o : Oper} {a : Act} {K : Act → World → Prop} {Q : Exit → Act → World → Prop} (s x : Operand) (t : TypeId)
    (ho : o.op = .call { callee := .builtin .append, args := #[s, x], argTypes := #[t, t] })
    (base : Nat) (e : TypeId) (i : TypeInfo) (z : Value) (size bytes : Nat) (ht : P.underlying t = some (.slice e)) (hi : P.info? e = some i) (hz : i.zero = some z)
    (hsize : i.size = size) (hby : i.bytes = bytes) (hzs : z.cells.size = size) (hsz : 0 < size)
    (v : Value) (n : Nat) (xs : List Value) (hs : a.eval s = v) (hown : w.ownsRow base e size v n xs)
    (ad : Addr) (m c : Nat) (news : List Value) (hx : a.eval x = .slice (some ad) m c) (hl : news.length = m * size) (hnews : ∀ j u, news[j]? = some u → w.cell? (ad.add j) = some u) (h1 : ∀ u ∈ news, u.oneCell' = true)
    (h63 : n + m ≤ maxLen) (hbytes : (n + m) * bytes ≤ 140737488355328) (hbase : base ≤ w.heap.size)
    (h : ∀ v' w', w'.ownsRow base e size v' (n + m) (xs ++ news) → w.grownBy w' v.ownBlock → (v'.ownBlock = v.ownBlock ∨ v'.ownBlock = some w.heap.size) → K (a.put o.dst v') w') : Oper.wp P o a w K Q := by
  obtain ⟨v', w', hr, h2, h3, _, h5⟩ := run_append_own_at (P := P) w base t o.type e i z size bytes ht hi hz hsize hby hzs hsz v n xs hown ad m c news hl hnews h1 h63 hbytes hbase
  unfold Oper.wp execOp
  simp only [ho, resolve, invoke, builtin, Sem.run_bind, Sem.run_pure, Result.andThen_ok, List.map_toArray, List.map_cons, List.map_nil, hs, hx, hr]
  exact h v' w' h2 h3 h5
/-! ### what an append leaves -/
theorem new_cells {e : TypeId} (w : World) (cs : List Value) (hm : cs.length ≤ maxLen) : ∀ j u, cs[j]? = some u → (w.alloc (.cells cs.toArray e)).cell? ((⟨w.heap.size, 0, none⟩ : Addr).add j) = some u := fun j u hj => by
  rw [add_at, Nat.zero_add]
  exact own_cell (own_made (e := e) (s := 1) (n := cs.length) w (by omega) (Nat.zero_le _) hm) hj

/-- Of a region that appends m elements (cells: new) to the row in the box bx: operation ld loads the slice, bs lays what is new, ap appends, st stores. -/
structure Ap (w0 : World) (bx base : Nat) (e : TypeId) (s : Nat) (ty : TypeId) (T : Value → Array Value) (v0 : Value) (n m : Nat) (xs new : List Value) (ld bs ap st : Nat) (r : Nat → Option Value) (w : World) : Prop where
  kp : Kp (fun k => k = bx ∨ v0.ownBlock = some k) w0 w
  box : r st = none → w.heap[bx]? = some (.cells (T v0) ty (0, 0))
  row : r ap = none → w.ownsRow base e s v0 n xs
  made : ∀ u, r bs = some u → r ap = none → ∃ g, u = .slice (some ⟨g, 0, none⟩) m m ∧ w0.heap.size ≤ g ∧ ∀ j x, new[j]? = some x → w.cell? ⟨g, j, none⟩ = some x
  done : ∀ u, r ap = some u → r ld ≠ none ∧ r bs ≠ none ∧ w.ownsRow base e s u (n + m) (xs ++ new) ∧ u.ownBlock ≠ some bx ∧ (u.ownBlock = v0.ownBlock ∨ ∃ g, u.ownBlock = some g ∧ w0.heap.size ≤ g)
  put : r st ≠ none → ∃ u, r ap = some u ∧ w.heap[bx]? = some (.cells (T u) ty (0, 0))

section
variable {w0 w w' : World} {bx base : Nat} {e : TypeId} {s : Nat} {ty : TypeId} {T : Value → Array Value} {v0 : Value} {n m : Nat} {xs new : List Value} {ld bs ap st : Nat} {r : Nat → Option Value}
theorem Ap.start (hb : w0.heap[bx]? = some (.cells (T v0) ty (0, 0))) (hr : w0.ownsRow base e s v0 n xs) : Ap w0 bx base e s ty T v0 n m xs new ld bs ap st (fun _ => none) w0.drew :=
  ⟨Kp.drew _ _, fun _ => hb, fun _ => (Kp.drew No w0).owns hr fun _ _ h => h, fun u h => (by cases h), fun u h => (by cases h), fun h => absurd rfl h⟩
theorem Ap.upd (h : Ap w0 bx base e s ty T v0 n m xs new ld bs ap st r w) (i : Nat) (v : Value) (h1 : i ≠ bs) (h2 : i ≠ ap) (h3 : i ≠ st) : Ap w0 bx base e s ty T v0 n m xs new ld bs ap st (Kq.upd r i v) w := by
  have e1 := upd_ne r v h1.symm
  have e2 := upd_ne r v h2.symm
  have e3 := upd_ne r v h3.symm
  refine ⟨h.kp, fun hh => h.box (e3 ▸ hh), fun hh => h.row (e2 ▸ hh), fun u hu hh => h.made u (e1 ▸ hu) (e2 ▸ hh), fun u hu => ?_, fun hh => ?_⟩
  · obtain ⟨a, b⟩ := h.done u (e2 ▸ hu)
    refine ⟨?_, by rw [e1]; exact b.1, b.2⟩
    by_cases hi : ld = i
    · rw [hi, upd_same]
      simp
    · rw [upd_ne _ _ hi]
      exact a
  · rw [e3] at hh
    rw [e2]
    exact h.put hh
theorem Ap.call (h : Ap w0 bx base e s ty T v0 n m xs new ld bs ap st r w) (k : Kp No w w') : Ap w0 bx base e s ty T v0 n m xs new ld bs ap st r w' := by
  refine ⟨h.kp.no k, fun hh => k.heap (h.box hh) id, fun hh => k.owns (h.row hh) fun _ _ x => x, fun u hu hh => ?_, fun u hu => ?_, fun hh => ?_⟩
  · obtain ⟨g, h1, h2, h4⟩ := h.made u hu hh
    exact ⟨g, h1, h2, fun j x hj => k.cell (h4 j x hj) id⟩
  · obtain ⟨a, b, c, d⟩ := h.done u hu
    exact ⟨a, b, k.owns c fun _ _ x => x, d⟩
  · obtain ⟨u, h1, h2⟩ := h.put hh
    exact ⟨u, h1, k.heap h2 id⟩
theorem Ap.load (h : Ap w0 bx base e s ty T v0 n m xs new ld bs ap st r w) (hr : r ld = none) : w.heap[bx]? = some (.cells (T v0) ty (0, 0)) := by
  refine h.box ?_
  cases hs : r st with
  | none => rfl
  | some u =>
    obtain ⟨u', h1, _⟩ := h.put (by rw [hs]; simp)
    exact absurd hr (h.done u' h1).1
theorem Ap.lay (h : Ap w0 bx base e s ty T v0 n m xs new ld bs ap st r w) (hr : r bs = none) (hne : bs ≠ ap ∧ bs ≠ st ∧ bs ≠ ld) (hl : new.length = m * s) (hm : m ≤ maxLen) {e' : TypeId} {cs : Array Value} (hcs : cs = new.toArray) : Ap w0 bx base e s ty T v0 n m xs new ld bs ap st (Kq.upd r bs (.slice (some ⟨w.heap.size, 0, none⟩) m m)) (w.alloc (.cells cs e')) := by
  subst hcs
  have h' := h.call (Kp.alloc No w (.cells new.toArray e'))
  have e2 := upd_ne r (Value.slice (some ⟨w.heap.size, 0, none⟩) m m) hne.1.symm
  have e3 := upd_ne r (Value.slice (some ⟨w.heap.size, 0, none⟩) m m) hne.2.1.symm
  have e4 := upd_ne r (Value.slice (some ⟨w.heap.size, 0, none⟩) m m) hne.2.2.symm
  refine ⟨h'.kp, fun hh => h'.box (e3 ▸ hh), fun hh => h'.row (e2 ▸ hh), fun u hu hh => ?_, fun u hu => absurd hr (h.done u (e2 ▸ hu)).2.1, fun hh => ?_⟩
  · rw [upd_same] at hu
    cases hu
    refine ⟨w.heap.size, rfl, h.kp.size, fun j x hj => ?_⟩
    exact own_cell (own_made (e := e') w hl (Nat.zero_le _) hm) hj
  · rw [e3] at hh
    rw [e2]
    exact h'.put hh
theorem Ap.app (h : Ap w0 bx base e s ty T v0 n m xs new ld bs ap st r w) (hv : v0.ownBlock ≠ some bx) (hr : r ap = none) (hld : r ld ≠ none) (hbs : r bs ≠ none) (hne : ap ≠ bs ∧ ap ≠ st ∧ ap ≠ ld) {v' : Value} (ho : w'.ownsRow base e s v' (n + m) (xs ++ new)) (hg : w.grownBy w' v0.ownBlock) (hat : v'.ownBlock = v0.ownBlock ∨ v'.ownBlock = some w.heap.size) : Ap w0 bx base e s ty T v0 n m xs new ld bs ap st (Kq.upd r ap v') w' := by
  have e2 := upd_ne r v' hne.1.symm
  have e3 := upd_ne r v' hne.2.1.symm
  have e4 := upd_ne r v' hne.2.2.symm
  have hst : r st = none := by
    cases hs : r st with
    | none => rfl
    | some u =>
      obtain ⟨u', h1, _⟩ := h.put (by rw [hs]; simp)
      rw [hr] at h1
      cases h1
  have hb := h.box hst
  have hk : Kp (fun k => v0.ownBlock = some k) w w' := Kp.grown hg fun k hk _ => hk
  refine ⟨h.kp.trans hk fun k _ hk => .inr hk, fun _ => hk.heap hb hv, fun hh => ?_, fun u _ hh => ?_, fun u hu => ?_, fun hh => ?_⟩
  · rw [upd_same] at hh
    cases hh
  · rw [upd_same] at hh
    cases hh
  · rw [upd_same] at hu
    cases hu
    refine ⟨by rw [e4]; exact hld, by rw [e2]; exact hbs, ho, fun hx => ?_, ?_⟩
    · rcases hat with hat | hat
      · exact hv (hat ▸ hx)
      · rw [hat] at hx
        cases hx
        have := (Array.getElem?_eq_some_iff.1 hb).1
        omega
    · rcases hat with hat | hat
      · exact .inl hat
      · exact .inr ⟨_, hat, h.kp.size⟩
  · rw [e3, hst] at hh
    exact absurd rfl hh
theorem Ap.store (h : Ap w0 bx base e s ty T v0 n m xs new ld bs ap st r w) (hr : r st = none) {u : Value} (hu : r ap = some u) (hne : st ≠ bs ∧ st ≠ ap ∧ st ≠ ld) (k : Nat) (hT : (T v0).setIfInBounds k u = T u) (x : Value) : Ap w0 bx base e s ty T v0 n m xs new ld bs ap st (Kq.upd r st x) (w.setCell ⟨bx, k, none⟩ u) := by
  have e2 := upd_ne r x hne.1.symm
  have e3 := upd_ne r x hne.2.1.symm
  have e4 := upd_ne r x hne.2.2.symm
  have hb := h.box hr
  have hk : Kp (One bx) w (w.setCell ⟨bx, k, none⟩ u) := kp_setOne _ _ _ _
  obtain ⟨d1, d2, d3, d4, d5⟩ := h.done u hu
  refine ⟨h.kp.trans hk fun g _ hg => .inl hg, fun hh => ?_, fun hh => ?_, fun v _ hh => ?_, fun v hv => ?_, fun _ => ⟨u, by rw [e3, hu], ?_⟩⟩
  · rw [upd_same] at hh
    cases hh
  · rw [e3, hu] at hh
    cases hh
  · rw [e3, hu] at hh
    cases hh
  · rw [e3, hu] at hv
    cases hv
    exact ⟨by rw [e4]; exact d1, by rw [e2]; exact d2, hk.owns d3 fun g hg hh => d4 (by rw [hg, show g = bx from hh]), d4, d5⟩
  · rw [← hT]
    simp [World.setCell, Array.getElem?_modify, hb]
theorem Ap.fin (h : Ap w0 bx base e s ty T v0 n m xs new ld bs ap st r w) (hr : r st ≠ none) : ∃ u, r ap = some u ∧ w.ownsRow base e s u (n + m) (xs ++ new) ∧ w.heap[bx]? = some (.cells (T u) ty (0, 0)) ∧ Kp (fun k => k = bx ∨ v0.ownBlock = some k) w0 w ∧ (u.ownBlock = v0.ownBlock ∨ ∃ g, u.ownBlock = some g ∧ w0.heap.size ≤ g) := by
  obtain ⟨u, h1, h2⟩ := h.put hr
  obtain ⟨_, _, d3, _, d5⟩ := h.done u h1
  exact ⟨u, h1, d3, h2, h.kp, d5⟩
end
end Go.Kq

namespace Go.Kq
open Go.RowKit

def freeButB (l : List Oper) (t : Tmp) (i : Nat) : Bool := (List.range l.length).all fun j => decide (j = i) || (match l[j]? with | some o => (match o.dst with | some d => decide (d ≠ t) | none => true) | none => true)
theorem Fr.evalYet {a0 a : Act} {r : Nat → Option Value} {l : List Oper} (h : Fr l.toArray a0 r a) {t : Tmp} {i : Nat} (hr : r i = none) (hf : freeButB l t i = true) : a.tmps.getD t undef = a0.tmps.getD t undef := by
  have := h.rest t fun j o hj ho => by
    have hj' : l[j]? = some o := by simpa using hj
    have hlt := (List.getElem?_eq_some_iff.1 hj').1
    have := List.all_eq_true.1 hf j (List.mem_range.2 hlt)
    rw [hj'] at this
    simp only [ho, Bool.or_eq_true, decide_eq_true_eq, ne_eq, not_true_eq_false, or_false] at this
    rw [this, hr]
  simp [this]
end Go.Kq

namespace Go.Proofs.Ytamjhpdgclbfgaa
open Go.RowKit Go.Kq

theorem box3 {w : World} {b : Nat} {x y z : Value} {t : TypeId} (h : w.heap[b]? = some (.cells #[x, y, z] t (0, 0))) : w.cell? ⟨b, 0, none⟩ = some x ∧ w.cell? ⟨b, 1, none⟩ = some y ∧ w.cell? ⟨b, 2, none⟩ = some z :=
  ⟨by simp [World.cell?, h], by simp [World.cell?, h], by simp [World.cell?, h]⟩
theorem boxed (w : World) (x y z : Value) (t : TypeId) {w1 : World} (h : Kp No (w.alloc (.cells #[x, y, z] t)) w1) : w1.cell? ⟨w.heap.size, 0, none⟩ = some x ∧ w1.cell? ⟨w.heap.size, 1, none⟩ = some y ∧ w1.cell? ⟨w.heap.size, 2, none⟩ = some z :=
  box3 (h.heap (MapKept.heap_alloc w _).1 id)
/-- over, by the parts: q and r are what the division gives. -/
def ovA (neg up : Bool) (q r : Int) : Int := if r ≠ 0 ∧ up ≠ neg then q + 1 else q
theorem ov_great (neg up : Bool) (hi lo d : Int) (w : World) (h : d ≤ hi) :
    Calls Try.prog 76 #[.agg #[.bool neg, .int .u64 hi, .int .u64 lo], .int .u64 d, .bool up] w fun e w' => e = .returned (.tuple #[.int .i64 0, .bool false]) ∧ Kp No w w' := by
  go_enter Try.func76, Try.ntmps76
  go_wp2_with fail
  refine bodyPost_ret (v := .tuple #[.int .i64 0, .bool false]) ?_ rfl ⟨rfl, ?_⟩
  · simp [results, Try.results76, go_sem]
  · exact Kp.alloc _ _ _
set_option maxHeartbeats 4000000 in
set_option maxRecDepth 100000 in
theorem ov_parts (neg up : Bool) (hi lo d q r : Int) (w : World) (h : hi < d) (hq0 : 0 ≤ q) (hq1 : q < 18446744073709551616)
    (HD : Hid (∀ w0, Calls Try.prog 101 #[.int .u64 hi, .int .u64 lo, .int .u64 d] w0 fun e w' => e = .returned (.tuple #[.int .u64 q, .int .u64 r]) ∧ Kp No w0 w')) :
    Calls Try.prog 76 #[.agg #[.bool neg, .int .u64 hi, .int .u64 lo], .int .u64 d, .bool up] w fun e w' => e = .returned (.tuple #[.int .i64 (if ovA neg up q r ≤ M62 then (if neg then - ovA neg up q r else ovA neg up q r) else 0), .bool (decide (ovA neg up q r ≤ M62))]) ∧ Kp No w w' := by
  unfold ovA M62
  have hh : ¬ d ≤ hi := by omega
  by_cases hr : r = 0
  · subst hr
    by_cases hM : q ≤ 4611686018427387904
    all_goals
      cases neg <;> cases up <;> simp only [ne_eq, not_true_eq_false, false_and, if_false, hM, decide_true, decide_false, if_true, Bool.false_eq_true]
    all_goals
      go_enter Try.func76, Try.ntmps76
      go_wp2_with fail
      refine (HD.out _).mono ?_
      rintro e w1 ⟨rfl, hk⟩
      obtain ⟨hc0, hc1, hc2⟩ := boxed _ _ _ _ _ hk
      go_wp2_with fail
      all_goals
        refine bodyPost_ret (by simp [results, Try.results76, go_sem]; rfl) rfl ⟨?_, (Kp.alloc _ _ _).tr hk⟩
        first | rfl | go_num
  · have hr' : (r == 0) = false := by rw [beq_eq_false_iff_ne]; exact hr
    by_cases hb : q = 18446744073709551615
    · subst hb
      have hw : IntKind.u64.wrap (18446744073709551615 + 1) = 0 := by decide
      cases neg <;> cases up <;> simp [hr]
      all_goals
        go_enter Try.func76, Try.ntmps76
        go_wp2_with fail
        refine (HD.out _).mono ?_
        rintro e w1 ⟨rfl, hk⟩
        obtain ⟨hc0, hc1, hc2⟩ := boxed _ _ _ _ _ hk
        go_wp2_with fail
        all_goals
          refine bodyPost_ret (by simp [results, Try.results76, go_sem]; rfl) rfl ⟨?_, (Kp.alloc _ _ _).tr hk⟩
          first | rfl | go_num
    · have hw : IntKind.u64.wrap (q + 1) = q + 1 := by rw [IntKind.wrap_u64]; omega
      have hz : ¬ q + 1 = 0 := by omega
      have hz2 : ((q + 1) == 0) = false := by rw [beq_eq_false_iff_ne]; exact hz
      cases neg <;> cases up
      all_goals
        simp only [ne_eq, not_true_eq_false, and_false, and_true, if_false, if_true, Bool.false_eq_true, hr, not_false_eq_true, reduceCtorEq]
      · by_cases hM : q ≤ 4611686018427387904
        all_goals
          simp only [hM, decide_true, decide_false, if_true, if_false]
          go_enter Try.func76, Try.ntmps76
          go_wp2_with fail
          refine (HD.out _).mono ?_
          rintro e w1 ⟨rfl, hk⟩
          obtain ⟨hc0, hc1, hc2⟩ := boxed _ _ _ _ _ hk
          go_wp2_with fail
          all_goals
            refine bodyPost_ret (by simp [results, Try.results76, go_sem]; rfl) rfl ⟨?_, (Kp.alloc _ _ _).tr hk⟩
            first | rfl | go_num
      · by_cases hM : q + 1 ≤ 4611686018427387904
        all_goals
          simp only [hM, decide_true, decide_false, if_true, if_false]
          go_enter Try.func76, Try.ntmps76
          go_wp2_with fail
          refine (HD.out _).mono ?_
          rintro e w1 ⟨rfl, hk⟩
          obtain ⟨hc0, hc1, hc2⟩ := boxed _ _ _ _ _ hk
          go_wp2_with fail
          all_goals
            refine bodyPost_ret (by simp [results, Try.results76, go_sem]; rfl) rfl ⟨?_, (Kp.alloc _ _ _).tr hk⟩
            first | rfl | go_num
      · by_cases hM : q + 1 ≤ 4611686018427387904
        all_goals
          simp only [hM, decide_true, decide_false, if_true, if_false]
          go_enter Try.func76, Try.ntmps76
          go_wp2_with fail
          refine (HD.out _).mono ?_
          rintro e w1 ⟨rfl, hk⟩
          obtain ⟨hc0, hc1, hc2⟩ := boxed _ _ _ _ _ hk
          go_wp2_with fail
          all_goals
            refine bodyPost_ret (by simp [results, Try.results76, go_sem]; rfl) rfl ⟨?_, (Kp.alloc _ _ _).tr hk⟩
            first | rfl | go_num
      · by_cases hM : q ≤ 4611686018427387904
        all_goals
          simp only [hM, decide_true, decide_false, if_true, if_false]
          go_enter Try.func76, Try.ntmps76
          go_wp2_with fail
          refine (HD.out _).mono ?_
          rintro e w1 ⟨rfl, hk⟩
          obtain ⟨hc0, hc1, hc2⟩ := boxed _ _ _ _ _ hk
          go_wp2_with fail
          all_goals
            refine bodyPost_ret (by simp [results, Try.results76, go_sem]; rfl) rfl ⟨?_, (Kp.alloc _ _ _).tr hk⟩
            first | rfl | go_num
theorem rnd_ov (up : Bool) (v : Int) {d : Nat} (hd : 0 < d) : rnd up v d = if decide (v < 0) = true then - ovA (decide (v < 0)) up ((v.natAbs / d : Nat) : Int) ((v.natAbs % d : Nat) : Int) else ovA (decide (v < 0)) up ((v.natAbs / d : Nat) : Int) ((v.natAbs % d : Nat) : Int) := by
  rw [rnd_abs up v hd]
  unfold rndA ovA
  generalize v.natAbs / d = q
  generalize v.natAbs % d = r
  have hr : ((r : Int) ≠ 0) ↔ (r ≠ 0) := by omega
  simp only [hr]
  by_cases hv : v < 0
  · simp only [hv, decide_true, if_true]
    split <;> omega
  · simp only [hv, decide_false, if_false, Bool.false_eq_true]
    split <;> omega
theorem ovA_nonneg (neg up : Bool) (q r : Nat) : 0 ≤ ovA neg up (q : Int) (r : Int) := by
  unfold ovA
  split <;> omega
theorem ovA_ge (neg up : Bool) (q r : Nat) : (q : Int) ≤ ovA neg up (q : Int) (r : Int) := by
  unfold ovA
  split <;> omega
theorem fits_ov (up : Bool) (v : Int) {d : Nat} (hd : 0 < d) : fits (rnd up v d) = decide (ovA (decide (v < 0)) up ((v.natAbs / d : Nat) : Int) ((v.natAbs % d : Nat) : Int) ≤ M62) := by
  rw [rnd_ov up v hd]
  have h0 := ovA_nonneg (decide (v < 0)) up (v.natAbs / d) (v.natAbs % d)
  generalize ovA (decide (v < 0)) up ((v.natAbs / d : Nat) : Int) ((v.natAbs % d : Nat) : Int) = A at *
  unfold fits M62
  rw [Bool.eq_iff_iff]
  simp only [Bool.and_eq_true, decide_eq_true_eq]
  split <;> omega
/-- over: the quotient rounded down or up, and whether it is allowed. -/
theorem over_any (v : Int) (d : Nat) (up : Bool) (w : World) (hd : 0 < d) (hd2 : d < 18446744073709551616) :
    Calls Try.prog 76 #[lgV v, .int .u64 (d : Nat), .bool up] w fun e w' => e = .returned (.tuple #[.int .i64 (if fits (rnd up v d) = true then rnd up v d else 0), .bool (fits (rnd up v d))]) ∧ Kp No w w' := by
  unfold lgV
  by_cases h : d ≤ v.natAbs / 18446744073709551616
  · have hf : fits (rnd up v d) = false := by
      rw [fits_ov up v hd, decide_eq_false_iff_not]
      have h1 : 18446744073709551616 ≤ v.natAbs / d := by
        rw [Nat.le_div_iff_mul_le hd]
        omega
      have h2 := ovA_ge (decide (v < 0)) up (v.natAbs / d) (v.natAbs % d)
      unfold M62
      omega
    rw [hf, if_neg (by simp)]
    exact ov_great _ _ _ _ _ _ (by omega)
  · have hdm := Nat.div_add_mod v.natAbs 18446744073709551616
    have hml := Nat.mod_lt v.natAbs (show 0 < 18446744073709551616 by omega)
    have hD := fun w0 => div_any (v.natAbs / 18446744073709551616) (v.natAbs % 18446744073709551616) d w0 (by omega) hml hd2
    rw [Nat.mul_comm, hdm] at hD
    have hq : v.natAbs / d < 18446744073709551616 := by
      rw [Nat.div_lt_iff_lt_mul hd]
      omega
    have hp := ov_parts (decide (v < 0)) up ((v.natAbs / 18446744073709551616 : Nat) : Int) ((v.natAbs % 18446744073709551616 : Nat) : Int) (d : Int) ((v.natAbs / d : Nat) : Int) ((v.natAbs % d : Nat) : Int) w (by omega) (Int.natCast_nonneg _) (Int.ofNat_lt.2 hq) (Lib.hid hD)
    rw [fits_ov up v hd, rnd_ov up v hd]
    simpa only [decide_eq_true_eq] using hp
end Go.Proofs.Ytamjhpdgclbfgaa

namespace Go.Proofs.Ytamjhpdgclbfgaa
open Go.RowKit Go.Kq

set_option maxRecDepth 100000 in
theorem lg_eql (n1 n2 : Bool) (h1 l1 h2 l2 : Int) (w : World) : Sem.run Try.prog (binOp .eql 117 (.agg #[.bool n1, .int .u64 h1, .int .u64 l1]) (.agg #[.bool n2, .int .u64 h2, .int .u64 l2])) w = .ok (.bool (decide (n1 = n2 ∧ h1 = h2 ∧ l1 = l2))) w := by
  have hS : Try.prog.underlying 117 = some (.struct (Try.prog.fieldsOf 117)) := by kernel_rfl
  have hp : Try.prog.stoodInHeld 117 = false := by kernel_rfl
  have u3 := Try.underlying4
  have u4 := Try.underlying115
  rw [run_eql_struct, show (10000 : Nat) = 9999 + 1 from rfl, run_equalIn_agg w 9999 117 _ _ hS hp]
  simp only [Program.fieldsOf, Try.underlying117]
  go_simp
  cases n1 <;> cases n2 <;> by_cases e2 : h1 = h2 <;> by_cases e3 : l1 = l2 <;> simp [e2, e3]
theorem lg_guard (op : BinOp) (a b : Operand) (xs ys : Array Value) (w : World) : Sem.run Try.prog (eqGuard op 117 a b (.agg xs) (.agg ys)) w = .ok () w := run_eqGuard_agg w op 117 a b xs ys (by kernel_rfl)
/-- Less, by the parts. -/
def lgLess (n1 n2 : Bool) (h1 l1 h2 l2 : Int) : Bool := if n1 = n2 ∧ h1 = h2 ∧ l1 = l2 then false else if n1 ≠ n2 then n1 else (decide (h1 < h2) || decide (h1 = h2) && decide (l1 < l2)) != n1
theorem lgLess_eq (x y : Int) : lgLess (decide (x < 0)) (decide (y < 0)) ((x.natAbs / 18446744073709551616 : Nat) : Int) ((x.natAbs % 18446744073709551616 : Nat) : Int) ((y.natAbs / 18446744073709551616 : Nat) : Int) ((y.natAbs % 18446744073709551616 : Nat) : Int) = decide (x < y) := by
  unfold lgLess
  have dx := Nat.div_add_mod x.natAbs 18446744073709551616
  have dy := Nat.div_add_mod y.natAbs 18446744073709551616
  have mx := Nat.mod_lt x.natAbs (show 0 < 18446744073709551616 by omega)
  have my := Nat.mod_lt y.natAbs (show 0 < 18446744073709551616 by omega)
  generalize x.natAbs / 18446744073709551616 = a at *
  generalize x.natAbs % 18446744073709551616 = b at *
  generalize y.natAbs / 18446744073709551616 = c at *
  generalize y.natAbs % 18446744073709551616 = d at *
  by_cases hx : x < 0 <;> by_cases hy : y < 0
  · simp only [hx, hy, decide_true, true_and, ne_eq, not_true_eq_false, if_false]
    split
    · rw [decide_eq_false (by omega)]
    · by_cases h : x < y
      · rw [decide_eq_true h]
        by_cases h1 : (a : Int) < c
        · omega
        · rw [decide_eq_false h1]
          by_cases h2 : (a : Int) = c
          · rw [decide_eq_true h2, decide_eq_false (by omega)]; rfl
          · rw [decide_eq_false h2]; rfl
      · rw [decide_eq_false h]
        by_cases h1 : (a : Int) < c
        · rw [decide_eq_true h1]; rfl
        · rw [decide_eq_false h1]
          by_cases h2 : (a : Int) = c
          · rw [decide_eq_true h2, decide_eq_true (by omega)]; rfl
          · omega
  · simp [hx, hy]
    omega
  · simp [hx, hy]
    omega
  · simp only [hx, hy, decide_false, true_and, ne_eq, not_true_eq_false, if_false]
    split
    · rw [decide_eq_false (by omega)]
    · by_cases h : x < y
      · rw [decide_eq_true h]
        by_cases h1 : (a : Int) < c
        · rw [decide_eq_true h1]; rfl
        · rw [decide_eq_false h1]
          by_cases h2 : (a : Int) = c
          · rw [decide_eq_true h2, decide_eq_true (by omega)]; rfl
          · omega
      · rw [decide_eq_false h]
        by_cases h1 : (a : Int) < c
        · omega
        · rw [decide_eq_false h1]
          by_cases h2 : (a : Int) = c
          · rw [decide_eq_true h2, decide_eq_false (by omega)]; rfl
          · rw [decide_eq_false h2]; rfl
set_option maxHeartbeats 2000000 in
theorem less_parts (n1 n2 : Bool) (h1 l1 h2 l2 : Int) (w : World) :
    Calls Try.prog 98 #[.agg #[.bool n1, .int .u64 h1, .int .u64 l1], .agg #[.bool n2, .int .u64 h2, .int .u64 l2]] w fun e w' => e = .returned (.bool (lgLess n1 n2 h1 l1 h2 l2)) ∧ Kp No w w' := by
  have hg := lg_guard
  have he := lg_eql n1 n2 h1 l1 h2 l2
  unfold lgLess
  by_cases hq : n1 = n2 ∧ h1 = h2 ∧ l1 = l2
  · rw [if_pos hq]
    simp only [hq, and_self, decide_true] at he
    go_enter Try.func98, Try.ntmps98
    go_wp2
    all_goals
      go_ret
      exact ⟨rfl, (Kp.alloc _ _ _).tr (Kp.alloc _ _ _)⟩
  · rw [if_neg hq]
    have hd : decide (n1 = n2 ∧ h1 = h2 ∧ l1 = l2) = false := decide_eq_false hq
    rw [hd] at he
    clear hd hq
    by_cases hn : n1 = n2
    · subst hn
      rw [if_neg (by simp)]
      cases n1
      all_goals
        go_enter Try.func98, Try.ntmps98
        go_wp2
        all_goals
          go_ret
          refine ⟨ret_bool ?_, (Kp.alloc _ _ _).tr (Kp.alloc _ _ _)⟩
          first | (simp [*]; done) | (simp; omega)
    · rw [if_pos hn]
      cases n1 <;> cases n2
      · exact absurd rfl hn
      · clear hn
        go_enter Try.func98, Try.ntmps98
        go_wp2
        all_goals
          go_ret
          exact ⟨rfl, (Kp.alloc _ _ _).tr (Kp.alloc _ _ _)⟩
      · clear hn
        go_enter Try.func98, Try.ntmps98
        go_wp2
        all_goals
          go_ret
          exact ⟨rfl, (Kp.alloc _ _ _).tr (Kp.alloc _ _ _)⟩
      · exact absurd rfl hn
theorem less_any (x y : Int) (w : World) : Calls Try.prog 98 #[lgV x, lgV y] w fun e w' => e = .returned (.bool (decide (x < y))) ∧ Kp No w w' := by
  have := less_parts (decide (x < 0)) (decide (y < 0)) ((x.natAbs / 18446744073709551616 : Nat) : Int) ((x.natAbs % 18446744073709551616 : Nat) : Int) ((y.natAbs / 18446744073709551616 : Nat) : Int) ((y.natAbs % 18446744073709551616 : Nat) : Int) w
  rw [lgLess_eq] at this
  exact this
end Go.Proofs.Ytamjhpdgclbfgaa

namespace Go.Proofs.Ytamjhpdgclbfgaa
open Go.RowKit Go.Kq

def ieV (r : Int × Int × Int) : Value := .tuple #[ivV r.1 r.2.1, .int .i64 r.2.2]
theorem two_cells {w : World} {B : Nat} {a b : Value} {t : TypeId} (h : w.heap[B]? = some (.cells #[a, b] t (0, 0))) : w.cell? ⟨B, 0, none⟩ = some a ∧ w.cell? ⟨B, 1, none⟩ = some b ∧ w.frozen? ⟨B, 0, none⟩ = false ∧ w.frozen? ⟨B, 1, none⟩ = false := by
  refine ⟨by rw [cell_of_row w B 0 _ _ _ h]; rfl, by rw [cell_of_row w B 1 _ _ _ h]; rfl, ?_, ?_⟩
  · simp [World.frozen?, h]
  · simp [World.frozen?, h]
theorem at_new {w : World} {o : Obj} {n : Nat} (hn : w.heap.size = n) : (w.alloc o).heap[n]? = some o := by
  subst hn
  exact (MapKept.heap_alloc w o).1
theorem kp_set2 {w w1 : World} {B : Nat} {x y : Value} (h : Kp No w w1) (hB : w.heap.size ≤ B) : Kp No w ((w1.setCell ⟨B, 0, none⟩ x).setCell ⟨B, 1, none⟩ y) := by
  have k1 := Kp.setCell (Kq.One B) w1 ⟨B, 0, none⟩ x (fun _ => rfl)
  have k2 := Kp.setCell (Kq.One B) (w1.setCell ⟨B, 0, none⟩ x) ⟨B, 1, none⟩ y (fun _ => rfl)
  exact h.trans (k1.tr k2) (fun k hk t => by unfold Kq.One at t; omega)
theorem ck_fits {l : List (Int × Int)} (h : ckE l = 0) : ∀ x ∈ l, fits x.1 = true ∧ fits x.2 = true := by
  unfold ckE at h
  by_cases h1 : ∀ x ∈ l, fits x.1 = true ∧ fits x.2 = true
  · exact h1
  · rw [if_neg h1] at h
    omega
theorem fits_bounds {q : Int} (h : fits q = true) : -4611686018427387904 ≤ q ∧ q ≤ 4611686018427387904 := by
  unfold fits M62 at h
  simpa using h
end Go.Proofs.Ytamjhpdgclbfgaa
