/- An append to a row whose slice lies in a cell of a box (x.f = append(x.f, v)), in a region that draws its order. No program in sight. -/
import Derived.Test.YtpkbpeeelpgmcaaGreatXLibReg
import Derived.Test.YtpkbpeeelpgmcaaGreatXLibRowM
import Derived.Test.YtpkbpeeelpgmcaaGreatXLibMakeM
namespace Go.Kq
open Go.RowKit

theorem wpo_append {P : Program} {w : World} {o : Oper} {a : Act} {K : Act → World → Prop} {Q : Exit → Act → World → Prop} (s x : Operand) (t : TypeId)
    (ho : o.op = .call { callee := .builtin .append, args := #[s, x], argTypes := #[t, t] })
    (base : Nat) (e : TypeId) (i : TypeInfo) (z : Value) (size bytes : Nat) (ht : P.underlying t = some (.slice e)) (hi : P.info? e = some i) (hz : i.zero = some z)
    (hsize : i.size = size) (hby : i.bytes = bytes) (hzs : z.cells.size = size) (hsz : 0 < size)
    (v : Value) (n : Nat) (xs : List Value) (hs : a.eval s = v) (hown : w.ownsRow base e size v n xs)
    (ad : Addr) (m c : Nat) (news : List Value) (hx : a.eval x = .slice (some ad) m c) (hl : news.length = m * size) (hnews : ∀ j u, news[j]? = some u → w.cell? (ad.add j) = some u) (h1 : ∀ u ∈ news, u.oneCell' = true)
    (h63 : n + m ≤ maxLen) (hbytes : (n + m) * bytes ≤ 140737488355328) (hbase : base ≤ w.heap.size)
    (h : ∀ v' w', w'.ownsRow base e size v' (n + m) (xs ++ news) → w.grownBy w' v.ownBlock → (v'.ownBlock = v.ownBlock ∨ v'.ownBlock = some w.heap.size) → K (a.put o.dst v') w') : Oper.wp P o a w K Q := by
  obtain ⟨v', w', hr, h2, h3, _, h5⟩ := run_append_own_at (P := P) w base t o.type e i z size bytes ht hi hz hsize hby hzs hsz v n xs hown ad m c news hl hnews h1 h63 hbytes hbase
  unfold Oper.wp execOp
  simp only [ho, resolve, invoke, builtin, Sem.run_bind, Sem.run_pure, Result.andThen_ok, List.map_toArray, List.map_cons, List.map_nil, hs, hx, hr]
  exact h v' w' h2 h3 h5
/-- The same where what is appended may be nil. -/
theorem wpo_append_nil {P : Program} {w : World} {o : Oper} {a : Act} {K : Act → World → Prop} {Q : Exit → Act → World → Prop} (s x : Operand) (t : TypeId)
    (ho : o.op = .call { callee := .builtin .append, args := #[s, x], argTypes := #[t, t] })
    (base : Nat) (e : TypeId) (i : TypeInfo) (z : Value) (size bytes : Nat) (ht : P.underlying t = some (.slice e)) (hi : P.info? e = some i) (hz : i.zero = some z)
    (hsize : i.size = size) (hby : i.bytes = bytes) (hzs : z.cells.size = size) (hsz : 0 < size)
    (v : Value) (n : Nat) (xs : List Value) (hs : a.eval s = v) (hown : w.ownsRow base e size v n xs)
    (ao : Option Addr) (m c : Nat) (news : List Value) (hx : a.eval x = .slice ao m c) (hl : news.length = m * size) (hnone : ao = none → m = 0 ∧ c = 0) (hnews : ∀ ad, ao = some ad → ∀ j u, news[j]? = some u → w.cell? (ad.add j) = some u) (h1 : ∀ u ∈ news, u.oneCell' = true)
    (h63 : n + m ≤ maxLen) (hbytes : (n + m) * bytes ≤ 140737488355328) (hbase : base ≤ w.heap.size)
    (h : ∀ v' w', w'.ownsRow base e size v' (n + m) (xs ++ news) → w.grownBy w' v.ownBlock → (v'.ownBlock = v.ownBlock ∨ v'.ownBlock = some w.heap.size) → K (a.put o.dst v') w') : Oper.wp P o a w K Q := by
  cases ao with
  | some ad => exact wpo_append s x t ho base e i z size bytes ht hi hz hsize hby hzs hsz v n xs hs hown ad m c news hx hl (hnews ad rfl) h1 h63 hbytes hbase h
  | none =>
    obtain ⟨rfl, rfl⟩ := hnone rfl
    have hn : news = [] := List.length_eq_zero_iff.1 (by simpa using hl)
    unfold Oper.wp execOp
    simp only [ho, resolve, invoke, builtin, Sem.run_bind, Sem.run_pure, Result.andThen_ok, List.map_toArray, List.map_cons, List.map_nil, hs, hx, run_append_owned_none (P := P) (w := w) base t o.type e i size ht hi v n xs hown]
    exact h v w (by simpa [hn] using hown) (World.grownBy.refl _ _) (.inl rfl)

/-! ### what an append leaves -/
theorem kp_app {w wx w' : World} {ob : Obj} {base n : Nat} {e : TypeId} {s : Nat} {v : Value} {xs : List Value} (hk : Kp No w wx) (ho : wx.ownsRow base e s v n xs) (hb : w.heap.size ≤ base) (hg : (wx.alloc ob).grownBy w' v.ownBlock) : Kp No w w' :=
  hk.trans ((Kp.alloc (fun g => base ≤ g) _ _).tr (Kp.grown hg fun g hg _ => (own_ge ho hg).1)) fun g hg h => by have h : base ≤ g := h; omega
theorem kp_app0 {w wx w' : World} {base n : Nat} {e : TypeId} {s : Nat} {v : Value} {xs : List Value} (hk : Kp No w wx) (ho : wx.ownsRow base e s v n xs) (hb : w.heap.size ≤ base) (hg : wx.grownBy w' v.ownBlock) : Kp No w w' :=
  hk.trans (Kp.grown (S := fun g => base ≤ g) hg fun g hg _ => (own_ge ho hg).1) fun g hg h => by have h : base ≤ g := h; omega
theorem own_app {wx w' : World} {ob : Obj} {base base' n n' : Nat} {e e' : TypeId} {s s' : Nat} {v v' : Value} {xs xs' : List Value} (ho : wx.ownsRow base e s v n xs) (ho' : wx.ownsRow base' e' s' v' n' xs') (hne : e ≠ e') (hg : (wx.alloc ob).grownBy w' v.ownBlock) : w'.ownsRow base' e' s' v' n' xs' :=
  (Kp.grown (S := fun g => v.ownBlock = some g) hg fun _ hg _ => hg).owns (ho'.alloc _) fun _ hg hS => own_apart ho ho' hne hS hg
theorem own_app0 {wx w' : World} {base base' n n' : Nat} {e e' : TypeId} {s s' : Nat} {v v' : Value} {xs xs' : List Value} (ho : wx.ownsRow base e s v n xs) (ho' : wx.ownsRow base' e' s' v' n' xs') (hne : e ≠ e') (hg : wx.grownBy w' v.ownBlock) : w'.ownsRow base' e' s' v' n' xs' :=
  (Kp.grown (S := fun g => v.ownBlock = some g) hg fun _ hg _ => hg).owns ho' fun _ hg hS => own_apart ho ho' hne hS hg
theorem own_news {w : World} {base n : Nat} {e : TypeId} {s : Nat} {ao : Option Addr} {m c : Nat} {xs : List Value} (h : w.ownsRow base e s (.slice ao m c) n xs) : (ao = none → m = 0 ∧ c = 0) ∧ ∀ ad, ao = some ad → ∀ j u, xs[j]? = some u → w.cell? (ad.add j) = some u := by
  rcases h.2 with ⟨hv, h0⟩ | ⟨g, cap, cur, hv, _⟩
  · cases hv
    exact ⟨fun _ => ⟨rfl, rfl⟩, fun ad h => (by cases h)⟩
  · cases hv
    have hn : w.ownsRow base e s (.slice (some ⟨g, 0, none⟩) n c) n xs := h
    exact ⟨fun h => (by cases h), fun ad had j u hj => by
      cases had
      rw [add_at, Nat.zero_add]
      exact own_cell hn hj⟩

theorem new_cells {e : TypeId} (w : World) (cs : List Value) (hm : cs.length ≤ maxLen) : ∀ j u, cs[j]? = some u → (w.alloc (.cells cs.toArray e)).cell? ((⟨w.heap.size, 0, none⟩ : Addr).add j) = some u := fun j u hj => by
  rw [add_at, Nat.zero_add]
  exact own_cell (own_made (e := e) (s := 1) (n := cs.length) w (by omega) (Nat.zero_le _) hm) hj

/-- Of a region that appends m elements (cells: new) to the row in the box bx: operation ld loads the slice, bs lays what is new, ap appends, st stores. -/
structure Ap (w0 : World) (bx base : Nat) (e : TypeId) (s : Nat) (ty : TypeId) (T : Value → Array Value) (v0 : Value) (n m : Nat) (xs new : List Value) (ld bs ap st : Nat) (r : Nat → Option Value) (w : World) : Prop where
  kp : Kp (fun k => k = bx ∨ v0.ownBlock = some k) w0 w
  box : r st = none → w.heap[bx]? = some (.cells (T v0) ty (0, 0))
  row : r ap = none → w.ownsRow base e s v0 n xs
  made : ∀ u, r bs = some u → r ap = none → ∃ g, u = .slice (some ⟨g, 0, none⟩) m m ∧ w0.heap.size ≤ g ∧ ∀ j x, new[j]? = some x → w.cell? ⟨g, j, none⟩ = some x
  done : ∀ u, r ap = some u → r ld ≠ none ∧ r bs ≠ none ∧ w.ownsRow base e s u (n + m) (xs ++ new) ∧ u.ownBlock ≠ some bx ∧ (u.ownBlock = v0.ownBlock ∨ ∃ g, u.ownBlock = some g ∧ w0.heap.size ≤ g)
  put : r st ≠ none → ∃ u, r ap = some u ∧ w.heap[bx]? = some (.cells (T u) ty (0, 0))

section
variable {w0 w w' : World} {bx base : Nat} {e : TypeId} {s : Nat} {ty : TypeId} {T : Value → Array Value} {v0 : Value} {n m : Nat} {xs new : List Value} {ld bs ap st : Nat} {r : Nat → Option Value}
theorem Ap.start (hb : w0.heap[bx]? = some (.cells (T v0) ty (0, 0))) (hr : w0.ownsRow base e s v0 n xs) : Ap w0 bx base e s ty T v0 n m xs new ld bs ap st (fun _ => none) w0.drew :=
  ⟨Kp.drew _ _, fun _ => hb, fun _ => (Kp.drew No w0).owns hr fun _ _ h => h, fun u h => (by cases h), fun u h => (by cases h), fun h => absurd rfl h⟩
theorem Ap.upd (h : Ap w0 bx base e s ty T v0 n m xs new ld bs ap st r w) (i : Nat) (v : Value) (h1 : i ≠ bs) (h2 : i ≠ ap) (h3 : i ≠ st) : Ap w0 bx base e s ty T v0 n m xs new ld bs ap st (Kq.upd r i v) w := by
  have e1 := upd_ne r v h1.symm
  have e2 := upd_ne r v h2.symm
  have e3 := upd_ne r v h3.symm
  refine ⟨h.kp, fun hh => h.box (e3 ▸ hh), fun hh => h.row (e2 ▸ hh), fun u hu hh => h.made u (e1 ▸ hu) (e2 ▸ hh), fun u hu => ?_, fun hh => ?_⟩
  · obtain ⟨a, b⟩ := h.done u (e2 ▸ hu)
    refine ⟨?_, by rw [e1]; exact b.1, b.2⟩
    by_cases hi : ld = i
    · rw [hi, upd_same]
      simp
    · rw [upd_ne _ _ hi]
      exact a
  · rw [e3] at hh
    rw [e2]
    exact h.put hh
theorem Ap.call (h : Ap w0 bx base e s ty T v0 n m xs new ld bs ap st r w) (k : Kp No w w') : Ap w0 bx base e s ty T v0 n m xs new ld bs ap st r w' := by
  refine ⟨h.kp.no k, fun hh => k.heap (h.box hh) id, fun hh => k.owns (h.row hh) fun _ _ x => x, fun u hu hh => ?_, fun u hu => ?_, fun hh => ?_⟩
  · obtain ⟨g, h1, h2, h4⟩ := h.made u hu hh
    exact ⟨g, h1, h2, fun j x hj => k.cell (h4 j x hj) id⟩
  · obtain ⟨a, b, c, d⟩ := h.done u hu
    exact ⟨a, b, k.owns c fun _ _ x => x, d⟩
  · obtain ⟨u, h1, h2⟩ := h.put hh
    exact ⟨u, h1, k.heap h2 id⟩
theorem Ap.load (h : Ap w0 bx base e s ty T v0 n m xs new ld bs ap st r w) (hr : r ld = none) : w.heap[bx]? = some (.cells (T v0) ty (0, 0)) := by
  refine h.box ?_
  cases hs : r st with
  | none => rfl
  | some u =>
    obtain ⟨u', h1, _⟩ := h.put (by rw [hs]; simp)
    exact absurd hr (h.done u' h1).1
theorem Ap.lay (h : Ap w0 bx base e s ty T v0 n m xs new ld bs ap st r w) (hr : r bs = none) (hne : bs ≠ ap ∧ bs ≠ st ∧ bs ≠ ld) (hl : new.length = m * s) (hm : m ≤ maxLen) {e' : TypeId} {cs : Array Value} (hcs : cs = new.toArray) : Ap w0 bx base e s ty T v0 n m xs new ld bs ap st (Kq.upd r bs (.slice (some ⟨w.heap.size, 0, none⟩) m m)) (w.alloc (.cells cs e')) := by
  subst hcs
  have h' := h.call (Kp.alloc No w (.cells new.toArray e'))
  have e2 := upd_ne r (Value.slice (some ⟨w.heap.size, 0, none⟩) m m) hne.1.symm
  have e3 := upd_ne r (Value.slice (some ⟨w.heap.size, 0, none⟩) m m) hne.2.1.symm
  have e4 := upd_ne r (Value.slice (some ⟨w.heap.size, 0, none⟩) m m) hne.2.2.symm
  refine ⟨h'.kp, fun hh => h'.box (e3 ▸ hh), fun hh => h'.row (e2 ▸ hh), fun u hu hh => ?_, fun u hu => absurd hr (h.done u (e2 ▸ hu)).2.1, fun hh => ?_⟩
  · rw [upd_same] at hu
    cases hu
    refine ⟨w.heap.size, rfl, h.kp.size, fun j x hj => ?_⟩
    exact own_cell (own_made (e := e') w hl (Nat.zero_le _) hm) hj
  · rw [e3] at hh
    rw [e2]
    exact h'.put hh
theorem Ap.app (h : Ap w0 bx base e s ty T v0 n m xs new ld bs ap st r w) (hv : v0.ownBlock ≠ some bx) (hr : r ap = none) (hld : r ld ≠ none) (hbs : r bs ≠ none) (hne : ap ≠ bs ∧ ap ≠ st ∧ ap ≠ ld) {v' : Value} (ho : w'.ownsRow base e s v' (n + m) (xs ++ new)) (hg : w.grownBy w' v0.ownBlock) (hat : v'.ownBlock = v0.ownBlock ∨ v'.ownBlock = some w.heap.size) : Ap w0 bx base e s ty T v0 n m xs new ld bs ap st (Kq.upd r ap v') w' := by
  have e2 := upd_ne r v' hne.1.symm
  have e3 := upd_ne r v' hne.2.1.symm
  have e4 := upd_ne r v' hne.2.2.symm
  have hst : r st = none := by
    cases hs : r st with
    | none => rfl
    | some u =>
      obtain ⟨u', h1, _⟩ := h.put (by rw [hs]; simp)
      rw [hr] at h1
      cases h1
  have hb := h.box hst
  have hk : Kp (fun k => v0.ownBlock = some k) w w' := Kp.grown hg fun k hk _ => hk
  refine ⟨h.kp.trans hk fun k _ hk => .inr hk, fun _ => hk.heap hb hv, fun hh => ?_, fun u _ hh => ?_, fun u hu => ?_, fun hh => ?_⟩
  · rw [upd_same] at hh
    cases hh
  · rw [upd_same] at hh
    cases hh
  · rw [upd_same] at hu
    cases hu
    refine ⟨by rw [e4]; exact hld, by rw [e2]; exact hbs, ho, fun hx => ?_, ?_⟩
    · rcases hat with hat | hat
      · exact hv (hat ▸ hx)
      · rw [hat] at hx
        cases hx
        have := (Array.getElem?_eq_some_iff.1 hb).1
        omega
    · rcases hat with hat | hat
      · exact .inl hat
      · exact .inr ⟨_, hat, h.kp.size⟩
  · rw [e3, hst] at hh
    exact absurd rfl hh
theorem Ap.store (h : Ap w0 bx base e s ty T v0 n m xs new ld bs ap st r w) (hr : r st = none) {u : Value} (hu : r ap = some u) (hne : st ≠ bs ∧ st ≠ ap ∧ st ≠ ld) (k : Nat) (hT : (T v0).setIfInBounds k u = T u) (x : Value) : Ap w0 bx base e s ty T v0 n m xs new ld bs ap st (Kq.upd r st x) (w.setCell ⟨bx, k, none⟩ u) := by
  have e2 := upd_ne r x hne.1.symm
  have e3 := upd_ne r x hne.2.1.symm
  have e4 := upd_ne r x hne.2.2.symm
  have hb := h.box hr
  have hk : Kp (One bx) w (w.setCell ⟨bx, k, none⟩ u) := kp_setOne _ _ _ _
  obtain ⟨d1, d2, d3, d4, d5⟩ := h.done u hu
  refine ⟨h.kp.trans hk fun g _ hg => .inl hg, fun hh => ?_, fun hh => ?_, fun v _ hh => ?_, fun v hv => ?_, fun _ => ⟨u, by rw [e3, hu], ?_⟩⟩
  · rw [upd_same] at hh
    cases hh
  · rw [e3, hu] at hh
    cases hh
  · rw [e3, hu] at hh
    cases hh
  · rw [e3, hu] at hv
    cases hv
    exact ⟨by rw [e4]; exact d1, by rw [e2]; exact d2, hk.owns d3 fun g hg hh => d4 (by rw [hg, show g = bx from hh]), d4, d5⟩
  · rw [← hT]
    simp [World.setCell, Array.getElem?_modify, hb]
theorem Ap.fin (h : Ap w0 bx base e s ty T v0 n m xs new ld bs ap st r w) (hr : r st ≠ none) : ∃ u, r ap = some u ∧ w.ownsRow base e s u (n + m) (xs ++ new) ∧ w.heap[bx]? = some (.cells (T u) ty (0, 0)) ∧ Kp (fun k => k = bx ∨ v0.ownBlock = some k) w0 w ∧ (u.ownBlock = v0.ownBlock ∨ ∃ g, u.ownBlock = some g ∧ w0.heap.size ≤ g) := by
  obtain ⟨u, h1, h2⟩ := h.put hr
  obtain ⟨_, _, d3, _, d5⟩ := h.done u h1
  exact ⟨u, h1, d3, h2, h.kp, d5⟩
end
theorem Ap.renew {w0 w : World} {bx base : Nat} {e : TypeId} {s : Nat} {ty : TypeId} {T : Value → Array Value} {v0 : Value} {n m : Nat} {xs new new' : List Value} {ld bs ap st : Nat} {r : Nat → Option Value} (h : Ap w0 bx base e s ty T v0 n m xs new ld bs ap st r w) (hr : r bs = none) : Ap w0 bx base e s ty T v0 n m xs new' ld bs ap st r w :=
  ⟨h.kp, h.box, h.row, fun u hu => (by rw [hr] at hu; cases hu), fun u hu => absurd hr (h.done u hu).2.1, h.put⟩
end Go.Kq
