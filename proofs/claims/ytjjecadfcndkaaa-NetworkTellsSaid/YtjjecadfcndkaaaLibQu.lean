/- A queue: a slice of the call's own that begins anywhere in its block. No program in sight. -/
import Derived.Test.YtjjecadfcndkaaaLibKp
import Derived.Maps.AppendAt
import Derived.ArgAppend
namespace Go.Kq
open Go.RowKit

def Qu (w : World) (base : Nat) (e : TypeId) (g off cap : Nat) (xs : List Value) : Prop :=
  ∃ cur, base ≤ g ∧ w.heap[g]? = some (.cells cur e (0, 0)) ∧ xs.length ≤ cap ∧ cap ≤ maxLen ∧ off + cap ≤ cur.size ∧ ∀ j u, xs[j]? = some u → cur[off + j]? = some u
theorem Qu.kp {S : Nat → Prop} {w w' : World} {base g off cap : Nat} {e : TypeId} {xs : List Value} (h : Qu w base e g off cap xs) (hk : Kp S w w') (hS : ¬ S g) : Qu w' base e g off cap xs := by
  obtain ⟨cur, h1, h2, h3⟩ := h
  exact ⟨cur, h1, hk.heap h2 hS, h3⟩
theorem Qu.lt {w : World} {base g off cap : Nat} {e : TypeId} {xs : List Value} (h : Qu w base e g off cap xs) : base ≤ g ∧ g < w.heap.size := by
  obtain ⟨cur, h1, h2, h3⟩ := h
  exact ⟨h1, (Array.getElem?_eq_some_iff.1 h2).1⟩
theorem Qu.cell {w : World} {base g off cap : Nat} {e : TypeId} {xs : List Value} (h : Qu w base e g off cap xs) {j : Nat} {u : Value} (hj : xs[j]? = some u) : w.cell? ⟨g, off + j, none⟩ = some u := by
  obtain ⟨cur, h1, h2, h3, h4, h5, h6⟩ := h
  rw [cell_of_row w g _ cur e (0, 0) h2]
  exact h6 j u hj
theorem Qu.tail {w : World} {base g off cap : Nat} {e : TypeId} {x : Value} {xs : List Value} (h : Qu w base e g off cap (x :: xs)) : Qu w base e g (off + 1) (cap - 1) xs := by
  obtain ⟨cur, h1, h2, h3, h4, h5, h6⟩ := h
  simp at h3
  refine ⟨cur, h1, h2, by omega, by omega, by omega, fun j u hj => ?_⟩
  rw [show off + 1 + j = off + (j + 1) by omega]
  exact h6 (j + 1) u (by simpa using hj)
theorem Qu.last {w : World} {base g off : Nat} {e : TypeId} {x : Value} {xs : List Value} (h : Qu w base e g off 1 (x :: xs)) : xs = [] ∧ Qu w base e g off 0 [] := by
  obtain ⟨cur, h1, h2, h3, h4, h5, h6⟩ := h
  simp at h3
  exact ⟨h3, cur, h1, h2, by simp, by omega, by omega, fun j u hj => by simp at hj⟩
theorem qu_new (w : World) (base : Nat) (e : TypeId) (x : Value) (hb : base ≤ w.heap.size) : Qu (w.alloc (.cells #[x] e)) base e w.heap.size 0 1 [x] :=
  ⟨#[x], hb, heap_alloc_new w _, by simp, by unfold maxLen; omega, by simp, fun j u hj => by
    match j, hj with
    | 0, hj => simpa using hj⟩
theorem own_qu {w : World} {base n : Nat} {e : TypeId} {v : Value} {xs : List Value} (h : w.ownsRow base e 1 v n xs) (hn : 0 < n) : ∃ g cap, v = .slice (some ⟨g, 0, none⟩) n cap ∧ Qu w base e g 0 cap xs := by
  obtain ⟨hl, ⟨rfl, h0⟩ | ⟨g, cap, cur, rfl, hb, hg, hnc, hcm, hcs, ht⟩⟩ := h
  · omega
  · refine ⟨g, cap, rfl, cur, hb, hg, by omega, hcm, by omega, fun j u hj => ?_⟩
    rw [← ht, List.getElem?_take] at hj
    split at hj
    · rw [Nat.zero_add]
      simpa using hj
    · cases hj

section
variable {P : Program} (w : World)
theorem run_append_qu (base : Nat) (t ty e : TypeId) (i : TypeInfo) (z : Value) (bytes : Nat) (ht : P.underlying t = some (.slice e)) (hi : P.info? e = some i) (hz : i.zero = some z)
    (hsize : i.size = 1) (hby : i.bytes = bytes) (hzs : z.cells.size = 1) (g off cap : Nat) (xs : List Value) (hq : Qu w base e g off cap xs)
    (a : Addr) (c : Nat) (x : Value) (hx : w.cell? a = some x) (h1 : x.oneCell' = true) (h63 : xs.length + 1 ≤ maxLen) (hbytes : (xs.length + 1) * bytes ≤ 140737488355328) (hbase : base ≤ w.heap.size) :
    ∃ g' off' cap' w', (Builtin.append_ #[t, t] ty #[.slice (some ⟨g, off, none⟩) xs.length cap, .slice (some a) 1 c]).run P w = .ok (.slice (some ⟨g', off', none⟩) (xs.length + 1) cap') w' ∧ Qu w' base e g' off' cap' (xs ++ [x]) ∧ w.grownBy w' (some g) := by
  have hnews : ∀ j u, [x][j]? = some u → w.cell? (a.add j) = some u := fun j u hj => by
    match j, hj with
    | 0, hj =>
      simp at hj
      subst hj
      have : a.add 0 = a := by
        obtain ⟨b, o, s⟩ := a
        unfold Addr.add
        split <;> simp_all
      rw [this]
      exact hx
  have hone : ∀ u ∈ [x], u.oneCell' = true := fun u hu => by
    simp at hu
    subst hu
    exact h1
  obtain ⟨cur, q1, q2, q3, q4, q5, q6⟩ := hq
  by_cases hroom : xs.length + 1 ≤ cap
  · have hc : ∀ j, j < [x].length → (w.cell? ⟨g, off + xs.length * i.size + j, none⟩).isSome = true := fun j hj => by
      simp at hj
      subst hj
      rw [cell_of_row w g _ cur e (0, 0) q2, hsize]
      simp
      omega
    have hf : ∀ j, j < [x].length → w.frozen? ⟨g, off + xs.length * i.size + j, none⟩ = false := fun j _ => by simp [World.frozen?, q2]
    have hr := run_append_room_cells (P := P) w t ty e i ht hi g off xs.length cap a 1 c [x] (by simp [hsize]) hnews hone hroom hc hf
    refine ⟨g, off, cap, _, hr, ⟨cur.setIfInBounds (off + xs.length) x, q1, ?_, by simpa using hroom, q4, by simpa using q5, fun j u hj => ?_⟩, ?_⟩
    · simp only [World.setCells, hsize, Nat.mul_one, World.setCell, Array.getElem?_modify, q2]
      simp
    · rw [List.getElem?_append] at hj
      split at hj
      · rename_i hlt
        rw [Array.getElem?_setIfInBounds_ne (by omega)]
        exact q6 j u hj
      · rename_i hge
        have hj0 : j - xs.length = 0 := by
          have := (List.getElem?_eq_some_iff.1 hj).1
          simp at this
          omega
        rw [hj0] at hj
        simp at hj
        subst hj
        have : j = xs.length := by omega
        subst this
        rw [Array.getElem?_setIfInBounds_self_of_lt (by omega)]
    · refine ⟨rfl, rfl, rfl, by simp [World.setCells], fun k hk hne => ?_⟩
      have : g ≠ k := fun e => hne (by rw [e])
      simp [World.setCells, World.setCell, Array.getElem?_modify, this]
  · obtain ⟨v', w', hr, hown, hgr⟩ := run_append_arg_grows (P := P) w t ty e i z 1 bytes ht hi hz hsize hby hzs (by decide) ⟨g, off, none⟩ xs.length cap xs (by simp) (fun j u hj => by
      have : (⟨g, off, none⟩ : Addr).add j = ⟨g, off + j, none⟩ := by unfold Addr.add; split <;> simp_all
      rw [this, cell_of_row w g _ cur e (0, 0) q2]
      exact q6 j u hj) a 1 c [x] (by simp) hnews (by omega) h63 hbytes
    obtain ⟨g', cap', rfl, hq⟩ := own_qu hown (by omega)
    obtain ⟨cur', r1, r2⟩ := hq
    exact ⟨g', 0, cap', w', hr, ⟨cur', by omega, r2⟩, ⟨hgr.os, hgr.tape, hgr.output, hgr.size, fun k hk _ => hgr.block k hk (by simp)⟩⟩

theorem wpL_append_qu {ops : Array Oper} {rest : List Oper} {o : Oper} {a : Act} {Q : Exit → Act → World → Prop} (hgd : o.guard = none) (s x : Operand) (t : TypeId)
    (ho : o.op = .call { callee := .builtin .append, args := #[s, x], argTypes := #[t, t] })
    (base : Nat) (e : TypeId) (i : TypeInfo) (z : Value) (bytes : Nat) (ht : P.underlying t = some (.slice e)) (hi : P.info? e = some i) (hz : i.zero = some z)
    (hsize : i.size = 1) (hby : i.bytes = bytes) (hzs : z.cells.size = 1) (g off n cap : Nat) (xs : List Value) (hq : Qu w base e g off cap xs) (hn : xs.length = n) (hs : a.eval s = .slice (some ⟨g, off, none⟩) n cap)
    (ad : Addr) (c : Nat) (u : Value) (hx : a.eval x = .slice (some ad) 1 c) (hu : w.cell? ad = some u) (h1 : u.oneCell' = true) (h63 : n + 1 ≤ maxLen) (hbytes : (n + 1) * bytes ≤ 140737488355328) (hbase : base ≤ w.heap.size)
    (h : ∀ g' off' cap' w', Qu w' base e g' off' cap' (xs ++ [u]) → w.grownBy w' (some g) → wpList P ops Q rest (a.put o.dst (.slice (some ⟨g', off', none⟩) (n + 1) cap')) w') :
    wpList P ops Q (o :: rest) a w := by
  subst hn
  refine wpList_plain hgd fun K hK => ?_
  obtain ⟨g', off', cap', w', hr, h2, h3⟩ := run_append_qu (P := P) w base t o.type e i z bytes ht hi hz hsize hby hzs g off cap xs hq ad c u hu h1 h63 hbytes hbase
  unfold Oper.wp execOp
  simp only [ho, resolve, invoke, builtin, Sem.run_bind, Sem.run_pure, Result.andThen_ok, List.map_toArray, List.map_cons, List.map_nil, hs, hx, hr]
  exact hK _ _ (h g' off' cap' w' h2 h3)
end
end Go.Kq
