/- A queue: a slice of the call's own that begins anywhere in its block. No program in sight. · Chapter 14: pipes and webs in memory; walks of link and drain. -/
import Derived.Maps.AppendAt
import Derived.ArgAppend
import Derived.Test.YtpkbpeeelpgmcaaGreatProg
import Derived.KernelRfl
import Derived.Test.YtpkbpeeelpgmcaaGreatXLibRowM
import Derived.Test.YtpkbpeeelpgmcaaGreatXNwNetM
namespace Go.Kq
open Go.RowKit

def Qu (w : World) (base : Nat) (e : TypeId) (g off cap : Nat) (xs : List Value) : Prop :=
  ∃ cur, base ≤ g ∧ w.heap[g]? = some (.cells cur e (0, 0)) ∧ xs.length ≤ cap ∧ cap ≤ maxLen ∧ off + cap ≤ cur.size ∧ ∀ j u, xs[j]? = some u → cur[off + j]? = some u
theorem Qu.kp {S : Nat → Prop} {w w' : World} {base g off cap : Nat} {e : TypeId} {xs : List Value} (h : Qu w base e g off cap xs) (hk : Kp S w w') (hS : ¬ S g) : Qu w' base e g off cap xs := by
  obtain ⟨cur, h1, h2, h3⟩ := h
  exact ⟨cur, h1, hk.heap h2 hS, h3⟩
theorem Qu.lt {w : World} {base g off cap : Nat} {e : TypeId} {xs : List Value} (h : Qu w base e g off cap xs) : base ≤ g ∧ g < w.heap.size := by
  obtain ⟨cur, h1, h2, h3⟩ := h
  exact ⟨h1, (Array.getElem?_eq_some_iff.1 h2).1⟩
theorem Qu.cell {w : World} {base g off cap : Nat} {e : TypeId} {xs : List Value} (h : Qu w base e g off cap xs) {j : Nat} {u : Value} (hj : xs[j]? = some u) : w.cell? ⟨g, off + j, none⟩ = some u := by
  obtain ⟨cur, h1, h2, h3, h4, h5, h6⟩ := h
  rw [cell_of_row w g _ cur e (0, 0) h2]
  exact h6 j u hj
theorem Qu.tail {w : World} {base g off cap : Nat} {e : TypeId} {x : Value} {xs : List Value} (h : Qu w base e g off cap (x :: xs)) : Qu w base e g (off + 1) (cap - 1) xs := by
  obtain ⟨cur, h1, h2, h3, h4, h5, h6⟩ := h
  simp at h3
  refine ⟨cur, h1, h2, by omega, by omega, by omega, fun j u hj => ?_⟩
  rw [show off + 1 + j = off + (j + 1) by omega]
  exact h6 (j + 1) u (by simpa using hj)
theorem Qu.last {w : World} {base g off : Nat} {e : TypeId} {x : Value} {xs : List Value} (h : Qu w base e g off 1 (x :: xs)) : xs = [] ∧ Qu w base e g off 0 [] := by
  obtain ⟨cur, h1, h2, h3, h4, h5, h6⟩ := h
  simp at h3
  exact ⟨h3, cur, h1, h2, by simp, by omega, by omega, fun j u hj => by simp at hj⟩
theorem qu_new (w : World) (base : Nat) (e : TypeId) (x : Value) (hb : base ≤ w.heap.size) : Qu (w.alloc (.cells #[x] e)) base e w.heap.size 0 1 [x] :=
  ⟨#[x], hb, heap_alloc_new w _, by simp, by unfold maxLen; omega, by simp, fun j u hj => by
    match j, hj with
    | 0, hj => simpa using hj⟩
theorem own_qu {w : World} {base n : Nat} {e : TypeId} {v : Value} {xs : List Value} (h : w.ownsRow base e 1 v n xs) (hn : 0 < n) : ∃ g cap, v = .slice (some ⟨g, 0, none⟩) n cap ∧ Qu w base e g 0 cap xs := by
  obtain ⟨hl, ⟨rfl, h0⟩ | ⟨g, cap, cur, rfl, hb, hg, hnc, hcm, hcs, ht⟩⟩ := h
  · omega
  · refine ⟨g, cap, rfl, cur, hb, hg, by omega, hcm, by omega, fun j u hj => ?_⟩
    rw [← ht, List.getElem?_take] at hj
    split at hj
    · rw [Nat.zero_add]
      simpa using hj
    · cases hj

section
variable {P : Program} (w : World)
theorem run_append_qu (base : Nat) (t ty e : TypeId) (i : TypeInfo) (z : Value) (bytes : Nat) (ht : P.underlying t = some (.slice e)) (hi : P.info? e = some i) (hz : i.zero = some z)
    (hsize : i.size = 1) (hby : i.bytes = bytes) (hzs : z.cells.size = 1) (g off cap : Nat) (xs : List Value) (hq : Qu w base e g off cap xs)
    (a : Addr) (c : Nat) (x : Value) (hx : w.cell? a = some x) (h1 : x.oneCell' = true) (h63 : xs.length + 1 ≤ maxLen) (hbytes : (xs.length + 1) * bytes ≤ 140737488355328) (hbase : base ≤ w.heap.size) :
    ∃ g' off' cap' w', (Builtin.append_ #[t, t] ty #[.slice (some ⟨g, off, none⟩) xs.length cap, .slice (some a) 1 c]).run P w = .ok (.slice (some ⟨g', off', none⟩) (xs.length + 1) cap') w' ∧ Qu w' base e g' off' cap' (xs ++ [x]) ∧ w.grownBy w' (some g) := by
  have hnews : ∀ j u, [x][j]? = some u → w.cell? (a.add j) = some u := fun j u hj => by
    match j, hj with
    | 0, hj =>
      simp at hj
      subst hj
      have : a.add 0 = a := by
        obtain ⟨b, o, s⟩ := a
        unfold Addr.add
        split <;> simp_all
      rw [this]
      exact hx
  have hone : ∀ u ∈ [x], u.oneCell' = true := fun u hu => by
    simp at hu
    subst hu
    exact h1
  obtain ⟨cur, q1, q2, q3, q4, q5, q6⟩ := hq
  by_cases hroom : xs.length + 1 ≤ cap
  · have hc : ∀ j, j < [x].length → (w.cell? ⟨g, off + xs.length * i.size + j, none⟩).isSome = true := fun j hj => by
      simp at hj
      subst hj
      rw [cell_of_row w g _ cur e (0, 0) q2, hsize]
      simp
      omega
    have hf : ∀ j, j < [x].length → w.frozen? ⟨g, off + xs.length * i.size + j, none⟩ = false := fun j _ => by simp [World.frozen?, q2]
    have hr := run_append_room_cells (P := P) w t ty e i ht hi g off xs.length cap a 1 c [x] (by simp [hsize]) hnews hone hroom hc hf
    refine ⟨g, off, cap, _, hr, ⟨cur.setIfInBounds (off + xs.length) x, q1, ?_, by simpa using hroom, q4, by simpa using q5, fun j u hj => ?_⟩, ?_⟩
    · simp only [World.setCells, hsize, Nat.mul_one, World.setCell, Array.getElem?_modify, q2]
      simp
    · rw [List.getElem?_append] at hj
      split at hj
      · rename_i hlt
        rw [Array.getElem?_setIfInBounds_ne (by omega)]
        exact q6 j u hj
      · rename_i hge
        have hj0 : j - xs.length = 0 := by
          have := (List.getElem?_eq_some_iff.1 hj).1
          simp at this
          omega
        rw [hj0] at hj
        simp at hj
        subst hj
        have : j = xs.length := by omega
        subst this
        rw [Array.getElem?_setIfInBounds_self_of_lt (by omega)]
    · refine ⟨rfl, rfl, rfl, by simp [World.setCells], fun k hk hne => ?_⟩
      have : g ≠ k := fun e => hne (by rw [e])
      simp [World.setCells, World.setCell, Array.getElem?_modify, this]
  · obtain ⟨v', w', hr, hown, hgr⟩ := run_append_arg_grows (P := P) w t ty e i z 1 bytes ht hi hz hsize hby hzs (by decide) ⟨g, off, none⟩ xs.length cap xs (by simp) (fun j u hj => by
      have : (⟨g, off, none⟩ : Addr).add j = ⟨g, off + j, none⟩ := by unfold Addr.add; split <;> simp_all
      rw [this, cell_of_row w g _ cur e (0, 0) q2]
      exact q6 j u hj) a 1 c [x] (by simp) hnews (by omega) h63 hbytes
    obtain ⟨g', cap', rfl, hq⟩ := own_qu hown (by omega)
    obtain ⟨cur', r1, r2⟩ := hq
    exact ⟨g', 0, cap', w', hr, ⟨cur', by omega, r2⟩, ⟨hgr.os, hgr.tape, hgr.output, hgr.size, fun k hk _ => hgr.block k hk (by simp)⟩⟩

theorem wpL_append_qu {ops : Array Oper} {rest : List Oper} {o : Oper} {a : Act} {Q : Exit → Act → World → Prop} (hgd : o.guard = none) (s x : Operand) (t : TypeId)
    (ho : o.op = .call { callee := .builtin .append, args := #[s, x], argTypes := #[t, t] })
    (base : Nat) (e : TypeId) (i : TypeInfo) (z : Value) (bytes : Nat) (ht : P.underlying t = some (.slice e)) (hi : P.info? e = some i) (hz : i.zero = some z)
    (hsize : i.size = 1) (hby : i.bytes = bytes) (hzs : z.cells.size = 1) (g off n cap : Nat) (xs : List Value) (hq : Qu w base e g off cap xs) (hn : xs.length = n) (hs : a.eval s = .slice (some ⟨g, off, none⟩) n cap)
    (ad : Addr) (c : Nat) (u : Value) (hx : a.eval x = .slice (some ad) 1 c) (hu : w.cell? ad = some u) (h1 : u.oneCell' = true) (h63 : n + 1 ≤ maxLen) (hbytes : (n + 1) * bytes ≤ 140737488355328) (hbase : base ≤ w.heap.size)
    (h : ∀ g' off' cap' w', Qu w' base e g' off' cap' (xs ++ [u]) → w.grownBy w' (some g) → wpList P ops Q rest (a.put o.dst (.slice (some ⟨g', off', none⟩) (n + 1) cap')) w') :
    wpList P ops Q (o :: rest) a w := by
  subst hn
  refine wpList_plain hgd fun K hK => ?_
  obtain ⟨g', off', cap', w', hr, h2, h3⟩ := run_append_qu (P := P) w base t o.type e i z bytes ht hi hz hsize hby hzs g off cap xs hq ad c u hu h1 h63 hbytes hbase
  unfold Oper.wp execOp
  simp only [ho, resolve, invoke, builtin, Sem.run_bind, Sem.run_pure, Result.andThen_ok, List.map_toArray, List.map_cons, List.map_nil, hs, hx, hr]
  exact hK _ _ (h g' off' cap' w' h2 h3)
end
end Go.Kq

namespace Go.Proofs.YtpkbpeeelpgmcaaGreat
open Go.RowKit Go.Kq Go.Flow

def c5 (p : Pi) : List Value := [.int .i64 p.fr, .int .i64 p.to, .int .i64 p.mo, .int .i64 p.fl, .bool p.st]
theorem c5_len (p : Pi) : (c5 p).length = 5 := rfl
theorem info76 : (Tryz.prog.info? 98).map (fun i => (i.zero, i.size, i.bytes)) = some (some (.agg #[.int .i64 0, .int .i64 0, .int .i64 0, .int .i64 0, .bool false]), 5, 40) := by kernel_rfl
theorem info3 : (Tryz.prog.info? 3).map (fun i => (i.zero, i.size, i.bytes)) = some (some (.int .i64 0), 1, 8) := by kernel_rfl
/-- A web of pipes. -/
structure Web (w : World) (base B V : Nat) (sl : Value) (L : List Pi) : Prop where
  ge : base ≤ B
  head : w.heap[B]? = some (.cells #[.int .i64 V, sl] 96 (0, 0))
  row : w.ownsRow base 98 5 sl L.length (L.flatMap c5)
theorem Web.kp {S : Nat → Prop} {w w' : World} {base B V : Nat} {sl : Value} {L : List Pi} (h : Web w base B V sl L) (hk : Kp S w w') (hB : ¬ S B) (hS : ∀ g, sl.ownBlock = some g → ¬ S g) : Web w' base B V sl L :=
  ⟨h.ge, hk.heap h.head hB, hk.owns h.row hS⟩
theorem Web.no {w w' : World} {base B V : Nat} {sl : Value} {L : List Pi} (h : Web w base B V sl L) (hk : Kp No w w') : Web w' base B V sl L := h.kp hk (fun h => h) fun _ _ h => h
theorem Web.lt {w : World} {base B V : Nat} {sl : Value} {L : List Pi} (h : Web w base B V sl L) : B < w.heap.size := (Array.getElem?_eq_some_iff.1 h.head).1
theorem new5 (w : World) (p : Pi) : ∀ j u, (c5 p)[j]? = some u → (w.alloc (.cells #[.int .i64 p.fr, .int .i64 p.to, .int .i64 p.mo, .int .i64 p.fl, .bool p.st] 98)).cell? ((⟨w.heap.size, 0, none⟩ : Addr).add j) = some u := by
  intro j u hj
  unfold c5 at hj
  rw [add_at, Nat.zero_add]
  match j, hj with
  | 0, hj => simp at hj; subst hj; go_simp
  | 1, hj => simp at hj; subst hj; go_simp
  | 2, hj => simp at hj; subst hj; go_simp
  | 3, hj => simp at hj; subst hj; go_simp
  | 4, hj => simp at hj; subst hj; go_simp
theorem c5_one (p : Pi) : ∀ u ∈ c5 p, u.oneCell' = true := by
  intro u hu
  simp only [c5, List.mem_cons, List.not_mem_nil, or_false] at hu
  rcases hu with rfl | rfl | rfl | rfl | rfl <;> rfl
theorem cell_head {w : World} {B : Nat} {a b : Value} {t : TypeId} (h : w.heap[B]? = some (.cells #[a, b] t (0, 0))) : w.cell? ⟨B, 0, none⟩ = some a ∧ w.cell? ⟨B, 1, none⟩ = some b ∧ w.frozen? ⟨B, 0, none⟩ = false ∧ w.frozen? ⟨B, 1, none⟩ = false := by
  refine ⟨?_, ?_, ?_, ?_⟩
  · rw [cell_of_row w B 0 _ _ _ h]; rfl
  · rw [cell_of_row w B 1 _ _ _ h]; rfl
  · simp [World.frozen?, h]
  · simp [World.frozen?, h]

theorem head_set {w : World} {B : Nat} {a b u : Value} {t : TypeId} (h : w.heap[B]? = some (.cells #[a, b] t (0, 0))) : (w.setCell ⟨B, 1, none⟩ u).heap[B]? = some (.cells #[a, u] t (0, 0)) := by
  simp [World.setCell, Array.getElem?_modify, h]
theorem drain_any (base B V : Nat) (sl : Value) (L : List Pi) (w : World) (h : Web w base B V sl L) :
    Calls Tryz.prog 106 #[.pointer (some ⟨B, 0, none⟩)] w fun e w' => e = .returned (.int .i64 V) ∧ w = w' := by
  obtain ⟨h0, _, _, _⟩ := cell_head h.head
  go_enter Tryz.func106, Tryz.ntmps106
  go_wp2
  go_ret
  exact ⟨rfl, rfl⟩

set_option maxHeartbeats 1000000 in
theorem link_any (base B V : Nat) (sl : Value) (L : List Pi) (f t : Nat) (m : Int) (w : World) (h : Web w base B V sl L) (hl : L.length ≤ 100) (hbase : base ≤ w.heap.size) :
    Calls Tryz.prog 105 #[.pointer (some ⟨B, 0, none⟩), .int .i64 f, .int .i64 t, .int .i64 m] w fun e w' => (∃ v, e = .returned v) ∧ ∃ sl', Web w' base B V sl' (L ++ [⟨f, t, m, 0, false⟩]) ∧ Kp (fun k => base ≤ k) w w' := by
  obtain ⟨i0, hi0, hz0, hz1, hz2⟩ := info_parts info76
  obtain ⟨h0, h1, f0, f1⟩ := cell_head h.head
  obtain ⟨a, cap, rfl, hcap, hcm, hnn⟩ := own_form h.row
  have HW := Lib.hid h
  clear h hnn
  go_enter Tryz.func105, Tryz.ntmps105
  go_wp2_with (at_builtin; refine stop_in ?_)
  refine stop_out ?_
  refine wpList_append_own_at _ rfl _ _ 94 rfl base 98 i0 (.agg #[.int .i64 0, .int .i64 0, .int .i64 0, .int .i64 0, .bool false]) 5 40 Tryz.underlying94 hi0 hz0 hz1 hz2 rfl (by decide) (.slice a L.length cap) L.length (L.flatMap c5) rfl (HW.out.row.alloc _) ⟨w.heap.size, 0, none⟩ 1 1 (c5 ⟨f, t, m, 0, false⟩) rfl rfl (new5 w ⟨f, t, m, 0, false⟩) (c5_one _) (by unfold maxLen; omega) (by omega) (by simp; omega) ?_
  intro v' w1 hown' hgrow hnil hat
  have hb1 : some B ≠ (Value.slice a L.length cap).ownBlock := fun e => own_other HW.out.row HW.out.head (by decide) e.symm
  have hk1 : Kp (fun k => (Value.slice a L.length cap).ownBlock = some k) w w1 := (Kp.alloc _ _ _).tr (Kp.grown hgrow fun k h _ => h)
  have hhead := hk1.heap HW.out.head (fun e => hb1 e.symm)
  obtain ⟨g0, g1, g2, g3⟩ := cell_head hhead
  rw [← flat_snoc] at hown'
  have hne : v'.ownBlock ≠ some B := own_other hown' hhead (by decide)
  obtain ⟨a', cap', rfl, _, _, _⟩ := own_form hown'
  have HO := Lib.hid hown'
  have HH := Lib.hid hhead
  have HK := Lib.hid hk1
  have HN := Lib.hid hne
  clear hown' hgrow hnil hat hhead hk1 hb1 hne
  go_wp2_with fail
  go_end0
  have hlen : (L ++ [(⟨f, t, m, 0, false⟩ : Pi)]).length = L.length + 1 := by simp
  refine ⟨⟨_, rfl⟩, _, ⟨HW.out.ge, head_set HH.out, ?_⟩, ?_⟩
  · rw [hlen]
    exact (Kp.setCell (fun k => k = B) w1 ⟨B, 1, none⟩ _ fun _ => rfl).owns HO.out fun g hg e => HN.out (by rw [← e]; exact hg)
  · refine ((HK.out.mono fun k _ h => (own_ge HW.out.row h).1).tr (Kp.setCell _ _ _ _ fun _ => HW.out.ge))
end Go.Proofs.YtpkbpeeelpgmcaaGreat
