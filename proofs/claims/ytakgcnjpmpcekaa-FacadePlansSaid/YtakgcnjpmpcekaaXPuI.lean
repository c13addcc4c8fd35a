/- One number more behind a row of the call's own; a row of numbers behind another one. -/
import Derived.Test.YtakgcnjpmpcekaaXLibMakeM
import Derived.Test.YtakgcnjpmpcekaaXLibApR
namespace Go.Proofs.Ytakgcnjpmpcekaa
open Go.RowKit Go.Kq

theorem infoI64 : (Try.prog.info? 2).map (fun i => (i.zero, i.size, i.bytes)) = some (some (.int .i64 0), 1, 8) := by kernel_rfl
theorem infoI0 : (Try.prog.info? 3).map (fun i => (i.zero, i.size, i.bytes)) = some (some (.int .i64 0), 1, 8) := by kernel_rfl
abbrev OwL (w : World) (base : Nat) (v : Value) (zs : List Int) : Prop := w.ownsRow base 2 1 v zs.length (zs.map (Value.int .i64))
section
variable {w wr w0 : World} {ops : Array Oper} {rest : List Oper} {o : Oper} {a : Act} {Q : Exit → Act → World → Prop}
set_option maxRecDepth 10000 in
theorem push_gen {t e : TypeId} {i0 : TypeInfo} (ht : Try.prog.underlying t = some (.slice e)) (hi : Try.prog.info? e = some i0) (hz0 : i0.zero = some (.int .i64 0)) (hz1 : i0.size = 1) (hz2 : i0.bytes = 8)
    (hgd : o.guard = none) (s x : Operand) (ho : o.op = .call { callee := .builtin .append, args := #[s, x], argTypes := #[t, t] }) (base : Nat) (A : Option Addr) (n cap : Nat) (zs : List Int) (y : Int)
    (hw : w = wr.alloc (.cells #[.int .i64 y] e)) (hs : a.eval s = .slice A n cap) (hx : a.eval x = .slice (some ⟨wr.heap.size, 0, none⟩) 1 1) (hl : zs.length = n) (hown : wr.ownsRow base e 1 (.slice A n cap) zs.length (zs.map (Value.int .i64))) (hn : n ≤ 1000000) (hk : Kp No w0 wr) (hb : w0.heap.size ≤ base) (hb2 : base ≤ wr.heap.size)
    (h : ∀ g c w', w'.ownsRow base e 1 (.slice (some ⟨g, 0, none⟩) (n + 1) c) (zs ++ [y]).length ((zs ++ [y]).map (Value.int .i64)) → Kp No w0 w' → Kp (fun b => A = some ⟨b, 0, none⟩) wr w' ∧ (A = some ⟨g, 0, none⟩ ∨ wr.heap.size ≤ g) → wpList Try.prog ops Q rest (a.put o.dst (.slice (some ⟨g, 0, none⟩) (n + 1) c)) w') :
    wpList Try.prog ops Q (o :: rest) a w := by
  subst hw hl
  refine wpL_append_any hgd s x t ho base e i0 (.int .i64 0) 1 8 ht hi hz0 hz1 hz2 rfl (by decide) (.slice A zs.length cap) zs.length (zs.map (Value.int .i64)) hs (hown.alloc _) (some ⟨wr.heap.size, 0, none⟩) 1 1 [.int .i64 y] hx rfl (fun h => by cases h) (fun ad had j u hu => by cases had; exact new_cells wr [.int .i64 y] (by unfold maxLen; simp) j u hu) (fun u hu => by simp at hu; subst hu; rfl) (by unfold maxLen; omega) (by omega) (by simp; omega) ?_
  intro v' w' ho' hg hat
  obtain ⟨a', c', rfl, _, _, hf⟩ := own_form ho'
  obtain ⟨g, rfl⟩ := hf (by omega)
  refine h g c' w' ?_ (kp_app hk hown hb hg) ⟨?_, ?_⟩
  · have e1 : (zs ++ [y]).length = zs.length + 1 := by simp
    have e2 : (zs ++ [y]).map (Value.int .i64) = zs.map (Value.int .i64) ++ [.int .i64 y] := by simp
    rw [e1, e2]
    exact ho'
  · refine (Kp.alloc _ _ _).tr (Kp.grown hg fun k hk _ => ?_)
    obtain ⟨a'', c'', hv, _, _, hf2⟩ := own_form hown
    injection hv with e1 _ _
    subst e1
    rcases Nat.eq_zero_or_pos zs.length with h0 | h0
    · rcases hown.2 with ⟨hv, _⟩ | ⟨g2, _, _, hv, _⟩
      · rw [hv] at hk; cases hk
      · injection hv with e1 _ _
        subst e1
        injection hk with hk
        subst hk
        rfl
    · obtain ⟨g2, rfl⟩ := hf2 h0
      injection hk with hk
      subst hk
      rfl
  · rcases hat with hat | hat
    · left
      rcases hown.2 with ⟨hv, _⟩ | ⟨g2, _, _, hv, _⟩
      · rw [hv] at hat; cases hat
      · injection hv with e1 _ _
        subst e1
        injection hat with hat
        have hat : g = g2 := hat
        rw [hat]
    · right
      injection hat with hat
      have hat : g = (wr.alloc (.cells #[.int .i64 y] e)).heap.size := hat
      rw [World.size_alloc] at hat
      omega
theorem push_int (hgd : o.guard = none) (s x : Operand) (ho : o.op = .call { callee := .builtin .append, args := #[s, x], argTypes := #[22, 22] }) (base : Nat) (A : Option Addr) (n cap : Nat) (zs : List Int) (y : Int)
    (hw : w = wr.alloc (.cells #[.int .i64 y] 3)) (hs : a.eval s = .slice A n cap) (hx : a.eval x = .slice (some ⟨wr.heap.size, 0, none⟩) 1 1) (hl : zs.length = n) (hown : OwI wr base (.slice A n cap) zs) (hn : n ≤ 1000000) (hk : Kp No w0 wr) (hb : w0.heap.size ≤ base) (hb2 : base ≤ wr.heap.size)
    (h : ∀ g c w', OwI w' base (.slice (some ⟨g, 0, none⟩) (n + 1) c) (zs ++ [y]) → Kp No w0 w' → Kp (fun b => A = some ⟨b, 0, none⟩) wr w' ∧ (A = some ⟨g, 0, none⟩ ∨ wr.heap.size ≤ g) → wpList Try.prog ops Q rest (a.put o.dst (.slice (some ⟨g, 0, none⟩) (n + 1) c)) w') :
    wpList Try.prog ops Q (o :: rest) a w := by
  obtain ⟨i0, hi, hz0, hz1, hz2⟩ := info_parts infoI0
  exact push_gen Try.underlying22 hi hz0 hz1 hz2 hgd s x ho base A n cap zs y hw hs hx hl hown hn hk hb hb2 h
theorem push_long (hgd : o.guard = none) (s x : Operand) (ho : o.op = .call { callee := .builtin .append, args := #[s, x], argTypes := #[30, 30] }) (base : Nat) (A : Option Addr) (n cap : Nat) (zs : List Int) (y : Int)
    (hw : w = wr.alloc (.cells #[.int .i64 y] 2)) (hs : a.eval s = .slice A n cap) (hx : a.eval x = .slice (some ⟨wr.heap.size, 0, none⟩) 1 1) (hl : zs.length = n) (hown : OwL wr base (.slice A n cap) zs) (hn : n ≤ 1000000) (hk : Kp No w0 wr) (hb : w0.heap.size ≤ base) (hb2 : base ≤ wr.heap.size)
    (h : ∀ g c w', OwL w' base (.slice (some ⟨g, 0, none⟩) (n + 1) c) (zs ++ [y]) → Kp No w0 w' → Kp (fun b => A = some ⟨b, 0, none⟩) wr w' ∧ (A = some ⟨g, 0, none⟩ ∨ wr.heap.size ≤ g) → wpList Try.prog ops Q rest (a.put o.dst (.slice (some ⟨g, 0, none⟩) (n + 1) c)) w') :
    wpList Try.prog ops Q (o :: rest) a w := by
  obtain ⟨i0, hi, hz0, hz1, hz2⟩ := info_parts infoI64
  exact push_gen Try.underlying30 hi hz0 hz1 hz2 hgd s x ho base A n cap zs y hw hs hx hl hown hn hk hb hb2 h
set_option maxRecDepth 10000 in
/-- A whole row behind another one, whose block may be new. -/
theorem push_all (hgd : o.guard = none) (s x : Operand) (ho : o.op = .call { callee := .builtin .append, args := #[s, x], argTypes := #[22, 22] }) (base : Nat) (A B : Option Addr) (n cap m c : Nat) (zs ys : List Int)
    (hs : a.eval s = .slice A n cap) (hx : a.eval x = .slice B m c) (hl : zs.length = n) (hm : ys.length = m) (hown : OwI w base (.slice A n cap) zs) (hnil : B = none → m = 0 ∧ c = 0) (hy : RdI .i64 w B m ys) (hn : n ≤ 1000000) (hm2 : m ≤ 1000000) (hk : Kp No w0 w) (hb : w0.heap.size ≤ base) (hb2 : base ≤ w.heap.size)
    (h : ∀ A' c' w', OwI w' base (.slice A' (n + m) c') (zs ++ ys) → Kp No w0 w' → wpList Try.prog ops Q rest (a.put o.dst (.slice A' (n + m) c')) w') :
    wpList Try.prog ops Q (o :: rest) a w := by
  subst hl hm
  obtain ⟨i0, hi, hz0, hz1, hz2⟩ := info_parts infoI0
  refine wpL_append_any hgd s x 22 ho base 3 i0 (.int .i64 0) 1 8 Try.underlying22 hi hz0 hz1 hz2 rfl (by decide) (.slice A zs.length cap) zs.length (zs.map (Value.int .i64)) hs hown B ys.length c (ys.map (Value.int .i64)) hx (by simp) hnil (fun ad had j u hu => by
    subst had
    have hj := (List.getElem?_eq_some_iff.1 hu).1
    rw [List.length_map] at hj
    obtain ⟨b, o, hA, _, hc⟩ := hy.2 j _ (List.getElem?_eq_getElem hj)
    injection hA with hA
    subst hA
    rw [add_at, hc]
    rw [List.getElem?_map, List.getElem?_eq_getElem hj] at hu
    exact hu) (fun u hu => by obtain ⟨y, _, rfl⟩ := List.mem_map.1 hu; rfl) (by unfold maxLen; omega) (by omega) hb2 ?_
  intro v' w' ho' hg _
  obtain ⟨a', c', rfl, _, _, hf⟩ := own_form ho'
  refine h a' c' w' ?_ (kp_app0 hk hown hb hg)
  have e1 : (zs ++ ys).length = zs.length + ys.length := List.length_append
  have e2 : (zs ++ ys).map (Value.int .i64) = zs.map (Value.int .i64) ++ ys.map (Value.int .i64) := List.map_append
  unfold OwI
  rw [e1, e2]
  exact ho'
end
end Go.Proofs.Ytakgcnjpmpcekaa
