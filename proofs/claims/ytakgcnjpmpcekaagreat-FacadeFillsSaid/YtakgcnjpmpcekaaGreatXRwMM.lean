/- One number more behind a row of the call's own; a row of numbers behind another one. · Chapter 24: numbers in rows. · Chapter 24: rows of numbers whose slices lie in a box that was made. -/
import Derived.Test.YtakgcnjpmpcekaaGreatXLibMakeM
import Derived.Test.YtakgcnjpmpcekaaGreatXLibApR
import Derived.Test.YtakgcnjpmpcekaaGreatXOrA
namespace Go.Proofs.YtakgcnjpmpcekaaGreat
open Go.RowKit Go.Kq

theorem infoI64 : (Tryz.prog.info? 2).map (fun i => (i.zero, i.size, i.bytes)) = some (some (.int .i64 0), 1, 8) := by kernel_rfl
theorem infoI0 : (Tryz.prog.info? 3).map (fun i => (i.zero, i.size, i.bytes)) = some (some (.int .i64 0), 1, 8) := by kernel_rfl
abbrev OwL (w : World) (base : Nat) (v : Value) (zs : List Int) : Prop := w.ownsRow base 2 1 v zs.length (zs.map (Value.int .i64))
section
variable {w wr w0 : World} {ops : Array Oper} {rest : List Oper} {o : Oper} {a : Act} {Q : Exit → Act → World → Prop}
set_option maxRecDepth 10000 in
theorem push_gen {t e : TypeId} {i0 : TypeInfo} (ht : Tryz.prog.underlying t = some (.slice e)) (hi : Tryz.prog.info? e = some i0) (hz0 : i0.zero = some (.int .i64 0)) (hz1 : i0.size = 1) (hz2 : i0.bytes = 8)
    (hgd : o.guard = none) (s x : Operand) (ho : o.op = .call { callee := .builtin .append, args := #[s, x], argTypes := #[t, t] }) (base : Nat) (A : Option Addr) (n cap : Nat) (zs : List Int) (y : Int)
    (hw : w = wr.alloc (.cells #[.int .i64 y] e)) (hs : a.eval s = .slice A n cap) (hx : a.eval x = .slice (some ⟨wr.heap.size, 0, none⟩) 1 1) (hl : zs.length = n) (hown : wr.ownsRow base e 1 (.slice A n cap) zs.length (zs.map (Value.int .i64))) (hn : n ≤ 1000000) (hk : Kp No w0 wr) (hb : w0.heap.size ≤ base) (hb2 : base ≤ wr.heap.size)
    (h : ∀ g c w', w'.ownsRow base e 1 (.slice (some ⟨g, 0, none⟩) (n + 1) c) (zs ++ [y]).length ((zs ++ [y]).map (Value.int .i64)) → Kp No w0 w' → Kp (fun b => A = some ⟨b, 0, none⟩) wr w' ∧ (A = some ⟨g, 0, none⟩ ∨ wr.heap.size ≤ g) → wpList Tryz.prog ops Q rest (a.put o.dst (.slice (some ⟨g, 0, none⟩) (n + 1) c)) w') :
    wpList Tryz.prog ops Q (o :: rest) a w := by
  subst hw hl
  refine wpL_append_any hgd s x t ho base e i0 (.int .i64 0) 1 8 ht hi hz0 hz1 hz2 rfl (by decide) (.slice A zs.length cap) zs.length (zs.map (Value.int .i64)) hs (hown.alloc _) (some ⟨wr.heap.size, 0, none⟩) 1 1 [.int .i64 y] hx rfl (fun h => by cases h) (fun ad had j u hu => by cases had; exact new_cells wr [.int .i64 y] (by unfold maxLen; simp) j u hu) (fun u hu => by simp at hu; subst hu; rfl) (by unfold maxLen; omega) (by omega) (by simp; omega) ?_
  intro v' w' ho' hg hat
  obtain ⟨a', c', rfl, _, _, hf⟩ := own_form ho'
  obtain ⟨g, rfl⟩ := hf (by omega)
  refine h g c' w' ?_ (kp_app hk hown hb hg) ⟨?_, ?_⟩
  · have e1 : (zs ++ [y]).length = zs.length + 1 := by simp
    have e2 : (zs ++ [y]).map (Value.int .i64) = zs.map (Value.int .i64) ++ [.int .i64 y] := by simp
    rw [e1, e2]
    exact ho'
  · refine (Kp.alloc _ _ _).tr (Kp.grown hg fun k hk _ => ?_)
    obtain ⟨a'', c'', hv, _, _, hf2⟩ := own_form hown
    injection hv with e1 _ _
    subst e1
    rcases Nat.eq_zero_or_pos zs.length with h0 | h0
    · rcases hown.2 with ⟨hv, _⟩ | ⟨g2, _, _, hv, _⟩
      · rw [hv] at hk; cases hk
      · injection hv with e1 _ _
        subst e1
        injection hk with hk
        subst hk
        rfl
    · obtain ⟨g2, rfl⟩ := hf2 h0
      injection hk with hk
      subst hk
      rfl
  · rcases hat with hat | hat
    · left
      rcases hown.2 with ⟨hv, _⟩ | ⟨g2, _, _, hv, _⟩
      · rw [hv] at hat; cases hat
      · injection hv with e1 _ _
        subst e1
        injection hat with hat
        have hat : g = g2 := hat
        rw [hat]
    · right
      injection hat with hat
      have hat : g = (wr.alloc (.cells #[.int .i64 y] e)).heap.size := hat
      rw [World.size_alloc] at hat
      omega
theorem push_int (hgd : o.guard = none) (s x : Operand) (ho : o.op = .call { callee := .builtin .append, args := #[s, x], argTypes := #[36, 36] }) (base : Nat) (A : Option Addr) (n cap : Nat) (zs : List Int) (y : Int)
    (hw : w = wr.alloc (.cells #[.int .i64 y] 3)) (hs : a.eval s = .slice A n cap) (hx : a.eval x = .slice (some ⟨wr.heap.size, 0, none⟩) 1 1) (hl : zs.length = n) (hown : OwI wr base (.slice A n cap) zs) (hn : n ≤ 1000000) (hk : Kp No w0 wr) (hb : w0.heap.size ≤ base) (hb2 : base ≤ wr.heap.size)
    (h : ∀ g c w', OwI w' base (.slice (some ⟨g, 0, none⟩) (n + 1) c) (zs ++ [y]) → Kp No w0 w' → Kp (fun b => A = some ⟨b, 0, none⟩) wr w' ∧ (A = some ⟨g, 0, none⟩ ∨ wr.heap.size ≤ g) → wpList Tryz.prog ops Q rest (a.put o.dst (.slice (some ⟨g, 0, none⟩) (n + 1) c)) w') :
    wpList Tryz.prog ops Q (o :: rest) a w := by
  obtain ⟨i0, hi, hz0, hz1, hz2⟩ := info_parts infoI0
  exact push_gen Tryz.underlying36 hi hz0 hz1 hz2 hgd s x ho base A n cap zs y hw hs hx hl hown hn hk hb hb2 h
theorem push_long (hgd : o.guard = none) (s x : Operand) (ho : o.op = .call { callee := .builtin .append, args := #[s, x], argTypes := #[22, 22] }) (base : Nat) (A : Option Addr) (n cap : Nat) (zs : List Int) (y : Int)
    (hw : w = wr.alloc (.cells #[.int .i64 y] 2)) (hs : a.eval s = .slice A n cap) (hx : a.eval x = .slice (some ⟨wr.heap.size, 0, none⟩) 1 1) (hl : zs.length = n) (hown : OwL wr base (.slice A n cap) zs) (hn : n ≤ 1000000) (hk : Kp No w0 wr) (hb : w0.heap.size ≤ base) (hb2 : base ≤ wr.heap.size)
    (h : ∀ g c w', OwL w' base (.slice (some ⟨g, 0, none⟩) (n + 1) c) (zs ++ [y]) → Kp No w0 w' → Kp (fun b => A = some ⟨b, 0, none⟩) wr w' ∧ (A = some ⟨g, 0, none⟩ ∨ wr.heap.size ≤ g) → wpList Tryz.prog ops Q rest (a.put o.dst (.slice (some ⟨g, 0, none⟩) (n + 1) c)) w') :
    wpList Tryz.prog ops Q (o :: rest) a w := by
  obtain ⟨i0, hi, hz0, hz1, hz2⟩ := info_parts infoI64
  exact push_gen Tryz.underlying22 hi hz0 hz1 hz2 hgd s x ho base A n cap zs y hw hs hx hl hown hn hk hb hb2 h
set_option maxRecDepth 10000 in
/-- A whole row behind another one, whose block may be new. -/
theorem push_all (hgd : o.guard = none) (s x : Operand) (ho : o.op = .call { callee := .builtin .append, args := #[s, x], argTypes := #[36, 36] }) (base : Nat) (A B : Option Addr) (n cap m c : Nat) (zs ys : List Int)
    (hs : a.eval s = .slice A n cap) (hx : a.eval x = .slice B m c) (hl : zs.length = n) (hm : ys.length = m) (hown : OwI w base (.slice A n cap) zs) (hnil : B = none → m = 0 ∧ c = 0) (hy : RdI .i64 w B m ys) (hn : n ≤ 1000000) (hm2 : m ≤ 1000000) (hk : Kp No w0 w) (hb : w0.heap.size ≤ base) (hb2 : base ≤ w.heap.size)
    (h : ∀ A' c' w', OwI w' base (.slice A' (n + m) c') (zs ++ ys) → Kp No w0 w' → wpList Tryz.prog ops Q rest (a.put o.dst (.slice A' (n + m) c')) w') :
    wpList Tryz.prog ops Q (o :: rest) a w := by
  subst hl hm
  obtain ⟨i0, hi, hz0, hz1, hz2⟩ := info_parts infoI0
  refine wpL_append_any hgd s x 36 ho base 3 i0 (.int .i64 0) 1 8 Tryz.underlying36 hi hz0 hz1 hz2 rfl (by decide) (.slice A zs.length cap) zs.length (zs.map (Value.int .i64)) hs hown B ys.length c (ys.map (Value.int .i64)) hx (by simp) hnil (fun ad had j u hu => by
    subst had
    have hj := (List.getElem?_eq_some_iff.1 hu).1
    rw [List.length_map] at hj
    obtain ⟨b, o, hA, _, hc⟩ := hy.2 j _ (List.getElem?_eq_getElem hj)
    injection hA with hA
    subst hA
    rw [add_at, hc]
    rw [List.getElem?_map, List.getElem?_eq_getElem hj] at hu
    exact hu) (fun u hu => by obtain ⟨y, _, rfl⟩ := List.mem_map.1 hu; rfl) (by unfold maxLen; omega) (by omega) hb2 ?_
  intro v' w' ho' hg _
  obtain ⟨a', c', rfl, _, _, hf⟩ := own_form ho'
  refine h a' c' w' ?_ (kp_app0 hk hown hb hg)
  have e1 : (zs ++ ys).length = zs.length + ys.length := List.length_append
  have e2 : (zs ++ ys).map (Value.int .i64) = zs.map (Value.int .i64) ++ ys.map (Value.int .i64) := List.map_append
  unfold OwI
  rw [e1, e2]
  exact ho'
end
end Go.Proofs.YtakgcnjpmpcekaaGreat

namespace Go.Proofs.YtakgcnjpmpcekaaGreat
open Go.RowKit Go.Kq

def cI (S : List Nat) : List Int := S.map fun i : Nat => (i : Int)
theorem cI_len (S : List Nat) : (cI S).length = S.length := List.length_map _
theorem cI_snoc (S : List Nat) (k : Nat) : cI (S ++ [k]) = cI S ++ [(k : Int)] := by simp [cI]
theorem own_one (w : World) (y : Int) : OwI (w.alloc (.cells #[.int .i64 y] 3)) w.heap.size (.slice (some ⟨w.heap.size, 0, none⟩) 1 1) [y] :=
  own_made (e := 3) (n := 1) (s := 1) (xs := [Value.int .i64 y]) w rfl (Nat.le_refl _) (by unfold maxLen; omega)
theorem own_rdi {w : World} {base : Nat} {A : Option Addr} {n c : Nat} {zs : List Int} (h : OwI w base (.slice A n c) zs) (hn : zs.length = n) : RdI .i64 w A n zs := by
  subst hn
  exact RdI.of_own h
theorem own_nilc {w : World} {base : Nat} {A : Option Addr} {n c : Nat} {zs : List Int} (h : OwI w base (.slice A n c) zs) : A = none → n = 0 ∧ c = 0 := fun e => by
  subst e
  rcases h.2 with ⟨hv, _⟩ | ⟨g, _, _, hv, _⟩
  · cases hv; exact ⟨rfl, rfl⟩
  · cases hv
end Go.Proofs.YtakgcnjpmpcekaaGreat

namespace Go.Proofs.YtakgcnjpmpcekaaGreat
open Go.RowKit Go.Kq

structure RwM (base : Nat) (w : World) (g L : Nat) (Ls : List (List Int)) : Prop where
  hl : Ls.length = L
  hg : base ≤ g
  row : ∃ us : Array Value, w.heap[g]? = some (.cells us 36 (0, 0)) ∧ us.size = L ∧ (∀ (i : Nat) S, Ls[i]? = some S → ∃ v, us[i]? = some v ∧ OwI w base v S) ∧ ∀ (i j : Nat) u v b, us[i]? = some u → us[j]? = some v → u.ownBlock = some b → v.ownBlock = some b → i = j
section
variable {base g L : Nat} {w w' : World} {Ls : List (List Int)}
theorem own_int {v : Value} {S : List Int} (h : OwI w base v S) {b : Nat} (hb : v.ownBlock = some b) : ∃ cs m, w.heap[b]? = some (.cells cs 3 m) := by
  rcases h.2 with ⟨rfl, _⟩ | ⟨g, _, cur, rfl, _, hh, _⟩
  · cases hb
  · injection hb with hb
    subst hb
    exact ⟨_, _, hh⟩
theorem RwM.kp {S : Nat → Prop} (h : RwM base w g L Ls) (k : Kp S w w') (hS : ∀ b, S b → ∀ cs t m, w.heap[b]? = some (.cells cs t m) → t ≠ 3 ∧ t ≠ 36) : RwM base w' g L Ls := by
  obtain ⟨h1, h2, us, h3, h4, h5, h6⟩ := h
  refine ⟨h1, h2, us, k.heap h3 fun e => (hS g e _ _ _ h3).2 rfl, h4, fun i T hT => ?_, h6⟩
  obtain ⟨v, hv, ho⟩ := h5 i T hT
  refine ⟨v, hv, k.owns ho fun b hb e => ?_⟩
  obtain ⟨cs, m, hh⟩ := own_int ho hb
  exact (hS b e _ _ _ hh).1 rfl
theorem RwM.no (h : RwM base w g L Ls) (k : Kp No w w') : RwM base w' g L Ls := h.kp k fun _ e => e.elim
theorem RwM.cell (h : RwM base w g L Ls) {i : Nat} {S : List Int} (hS : Ls[i]? = some S) : ∃ v, w.cell? ⟨g, i, none⟩ = some v ∧ w.frozen? ⟨g, i, none⟩ = false ∧ OwI w base v S ∧ i < L ∧ g < w.heap.size := by
  obtain ⟨h1, h2, us, h3, h4, h5, h6⟩ := h
  obtain ⟨v, hv, ho⟩ := h5 i S hS
  exact ⟨v, by rw [cell_of_row _ _ _ _ _ _ h3, hv], by simp [World.frozen?, h3], ho, by rw [← h1]; exact (List.getElem?_eq_some_iff.1 hS).1, (Array.getElem?_eq_some_iff.1 h3).1⟩
/-- One row is another one. -/
theorem RwM.set (h : RwM base w g L Ls) {i : Nat} {S S' : List Int} {v v' : Value} (hS : Ls[i]? = some S) (hv : w.cell? ⟨g, i, none⟩ = some v) (k : Kp (fun b => v.ownBlock = some b) w w') (ho : OwI w' base v' S') (hb : v'.ownBlock = v.ownBlock ∨ ∀ b, v'.ownBlock = some b → w.heap.size ≤ b) :
    RwM base (w'.setCell ⟨g, i, none⟩ v') g L (Ls.set i S') ∧ Kp (Kq.One g) w' (w'.setCell ⟨g, i, none⟩ v') := by
  obtain ⟨h1, h2, us, h3, h4, h5, h6⟩ := h
  have K := kp_setOne w' g i v'
  obtain ⟨v0, hv0, ho0⟩ := h5 i S hS
  have e0 : v0 = v := by
    rw [cell_of_row _ _ _ _ _ _ h3, hv0] at hv
    injection hv
  subst e0
  have hg' : w'.heap[g]? = some (.cells us 36 (0, 0)) := k.heap h3 fun e => by
    obtain ⟨cs, m, hh⟩ := own_int ho0 e
    rw [h3] at hh
    injection hh with hh
    injection hh with _ hh
    exact absurd hh (by decide)
  have hne : ∀ {u : Value} {T : List Int}, OwI w' base u T → ∀ b, u.ownBlock = some b → ¬ Kq.One g b := fun hu b hb e => by
    have e : b = g := e
    subst e
    obtain ⟨cs, m, hh⟩ := own_int hu hb
    rw [hg'] at hh
    injection hh with hh
    injection hh with _ hh
    exact absurd hh (by decide)
  have hi : i < us.size := (Array.getElem?_eq_some_iff.1 hv0).1
  have hset : (w'.setCell ⟨g, i, none⟩ v').heap[g]? = some (.cells (us.setIfInBounds i v') 36 (0, 0)) := by simp [World.setCell, Array.getElem?_modify, hg']
  refine ⟨⟨by simpa using h1, h2, _, hset, by simpa using h4, fun j T hT => ?_, fun a c u x b ha hc hub hxb => ?_⟩, K⟩
  · by_cases e : i = j
    · subst e
      rw [List.getElem?_set_self (by rw [h1, ← h4]; exact hi)] at hT
      injection hT with hT
      subst hT
      exact ⟨v', by simp [hi], K.owns ho (hne ho)⟩
    · rw [List.getElem?_set_ne e] at hT
      obtain ⟨u, hu, hou⟩ := h5 j T hT
      have hou' : OwI w' base u T := k.owns hou fun b hb he => e (h6 i j v0 u b hv0 hu he hb)
      exact ⟨u, by rw [Array.getElem?_setIfInBounds_ne e]; exact hu, K.owns hou' (hne hou')⟩
  · have old : ∀ {q : Nat} {z : Value}, i ≠ q → (us.setIfInBounds i v')[q]? = some z → us[q]? = some z := fun hq hz => by rwa [Array.getElem?_setIfInBounds_ne hq] at hz
    have own : ∀ {z : Value}, (us.setIfInBounds i v')[i]? = some z → z = v' := fun hz => by
      simp [hi] at hz
      exact hz.symm
    have fresh : ∀ {q : Nat} {z : Value} {b : Nat}, i ≠ q → us[q]? = some z → z.ownBlock = some b → v'.ownBlock = some b → False := fun {q z b} hq hz hzb hvb => by
      have hqL : q < Ls.length := by rw [h1, ← h4]; exact (Array.getElem?_eq_some_iff.1 hz).1
      obtain ⟨z', hz', hoz⟩ := h5 q _ (List.getElem?_eq_getElem hqL)
      rw [hz] at hz'
      injection hz' with hz'
      subst hz'
      rcases hb with hb | hb
      · exact hq (h6 i q v0 z b hv0 hz (hb ▸ hvb) hzb)
      · have := hb b hvb
        have := (own_ge hoz hzb).2
        omega
    by_cases ea : i = a
    · subst ea
      by_cases ec : i = c
      · exact ec
      · obtain rfl := own ha
        exact (fresh ec (old ec hc) hxb hub).elim
    · by_cases ec : i = c
      · subst ec
        obtain rfl := own hc
        exact (fresh ea (old ea ha) hub hxb).elim
      · exact h6 a c u x b (old ea ha) (old ec hc) hub hxb
theorem RwM.made (w : World) (L : Nat) (b0 : Nat) (hb : b0 ≤ w.heap.size) : RwM b0 (w.alloc (.cells (Array.replicate L (.slice none 0 0)) 36)) w.heap.size L (List.replicate L []) := by
  refine ⟨by simp, hb, _, heap_alloc_new w _, by simp, fun i S hS => ?_, fun i j u v b hi _ hu _ => ?_⟩
  · have hi := (List.getElem?_eq_some_iff.1 hS).1
    rw [List.length_replicate] at hi
    rw [List.getElem?_replicate, if_pos hi] at hS
    injection hS with hS
    subst hS
    exact ⟨_, by simp [hi], World.ownsRow_nil _ _ _ _⟩
  · rw [Array.getElem?_replicate] at hi
    split at hi
    · injection hi with hi
      subst hi
      cases hu
    · cases hi
end
theorem infoSli : (Tryz.prog.info? 36).map (fun i => (i.zero, i.size, i.bytes)) = some (some (.slice none 0 0), 1, 24) := by kernel_rfl
theorem make_rows (m : Nat) (hm : m ≤ 100000) (w : World) : (Instr.makeSlice 39 (.int .i64 (m : Nat)) (.int .i64 (m : Nat))).run Tryz.prog w = .ok (.slice (some ⟨w.heap.size, 0, none⟩) m m) (w.alloc (.cells (Array.replicate m (.slice none 0 0)) 36)) := by
  obtain ⟨i0, hi, hz0, hz1, hz2⟩ := info_parts infoSli
  have := run_make_flat w (fun _ : Unit => [Value.slice none 0 0]) () _ _ i0 _ 1 24 m Tryz.underlying39 hi hz0 hz1 hz2 (by decide) rfl rfl (by omega) (by omega)
  rw [this]
  rw [List.flatMap_replicate]
  simp
end Go.Proofs.YtakgcnjpmpcekaaGreat
