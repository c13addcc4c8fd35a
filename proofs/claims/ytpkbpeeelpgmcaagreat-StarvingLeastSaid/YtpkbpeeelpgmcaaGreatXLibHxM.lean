/- Chapter 15: one number more behind a row of the call's own; a row of numbers behind another one. · Guarded operations in a region that draws its order: run or passed over. No program in sight. · Values that a region draws and holds, with facts of the world: invariants for wp_region_each. No program in sight. · A region that draws its order, calls what writes nothing, and stores one cell: an invariant for wp_region_each. No program in sight. -/
import Derived.Test.YtpkbpeeelpgmcaaGreatXNwBitM
import Derived.Test.YtpkbpeeelpgmcaaGreatXLibApR
import Derived.Test.YtpkbpeeelpgmcaaGreatXLibReg
import Derived.Test.YtpkbpeeelpgmcaaGreatXLibRowM
namespace Go.Proofs.YtpkbpeeelpgmcaaGreat
open Go.RowKit Go.Kq

theorem infoI64 : (Tryz.prog.info? 2).map (fun i => (i.zero, i.size, i.bytes)) = some (some (.int .i64 0), 1, 8) := by kernel_rfl
theorem infoI0 : (Tryz.prog.info? 3).map (fun i => (i.zero, i.size, i.bytes)) = some (some (.int .i64 0), 1, 8) := by kernel_rfl
abbrev OwL (w : World) (base : Nat) (v : Value) (zs : List Int) : Prop := w.ownsRow base 2 1 v zs.length (zs.map (Value.int .i64))
section
variable {w wr w0 : World} {ops : Array Oper} {rest : List Oper} {o : Oper} {a : Act} {Q : Exit → Act → World → Prop}
set_option maxRecDepth 10000 in
theorem push_gen {t e : TypeId} {i0 : TypeInfo} (ht : Tryz.prog.underlying t = some (.slice e)) (hi : Tryz.prog.info? e = some i0) (hz0 : i0.zero = some (.int .i64 0)) (hz1 : i0.size = 1) (hz2 : i0.bytes = 8)
    (hgd : o.guard = none) (s x : Operand) (ho : o.op = .call { callee := .builtin .append, args := #[s, x], argTypes := #[t, t] }) (base : Nat) (A : Option Addr) (n cap : Nat) (zs : List Int) (y : Int)
    (hw : w = wr.alloc (.cells #[.int .i64 y] e)) (hs : a.eval s = .slice A n cap) (hx : a.eval x = .slice (some ⟨wr.heap.size, 0, none⟩) 1 1) (hl : zs.length = n) (hown : wr.ownsRow base e 1 (.slice A n cap) zs.length (zs.map (Value.int .i64))) (hn : n ≤ 1000000) (hk : Kp No w0 wr) (hb : w0.heap.size ≤ base) (hb2 : base ≤ wr.heap.size)
    (h : ∀ g c w', w'.ownsRow base e 1 (.slice (some ⟨g, 0, none⟩) (n + 1) c) (zs ++ [y]).length ((zs ++ [y]).map (Value.int .i64)) → Kp No w0 w' → Kp (fun b => A = some ⟨b, 0, none⟩) wr w' ∧ (A = some ⟨g, 0, none⟩ ∨ wr.heap.size ≤ g) → wpList Tryz.prog ops Q rest (a.put o.dst (.slice (some ⟨g, 0, none⟩) (n + 1) c)) w') :
    wpList Tryz.prog ops Q (o :: rest) a w := by
  subst hw hl
  refine wpL_append_any hgd s x t ho base e i0 (.int .i64 0) 1 8 ht hi hz0 hz1 hz2 rfl (by decide) (.slice A zs.length cap) zs.length (zs.map (Value.int .i64)) hs (hown.alloc _) (some ⟨wr.heap.size, 0, none⟩) 1 1 [.int .i64 y] hx rfl (fun h => by cases h) (fun ad had j u hu => by cases had; exact new_cells wr [.int .i64 y] (by unfold maxLen; simp) j u hu) (fun u hu => by simp at hu; subst hu; rfl) (by unfold maxLen; omega) (by omega) (by simp; omega) ?_
  intro v' w' ho' hg hat
  obtain ⟨a', c', rfl, _, _, hf⟩ := own_form ho'
  obtain ⟨g, rfl⟩ := hf (by omega)
  refine h g c' w' ?_ (kp_app hk hown hb hg) ⟨?_, ?_⟩
  · have e1 : (zs ++ [y]).length = zs.length + 1 := by simp
    have e2 : (zs ++ [y]).map (Value.int .i64) = zs.map (Value.int .i64) ++ [.int .i64 y] := by simp
    rw [e1, e2]
    exact ho'
  · refine (Kp.alloc _ _ _).tr (Kp.grown hg fun k hk _ => ?_)
    obtain ⟨a'', c'', hv, _, _, hf2⟩ := own_form hown
    injection hv with e1 _ _
    subst e1
    rcases Nat.eq_zero_or_pos zs.length with h0 | h0
    · rcases hown.2 with ⟨hv, _⟩ | ⟨g2, _, _, hv, _⟩
      · rw [hv] at hk; cases hk
      · injection hv with e1 _ _
        subst e1
        injection hk with hk
        subst hk
        rfl
    · obtain ⟨g2, rfl⟩ := hf2 h0
      injection hk with hk
      subst hk
      rfl
  · rcases hat with hat | hat
    · left
      rcases hown.2 with ⟨hv, _⟩ | ⟨g2, _, _, hv, _⟩
      · rw [hv] at hat; cases hat
      · injection hv with e1 _ _
        subst e1
        injection hat with hat
        have hat : g = g2 := hat
        rw [hat]
    · right
      injection hat with hat
      have hat : g = (wr.alloc (.cells #[.int .i64 y] e)).heap.size := hat
      rw [World.size_alloc] at hat
      omega
theorem push_int (hgd : o.guard = none) (s x : Operand) (ho : o.op = .call { callee := .builtin .append, args := #[s, x], argTypes := #[23, 23] }) (base : Nat) (A : Option Addr) (n cap : Nat) (zs : List Int) (y : Int)
    (hw : w = wr.alloc (.cells #[.int .i64 y] 3)) (hs : a.eval s = .slice A n cap) (hx : a.eval x = .slice (some ⟨wr.heap.size, 0, none⟩) 1 1) (hl : zs.length = n) (hown : OwI wr base (.slice A n cap) zs) (hn : n ≤ 1000000) (hk : Kp No w0 wr) (hb : w0.heap.size ≤ base) (hb2 : base ≤ wr.heap.size)
    (h : ∀ g c w', OwI w' base (.slice (some ⟨g, 0, none⟩) (n + 1) c) (zs ++ [y]) → Kp No w0 w' → Kp (fun b => A = some ⟨b, 0, none⟩) wr w' ∧ (A = some ⟨g, 0, none⟩ ∨ wr.heap.size ≤ g) → wpList Tryz.prog ops Q rest (a.put o.dst (.slice (some ⟨g, 0, none⟩) (n + 1) c)) w') :
    wpList Tryz.prog ops Q (o :: rest) a w := by
  obtain ⟨i0, hi, hz0, hz1, hz2⟩ := info_parts infoI0
  exact push_gen Tryz.underlying23 hi hz0 hz1 hz2 hgd s x ho base A n cap zs y hw hs hx hl hown hn hk hb hb2 h
theorem push_long (hgd : o.guard = none) (s x : Operand) (ho : o.op = .call { callee := .builtin .append, args := #[s, x], argTypes := #[33, 33] }) (base : Nat) (A : Option Addr) (n cap : Nat) (zs : List Int) (y : Int)
    (hw : w = wr.alloc (.cells #[.int .i64 y] 2)) (hs : a.eval s = .slice A n cap) (hx : a.eval x = .slice (some ⟨wr.heap.size, 0, none⟩) 1 1) (hl : zs.length = n) (hown : OwL wr base (.slice A n cap) zs) (hn : n ≤ 1000000) (hk : Kp No w0 wr) (hb : w0.heap.size ≤ base) (hb2 : base ≤ wr.heap.size)
    (h : ∀ g c w', OwL w' base (.slice (some ⟨g, 0, none⟩) (n + 1) c) (zs ++ [y]) → Kp No w0 w' → Kp (fun b => A = some ⟨b, 0, none⟩) wr w' ∧ (A = some ⟨g, 0, none⟩ ∨ wr.heap.size ≤ g) → wpList Tryz.prog ops Q rest (a.put o.dst (.slice (some ⟨g, 0, none⟩) (n + 1) c)) w') :
    wpList Tryz.prog ops Q (o :: rest) a w := by
  obtain ⟨i0, hi, hz0, hz1, hz2⟩ := info_parts infoI64
  exact push_gen Tryz.underlying33 hi hz0 hz1 hz2 hgd s x ho base A n cap zs y hw hs hx hl hown hn hk hb hb2 h
set_option maxRecDepth 10000 in
/-- A whole row behind another one, whose block may be new. -/
theorem push_all (hgd : o.guard = none) (s x : Operand) (ho : o.op = .call { callee := .builtin .append, args := #[s, x], argTypes := #[23, 23] }) (base : Nat) (A B : Option Addr) (n cap m c : Nat) (zs ys : List Int)
    (hs : a.eval s = .slice A n cap) (hx : a.eval x = .slice B m c) (hl : zs.length = n) (hm : ys.length = m) (hown : OwI w base (.slice A n cap) zs) (hnil : B = none → m = 0 ∧ c = 0) (hy : RdI .i64 w B m ys) (hn : n ≤ 1000000) (hm2 : m ≤ 1000000) (hk : Kp No w0 w) (hb : w0.heap.size ≤ base) (hb2 : base ≤ w.heap.size)
    (h : ∀ A' c' w', OwI w' base (.slice A' (n + m) c') (zs ++ ys) → Kp No w0 w' → wpList Tryz.prog ops Q rest (a.put o.dst (.slice A' (n + m) c')) w') :
    wpList Tryz.prog ops Q (o :: rest) a w := by
  subst hl hm
  obtain ⟨i0, hi, hz0, hz1, hz2⟩ := info_parts infoI0
  refine wpL_append_any hgd s x 23 ho base 3 i0 (.int .i64 0) 1 8 Tryz.underlying23 hi hz0 hz1 hz2 rfl (by decide) (.slice A zs.length cap) zs.length (zs.map (Value.int .i64)) hs hown B ys.length c (ys.map (Value.int .i64)) hx (by simp) hnil (fun ad had j u hu => by
    subst had
    have hj := (List.getElem?_eq_some_iff.1 hu).1
    rw [List.length_map] at hj
    obtain ⟨b, o, hA, _, hc⟩ := hy.2 j _ (List.getElem?_eq_getElem hj)
    injection hA with hA
    subst hA
    rw [add_at, hc]
    rw [List.getElem?_map, List.getElem?_eq_getElem hj] at hu
    exact hu) (fun u hu => by obtain ⟨y, _, rfl⟩ := List.mem_map.1 hu; rfl) (by unfold maxLen; omega) (by omega) hb2 ?_
  intro v' w' ho' hg _
  obtain ⟨a', c', rfl, _, _, hf⟩ := own_form ho'
  refine h a' c' w' ?_ (kp_app0 hk hown hb hg)
  have e1 : (zs ++ ys).length = zs.length + ys.length := List.length_append
  have e2 : (zs ++ ys).map (Value.int .i64) = zs.map (Value.int .i64) ++ ys.map (Value.int .i64) := List.map_append
  unfold OwI
  rw [e1, e2]
  exact ho'
end
end Go.Proofs.YtpkbpeeelpgmcaaGreat

namespace Go.Kq
open Go.RowKit

section
variable {P : Program} {Q : Exit → Act → World → Prop} {l : List Oper} {i j : Nat} {o x : Oper} {t : Tmp} {want b : Bool} {a : Act} {w : World} {K : Act → World → Prop}
theorem yielded_of (hj : l[j]? = some x) (hx : x.dst = some t) (hv : a.tmps.getD t undef = .bool b) : yielded l.toArray a.tmps j = some b := by
  have h1 : a.tmps[t]? = some (.bool b) := by
    cases h : a.tmps[t]? with
    | none =>
      rw [Array.getD_eq_getD_getElem?, h] at hv
      cases hv
    | some u =>
      rw [Array.getD_eq_getD_getElem?, h] at hv
      exact congrArg some hv
  have h2 : l.toArray[j]? = some x := by simpa using hj
  unfold yielded
  rw [h2]
  simp only [Option.bind_some, hx, h1]
theorem wpOp_run (ho : l[i]? = some o) (hg : o.guard = some (j, want)) (hj : l[j]? = some x) (hx : x.dst = some t) (hv : a.tmps.getD t undef = .bool want) (h : o.wp P a w K Q) : wpOp P l.toArray Q i K a w := by
  unfold wpOp
  have h2 : l.toArray[i]? = some o := by simpa using ho
  rw [h2]
  have h3 : Region.wanted o (yielded l.toArray a.tmps) = true := by
    unfold Region.wanted
    simp only [hg, yielded_of hj hx hv, beq_self_eq_true]
  simp only [h3, if_true]
  exact .inl h
theorem wpOp_skip (ho : l[i]? = some o) (hg : o.guard = some (j, want)) (hj : l[j]? = some x) (hx : x.dst = some t) (hv : a.tmps.getD t undef = .bool b) (hb : b ≠ want) (h : K (a.put o.dst undef) w) : wpOp P l.toArray Q i K a w := by
  unfold wpOp
  have h2 : l.toArray[i]? = some o := by simpa using ho
  rw [h2]
  have h3 : Region.wanted o (yielded l.toArray a.tmps) = false := by
    unfold Region.wanted
    simp only [hg, yielded_of hj hx hv]
    simpa using hb
  simp only [h3]
  exact h
/-- A slot that only one operation of the region writes, which has not run. -/
def onlyB (l : List Oper) (t : Tmp) (i : Nat) : Bool := (List.range l.length).all fun j => decide (j = i) || match l[j]? with
  | some o => match o.dst with
    | some d => decide (d ≠ t)
    | none => true
  | none => true
theorem Fr.evalLate {a0 : Act} {r : Nat → Option Value} (h : Fr l.toArray a0 r a) (t : Tmp) (i : Nat) (hf : onlyB l t i = true) (hr : r i = none) : a.tmps.getD t undef = a0.tmps.getD t undef := by
  have := h.rest t fun j o hj ho => by
    have hj' : l[j]? = some o := by simpa using hj
    have hlt := (List.getElem?_eq_some_iff.1 hj').1
    have h1 := List.all_eq_true.1 hf j (List.mem_range.2 hlt)
    rw [hj'] at h1
    simp only [ho] at h1
    by_cases e : j = i
    · rw [e]
      exact hr
    · simp [e] at h1
  simp [this]
end
end Go.Kq

namespace Go.Kq
open Go.RowKit

/-- Facts that outlive calls. -/
def Stab (F : Nat → World → Value → Prop) : Prop := ∀ i u w w', Kp No w w' → F i w u → F i w' u
/-- The world while a region runs that only calls and reads: F i w u is said of the result u of operation i. -/
structure HvW (base : World) (F : Nat → World → Value → Prop) (r : Nat → Option Value) (w : World) : Prop where
  kp : Kp No base w
  hv : ∀ i u, r i = some u → F i w u
section
variable {base w w' : World} {F : Nat → World → Value → Prop} {r : Nat → Option Value}
theorem HvW.start (base : World) (F : Nat → World → Value → Prop) : HvW base F (fun _ => none) base.drew := ⟨Kp.drew _ _, fun _ _ h => (by cases h)⟩
theorem HvW.upd (h : HvW base F r w) (i : Nat) (v : Value) (hf : F i w v) : HvW base F (Kq.upd r i v) w :=
  ⟨h.kp, fun j u hu => by
    by_cases e : j = i
    · subst e
      rw [upd_same] at hu
      cases hu
      exact hf
    · rw [upd_ne _ _ e] at hu
      exact h.hv j u hu⟩
theorem HvW.call (h : HvW base F r w) (hF : Stab F) (k : Kp No w w') : HvW base F r w' := ⟨h.kp.tr k, fun i u hu => hF i u w w' k (h.hv i u hu)⟩
end
/-- The same with one store into block B: operation st stores what operation src gave. -/
structure HvS (base : World) (B : Nat) (t : TypeId) (zero : Array Value) (st src : Nat) (F : Nat → World → Value → Prop) (r : Nat → Option Value) (w : World) : Prop where
  kp : Kp (One B) base w
  b0 : r st = none → w.heap[B]? = some (.cells zero t (0, 0))
  b1 : r st ≠ none → ∃ cs, r src = some (.agg cs) ∧ w.heap[B]? = some (.cells cs t (0, 0))
  hv : ∀ i u, r i = some u → F i w u
section
variable {base w w' : World} {B : Nat} {t : TypeId} {zero : Array Value} {st src : Nat} {F : Nat → World → Value → Prop} {r : Nat → Option Value}
theorem HvS.start (h : base.heap[B]? = some (.cells zero t (0, 0))) : HvS base B t zero st src F (fun _ => none) base.drew := ⟨Kp.drew _ _, fun _ => h, fun h => absurd rfl h, fun _ _ h => (by cases h)⟩
theorem HvS.upd (h : HvS base B t zero st src F r w) (i : Nat) (v : Value) (hr : r i = none) (hi : i ≠ st) (hf : F i w v) : HvS base B t zero st src F (Kq.upd r i v) w := by
  have e1 : Kq.upd r i v st = r st := upd_ne _ _ (fun e => hi e.symm)
  refine ⟨h.kp, by rw [e1]; exact h.b0, fun hs => ?_, fun j u hu => ?_⟩
  · rw [e1] at hs
    obtain ⟨cs, h1, h2⟩ := h.b1 hs
    exact ⟨cs, by rw [upd_ne _ _ (fun e => by rw [e, hr] at h1; cases h1)]; exact h1, h2⟩
  · by_cases e : j = i
    · subst e
      rw [upd_same] at hu
      cases hu
      exact hf
    · rw [upd_ne _ _ e] at hu
      exact h.hv j u hu
theorem HvS.call (h : HvS base B t zero st src F r w) (hF : Stab F) (k : Kp No w w') : HvS base B t zero st src F r w' :=
  ⟨h.kp.no k, fun hs => k.heap (h.b0 hs) id, fun hs => by
    obtain ⟨cs, h1, h2⟩ := h.b1 hs
    exact ⟨cs, h1, k.heap h2 id⟩, fun i u hu => hF i u w w' k (h.hv i u hu)⟩
theorem HvS.store (h : HvS base B t zero st src F r w) (hF : ∀ i u w w', Kp (One B) w w' → F i w u → F i w' u) (hne : src ≠ st) {cs : Array Value} (hu : r src = some (.agg cs)) (hk : Kp (One B) w w') (hh : w'.heap[B]? = some (.cells cs t (0, 0))) (v : Value) (hf : F st w' v) :
    HvS base B t zero st src F (Kq.upd r st v) w' := by
  refine ⟨h.kp.tr hk, fun hs => ?_, fun _ => ⟨cs, by rw [upd_ne _ _ hne]; exact hu, hh⟩, fun j u hj => ?_⟩
  · rw [upd_same] at hs
    cases hs
  · by_cases e : j = st
    · subst e
      rw [upd_same] at hj
      cases hj
      exact hf
    · rw [upd_ne _ _ e] at hj
      exact hF j u w w' hk (h.hv j u hj)
end
section
variable {P : Program} {Q : Exit → Act → World → Prop} {l : List Oper} {i j : Nat} {o x : Oper} {t : Tmp} {want : Bool} {a : Act} {w : World} {K : Act → World → Prop}
/-- An operation whose guard was itself passed over. -/
theorem wpOp_skipU (ho : l[i]? = some o) (hg : o.guard = some (j, want)) (hj : l[j]? = some x) (hx : x.dst = some t) (hv : a.tmps.getD t undef = undef) (h : K (a.put o.dst undef) w) : wpOp P l.toArray Q i K a w := by
  unfold wpOp
  have h2 : l.toArray[i]? = some o := by simpa using ho
  have h4 : l.toArray[j]? = some x := by simpa using hj
  rw [h2]
  have h3 : Region.wanted o (yielded l.toArray a.tmps) = false := by
    unfold Region.wanted
    simp only [hg]
    unfold yielded
    rw [h4]
    simp only [Option.bind_some, hx]
    cases h5 : a.tmps[t]? with
    | none => simp
    | some u =>
      rw [Array.getD_eq_getD_getElem?, h5] at hv
      simp at hv
      subst hv
      rfl
  simp only [h3]
  exact h
end
end Go.Kq

namespace Go.Kq
open Go.RowKit

/-- Operation st stores V at ad; ch: which operation comes behind which one. -/
structure HvC (base : World) (ad : Addr) (V : Value) (st : Nat) (ch : List (Nat × Nat)) (r : Nat → Option Value) (w : World) : Prop where
  b0 : r st = none → Kp No base w
  b1 : r st ≠ none → ∃ w0, Kp No base w0 ∧ w = w0.setCell ad V
  bl : ∀ p ∈ ch, r p.1 ≠ none → r p.2 ≠ none
section
variable {base w : World} {ad : Addr} {V : Value} {st : Nat} {ch : List (Nat × Nat)} {r : Nat → Option Value}
theorem HvC.start (base : World) (ad : Addr) (V : Value) (st : Nat) (ch : List (Nat × Nat)) : HvC base ad V st ch (fun _ => none) base.drew := ⟨fun _ => Kp.drew _ _, fun h => absurd rfl h, fun _ _ h => absurd rfl h⟩
theorem HvC.back (h : HvC base ad V st ch r w) {x y : Nat} (hp : (x, y) ∈ ch) (hy : r y = none) : r x = none :=
  Classical.byContradiction fun e => h.bl _ hp e hy
theorem upd_some {r : Nat → Option Value} {i j : Nat} {v : Value} (h : r j ≠ none) : Kq.upd r i v j ≠ none := by
  by_cases e : j = i
  · subst e; rw [upd_same]; exact fun h => by cases h
  · rw [upd_ne _ _ e]; exact h
theorem chain_upd {r : Nat → Option Value} {i : Nat} {v : Value} (hb : ∀ p ∈ ch, r p.1 ≠ none → r p.2 ≠ none) (hc : ∀ p ∈ ch, p.1 = i → r p.2 ≠ none) : ∀ p ∈ ch, Kq.upd r i v p.1 ≠ none → Kq.upd r i v p.2 ≠ none := fun p hp h => by
  by_cases e : p.1 = i
  · exact upd_some (hc p hp e)
  · rw [upd_ne _ _ e] at h
    exact upd_some (hb p hp h)
theorem HvC.updL (h : HvC base ad V st ch r w) (i : Nat) (v : Value) (hi : i ≠ st) (hc : ∀ p ∈ ch, p.1 = i → r p.2 ≠ none) : HvC base ad V st ch (Kq.upd r i v) w := by
  have e1 : Kq.upd r i v st = r st := upd_ne _ _ (fun e => hi e.symm)
  exact ⟨by rw [e1]; exact h.b0, by rw [e1]; exact h.b1, chain_upd h.bl hc⟩
theorem HvC.upd (h : HvC base ad V st ch r w) (i : Nat) (v : Value) (hi : i ≠ st) (hc : ∀ p ∈ ch, p.1 ≠ i) : HvC base ad V st ch (Kq.upd r i v) w :=
  h.updL i v hi fun p hp e => absurd e (hc p hp)
theorem HvC.store (h : HvC base ad V st ch r w) (v : Value) (hr : r st = none) (hc : ∀ p ∈ ch, p.1 = st → r p.2 ≠ none) : HvC base ad V st ch (Kq.upd r st v) (w.setCell ad V) :=
  ⟨fun e => (by rw [upd_same] at e; cases e), fun _ => ⟨w, h.b0 hr, rfl⟩, chain_upd h.bl hc⟩
end
end Go.Kq
