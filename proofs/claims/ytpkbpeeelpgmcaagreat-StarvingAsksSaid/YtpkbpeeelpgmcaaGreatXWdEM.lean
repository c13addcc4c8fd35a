/- Chapter 15: one number more behind a row of the call's own; a row of numbers behind another one. · Guarded operations in a region that draws its order: run or passed over. No program in sight. · Values that a region draws and holds, with facts of the world: invariants for wp_region_each. No program in sight. · A region that draws its order, calls what writes nothing, and stores one cell: an invariant for wp_region_each. No program in sight. · Chapter 15: the demand of a combination: the document's. -/
import Derived.Test.YtpkbpeeelpgmcaaGreatXNwBitM
import Derived.Test.YtpkbpeeelpgmcaaGreatXLibApR
import Derived.Test.YtpkbpeeelpgmcaaGreatXLibReg
import Derived.Test.YtpkbpeeelpgmcaaGreatXLibRowM
import Derived.Test.YtpkbpeeelpgmcaaGreatXWdFM
namespace Go.Proofs.YtpkbpeeelpgmcaaGreat
open Go.RowKit Go.Kq

theorem infoI64 : (Tryz.prog.info? 2).map (fun i => (i.zero, i.size, i.bytes)) = some (some (.int .i64 0), 1, 8) := by kernel_rfl
theorem infoI0 : (Tryz.prog.info? 3).map (fun i => (i.zero, i.size, i.bytes)) = some (some (.int .i64 0), 1, 8) := by kernel_rfl
abbrev OwL (w : World) (base : Nat) (v : Value) (zs : List Int) : Prop := w.ownsRow base 2 1 v zs.length (zs.map (Value.int .i64))
section
variable {w wr w0 : World} {ops : Array Oper} {rest : List Oper} {o : Oper} {a : Act} {Q : Exit → Act → World → Prop}
set_option maxRecDepth 10000 in
theorem push_gen {t e : TypeId} {i0 : TypeInfo} (ht : Tryz.prog.underlying t = some (.slice e)) (hi : Tryz.prog.info? e = some i0) (hz0 : i0.zero = some (.int .i64 0)) (hz1 : i0.size = 1) (hz2 : i0.bytes = 8)
    (hgd : o.guard = none) (s x : Operand) (ho : o.op = .call { callee := .builtin .append, args := #[s, x], argTypes := #[t, t] }) (base : Nat) (A : Option Addr) (n cap : Nat) (zs : List Int) (y : Int)
    (hw : w = wr.alloc (.cells #[.int .i64 y] e)) (hs : a.eval s = .slice A n cap) (hx : a.eval x = .slice (some ⟨wr.heap.size, 0, none⟩) 1 1) (hl : zs.length = n) (hown : wr.ownsRow base e 1 (.slice A n cap) zs.length (zs.map (Value.int .i64))) (hn : n ≤ 1000000) (hk : Kp No w0 wr) (hb : w0.heap.size ≤ base) (hb2 : base ≤ wr.heap.size)
    (h : ∀ g c w', w'.ownsRow base e 1 (.slice (some ⟨g, 0, none⟩) (n + 1) c) (zs ++ [y]).length ((zs ++ [y]).map (Value.int .i64)) → Kp No w0 w' → Kp (fun b => A = some ⟨b, 0, none⟩) wr w' ∧ (A = some ⟨g, 0, none⟩ ∨ wr.heap.size ≤ g) → wpList Tryz.prog ops Q rest (a.put o.dst (.slice (some ⟨g, 0, none⟩) (n + 1) c)) w') :
    wpList Tryz.prog ops Q (o :: rest) a w := by
  subst hw hl
  refine wpL_append_any hgd s x t ho base e i0 (.int .i64 0) 1 8 ht hi hz0 hz1 hz2 rfl (by decide) (.slice A zs.length cap) zs.length (zs.map (Value.int .i64)) hs (hown.alloc _) (some ⟨wr.heap.size, 0, none⟩) 1 1 [.int .i64 y] hx rfl (fun h => by cases h) (fun ad had j u hu => by cases had; exact new_cells wr [.int .i64 y] (by unfold maxLen; simp) j u hu) (fun u hu => by simp at hu; subst hu; rfl) (by unfold maxLen; omega) (by omega) (by simp; omega) ?_
  intro v' w' ho' hg hat
  obtain ⟨a', c', rfl, _, _, hf⟩ := own_form ho'
  obtain ⟨g, rfl⟩ := hf (by omega)
  refine h g c' w' ?_ (kp_app hk hown hb hg) ⟨?_, ?_⟩
  · have e1 : (zs ++ [y]).length = zs.length + 1 := by simp
    have e2 : (zs ++ [y]).map (Value.int .i64) = zs.map (Value.int .i64) ++ [.int .i64 y] := by simp
    rw [e1, e2]
    exact ho'
  · refine (Kp.alloc _ _ _).tr (Kp.grown hg fun k hk _ => ?_)
    obtain ⟨a'', c'', hv, _, _, hf2⟩ := own_form hown
    injection hv with e1 _ _
    subst e1
    rcases Nat.eq_zero_or_pos zs.length with h0 | h0
    · rcases hown.2 with ⟨hv, _⟩ | ⟨g2, _, _, hv, _⟩
      · rw [hv] at hk; cases hk
      · injection hv with e1 _ _
        subst e1
        injection hk with hk
        subst hk
        rfl
    · obtain ⟨g2, rfl⟩ := hf2 h0
      injection hk with hk
      subst hk
      rfl
  · rcases hat with hat | hat
    · left
      rcases hown.2 with ⟨hv, _⟩ | ⟨g2, _, _, hv, _⟩
      · rw [hv] at hat; cases hat
      · injection hv with e1 _ _
        subst e1
        injection hat with hat
        have hat : g = g2 := hat
        rw [hat]
    · right
      injection hat with hat
      have hat : g = (wr.alloc (.cells #[.int .i64 y] e)).heap.size := hat
      rw [World.size_alloc] at hat
      omega
theorem push_int (hgd : o.guard = none) (s x : Operand) (ho : o.op = .call { callee := .builtin .append, args := #[s, x], argTypes := #[23, 23] }) (base : Nat) (A : Option Addr) (n cap : Nat) (zs : List Int) (y : Int)
    (hw : w = wr.alloc (.cells #[.int .i64 y] 3)) (hs : a.eval s = .slice A n cap) (hx : a.eval x = .slice (some ⟨wr.heap.size, 0, none⟩) 1 1) (hl : zs.length = n) (hown : OwI wr base (.slice A n cap) zs) (hn : n ≤ 1000000) (hk : Kp No w0 wr) (hb : w0.heap.size ≤ base) (hb2 : base ≤ wr.heap.size)
    (h : ∀ g c w', OwI w' base (.slice (some ⟨g, 0, none⟩) (n + 1) c) (zs ++ [y]) → Kp No w0 w' → Kp (fun b => A = some ⟨b, 0, none⟩) wr w' ∧ (A = some ⟨g, 0, none⟩ ∨ wr.heap.size ≤ g) → wpList Tryz.prog ops Q rest (a.put o.dst (.slice (some ⟨g, 0, none⟩) (n + 1) c)) w') :
    wpList Tryz.prog ops Q (o :: rest) a w := by
  obtain ⟨i0, hi, hz0, hz1, hz2⟩ := info_parts infoI0
  exact push_gen Tryz.underlying23 hi hz0 hz1 hz2 hgd s x ho base A n cap zs y hw hs hx hl hown hn hk hb hb2 h
theorem push_long (hgd : o.guard = none) (s x : Operand) (ho : o.op = .call { callee := .builtin .append, args := #[s, x], argTypes := #[33, 33] }) (base : Nat) (A : Option Addr) (n cap : Nat) (zs : List Int) (y : Int)
    (hw : w = wr.alloc (.cells #[.int .i64 y] 2)) (hs : a.eval s = .slice A n cap) (hx : a.eval x = .slice (some ⟨wr.heap.size, 0, none⟩) 1 1) (hl : zs.length = n) (hown : OwL wr base (.slice A n cap) zs) (hn : n ≤ 1000000) (hk : Kp No w0 wr) (hb : w0.heap.size ≤ base) (hb2 : base ≤ wr.heap.size)
    (h : ∀ g c w', OwL w' base (.slice (some ⟨g, 0, none⟩) (n + 1) c) (zs ++ [y]) → Kp No w0 w' → Kp (fun b => A = some ⟨b, 0, none⟩) wr w' ∧ (A = some ⟨g, 0, none⟩ ∨ wr.heap.size ≤ g) → wpList Tryz.prog ops Q rest (a.put o.dst (.slice (some ⟨g, 0, none⟩) (n + 1) c)) w') :
    wpList Tryz.prog ops Q (o :: rest) a w := by
  obtain ⟨i0, hi, hz0, hz1, hz2⟩ := info_parts infoI64
  exact push_gen Tryz.underlying33 hi hz0 hz1 hz2 hgd s x ho base A n cap zs y hw hs hx hl hown hn hk hb hb2 h
set_option maxRecDepth 10000 in
/-- A whole row behind another one, whose block may be new. -/
theorem push_all (hgd : o.guard = none) (s x : Operand) (ho : o.op = .call { callee := .builtin .append, args := #[s, x], argTypes := #[23, 23] }) (base : Nat) (A B : Option Addr) (n cap m c : Nat) (zs ys : List Int)
    (hs : a.eval s = .slice A n cap) (hx : a.eval x = .slice B m c) (hl : zs.length = n) (hm : ys.length = m) (hown : OwI w base (.slice A n cap) zs) (hnil : B = none → m = 0 ∧ c = 0) (hy : RdI .i64 w B m ys) (hn : n ≤ 1000000) (hm2 : m ≤ 1000000) (hk : Kp No w0 w) (hb : w0.heap.size ≤ base) (hb2 : base ≤ w.heap.size)
    (h : ∀ A' c' w', OwI w' base (.slice A' (n + m) c') (zs ++ ys) → Kp No w0 w' → wpList Tryz.prog ops Q rest (a.put o.dst (.slice A' (n + m) c')) w') :
    wpList Tryz.prog ops Q (o :: rest) a w := by
  subst hl hm
  obtain ⟨i0, hi, hz0, hz1, hz2⟩ := info_parts infoI0
  refine wpL_append_any hgd s x 23 ho base 3 i0 (.int .i64 0) 1 8 Tryz.underlying23 hi hz0 hz1 hz2 rfl (by decide) (.slice A zs.length cap) zs.length (zs.map (Value.int .i64)) hs hown B ys.length c (ys.map (Value.int .i64)) hx (by simp) hnil (fun ad had j u hu => by
    subst had
    have hj := (List.getElem?_eq_some_iff.1 hu).1
    rw [List.length_map] at hj
    obtain ⟨b, o, hA, _, hc⟩ := hy.2 j _ (List.getElem?_eq_getElem hj)
    injection hA with hA
    subst hA
    rw [add_at, hc]
    rw [List.getElem?_map, List.getElem?_eq_getElem hj] at hu
    exact hu) (fun u hu => by obtain ⟨y, _, rfl⟩ := List.mem_map.1 hu; rfl) (by unfold maxLen; omega) (by omega) hb2 ?_
  intro v' w' ho' hg _
  obtain ⟨a', c', rfl, _, _, hf⟩ := own_form ho'
  refine h a' c' w' ?_ (kp_app0 hk hown hb hg)
  have e1 : (zs ++ ys).length = zs.length + ys.length := List.length_append
  have e2 : (zs ++ ys).map (Value.int .i64) = zs.map (Value.int .i64) ++ ys.map (Value.int .i64) := List.map_append
  unfold OwI
  rw [e1, e2]
  exact ho'
end
end Go.Proofs.YtpkbpeeelpgmcaaGreat

namespace Go.Kq
open Go.RowKit

section
variable {P : Program} {Q : Exit → Act → World → Prop} {l : List Oper} {i j : Nat} {o x : Oper} {t : Tmp} {want b : Bool} {a : Act} {w : World} {K : Act → World → Prop}
theorem yielded_of (hj : l[j]? = some x) (hx : x.dst = some t) (hv : a.tmps.getD t undef = .bool b) : yielded l.toArray a.tmps j = some b := by
  have h1 : a.tmps[t]? = some (.bool b) := by
    cases h : a.tmps[t]? with
    | none =>
      rw [Array.getD_eq_getD_getElem?, h] at hv
      cases hv
    | some u =>
      rw [Array.getD_eq_getD_getElem?, h] at hv
      exact congrArg some hv
  have h2 : l.toArray[j]? = some x := by simpa using hj
  unfold yielded
  rw [h2]
  simp only [Option.bind_some, hx, h1]
theorem wpOp_run (ho : l[i]? = some o) (hg : o.guard = some (j, want)) (hj : l[j]? = some x) (hx : x.dst = some t) (hv : a.tmps.getD t undef = .bool want) (h : o.wp P a w K Q) : wpOp P l.toArray Q i K a w := by
  unfold wpOp
  have h2 : l.toArray[i]? = some o := by simpa using ho
  rw [h2]
  have h3 : Region.wanted o (yielded l.toArray a.tmps) = true := by
    unfold Region.wanted
    simp only [hg, yielded_of hj hx hv, beq_self_eq_true]
  simp only [h3, if_true]
  exact .inl h
theorem wpOp_skip (ho : l[i]? = some o) (hg : o.guard = some (j, want)) (hj : l[j]? = some x) (hx : x.dst = some t) (hv : a.tmps.getD t undef = .bool b) (hb : b ≠ want) (h : K (a.put o.dst undef) w) : wpOp P l.toArray Q i K a w := by
  unfold wpOp
  have h2 : l.toArray[i]? = some o := by simpa using ho
  rw [h2]
  have h3 : Region.wanted o (yielded l.toArray a.tmps) = false := by
    unfold Region.wanted
    simp only [hg, yielded_of hj hx hv]
    simpa using hb
  simp only [h3]
  exact h
/-- A slot that only one operation of the region writes, which has not run. -/
def onlyB (l : List Oper) (t : Tmp) (i : Nat) : Bool := (List.range l.length).all fun j => decide (j = i) || match l[j]? with
  | some o => match o.dst with
    | some d => decide (d ≠ t)
    | none => true
  | none => true
theorem Fr.evalLate {a0 : Act} {r : Nat → Option Value} (h : Fr l.toArray a0 r a) (t : Tmp) (i : Nat) (hf : onlyB l t i = true) (hr : r i = none) : a.tmps.getD t undef = a0.tmps.getD t undef := by
  have := h.rest t fun j o hj ho => by
    have hj' : l[j]? = some o := by simpa using hj
    have hlt := (List.getElem?_eq_some_iff.1 hj').1
    have h1 := List.all_eq_true.1 hf j (List.mem_range.2 hlt)
    rw [hj'] at h1
    simp only [ho] at h1
    by_cases e : j = i
    · rw [e]
      exact hr
    · simp [e] at h1
  simp [this]
end
end Go.Kq

namespace Go.Kq
open Go.RowKit

/-- Facts that outlive calls. -/
def Stab (F : Nat → World → Value → Prop) : Prop := ∀ i u w w', Kp No w w' → F i w u → F i w' u
/-- The world while a region runs that only calls and reads: F i w u is said of the result u of operation i. -/
structure HvW (base : World) (F : Nat → World → Value → Prop) (r : Nat → Option Value) (w : World) : Prop where
  kp : Kp No base w
  hv : ∀ i u, r i = some u → F i w u
section
variable {base w w' : World} {F : Nat → World → Value → Prop} {r : Nat → Option Value}
theorem HvW.start (base : World) (F : Nat → World → Value → Prop) : HvW base F (fun _ => none) base.drew := ⟨Kp.drew _ _, fun _ _ h => (by cases h)⟩
theorem HvW.upd (h : HvW base F r w) (i : Nat) (v : Value) (hf : F i w v) : HvW base F (Kq.upd r i v) w :=
  ⟨h.kp, fun j u hu => by
    by_cases e : j = i
    · subst e
      rw [upd_same] at hu
      cases hu
      exact hf
    · rw [upd_ne _ _ e] at hu
      exact h.hv j u hu⟩
theorem HvW.call (h : HvW base F r w) (hF : Stab F) (k : Kp No w w') : HvW base F r w' := ⟨h.kp.tr k, fun i u hu => hF i u w w' k (h.hv i u hu)⟩
end
/-- The same with one store into block B: operation st stores what operation src gave. -/
structure HvS (base : World) (B : Nat) (t : TypeId) (zero : Array Value) (st src : Nat) (F : Nat → World → Value → Prop) (r : Nat → Option Value) (w : World) : Prop where
  kp : Kp (One B) base w
  b0 : r st = none → w.heap[B]? = some (.cells zero t (0, 0))
  b1 : r st ≠ none → ∃ cs, r src = some (.agg cs) ∧ w.heap[B]? = some (.cells cs t (0, 0))
  hv : ∀ i u, r i = some u → F i w u
section
variable {base w w' : World} {B : Nat} {t : TypeId} {zero : Array Value} {st src : Nat} {F : Nat → World → Value → Prop} {r : Nat → Option Value}
theorem HvS.start (h : base.heap[B]? = some (.cells zero t (0, 0))) : HvS base B t zero st src F (fun _ => none) base.drew := ⟨Kp.drew _ _, fun _ => h, fun h => absurd rfl h, fun _ _ h => (by cases h)⟩
theorem HvS.upd (h : HvS base B t zero st src F r w) (i : Nat) (v : Value) (hr : r i = none) (hi : i ≠ st) (hf : F i w v) : HvS base B t zero st src F (Kq.upd r i v) w := by
  have e1 : Kq.upd r i v st = r st := upd_ne _ _ (fun e => hi e.symm)
  refine ⟨h.kp, by rw [e1]; exact h.b0, fun hs => ?_, fun j u hu => ?_⟩
  · rw [e1] at hs
    obtain ⟨cs, h1, h2⟩ := h.b1 hs
    exact ⟨cs, by rw [upd_ne _ _ (fun e => by rw [e, hr] at h1; cases h1)]; exact h1, h2⟩
  · by_cases e : j = i
    · subst e
      rw [upd_same] at hu
      cases hu
      exact hf
    · rw [upd_ne _ _ e] at hu
      exact h.hv j u hu
theorem HvS.call (h : HvS base B t zero st src F r w) (hF : Stab F) (k : Kp No w w') : HvS base B t zero st src F r w' :=
  ⟨h.kp.no k, fun hs => k.heap (h.b0 hs) id, fun hs => by
    obtain ⟨cs, h1, h2⟩ := h.b1 hs
    exact ⟨cs, h1, k.heap h2 id⟩, fun i u hu => hF i u w w' k (h.hv i u hu)⟩
theorem HvS.store (h : HvS base B t zero st src F r w) (hF : ∀ i u w w', Kp (One B) w w' → F i w u → F i w' u) (hne : src ≠ st) {cs : Array Value} (hu : r src = some (.agg cs)) (hk : Kp (One B) w w') (hh : w'.heap[B]? = some (.cells cs t (0, 0))) (v : Value) (hf : F st w' v) :
    HvS base B t zero st src F (Kq.upd r st v) w' := by
  refine ⟨h.kp.tr hk, fun hs => ?_, fun _ => ⟨cs, by rw [upd_ne _ _ hne]; exact hu, hh⟩, fun j u hj => ?_⟩
  · rw [upd_same] at hs
    cases hs
  · by_cases e : j = st
    · subst e
      rw [upd_same] at hj
      cases hj
      exact hf
    · rw [upd_ne _ _ e] at hj
      exact hF j u w w' hk (h.hv j u hj)
end
section
variable {P : Program} {Q : Exit → Act → World → Prop} {l : List Oper} {i j : Nat} {o x : Oper} {t : Tmp} {want : Bool} {a : Act} {w : World} {K : Act → World → Prop}
/-- An operation whose guard was itself passed over. -/
theorem wpOp_skipU (ho : l[i]? = some o) (hg : o.guard = some (j, want)) (hj : l[j]? = some x) (hx : x.dst = some t) (hv : a.tmps.getD t undef = undef) (h : K (a.put o.dst undef) w) : wpOp P l.toArray Q i K a w := by
  unfold wpOp
  have h2 : l.toArray[i]? = some o := by simpa using ho
  have h4 : l.toArray[j]? = some x := by simpa using hj
  rw [h2]
  have h3 : Region.wanted o (yielded l.toArray a.tmps) = false := by
    unfold Region.wanted
    simp only [hg]
    unfold yielded
    rw [h4]
    simp only [Option.bind_some, hx]
    cases h5 : a.tmps[t]? with
    | none => simp
    | some u =>
      rw [Array.getD_eq_getD_getElem?, h5] at hv
      simp at hv
      subst hv
      rfl
  simp only [h3]
  exact h
end
end Go.Kq

namespace Go.Kq
open Go.RowKit

/-- Operation st stores V at ad; ch: which operation comes behind which one. -/
structure HvC (base : World) (ad : Addr) (V : Value) (st : Nat) (ch : List (Nat × Nat)) (r : Nat → Option Value) (w : World) : Prop where
  b0 : r st = none → Kp No base w
  b1 : r st ≠ none → ∃ w0, Kp No base w0 ∧ w = w0.setCell ad V
  bl : ∀ p ∈ ch, r p.1 ≠ none → r p.2 ≠ none
section
variable {base w : World} {ad : Addr} {V : Value} {st : Nat} {ch : List (Nat × Nat)} {r : Nat → Option Value}
theorem HvC.start (base : World) (ad : Addr) (V : Value) (st : Nat) (ch : List (Nat × Nat)) : HvC base ad V st ch (fun _ => none) base.drew := ⟨fun _ => Kp.drew _ _, fun h => absurd rfl h, fun _ _ h => absurd rfl h⟩
theorem HvC.back (h : HvC base ad V st ch r w) {x y : Nat} (hp : (x, y) ∈ ch) (hy : r y = none) : r x = none :=
  Classical.byContradiction fun e => h.bl _ hp e hy
theorem upd_some {r : Nat → Option Value} {i j : Nat} {v : Value} (h : r j ≠ none) : Kq.upd r i v j ≠ none := by
  by_cases e : j = i
  · subst e; rw [upd_same]; exact fun h => by cases h
  · rw [upd_ne _ _ e]; exact h
theorem chain_upd {r : Nat → Option Value} {i : Nat} {v : Value} (hb : ∀ p ∈ ch, r p.1 ≠ none → r p.2 ≠ none) (hc : ∀ p ∈ ch, p.1 = i → r p.2 ≠ none) : ∀ p ∈ ch, Kq.upd r i v p.1 ≠ none → Kq.upd r i v p.2 ≠ none := fun p hp h => by
  by_cases e : p.1 = i
  · exact upd_some (hc p hp e)
  · rw [upd_ne _ _ e] at h
    exact upd_some (hb p hp h)
theorem HvC.updL (h : HvC base ad V st ch r w) (i : Nat) (v : Value) (hi : i ≠ st) (hc : ∀ p ∈ ch, p.1 = i → r p.2 ≠ none) : HvC base ad V st ch (Kq.upd r i v) w := by
  have e1 : Kq.upd r i v st = r st := upd_ne _ _ (fun e => hi e.symm)
  exact ⟨by rw [e1]; exact h.b0, by rw [e1]; exact h.b1, chain_upd h.bl hc⟩
theorem HvC.upd (h : HvC base ad V st ch r w) (i : Nat) (v : Value) (hi : i ≠ st) (hc : ∀ p ∈ ch, p.1 ≠ i) : HvC base ad V st ch (Kq.upd r i v) w :=
  h.updL i v hi fun p hp e => absurd e (hc p hp)
theorem HvC.store (h : HvC base ad V st ch r w) (v : Value) (hr : r st = none) (hc : ∀ p ∈ ch, p.1 = st → r p.2 ≠ none) : HvC base ad V st ch (Kq.upd r st v) (w.setCell ad V) :=
  ⟨fun e => (by rw [upd_same] at e; cases e), fun _ => ⟨w, h.b0 hr, rfl⟩, chain_upd h.bl hc⟩
end
end Go.Kq

namespace Go.Proofs.YtpkbpeeelpgmcaaGreat
open Go.RowKit Go.Kq Go.Flow

set_option maxHeartbeats 8000000 in
set_option maxRecDepth 100000 in
theorem rdemand_any (Z : Nz) (l : List Sto) (vs : List Sv) (A B C P Q : Option Addr) (ca cb n cc p cp q cq : Nat) (ss ks : List Nat) (w : World) (hok : StoOk Z.ch.length l) (hnc : Z.ch.length ≤ 1000) (hS : RdSt w C n vs l) (hP : RdI .i64 w P p (ss.map Int.ofNat)) (hQ : RdI .i64 w Q q (ks.map Int.ofNat)) (hss : ∀ x ∈ ss, x < n) (hks : ∀ x ∈ ks, x < keysN l) (h8 : ss.length ≤ 8) (k8 : ks.length ≤ 8) :
    Calls Tryz.prog 23 #[windV Z A B C ca cb n cc, comboV P p cp Q q cq] w (DmR Z.ch.length l ss ks w) := by
  unfold comboV windV DmR
  generalize Z.ch.length = nc at *
  obtain ⟨g, hg⟩ : ∃ g, g = w.heap.size := ⟨_, rfl⟩
  obtain ⟨w0, hw0⟩ : ∃ w0, (w.alloc (.cells #[.int .i64 Z.n, .slice A Z.tr.length ca, .slice B nc cb, .slice C n cc] 28)).alloc (.cells #[.slice P p cp, .slice Q q cq] 30) = w0 := ⟨_, rfl⟩
  have hk0 : Kp No w w0 := by rw [← hw0]; exact (Kp.alloc _ _ _).tr (Kp.alloc _ _ _)
  have hz0 : w0.heap.size = g + 2 := by rw [← hw0, hg]; simp
  have HBX := Lib.hid (show w0.heap[g]? = some (.cells #[.int .i64 Z.n, .slice A Z.tr.length ca, .slice B nc cb, .slice C n cc] 28 (0, 0)) by rw [← hw0, hg]; exact (Kp.alloc No _ _).heap (heap_alloc_new w _) id)
  have HBC := Lib.hid (show w0.heap[g + 1]? = some (.cells #[.slice P p cp, .slice Q q cq] 30 (0, 0)) by
    rw [← hw0, hg]
    have := heap_alloc_new (w.alloc (.cells #[.int .i64 Z.n, .slice A Z.tr.length ca, .slice B nc cb, .slice C n cc] 28)) (.cells #[.slice P p cp, .slice Q q cq] 30)
    simpa using this)
  have HK := Lib.hid hk0
  have HS := Lib.hid (hS.no hk0)
  have HL := Lib.hid hS.len
  have HP := Lib.hid (hP.no hk0)
  have HQ := Lib.hid (hQ.no hk0)
  have HPL := Lib.hid (show ss.length = p by have := hP.1; simpa using this)
  have HQL := Lib.hid (show ks.length = q by have := hQ.1; simpa using this)
  have HSS := Lib.hid hss
  have HKS := Lib.hid hks
  have HOK := Lib.hid hok
  have hp8 : p ≤ 8 := by rw [← HPL.out]; exact h8
  have hq8 : q ≤ 8 := by rw [← HQL.out]; exact k8
  have HBD := Lib.hid (fun i k j c => part_bd hok h8 k8 i k j c)
  have hmk := make_longs nc (by omega)
  clear hk0 hS hP hQ hss hks hok h8 k8
  obtain ⟨p0, p1, p2, p3⟩ := four_at HBX.out
  obtain ⟨q0, q1, _, _⟩ := cell_head HBC.out
  have HG := Lib.hid hz0
  subst hg
  have hb1 : w.heap.size + 1 < w0.heap.size := by omega
  clear hz0
  go_enter Tryz.func23, Tryz.ntmps23
  go_wp2_with fail
  clear hmk
  obtain ⟨G, hGe⟩ : ∃ G, G = w0.heap.size := ⟨_, rfl⟩
  rw [← hGe]
  have HGE := Lib.hid hGe
  have HGS := Lib.hid HG.out
  clear hGe
  go_loopw [6] (fun i wr => ∃ k : Nat, k ≤ p ∧ i = .int .i64 (k : Nat) ∧ wr.ownsRow w0.heap.size 2 1 (.slice (some ⟨G, 0, none⟩) nc nc) nc ((dmF l ks (ss.take k) (List.replicate nc 0)).map (Value.int .i64)) ∧ Kp No w0 wr) (fun i _ => p - (intOf i).toNat)
  case atStart =>
    refine ⟨0, by omega, rfl, ?_, Kp.alloc _ _ _⟩
    rw [HGE.out]
    have h := own_made w0 (e := 2) (n := nc) (s := 1) (base := w0.heap.size) (xs := List.replicate nc (Value.int .i64 0)) (by simp) (Nat.le_refl _) (by unfold maxLen; omega)
    have e : (dmF l ks (ss.take 0) (List.replicate nc 0)).map (Value.int .i64) = List.replicate nc (Value.int .i64 0) := by
      show (List.replicate nc (0 : Int)).map (Value.int .i64) = _
      rw [List.map_replicate]
    rw [e]
    exact h
  case round =>
    obtain ⟨k, hk, rfl, hown, hkp⟩ := hrel
    have HO := Lib.hid hown
    have HKP := Lib.hid hkp
    by_cases hlt : k < p
    · obtain ⟨i, hi⟩ : ∃ i, ss[k]? = some i := ⟨_, List.getElem?_eq_getElem (by rw [HPL.out]; exact hlt)⟩
      obtain ⟨bP, oP, rfl, hbP, xx0⟩ := HP.out.2 k (i : Int) (by rw [List.getElem?_map, hi]; rfl)
      have hin := HSS.out i (List.mem_of_getElem? hi)
      obtain ⟨s, hs⟩ : ∃ s, l[i]? = some s := ⟨_, List.getElem?_eq_getElem (by rw [HL.out]; exact hin)⟩
      obtain ⟨v, bC, oC, hv, rfl, hbC, y0, y1, is⟩ := HS.out.at_ hs
      have hso := HOK.out.ok s (List.mem_of_getElem? hs)
      obtain ⟨vch, TA, m, tc⟩ := v
      have is1 := is.1
      have is2 := is.2.1
      have is3 := is.2.2
      dsimp only at y0 y1 is1 is2 is3
      obtain ⟨ch, hch⟩ : ∃ ch : Nat, vch = (ch : Int) := ⟨vch.toNat, by omega⟩
      subst hch
      have hchn : ch < nc := by omega
      have HCT := Lib.hid (show s.ch.toNat = ch by omega)
      have HSD := Lib.hid (show l.getD i default = s by rw [List.getD_eq_getElem?_getD, hs]; rfl)
      have HIS := Lib.hid is3
      have HTL := Lib.hid (show s.tk.length = m by omega)
      have HKN := Lib.hid hso.2.1
      have HTK := Lib.hid hso.2.2
      have HFS := Lib.hid (show dmF l ks (ss.take (k + 1)) (List.replicate nc 0) = dmS s ks (dmF l ks (ss.take k) (List.replicate nc 0)) by
        rw [List.take_add_one, hi, Option.toList_some]
        unfold dmF
        rw [List.foldl_append, ← HSD.out]
        rfl)
      have HD0 := Lib.hid (show dmS s (ks.take 0) (dmF l ks (ss.take k) (List.replicate nc 0)) = dmF l ks (ss.take k) (List.replicate nc 0) from rfl)
      have HBD1 := Lib.hid (fun j c => HBD.out i k j c)
      rw [HSD.out] at HBD1
      have hchi : (ch : Int) < nc := by omega
      have x0 := hkp.cell xx0 id
      have z0 := hkp.cell q0 id
      have z1 := hkp.cell q1 id
      have hkp2 := hkp
      clear hi hs hv is hso is1 is2 is3 hown hkp
      have yy0 := hkp2.cell y0 id
      have yy1 := hkp2.cell y1 id
      have r3 := hkp2.cell p3 id
      have hini : (i : Int) < n := by omega
      have hbC2 : bC < wr.heap.size := Nat.lt_of_lt_of_le hbC hkp2.size
      have hbP2 : bP < wr.heap.size := Nat.lt_of_lt_of_le hbP hkp2.size
      have hb2 : w.heap.size + 1 < wr.heap.size := Nat.lt_of_lt_of_le hb1 hkp2.size
      have hb3 : w.heap.size < wr.heap.size := by omega
      clear hkp2
      go_wp2_with fail
      go_region
      obtain ⟨wo, hwo⟩ : ∃ wo, wo = (wr.alloc (.cells #[.int .i64 (ch : Nat), .slice TA m tc] 45)).drew := ⟨_, rfl⟩
      have hk1 : Kp No wr wo := by rw [hwo]; exact (Kp.alloc _ _ _).tr (Kp.drew _ _)
      obtain ⟨gb, hgb⟩ : ∃ gb, gb = wr.heap.size := ⟨_, rfl⟩
      have HBB := Lib.hid (show wo.heap[gb]? = some (.cells #[.int .i64 (ch : Nat), .slice TA m tc] 45 (0, 0)) by rw [hwo, hgb]; exact (Kp.drew No _).heap (heap_alloc_new wr _) id)
      have HGB := Lib.hid (show w0.heap.size ≤ gb ∧ gb ≠ G by
        have h1 := HKP.out.size
        have h2 := own_ge HO.out (g := G) rfl
        omega)
      rw [← hwo, ← hgb]
      have HOB := Lib.hid (own_kp HO.out hk1 (fun _ _ h => h))
      have HKB := Lib.hid (HKP.out.tr hk1)
      have zb0 := hk1.cell z0 id
      have zb1 := hk1.cell z1 id
      clear x0 z0 z1 yy0 yy1 r3 hk1 hbC2 hbP2 hb2 hb3 hwo hgb y0 y1
      go_wp2_with fail
      go_loopw [8] (fun i wr => ∃ j : Nat, j ≤ q ∧ i = .int .i64 (j : Nat) ∧ wr.ownsRow w0.heap.size 2 1 (.slice (some ⟨G, 0, none⟩) nc nc) nc ((dmS s (ks.take j) (dmF l ks (ss.take k) (List.replicate nc 0))).map (Value.int .i64)) ∧ Kp No w0 wr ∧ Kp (One G) wo wr) (fun i _ => q - (intOf i).toNat)
      case atStart => exact ⟨0, by omega, rfl, by rw [HD0.out]; exact HOB.out, HKB.out, Kp.refl _ _⟩
      case round =>
        obtain ⟨j, hj, rfl, hown, hkw, hko⟩ := hrel
        have HOW := Lib.hid hown
        have HKW := Lib.hid hkw
        have HKO := Lib.hid hko
        have hbb := hko.heap HBB.out (fun e => HGB.out.2 e)
        obtain ⟨e0, e1, _, _⟩ := cell_head hbb
        have f0 := hkw.cell q0 id
        have f1 := hkw.cell q1 id
        clear zb0 zb1 hbb hko
        by_cases hlt2 : j < q
        · obtain ⟨kk, hkk⟩ : ∃ kk, ks[j]? = some kk := ⟨_, List.getElem?_eq_getElem (by rw [HQL.out]; exact hlt2)⟩
          obtain ⟨bQ, oQ, rfl, hbQ, uu0⟩ := HQ.out.2 j (kk : Int) (by rw [List.getElem?_map, hkk]; rfl)
          have hkm : kk < m := by have := HKS.out kk (List.mem_of_getElem? hkk); rw [← HKN.out, HTL.out] at this; exact this
          obtain ⟨x, hx⟩ : ∃ x, s.tk[kk]? = some x := ⟨_, List.getElem?_eq_getElem (by rw [HTL.out]; exact hkm)⟩
          obtain ⟨bT, oT, rfl, hbT, tt0⟩ := HIS.out.2 kk x hx
          have hxb := HTK.out x (List.mem_of_getElem? hx)
          have HDS := Lib.hid (show dmS s (ks.take (j + 1)) (dmF l ks (ss.take k) (List.replicate nc 0)) = addAt (dmS s (ks.take j) (dmF l ks (ss.take k) (List.replicate nc 0))) ch x by
            rw [List.take_add_one, hkk, Option.toList_some]
            unfold dmS
            rw [List.foldl_append, List.foldl_cons, List.foldl_nil, HCT.out, show s.tk.getD kk 0 = x by rw [List.getD_eq_getElem?_getD, hx]; rfl])
          have hbd := HBD1.out j ch
          have HDL := Lib.hid (show (dmS s (ks.take j) (dmF l ks (ss.take k) (List.replicate nc 0))).length = nc by rw [dmS_len, dmF_len, List.length_replicate])
          clear hkk hx
          generalize dmS s (ks.take j) (dmF l ks (ss.take k) (List.replicate nc 0)) = D at *
          obtain ⟨d, hd⟩ : ∃ d, D[ch]? = some d := ⟨_, List.getElem?_eq_getElem (by rw [HDL.out]; exact hchn)⟩
          rw [List.getD_eq_getElem?_getD, hd, Option.getD_some] at hbd
          have HAA := Lib.hid (show addAt D ch x = D.set ch (d + x) by unfold addAt; rw [List.getD_eq_getElem?_getD, hd]; rfl)
          have yg := own_cell HOW.out (show (D.map (Value.int .i64))[ch]? = some (.int .i64 d) by rw [List.getElem?_map, hd]; rfl)
          have yf := own_free HOW.out ch
          have HPUT := Lib.hid (row_put HOW.out HKW.out ch (d + x))
          have hw64 : IntKind.i64.wrap (d + x) = d + x := IntWalk.i64_in _ (by omega)
          have hkki : (kk : Int) < m := by omega
          have u0 := hkw.cell uu0 id
          have t0 := hkw.cell tt0 id
          have HPO := Lib.hid ((HKO.out.tr (kp_setOne wr G ch (.int .i64 (d + x)))).no (Kp.drew No _))
          clear hd hown hkw p0 p1 p2 p3 q0 q1 uu0 tt0 xx0
          go_wp2_with fail
          go_still_tail 19, (by kernel_rfl)
          go_wp2_with fail
          generalize (wr.setCell ⟨G, ch, none⟩ (.int .i64 (d + x))).drew = w3 at *
          obtain ⟨o3, k3⟩ := HPUT.out
          have O3 := Lib.hid o3
          have K3 := Lib.hid k3
          have K4 := Lib.hid HPO.out
          clear o3 k3 yg yf u0 t0 e0 e1 f0 f1 HPO
          go_wp2_with fail
          go_roundw
          case rel => exact ⟨j + 1, by omega, by go_num, by rw [HDS.out, HAA.out]; exact O3.out, K3.out, K4.out⟩
          case measure => simp [intOf]; omega
        · obtain rfl : j = q := by omega
          have HFE := Lib.hid (show ks.take j = ks from List.take_of_length_le (by rw [HQL.out]; exact Nat.le_refl _))
          clear hown hkw
          go_wp2_with fail
          go_roundw
          case rel => exact ⟨k + 1, by omega, by go_num, by rw [HFS.out]; have := HOW.out; rw [HFE.out] at this; exact this, HKW.out⟩
          case measure => simp [intOf]; omega
    · obtain rfl : k = p := by omega
      have HFE := Lib.hid (show ss.take k = ss from List.take_of_length_le (by rw [HPL.out]; exact Nat.le_refl _))
      have z0 := hkp.cell q0 id
      clear hown hkp
      go_wp2_with fail
      go_ret
      refine ⟨G, rfl, ?_, HK.out.tr HKP.out⟩
      have h := HO.out
      rw [HFE.out] at h
      exact own_mono h HK.out.size
end Go.Proofs.YtpkbpeeelpgmcaaGreat
