/- Chapter 27: which works are undone (plain), no walks. · Chapter 27: how works that came in are read. -/
import Derived.ProofKit
import Derived.OpenShut
import Derived.Deep.Slices
import Derived.Deep.Fields
import Derived.ChangeSame
import Derived.Test.YtjbpdimepckmfaaXValM
import Derived.Test.YtjbpdimepckmfaaXLibMakeM
import Derived.Test.YtjbpdimepckmfaaXLibApR
import Derived.Test.YtjbpdimepckmfaaXLibStiM
namespace Go.Proofs.Ytjbpdimepckmfaa
open Go.RowKit Go.Kq

/-- The index of a work by its name; the names of a record are apart. -/
def findN (l : List Wk) (x : Nm) : Option Nat := l.findIdx? fun v => decide (v.nm = x)
def Names (l : List Wk) : Prop := ∀ (i j : Nat) (u v : Wk), l[i]? = some u → l[j]? = some v → u.nm = v.nm → i = j
theorem ixL_get (l : List Wk) (hN : Names l) : ∀ (i : Nat), i ≤ l.length → ∀ x, get1 (ixL l i) x = ((findN (l.take i) x).map fun k : Nat => (k : Int))
  | 0, _, x => rfl
  | i + 1, hi, x => by
    obtain ⟨v, hv⟩ : ∃ v, l[i]? = some v := ⟨_, List.getElem?_eq_getElem (by omega)⟩
    rw [ixL_succ hv, get1_ins, ixL_get l hN i (by omega), List.take_add_one, hv]
    have hlen : (l.take i).length = i := by rw [List.length_take]; omega
    unfold findN
    rw [show (some v).toList = [v] from rfl, List.findIdx?_append, hlen]
    by_cases h : v.nm = x
    · rw [if_pos h]
      have hno : (l.take i).findIdx? (fun v => decide (v.nm = x)) = none := by
        rw [List.findIdx?_eq_none_iff]
        intro u hu
        obtain ⟨j, hj⟩ := List.getElem?_of_mem hu
        have hjl := (List.getElem?_eq_some_iff.1 hj).1
        rw [hlen] at hjl
        rw [List.getElem?_take_of_lt hjl] at hj
        have h2 : ¬ u.nm = x := fun e => by have := hN j i u v hj hv (by rw [e, h]); omega
        simpa using h2
      rw [hno]
      simp [List.findIdx?_cons, h]
    · rw [if_neg h]
      cases hf : (l.take i).findIdx? (fun v => decide (v.nm = x)) <;> simp [List.findIdx?_cons, h]
/-- The work that work i undoes. -/
def tgt (l : List Wk) (i : Nat) : Option Nat :=
  match l[i]? with
  | none => none
  | some v => if v.kd = 4 then (match findN l v.onm with | some k => if k < i then some k else none | none => none) else none
def tgtI (l : List Wk) (i : Nat) : Int := match tgt l i with | some k => (k : Int) | none => -1
/-- Work i's undo carried out. -/
def undS (l : List Wk) (i : Nat) (out : List Bool) : List Bool :=
  match tgt l i with
  | some k => if out.getD i false then out else out.set k true
  | none => out
/-- What is undone, works p and later having been looked at. -/
def undAt (l : List Wk) : Nat → List Bool
  | 0 => List.replicate l.length false
  | m + 1 => undS l (l.length - 1 - m) (undAt l m)
def undL (l : List Wk) : List Bool := undAt l l.length
theorem undS_len (l : List Wk) (i : Nat) (out : List Bool) : (undS l i out).length = out.length := by
  unfold undS
  split
  · split <;> simp
  · rfl
theorem undAt_len (l : List Wk) : ∀ m, (undAt l m).length = l.length
  | 0 => by simp [undAt]
  | m + 1 => by rw [undAt, undS_len, undAt_len l m]
theorem tgt_lt {l : List Wk} {i k : Nat} (h : tgt l i = some k) : k < i := by
  unfold tgt at h
  cases hv : l[i]? with
  | none => rw [hv] at h; cases h
  | some v =>
    rw [hv] at h
    simp only at h
    split at h
    · split at h
      · split at h
        · injection h with h; omega
        · cases h
      · cases h
    · cases h
end Go.Proofs.Ytjbpdimepckmfaa

namespace Go.Proofs.Ytjbpdimepckmfaa
open Go.ChangeShapes Go.WideShapes Go.RowKit Go.Deep Go.Kq

theorem choose_list {α : Type} {P : Nat → α → Prop} : ∀ n : Nat, (∀ i, i < n → ∃ a, P i a) → ∃ l : List α, l.length = n ∧ ∀ i a, l[i]? = some a → P i a
  | 0, _ => ⟨[], rfl, fun i a h => by simp at h⟩
  | n + 1, h => by
    obtain ⟨l, hl, hp⟩ := choose_list n fun i hi => h i (by omega)
    obtain ⟨a, ha⟩ := h n (by omega)
    refine ⟨l ++ [a], by simp [hl], fun i b hb => ?_⟩
    rcases Nat.lt_trichotomy i n with h1 | h1 | h1
    · rw [List.getElem?_append_left (by omega)] at hb
      exact hp i b hb
    · subst h1
      rw [List.getElem?_append_right (by omega), hl] at hb
      simp at hb
      exact hb ▸ ha
    · rw [List.getElem?_eq_none (by simp; omega)] at hb
      cases hb
section
variable {H : Type} {enc : TypeId × Value → H} {W : World} {base : Nat} {spare : Nat → Bool} {held : Bool}
theorem one_int3 {fuel : Nat} {v : Value} {y : DataW H × List MemPlace} (h : DataW.trod enc Try.prog W base spare held fuel 3 [v] = some y) : ∃ x : Int, v = .int .i64 x := by
  obtain ⟨x, h1, _⟩ := DataW.trod_int Try.underlying3 h
  simp at h1
  exact ⟨x, h1⟩
theorem one_int2 {fuel : Nat} {v : Value} {y : DataW H × List MemPlace} (h : DataW.trod enc Try.prog W base spare held fuel 2 [v] = some y) : ∃ x : Int, v = .int .i64 x := by
  obtain ⟨x, h1, _⟩ := DataW.trod_int Try.underlying2 h
  simp at h1
  exact ⟨x, h1⟩
theorem one_bool {fuel : Nat} {v : Value} {y : DataW H × List MemPlace} (h : DataW.trod enc Try.prog W base spare held fuel 4 [v] = some y) : ∃ x : Bool, v = .bool x := by
  obtain ⟨x, h1, _⟩ := DataW.trod_bool Try.underlying4 h
  simp at h1
  exact ⟨x, h1⟩
theorem fld {t : TypeId} {fs : Array Field} {fuel : Nat} {cs : List Value} {y : DataW H × List MemPlace} (ht : Try.prog.underlying t = some (.struct fs)) (h : DataW.trod enc Try.prog W base spare held fuel t cs = some y) (i : Nat) (f : Field) (o k : Nat) (e : TypeId) (hf : fs[i]? = some f) (ho : f.offset = o) (he : f.type = e) (hk : Try.prog.cellsOf e = k) :
    ∃ n y, DataW.trod enc Try.prog W base spare held n e ((cs.drop o).take k) = some y := by
  obtain ⟨xs, n, _, _, _, hl, hx⟩ := DataW.trod_struct ht h
  have g := hx i f hf
  have hi := (Array.getElem?_eq_some_iff.1 hf).1
  rw [ho, he, hk, List.getElem?_eq_getElem (by omega)] at g
  exact ⟨n, _, g⟩
theorem open_rd {α : Type} (f : α → List Value) (s : Nat) (hs : 0 < s) (_hfl : ∀ x, (f x).length = s) {t e : TypeId} (ht : Try.prog.underlying t = some (.slice e)) (ce : Try.prog.cellsOf e = s)
    (he : ∀ (fuel : Nat) (cs : List Value) (y : DataW H × List MemPlace), DataW.trod enc Try.prog W base (fun _ => true) held fuel e cs = some y → ∃ x, cs = f x)
    {fuel : Nat} {a : Option Addr} {len cap : Nat} {y : DataW H × List MemPlace} (h : DataW.trod enc Try.prog W base (fun _ => true) held fuel t [.slice a len cap] = some y) : (∃ xs, Rd f s W a len xs) ∧ (a = none → len = 0 ∧ cap = 0) := by
  rcases open_slice ht h with ⟨hcs, _⟩ | ⟨x, l, c, m, n, D, Pl, hcs, hb, hl, hm, hmm, _, hi⟩
  · simp at hcs
    obtain ⟨rfl, rfl, rfl⟩ := hcs
    exact ⟨⟨[], rfl, fun i v h => by simp at h⟩, fun _ => ⟨rfl, rfl⟩⟩
  · simp at hcs
    obtain ⟨rfl, rfl, rfl⟩ := hcs
    refine ⟨?_, fun h => by cases h⟩
    simp at hmm
    subst hmm
    rw [ce] at hi
    by_cases hz : len = 0
    · subst hz
      exact ⟨[], rfl, fun i v h => by simp at h⟩
    obtain ⟨b0, o0, sp⟩ := x
    have hsp : sp = none := by
      obtain ⟨cs', hc, ht⟩ := hi 0 (by omega)
      obtain ⟨_, hln, hat⟩ := World.cells?_some hc
      have e0 := hat 0 (by omega)
      rw [List.getElem?_eq_getElem (by omega)] at e0
      simpa [Addr.add] using World.cell?_spot e0
    subst hsp
    obtain ⟨vs, hvl, hvs⟩ := choose_list (P := fun i (v : α) => b0 < W.heap.size ∧ ∀ j u, (f v)[j]? = some u → W.cell? ⟨b0, o0 + i * s + j, none⟩ = some u) len (fun i hil => by
      obtain ⟨cs', hc, ht⟩ := hi i (by omega)
      obtain ⟨v, rfl⟩ := he _ _ _ ht
      obtain ⟨_, hln, hat⟩ := World.cells?_some hc
      refine ⟨v, ?_, fun j u hj => ?_⟩
      · have e0 := hat 0 (by omega)
        rw [List.getElem?_eq_getElem (by omega)] at e0
        simp only [Addr.add_lit, Nat.add_zero] at e0
        exact World.block_lt_of_cell? W _ e0
      · have hjl := (List.getElem?_eq_some_iff.1 hj).1
        have e0 := hat j (by omega)
        simp only [Addr.add_lit] at e0
        rw [e0, hj])
    exact ⟨vs, hvl, fun i v hv => ⟨b0, o0, rfl, (hvs i v hv).1, (hvs i v hv).2⟩⟩
theorem cI : Try.prog.cellsOf 3 = 1 := by kernel_rfl
theorem cL : Try.prog.cellsOf 2 = 1 := by kernel_rfl
theorem cS : Try.prog.cellsOf 9 = 1 := by kernel_rfl
theorem cP : Try.prog.cellsOf 39 = 2 := by kernel_rfl
theorem cW : Try.prog.cellsOf 41 = 11 := by kernel_rfl
abbrev WkF := { v : Wk // v.tx.size ≤ maxLen }
set_option maxRecDepth 100000 in
theorem pp_cells {cs : List Value} {n : Nat} {y : DataW H × List MemPlace} (h : DataW.trod enc Try.prog W base spare held n 39 cs = some y) : ∃ a b : Int, cs = [.int .i64 a, .int .i64 b] := by
  obtain ⟨_, _, _, _, hlen, _, _⟩ := DataW.trod_struct Try.underlying39 h
  rw [cP] at hlen
  match cs, hlen with
  | [a0, a1], _ =>
    obtain ⟨n0, y0, h0⟩ := fld Try.underlying39 h 0 _ 0 1 3 rfl rfl rfl cI
    obtain ⟨n1, y1, h1⟩ := fld Try.underlying39 h 1 _ 1 1 3 rfl rfl rfl cI
    obtain ⟨b, rfl⟩ := one_int3 (by simpa using h0)
    obtain ⟨f, rfl⟩ := one_int3 (by simpa using h1)
    exact ⟨b, f, rfl⟩
set_option maxRecDepth 100000 in
theorem wk_cells {cs : List Value} {n : Nat} {y : DataW H × List MemPlace} (h : DataW.trod enc Try.prog W base spare held n 41 cs = some y) : ∃ x : WkF, cs = x.1.cells := by
  obtain ⟨_, _, _, _, hlen, _, _⟩ := DataW.trod_struct Try.underlying41 h
  rw [cW] at hlen
  match cs, hlen with
  | [a0, a1, a2, a3, a4, a5, a6, a7, a8, a9, a10], _ =>
    obtain ⟨n0, y0, h0⟩ := fld Try.underlying41 h 0 _ 0 1 3 rfl rfl rfl cI
    obtain ⟨n1, y1, h1⟩ := fld Try.underlying41 h 1 _ 1 1 3 rfl rfl rfl cI
    obtain ⟨n2, y2, h2⟩ := fld Try.underlying41 h 2 _ 2 1 2 rfl rfl rfl cL
    obtain ⟨n3, y3, h3⟩ := fld Try.underlying41 h 3 _ 3 1 3 rfl rfl rfl cI
    obtain ⟨n4, y4, h4⟩ := fld Try.underlying41 h 4 _ 4 2 39 rfl rfl rfl cP
    obtain ⟨n5, y5, h5⟩ := fld Try.underlying41 h 5 _ 6 1 3 rfl rfl rfl cI
    obtain ⟨n6, y6, h6⟩ := fld Try.underlying41 h 6 _ 7 1 2 rfl rfl rfl cL
    obtain ⟨n7, y7, h7⟩ := fld Try.underlying41 h 7 _ 8 1 3 rfl rfl rfl cI
    obtain ⟨n8, y8, h8⟩ := fld Try.underlying41 h 8 _ 9 1 3 rfl rfl rfl cI
    obtain ⟨n9, y9, h9⟩ := fld Try.underlying41 h 9 _ 10 1 9 rfl rfl rfl cS
    obtain ⟨z0, rfl⟩ := one_int3 (by simpa using h0)
    obtain ⟨z1, rfl⟩ := one_int3 (by simpa using h1)
    obtain ⟨z2, rfl⟩ := one_int2 (by simpa using h2)
    obtain ⟨z3, rfl⟩ := one_int3 (by simpa using h3)
    obtain ⟨z4, z5, hp⟩ := pp_cells (by simpa using h4)
    simp at hp
    obtain ⟨rfl, rfl⟩ := hp
    obtain ⟨z6, rfl⟩ := one_int3 (by simpa using h5)
    obtain ⟨z7, rfl⟩ := one_int2 (by simpa using h6)
    obtain ⟨z8, rfl⟩ := one_int3 (by simpa using h7)
    obtain ⟨z9, rfl⟩ := one_int3 (by simpa using h8)
    obtain ⟨s, hs, _, hsz⟩ := DataW.trod_string Try.underlying9 h9
    simp at hs
    subst hs
    exact ⟨⟨⟨z0, z1, z2, z3, z4, z5, z6, z7, z8, z9, s⟩, hsz⟩, rfl⟩
/-- A record that came in. -/
theorem open_works {fuel : Nat} {a : Option Addr} {len cap : Nat} {y : DataW H × List MemPlace} (h : DataW.trod enc Try.prog W base (fun _ => true) held fuel 22 [.slice a len cap] = some y) : ∃ l : List Wk, RdW W a len l ∧ Fits l ∧ len ≤ cap ∧ (a = none → len = 0 ∧ cap = 0) := by
  obtain ⟨⟨xs, hx⟩, hn⟩ := open_rd (fun v : WkF => v.1.cells) 11 (by omega) (fun _ => rfl) Try.underlying22 cW (fun fuel cs y h => wk_cells h) h
  refine ⟨xs.map Subtype.val, ⟨by rw [List.length_map]; exact hx.1, fun i v hv => ?_⟩, fun v hv => ?_, ?_, hn⟩
  · rw [List.getElem?_map] at hv
    obtain ⟨x, hxi, rfl⟩ := Option.map_eq_some_iff.1 hv
    exact hx.2 i x hxi
  · obtain ⟨x, _, rfl⟩ := List.mem_map.1 hv
    exact x.2
  · rcases open_slice Try.underlying22 h with ⟨hcs, _⟩ | ⟨x, l, c, m, n, D, Pl, hcs, _, hl, _⟩
    · simp at hcs
      omega
    · simp at hcs
      omega
theorem open_worksT {a : Option Addr} {len cap : Nat} {d : DataW H} {p : List MemPlace} (h : DataW.Trod enc Try.prog W base (fun _ => true) held 22 (.slice a len cap) d p) : ∃ l : List Wk, RdW W a len l ∧ Fits l ∧ len ≤ cap ∧ (a = none → len = 0 ∧ cap = 0) := by
  obtain ⟨fuel, hf⟩ := h
  exact open_works (by simpa [Value.cells] using hf)
set_option maxRecDepth 100000 in
/-- A work that came in. -/
theorem open_work {v : Value} {d : DataW H} {p : List MemPlace} {r : Reach} {b0 : Nat} (hv : Value.okWide Try.prog W r b0 41 v) (h : DataW.Trod enc Try.prog W base spare held 41 v d p) : ∃ x : Wk, v = x.val ∧ x.tx.size ≤ maxLen := by
  simp only [Value.okWide, Try.underlying41] at hv
  obtain ⟨cs, rfl, hsz, _⟩ := hv
  obtain ⟨fuel, hf⟩ := h
  obtain ⟨x, hx⟩ := wk_cells (cs := (Value.agg cs).cells.toList) hf
  refine ⟨x.1, ?_, x.2⟩
  obtain ⟨l⟩ := cs
  have hl : l = x.1.cells := by simpa [Value.cells] using hx
  rw [hl]
  rfl
end
end Go.Proofs.Ytjbpdimepckmfaa
