/- Chapter 24: slices.Sort, Reverse, Compact, Equal, BinarySearch of numbers, in the words of rows. · Rows that make and literals lay: plain facts. No program in sight. -/
import Derived.Shelf.Slices.CompactI
import Derived.Shelf.Slices.Reverse
import Derived.Shelf.Slices.Equal
import Derived.Shelf.Slices.SearchI
import Derived.Shelf.Sort.Plain
import Derived.Shelf.Slices.In.SortNone
import Derived.Test.YtakgcnjpmpcekaaGreatXLibSortM
import Derived.Test.YtakgcnjpmpcekaaGreatXFlAM
namespace Go.Proofs.YtakgcnjpmpcekaaGreat
open Go.RowKit Go.Kq Go.Sort

abbrev OwI (w : World) (base : Nat) (v : Value) (zs : List Int) : Prop := w.ownsRow base 3 1 v zs.length (zs.map (Value.int .i64))
/-- What a slice owns. -/
def OwnB (v : Value) : Nat → Prop := fun k => v.ownBlock = some k
theorem put_ahead {w : World} {base e n cap g q : Nat} {vs ts : List Int} (h : w.ownsRow base e 1 (.slice (some ⟨g, 0, none⟩) n cap) n (vs.map (Value.int .i64))) (hl : ts.length = vs.length) :
    (putRow (Value.int .i64) (Sort.ahead w q) g 0 ts.toArray).ownsRow base e 1 (.slice (some ⟨g, 0, none⟩) n cap) n (ts.map (Value.int .i64)) ∧ Kp (Kq.One g) w (putRow (Value.int .i64) (Sort.ahead w q) g 0 ts.toArray) := by
  have h1 := own_sorted1 (m := q) (os := #[]) (vs := vs) (ts := ts) h hl
  have h2 := kp_sorted1 (f := Value.int .i64) (m := q) (os := #[]) (w := w) (g := g) ts.toArray
  unfold sortWorld at h1 h2
  rw [grow_empty] at h1 h2
  exact ⟨h1, h2⟩
theorem one_own {w w' : World} {g n c : Nat} (h : Kp (Kq.One g) w w') : Kp (OwnB (.slice (some ⟨g, 0, none⟩) n c)) w w' := h.mono fun k _ e => by
  have e : k = g := e
  rw [e]
  rfl
/-- A slice is turned round. -/
theorem rev_any (base : Nat) (A : Option Addr) (n cap : Nat) (zs : List Int) (w : World) (hl : zs.length = n) (hn : n ≤ 100000) (ho : OwI w base (.slice A n cap) zs) :
    Calls Tryz.prog 36 #[.slice A n cap] w fun e w' => e = .returned (.tuple #[]) ∧ OwI w' base (.slice A n cap) zs.reverse ∧ Kp (OwnB (.slice A n cap)) w w' := by
  subst hl
  by_cases h0 : zs.length = 0
  · have hz : zs = [] := List.length_eq_zero_iff.1 h0
    subst hz
    have hs := Any.slices_Reverse_int_empty revI A cap w
    refine Calls.mono (show Calls Tryz.prog 36 _ _ _ from hs) ?_
    rintro e w' ⟨rfl, rfl⟩
    exact ⟨rfl, ho, Kp.refl _ _⟩
  · obtain ⟨a', cap', hv, _, _, hA⟩ := Go.Kq.own_form ho
    cases hv
    obtain ⟨g, rfl⟩ := hA (by omega)
    have hs := Any.slices_Reverse_int revI g 0 cap zs w (own_holds ho) (by omega)
    refine Calls.mono (show Calls Tryz.prog 36 _ _ _ from hs) ?_
    rintro e w' ⟨rfl, q, rfl⟩
    obtain ⟨p1, p2⟩ := put_ahead (q := q) (ts := zs.reverse) ho (by simp)
    exact ⟨rfl, by unfold OwI; rw [List.length_reverse]; exact p1, one_own p2⟩
/-- Numbers are sorted. -/
theorem sort_any (base : Nat) (A : Option Addr) (n cap : Nat) (zs : List Int) (w : World) (hl : zs.length = n) (hn : n ≤ 100000) (ho : OwI w base (.slice A n cap) zs) :
    Calls Tryz.prog 75 #[.slice A n cap] w fun e w' => e = .returned (.tuple #[]) ∧ OwI w' base (.slice A n cap) (zs.mergeSort fun x y => decide (x ≤ y)) ∧ Kp (OwnB (.slice A n cap)) w w' := by
  subst hl
  by_cases h0 : zs.length = 0
  · have hz : zs = [] := List.length_eq_zero_iff.1 h0
    subst hz
    have hs := Any.slices_Sort_int_none sortOI A cap w
    refine Calls.mono (show Calls Tryz.prog 75 _ _ _ from hs) ?_
    rintro e w' ⟨rfl, rfl⟩
    exact ⟨rfl, by rw [List.mergeSort_nil]; exact ho, Kp.refl _ _⟩
  · obtain ⟨a', cap', hv, _, _, hA⟩ := Go.Kq.own_form ho
    cases hv
    obtain ⟨g, rfl⟩ := hA (by omega)
    have hgl := (Go.Kq.own_ge ho (g := g) rfl).2
    have hs := Any.slices_Sort_int sortOI g 0 cap zs w (own_holds ho) hgl (by omega)
    refine Calls.mono (show Calls Tryz.prog 75 _ _ _ from hs) ?_
    rintro e w' ⟨rfl, m, os, rfl⟩
    have hperm := List.mergeSort_perm zs fun x y => decide (x ≤ y)
    refine ⟨rfl, ?_, one_own (kp_sorted1 (f := Value.int .i64) (m := m) (os := os) (w := w) (g := g) (zs.mergeSort fun x y => decide (x ≤ y)).toArray)⟩
    unfold OwI
    rw [hperm.length_eq]
    exact own_sorted1 (m := m) (os := os) (vs := zs) (ts := zs.mergeSort fun x y => decide (x ≤ y)) ho (by rw [hperm.length_eq])
theorem sorted_le (zs : List Int) : (zs.mergeSort fun x y => decide (x ≤ y)).Pairwise (· ≤ ·) :=
  (List.pairwise_mergeSort (le := fun x y : Int => decide (x ≤ y)) (fun _ _ _ h1 h2 => by simp at *; omega) (fun _ _ => by simp; omega) zs).imp fun h => by simpa using h
theorem comp_mem (zs : List Int) (z : Int) : z ∈ Lib.compact zs ↔ z ∈ zs := by
  unfold Lib.compact Lib.compactUpTo
  simp only [List.mem_map, List.mem_filter, List.mem_range]
  constructor
  · rintro ⟨j, ⟨hj, _⟩, rfl⟩
    have : zs.toArray[j]! = zs[j] := by simp [hj]
    rw [this]
    exact List.getElem_mem hj
  · intro hz
    obtain ⟨j, hj, rfl⟩ := List.getElem_of_mem hz
    have key : ∀ (j : Nat) (hj : j < zs.length), ∃ a, (a < zs.length ∧ Lib.keeps zs.toArray a = true) ∧ zs.toArray[a]! = zs[j] := by
      intro j
      induction j with
      | zero => intro hj; exact ⟨0, ⟨hj, by simp [Lib.keeps]⟩, by simp [hj]⟩
      | succ j ih =>
        intro hj
        by_cases he : zs.toArray[j + 1]! = zs.toArray[j + 1 - 1]!
        · obtain ⟨a, h1, h2⟩ := ih (by omega)
          refine ⟨a, h1, h2.trans ?_⟩
          have e1 : zs.toArray[j + 1]! = zs[j + 1] := by simp [hj]
          have e2 : zs.toArray[j + 1 - 1]! = zs[j] := by simp [show j < zs.length by omega]
          rw [← e1, ← e2, he]
        · exact ⟨j + 1, ⟨hj, Lib.keeps_pos he⟩, by simp [hj]⟩
    exact key j hj
theorem comp_asc (zs : List Int) (hs : zs.Pairwise (· ≤ ·)) : (Lib.compact zs).Pairwise (· < ·) := by
  unfold Lib.compact Lib.compactUpTo
  rw [List.pairwise_map]
  have h1 : ((List.range zs.length).filter (Lib.keeps zs.toArray)).Pairwise (· < ·) := List.Pairwise.filter _ List.pairwise_lt_range
  refine List.Pairwise.imp_of_mem ?_ h1
  intro i j hi hj hij
  simp only [List.mem_filter, List.mem_range] at hi hj
  have hk := hj.2
  simp only [Lib.keeps, decide_eq_true_eq] at hk
  have hne := hk.resolve_left (by omega)
  have le : ∀ (a b : Nat) (ha : a ≤ b) (hb : b < zs.length), zs.toArray[a]! ≤ zs.toArray[b]! := by
    intro a b ha hb
    have e1 : zs.toArray[a]! = zs[a] := by simp [show a < zs.length by omega]
    have e2 : zs.toArray[b]! = zs[b] := by simp [hb]
    rw [e1, e2]
    rcases Nat.lt_or_ge a b with h | h
    · exact List.pairwise_iff_getElem.1 hs a b (by omega) hb h
    · obtain rfl : a = b := by omega
      exact Int.le_refl _
  have l1 := le i (j - 1) (by omega) (by omega)
  have l2 := le (j - 1) j (by omega) hj.1
  omega
theorem comp_len (zs : List Int) : (Lib.compact zs).length ≤ zs.length := by
  unfold Lib.compact Lib.compactUpTo
  rw [List.length_map]
  have := List.length_filter_le (Lib.keeps zs.toArray) (List.range zs.length)
  rw [List.length_range] at this
  exact this
/-- The head of a row of the call's own. -/
theorem own_head {w : World} {base e n m : Nat} {A : Option Addr} {cap : Nat} {xs ys : List Value} (h : w.ownsRow base e 1 (.slice A n cap) n (xs ++ ys)) (hm : xs.length = m) : w.ownsRow base e 1 (.slice A m cap) m xs := by
  have hl := h.1
  rw [List.length_append] at hl
  rcases h.2 with ⟨hv, _⟩ | ⟨g, cap', cur, hv, hb, hh, h1, h2, h3, h4⟩
  · cases hv
    have hx : xs = [] := List.length_eq_zero_iff.1 (by omega)
    subst hx
    simp at hm
    subst hm
    exact ⟨rfl, .inl ⟨rfl, rfl⟩⟩
  · cases hv
    refine ⟨by omega, .inr ⟨g, cap, cur, rfl, hb, hh, by omega, h2, h3, ?_⟩⟩
    have := congrArg (List.take (m * 1)) h4
    rw [List.take_take, Nat.min_eq_left (by omega), List.take_left' (by omega)] at this
    exact this
/-- What stands twice is struck. -/
theorem comp_any (base : Nat) (A : Option Addr) (n cap : Nat) (zs : List Int) (w : World) (hl : zs.length = n) (hn : n ≤ 100000) (ho : OwI w base (.slice A n cap) zs) :
    Calls Tryz.prog 54 #[.slice A n cap] w fun e w' => e = .returned (.slice A (Lib.compact zs).length cap) ∧ OwI w' base (.slice A (Lib.compact zs).length cap) (Lib.compact zs) ∧ Kp (OwnB (.slice A n cap)) w w' := by
  subst hl
  by_cases h0 : zs.length = 0
  · have hz : zs = [] := List.length_eq_zero_iff.1 h0
    subst hz
    have hs := Any.slices_Compact_int_empty compI A cap w
    refine Calls.mono (show Calls Tryz.prog 54 _ _ _ from hs) ?_
    rintro e w' ⟨rfl, rfl⟩
    exact ⟨rfl, ho, Kp.refl _ _⟩
  · obtain ⟨a', cap', hv, _, _, hA⟩ := Go.Kq.own_form ho
    cases hv
    obtain ⟨g, rfl⟩ := hA (by omega)
    have hs := Any.slices_Compact_int compI g 0 cap zs w (own_holds ho) (by omega) (by omega)
    refine Calls.mono (show Calls Tryz.prog 54 _ _ _ from hs) ?_
    rintro e w' ⟨rfl, q, rfl⟩
    have hcl := comp_len zs
    obtain ⟨p1, p2⟩ := put_ahead (q := q) (ts := Lib.compact zs ++ List.replicate (zs.length - (Lib.compact zs).length) 0) ho (by simp; omega)
    rw [List.map_append] at p1
    exact ⟨rfl, own_head p1 (by simp), one_own p2⟩
theorem rdi_cells {w : World} {b o n : Nat} {xs : List Int} (h : RdI .i64 w (some ⟨b, o, none⟩) n xs) : ∀ j, j < xs.length → w.cell? ⟨b, o + j, none⟩ = some (.int .i64 (xs.getD j 0)) := fun j hj => by
  obtain ⟨b', o', hA, _, hc⟩ := h.2 j _ (List.getElem?_eq_getElem hj)
  injection hA with hA
  injection hA with e1 e2
  subst e1 e2
  rw [hc, List.getD_eq_getElem?_getD, List.getElem?_eq_getElem hj]
  rfl
theorem rdi_some {w : World} {A : Option Addr} {n : Nat} {xs : List Int} (h : RdI .i64 w A n xs) (hn : 0 < n) : ∃ b o, A = some ⟨b, o, none⟩ := by
  obtain ⟨b, o, hA, _⟩ := h.2 0 _ (List.getElem?_eq_getElem (by rw [h.1]; exact hn))
  exact ⟨b, o, hA⟩
/-- Are two lists equal? -/
theorem equal_any (A B : Option Addr) (n m c d : Nat) (xs ys : List Int) (w : World) (hn : n ≤ 100000) (hm : m ≤ 100000) (hx : RdI .i64 w A n xs) (hy : RdI .i64 w B m ys) :
    Calls Tryz.prog 37 #[.slice A n c, .slice B m d] w fun e w' => e = .returned (.bool (decide (xs = ys))) ∧ Kp No w w' := by
  have hxl := hx.1
  have hyl := hy.1
  by_cases h0 : n = 0
  · subst h0
    have hxe : xs = [] := List.length_eq_zero_iff.1 hxl
    subst hxe
    have hs := Any.slices_Equal_int_empty eqI A B c m d w (by omega)
    refine Calls.mono (show Calls Tryz.prog 37 _ _ _ from hs) ?_
    rintro e w' ⟨rfl, rfl⟩
    refine ⟨ret_bool ?_, Kp.refl _ _⟩
    rw [decide_eq_decide, ← hyl, eq_comm (a := ([] : List Int)), List.length_eq_zero_iff]
  · by_cases h1 : m = 0
    · subst h1
      have hye : ys = [] := List.length_eq_zero_iff.1 hyl
      subst hye
      obtain ⟨b, o, rfl⟩ := rdi_some hx (by omega)
      clear hx hy
      go_enter Tryz.func37, Tryz.ntmps37
      go_wp2
      go_ret
      refine ⟨ret_bool ?_, Kp.refl _ _⟩
      symm
      rw [decide_eq_false_iff_not]
      intro e
      subst e
      exact h0 hxl.symm
    · obtain ⟨b, o, rfl⟩ := rdi_some hx (by omega)
      obtain ⟨b', o', rfl⟩ := rdi_some hy (by omega)
      have hs := Any.slices_Equal_int eqI b o n c b' o' m d xs ys w (by omega) (by omega) (by omega) (by omega) (rdi_cells hx) (rdi_cells hy)
      refine Calls.mono (show Calls Tryz.prog 37 _ _ _ from hs) ?_
      rintro e w' ⟨rfl, q, rfl⟩
      refine ⟨ret_bool ?_, Kp.drewN _ _ _⟩
      rw [List.take_of_length_le (by omega), List.take_of_length_le (by omega), Bool.eq_iff_iff]
      simp
/-- Where a number stands in a sorted list. -/
theorem search_any (A : Option Addr) (n c : Nat) (zs : List Int) (x : Int) (w : World) (hn : n ≤ 100000) (h0 : 0 < n) (hx : RdI .i64 w A n zs) (hs : zs.Pairwise (· ≤ ·)) :
    Calls Tryz.prog 57 #[.slice A n c, .int .i64 x] w fun e w' => e = .returned (.tuple #[.int .i64 (zs.countP (· < x) : Nat), .bool (zs.contains x)]) ∧ ∃ q, w' = w.drewN q := by
  obtain ⟨b, o, rfl⟩ := rdi_some hx h0
  have hl := hx.1
  have h := Any.slices_BinarySearch_int srchI b o n c zs x w (by omega) (by omega) (rdi_cells hx) (by rw [List.take_of_length_le (by omega)]; exact hs)
  refine Calls.mono (show Calls Tryz.prog 57 _ _ _ from h) ?_
  rw [List.take_of_length_le (by omega)]
  exact fun e w' h => h
end Go.Proofs.YtakgcnjpmpcekaaGreat

namespace Go.Kq
open Go.RowKit

theorem made_flat {α : Type} (f : α → List Value) (x : α) (z : Array Value) (s n : Nat) (hz : z.size = s) (hs : 0 < s) (hf : f x = z.toList) : madeCells z (n * s) = ((List.replicate n x).flatMap f).toArray := by
  have hfl : ∀ y : Unit, ((fun _ : Unit => z.toList) y).length = s := fun _ => by simpa using hz
  have e : (List.replicate n x).flatMap f = (List.replicate n ()).flatMap fun _ => z.toList := by
    rw [List.flatMap_replicate, List.flatMap_replicate, hf]
  rw [e]
  apply Array.ext
  · rw [size_madeCells, List.size_toArray, flat_len hfl, List.length_replicate]
  · intro i h1 h2
    rw [size_madeCells] at h1
    have hd : i / s < n := Nat.div_lt_of_lt_mul (by rw [Nat.mul_comm]; exact h1)
    have hm : i % s < z.size := by rw [hz]; exact Nat.mod_lt _ hs
    have := flat_at hfl (List.replicate n ()) (i / s) () (i % s) z[i % s] (by simp [hd]) (by simp [hm])
    rw [Nat.div_add_mod'] at this
    obtain ⟨h3, h4⟩ := List.getElem?_eq_some_iff.1 this
    simp only [List.getElem_toArray]
    rw [h4]
    have hm' : z[i % s]! = z[i % s] := getElem!_pos z (i % s) hm
    simp [madeCells, hz, hm']
theorem own_made (w : World) {base e s n : Nat} {xs : List Value} (hl : xs.length = n * s) (hb : base ≤ w.heap.size) (hn : n ≤ maxLen) : (w.alloc (.cells xs.toArray e)).ownsRow base e s (.slice (some ⟨w.heap.size, 0, none⟩) n n) n xs :=
  ⟨hl, .inr ⟨_, n, xs.toArray, rfl, hb, heap_alloc_new w _, Nat.le_refl _, hn, by simpa using hl, by rw [← hl]; simp⟩⟩
theorem run_make_flat {P : Program} (w : World) {α : Type} (f : α → List Value) (x : α) (t e : TypeId) (i : TypeInfo) (z : Value) (s bytes n : Nat) (ht : P.underlying t = some (.slice e)) (hi : P.info? e = some i) (hz : i.zero = some z) (hsz : i.size = s) (hby : i.bytes = bytes) (hs : 0 < s) (hzs : z.cells.size = s) (hf : f x = z.cells.toList) (hb : bytes * n ≤ 281474976710656) (hn : n ≤ 9223372036854775807) :
    (Instr.makeSlice t (.int .i64 (n : Nat)) (.int .i64 (n : Nat))).run P w = .ok (.slice (some ⟨w.heap.size, 0, none⟩) n n) (w.alloc (.cells ((List.replicate n x).flatMap f).toArray e)) := by
  have h := run_make (P := P) w t e i z ht hi hz .i64 .i64 n n (by omega) (by omega) (by rw [hby, ← Int.natCast_mul]; omega) (by omega)
  rw [h, hsz, show (n : Int).toNat = n by omega, made_flat f x z.cells s n hzs hs hf]
end Go.Kq
