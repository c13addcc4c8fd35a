/- Chapter 15: the library's functions at this dump, as their contracts want them (printed by lay.py). · A row that the call owns, handed to the library's sort and taken back: elements of one cell or more. No program in sight. · Chapter 15: slices.Sort, BinarySearch of numbers, in the words of rows. · Bits of numbers, as the walks print them. -/
import Derived.Shelf.Lays
import Derived.Shelf.Lays2
import Derived.Ground.NamesProg
import Derived.Ground.Names2Prog
import Derived.Shelf.SlGeneric
import Derived.Test.YtpkbpeeelpgmcaaProg
import Derived.Shelf.GgSortFunc.Insertion
import Derived.Shelf.GgSortFunc.InsertionK
import Derived.Shelf.Sort.Plain
import Derived.Shelf.Slices.SearchI
import Derived.Shelf.Slices.In.SortNone
import Derived.Laws.BitsLemmas
import Derived.Test.YtpkbpeeelpgmcaaXLibRowM
import Derived.Test.YtpkbpeeelpgmcaaXNwRch
namespace Go.Proofs.Ytpkbpeeelpgmcaa
open Go.Shelf
def sortOI_ren : Go.Shelf.Ren := ⟨fun | 189 => 42 | 125 => 46 | 257 => 63 | 128 => 73 | 129 => 74 | 294 => 84 | 295 => 85 | 296 => 86 | 297 => 87 | 298 => 88 | 299 => 89 | 216 => 76 | 300 => 90 | 301 => 91 | 328 => 102 | 329 => 96 | 330 => 97 | 331 => 103 | 332 => 104 | 215 => 100 | 343 => 106 | n => n, fun | 28 => 23 | 3 => 3 | 46 => 94 | 0 => 0 | 51 => 128 | 53 => 130 | 4 => 4 | 183 => 122 | 182 => 121 | 131 => 96 | 5 => 5 | 9 => 9 | 218 => 147 | 222 => 151 | 228 => 155 | 229 => 156 | n => n, fun | n => n⟩
theorem sortOI : Go.Proofs.Lays.n189 Try.prog sortOI_ren := {
  mixed := by kernel_rfl
  f125 := Try.func46.trans (congrArg some (by kernel_rfl))
  f128 := Try.func73.trans (congrArg some (by kernel_rfl))
  f129 := Try.func74.trans (congrArg some (by kernel_rfl))
  f189 := Try.func42.trans (congrArg some (by kernel_rfl))
  f215 := Try.func100.trans (congrArg some (by kernel_rfl))
  f216 := Try.func76.trans (congrArg some (by kernel_rfl))
  f257 := Try.func63.trans (congrArg some (by kernel_rfl))
  f294 := Try.func84.trans (congrArg some (by kernel_rfl))
  f295 := Try.func85.trans (congrArg some (by kernel_rfl))
  f296 := Try.func86.trans (congrArg some (by kernel_rfl))
  f297 := Try.func87.trans (congrArg some (by kernel_rfl))
  f298 := Try.func88.trans (congrArg some (by kernel_rfl))
  f299 := Try.func89.trans (congrArg some (by kernel_rfl))
  f300 := Try.func90.trans (congrArg some (by kernel_rfl))
  f301 := Try.func91.trans (congrArg some (by kernel_rfl))
  f328 := Try.func102.trans (congrArg some (by kernel_rfl))
  f329 := Try.func96.trans (congrArg some (by kernel_rfl))
  f330 := Try.func97.trans (congrArg some (by kernel_rfl))
  f331 := Try.func103.trans (congrArg some (by kernel_rfl))
  f332 := Try.func104.trans (congrArg some (by kernel_rfl))
  f343 := Try.func106.trans (congrArg some (by kernel_rfl))
  t0 := Try.underlying0
  a0 := Try.isAgg0
  z0 := Try.sizeOf0
  v0 := Try.zeroValue0
  t3 := Try.underlying3
  a3 := Try.isAgg3
  z3 := Try.sizeOf3
  v3 := Try.zeroValue3
  t4 := Try.underlying4
  a4 := Try.isAgg4
  z4 := Try.sizeOf4
  v4 := Try.zeroValue4
  t5 := Try.underlying5
  a5 := Try.isAgg5
  z5 := Try.sizeOf5
  v5 := Try.zeroValue5
  t9 := Try.underlying9
  a9 := Try.isAgg9
  z9 := Try.sizeOf9
  v9 := Try.zeroValue9
  t28 := Try.underlying23
  a28 := Try.isAgg23
  z28 := Try.sizeOf23
  v28 := Try.zeroValue23
  t46 := Try.underlying94
  a46 := Try.isAgg94
  z46 := Try.sizeOf94
  v46 := Try.zeroValue94
  t51 := Try.underlying128
  a51 := Try.isAgg128
  z51 := Try.sizeOf128
  v51 := Try.zeroValue128
  t53 := Try.underlying130
  a53 := Try.isAgg130
  z53 := Try.sizeOf130
  v53 := Try.zeroValue130
  t131 := Try.underlying96
  a131 := Try.isAgg96
  z131 := Try.sizeOf96
  v131 := Try.zeroValue96
  t182 := Try.underlying121
  a182 := Try.isAgg121
  z182 := Try.sizeOf121
  v182 := Try.zeroValue121
  t183 := Try.underlying122
  a183 := Try.isAgg122
  z183 := Try.sizeOf122
  v183 := Try.zeroValue122
  t218 := Try.underlying147
  a218 := Try.isAgg147
  z218 := Try.sizeOf147
  v218 := Try.zeroValue147
  t222 := Try.underlying151
  a222 := Try.isAgg151
  z222 := Try.sizeOf151
  v222 := Try.zeroValue151
  t228 := Try.underlying155
  a228 := Try.isAgg155
  z228 := Try.sizeOf155
  v228 := Try.zeroValue155
  t229 := Try.underlying156
  a229 := Try.isAgg156
  z229 := Try.sizeOf156
  v229 := Try.zeroValue156 }
def srchI_ren : Go.Shelf.Ren := ⟨fun | 25 => 49 | 31 => 76 | 32 => 77 | 37 => 100 | n => n, fun | 22 => 23 | 3 => 3 | 4 => 4 | 40 => 94 | 0 => 0 | n => n, fun | n => n⟩
theorem srchI : Go.Proofs.Lays2.n25 Try.prog srchI_ren := {
  mixed := by kernel_rfl
  f25 := Try.func49.trans (congrArg some (by kernel_rfl))
  f31 := Try.func76.trans (congrArg some (by kernel_rfl))
  f32 := Try.func77.trans (congrArg some (by kernel_rfl))
  f37 := Try.func100.trans (congrArg some (by kernel_rfl))
  t0 := Try.underlying0
  a0 := Try.isAgg0
  z0 := Try.sizeOf0
  v0 := Try.zeroValue0
  t3 := Try.underlying3
  a3 := Try.isAgg3
  z3 := Try.sizeOf3
  v3 := Try.zeroValue3
  t4 := Try.underlying4
  a4 := Try.isAgg4
  z4 := Try.sizeOf4
  v4 := Try.zeroValue4
  t22 := Try.underlying23
  a22 := Try.isAgg23
  z22 := Try.sizeOf23
  v22 := Try.zeroValue23
  t40 := Try.underlying94
  a40 := Try.isAgg94
  z40 := Try.sizeOf94
  v40 := Try.zeroValue94 }
end Go.Proofs.Ytpkbpeeelpgmcaa

namespace Go.Kq
open Go.RowKit Go.Sort Go.Proofs

/-! ### rows of one cell -/
section
variable {α : Type} [Inhabited α] {f : α → Value} {w : World} {base e n cap g m : Nat} {os : Array Obj} {vs ts : List α}
theorem own_holds (h : w.ownsRow base e 1 (.slice (some ⟨g, 0, none⟩) n cap) n (vs.map f)) : Holds f w g 0 vs.toArray := by
  intro j hj
  have hj' : j < vs.length := by simpa using hj
  rw [Nat.zero_add]
  refine ⟨own_cell h (j := j) ?_, own_free h j⟩
  rw [List.getElem?_map, List.getElem?_eq_getElem hj']
  simp [hj']
theorem heap_sorted1 {cur : Array Value} {fr : Nat × Nat} (d : Array α) (hb : w.heap[g]? = some (.cells cur e fr)) : (sortWorld f w g 0 m d os).heap[g]? = some (.cells (putCells f 0 d cur) e fr) := by
  have hg : g < w.heap.size := (Array.getElem?_eq_some_iff.1 hb).1
  unfold sortWorld
  rw [heap_grow_old _ _ (by simpa using hg)]
  simp [putRow, mapBlock, Sort.ahead, Array.getElem?_modify, hb, onCells]
theorem kp_sorted1 (d : Array α) : Kp (One g) w (sortWorld f w g 0 m d os) := by
  refine ⟨rfl, rfl, rfl, by simp [sortWorld], fun k hk hne => ?_⟩
  unfold sortWorld
  rw [heap_grow_old _ _ (by simpa using hk)]
  have : g ≠ k := fun e => hne e.symm
  simp [putRow, mapBlock, Sort.ahead, Array.getElem?_modify, this]
theorem take_put1 (cur : Array Value) (ts : List α) (h : ts.length ≤ cur.size) : (putCells f 0 ts.toArray cur).toList.take ts.length = ts.map f := by
  apply List.ext_getElem?
  intro j
  by_cases hj : j < ts.length
  · rw [List.getElem?_take_of_lt hj, Array.getElem?_toList]
    simp [putCells, hj, show j < cur.size by omega]
  · rw [List.getElem?_take_eq_none (by omega), List.getElem?_eq_none (by simp; omega)]
theorem own_sorted1 (h : w.ownsRow base e 1 (.slice (some ⟨g, 0, none⟩) n cap) n (vs.map f)) (hl : ts.length = vs.length) : (sortWorld f w g 0 m ts.toArray os).ownsRow base e 1 (.slice (some ⟨g, 0, none⟩) n cap) n (ts.map f) := by
  have hn : vs.length = n := by have := h.1; simpa using this
  rcases h.2 with ⟨h0, _⟩ | ⟨g', cap', cur, hv, hb, hg, h1, h2, h3, _⟩
  · cases h0
  · cases hv
    exact ⟨by simp; omega, .inr ⟨g, cap, _, rfl, hb, heap_sorted1 _ hg, h1, h2, by simp [putCells, h3], by
      rw [Nat.mul_one, show n = ts.length by omega]
      exact take_put1 cur ts (by omega)⟩⟩
end

/-! ### rows of k cells -/
section
variable {α : Type} [Inhabited α] {f : α → List Value} {k : Nat} {w : World} {base e n cap g m : Nat} {os : Array Obj} {vs ts : List α}
theorem flatK_eq (hk : ∀ x, (f x).length = k) (vs : List α) : flatK f k vs.toArray = (vs.flatMap f).toArray := by
  rcases Nat.eq_zero_or_pos k with h0 | h0
  · subst h0
    have : vs.flatMap f = [] := by
      rw [← List.length_eq_zero_iff, flat_len hk]
      omega
    rw [this]
    simp [flatK]
  refine ext_get! (by simp [flat_len hk]) fun t ht => ?_
  rw [size_flatK] at ht
  have ht' : t < vs.length * k := by simpa using ht
  rw [get_flatK _ _ _ _ (by simpa using ht')]
  have hd : t / k < vs.length := Nat.div_lt_of_lt_mul (by rw [Nat.mul_comm]; exact ht')
  have hm : t % k < (f vs[t / k]).length := by rw [hk]; exact Nat.mod_lt _ h0
  have := flat_at hk vs (t / k) vs[t / k] (t % k) (f vs[t / k])[t % k] (List.getElem?_eq_getElem hd) (List.getElem?_eq_getElem hm)
  rw [Nat.div_add_mod'] at this
  have e1 : (vs.flatMap f).toArray[t]! = (f vs[t / k])[t % k] := by
    rw [Array.getElem!_eq_getD, Array.getD_eq_getD_getElem?, List.getElem?_toArray, this]
    rfl
  rw [e1]
  have e2 : vs.toArray[t / k]! = vs[t / k] := by simp [hd]
  rw [e2]
  exact getElem!_pos (f vs[t / k]) (t % k) hm
theorem own_holdsK (hk : ∀ x, (f x).length = k) (h : w.ownsRow base e k (.slice (some ⟨g, 0, none⟩) n cap) n (vs.flatMap f)) : HoldsK f k w g 0 vs.toArray := by
  unfold HoldsK
  rw [flatK_eq hk]
  intro j hj
  have hj' : j < (vs.flatMap f).length := by simpa using hj
  rw [Nat.zero_add]
  refine ⟨own_cell h (j := j) ?_, own_free h j⟩
  rw [getElem!_pos (vs.flatMap f).toArray j hj]
  exact List.getElem?_eq_getElem hj'
theorem sortWorldK_eq (hk : ∀ x, (f x).length = k) : sortWorldK f k w g 0 m ts.toArray os = sortWorld id w g 0 m (ts.flatMap f).toArray os := by
  unfold sortWorldK putRowK sortWorld
  rw [flatK_eq hk]
theorem kp_sortedK (hk : ∀ x, (f x).length = k) (ts : List α) : Kp (One g) w (sortWorldK f k w g 0 m ts.toArray os) := by
  rw [sortWorldK_eq hk]
  exact kp_sorted1 _
theorem take_put_id (cur : Array Value) (us : List Value) (h : us.length ≤ cur.size) : (putCells id 0 us.toArray cur).toList.take us.length = us := by
  have := take_put1 (f := id) cur us h
  simpa using this
theorem own_sortedK (hk : ∀ x, (f x).length = k) (h : w.ownsRow base e k (.slice (some ⟨g, 0, none⟩) n cap) n (vs.flatMap f)) (hl : ts.length = vs.length) : (sortWorldK f k w g 0 m ts.toArray os).ownsRow base e k (.slice (some ⟨g, 0, none⟩) n cap) n (ts.flatMap f) := by
  rw [sortWorldK_eq hk]
  have hn : (vs.flatMap f).length = n * k := h.1
  have hts : (ts.flatMap f).length = n * k := by rw [flat_len hk, hl, ← flat_len hk, hn]
  rcases h.2 with ⟨h0, _⟩ | ⟨g', cap', cur, hv, hb, hg, h1, h2, h3, _⟩
  · cases h0
  · cases hv
    exact ⟨hts, .inr ⟨g, cap, _, rfl, hb, heap_sorted1 _ hg, h1, h2, by simp [putCells, h3], by
      rw [← hts]
      exact take_put_id cur _ (by rw [hts, h3]; exact Nat.mul_le_mul_right _ h1)⟩⟩
end

/-- A list that is sorted and has what another one has. -/
theorem perm_of_permIn {α : Type} [Inhabited α] {l : List α} {d : Array α} (h : PermIn 0 l.toArray.size l.toArray d) : d.toList.Perm l := by
  obtain ⟨h1, _, h3⟩ := h
  rw [show d.extract 0 l.toArray.size = d by rw [← h1]; exact Array.extract_size, Array.extract_size] at h3
  simpa using h3
theorem pairwise_of_sortedIn {α : Type} [Inhabited α] {lt : α → α → Bool} {d : Array α} {n : Nat} (hn : d.size = n) (h : SortedIn lt 0 n d) : d.toList.Pairwise fun x y => lt y x = false := by
  rw [List.pairwise_iff_getElem]
  intro i j hi hj hij
  have := h i j (Nat.zero_le _) hij (by simpa [hn] using hj)
  rw [getElem!_pos d i (by simpa using hi), getElem!_pos d j (by simpa using hj)] at this
  simpa using this
end Go.Kq

namespace Go.Proofs.Ytpkbpeeelpgmcaa
open Go.RowKit Go.Kq Go.Sort

abbrev OwI (w : World) (base : Nat) (v : Value) (zs : List Int) : Prop := w.ownsRow base 3 1 v zs.length (zs.map (Value.int .i64))
/-- What a slice owns. -/
def OwnB (v : Value) : Nat → Prop := fun k => v.ownBlock = some k
theorem put_ahead {w : World} {base e n cap g q : Nat} {vs ts : List Int} (h : w.ownsRow base e 1 (.slice (some ⟨g, 0, none⟩) n cap) n (vs.map (Value.int .i64))) (hl : ts.length = vs.length) :
    (putRow (Value.int .i64) (Sort.ahead w q) g 0 ts.toArray).ownsRow base e 1 (.slice (some ⟨g, 0, none⟩) n cap) n (ts.map (Value.int .i64)) ∧ Kp (Kq.One g) w (putRow (Value.int .i64) (Sort.ahead w q) g 0 ts.toArray) := by
  have h1 := own_sorted1 (m := q) (os := #[]) (vs := vs) (ts := ts) h hl
  have h2 := kp_sorted1 (f := Value.int .i64) (m := q) (os := #[]) (w := w) (g := g) ts.toArray
  unfold sortWorld at h1 h2
  rw [grow_empty] at h1 h2
  exact ⟨h1, h2⟩
theorem one_own {w w' : World} {g n c : Nat} (h : Kp (Kq.One g) w w') : Kp (OwnB (.slice (some ⟨g, 0, none⟩) n c)) w w' := h.mono fun k _ e => by
  have e : k = g := e
  rw [e]
  rfl
/-- Numbers are sorted. -/
theorem sort_any (base : Nat) (A : Option Addr) (n cap : Nat) (zs : List Int) (w : World) (hl : zs.length = n) (hn : n ≤ 100000) (ho : OwI w base (.slice A n cap) zs) :
    Calls Try.prog 42 #[.slice A n cap] w fun e w' => e = .returned (.tuple #[]) ∧ OwI w' base (.slice A n cap) (zs.mergeSort fun x y => decide (x ≤ y)) ∧ Kp (OwnB (.slice A n cap)) w w' := by
  subst hl
  by_cases h0 : zs.length = 0
  · have hz : zs = [] := List.length_eq_zero_iff.1 h0
    subst hz
    have hs := Any.slices_Sort_int_none sortOI A cap w
    refine Calls.mono (show Calls Try.prog 42 _ _ _ from hs) ?_
    rintro e w' ⟨rfl, rfl⟩
    exact ⟨rfl, by rw [List.mergeSort_nil]; exact ho, Kp.refl _ _⟩
  · obtain ⟨a', cap', hv, _, _, hA⟩ := Go.Kq.own_form ho
    cases hv
    obtain ⟨g, rfl⟩ := hA (by omega)
    have hgl := (Go.Kq.own_ge ho (g := g) rfl).2
    have hs := Any.slices_Sort_int sortOI g 0 cap zs w (own_holds ho) hgl (by omega)
    refine Calls.mono (show Calls Try.prog 42 _ _ _ from hs) ?_
    rintro e w' ⟨rfl, m, os, rfl⟩
    have hperm := List.mergeSort_perm zs fun x y => decide (x ≤ y)
    refine ⟨rfl, ?_, one_own (kp_sorted1 (f := Value.int .i64) (m := m) (os := os) (w := w) (g := g) (zs.mergeSort fun x y => decide (x ≤ y)).toArray)⟩
    unfold OwI
    rw [hperm.length_eq]
    exact own_sorted1 (m := m) (os := os) (vs := zs) (ts := zs.mergeSort fun x y => decide (x ≤ y)) ho (by rw [hperm.length_eq])
theorem sorted_le (zs : List Int) : (zs.mergeSort fun x y => decide (x ≤ y)).Pairwise (· ≤ ·) :=
  (List.pairwise_mergeSort (le := fun x y : Int => decide (x ≤ y)) (fun _ _ _ h1 h2 => by simp at *; omega) (fun _ _ => by simp; omega) zs).imp fun h => by simpa using h
theorem rdi_cells {w : World} {b o n : Nat} {xs : List Int} (h : RdI .i64 w (some ⟨b, o, none⟩) n xs) : ∀ j, j < xs.length → w.cell? ⟨b, o + j, none⟩ = some (.int .i64 (xs.getD j 0)) := fun j hj => by
  obtain ⟨b', o', hA, _, hc⟩ := h.2 j _ (List.getElem?_eq_getElem hj)
  injection hA with hA
  injection hA with e1 e2
  subst e1 e2
  rw [hc, List.getD_eq_getElem?_getD, List.getElem?_eq_getElem hj]
  rfl
theorem rdi_some {w : World} {A : Option Addr} {n : Nat} {xs : List Int} (h : RdI .i64 w A n xs) (hn : 0 < n) : ∃ b o, A = some ⟨b, o, none⟩ := by
  obtain ⟨b, o, hA, _⟩ := h.2 0 _ (List.getElem?_eq_getElem (by rw [h.1]; exact hn))
  exact ⟨b, o, hA⟩
/-- Where a number stands in a sorted list. -/
theorem search_any (A : Option Addr) (n c : Nat) (zs : List Int) (x : Int) (w : World) (hn : n ≤ 100000) (h0 : 0 < n) (hx : RdI .i64 w A n zs) (hs : zs.Pairwise (· ≤ ·)) :
    Calls Try.prog 49 #[.slice A n c, .int .i64 x] w fun e w' => e = .returned (.tuple #[.int .i64 (zs.countP (· < x) : Nat), .bool (zs.contains x)]) ∧ ∃ q, w' = w.drewN q := by
  obtain ⟨b, o, rfl⟩ := rdi_some hx h0
  have hl := hx.1
  have h := Any.slices_BinarySearch_int srchI b o n c zs x w (by omega) (by omega) (rdi_cells hx) (by rw [List.take_of_length_le (by omega)]; exact hs)
  refine Calls.mono (show Calls Try.prog 49 _ _ _ from h) ?_
  rw [List.take_of_length_le (by omega)]
  exact fun e w' h => h
end Go.Proofs.Ytpkbpeeelpgmcaa

namespace Go.Proofs.Ytpkbpeeelpgmcaa
open Go.RowKit Go.Kq Go.Flow

def bitR (b v : Nat) : Bool := b.testBit v
theorem wraps_i64 (n : Int) (h₀ : 0 ≤ n) (h₁ : n < 2 ^ 63) : IntKind.i64.wrap n = n := by rw [IntKind.wrap_i64]; omega
theorem bit_is (b k : Nat) (hb : b < 2 ^ 20) : bits .and .i64 ((b : Int) / 2 ^ k) 1 = (b : Int) / 2 ^ k % 2 := by
  have h0 : ((b : Int) / 2 ^ k) = ((b / 2 ^ k : Nat) : Int) := by simp
  have hlt : b / 2 ^ k < 2 ^ 20 := Nat.lt_of_le_of_lt (Nat.div_le_self _ _) hb
  rw [h0]
  generalize b / 2 ^ k = c at hlt ⊢
  have h := bits_mask .i64 63 (by decide) wraps_i64 1 (by decide) (c : Int) (by omega) (by omega)
  have e1 : ((2 : Int) ^ 1 - 1) = 1 := by decide
  rw [e1] at h
  rw [h]
  simp
theorem bit_eq (b k : Nat) : ((b : Int) / 2 ^ k % 2 == 1) = bitR b k := by
  have h0 : ((b : Int) / 2 ^ k) = ((b / 2 ^ k : Nat) : Int) := by simp
  unfold bitR
  rw [Nat.testBit_eq_decide_div_mod_eq, h0]
  generalize b / 2 ^ k = c
  rw [Bool.eq_iff_iff, beq_iff_eq, decide_eq_true_eq]
  omega
end Go.Proofs.Ytpkbpeeelpgmcaa
