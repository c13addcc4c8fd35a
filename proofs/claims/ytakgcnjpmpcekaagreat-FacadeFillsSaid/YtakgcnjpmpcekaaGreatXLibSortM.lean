/- Chapter 24: the library's functions at this dump, as their contracts want them (printed by lay.py). · A row that the call owns, handed to the library's sort and taken back: elements of one cell or more. No program in sight. -/
import Derived.Shelf.Lays
import Derived.Shelf.Lays2
import Derived.Ground.NamesProg
import Derived.Ground.Names2Prog
import Derived.Shelf.SlGeneric
import Derived.Test.YtakgcnjpmpcekaaGreatProg
import Derived.Shelf.GgSortFunc.Insertion
import Derived.Shelf.GgSortFunc.InsertionK
import Derived.Shelf.Sort.Plain
import Derived.Test.YtakgcnjpmpcekaaGreatXFlAM
namespace Go.Proofs.YtakgcnjpmpcekaaGreat
open Go.Shelf
def sortOI_ren : Go.Shelf.Ren := ⟨fun | 189 => 75 | 125 => 90 | 257 => 89 | 128 => 108 | 129 => 109 | 294 => 100 | 295 => 101 | 296 => 102 | 297 => 103 | 298 => 104 | 299 => 105 | 216 => 77 | 300 => 106 | 301 => 107 | 328 => 110 | 329 => 111 | 330 => 112 | 331 => 113 | 332 => 114 | 215 => 91 | 343 => 115 | n => n, fun | 28 => 36 | 3 => 3 | 46 => 128 | 0 => 0 | 51 => 134 | 53 => 81 | 4 => 4 | 183 => 156 | 182 => 155 | 131 => 108 | 5 => 5 | 9 => 9 | 218 => 162 | 222 => 166 | 228 => 168 | 229 => 99 | n => n, fun | n => n⟩
theorem sortOI : Go.Proofs.Lays.n189 Tryz.prog sortOI_ren := {
  mixed := by kernel_rfl
  f125 := Tryz.func90.trans (congrArg some (by kernel_rfl))
  f128 := Tryz.func108.trans (congrArg some (by kernel_rfl))
  f129 := Tryz.func109.trans (congrArg some (by kernel_rfl))
  f189 := Tryz.func75.trans (congrArg some (by kernel_rfl))
  f215 := Tryz.func91.trans (congrArg some (by kernel_rfl))
  f216 := Tryz.func77.trans (congrArg some (by kernel_rfl))
  f257 := Tryz.func89.trans (congrArg some (by kernel_rfl))
  f294 := Tryz.func100.trans (congrArg some (by kernel_rfl))
  f295 := Tryz.func101.trans (congrArg some (by kernel_rfl))
  f296 := Tryz.func102.trans (congrArg some (by kernel_rfl))
  f297 := Tryz.func103.trans (congrArg some (by kernel_rfl))
  f298 := Tryz.func104.trans (congrArg some (by kernel_rfl))
  f299 := Tryz.func105.trans (congrArg some (by kernel_rfl))
  f300 := Tryz.func106.trans (congrArg some (by kernel_rfl))
  f301 := Tryz.func107.trans (congrArg some (by kernel_rfl))
  f328 := Tryz.func110.trans (congrArg some (by kernel_rfl))
  f329 := Tryz.func111.trans (congrArg some (by kernel_rfl))
  f330 := Tryz.func112.trans (congrArg some (by kernel_rfl))
  f331 := Tryz.func113.trans (congrArg some (by kernel_rfl))
  f332 := Tryz.func114.trans (congrArg some (by kernel_rfl))
  f343 := Tryz.func115.trans (congrArg some (by kernel_rfl))
  t0 := Tryz.underlying0
  a0 := Tryz.isAgg0
  z0 := Tryz.sizeOf0
  v0 := Tryz.zeroValue0
  t3 := Tryz.underlying3
  a3 := Tryz.isAgg3
  z3 := Tryz.sizeOf3
  v3 := Tryz.zeroValue3
  t4 := Tryz.underlying4
  a4 := Tryz.isAgg4
  z4 := Tryz.sizeOf4
  v4 := Tryz.zeroValue4
  t5 := Tryz.underlying5
  a5 := Tryz.isAgg5
  z5 := Tryz.sizeOf5
  v5 := Tryz.zeroValue5
  t9 := Tryz.underlying9
  a9 := Tryz.isAgg9
  z9 := Tryz.sizeOf9
  v9 := Tryz.zeroValue9
  t28 := Tryz.underlying36
  a28 := Tryz.isAgg36
  z28 := Tryz.sizeOf36
  v28 := Tryz.zeroValue36
  t46 := Tryz.underlying128
  a46 := Tryz.isAgg128
  z46 := Tryz.sizeOf128
  v46 := Tryz.zeroValue128
  t51 := Tryz.underlying134
  a51 := Tryz.isAgg134
  z51 := Tryz.sizeOf134
  v51 := Tryz.zeroValue134
  t53 := Tryz.underlying81
  a53 := Tryz.isAgg81
  z53 := Tryz.sizeOf81
  v53 := Tryz.zeroValue81
  t131 := Tryz.underlying108
  a131 := Tryz.isAgg108
  z131 := Tryz.sizeOf108
  v131 := Tryz.zeroValue108
  t182 := Tryz.underlying155
  a182 := Tryz.isAgg155
  z182 := Tryz.sizeOf155
  v182 := Tryz.zeroValue155
  t183 := Tryz.underlying156
  a183 := Tryz.isAgg156
  z183 := Tryz.sizeOf156
  v183 := Tryz.zeroValue156
  t218 := Tryz.underlying162
  a218 := Tryz.isAgg162
  z218 := Tryz.sizeOf162
  v218 := Tryz.zeroValue162
  t222 := Tryz.underlying166
  a222 := Tryz.isAgg166
  z222 := Tryz.sizeOf166
  v222 := Tryz.zeroValue166
  t228 := Tryz.underlying168
  a228 := Tryz.isAgg168
  z228 := Tryz.sizeOf168
  v228 := Tryz.zeroValue168
  t229 := Tryz.underlying99
  a229 := Tryz.isAgg99
  z229 := Tryz.sizeOf99
  v229 := Tryz.zeroValue99 }
def revI_ren : Go.Shelf.Ren := ⟨fun | 112 => 36 | n => n, fun | 28 => 36 | 3 => 3 | 4 => 4 | 0 => 0 | n => n, fun | n => n⟩
theorem revI : Go.Proofs.Lays.n112 Tryz.prog revI_ren := {
  mixed := by kernel_rfl
  f112 := Tryz.func36.trans (congrArg some (by kernel_rfl))
  t0 := Tryz.underlying0
  a0 := Tryz.isAgg0
  z0 := Tryz.sizeOf0
  v0 := Tryz.zeroValue0
  t3 := Tryz.underlying3
  a3 := Tryz.isAgg3
  z3 := Tryz.sizeOf3
  v3 := Tryz.zeroValue3
  t4 := Tryz.underlying4
  a4 := Tryz.isAgg4
  z4 := Tryz.sizeOf4
  v4 := Tryz.zeroValue4
  t28 := Tryz.underlying36
  a28 := Tryz.isAgg36
  z28 := Tryz.sizeOf36
  v28 := Tryz.zeroValue36 }
def eqI_ren : Go.Shelf.Ren := ⟨fun | 111 => 37 | n => n, fun | 28 => 36 | 3 => 3 | 4 => 4 | 0 => 0 | n => n, fun | n => n⟩
theorem eqI : Go.Proofs.Lays.n111 Tryz.prog eqI_ren := {
  mixed := by kernel_rfl
  f111 := Tryz.func37.trans (congrArg some (by kernel_rfl))
  t0 := Tryz.underlying0
  a0 := Tryz.isAgg0
  z0 := Tryz.sizeOf0
  v0 := Tryz.zeroValue0
  t3 := Tryz.underlying3
  a3 := Tryz.isAgg3
  z3 := Tryz.sizeOf3
  v3 := Tryz.zeroValue3
  t4 := Tryz.underlying4
  a4 := Tryz.isAgg4
  z4 := Tryz.sizeOf4
  v4 := Tryz.zeroValue4
  t28 := Tryz.underlying36
  a28 := Tryz.isAgg36
  z28 := Tryz.sizeOf36
  v28 := Tryz.zeroValue36 }
def compI_ren : Go.Shelf.Ren := ⟨fun | 20 => 54 | n => n, fun | 22 => 36 | 3 => 3 | 4 => 4 | 0 => 0 | n => n, fun | n => n⟩
theorem compI : Go.Proofs.Lays2.n20 Tryz.prog compI_ren := {
  mixed := by kernel_rfl
  f20 := Tryz.func54.trans (congrArg some (by kernel_rfl))
  t0 := Tryz.underlying0
  a0 := Tryz.isAgg0
  z0 := Tryz.sizeOf0
  v0 := Tryz.zeroValue0
  t3 := Tryz.underlying3
  a3 := Tryz.isAgg3
  z3 := Tryz.sizeOf3
  v3 := Tryz.zeroValue3
  t4 := Tryz.underlying4
  a4 := Tryz.isAgg4
  z4 := Tryz.sizeOf4
  v4 := Tryz.zeroValue4
  t22 := Tryz.underlying36
  a22 := Tryz.isAgg36
  z22 := Tryz.sizeOf36
  v22 := Tryz.zeroValue36
  i3 := by kernel_rfl }
def srchI_ren : Go.Shelf.Ren := ⟨fun | 25 => 57 | 31 => 77 | 32 => 78 | 37 => 91 | n => n, fun | 22 => 36 | 3 => 3 | 4 => 4 | 40 => 128 | 0 => 0 | n => n, fun | n => n⟩
theorem srchI : Go.Proofs.Lays2.n25 Tryz.prog srchI_ren := {
  mixed := by kernel_rfl
  f25 := Tryz.func57.trans (congrArg some (by kernel_rfl))
  f31 := Tryz.func77.trans (congrArg some (by kernel_rfl))
  f32 := Tryz.func78.trans (congrArg some (by kernel_rfl))
  f37 := Tryz.func91.trans (congrArg some (by kernel_rfl))
  t0 := Tryz.underlying0
  a0 := Tryz.isAgg0
  z0 := Tryz.sizeOf0
  v0 := Tryz.zeroValue0
  t3 := Tryz.underlying3
  a3 := Tryz.isAgg3
  z3 := Tryz.sizeOf3
  v3 := Tryz.zeroValue3
  t4 := Tryz.underlying4
  a4 := Tryz.isAgg4
  z4 := Tryz.sizeOf4
  v4 := Tryz.zeroValue4
  t22 := Tryz.underlying36
  a22 := Tryz.isAgg36
  z22 := Tryz.sizeOf36
  v22 := Tryz.zeroValue36
  t40 := Tryz.underlying128
  a40 := Tryz.isAgg128
  z40 := Tryz.sizeOf128
  v40 := Tryz.zeroValue128 }
end Go.Proofs.YtakgcnjpmpcekaaGreat

namespace Go.Kq
open Go.RowKit Go.Sort Go.Proofs

/-! ### rows of one cell -/
section
variable {α : Type} [Inhabited α] {f : α → Value} {w : World} {base e n cap g m : Nat} {os : Array Obj} {vs ts : List α}
theorem own_holds (h : w.ownsRow base e 1 (.slice (some ⟨g, 0, none⟩) n cap) n (vs.map f)) : Holds f w g 0 vs.toArray := by
  intro j hj
  have hj' : j < vs.length := by simpa using hj
  rw [Nat.zero_add]
  refine ⟨own_cell h (j := j) ?_, own_free h j⟩
  rw [List.getElem?_map, List.getElem?_eq_getElem hj']
  simp [hj']
theorem heap_sorted1 {cur : Array Value} {fr : Nat × Nat} (d : Array α) (hb : w.heap[g]? = some (.cells cur e fr)) : (sortWorld f w g 0 m d os).heap[g]? = some (.cells (putCells f 0 d cur) e fr) := by
  have hg : g < w.heap.size := (Array.getElem?_eq_some_iff.1 hb).1
  unfold sortWorld
  rw [heap_grow_old _ _ (by simpa using hg)]
  simp [putRow, mapBlock, Sort.ahead, Array.getElem?_modify, hb, onCells]
theorem kp_sorted1 (d : Array α) : Kp (One g) w (sortWorld f w g 0 m d os) := by
  refine ⟨rfl, rfl, rfl, by simp [sortWorld], fun k hk hne => ?_⟩
  unfold sortWorld
  rw [heap_grow_old _ _ (by simpa using hk)]
  have : g ≠ k := fun e => hne e.symm
  simp [putRow, mapBlock, Sort.ahead, Array.getElem?_modify, this]
theorem take_put1 (cur : Array Value) (ts : List α) (h : ts.length ≤ cur.size) : (putCells f 0 ts.toArray cur).toList.take ts.length = ts.map f := by
  apply List.ext_getElem?
  intro j
  by_cases hj : j < ts.length
  · rw [List.getElem?_take_of_lt hj, Array.getElem?_toList]
    simp [putCells, hj, show j < cur.size by omega]
  · rw [List.getElem?_take_eq_none (by omega), List.getElem?_eq_none (by simp; omega)]
theorem own_sorted1 (h : w.ownsRow base e 1 (.slice (some ⟨g, 0, none⟩) n cap) n (vs.map f)) (hl : ts.length = vs.length) : (sortWorld f w g 0 m ts.toArray os).ownsRow base e 1 (.slice (some ⟨g, 0, none⟩) n cap) n (ts.map f) := by
  have hn : vs.length = n := by have := h.1; simpa using this
  rcases h.2 with ⟨h0, _⟩ | ⟨g', cap', cur, hv, hb, hg, h1, h2, h3, _⟩
  · cases h0
  · cases hv
    exact ⟨by simp; omega, .inr ⟨g, cap, _, rfl, hb, heap_sorted1 _ hg, h1, h2, by simp [putCells, h3], by
      rw [Nat.mul_one, show n = ts.length by omega]
      exact take_put1 cur ts (by omega)⟩⟩
end

/-! ### rows of k cells -/
section
variable {α : Type} [Inhabited α] {f : α → List Value} {k : Nat} {w : World} {base e n cap g m : Nat} {os : Array Obj} {vs ts : List α}
theorem flatK_eq (hk : ∀ x, (f x).length = k) (vs : List α) : flatK f k vs.toArray = (vs.flatMap f).toArray := by
  rcases Nat.eq_zero_or_pos k with h0 | h0
  · subst h0
    have : vs.flatMap f = [] := by
      rw [← List.length_eq_zero_iff, flat_len hk]
      omega
    rw [this]
    simp [flatK]
  refine ext_get! (by simp [flat_len hk]) fun t ht => ?_
  rw [size_flatK] at ht
  have ht' : t < vs.length * k := by simpa using ht
  rw [get_flatK _ _ _ _ (by simpa using ht')]
  have hd : t / k < vs.length := Nat.div_lt_of_lt_mul (by rw [Nat.mul_comm]; exact ht')
  have hm : t % k < (f vs[t / k]).length := by rw [hk]; exact Nat.mod_lt _ h0
  have := flat_at hk vs (t / k) vs[t / k] (t % k) (f vs[t / k])[t % k] (List.getElem?_eq_getElem hd) (List.getElem?_eq_getElem hm)
  rw [Nat.div_add_mod'] at this
  have e1 : (vs.flatMap f).toArray[t]! = (f vs[t / k])[t % k] := by
    rw [Array.getElem!_eq_getD, Array.getD_eq_getD_getElem?, List.getElem?_toArray, this]
    rfl
  rw [e1]
  have e2 : vs.toArray[t / k]! = vs[t / k] := by simp [hd]
  rw [e2]
  exact getElem!_pos (f vs[t / k]) (t % k) hm
theorem own_holdsK (hk : ∀ x, (f x).length = k) (h : w.ownsRow base e k (.slice (some ⟨g, 0, none⟩) n cap) n (vs.flatMap f)) : HoldsK f k w g 0 vs.toArray := by
  unfold HoldsK
  rw [flatK_eq hk]
  intro j hj
  have hj' : j < (vs.flatMap f).length := by simpa using hj
  rw [Nat.zero_add]
  refine ⟨own_cell h (j := j) ?_, own_free h j⟩
  rw [getElem!_pos (vs.flatMap f).toArray j hj]
  exact List.getElem?_eq_getElem hj'
theorem sortWorldK_eq (hk : ∀ x, (f x).length = k) : sortWorldK f k w g 0 m ts.toArray os = sortWorld id w g 0 m (ts.flatMap f).toArray os := by
  unfold sortWorldK putRowK sortWorld
  rw [flatK_eq hk]
theorem kp_sortedK (hk : ∀ x, (f x).length = k) (ts : List α) : Kp (One g) w (sortWorldK f k w g 0 m ts.toArray os) := by
  rw [sortWorldK_eq hk]
  exact kp_sorted1 _
theorem take_put_id (cur : Array Value) (us : List Value) (h : us.length ≤ cur.size) : (putCells id 0 us.toArray cur).toList.take us.length = us := by
  have := take_put1 (f := id) cur us h
  simpa using this
theorem own_sortedK (hk : ∀ x, (f x).length = k) (h : w.ownsRow base e k (.slice (some ⟨g, 0, none⟩) n cap) n (vs.flatMap f)) (hl : ts.length = vs.length) : (sortWorldK f k w g 0 m ts.toArray os).ownsRow base e k (.slice (some ⟨g, 0, none⟩) n cap) n (ts.flatMap f) := by
  rw [sortWorldK_eq hk]
  have hn : (vs.flatMap f).length = n * k := h.1
  have hts : (ts.flatMap f).length = n * k := by rw [flat_len hk, hl, ← flat_len hk, hn]
  rcases h.2 with ⟨h0, _⟩ | ⟨g', cap', cur, hv, hb, hg, h1, h2, h3, _⟩
  · cases h0
  · cases hv
    exact ⟨hts, .inr ⟨g, cap, _, rfl, hb, heap_sorted1 _ hg, h1, h2, by simp [putCells, h3], by
      rw [← hts]
      exact take_put_id cur _ (by rw [hts, h3]; exact Nat.mul_le_mul_right _ h1)⟩⟩
end

/-- A list that is sorted and has what another one has. -/
theorem perm_of_permIn {α : Type} [Inhabited α] {l : List α} {d : Array α} (h : PermIn 0 l.toArray.size l.toArray d) : d.toList.Perm l := by
  obtain ⟨h1, _, h3⟩ := h
  rw [show d.extract 0 l.toArray.size = d by rw [← h1]; exact Array.extract_size, Array.extract_size] at h3
  simpa using h3
theorem pairwise_of_sortedIn {α : Type} [Inhabited α] {lt : α → α → Bool} {d : Array α} {n : Nat} (hn : d.size = n) (h : SortedIn lt 0 n d) : d.toList.Pairwise fun x y => lt y x = false := by
  rw [List.pairwise_iff_getElem]
  intro i j hi hj hij
  have := h i j (Nat.zero_le _) hij (by simpa [hn] using hj)
  rw [getElem!_pos d i (by simpa using hi), getElem!_pos d j (by simpa using hj)] at this
  simpa using this
end Go.Kq
