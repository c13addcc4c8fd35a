/- Chapter 24: the library's functions at this dump, as their contracts want them (printed by lay.py). · A row that the call owns, handed to the library's sort and taken back: elements of one cell or more. No program in sight. -/
import Derived.Shelf.Lays
import Derived.Shelf.Lays2
import Derived.Ground.NamesProg
import Derived.Ground.Names2Prog
import Derived.Shelf.SlGeneric
import Derived.Test.YtakgcnjpmpcekaaProg
import Derived.Shelf.GgSortFunc.Insertion
import Derived.Shelf.GgSortFunc.InsertionK
import Derived.Shelf.Sort.Plain
import Derived.Test.YtakgcnjpmpcekaaXFlAM
namespace Go.Proofs.Ytakgcnjpmpcekaa
open Go.Shelf
def sortOI_ren : Go.Shelf.Ren := ⟨fun | 189 => 78 | 125 => 88 | 257 => 87 | 128 => 99 | 129 => 100 | 294 => 91 | 295 => 92 | 296 => 93 | 297 => 94 | 298 => 95 | 299 => 96 | 216 => 80 | 300 => 97 | 301 => 98 | 328 => 102 | 329 => 103 | 330 => 104 | 331 => 105 | 332 => 106 | 215 => 89 | 343 => 107 | n => n, fun | 28 => 22 | 3 => 3 | 46 => 121 | 0 => 0 | 51 => 142 | 53 => 115 | 4 => 4 | 183 => 136 | 182 => 135 | 131 => 110 | 5 => 5 | 9 => 9 | 218 => 146 | 222 => 150 | 228 => 152 | 229 => 100 | n => n, fun | n => n⟩
theorem sortOI : Go.Proofs.Lays.n189 Try.prog sortOI_ren := {
  mixed := by kernel_rfl
  f125 := Try.func88.trans (congrArg some (by kernel_rfl))
  f128 := Try.func99.trans (congrArg some (by kernel_rfl))
  f129 := Try.func100.trans (congrArg some (by kernel_rfl))
  f189 := Try.func78.trans (congrArg some (by kernel_rfl))
  f215 := Try.func89.trans (congrArg some (by kernel_rfl))
  f216 := Try.func80.trans (congrArg some (by kernel_rfl))
  f257 := Try.func87.trans (congrArg some (by kernel_rfl))
  f294 := Try.func91.trans (congrArg some (by kernel_rfl))
  f295 := Try.func92.trans (congrArg some (by kernel_rfl))
  f296 := Try.func93.trans (congrArg some (by kernel_rfl))
  f297 := Try.func94.trans (congrArg some (by kernel_rfl))
  f298 := Try.func95.trans (congrArg some (by kernel_rfl))
  f299 := Try.func96.trans (congrArg some (by kernel_rfl))
  f300 := Try.func97.trans (congrArg some (by kernel_rfl))
  f301 := Try.func98.trans (congrArg some (by kernel_rfl))
  f328 := Try.func102.trans (congrArg some (by kernel_rfl))
  f329 := Try.func103.trans (congrArg some (by kernel_rfl))
  f330 := Try.func104.trans (congrArg some (by kernel_rfl))
  f331 := Try.func105.trans (congrArg some (by kernel_rfl))
  f332 := Try.func106.trans (congrArg some (by kernel_rfl))
  f343 := Try.func107.trans (congrArg some (by kernel_rfl))
  t0 := Try.underlying0
  a0 := Try.isAgg0
  z0 := Try.sizeOf0
  v0 := Try.zeroValue0
  t3 := Try.underlying3
  a3 := Try.isAgg3
  z3 := Try.sizeOf3
  v3 := Try.zeroValue3
  t4 := Try.underlying4
  a4 := Try.isAgg4
  z4 := Try.sizeOf4
  v4 := Try.zeroValue4
  t5 := Try.underlying5
  a5 := Try.isAgg5
  z5 := Try.sizeOf5
  v5 := Try.zeroValue5
  t9 := Try.underlying9
  a9 := Try.isAgg9
  z9 := Try.sizeOf9
  v9 := Try.zeroValue9
  t28 := Try.underlying22
  a28 := Try.isAgg22
  z28 := Try.sizeOf22
  v28 := Try.zeroValue22
  t46 := Try.underlying121
  a46 := Try.isAgg121
  z46 := Try.sizeOf121
  v46 := Try.zeroValue121
  t51 := Try.underlying142
  a51 := Try.isAgg142
  z51 := Try.sizeOf142
  v51 := Try.zeroValue142
  t53 := Try.underlying115
  a53 := Try.isAgg115
  z53 := Try.sizeOf115
  v53 := Try.zeroValue115
  t131 := Try.underlying110
  a131 := Try.isAgg110
  z131 := Try.sizeOf110
  v131 := Try.zeroValue110
  t182 := Try.underlying135
  a182 := Try.isAgg135
  z182 := Try.sizeOf135
  v182 := Try.zeroValue135
  t183 := Try.underlying136
  a183 := Try.isAgg136
  z183 := Try.sizeOf136
  v183 := Try.zeroValue136
  t218 := Try.underlying146
  a218 := Try.isAgg146
  z218 := Try.sizeOf146
  v218 := Try.zeroValue146
  t222 := Try.underlying150
  a222 := Try.isAgg150
  z222 := Try.sizeOf150
  v222 := Try.zeroValue150
  t228 := Try.underlying152
  a228 := Try.isAgg152
  z228 := Try.sizeOf152
  v228 := Try.zeroValue152
  t229 := Try.underlying100
  a229 := Try.isAgg100
  z229 := Try.sizeOf100
  v229 := Try.zeroValue100 }
def revI_ren : Go.Shelf.Ren := ⟨fun | 112 => 51 | n => n, fun | 28 => 22 | 3 => 3 | 4 => 4 | 0 => 0 | n => n, fun | n => n⟩
theorem revI : Go.Proofs.Lays.n112 Try.prog revI_ren := {
  mixed := by kernel_rfl
  f112 := Try.func51.trans (congrArg some (by kernel_rfl))
  t0 := Try.underlying0
  a0 := Try.isAgg0
  z0 := Try.sizeOf0
  v0 := Try.zeroValue0
  t3 := Try.underlying3
  a3 := Try.isAgg3
  z3 := Try.sizeOf3
  v3 := Try.zeroValue3
  t4 := Try.underlying4
  a4 := Try.isAgg4
  z4 := Try.sizeOf4
  v4 := Try.zeroValue4
  t28 := Try.underlying22
  a28 := Try.isAgg22
  z28 := Try.sizeOf22
  v28 := Try.zeroValue22 }
def eqI_ren : Go.Shelf.Ren := ⟨fun | 111 => 52 | n => n, fun | 28 => 22 | 3 => 3 | 4 => 4 | 0 => 0 | n => n, fun | n => n⟩
theorem eqI : Go.Proofs.Lays.n111 Try.prog eqI_ren := {
  mixed := by kernel_rfl
  f111 := Try.func52.trans (congrArg some (by kernel_rfl))
  t0 := Try.underlying0
  a0 := Try.isAgg0
  z0 := Try.sizeOf0
  v0 := Try.zeroValue0
  t3 := Try.underlying3
  a3 := Try.isAgg3
  z3 := Try.sizeOf3
  v3 := Try.zeroValue3
  t4 := Try.underlying4
  a4 := Try.isAgg4
  z4 := Try.sizeOf4
  v4 := Try.zeroValue4
  t28 := Try.underlying22
  a28 := Try.isAgg22
  z28 := Try.sizeOf22
  v28 := Try.zeroValue22 }
def compI_ren : Go.Shelf.Ren := ⟨fun | 20 => 66 | n => n, fun | 22 => 22 | 3 => 3 | 4 => 4 | 0 => 0 | n => n, fun | n => n⟩
theorem compI : Go.Proofs.Lays2.n20 Try.prog compI_ren := {
  mixed := by kernel_rfl
  f20 := Try.func66.trans (congrArg some (by kernel_rfl))
  t0 := Try.underlying0
  a0 := Try.isAgg0
  z0 := Try.sizeOf0
  v0 := Try.zeroValue0
  t3 := Try.underlying3
  a3 := Try.isAgg3
  z3 := Try.sizeOf3
  v3 := Try.zeroValue3
  t4 := Try.underlying4
  a4 := Try.isAgg4
  z4 := Try.sizeOf4
  v4 := Try.zeroValue4
  t22 := Try.underlying22
  a22 := Try.isAgg22
  z22 := Try.sizeOf22
  v22 := Try.zeroValue22
  i3 := by kernel_rfl }
def srchI_ren : Go.Shelf.Ren := ⟨fun | 25 => 69 | 31 => 80 | 32 => 81 | 37 => 89 | n => n, fun | 22 => 22 | 3 => 3 | 4 => 4 | 40 => 121 | 0 => 0 | n => n, fun | n => n⟩
theorem srchI : Go.Proofs.Lays2.n25 Try.prog srchI_ren := {
  mixed := by kernel_rfl
  f25 := Try.func69.trans (congrArg some (by kernel_rfl))
  f31 := Try.func80.trans (congrArg some (by kernel_rfl))
  f32 := Try.func81.trans (congrArg some (by kernel_rfl))
  f37 := Try.func89.trans (congrArg some (by kernel_rfl))
  t0 := Try.underlying0
  a0 := Try.isAgg0
  z0 := Try.sizeOf0
  v0 := Try.zeroValue0
  t3 := Try.underlying3
  a3 := Try.isAgg3
  z3 := Try.sizeOf3
  v3 := Try.zeroValue3
  t4 := Try.underlying4
  a4 := Try.isAgg4
  z4 := Try.sizeOf4
  v4 := Try.zeroValue4
  t22 := Try.underlying22
  a22 := Try.isAgg22
  z22 := Try.sizeOf22
  v22 := Try.zeroValue22
  t40 := Try.underlying121
  a40 := Try.isAgg121
  z40 := Try.sizeOf121
  v40 := Try.zeroValue121 }
end Go.Proofs.Ytakgcnjpmpcekaa

namespace Go.Kq
open Go.RowKit Go.Sort Go.Proofs

/-! ### rows of one cell -/
section
variable {α : Type} [Inhabited α] {f : α → Value} {w : World} {base e n cap g m : Nat} {os : Array Obj} {vs ts : List α}
theorem own_holds (h : w.ownsRow base e 1 (.slice (some ⟨g, 0, none⟩) n cap) n (vs.map f)) : Holds f w g 0 vs.toArray := by
  intro j hj
  have hj' : j < vs.length := by simpa using hj
  rw [Nat.zero_add]
  refine ⟨own_cell h (j := j) ?_, own_free h j⟩
  rw [List.getElem?_map, List.getElem?_eq_getElem hj']
  simp [hj']
theorem heap_sorted1 {cur : Array Value} {fr : Nat × Nat} (d : Array α) (hb : w.heap[g]? = some (.cells cur e fr)) : (sortWorld f w g 0 m d os).heap[g]? = some (.cells (putCells f 0 d cur) e fr) := by
  have hg : g < w.heap.size := (Array.getElem?_eq_some_iff.1 hb).1
  unfold sortWorld
  rw [heap_grow_old _ _ (by simpa using hg)]
  simp [putRow, mapBlock, Sort.ahead, Array.getElem?_modify, hb, onCells]
theorem kp_sorted1 (d : Array α) : Kp (One g) w (sortWorld f w g 0 m d os) := by
  refine ⟨rfl, rfl, rfl, by simp [sortWorld], fun k hk hne => ?_⟩
  unfold sortWorld
  rw [heap_grow_old _ _ (by simpa using hk)]
  have : g ≠ k := fun e => hne e.symm
  simp [putRow, mapBlock, Sort.ahead, Array.getElem?_modify, this]
theorem take_put1 (cur : Array Value) (ts : List α) (h : ts.length ≤ cur.size) : (putCells f 0 ts.toArray cur).toList.take ts.length = ts.map f := by
  apply List.ext_getElem?
  intro j
  by_cases hj : j < ts.length
  · rw [List.getElem?_take_of_lt hj, Array.getElem?_toList]
    simp [putCells, hj, show j < cur.size by omega]
  · rw [List.getElem?_take_eq_none (by omega), List.getElem?_eq_none (by simp; omega)]
theorem own_sorted1 (h : w.ownsRow base e 1 (.slice (some ⟨g, 0, none⟩) n cap) n (vs.map f)) (hl : ts.length = vs.length) : (sortWorld f w g 0 m ts.toArray os).ownsRow base e 1 (.slice (some ⟨g, 0, none⟩) n cap) n (ts.map f) := by
  have hn : vs.length = n := by have := h.1; simpa using this
  rcases h.2 with ⟨h0, _⟩ | ⟨g', cap', cur, hv, hb, hg, h1, h2, h3, _⟩
  · cases h0
  · cases hv
    exact ⟨by simp; omega, .inr ⟨g, cap, _, rfl, hb, heap_sorted1 _ hg, h1, h2, by simp [putCells, h3], by
      rw [Nat.mul_one, show n = ts.length by omega]
      exact take_put1 cur ts (by omega)⟩⟩
end

/-! ### rows of k cells -/
section
variable {α : Type} [Inhabited α] {f : α → List Value} {k : Nat} {w : World} {base e n cap g m : Nat} {os : Array Obj} {vs ts : List α}
theorem flatK_eq (hk : ∀ x, (f x).length = k) (vs : List α) : flatK f k vs.toArray = (vs.flatMap f).toArray := by
  rcases Nat.eq_zero_or_pos k with h0 | h0
  · subst h0
    have : vs.flatMap f = [] := by
      rw [← List.length_eq_zero_iff, flat_len hk]
      omega
    rw [this]
    simp [flatK]
  refine ext_get! (by simp [flat_len hk]) fun t ht => ?_
  rw [size_flatK] at ht
  have ht' : t < vs.length * k := by simpa using ht
  rw [get_flatK _ _ _ _ (by simpa using ht')]
  have hd : t / k < vs.length := Nat.div_lt_of_lt_mul (by rw [Nat.mul_comm]; exact ht')
  have hm : t % k < (f vs[t / k]).length := by rw [hk]; exact Nat.mod_lt _ h0
  have := flat_at hk vs (t / k) vs[t / k] (t % k) (f vs[t / k])[t % k] (List.getElem?_eq_getElem hd) (List.getElem?_eq_getElem hm)
  rw [Nat.div_add_mod'] at this
  have e1 : (vs.flatMap f).toArray[t]! = (f vs[t / k])[t % k] := by
    rw [Array.getElem!_eq_getD, Array.getD_eq_getD_getElem?, List.getElem?_toArray, this]
    rfl
  rw [e1]
  have e2 : vs.toArray[t / k]! = vs[t / k] := by simp [hd]
  rw [e2]
  exact getElem!_pos (f vs[t / k]) (t % k) hm
theorem own_holdsK (hk : ∀ x, (f x).length = k) (h : w.ownsRow base e k (.slice (some ⟨g, 0, none⟩) n cap) n (vs.flatMap f)) : HoldsK f k w g 0 vs.toArray := by
  unfold HoldsK
  rw [flatK_eq hk]
  intro j hj
  have hj' : j < (vs.flatMap f).length := by simpa using hj
  rw [Nat.zero_add]
  refine ⟨own_cell h (j := j) ?_, own_free h j⟩
  rw [getElem!_pos (vs.flatMap f).toArray j hj]
  exact List.getElem?_eq_getElem hj'
theorem sortWorldK_eq (hk : ∀ x, (f x).length = k) : sortWorldK f k w g 0 m ts.toArray os = sortWorld id w g 0 m (ts.flatMap f).toArray os := by
  unfold sortWorldK putRowK sortWorld
  rw [flatK_eq hk]
theorem kp_sortedK (hk : ∀ x, (f x).length = k) (ts : List α) : Kp (One g) w (sortWorldK f k w g 0 m ts.toArray os) := by
  rw [sortWorldK_eq hk]
  exact kp_sorted1 _
theorem take_put_id (cur : Array Value) (us : List Value) (h : us.length ≤ cur.size) : (putCells id 0 us.toArray cur).toList.take us.length = us := by
  have := take_put1 (f := id) cur us h
  simpa using this
theorem own_sortedK (hk : ∀ x, (f x).length = k) (h : w.ownsRow base e k (.slice (some ⟨g, 0, none⟩) n cap) n (vs.flatMap f)) (hl : ts.length = vs.length) : (sortWorldK f k w g 0 m ts.toArray os).ownsRow base e k (.slice (some ⟨g, 0, none⟩) n cap) n (ts.flatMap f) := by
  rw [sortWorldK_eq hk]
  have hn : (vs.flatMap f).length = n * k := h.1
  have hts : (ts.flatMap f).length = n * k := by rw [flat_len hk, hl, ← flat_len hk, hn]
  rcases h.2 with ⟨h0, _⟩ | ⟨g', cap', cur, hv, hb, hg, h1, h2, h3, _⟩
  · cases h0
  · cases hv
    exact ⟨hts, .inr ⟨g, cap, _, rfl, hb, heap_sorted1 _ hg, h1, h2, by simp [putCells, h3], by
      rw [← hts]
      exact take_put_id cur _ (by rw [hts, h3]; exact Nat.mul_le_mul_right _ h1)⟩⟩
end

/-- A list that is sorted and has what another one has. -/
theorem perm_of_permIn {α : Type} [Inhabited α] {l : List α} {d : Array α} (h : PermIn 0 l.toArray.size l.toArray d) : d.toList.Perm l := by
  obtain ⟨h1, _, h3⟩ := h
  rw [show d.extract 0 l.toArray.size = d by rw [← h1]; exact Array.extract_size, Array.extract_size] at h3
  simpa using h3
theorem pairwise_of_sortedIn {α : Type} [Inhabited α] {lt : α → α → Bool} {d : Array α} {n : Nat} (hn : d.size = n) (h : SortedIn lt 0 n d) : d.toList.Pairwise fun x y => lt y x = false := by
  rw [List.pairwise_iff_getElem]
  intro i j hi hj hij
  have := h i j (Nat.zero_le _) hij (by simpa [hn] using hj)
  rw [getElem!_pos d i (by simpa using hi), getElem!_pos d j (by simpa using hj)] at this
  simpa using this
end Go.Kq
