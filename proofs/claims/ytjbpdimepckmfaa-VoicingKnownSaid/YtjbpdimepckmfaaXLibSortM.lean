/- Chapter 27: which works are valid: the program's walk and the reference's. · A row that the call owns, handed to the library's sort and taken back: elements of one cell or more. No program in sight. -/
import Derived.Shelf.SlSortCmp.NoneTotal
import Derived.Test.YtjbpdimepckmfaaXBase
import Derived.Test.YtjbpdimepckmfaaXLibMapWM
namespace Go.Proofs.Ytjbpdimepckmfaa
open Go.RowKit Go.Kq

def eqW (a b : Wk) : Bool := a.wk == b.wk && a.num == b.num && a.ck == b.ck && a.kd == b.kd && a.rk == b.rk && a.nt == b.nt && a.fd == b.fd && a.vl == b.vl && a.ow == b.ow && a.on == b.on && (a.tx.toList == b.tx.toList)
theorem pipe_equal (w : World) (a b c d : Int) : (Op.equalIn 10000 39 (.agg #[.int .i64 a, .int .i64 b]) (.agg #[.int .i64 c, .int .i64 d])).run Try.prog w = .ok (a == c && b == d) w := by
  have hS : Try.prog.underlying 39 = some (.struct (Try.prog.fieldsOf 39)) := by kernel_rfl
  have hp : Try.prog.stoodInHeld 39 = false := by kernel_rfl
  have u3 := Try.underlying3
  rw [show (10000 : Nat) = 9999 + 1 from rfl, run_equalIn_agg w 9999 39 _ _ hS hp]
  simp only [Program.fieldsOf, Try.underlying39]
  go_simp
  by_cases h1 : a = c <;> by_cases h2 : b = d <;> simp [h1, h2]
set_option maxHeartbeats 2000000 in
theorem work_equal (w : World) (a b : Wk) : (Op.equalIn 10000 41 a.val b.val).run Try.prog w = .ok (eqW a b) w := by
  have hS : Try.prog.underlying 41 = some (.struct (Try.prog.fieldsOf 41)) := by kernel_rfl
  have hp : Try.prog.stoodInHeld 41 = false := by kernel_rfl
  have u3 := Try.underlying3
  have u2 := Try.underlying2
  have u9 := Try.underlying9
  obtain ⟨a0, a1, a2, a3, a4, a5, a6, a7, a8, a9, a10⟩ := a
  obtain ⟨b0, b1, b2, b3, b4, b5, b6, b7, b8, b9, b10⟩ := b
  simp only [Wk.val, eqW]
  rw [show (10000 : Nat) = 9999 + 1 from rfl, run_equalIn_agg w 9999 41 _ _ hS hp]
  simp only [Program.fieldsOf, Try.underlying41]
  go_simp
  by_cases h0 : a0 = b0
  rotate_left
  · simp [h0]
  subst h0
  by_cases h1 : a1 = b1
  rotate_left
  · simp [h1]
  subst h1
  by_cases h2 : a2 = b2
  rotate_left
  · simp [h2]
  subst h2
  by_cases h3 : a3 = b3
  rotate_left
  · simp [h3]
  subst h3
  by_cases h4 : a4 = b4
  rotate_left
  · simp [h4]
  subst h4
  by_cases h5 : a5 = b5
  rotate_left
  · simp [h5]
  subst h5
  by_cases h6 : a6 = b6
  rotate_left
  · simp [h6]
  subst h6
  by_cases h7 : a7 = b7
  rotate_left
  · simp [h7]
  subst h7
  by_cases h8 : a8 = b8
  rotate_left
  · simp [h8]
  subst h8
  by_cases h9 : a9 = b9
  rotate_left
  · simp [h9]
  subst h9
  by_cases h : a10.toList = b10.toList <;> simp [h]
theorem bytes_eq {a b : ByteArray} (h : a.toList = b.toList) : a = b := by
  have h1 := beq_toListBytes a b
  rw [h, beq_self_eq_true] at h1
  rcases a with ⟨a⟩
  rcases b with ⟨b⟩
  have h2 : (a == b) = true := h1
  rw [eq_of_beq h2]
theorem eqW_iff (a b : Wk) : eqW a b = true ↔ a = b := by
  obtain ⟨a0, a1, a2, a3, a4, a5, a6, a7, a8, a9, a10⟩ := a
  obtain ⟨b0, b1, b2, b3, b4, b5, b6, b7, b8, b9, b10⟩ := b
  simp only [eqW, Bool.and_eq_true, beq_iff_eq, Wk.mk.injEq]
  constructor
  · rintro ⟨⟨⟨⟨⟨⟨⟨⟨⟨⟨h0, h1⟩, h2⟩, h3⟩, h4⟩, h5⟩, h6⟩, h7⟩, h8⟩, h9⟩, h10⟩
    exact ⟨h0, h1, h2, h3, h4, h5, h6, h7, h8, h9, bytes_eq h10⟩
  · rintro ⟨h0, h1, h2, h3, h4, h5, h6, h7, h8, h9, h10⟩
    exact ⟨⟨⟨⟨⟨⟨⟨⟨⟨⟨h0, h1⟩, h2⟩, h3⟩, h4⟩, h5⟩, h6⟩, h7⟩, h8⟩, h9⟩, by rw [h10]⟩
def noT (s : ByteArray) : Bool := s.toList == ([] : List UInt8)
/-- Which works are valid. -/
def okK (v : Wk) : Bool :=
  if v.kd = 1 ∨ v.kd = 2 then okP v.rk v.nt && decide (0 ≤ v.fd) && decide (v.fd < 8) && decide (-1000000000 ≤ v.vl) && decide (v.vl ≤ 1000000000) && v.ow == 0 && v.on == 0 && noT v.tx
  else if v.kd = 3 then okP v.rk v.nt && v.fd == 0 && v.vl == 0 && v.ow == 0 && v.on == 0 && okT v.tx
  else if v.kd = 4 then v.rk == 0 && v.nt == 0 && v.fd == 0 && v.vl == 0 && okN v.ow v.on && noT v.tx
  else false
def okW (v : Wk) : Bool := okN v.wk v.num && decide (1 ≤ v.ck) && decide (v.ck ≤ 1000000000) && okK v
theorem empty_l : (ByteArray.mk #[]).toList = [] := by kernel_rfl
theorem beq_comm0 (x : Int) : ((0 : Int) == x) = (x == 0) := by rw [Bool.eq_iff_iff]; simp; omega
theorem beq_commL (l : List UInt8) : (([] : List UInt8) == l) = (l == []) := by cases l <;> rfl
theorem okK12 {v : Wk} (h : v.kd = 1 ∨ v.kd = 2) : okK v = (okP v.rk v.nt && decide (0 ≤ v.fd) && decide (v.fd < 8) && decide (-1000000000 ≤ v.vl) && decide (v.vl ≤ 1000000000) && eqW ⟨v.wk, v.num, v.ck, v.kd, v.rk, v.nt, v.fd, v.vl, 0, 0, ⟨#[]⟩⟩ v) := by
  unfold okK eqW noT
  rw [if_pos h, empty_l]
  simp only [beq_self_eq_true, Bool.true_and, Bool.and_assoc, beq_comm0, beq_commL]
theorem okK3 {v : Wk} (h : v.kd = 3) : okK v = (okP v.rk v.nt && okT v.tx && eqW ⟨v.wk, v.num, v.ck, v.kd, v.rk, v.nt, 0, 0, 0, 0, v.tx⟩ v) := by
  unfold okK eqW
  rw [if_neg (by omega), if_pos h]
  simp only [beq_self_eq_true, Bool.true_and, Bool.and_true, beq_comm0]
  cases okT v.tx <;> simp [Bool.and_assoc]
theorem okK4 {v : Wk} (h : v.kd = 4) : okK v = (okN v.ow v.on && eqW ⟨v.wk, v.num, v.ck, v.kd, 0, 0, 0, 0, v.ow, v.on, ⟨#[]⟩⟩ v) := by
  unfold okK eqW noT
  rw [if_neg (by omega), if_neg (by omega), if_pos h, empty_l]
  simp only [beq_self_eq_true, Bool.true_and, Bool.and_true, beq_comm0, beq_commL]
  cases okN v.ow v.on <;> simp [Bool.and_assoc]
theorem okK0 {v : Wk} (h : v.kd ≠ 1) (h2 : v.kd ≠ 2) (h3 : v.kd ≠ 3) (h4 : v.kd ≠ 4) : okK v = false := by
  unfold okK
  rw [if_neg (by omega), if_neg h3, if_neg h4]
end Go.Proofs.Ytjbpdimepckmfaa

namespace Go.Kq
open Go.RowKit Go.Sort Go.Proofs

/-! ### rows of one cell -/
section
variable {α : Type} [Inhabited α] {f : α → Value} {w : World} {base e n cap g m : Nat} {os : Array Obj} {vs ts : List α}
theorem own_holds (h : w.ownsRow base e 1 (.slice (some ⟨g, 0, none⟩) n cap) n (vs.map f)) : Holds f w g 0 vs.toArray := by
  intro j hj
  have hj' : j < vs.length := by simpa using hj
  rw [Nat.zero_add]
  refine ⟨own_cell h (j := j) ?_, own_free h j⟩
  rw [List.getElem?_map, List.getElem?_eq_getElem hj']
  simp [hj']
theorem heap_sorted1 {cur : Array Value} {fr : Nat × Nat} (d : Array α) (hb : w.heap[g]? = some (.cells cur e fr)) : (sortWorld f w g 0 m d os).heap[g]? = some (.cells (putCells f 0 d cur) e fr) := by
  have hg : g < w.heap.size := (Array.getElem?_eq_some_iff.1 hb).1
  unfold sortWorld
  rw [heap_grow_old _ _ (by simpa using hg)]
  simp [putRow, mapBlock, Sort.ahead, Array.getElem?_modify, hb, onCells]
theorem kp_sorted1 (d : Array α) : Kp (One g) w (sortWorld f w g 0 m d os) := by
  refine ⟨rfl, rfl, rfl, by simp [sortWorld], fun k hk hne => ?_⟩
  unfold sortWorld
  rw [heap_grow_old _ _ (by simpa using hk)]
  have : g ≠ k := fun e => hne e.symm
  simp [putRow, mapBlock, Sort.ahead, Array.getElem?_modify, this]
theorem take_put1 (cur : Array Value) (ts : List α) (h : ts.length ≤ cur.size) : (putCells f 0 ts.toArray cur).toList.take ts.length = ts.map f := by
  apply List.ext_getElem?
  intro j
  by_cases hj : j < ts.length
  · rw [List.getElem?_take_of_lt hj, Array.getElem?_toList]
    simp [putCells, hj, show j < cur.size by omega]
  · rw [List.getElem?_take_eq_none (by omega), List.getElem?_eq_none (by simp; omega)]
theorem own_sorted1 (h : w.ownsRow base e 1 (.slice (some ⟨g, 0, none⟩) n cap) n (vs.map f)) (hl : ts.length = vs.length) : (sortWorld f w g 0 m ts.toArray os).ownsRow base e 1 (.slice (some ⟨g, 0, none⟩) n cap) n (ts.map f) := by
  have hn : vs.length = n := by have := h.1; simpa using this
  rcases h.2 with ⟨h0, _⟩ | ⟨g', cap', cur, hv, hb, hg, h1, h2, h3, _⟩
  · cases h0
  · cases hv
    exact ⟨by simp; omega, .inr ⟨g, cap, _, rfl, hb, heap_sorted1 _ hg, h1, h2, by simp [putCells, h3], by
      rw [Nat.mul_one, show n = ts.length by omega]
      exact take_put1 cur ts (by omega)⟩⟩
end

/-! ### rows of k cells -/
section
variable {α : Type} [Inhabited α] {f : α → List Value} {k : Nat} {w : World} {base e n cap g m : Nat} {os : Array Obj} {vs ts : List α}
theorem flatK_eq (hk : ∀ x, (f x).length = k) (vs : List α) : flatK f k vs.toArray = (vs.flatMap f).toArray := by
  rcases Nat.eq_zero_or_pos k with h0 | h0
  · subst h0
    have : vs.flatMap f = [] := by
      rw [← List.length_eq_zero_iff, flat_len hk]
      omega
    rw [this]
    simp [flatK]
  refine ext_get! (by simp [flat_len hk]) fun t ht => ?_
  rw [size_flatK] at ht
  have ht' : t < vs.length * k := by simpa using ht
  rw [get_flatK _ _ _ _ (by simpa using ht')]
  have hd : t / k < vs.length := Nat.div_lt_of_lt_mul (by rw [Nat.mul_comm]; exact ht')
  have hm : t % k < (f vs[t / k]).length := by rw [hk]; exact Nat.mod_lt _ h0
  have := flat_at hk vs (t / k) vs[t / k] (t % k) (f vs[t / k])[t % k] (List.getElem?_eq_getElem hd) (List.getElem?_eq_getElem hm)
  rw [Nat.div_add_mod'] at this
  have e1 : (vs.flatMap f).toArray[t]! = (f vs[t / k])[t % k] := by
    rw [Array.getElem!_eq_getD, Array.getD_eq_getD_getElem?, List.getElem?_toArray, this]
    rfl
  rw [e1]
  have e2 : vs.toArray[t / k]! = vs[t / k] := by simp [hd]
  rw [e2]
  exact getElem!_pos (f vs[t / k]) (t % k) hm
theorem own_holdsK (hk : ∀ x, (f x).length = k) (h : w.ownsRow base e k (.slice (some ⟨g, 0, none⟩) n cap) n (vs.flatMap f)) : HoldsK f k w g 0 vs.toArray := by
  unfold HoldsK
  rw [flatK_eq hk]
  intro j hj
  have hj' : j < (vs.flatMap f).length := by simpa using hj
  rw [Nat.zero_add]
  refine ⟨own_cell h (j := j) ?_, own_free h j⟩
  rw [getElem!_pos (vs.flatMap f).toArray j hj]
  exact List.getElem?_eq_getElem hj'
theorem sortWorldK_eq (hk : ∀ x, (f x).length = k) : sortWorldK f k w g 0 m ts.toArray os = sortWorld id w g 0 m (ts.flatMap f).toArray os := by
  unfold sortWorldK putRowK sortWorld
  rw [flatK_eq hk]
theorem kp_sortedK (hk : ∀ x, (f x).length = k) (ts : List α) : Kp (One g) w (sortWorldK f k w g 0 m ts.toArray os) := by
  rw [sortWorldK_eq hk]
  exact kp_sorted1 _
theorem take_put_id (cur : Array Value) (us : List Value) (h : us.length ≤ cur.size) : (putCells id 0 us.toArray cur).toList.take us.length = us := by
  have := take_put1 (f := id) cur us h
  simpa using this
theorem own_sortedK (hk : ∀ x, (f x).length = k) (h : w.ownsRow base e k (.slice (some ⟨g, 0, none⟩) n cap) n (vs.flatMap f)) (hl : ts.length = vs.length) : (sortWorldK f k w g 0 m ts.toArray os).ownsRow base e k (.slice (some ⟨g, 0, none⟩) n cap) n (ts.flatMap f) := by
  rw [sortWorldK_eq hk]
  have hn : (vs.flatMap f).length = n * k := h.1
  have hts : (ts.flatMap f).length = n * k := by rw [flat_len hk, hl, ← flat_len hk, hn]
  rcases h.2 with ⟨h0, _⟩ | ⟨g', cap', cur, hv, hb, hg, h1, h2, h3, _⟩
  · cases h0
  · cases hv
    exact ⟨hts, .inr ⟨g, cap, _, rfl, hb, heap_sorted1 _ hg, h1, h2, by simp [putCells, h3], by
      rw [← hts]
      exact take_put_id cur _ (by rw [hts, h3]; exact Nat.mul_le_mul_right _ h1)⟩⟩
end

/-- A list that is sorted and has what another one has. -/
theorem perm_of_permIn {α : Type} [Inhabited α] {l : List α} {d : Array α} (h : PermIn 0 l.toArray.size l.toArray d) : d.toList.Perm l := by
  obtain ⟨h1, _, h3⟩ := h
  rw [show d.extract 0 l.toArray.size = d by rw [← h1]; exact Array.extract_size, Array.extract_size] at h3
  simpa using h3
theorem pairwise_of_sortedIn {α : Type} [Inhabited α] {lt : α → α → Bool} {d : Array α} {n : Nat} (hn : d.size = n) (h : SortedIn lt 0 n d) : d.toList.Pairwise fun x y => lt y x = false := by
  rw [List.pairwise_iff_getElem]
  intro i j hi hj hij
  have := h i j (Nat.zero_le _) hij (by simpa [hn] using hj)
  rw [getElem!_pos d i (by simpa using hi), getElem!_pos d j (by simpa using hj)] at this
  simpa using this
end Go.Kq
