/- Chapter 27: the order of works and of pipes: walks. -/
import Derived.Sort.Grow
import Derived.Test.YtjbpdimepckmfaaXBase
import Derived.Test.YtjbpdimepckmfaaXLibRegInM
namespace Go.Proofs.Ytjbpdimepckmfaa
open Go.RowKit Go.Kq

def cmpW (a b : Wk) : Int := orL [cmpI a.ck b.ck, cmpI a.wk b.wk, cmpI a.num b.num]
def ltW (a b : Wk) : Bool := decide (a.ck < b.ck ∨ (a.ck = b.ck ∧ (a.wk < b.wk ∨ (a.wk = b.wk ∧ a.num < b.num))))
theorem cmpI_cases (x y : Int) : (cmpI x y = -1 ∧ x < y) ∨ (cmpI x y = 0 ∧ x = y) ∨ (cmpI x y = 1 ∧ y < x) := by
  unfold cmpI
  (repeat' split) <;> omega
theorem cmpW_neg (a b : Wk) : decide (0 ≤ cmpW a b) = !ltW a b := by
  rw [Bool.eq_iff_iff]
  unfold ltW cmpW
  simp only [Bool.not_eq_true', decide_eq_false_iff_not, orL]
  rcases cmpI_cases a.ck b.ck with ⟨h, h1⟩ | ⟨h, h1⟩ | ⟨h, h1⟩ <;> rcases cmpI_cases a.wk b.wk with ⟨k, k1⟩ | ⟨k, k1⟩ | ⟨k, k1⟩ <;> rcases cmpI_cases a.num b.num with ⟨l, l1⟩ | ⟨l, l1⟩ | ⟨l, l1⟩ <;> rw [h, k, l] <;> simp <;> omega
theorem cmpW_lt (a b : Wk) : decide (cmpW a b < 0) = ltW a b := by
  have := cmpW_neg a b
  cases h : ltW a b <;> rw [h] at this <;> simp at this ⊢ <;> omega
theorem rdi2 (w : World) (x y : Int) : RdI .i64 (w.alloc (.cells #[.int .i64 x, .int .i64 y] 3)) (some ⟨w.heap.size, 0, none⟩) 2 [x, y] := by
  refine ⟨rfl, fun i u hu => ?_⟩
  match i, hu with
  | 0, hu => simp at hu; subst hu; exact ⟨_, _, rfl, by simp, by go_simp⟩
  | 1, hu => simp at hu; subst hu; exact ⟨_, _, rfl, by simp, by go_simp⟩
  | n + 2, hu => simp at hu
theorem rdi3 (w : World) (x y z : Int) : RdI .i64 (w.alloc (.cells #[.int .i64 x, .int .i64 y, .int .i64 z] 3)) (some ⟨w.heap.size, 0, none⟩) 3 [x, y, z] := by
  refine ⟨rfl, fun i u hu => ?_⟩
  match i, hu with
  | 0, hu => simp at hu; subst hu; exact ⟨_, _, rfl, by simp, by go_simp⟩
  | 1, hu => simp at hu; subst hu; exact ⟨_, _, rfl, by simp, by go_simp⟩
  | 2, hu => simp at hu; subst hu; exact ⟨_, _, rfl, by simp, by go_simp⟩
  | n + 3, hu => simp at hu
set_option maxHeartbeats 2000000 in
set_option maxRecDepth 100000 in
theorem compare_any (a b : Wk) (w : World) : Calls Try.prog 50 #[a.val, b.val] w fun e w' => e = .returned (.int .i64 (cmpW a b)) ∧ ∃ q os, w' = Sort.grow (w.drewN q) os := by
  obtain ⟨a0, a1, a2, a3, a4, a5, a6, a7, a8, a9, a10⟩ := a
  obtain ⟨b0, b1, b2, b3, b4, b5, b6, b7, b8, b9, b10⟩ := b
  simp only [Wk.val, cmpW]
  go_enter Try.func50, Try.ntmps50
  go_wp2_with fail
  generalize hg : (w.alloc (.cells #[.int .i64 a0, .int .i64 a1, .int .i64 a2, .int .i64 a3, .int .i64 a4, .int .i64 a5, .int .i64 a6, .int .i64 a7, .int .i64 a8, .int .i64 a9, .string a10] 41)).alloc (.cells #[.int .i64 b0, .int .i64 b1, .int .i64 b2, .int .i64 b3, .int .i64 b4, .int .i64 b5, .int .i64 b6, .int .i64 b7, .int .i64 b8, .int .i64 b9, .string b10] 41) = w1
  have HG := Lib.hid hg
  have x0 : w1.cell? ⟨w.heap.size, 0, none⟩ = some (.int .i64 a0) := by rw [← hg]; clear hg HG; go_simp
  have x1 : w1.cell? ⟨w.heap.size, 1, none⟩ = some (.int .i64 a1) := by rw [← hg]; clear hg HG; go_simp
  have x2 : w1.cell? ⟨w.heap.size, 2, none⟩ = some (.int .i64 a2) := by rw [← hg]; clear hg HG; go_simp
  have y0 : w1.cell? ⟨w.heap.size + 1, 0, none⟩ = some (.int .i64 b0) := by rw [← hg]; clear hg HG; go_simp
  have y1 : w1.cell? ⟨w.heap.size + 1, 1, none⟩ = some (.int .i64 b1) := by rw [← hg]; clear hg HG; go_simp
  have y2 : w1.cell? ⟨w.heap.size + 1, 2, none⟩ = some (.int .i64 b2) := by rw [← hg]; clear hg HG; go_simp
  clear hg
  refine wp_region_still_tail 15 (by kernel_rfl) (by kernel_rfl) ?_
  simp only [List.take_succ_cons, List.take_zero, List.drop_succ_cons, List.drop_zero]
  repeat (first | still_step | still_call (cmpI_any _ _ _) | still_call (cmpL_any _ _ _))
  refine wpStill_nil ?_
  change wpList _ _ _ _ _ w1.drew
  have hw1 : ∃ q os, w1.drew = Sort.grow (w.drewN q) os := ⟨1, _, by rw [← HG.out, Sort.alloc_eq_grow, Sort.alloc_eq_grow, Sort.grow_grow]; rfl⟩
  have HW := Lib.hid hw1
  clear hw1 x0 x1 x2 y0 y1 y2 HG
  generalize w1.drew = w2 at HW ⊢
  go_wp2_with (go_at_call 77; refine (or_any _ 3 3 _ _ (rdi3 _ _ _ _) (by omega)).mono ?_; rintro e w' ⟨rfl, rfl⟩)
  go_ret
  obtain ⟨q, os, h⟩ := HW.out
  exact ⟨rfl, q, _, by rw [Sort.alloc_eq_grow, h, Sort.grow_grow]⟩

/-! ### pipes -/
abbrev Pp := Int × Int
def ep (p : Pp) : Value := .agg #[.int .i64 p.1, .int .i64 p.2]
def cmpP (a b : Pp) : Int := orL [cmpI a.1 b.1, cmpI a.2 b.2]
def ltP (a b : Pp) : Bool := decide (a.1 < b.1 ∨ (a.1 = b.1 ∧ a.2 < b.2))
theorem cmpP_lt (a b : Pp) : decide (cmpP a b < 0) = ltP a b := by
  unfold ltP cmpP
  simp only [orL]
  rw [Bool.eq_iff_iff]
  simp only [decide_eq_true_eq]
  rcases cmpI_cases a.1 b.1 with ⟨h, h1⟩ | ⟨h, h1⟩ | ⟨h, h1⟩ <;> rcases cmpI_cases a.2 b.2 with ⟨k, k1⟩ | ⟨k, k1⟩ | ⟨k, k1⟩ <;> rw [h, k] <;> simp <;> omega
set_option maxHeartbeats 2000000 in
set_option maxRecDepth 100000 in
theorem order_any (a b : Pp) (w : World) : Calls Try.prog 54 #[ep a, ep b] w fun e w' => e = .returned (.int .i64 (cmpP a b)) ∧ ∃ q os, w' = Sort.grow (w.drewN q) os := by
  obtain ⟨a1, a2⟩ := a
  obtain ⟨b1, b2⟩ := b
  simp only [ep, cmpP]
  go_enter Try.func54, Try.ntmps54
  go_wp2_with fail
  generalize hg : (w.alloc (.cells #[.int .i64 a1, .int .i64 a2] 39)).alloc (.cells #[.int .i64 b1, .int .i64 b2] 39) = w1
  have HG := Lib.hid hg
  have x0 : w1.cell? ⟨w.heap.size, 0, none⟩ = some (.int .i64 a1) := by rw [← hg]; clear hg HG; go_simp
  have x1 : w1.cell? ⟨w.heap.size, 1, none⟩ = some (.int .i64 a2) := by rw [← hg]; clear hg HG; go_simp
  have y0 : w1.cell? ⟨w.heap.size + 1, 0, none⟩ = some (.int .i64 b1) := by rw [← hg]; clear hg HG; go_simp
  have y1 : w1.cell? ⟨w.heap.size + 1, 1, none⟩ = some (.int .i64 b2) := by rw [← hg]; clear hg HG; go_simp
  clear hg
  refine wp_region_still_tail 10 (by kernel_rfl) (by kernel_rfl) ?_
  simp only [List.take_succ_cons, List.take_zero, List.drop_succ_cons, List.drop_zero]
  repeat (first | still_step | still_call (cmpI_any _ _ _))
  refine wpStill_nil ?_
  change wpList _ _ _ _ _ w1.drew
  have hw1 : ∃ q os, w1.drew = Sort.grow (w.drewN q) os := ⟨1, _, by rw [← HG.out, Sort.alloc_eq_grow, Sort.alloc_eq_grow, Sort.grow_grow]; rfl⟩
  have HW := Lib.hid hw1
  clear hw1 x0 x1 y0 y1 HG
  generalize w1.drew = w2 at HW ⊢
  go_wp2_with (go_at_call 77; refine (or_any _ 2 2 _ _ (rdi2 _ _ _) (by omega)).mono ?_; rintro e w' ⟨rfl, rfl⟩)
  go_ret
  obtain ⟨q, os, h⟩ := HW.out
  exact ⟨rfl, q, _, by rw [Sort.alloc_eq_grow, h, Sort.grow_grow]⟩

/-! ### what has been done to a pipe -/
structure Pv where
  p : Pp
  f0 : Int
  f1 : Int
  f2 : Int
  f3 : Int
  f4 : Int
  f5 : Int
  f6 : Int
  f7 : Int
  no : Int
  la : ByteArray
instance : Inhabited Pv := ⟨⟨(0, 0), 0, 0, 0, 0, 0, 0, 0, 0, 0, ⟨#[]⟩⟩⟩
def Pv.cells (v : Pv) : List Value := [.int .i64 v.p.1, .int .i64 v.p.2, .int .i64 v.f0, .int .i64 v.f1, .int .i64 v.f2, .int .i64 v.f3, .int .i64 v.f4, .int .i64 v.f5, .int .i64 v.f6, .int .i64 v.f7, .int .i64 v.no, .string v.la]
def Pv.val (v : Pv) : Value := .agg #[.int .i64 v.p.1, .int .i64 v.p.2, .int .i64 v.f0, .int .i64 v.f1, .int .i64 v.f2, .int .i64 v.f3, .int .i64 v.f4, .int .i64 v.f5, .int .i64 v.f6, .int .i64 v.f7, .int .i64 v.no, .string v.la]
theorem pv_len (v : Pv) : v.cells.length = 12 := rfl
set_option maxHeartbeats 2000000 in
set_option maxRecDepth 100000 in
theorem order2_any (a b : Pv) (w : World) : Calls Try.prog 53 #[a.val, b.val] w fun e w' => e = .returned (.int .i64 (cmpP a.p b.p)) ∧ ∃ q os, w' = Sort.grow (w.drewN q) os := by
  obtain ⟨⟨a0, a1⟩, a2, a3, a4, a5, a6, a7, a8, a9, a10, a11⟩ := a
  obtain ⟨⟨b0, b1⟩, b2, b3, b4, b5, b6, b7, b8, b9, b10, b11⟩ := b
  simp only [Pv.val]
  go_enter Try.func53, Try.ntmps53
  go_wp2_with fail
  generalize hg : (w.alloc _).alloc _ = w1
  have hw1 : ∃ os, w1 = Sort.grow w os := ⟨_, by rw [← hg, Sort.alloc_eq_grow, Sort.alloc_eq_grow, Sort.grow_grow]⟩
  refine (order_any (a0, a1) (b0, b1) w1).mono ?_
  rintro e w2 ⟨rfl, q, os, hw2⟩
  go_wp2_with fail
  go_ret
  obtain ⟨os1, h⟩ := hw1
  refine ⟨rfl, q, os1 ++ os, ?_⟩
  rw [h]
  show Sort.grow (Sort.grow (w.drewN q) os1) os = _
  rw [Sort.grow_grow]
end Go.Proofs.Ytjbpdimepckmfaa
