/- Chapter 27: which works are valid: the program's walk and the reference's. -/
import Derived.Test.YtjbpdimepckmfaaXBase
namespace Go.Proofs.Ytjbpdimepckmfaa
open Go.RowKit Go.Kq

def eqW (a b : Wk) : Bool := a.wk == b.wk && a.num == b.num && a.ck == b.ck && a.kd == b.kd && a.rk == b.rk && a.nt == b.nt && a.fd == b.fd && a.vl == b.vl && a.ow == b.ow && a.on == b.on && (a.tx.toList == b.tx.toList)
theorem pipe_equal (w : World) (a b c d : Int) : (Op.equalIn 10000 39 (.agg #[.int .i64 a, .int .i64 b]) (.agg #[.int .i64 c, .int .i64 d])).run Try.prog w = .ok (a == c && b == d) w := by
  have hS : Try.prog.underlying 39 = some (.struct (Try.prog.fieldsOf 39)) := by kernel_rfl
  have hp : Try.prog.stoodInHeld 39 = false := by kernel_rfl
  have u3 := Try.underlying3
  rw [show (10000 : Nat) = 9999 + 1 from rfl, run_equalIn_agg w 9999 39 _ _ hS hp]
  simp only [Program.fieldsOf, Try.underlying39]
  go_simp
  by_cases h1 : a = c <;> by_cases h2 : b = d <;> simp [h1, h2]
set_option maxHeartbeats 2000000 in
theorem work_equal (w : World) (a b : Wk) : (Op.equalIn 10000 41 a.val b.val).run Try.prog w = .ok (eqW a b) w := by
  have hS : Try.prog.underlying 41 = some (.struct (Try.prog.fieldsOf 41)) := by kernel_rfl
  have hp : Try.prog.stoodInHeld 41 = false := by kernel_rfl
  have u3 := Try.underlying3
  have u2 := Try.underlying2
  have u9 := Try.underlying9
  obtain ⟨a0, a1, a2, a3, a4, a5, a6, a7, a8, a9, a10⟩ := a
  obtain ⟨b0, b1, b2, b3, b4, b5, b6, b7, b8, b9, b10⟩ := b
  simp only [Wk.val, eqW]
  rw [show (10000 : Nat) = 9999 + 1 from rfl, run_equalIn_agg w 9999 41 _ _ hS hp]
  simp only [Program.fieldsOf, Try.underlying41]
  go_simp
  by_cases h0 : a0 = b0
  rotate_left
  · simp [h0]
  subst h0
  by_cases h1 : a1 = b1
  rotate_left
  · simp [h1]
  subst h1
  by_cases h2 : a2 = b2
  rotate_left
  · simp [h2]
  subst h2
  by_cases h3 : a3 = b3
  rotate_left
  · simp [h3]
  subst h3
  by_cases h4 : a4 = b4
  rotate_left
  · simp [h4]
  subst h4
  by_cases h5 : a5 = b5
  rotate_left
  · simp [h5]
  subst h5
  by_cases h6 : a6 = b6
  rotate_left
  · simp [h6]
  subst h6
  by_cases h7 : a7 = b7
  rotate_left
  · simp [h7]
  subst h7
  by_cases h8 : a8 = b8
  rotate_left
  · simp [h8]
  subst h8
  by_cases h9 : a9 = b9
  rotate_left
  · simp [h9]
  subst h9
  by_cases h : a10.toList = b10.toList <;> simp [h]
theorem bytes_eq {a b : ByteArray} (h : a.toList = b.toList) : a = b := by
  have h1 := beq_toListBytes a b
  rw [h, beq_self_eq_true] at h1
  rcases a with ⟨a⟩
  rcases b with ⟨b⟩
  have h2 : (a == b) = true := h1
  rw [eq_of_beq h2]
theorem eqW_iff (a b : Wk) : eqW a b = true ↔ a = b := by
  obtain ⟨a0, a1, a2, a3, a4, a5, a6, a7, a8, a9, a10⟩ := a
  obtain ⟨b0, b1, b2, b3, b4, b5, b6, b7, b8, b9, b10⟩ := b
  simp only [eqW, Bool.and_eq_true, beq_iff_eq, Wk.mk.injEq]
  constructor
  · rintro ⟨⟨⟨⟨⟨⟨⟨⟨⟨⟨h0, h1⟩, h2⟩, h3⟩, h4⟩, h5⟩, h6⟩, h7⟩, h8⟩, h9⟩, h10⟩
    exact ⟨h0, h1, h2, h3, h4, h5, h6, h7, h8, h9, bytes_eq h10⟩
  · rintro ⟨h0, h1, h2, h3, h4, h5, h6, h7, h8, h9, h10⟩
    exact ⟨⟨⟨⟨⟨⟨⟨⟨⟨⟨h0, h1⟩, h2⟩, h3⟩, h4⟩, h5⟩, h6⟩, h7⟩, h8⟩, h9⟩, by rw [h10]⟩
def noT (s : ByteArray) : Bool := s.toList == ([] : List UInt8)
/-- Which works are valid. -/
def okK (v : Wk) : Bool :=
  if v.kd = 1 ∨ v.kd = 2 then okP v.rk v.nt && decide (0 ≤ v.fd) && decide (v.fd < 8) && decide (-1000000000 ≤ v.vl) && decide (v.vl ≤ 1000000000) && v.ow == 0 && v.on == 0 && noT v.tx
  else if v.kd = 3 then okP v.rk v.nt && v.fd == 0 && v.vl == 0 && v.ow == 0 && v.on == 0 && okT v.tx
  else if v.kd = 4 then v.rk == 0 && v.nt == 0 && v.fd == 0 && v.vl == 0 && okN v.ow v.on && noT v.tx
  else false
def okW (v : Wk) : Bool := okN v.wk v.num && decide (1 ≤ v.ck) && decide (v.ck ≤ 1000000000) && okK v
theorem empty_l : (ByteArray.mk #[]).toList = [] := by kernel_rfl
theorem beq_comm0 (x : Int) : ((0 : Int) == x) = (x == 0) := by rw [Bool.eq_iff_iff]; simp; omega
theorem beq_commL (l : List UInt8) : (([] : List UInt8) == l) = (l == []) := by cases l <;> rfl
theorem okK12 {v : Wk} (h : v.kd = 1 ∨ v.kd = 2) : okK v = (okP v.rk v.nt && decide (0 ≤ v.fd) && decide (v.fd < 8) && decide (-1000000000 ≤ v.vl) && decide (v.vl ≤ 1000000000) && eqW ⟨v.wk, v.num, v.ck, v.kd, v.rk, v.nt, v.fd, v.vl, 0, 0, ⟨#[]⟩⟩ v) := by
  unfold okK eqW noT
  rw [if_pos h, empty_l]
  simp only [beq_self_eq_true, Bool.true_and, Bool.and_assoc, beq_comm0, beq_commL]
theorem okK3 {v : Wk} (h : v.kd = 3) : okK v = (okP v.rk v.nt && okT v.tx && eqW ⟨v.wk, v.num, v.ck, v.kd, v.rk, v.nt, 0, 0, 0, 0, v.tx⟩ v) := by
  unfold okK eqW
  rw [if_neg (by omega), if_pos h]
  simp only [beq_self_eq_true, Bool.true_and, Bool.and_true, beq_comm0]
  cases okT v.tx <;> simp [Bool.and_assoc]
theorem okK4 {v : Wk} (h : v.kd = 4) : okK v = (okN v.ow v.on && eqW ⟨v.wk, v.num, v.ck, v.kd, 0, 0, 0, 0, v.ow, v.on, ⟨#[]⟩⟩ v) := by
  unfold okK eqW noT
  rw [if_neg (by omega), if_neg (by omega), if_pos h, empty_l]
  simp only [beq_self_eq_true, Bool.true_and, Bool.and_true, beq_comm0, beq_commL]
  cases okN v.ow v.on <;> simp [Bool.and_assoc]
theorem okK0 {v : Wk} (h : v.kd ≠ 1) (h2 : v.kd ≠ 2) (h3 : v.kd ≠ 3) (h4 : v.kd ≠ 4) : okK v = false := by
  unfold okK
  rw [if_neg (by omega), if_neg h3, if_neg h4]
end Go.Proofs.Ytjbpdimepckmfaa
