/- What a call leaves as it was: 'Kp S w w'': of what was there only the blocks S may have turned. No program in sight. · Chapter 33: voices, keys, how they lie in memory; small functions' contracts. -/
import Derived.WalkKit
import Derived.Lib.Hide
import Derived.BigQuiet
import Derived.Deep.QuietTactic
import Derived.Test.YtfflhlmnfhfcgaaProg
import Derived.KernelRfl
import Derived.Test.YtfflhlmnfhfcgaaXLibReg
import Derived.Test.YtfflhlmnfhfcgaaXLibMap
namespace Go.Kq
open Go.RowKit

/-- A walk stops where its goal stands behind this name. -/
def Stop (p : Prop) : Prop := p
theorem stop_in {p : Prop} (h : Stop p) : p := h
theorem stop_out {p : Prop} (h : p) : Stop p := h

structure Kp (S : Nat → Prop) (w w' : World) : Prop where
  os : w'.os = w.os
  tape : w'.tape = w.tape
  output : w'.output = w.output
  size : w.heap.size ≤ w'.heap.size
  block : ∀ k, k < w.heap.size → ¬ S k → w'.heap[k]? = w.heap[k]?

def No : Nat → Prop := fun _ => False
def One (b : Nat) : Nat → Prop := fun k => k = b

section
variable {S T : Nat → Prop} {w w' w'' : World}
theorem Kp.refl (S : Nat → Prop) (w : World) : Kp S w w := ⟨rfl, rfl, rfl, Nat.le_refl _, fun _ _ _ => rfl⟩
theorem Kp.trans (h : Kp S w w') (h' : Kp T w' w'') (hT : ∀ k, k < w.heap.size → T k → S k) : Kp S w w'' :=
  ⟨h'.os.trans h.os, h'.tape.trans h.tape, h'.output.trans h.output, Nat.le_trans h.size h'.size, fun k hk hS => (h'.block k (Nat.lt_of_lt_of_le hk h.size) (fun t => hS (hT k hk t))).trans (h.block k hk hS)⟩
theorem Kp.tr (h : Kp S w w') (h' : Kp S w' w'') : Kp S w w'' := h.trans h' fun _ _ t => t
theorem Kp.no (h : Kp S w w') (h' : Kp No w' w'') : Kp S w w'' := h.trans h' fun _ _ t => t.elim
theorem Kp.mono (h : Kp S w w') (hT : ∀ k, k < w.heap.size → S k → T k) : Kp T w w' := ⟨h.os, h.tape, h.output, h.size, fun k hk hS => h.block k hk fun s => hS (hT k hk s)⟩
theorem Kp.of_no (h : Kp No w w') : Kp S w w' := h.mono fun _ _ t => t.elim
theorem Kp.grown {row : Option Nat} (h : w.grownBy w' row) (hr : ∀ k, row = some k → k < w.heap.size → S k) : Kp S w w' :=
  ⟨h.os, h.tape, h.output, h.size, fun k hk hS => h.block k hk fun e => hS (hr k e.symm hk)⟩
theorem Kp.grown_none (h : w.grownBy w' none) : Kp S w w' := Kp.grown h (by simp)
theorem Kp.below (h : Below w.heap.size w w') : Kp S w w' := ⟨h.os, h.tape, h.output, h.size, fun k hk _ => h.block k hk⟩
theorem Kp.toBelow (h : Kp No w w') : Below w.heap.size w w' := ⟨h.os, h.tape, h.output, h.size, fun k hk => h.block k hk id⟩
theorem Kp.toBelowB {B : Nat} (h : Kp S w w') (hB : B ≤ w.heap.size) (hS : ∀ k, k < B → ¬ S k) : Below B w w' := ⟨h.os, h.tape, h.output, h.size, fun k hk => h.block k (by omega) (hS k hk)⟩
theorem Kp.toGrown {b : Nat} (h : Kp (One b) w w') : w.grownBy w' (some b) := ⟨h.os, h.tape, h.output, h.size, fun k hk hne => h.block k hk fun e => hne (by rw [e])⟩
theorem Kp.toGrownNo (h : Kp No w w') (row : Option Nat) : w.grownBy w' row := ⟨h.os, h.tape, h.output, h.size, fun k hk _ => h.block k hk id⟩
theorem Kp.alloc (S : Nat → Prop) (w : World) (o : Obj) : Kp S w (w.alloc o) := Kp.grown_none (World.grownBy_alloc w o none)
theorem Kp.drew (S : Nat → Prop) (w : World) : Kp S w w.drew := ⟨rfl, rfl, rfl, Nat.le_refl _, fun _ _ _ => rfl⟩
theorem Kp.drewN (S : Nat → Prop) (w : World) (n : Nat) : Kp S w (w.drewN n) := ⟨rfl, rfl, rfl, Nat.le_refl _, fun _ _ _ => rfl⟩
theorem Kp.setCell (S : Nat → Prop) (w : World) (a : Addr) (v : Value) (h : a.block < w.heap.size → S a.block) : Kp S w (w.setCell a v) :=
  ⟨rfl, rfl, rfl, by simp, fun k hk hS => by
    have hne : a.block ≠ k := fun e => hS (e ▸ h (e ▸ hk))
    simp [World.setCell, Array.getElem?_modify, hne]⟩
theorem Kp.cell (h : Kp S w w') {a : Addr} {v : Value} (hc : w.cell? a = some v) (hS : ¬ S a.block) : w'.cell? a = some v :=
  (World.cell?_of_block (h.block a.block (World.block_lt_of_cell? w _ hc) hS)).trans hc
theorem Kp.frozen (h : Kp S w w') {a : Addr} (hb : a.block < w.heap.size) (hS : ¬ S a.block) : w'.frozen? a = w.frozen? a :=
  World.frozen?_of_block (h.block a.block hb hS)
theorem Kp.heap (h : Kp S w w') {b : Nat} {o : Obj} (hb : w.heap[b]? = some o) (hS : ¬ S b) : w'.heap[b]? = some o :=
  (h.block b (Array.getElem?_eq_some_iff.1 hb).1 hS).trans hb
theorem Kp.owns (h : Kp S w w') {base size n : Nat} {e : TypeId} {v : Value} {xs : List Value} (ho : w.ownsRow base e size v n xs) (hS : ∀ g, v.ownBlock = some g → ¬ S g) : w'.ownsRow base e size v n xs := by
  rcases ho with ⟨hl, h0 | ⟨g, cap, cur, hv, hb, hh, rest⟩⟩
  · exact ⟨hl, .inl h0⟩
  · exact ⟨hl, .inr ⟨g, cap, cur, hv, hb, h.heap hh (hS g (by rw [hv]; rfl)), rest⟩⟩
end

theorem ret_i64 {a b : Int} (h : a = b) : Ending.returned (.int .i64 a) = .returned (.int .i64 b) := by rw [h]
theorem ret_bool {a b : Bool} (h : a = b) : Ending.returned (.bool a) = .returned (.bool b) := by rw [h]
end Go.Kq

namespace Go.Proofs.Ytfflhlmnfhfcgaa
open Go.RowKit Go.Kq
abbrev Key := Int × Int × Int
def ek (k : Key) : Value := .agg #[.int .i64 k.1, .int .i64 k.2.1, .int .i64 k.2.2]
theorem ek_inj {a b : Key} (h : ek a = ek b) : a = b := by
  obtain ⟨a1, a2, a3⟩ := a
  obtain ⟨b1, b2, b3⟩ := b
  simpa [ek] using h
theorem key_equal (w : World) (x y : Key) : (Op.equal 92 (ek x) (ek y)).run Try.prog w = .ok (decide (x = y)) w := by
  have hS : Try.prog.underlying 92 = some (.struct (Try.prog.fieldsOf 92)) := by kernel_rfl
  have hp : Try.prog.stoodInHeld 92 = false := by kernel_rfl
  have u3 := Try.underlying3
  obtain ⟨x1, x2, x3⟩ := x
  obtain ⟨y1, y2, y3⟩ := y
  simp only [Op.equal, Op.maxDepth, ek]
  rw [show (10000 : Nat) = 9999 + 1 from rfl, run_equalIn_agg w 9999 92 _ _ hS hp]
  simp only [Program.fieldsOf, Try.underlying92]
  go_simp
  by_cases h1 : x1 = y1 <;> by_cases h2 : x2 = y2 <;> by_cases h3 : x3 = y3 <;> simp [h1, h2, h3]
theorem check_int (n : Nat) (w : World) (em : Bool) (x : Int) : (Instr.checkKey em (n + 1) 3 (.int .i64 x)).run Try.prog w = .ok () w := by
  simp [Instr.checkKey, run_underlying Try.underlying3]
theorem key_check (w : World) (em : Bool) (k : Key) : (Instr.checkKey em 10000 92 (ek k)).run Try.prog w = .ok () w := by
  obtain ⟨x1, x2, x3⟩ := k
  have a3 := Try.isAgg3
  have z3 := Try.sizeOf3
  have c := fun x => check_int 9998 w em x
  rw [show (10000 : Nat) = 9998 + 1 + 1 from rfl]
  unfold Instr.checkKey
  simp only [ek, Sem.run_bind, run_underlying Try.underlying92, Result.andThen_ok]
  go_simp
theorem keyOk : KeyOk Try.prog 92 ek := aggKey_ok Try.underlying92 ek_inj key_check key_equal (fun k => by simp [ek, Instr.sameBits])

/-! ### voices -/
structure Vc where
  d : Int
  p : Int
  f : Int
  q : Int
def Vc.val (v : Vc) : Value := .agg #[.int .i64 v.d, .int .i64 v.p, .int .i64 v.f, .int .i64 v.q]
def Vc.key (v : Vc) : Key := (v.d, v.p, v.f)
def Vc.bad (v : Vc) : Bool := decide (v.d < 0) || decide (5 < v.d) || decide (v.p < -24) || decide (72 < v.p) || decide (v.f < 1) || decide (6 < v.f) || decide (v.q < 1) || decide (100 < v.q)
/-- A slice of voices. -/
def RdV (w : World) (A : Option Addr) (n : Nat) (vs : List Vc) : Prop :=
  vs.length = n ∧ ∀ i v, vs[i]? = some v → ∃ b o, A = some ⟨b, o, none⟩ ∧ b < w.heap.size ∧ w.cell? ⟨b, o + i * 4, none⟩ = some (.int .i64 v.d) ∧ w.cell? ⟨b, o + i * 4 + 1, none⟩ = some (.int .i64 v.p) ∧ w.cell? ⟨b, o + i * 4 + 2, none⟩ = some (.int .i64 v.f) ∧ w.cell? ⟨b, o + i * 4 + 3, none⟩ = some (.int .i64 v.q)
theorem RdV.kp {w w' : World} {A : Option Addr} {n : Nat} {vs : List Vc} {S : Nat → Prop} (h : RdV w A n vs) (hk : Kp S w w') (hS : ∀ b o x, A = some ⟨b, o, none⟩ → w.cell? ⟨b, x, none⟩ ≠ none → ¬ S b) : RdV w' A n vs := by
  refine ⟨h.1, fun i v hv => ?_⟩
  obtain ⟨b, o, hA, hb, h0, h1, h2, h3⟩ := h.2 i v hv
  have hb' := hS b o _ hA (by rw [h0]; simp)
  exact ⟨b, o, hA, Nat.lt_of_lt_of_le hb hk.size, hk.cell h0 hb', hk.cell h1 hb', hk.cell h2 hb', hk.cell h3 hb'⟩
theorem RdV.no {w w' : World} {A : Option Addr} {n : Nat} {vs : List Vc} (h : RdV w A n vs) (hk : Kp No w w') : RdV w' A n vs := h.kp hk fun _ _ _ _ _ h => h
theorem RdV.map {w w' : World} {A : Option Addr} {n b : Nat} {vs : List Vc} {κ ν : Type} {ek : κ → Value} {ev : ν → Value} {E : List (κ × ν)} (h : RdV w A n vs) (hm : MapAt w b ek ev E) (hk : Kp (One b) w w') : RdV w' A n vs :=
  h.kp hk fun b' _ x _ hc e => hc (by rw [show b' = b from e]; exact hm.notCell x)

theorem of_any (v : Vc) (w : World) :
    Calls Try.prog 67 #[v.val] w fun e w' => e = .returned (ek v.key) ∧ Kp No w w' := by
  obtain ⟨d, p, f, q⟩ := v
  simp only [Vc.val, Vc.key, ek]
  go_enter Try.func67, Try.ntmps67
  go_wp2
  exact bodyPost_ret (v := .agg #[.int .i64 d, .int .i64 p, .int .i64 f]) (by simp [results, Try.results67, go_sem]) rfl ⟨rfl, (Kp.alloc _ _ _).tr (Kp.alloc _ _ _)⟩

def absI (n : Int) : Int := if n < 0 then -n else n
theorem absI_neg {n : Int} (h : n ≤ 0) : absI n = -n := by unfold absI; split <;> omega
theorem absI_pos {n : Int} (h : 0 ≤ n) : absI n = n := by unfold absI; split <;> omega
theorem size_any (n : Int) (w : World) (h1 : -1000000000 ≤ n) (h2 : n ≤ 1000000000) : Calls Try.prog 55 #[.int .i64 n] w fun e w' => e = .returned (.int .i64 (absI n)) ∧ w = w' := by
  rcases Int.le_total n 0 with h | h
  · rw [absI_neg h]
    go_enter Try.func55, Try.ntmps55
    go_wp2
    all_goals
      go_ret
      exact ⟨ret_i64 (by omega), rfl⟩
  · rw [absI_pos h]
    go_enter Try.func55, Try.ntmps55
    go_wp2
    all_goals
      go_ret
      exact ⟨ret_i64 (by omega), rfl⟩

theorem bad_any (v : Vc) (w : World) : Calls Try.prog 50 #[v.val] w fun e w' => e = .returned (.bool v.bad) ∧ Kp No w w' := by
  obtain ⟨d, p, f, q⟩ := v
  simp only [Vc.val]
  go_enter Try.func50, Try.ntmps50
  go_wp2
  all_goals
    go_ret
    refine ⟨ret_bool ?_, Kp.alloc _ _ _⟩
    simp [Vc.bad, *]
end Go.Proofs.Ytfflhlmnfhfcgaa
