/- Chapter 33: voices, keys, how they lie in memory; small functions' contracts. -/
import Derived.Test.YtfflhlmnfhfcgaaProg
import Derived.Test.YtfflhlmnfhfcgaaLibReg
import Derived.Test.YtfflhlmnfhfcgaaLibMap
import Derived.Test.YtfflhlmnfhfcgaaLibKp
import Derived.KernelRfl
import Derived.WalkKit
import Derived.Lib.Hide
import Derived.BigQuiet
import Derived.Deep.QuietTactic
namespace Go.Proofs.Ytfflhlmnfhfcgaa
open Go.RowKit Go.Kq
abbrev Key := Int × Int × Int
def ek (k : Key) : Value := .agg #[.int .i64 k.1, .int .i64 k.2.1, .int .i64 k.2.2]
theorem ek_inj {a b : Key} (h : ek a = ek b) : a = b := by
  obtain ⟨a1, a2, a3⟩ := a
  obtain ⟨b1, b2, b3⟩ := b
  simpa [ek] using h
theorem key_equal (w : World) (x y : Key) : (Op.equal 92 (ek x) (ek y)).run Try.prog w = .ok (decide (x = y)) w := by
  have hS : Try.prog.underlying 92 = some (.struct (Try.prog.fieldsOf 92)) := by kernel_rfl
  have hp : Try.prog.stoodInHeld 92 = false := by kernel_rfl
  have u3 := Try.underlying3
  obtain ⟨x1, x2, x3⟩ := x
  obtain ⟨y1, y2, y3⟩ := y
  simp only [Op.equal, Op.maxDepth, ek]
  rw [show (10000 : Nat) = 9999 + 1 from rfl, run_equalIn_agg w 9999 92 _ _ hS hp]
  simp only [Program.fieldsOf, Try.underlying92]
  go_simp
  by_cases h1 : x1 = y1 <;> by_cases h2 : x2 = y2 <;> by_cases h3 : x3 = y3 <;> simp [h1, h2, h3]
theorem check_int (n : Nat) (w : World) (em : Bool) (x : Int) : (Instr.checkKey em (n + 1) 3 (.int .i64 x)).run Try.prog w = .ok () w := by
  simp [Instr.checkKey, run_underlying Try.underlying3]
theorem key_check (w : World) (em : Bool) (k : Key) : (Instr.checkKey em 10000 92 (ek k)).run Try.prog w = .ok () w := by
  obtain ⟨x1, x2, x3⟩ := k
  have a3 := Try.isAgg3
  have z3 := Try.sizeOf3
  have c := fun x => check_int 9998 w em x
  rw [show (10000 : Nat) = 9998 + 1 + 1 from rfl]
  unfold Instr.checkKey
  simp only [ek, Sem.run_bind, run_underlying Try.underlying92, Result.andThen_ok]
  go_simp
theorem keyOk : KeyOk Try.prog 92 ek := aggKey_ok Try.underlying92 ek_inj key_check key_equal (fun k => by simp [ek, Instr.sameBits])

/-! ### voices -/
structure Vc where
  d : Int
  p : Int
  f : Int
  q : Int
def Vc.val (v : Vc) : Value := .agg #[.int .i64 v.d, .int .i64 v.p, .int .i64 v.f, .int .i64 v.q]
def Vc.key (v : Vc) : Key := (v.d, v.p, v.f)
def Vc.bad (v : Vc) : Bool := decide (v.d < 0) || decide (5 < v.d) || decide (v.p < -24) || decide (72 < v.p) || decide (v.f < 1) || decide (6 < v.f) || decide (v.q < 1) || decide (100 < v.q)
/-- A slice of voices. -/
def RdV (w : World) (A : Option Addr) (n : Nat) (vs : List Vc) : Prop :=
  vs.length = n ∧ ∀ i v, vs[i]? = some v → ∃ b o, A = some ⟨b, o, none⟩ ∧ b < w.heap.size ∧ w.cell? ⟨b, o + i * 4, none⟩ = some (.int .i64 v.d) ∧ w.cell? ⟨b, o + i * 4 + 1, none⟩ = some (.int .i64 v.p) ∧ w.cell? ⟨b, o + i * 4 + 2, none⟩ = some (.int .i64 v.f) ∧ w.cell? ⟨b, o + i * 4 + 3, none⟩ = some (.int .i64 v.q)
theorem RdV.kp {w w' : World} {A : Option Addr} {n : Nat} {vs : List Vc} {S : Nat → Prop} (h : RdV w A n vs) (hk : Kp S w w') (hS : ∀ b o x, A = some ⟨b, o, none⟩ → w.cell? ⟨b, x, none⟩ ≠ none → ¬ S b) : RdV w' A n vs := by
  refine ⟨h.1, fun i v hv => ?_⟩
  obtain ⟨b, o, hA, hb, h0, h1, h2, h3⟩ := h.2 i v hv
  have hb' := hS b o _ hA (by rw [h0]; simp)
  exact ⟨b, o, hA, Nat.lt_of_lt_of_le hb hk.size, hk.cell h0 hb', hk.cell h1 hb', hk.cell h2 hb', hk.cell h3 hb'⟩
theorem RdV.no {w w' : World} {A : Option Addr} {n : Nat} {vs : List Vc} (h : RdV w A n vs) (hk : Kp No w w') : RdV w' A n vs := h.kp hk fun _ _ _ _ _ h => h
theorem RdV.map {w w' : World} {A : Option Addr} {n b : Nat} {vs : List Vc} {κ ν : Type} {ek : κ → Value} {ev : ν → Value} {E : List (κ × ν)} (h : RdV w A n vs) (hm : MapAt w b ek ev E) (hk : Kp (One b) w w') : RdV w' A n vs :=
  h.kp hk fun b' _ x _ hc e => hc (by rw [show b' = b from e]; exact hm.notCell x)

theorem of_any (v : Vc) (w : World) :
    Calls Try.prog 67 #[v.val] w fun e w' => e = .returned (ek v.key) ∧ Kp No w w' := by
  obtain ⟨d, p, f, q⟩ := v
  simp only [Vc.val, Vc.key, ek]
  go_enter Try.func67, Try.ntmps67
  go_wp2
  exact bodyPost_ret (v := .agg #[.int .i64 d, .int .i64 p, .int .i64 f]) (by simp [results, Try.results67, go_sem]) rfl ⟨rfl, (Kp.alloc _ _ _).tr (Kp.alloc _ _ _)⟩

def absI (n : Int) : Int := if n < 0 then -n else n
theorem absI_neg {n : Int} (h : n ≤ 0) : absI n = -n := by unfold absI; split <;> omega
theorem absI_pos {n : Int} (h : 0 ≤ n) : absI n = n := by unfold absI; split <;> omega
theorem size_any (n : Int) (w : World) (h1 : -1000000000 ≤ n) (h2 : n ≤ 1000000000) : Calls Try.prog 55 #[.int .i64 n] w fun e w' => e = .returned (.int .i64 (absI n)) ∧ w = w' := by
  rcases Int.le_total n 0 with h | h
  · rw [absI_neg h]
    go_enter Try.func55, Try.ntmps55
    go_wp2
    all_goals
      go_ret
      exact ⟨ret_i64 (by omega), rfl⟩
  · rw [absI_pos h]
    go_enter Try.func55, Try.ntmps55
    go_wp2
    all_goals
      go_ret
      exact ⟨ret_i64 (by omega), rfl⟩

theorem bad_any (v : Vc) (w : World) : Calls Try.prog 50 #[v.val] w fun e w' => e = .returned (.bool v.bad) ∧ Kp No w w' := by
  obtain ⟨d, p, f, q⟩ := v
  simp only [Vc.val]
  go_enter Try.func50, Try.ntmps50
  go_wp2
  all_goals
    go_ret
    refine ⟨ret_bool ?_, Kp.alloc _ _ _⟩
    simp [Vc.bad, *]
end Go.Proofs.Ytfflhlmnfhfcgaa
