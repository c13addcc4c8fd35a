/- cmp.Compare of integers, cmp.Or: contracts. · cmp.Compare of int64. · cmp.Or of integers. · Rows that make and literals lay: plain facts. No program in sight. -/
import Derived.Test.YtjbpdimepckmfaaProg
import Derived.KernelRfl
import Derived.StillTailTactics
import Derived.Test.YtjbpdimepckmfaaXLibRow
namespace Go.Proofs.Ytjbpdimepckmfaa
open Go.RowKit Go.Kq

def cmpI (x y : Int) : Int := if x < y then -1 else if y < x then 1 else 0
def orL : List Int → Int
  | [] => 0
  | x :: l => if x = 0 then orL l else x
theorem isNaNI (x : Int) (w : World) : Calls Try.prog 99 #[.int .i64 x] w fun e w' => e = .returned (.bool false) ∧ w' = w := by
  go_enter Try.func99, Try.ntmps99
  go_wp2
  go_ret
  exact ⟨ret_bool (by simp), rfl⟩
set_option maxHeartbeats 1000000 in
theorem cmpI_any (x y : Int) (w : World) : Calls Try.prog 79 #[.int .i64 x, .int .i64 y] w fun e w' => e = .returned (.int .i64 (cmpI x y)) ∧ w' = w := by
  go_enter Try.func79, Try.ntmps79
  go_wp2_with (go_at_call 99; refine (isNaNI _ _).mono ?_; rintro e w' ⟨rfl, rfl⟩)
  all_goals
    go_ret
    refine ⟨ret_i64 ?_, rfl⟩
    unfold cmpI
    (repeat' split) <;> first | rfl | (exfalso; omega)
end Go.Proofs.Ytjbpdimepckmfaa

namespace Go.Proofs.Ytjbpdimepckmfaa
open Go.RowKit Go.Kq
theorem isNaNL (x : Int) (w : World) : Calls Try.prog 98 #[.int .i64 x] w fun e w' => e = .returned (.bool false) ∧ w' = w := by
  go_enter Try.func98, Try.ntmps98
  go_wp2
  go_ret
  exact ⟨ret_bool (by simp), rfl⟩
set_option maxHeartbeats 1000000 in
theorem cmpL_any (x y : Int) (w : World) : Calls Try.prog 78 #[.int .i64 x, .int .i64 y] w fun e w' => e = .returned (.int .i64 (cmpI x y)) ∧ w' = w := by
  go_enter Try.func78, Try.ntmps78
  go_wp2_with (go_at_call 98; refine (isNaNL _ _).mono ?_; rintro e w' ⟨rfl, rfl⟩)
  all_goals
    go_ret
    refine ⟨ret_i64 ?_, rfl⟩
    unfold cmpI
    (repeat' split) <;> first | rfl | (exfalso; omega)
end Go.Proofs.Ytjbpdimepckmfaa

namespace Go.Proofs.Ytjbpdimepckmfaa
open Go.RowKit Go.Kq
theorem orL_drop : ∀ (xs : List Int) (k : Nat), (∀ j x, j < k → xs[j]? = some x → x = 0) → orL xs = orL (xs.drop k)
  | [], k, _ => by simp
  | x :: xs, 0, _ => rfl
  | x :: xs, k + 1, h => by
    have h0 := h 0 x (by omega) rfl
    rw [List.drop_succ_cons, ← orL_drop xs k fun j y hj hy => h (j + 1) y (by omega) (by simpa using hy)]
    simp [orL, h0]
set_option maxHeartbeats 1000000 in
theorem or_any (A : Option Addr) (n cap : Nat) (xs : List Int) (w : World) (hx : RdI .i64 w A n xs) (hn : n ≤ 1000000) :
    Calls Try.prog 77 #[.slice A n cap] w fun e w' => e = .returned (.int .i64 (orL xs)) ∧ w' = w := by
  have hl := hx.1
  go_enter Try.func77, Try.ntmps77
  go_wp2_with fail
  go_loop [8] (fun i => ∃ k : Nat, k ≤ n ∧ i = .int .i64 k ∧ ∀ j x, j < k → xs[j]? = some x → x = 0) (fun i => n - (intOf i).toNat)
  case atStart => exact ⟨0, by omega, rfl, fun j x h => by omega⟩
  case round =>
    obtain ⟨k, hk, rfl, hz⟩ := hrel
    have HZ := Lib.hid hz
    clear hz
    by_cases hlt : k < n
    · obtain ⟨x, hxk⟩ : ∃ x, xs[k]? = some x := ⟨_, List.getElem?_eq_getElem (by omega)⟩
      obtain ⟨b, o, rfl, hb, c0⟩ := hx.2 k x hxk
      have HX := Lib.hid hxk
      clear hxk
      by_cases h0 : x = 0
      · subst h0
        go_wp2
        go_round
        case rel =>
          refine ⟨k + 1, by omega, by go_num, fun j y hj hy => ?_⟩
          by_cases e : j = k
          · subst e
            have := HX.out
            rw [hy] at this
            cases this
            rfl
          · exact HZ.out j y (by omega) hy
        case measure => simp [intOf]; omega
      · have hne : (x == 0) = false := by rw [beq_eq_false_iff_ne]; exact h0
        go_wp2
        go_ret
        refine ⟨ret_i64 ?_, rfl⟩
        rw [orL_drop xs k HZ.out, List.drop_eq_getElem_cons (by omega)]
        have := HX.out
        rw [List.getElem?_eq_getElem (by omega)] at this
        simp at this
        simp [orL, this, h0]
    · go_wp2
      go_ret
      refine ⟨ret_i64 ?_, rfl⟩
      rw [orL_drop xs k HZ.out, List.drop_of_length_le (by omega)]
      rfl
end Go.Proofs.Ytjbpdimepckmfaa

namespace Go.Kq
open Go.RowKit

theorem made_flat {α : Type} (f : α → List Value) (x : α) (z : Array Value) (s n : Nat) (hz : z.size = s) (hs : 0 < s) (hf : f x = z.toList) : madeCells z (n * s) = ((List.replicate n x).flatMap f).toArray := by
  have hfl : ∀ y : Unit, ((fun _ : Unit => z.toList) y).length = s := fun _ => by simpa using hz
  have e : (List.replicate n x).flatMap f = (List.replicate n ()).flatMap fun _ => z.toList := by
    rw [List.flatMap_replicate, List.flatMap_replicate, hf]
  rw [e]
  apply Array.ext
  · rw [size_madeCells, List.size_toArray, flat_len hfl, List.length_replicate]
  · intro i h1 h2
    rw [size_madeCells] at h1
    have hd : i / s < n := Nat.div_lt_of_lt_mul (by rw [Nat.mul_comm]; exact h1)
    have hm : i % s < z.size := by rw [hz]; exact Nat.mod_lt _ hs
    have := flat_at hfl (List.replicate n ()) (i / s) () (i % s) z[i % s] (by simp [hd]) (by simp [hm])
    rw [Nat.div_add_mod'] at this
    obtain ⟨h3, h4⟩ := List.getElem?_eq_some_iff.1 this
    simp only [List.getElem_toArray]
    rw [h4]
    have hm' : z[i % s]! = z[i % s] := getElem!_pos z (i % s) hm
    simp [madeCells, hz, hm']
theorem own_made (w : World) {base e s n : Nat} {xs : List Value} (hl : xs.length = n * s) (hb : base ≤ w.heap.size) (hn : n ≤ maxLen) : (w.alloc (.cells xs.toArray e)).ownsRow base e s (.slice (some ⟨w.heap.size, 0, none⟩) n n) n xs :=
  ⟨hl, .inr ⟨_, n, xs.toArray, rfl, hb, heap_alloc_new w _, Nat.le_refl _, hn, by simpa using hl, by rw [← hl]; simp⟩⟩
theorem run_make_flat {P : Program} (w : World) {α : Type} (f : α → List Value) (x : α) (t e : TypeId) (i : TypeInfo) (z : Value) (s bytes n : Nat) (ht : P.underlying t = some (.slice e)) (hi : P.info? e = some i) (hz : i.zero = some z) (hsz : i.size = s) (hby : i.bytes = bytes) (hs : 0 < s) (hzs : z.cells.size = s) (hf : f x = z.cells.toList) (hb : bytes * n ≤ 281474976710656) (hn : n ≤ 9223372036854775807) :
    (Instr.makeSlice t (.int .i64 (n : Nat)) (.int .i64 (n : Nat))).run P w = .ok (.slice (some ⟨w.heap.size, 0, none⟩) n n) (w.alloc (.cells ((List.replicate n x).flatMap f).toArray e)) := by
  have h := run_make (P := P) w t e i z ht hi hz .i64 .i64 n n (by omega) (by omega) (by rw [hby, ← Int.natCast_mul]; omega) (by omega)
  rw [h, hsz, show (n : Int).toNat = n by omega, made_flat f x z.cells s n hzs hs hf]
end Go.Kq
