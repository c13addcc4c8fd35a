/- Chapter 27: works and what has been done to a pipe, how they lie in memory; small functions' contracts. -/
import Derived.Test.YtjbpdimepckmfaaProg
import Derived.KernelRfl
import Derived.WalkKit
import Derived.Lib.Hide
import Derived.BigQuiet
import Derived.Deep.QuietTactic
import Derived.Laws.StructEq
import Derived.Test.YtjbpdimepckmfaaXLibReg
import Derived.Test.YtjbpdimepckmfaaXLibMapWM
import Derived.Test.YtjbpdimepckmfaaXLibMap
namespace Go.Proofs.Ytjbpdimepckmfaa
open Go.RowKit Go.Kq

structure Wk where
  wk : Int
  num : Int
  ck : Int
  kd : Int
  rk : Int
  nt : Int
  fd : Int
  vl : Int
  ow : Int
  on : Int
  tx : ByteArray
instance : Inhabited Wk := ⟨⟨0, 0, 0, 0, 0, 0, 0, 0, 0, 0, ⟨#[]⟩⟩⟩
def Wk.cells (v : Wk) : List Value := [.int .i64 v.wk, .int .i64 v.num, .int .i64 v.ck, .int .i64 v.kd, .int .i64 v.rk, .int .i64 v.nt, .int .i64 v.fd, .int .i64 v.vl, .int .i64 v.ow, .int .i64 v.on, .string v.tx]
def Wk.val (v : Wk) : Value := .agg #[.int .i64 v.wk, .int .i64 v.num, .int .i64 v.ck, .int .i64 v.kd, .int .i64 v.rk, .int .i64 v.nt, .int .i64 v.fd, .int .i64 v.vl, .int .i64 v.ow, .int .i64 v.on, .string v.tx]
theorem wk_len (v : Wk) : v.cells.length = 11 := rfl
/-- A work lies at a place. -/
def WkAt (w : World) (b o : Nat) (v : Wk) : Prop :=
  w.cell? ⟨b, o, none⟩ = some (.int .i64 v.wk) ∧ w.cell? ⟨b, o + 1, none⟩ = some (.int .i64 v.num) ∧ w.cell? ⟨b, o + 2, none⟩ = some (.int .i64 v.ck) ∧ w.cell? ⟨b, o + 3, none⟩ = some (.int .i64 v.kd) ∧ w.cell? ⟨b, o + 4, none⟩ = some (.int .i64 v.rk) ∧ w.cell? ⟨b, o + 5, none⟩ = some (.int .i64 v.nt) ∧ w.cell? ⟨b, o + 6, none⟩ = some (.int .i64 v.fd) ∧ w.cell? ⟨b, o + 7, none⟩ = some (.int .i64 v.vl) ∧ w.cell? ⟨b, o + 8, none⟩ = some (.int .i64 v.ow) ∧ w.cell? ⟨b, o + 9, none⟩ = some (.int .i64 v.on) ∧ w.cell? ⟨b, o + 10, none⟩ = some (.string v.tx)
theorem WkAt.of {w : World} {b o : Nat} {v : Wk} (h : ∀ j u, v.cells[j]? = some u → w.cell? ⟨b, o + j, none⟩ = some u) : WkAt w b o v :=
  ⟨h 0 _ rfl, h 1 _ rfl, h 2 _ rfl, h 3 _ rfl, h 4 _ rfl, h 5 _ rfl, h 6 _ rfl, h 7 _ rfl, h 8 _ rfl, h 9 _ rfl, h 10 _ rfl⟩
theorem WkAt.to {w : World} {b o : Nat} {v : Wk} (h : WkAt w b o v) : ∀ j u, v.cells[j]? = some u → w.cell? ⟨b, o + j, none⟩ = some u := by
  obtain ⟨h0, h1, h2, h3, h4, h5, h6, h7, h8, h9, h10⟩ := h
  intro j u hj
  match j, hj with
  | 0, hj => cases hj; exact h0
  | 1, hj => cases hj; exact h1
  | 2, hj => cases hj; exact h2
  | 3, hj => cases hj; exact h3
  | 4, hj => cases hj; exact h4
  | 5, hj => cases hj; exact h5
  | 6, hj => cases hj; exact h6
  | 7, hj => cases hj; exact h7
  | 8, hj => cases hj; exact h8
  | 9, hj => cases hj; exact h9
  | 10, hj => cases hj; exact h10
  | j + 11, hj => simp [Wk.cells] at hj
theorem WkAt.kp {S : Nat → Prop} {w w' : World} {b o : Nat} {v : Wk} (h : WkAt w b o v) (k : Kp S w w') (hS : ¬ S b) : WkAt w' b o v :=
  .of fun j u hj => k.cell (h.to j u hj) hS
theorem WkAt.no {w w' : World} {b o : Nat} {v : Wk} (h : WkAt w b o v) (k : Kp No w w') : WkAt w' b o v := h.kp k id
theorem WkAt.lt {w : World} {b o : Nat} {v : Wk} (h : WkAt w b o v) : b < w.heap.size := World.block_lt_of_cell? w _ h.1
abbrev RdW (w : World) (A : Option Addr) (n : Nat) (vs : List Wk) : Prop := Rd Wk.cells 11 w A n vs
theorem RdW.at_ {w : World} {A : Option Addr} {n : Nat} {vs : List Wk} (h : RdW w A n vs) {i : Nat} {v : Wk} (hv : vs[i]? = some v) : ∃ b o, A = some ⟨b, o, none⟩ ∧ b < w.heap.size ∧ WkAt w b (o + i * 11) v := by
  obtain ⟨b, o, hA, hb, hc⟩ := h.2 i v hv
  exact ⟨b, o, hA, hb, .of hc⟩

/-! ### small functions -/
def okN (a b : Int) : Bool := decide (0 ≤ a) && decide (a < 20) && decide (1 ≤ b) && decide (b ≤ 400)
def okP (a b : Int) : Bool := decide (0 ≤ a) && decide (a < 40) && decide (0 ≤ b) && decide (b ≤ 127)
def nameV (a b : Int) : Value := .agg #[.int .i64 a, .int .i64 b]

theorem there_any (a b : Int) (w : World) : Calls Try.prog 81 #[nameV a b] w fun e w' => e = .returned (.bool (okN a b)) ∧ Kp No w w' := by
  unfold nameV
  go_enter Try.func81, Try.ntmps81
  go_wp2
  all_goals
    go_ret
    refine ⟨ret_bool ?_, Kp.alloc _ _ _⟩
    first | (simp [okN, *]; done) | (simp [okN]; omega)
theorem rnamed_any (a b : Int) (w : World) : Calls Try.prog 73 #[.int .i64 a, .int .i64 b] w fun e w' => e = .returned (.bool (okN a b)) ∧ Kp No w w' := by
  go_enter Try.func73, Try.ntmps73
  go_wp2
  all_goals
    go_ret
    refine ⟨ret_bool ?_, Kp.refl _ _⟩
    first | (simp [okN, *]; done) | (simp [okN]; omega)
theorem pipe_any (a b : Int) (w : World) : Calls Try.prog 70 #[nameV a b] w fun e w' => e = .returned (.bool (okP a b)) ∧ Kp No w w' := by
  unfold nameV
  go_enter Try.func70, Try.ntmps70
  go_wp2
  all_goals
    go_ret
    refine ⟨ret_bool ?_, Kp.alloc _ _ _⟩
    first | (simp [okP, *]; done) | (simp [okP]; omega)
theorem rpipe_any (a b : Int) (w : World) : Calls Try.prog 72 #[nameV a b] w fun e w' => e = .returned (.bool (okP a b)) ∧ Kp No w w' := by
  unfold nameV
  go_enter Try.func72, Try.ntmps72
  go_wp2
  all_goals
    go_ret
    refine ⟨ret_bool ?_, Kp.alloc _ _ _⟩
    first | (simp [okP, *]; done) | (simp [okP]; omega)
theorem two_set {w w1 w2 : World} {t : TypeId} {x y a b : Value} (hk : Kp No w w1) (h : w1.heap[w.heap.size]? = some (.cells #[x, y] t (0, 0))) (h2 : w2 = ((w1.setCell ⟨w.heap.size, 0, none⟩ a).setCell ⟨w.heap.size, 1, none⟩ b).drew) : w2.cell? ⟨w.heap.size, 0, none⟩ = some a ∧ w2.cell? ⟨w.heap.size, 1, none⟩ = some b ∧ Kp No w w2 := by
  have hh : w2.heap[w.heap.size]? = some (.cells #[a, b] t (0, 0)) := by
    rw [h2]
    show ((w1.setCell ⟨w.heap.size, 0, none⟩ a).setCell ⟨w.heap.size, 1, none⟩ b).heap[w.heap.size]? = _
    simp [World.setCell, Array.getElem?_modify, h]
  refine ⟨by rw [cell_of_row _ _ _ _ _ _ hh]; rfl, by rw [cell_of_row _ _ _ _ _ _ hh]; rfl, ?_⟩
  rw [h2]
  exact (hk.trans ((kp_setOne _ _ _ _).tr (kp_setOne _ _ _ _)) fun k hk e => by have e : k = w.heap.size := e; omega).tr (Kp.drew _ _)
set_option maxHeartbeats 2000000 in
theorem of_any (b o : Nat) (v : Wk) (w : World) (h : WkAt w b o v) : Calls Try.prog 48 #[.pointer (some ⟨b, o, none⟩)] w fun e w' => e = .returned (nameV v.wk v.num) ∧ Kp No w w' := by
  have hb := h.lt
  unfold nameV
  go_enter Try.func48, Try.ntmps48
  go_wp2
  obtain ⟨w1, hw1⟩ : ∃ w1, w1 = w.alloc (.cells #[.int .i64 0, .int .i64 0] 74) := ⟨_, rfl⟩
  rw [← hw1]
  have hk1 : Kp No w w1 := by rw [hw1]; exact Kp.alloc _ _ _
  have hbx : w1.heap[w.heap.size]? = some (.cells #[.int .i64 0, .int .i64 0] 74 (0, 0)) := by rw [hw1]; exact heap_alloc_new _ _
  obtain ⟨h0, h1, _⟩ := h.no hk1
  have c0 : w1.cell? ⟨w.heap.size, 0, none⟩ = some (.int .i64 0) := by rw [cell_of_row _ _ _ _ _ _ hbx]; rfl
  have c1 : w1.cell? ⟨w.heap.size, 1, none⟩ = some (.int .i64 0) := by rw [cell_of_row _ _ _ _ _ _ hbx]; rfl
  have f0 : w1.frozen? ⟨w.heap.size, 0, none⟩ = false := by simp [World.frozen?, hbx]
  have f1 : w1.frozen? ⟨w.heap.size, 1, none⟩ = false := by simp [World.frozen?, hbx]
  clear hw1 h
  go_region
  go_wp2
  obtain ⟨p0, p1, hk⟩ := two_set (a := .int .i64 v.wk) (b := .int .i64 v.num) hk1 hbx rfl
  generalize ((w1.setCell ⟨w.heap.size, 0, none⟩ (.int .i64 v.wk)).setCell ⟨w.heap.size, 1, none⟩ (.int .i64 v.num)).drew = w2 at p0 p1 hk ⊢
  exact bodyPost_ret (v := .agg #[.int .i64 v.wk, .int .i64 v.num]) (by simp [results, Try.results48, go_sem, p0, p1]) rfl ⟨rfl, hk⟩
set_option maxHeartbeats 2000000 in
theorem onamed_any (b o : Nat) (v : Wk) (w : World) (h : WkAt w b o v) : Calls Try.prog 56 #[.pointer (some ⟨b, o, none⟩)] w fun e w' => e = .returned (nameV v.ow v.on) ∧ Kp No w w' := by
  have hb := h.lt
  unfold nameV
  go_enter Try.func56, Try.ntmps56
  go_wp2
  obtain ⟨w1, hw1⟩ : ∃ w1, w1 = w.alloc (.cells #[.int .i64 0, .int .i64 0] 74) := ⟨_, rfl⟩
  rw [← hw1]
  have hk1 : Kp No w w1 := by rw [hw1]; exact Kp.alloc _ _ _
  have hbx : w1.heap[w.heap.size]? = some (.cells #[.int .i64 0, .int .i64 0] 74 (0, 0)) := by rw [hw1]; exact heap_alloc_new _ _
  obtain ⟨_, _, _, _, _, _, _, _, h0, h1, _⟩ := h.no hk1
  have c0 : w1.cell? ⟨w.heap.size, 0, none⟩ = some (.int .i64 0) := by rw [cell_of_row _ _ _ _ _ _ hbx]; rfl
  have c1 : w1.cell? ⟨w.heap.size, 1, none⟩ = some (.int .i64 0) := by rw [cell_of_row _ _ _ _ _ _ hbx]; rfl
  have f0 : w1.frozen? ⟨w.heap.size, 0, none⟩ = false := by simp [World.frozen?, hbx]
  have f1 : w1.frozen? ⟨w.heap.size, 1, none⟩ = false := by simp [World.frozen?, hbx]
  clear hw1 h
  go_region
  go_wp2
  obtain ⟨p0, p1, hk⟩ := two_set (a := .int .i64 v.ow) (b := .int .i64 v.on) hk1 hbx rfl
  generalize ((w1.setCell ⟨w.heap.size, 0, none⟩ (.int .i64 v.ow)).setCell ⟨w.heap.size, 1, none⟩ (.int .i64 v.on)).drew = w2 at p0 p1 hk ⊢
  exact bodyPost_ret (v := .agg #[.int .i64 v.ow, .int .i64 v.on]) (by simp [results, Try.results56, go_sem, p0, p1]) rfl ⟨rfl, hk⟩

/-! ### texts -/
theorem take_snoc (s : ByteArray) (k : Nat) (h : k < s.size) : s.data.toList.take (k + 1) = s.data.toList.take k ++ [s[k]] := by
  rw [List.take_succ_eq_append_getElem (by simpa using h)]; rfl
theorem take_all (s : ByteArray) : s.data.toList.take s.size = s.data.toList := List.take_of_length_le (by simp)
def allT (l : List UInt8) : Bool := l.all fun c => decide (32 ≤ c.toNat) && decide (c.toNat ≤ 126)
def okT (s : ByteArray) : Bool := decide (s.size ≤ 200) && allT s.data.toList
theorem allT_snoc (l : List UInt8) (c : UInt8) : allT (l ++ [c]) = (allT l && (decide (32 ≤ c.toNat) && decide (c.toNat ≤ 126))) := by simp [allT]
theorem allT_stop {l : List UInt8} {c : UInt8} (h : c ∈ l) (hc : ¬ (32 ≤ c.toNat ∧ c.toNat ≤ 126)) : allT l = false := by
  rw [← Bool.not_eq_true]
  intro h2
  have := List.all_eq_true.1 h2 c h
  simp at this
  exact hc this
set_option maxHeartbeats 400000 in
theorem printed_any (s : ByteArray) (w : World) (hs : s.size ≤ maxLen) :
    Calls Try.prog 108 #[.string s, .int .u8 32] w fun e w' => e = .returned (.bool (allT s.data.toList)) ∧ w' = w := by
  unfold maxLen at hs
  go_enter Try.func108, Try.ntmps108
  go_wp2
  go_loop [8] (fun i => ∃ k : Nat, k ≤ s.size ∧ i = .int .i64 k ∧ allT (s.data.toList.take k) = true) (fun i => s.size - (intOf i).toNat)
  case atStart => exact ⟨0, Nat.zero_le _, rfl, rfl⟩
  case round =>
    obtain ⟨k, hk, rfl, hall⟩ := hrel
    have HA := Lib.hid hall
    clear hall
    by_cases hlt : k < s.size
    · have HS := Lib.hid (allT_snoc (s.data.toList.take k) s[k])
      have HT := Lib.hid (take_snoc s k hlt)
      have HM := Lib.hid (show s[k] ∈ s.data.toList from List.mem_of_mem_take (i := k + 1) (by rw [take_snoc s k hlt]; simp))
      go_wp2
      all_goals first
        | (go_ret
           exact ⟨ret_bool (by rw [allT_stop HM.out (by omega)]), rfl⟩)
        | (go_round
           case rel => exact ⟨k + 1, by omega, by go_num, by rw [HT.out, HS.out, HA.out, decide_eq_true (by omega : 32 ≤ s[k].toNat), decide_eq_true (by omega : s[k].toNat ≤ 126)]; rfl⟩
           case measure => simp [intOf]; omega)
    · obtain rfl : k = s.size := by omega
      go_wp2
      go_ret
      exact ⟨ret_bool (by rw [← HA.out, take_all]), rfl⟩
theorem text_any (s : ByteArray) (w : World) (hs : s.size ≤ maxLen) : Calls Try.prog 82 #[.string s] w fun e w' => e = .returned (.bool (okT s)) ∧ w' = w := by
  have hs' := hs
  unfold maxLen at hs'
  by_cases h : s.size ≤ 200
  · have HO := Lib.hid (show okT s = allT s.data.toList by unfold okT; rw [decide_eq_true h]; rfl)
    go_enter Try.func82, Try.ntmps82
    go_wp2_with (go_at_call 108; refine (printed_any s w hs).mono ?_; rintro e w' ⟨rfl, rfl⟩)
    all_goals
      go_ret
      exact ⟨ret_bool (by rw [HO.out]), rfl⟩
  · have HO := Lib.hid (show okT s = false by unfold okT; rw [decide_eq_false h]; rfl)
    go_enter Try.func82, Try.ntmps82
    go_wp2
    go_ret
    exact ⟨ret_bool (by rw [HO.out]), rfl⟩
set_option maxHeartbeats 400000 in
theorem rtext_any (s : ByteArray) (w : World) (hs : s.size ≤ maxLen) : Calls Try.prog 74 #[.string s] w fun e w' => e = .returned (.bool (okT s)) ∧ w' = w := by
  unfold maxLen at hs
  go_enter Try.func74, Try.ntmps74
  go_wp2
  go_loop [3] (fun i => ∃ k : Nat, k ≤ s.size ∧ i = .int .i64 k ∧ allT (s.data.toList.take k) = true) (fun i => s.size - (intOf i).toNat)
  case atStart => exact ⟨0, Nat.zero_le _, rfl, rfl⟩
  case round =>
    obtain ⟨k, hk, rfl, hall⟩ := hrel
    have HA := Lib.hid hall
    clear hall
    by_cases hlt : k < s.size
    · have HS := Lib.hid (allT_snoc (s.data.toList.take k) s[k])
      have HT := Lib.hid (take_snoc s k hlt)
      have HM := Lib.hid (show s[k] ∈ s.data.toList from List.mem_of_mem_take (i := k + 1) (by rw [take_snoc s k hlt]; simp))
      go_wp2
      all_goals first
        | (go_ret
           exact ⟨ret_bool (by unfold okT; rw [allT_stop HM.out (by omega), Bool.and_false]), rfl⟩)
        | (go_round
           case rel => exact ⟨k + 1, by omega, by go_num, by rw [HT.out, HS.out, HA.out, decide_eq_true (by omega : 32 ≤ s[k].toNat), decide_eq_true (by omega : s[k].toNat ≤ 126)]; rfl⟩
           case measure => simp [intOf]; omega)
    · obtain rfl : k = s.size := by omega
      go_wp2
      all_goals
        go_ret
        exact ⟨ret_bool (by unfold okT; rw [← take_all, HA.out, Bool.and_true, decide_eq_decide]; omega), rfl⟩
end Go.Proofs.Ytjbpdimepckmfaa
