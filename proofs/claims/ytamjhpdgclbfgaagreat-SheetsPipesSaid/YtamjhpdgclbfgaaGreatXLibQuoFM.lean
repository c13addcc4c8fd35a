/- cmp.Compare of integers, cmp.Or: contracts. · cmp.Compare of int64. · cmp.Or of integers. · Chapter 09: cuts, plates, spots; the nest by shelves as the program seeks it: plain. · Chapter 09: values and cells of cuts, plates and spots; the first place at which a test holds. · Chapter 09: outside, one, wrong, cut, spot: the small functions. · Great numbers by limbs: Valid, bad, Small: walks. · Fractions and whole numbers: floor and ceil are the roundings. No program in sight. -/
import Derived.Test.YtamjhpdgclbfgaaGreatProg
import Derived.KernelRfl
import Derived.StillTailTactics
import Derived.Test.YtamjhpdgclbfgaaGreatXLibMakeM
import Derived.Test.YtamjhpdgclbfgaaGreatXNtdM
import Derived.Test.YtamjhpdgclbfgaaGreatXNtjM
import Derived.Test.YtamjhpdgclbfgaaGreatXLibTakeM
namespace Go.Proofs.YtamjhpdgclbfgaaGreat
open Go.RowKit Go.Kq

def cmpI (x y : Int) : Int := if x < y then -1 else if y < x then 1 else 0
def orL : List Int → Int
  | [] => 0
  | x :: l => if x = 0 then orL l else x
theorem isNaNI (x : Int) (w : World) : Calls Tryz.prog 113 #[.int .i64 x] w fun e w' => e = .returned (.bool false) ∧ w' = w := by
  go_enter Tryz.func113, Tryz.ntmps113
  go_wp2
  go_ret
  exact ⟨ret_bool (by simp), rfl⟩
set_option maxHeartbeats 1000000 in
theorem cmpI_any (x y : Int) (w : World) : Calls Tryz.prog 91 #[.int .i64 x, .int .i64 y] w fun e w' => e = .returned (.int .i64 (cmpI x y)) ∧ w' = w := by
  go_enter Tryz.func91, Tryz.ntmps91
  go_wp2_with (go_at_call 113; refine (isNaNI _ _).mono ?_; rintro e w' ⟨rfl, rfl⟩)
  all_goals
    go_ret
    refine ⟨ret_i64 ?_, rfl⟩
    unfold cmpI
    (repeat' split) <;> first | rfl | (exfalso; omega)
end Go.Proofs.YtamjhpdgclbfgaaGreat

namespace Go.Proofs.YtamjhpdgclbfgaaGreat
open Go.RowKit Go.Kq
theorem isNaNL (x : Int) (w : World) : Calls Tryz.prog 112 #[.int .i64 x] w fun e w' => e = .returned (.bool false) ∧ w' = w := by
  go_enter Tryz.func112, Tryz.ntmps112
  go_wp2
  go_ret
  exact ⟨ret_bool (by simp), rfl⟩
set_option maxHeartbeats 1000000 in
theorem cmpL_any (x y : Int) (w : World) : Calls Tryz.prog 90 #[.int .i64 x, .int .i64 y] w fun e w' => e = .returned (.int .i64 (cmpI x y)) ∧ w' = w := by
  go_enter Tryz.func90, Tryz.ntmps90
  go_wp2_with (go_at_call 112; refine (isNaNL _ _).mono ?_; rintro e w' ⟨rfl, rfl⟩)
  all_goals
    go_ret
    refine ⟨ret_i64 ?_, rfl⟩
    unfold cmpI
    (repeat' split) <;> first | rfl | (exfalso; omega)
end Go.Proofs.YtamjhpdgclbfgaaGreat

namespace Go.Proofs.YtamjhpdgclbfgaaGreat
open Go.RowKit Go.Kq
theorem orL_drop : ∀ (xs : List Int) (k : Nat), (∀ j x, j < k → xs[j]? = some x → x = 0) → orL xs = orL (xs.drop k)
  | [], k, _ => by simp
  | x :: xs, 0, _ => rfl
  | x :: xs, k + 1, h => by
    have h0 := h 0 x (by omega) rfl
    rw [List.drop_succ_cons, ← orL_drop xs k fun j y hj hy => h (j + 1) y (by omega) (by simpa using hy)]
    simp [orL, h0]
set_option maxHeartbeats 1000000 in
theorem or_any (A : Option Addr) (n cap : Nat) (xs : List Int) (w : World) (hx : RdI .i64 w A n xs) (hn : n ≤ 1000000) :
    Calls Tryz.prog 89 #[.slice A n cap] w fun e w' => e = .returned (.int .i64 (orL xs)) ∧ w' = w := by
  have hl := hx.1
  go_enter Tryz.func89, Tryz.ntmps89
  go_wp2_with fail
  go_loop [8] (fun i => ∃ k : Nat, k ≤ n ∧ i = .int .i64 k ∧ ∀ j x, j < k → xs[j]? = some x → x = 0) (fun i => n - (intOf i).toNat)
  case atStart => exact ⟨0, by omega, rfl, fun j x h => by omega⟩
  case round =>
    obtain ⟨k, hk, rfl, hz⟩ := hrel
    have HZ := Lib.hid hz
    clear hz
    by_cases hlt : k < n
    · obtain ⟨x, hxk⟩ : ∃ x, xs[k]? = some x := ⟨_, List.getElem?_eq_getElem (by omega)⟩
      obtain ⟨b, o, rfl, hb, c0⟩ := hx.2 k x hxk
      have HX := Lib.hid hxk
      clear hxk
      by_cases h0 : x = 0
      · subst h0
        go_wp2
        go_round
        case rel =>
          refine ⟨k + 1, by omega, by go_num, fun j y hj hy => ?_⟩
          by_cases e : j = k
          · subst e
            have := HX.out
            rw [hy] at this
            cases this
            rfl
          · exact HZ.out j y (by omega) hy
        case measure => simp [intOf]; omega
      · have hne : (x == 0) = false := by rw [beq_eq_false_iff_ne]; exact h0
        go_wp2
        go_ret
        refine ⟨ret_i64 ?_, rfl⟩
        rw [orL_drop xs k HZ.out, List.drop_eq_getElem_cons (by omega)]
        have := HX.out
        rw [List.getElem?_eq_getElem (by omega)] at this
        simp at this
        simp [orL, this, h0]
    · go_wp2
      go_ret
      refine ⟨ret_i64 ?_, rfl⟩
      rw [orL_drop xs k HZ.out, List.drop_of_length_le (by omega)]
      rfl
end Go.Proofs.YtamjhpdgclbfgaaGreat

namespace Go.Proofs.YtamjhpdgclbfgaaGreat

structure Ct where
  (w h : Int)
deriving DecidableEq, Inhabited
structure Pt where
  (w h k : Int)
deriving DecidableEq, Inhabited
structure Spo where
  (p s x y : Int)
deriving DecidableEq, Inhabited
/-- The heights at which shelves lie: T = how high each plate is used. -/
def yF (K : Int) : List (Nat × Int) → List Int → List Int
  | [], _ => []
  | (o, h) :: r, T => T.getD o 0 :: yF K r (T.set o (T.getD o 0 + (h + K)))
/-- The spots: X = how wide each shelf is used. -/
def spF (K : Int) (ON : List Nat) (Y : List Int) : List (Nat × Ct) → List Int → List Spo
  | [], _ => []
  | (k, c) :: r, X => ⟨(ON.getD k 0 : Nat), (k : Nat), X.getD k 0, Y.getD k 0⟩ :: spF K ON Y r (X.set k (X.getD k 0 + (c.w + K)))
def spotsF (K : Int) (l : List Ct) (S ON : List Nat) (H : List Int) (u : Nat) : List Spo :=
  spF K ON (yF K (ON.zip H) (List.replicate u 0)) (S.zip l) (List.replicate H.length 0)
abbrev Bst := Option (List Spo × Int × Int)
def cmpS (a b : Spo) : Int := orL [cmpI a.p b.p, cmpI a.s b.s]
def cmpSs : List Spo → List Spo → Int
  | [], [] => 0
  | [], _ :: _ => -1
  | _ :: _, [] => 1
  | a :: x, b :: y => if cmpS a b ≠ 0 then cmpS a b else cmpSs x y
def keepF (K : Int) (l : List Ct) (S ON : List Nat) (H U : List Int) (B : Bst) : Bst :=
  let s := spotsF K l S ON H U.length
  match B with
  | none => some (s, (U.length : Int), U.sum)
  | some (b, c, d) => if orL [cmpI U.length c, cmpI U.sum d, cmpSs s b] < 0 then some (s, (U.length : Int), U.sum) else B
def prunedB (U : List Int) (B : Bst) : Bool :=
  match B with
  | none => false
  | some (_, c, _) => decide (c < (U.length : Int))
def stackF (P : Pt) (l : List Ct) (S : List Nat) (H : List Int) : List Int → List Nat → List Int → Bst → Bst
  | [], ON, U, B => if prunedB U B then B else keepF P.k l S ON H U B
  | h :: hs, ON, U, B => if prunedB U B then B else
    stackF P l S H hs (ON ++ [U.length]) (U ++ [h]) ((List.range U.length).foldl (fun B on => if P.h < U.getD on 0 + P.k + h then B else stackF P l S H hs (ON ++ [on]) (U.set on (U.getD on 0 + P.k + h)) B) B)
def shelvesF (P : Pt) (l : List Ct) : List Ct → List Nat → List Int → List Int → Bst → Bst
  | [], S, _, H, B => stackF P l S H H [] [] B
  | x :: xs, S, W, H, B =>
    shelvesF P l xs (S ++ [W.length]) (W ++ [x.w]) (H ++ [x.h]) ((List.range W.length).foldl (fun B k => if P.w < W.getD k 0 + P.k + x.w then B else shelvesF P l xs (S ++ [k]) (W.set k (W.getD k 0 + P.k + x.w)) (H.set k (max (H.getD k 0) x.h)) B) B)
def nestF (P : Pt) (l : List Ct) : List Spo := match shelvesF P l l [] [] [] none with | some (b, _) => b | none => []
/-- The first place at which a test holds, or the length. -/
def firstI {α : Type} (p : α → Bool) : List α → Nat
  | [] => 0
  | a :: l => if p a then 0 else firstI p l + 1
structure Qs where
  (sh : List Spo) (tp : List Int) (out : List Spo)
deriving Inhabited
def qNew (P : Pt) (c : Ct) (q : Qs) : Qs :=
  let on := firstI (fun y => decide (y + c.h ≤ P.h)) q.tp
  let tp := if on = q.tp.length then q.tp ++ [0] else q.tp
  { q with sh := q.sh ++ [⟨(on : Nat), (q.sh.length : Nat), 0, tp.getD on 0⟩], tp := tp.set on (tp.getD on 0 + (c.h + P.k)) }
def qPut (P : Pt) (c : Ct) (i k : Nat) (q : Qs) : Qs :=
  let s := q.sh.getD k default
  { q with out := q.out.set i s, sh := q.sh.set k { s with x := s.x + (c.w + P.k) } }
def qStep (P : Pt) (l : List Ct) (q : Qs) (i : Nat) : Qs :=
  let c := l.getD i default
  let k := firstI (fun s : Spo => decide (s.x + c.w ≤ P.w)) q.sh
  qPut P c i k (if k = q.sh.length then qNew P c q else q)
def befF (l : List Ct) (a b : Nat) : Int := orL [cmpI (l.getD b default).h (l.getD a default).h, cmpI (l.getD b default).w (l.getD a default).w, cmpI a b]
def insF (l : List Ct) (i : Nat) : List Nat → List Nat
  | [] => [i]
  | a :: r => if befF l a i < 0 then a :: insF l i r else i :: a :: r
def ordF (l : List Ct) : List Nat := (List.range l.length).foldl (fun o i => insF l i o) []
def quickF (P : Pt) (l : List Ct) : List Spo := ((ordF l).foldl (qStep P l) ⟨[], [], List.replicate l.length default⟩).out
theorem quick_ex : quickF ⟨10, 10, 0⟩ [⟨4, 4⟩, ⟨9, 5⟩, ⟨5, 3⟩] = [⟨0, 1, 0, 5⟩, ⟨0, 0, 0, 0⟩, ⟨0, 1, 4, 5⟩] := by kernel_rfl
theorem nest_ex : nestF ⟨10, 10, 0⟩ [⟨4, 4⟩, ⟨9, 5⟩, ⟨5, 3⟩] = [⟨0, 0, 0, 0⟩, ⟨0, 1, 0, 4⟩, ⟨0, 0, 4, 0⟩] := by kernel_rfl
end Go.Proofs.YtamjhpdgclbfgaaGreat

namespace Go.Proofs.YtamjhpdgclbfgaaGreat
open Go.RowKit Go.Kq

def Ct.cells (c : Ct) : List Value := [.int .i64 c.w, .int .i64 c.h]
def Ct.val (c : Ct) : Value := .agg #[.int .i64 c.w, .int .i64 c.h]
def Pt.cells (c : Pt) : List Value := [.int .i64 c.w, .int .i64 c.h, .int .i64 c.k]
def Pt.val (c : Pt) : Value := .agg #[.int .i64 c.w, .int .i64 c.h, .int .i64 c.k]
def Spo.cells (c : Spo) : List Value := [.int .i64 c.p, .int .i64 c.s, .int .i64 c.x, .int .i64 c.y]
def Spo.val (c : Spo) : Value := .agg #[.int .i64 c.p, .int .i64 c.s, .int .i64 c.x, .int .i64 c.y]
def i64V (x : Int) : Value := .int .i64 x
theorem ct_len (c : Ct) : c.cells.length = 2 := rfl
theorem spo_len (c : Spo) : c.cells.length = 4 := rfl
abbrev RdC (w : World) (A : Option Addr) (n : Nat) (l : List Ct) : Prop := Rd Ct.cells 2 w A n l
abbrev RdS (w : World) (A : Option Addr) (n : Nat) (l : List Spo) : Prop := Rd Spo.cells 4 w A n l
theorem any_take_succ {α : Type} (p : α → Bool) (l : List α) (k : Nat) (v : α) (h : l[k]? = some v) : (l.take (k + 1)).any p = ((l.take k).any p || p v) := by
  rw [List.take_add_one, h]
  simp
theorem firstI_le {α : Type} (p : α → Bool) : ∀ l : List α, firstI p l ≤ l.length
  | [] => Nat.le_refl _
  | a :: l => by
    have := firstI_le p l
    simp only [firstI, List.length_cons]
    split <;> omega
theorem firstI_at {α : Type} {p : α → Bool} : ∀ {l : List α} {k : Nat} {v : α}, (l.take k).any p = false → l[k]? = some v → p v = true → firstI p l = k
  | [], _, _, _, h, _ => by simp at h
  | a :: l, 0, v, _, h, hp => by
    simp at h
    subst h
    simp [firstI, hp]
  | a :: l, k + 1, v, hn, h, hp => by
    simp only [List.take_succ_cons, List.any_cons, Bool.or_eq_false_iff] at hn
    simp only [firstI, hn.1]
    rw [firstI_at hn.2 (by simpa using h) hp]
    rfl
theorem firstI_none {α : Type} {p : α → Bool} : ∀ {l : List α}, l.any p = false → firstI p l = l.length
  | [], _ => rfl
  | a :: l, h => by
    simp only [List.any_cons, Bool.or_eq_false_iff] at h
    simp only [firstI, h.1, firstI_none h.2]
    rfl
theorem firstI_some {α : Type} {p : α → Bool} : ∀ {l : List α}, l.any p = true → firstI p l < l.length
  | [], h => by simp at h
  | a :: l, h => by
    simp only [firstI]
    cases ha : p a
    · have := firstI_some (p := p) (l := l) (by simpa [ha] using h)
      simp
      omega
    · simp
def ixI {α : Type} (p : α → Bool) (l : List α) : Int := if firstI p l < l.length then (firstI p l : Nat) else -1
theorem ixI_at {α : Type} {p : α → Bool} {l : List α} {k : Nat} {v : α} (h : (l.take k).any p = false) (hv : l[k]? = some v) (hp : p v = true) : ixI p l = (k : Nat) := by
  have := firstI_at h hv hp
  unfold ixI
  rw [this, if_pos (List.getElem?_eq_some_iff.1 hv).1]
theorem ixI_none {α : Type} {p : α → Bool} {l : List α} (h : l.any p = false) : ixI p l = -1 := by
  unfold ixI
  rw [firstI_none h, if_neg (by omega)]
theorem ixI_any {α : Type} (p : α → Bool) (l : List α) : decide (0 ≤ ixI p l) = l.any p := by
  unfold ixI
  cases h : l.any p
  · rw [firstI_none h, if_neg (by omega)]
    rfl
  · rw [if_pos (firstI_some h), decide_eq_true_eq]
    omega
end Go.Proofs.YtamjhpdgclbfgaaGreat

namespace Go.Proofs.YtamjhpdgclbfgaaGreat
open Go.RowKit Go.Kq

def outB (n a b : Int) : Bool := decide (n < a) || decide (b < n)
def badC (c : Ct) : Bool := outB c.w 1 20000000 || outB c.h 1 20000000
theorem outside_any (n a b : Int) (w : World) : Calls Tryz.prog 14 #[.int .i64 n, .int .i64 a, .int .i64 b] w fun e w' => e = .returned (.bool (outB n a b)) ∧ w' = w := by
  unfold outB
  go_enter Tryz.func14, Tryz.ntmps14
  go_wp2
  all_goals
    go_ret
    refine ⟨ret_bool ?_, rfl⟩
    first | (simp [*]; done) | (simp; omega)
theorem one_any (n : Int) (w : World) : Calls Tryz.prog 16 #[.int .i64 n] w fun e w' => e = .returned (ivV n n) ∧ Kp No w w' := by
  go_enter Tryz.func16, Tryz.ntmps16
  go_wp2
  have hk : Kp No w (w.alloc (.cells #[.int .i64 n, .int .i64 n] 38)) := Kp.alloc _ _ _
  have p0 : (w.alloc (.cells #[.int .i64 n, .int .i64 n] 38)).cell? ⟨w.heap.size, 0, none⟩ = some (.int .i64 n) := by go_simp
  have p1 : (w.alloc (.cells #[.int .i64 n, .int .i64 n] 38)).cell? ⟨w.heap.size, 1, none⟩ = some (.int .i64 n) := by go_simp
  generalize (w.alloc (.cells #[.int .i64 n, .int .i64 n] 38)) = w2 at p0 p1 hk ⊢
  exact bodyPost_ret (v := .agg #[.int .i64 n, .int .i64 n]) (by simp [results, Tryz.results16, go_sem, p0, p1]) rfl ⟨rfl, hk⟩
theorem cut_any (a b : Int) (w : World) : Calls Tryz.prog 27 #[.int .i64 a, .int .i64 b] w fun e w' => e = .returned (Ct.val ⟨a, b⟩) ∧ Kp No w w' := by
  go_enter Tryz.func27, Tryz.ntmps27
  go_wp2
  have hk : Kp No w (w.alloc (.cells #[.int .i64 a, .int .i64 b] 25)) := Kp.alloc _ _ _
  have p0 : (w.alloc (.cells #[.int .i64 a, .int .i64 b] 25)).cell? ⟨w.heap.size, 0, none⟩ = some (.int .i64 a) := by go_simp
  have p1 : (w.alloc (.cells #[.int .i64 a, .int .i64 b] 25)).cell? ⟨w.heap.size, 1, none⟩ = some (.int .i64 b) := by go_simp
  generalize (w.alloc (.cells #[.int .i64 a, .int .i64 b] 25)) = w2 at p0 p1 hk ⊢
  exact bodyPost_ret (v := .agg #[.int .i64 a, .int .i64 b]) (by simp [results, Tryz.results27, go_sem, p0, p1]) rfl ⟨rfl, hk⟩
theorem spot_any (a b c d : Int) (w : World) : Calls Tryz.prog 31 #[.int .i64 a, .int .i64 b, .int .i64 c, .int .i64 d] w fun e w' => e = .returned (Spo.val ⟨a, b, c, d⟩) ∧ Kp No w w' := by
  go_enter Tryz.func31, Tryz.ntmps31
  go_wp2
  have hk : Kp No w (w.alloc (.cells #[.int .i64 a, .int .i64 b, .int .i64 c, .int .i64 d] 58)) := Kp.alloc _ _ _
  have p0 : (w.alloc (.cells #[.int .i64 a, .int .i64 b, .int .i64 c, .int .i64 d] 58)).cell? ⟨w.heap.size, 0, none⟩ = some (.int .i64 a) := by go_simp
  have p1 : (w.alloc (.cells #[.int .i64 a, .int .i64 b, .int .i64 c, .int .i64 d] 58)).cell? ⟨w.heap.size, 1, none⟩ = some (.int .i64 b) := by go_simp
  have p2 : (w.alloc (.cells #[.int .i64 a, .int .i64 b, .int .i64 c, .int .i64 d] 58)).cell? ⟨w.heap.size, 2, none⟩ = some (.int .i64 c) := by go_simp
  have p3 : (w.alloc (.cells #[.int .i64 a, .int .i64 b, .int .i64 c, .int .i64 d] 58)).cell? ⟨w.heap.size, 3, none⟩ = some (.int .i64 d) := by go_simp
  generalize (w.alloc (.cells #[.int .i64 a, .int .i64 b, .int .i64 c, .int .i64 d] 58)) = w2 at p0 p1 p2 p3 hk ⊢
  exact bodyPost_ret (v := .agg #[.int .i64 a, .int .i64 b, .int .i64 c, .int .i64 d]) (by simp [results, Tryz.results31, go_sem, p0, p1, p2, p3]) rfl ⟨rfl, hk⟩
end Go.Proofs.YtamjhpdgclbfgaaGreat

namespace Go.Proofs.YtamjhpdgclbfgaaGreat
open Go.RowKit Go.Kq

theorem IsNat.top {w : World} {v : Value} {N k : Nat} (h : IsNat w v N k) : ∃ A n c l, v = .slice A n c ∧ NatAt w A n l ∧ valN BB l = N ∧ n ≤ k ∧ ∀ j, n = j + 1 → ∃ y, l[j]? = some y ∧ y ≠ 0 := by
  obtain ⟨A, n, c, l, h1, h2, h3, h4, h5, h6⟩ := h
  refine ⟨A, n, c, l, h1, h2, h3, h4, fun j hj => ?_⟩
  have hl := h2.len
  obtain ⟨y, hy⟩ : ∃ y, l[j]? = some y := ⟨_, List.getElem?_eq_getElem (by omega)⟩
  refine ⟨y, hy, fun h0 => ?_⟩
  subst h0
  have e := valN_take BB l j 0 hy
  rw [List.take_of_length_le (by omega), h3] at e
  have g := valN_lt (show 0 < BB by unfold BB; omega) (l.take j) fun x hx => h2.small x (List.mem_of_mem_take hx)
  rw [List.length_take, Nat.min_eq_left (by omega)] at g
  have := h6 j hj
  omega
set_option maxHeartbeats 1000000 in
theorem valid_is (v : Value) (N k : Nat) (w : World) (h : IsNat w v N k) (hk : k ≤ 300) :
    Calls Tryz.prog 94 #[v] w fun e w' => e = .returned (.bool true) ∧ w = w' := by
  obtain ⟨A, n, c, l, rfl, h1, hN, h3, h5⟩ := h.top
  clear h
  rcases n with _ | j
  · clear h1 h5
    go_enter Tryz.func94, Tryz.ntmps94
    go_wp2_with fail
    go_ret
    exact ⟨rfl, rfl⟩
  · obtain ⟨y, hy, hy0⟩ := h5 j rfl
    obtain ⟨b, o, rfl, hb, c0⟩ := h1.at_ j y hy
    have hne := Lib.hid (show ((y : Int) != 0) = true from bne_iff_ne.2 (by omega))
    have g0 : ((j + 1 : Nat) : Int) = (j : Int) + 1 := by omega
    have g1 : (((j : Int) + 1) == 0) = false := by rw [beq_eq_false_iff_ne]; omega
    have g2 : IntKind.i64.wrap (j : Int) = (j : Int) := by rw [IntKind.wrap_i64]; omega
    have g4 : (0 : Int) ≤ (j : Int) := by omega
    have g5 : (j : Int) < (j : Int) + 1 := by omega
    have g6 : (j : Int) + 1 ≤ 512 := by omega
    clear h1 h5 hy hy0 hN
    go_enter Tryz.func94, Tryz.ntmps94
    go_wp2_with fail
    go_ret
    exact ⟨ret_bool hne.out, rfl⟩
set_option maxHeartbeats 1000000 in
theorem bad_is (b n c : Nat) (vs : List (Value × Nat)) (w : World) (hl : vs.length = n) (hn : n ≤ 100) (hc : ∀ (i : Nat) x, vs[i]? = some x → w.cell? ⟨b, i, none⟩ = some x.1 ∧ IsNat w x.1 x.2 300) :
    Calls Tryz.prog 73 #[.slice (some ⟨b, 0, none⟩) n c] w fun e w' => e = .returned (.int .i64 0) ∧ w = w' := by
  have HC := Lib.hid hc
  clear hc
  go_enter Tryz.func73, Tryz.ntmps73
  go_wp2_with fail
  go_loop [3] (fun s => ∃ k : Nat, k ≤ n ∧ s = .int .i64 k) (fun s => n - (intOf s).toNat)
  case atStart => exact ⟨0, by omega, rfl⟩
  case round =>
    obtain ⟨k, hk, rfl⟩ := hrel
    by_cases hlt : k < n
    · obtain ⟨x, hx⟩ : ∃ x, vs[k]? = some x := ⟨_, List.getElem?_eq_getElem (by omega)⟩
      obtain ⟨c0, h0⟩ := HC.out k x hx
      obtain ⟨A, m, cc, l, he, _, _, h3, _⟩ := h0.top
      rw [he] at c0
      have hm : (m : Int) ≤ 300 := by omega
      clear hx h0 he
      go_wp2_with fail
      go_round
      case rel => exact ⟨k + 1, by omega, by go_num⟩
      case measure => simp [intOf] <;> omega
    · obtain rfl : k = n := by omega
      have hkk : ¬ ((k : Int) < (k : Int)) := by omega
      go_wp2_with fail
      go_loop [4] (fun s => ∃ j : Nat, j ≤ k ∧ s = .int .i64 j) (fun s => k - (intOf s).toNat)
      case atStart => exact ⟨0, by omega, rfl⟩
      case round =>
        obtain ⟨j, hj, rfl⟩ := hrel
        by_cases hlt2 : j < k
        · obtain ⟨x, hx⟩ : ∃ x, vs[j]? = some x := ⟨_, List.getElem?_eq_getElem (by omega)⟩
          obtain ⟨c0, h0⟩ := HC.out j x hx
          have VA := Lib.hid (valid_is x.1 x.2 300 w h0 (by omega))
          obtain ⟨x1, x2⟩ := x
          simp only at c0 VA
          clear hx h0
          go_wp2_with fail
          refine VA.out.mono ?_
          rintro _ w2 ⟨rfl, rfl⟩
          go_wp2_with fail
          go_round
          case rel => exact ⟨j + 1, by omega, by go_num⟩
          case measure => simp [intOf] <;> omega
        · obtain rfl : j = k := by omega
          go_wp2_with fail
          go_ret
          exact ⟨rfl, rfl⟩
theorem valN_two {l : List Nat} (h : l.length ≤ 2) : valN BB l = limN l 1 * BB + limN l 0 := by
  match l, h with
  | [], _ => rfl
  | [x], _ => simp [valN, limN]
  | [x, y], _ =>
    simp only [valN, limN, List.getD_cons_zero, List.getD_cons_succ, Nat.mul_zero, Nat.add_zero]
    rw [Nat.mul_comm BB y, Nat.add_comm]
/-- What Small gives. -/
def smallV (x : Nat) : Value := if x < 18446744073709551616 then .tuple #[.int .u64 (x : Nat), .int .i64 0] else .tuple #[.int .u64 0, .int .i64 7]
set_option maxHeartbeats 1000000 in
theorem small_is (v : Value) (x k : Nat) (w : World) (h : IsNat w v x k) (hk : k ≤ 300) :
    Calls Tryz.prog 49 #[v] w fun e w' => e = .returned (smallV x) ∧ Kp No w w' := by
  have BD := Lib.hid (fun (g : Nat) (w0 : World) (hc : w0.cell? ⟨g, 0, none⟩ = some v) (hk : Kp No w w0) => bad_is g 1 1 [(v, x)] w0 rfl (by omega) (fun i y hy => by
    match i, hy with
    | 0, hy => simp at hy; subst hy; exact ⟨hc, (h.no hk).le (by omega)⟩
    | i + 1, hy => simp at hy))
  have LB := Lib.hid (fun w0 (hk : Kp No w w0) => h.no hk)
  obtain ⟨A, n, c, l, rfl, h1, hN, h3, h4, h5⟩ := h
  have LM := Lib.hid (fun i w0 (hk : Kp No w w0) => limb_any A n c i l w0 (h1.no hk) (by omega))
  have hll := h1.len
  have hsm := limN_lt (show 0 < BB by unfold BB; omega) h1.small
  by_cases h2 : n ≤ 2
  · have hv := valN_two (l := l) (by omega)
    rw [hN] at hv
    have s0 := hsm 0
    have s1 := hsm 1
    have hx : x < 18446744073709551616 := by unfold BB at s0 s1 hv; omega
    unfold smallV
    rw [if_pos hx]
    have L0 := fun w0 hk => LM.out 0 w0 hk
    have L1 := fun w0 hk => LM.out 1 w0 hk
    generalize limN l 0 = p at *
    generalize limN l 1 = q at *
    obtain ⟨X, hX⟩ : ∃ X : Int, (x : Int) = X := ⟨_, rfl⟩
    rw [hX]
    have w1 : IntKind.u64.wrap ((q : Int) * 4294967296) = (q : Int) * 4294967296 := by unfold BB at s1; rw [IntKind.wrap_u64]; omega
    have w2 : IntKind.u64.wrap ((q : Int) * 4294967296 + (p : Int)) = X := by unfold BB at s0 s1 hv; rw [IntKind.wrap_u64]; omega
    have L0 := Lib.hid L0
    have L1 := Lib.hid L1
    have hnI : (n : Int) ≤ 2 := by omega
    clear hv s0 s1 hX hx hN h4 h5 h1 hll hsm LM LB h2 h3
    generalize ((p : Nat) : Int) = P at *
    generalize ((q : Nat) : Int) = Q at *
    go_enter Tryz.func49, Tryz.ntmps49
    generalize hB : (4294967296 : Int) = B at *
    have HB := Lib.hid hB
    clear hB
    go_wp2_with fail
    have KA := Kp.alloc No w (.cells #[.slice A n c] 74)
    refine (BD.out w.heap.size _ (by rw [cell_of_row _ _ _ _ _ _ (heap_alloc_new w _)]; rfl) KA).mono ?_
    rintro _ w2 ⟨rfl, rfl⟩
    have KA := Lib.hid KA
    generalize w.alloc (.cells #[.slice A n c] 74) = wa at *
    go_wp2_with fail
    refine (L1.out wa KA.out).mono ?_
    rintro _ w3 ⟨rfl, rfl⟩
    go_wp2_with fail
    refine (L0.out w3 KA.out).mono ?_
    rintro _ w4 ⟨rfl, rfl⟩
    go_wp2_with fail
    refine bodyPost_ret (v := .tuple #[.int .u64 X, .int .i64 0]) (by simp [results, Tryz.results49, go_sem]) rfl ⟨rfl, KA.out⟩
  · have hx : ¬ x < 18446744073709551616 := by
      obtain ⟨j, rfl⟩ : ∃ j, n = j + 3 := ⟨n - 3, by omega⟩
      have g1 := h5 (j + 2) rfl
      have g2 : BB ^ 2 ≤ BB ^ (j + 2) := Nat.pow_le_pow_right (by unfold BB; omega) (by omega)
      have g3 : BB ^ 2 = 18446744073709551616 := rfl
      omega
    unfold smallV
    rw [if_neg hx]
    have hnI : (2 : Int) < (n : Int) := by omega
    clear hN h4 h5 h1 hll hsm LM LB h2 h3 hx
    go_enter Tryz.func49, Tryz.ntmps49
    go_wp2_with fail
    have KA := Kp.alloc No w (.cells #[.slice A n c] 74)
    refine (BD.out w.heap.size _ (by rw [cell_of_row _ _ _ _ _ _ (heap_alloc_new w _)]; rfl) KA).mono ?_
    rintro _ w2 ⟨rfl, rfl⟩
    go_wp2_with fail
    refine bodyPost_ret (v := .tuple #[.int .u64 0, .int .i64 7]) (by simp [results, Tryz.results49, go_sem]) rfl ⟨rfl, KA⟩
end Go.Proofs.YtamjhpdgclbfgaaGreat

namespace Go.Kq

theorem floor_rnd {q : Rat} {V d : Int} (hd : 0 < d) (hq : q * (d : Rat) = (V : Rat)) : q.floor = rnd false V d := by
  obtain ⟨h1, h2⟩ := rnd_down V hd
  generalize rnd false V d = z at h1 h2 ⊢
  have hd' : (0 : Rat) < (d : Rat) := Rat.intCast_lt_intCast.2 hd
  have a : z ≤ q.floor := Rat.le_floor_iff.2 (Rat.le_of_mul_le_mul_right (by
    rw [hq, ← Rat.intCast_mul]
    exact Rat.intCast_le_intCast.2 h1) hd')
  have b : q.floor < z + 1 := Rat.floor_lt_iff.2 ((Rat.mul_lt_mul_right hd').1 (by
    rw [hq, ← Rat.intCast_mul]
    exact Rat.intCast_lt_intCast.2 (by rw [Int.add_mul]; omega)))
  omega
theorem ceil_rnd {q : Rat} {V d : Int} (hd : 0 < d) (hq : q * (d : Rat) = (V : Rat)) : q.ceil = rnd true V d := by
  rw [Rat.ceil_eq_neg_floor_neg, floor_rnd (V := -V) hd (by rw [Rat.neg_mul, hq, Rat.intCast_neg])]
  rfl
theorem scale_mul (x num den : Int) (hd : 0 < den) : (x : Rat) * ((num : Rat) / (den : Rat)) * (den : Rat) = ((x * num : Int) : Rat) := by
  have hne : (den : Rat) ≠ 0 := fun h => by
    have := (Rat.intCast_lt_intCast (a := 0) (b := den)).2 hd
    rw [h] at this
    exact absurd this (by decide)
  rw [Rat.mul_assoc, Rat.div_mul_cancel hne, Rat.intCast_mul]
theorem div_nn (num den : Int) (hn : 0 ≤ num) (hd : 0 < den) : (0 : Rat) ≤ (num : Rat) / (den : Rat) := by
  have hd' : (0 : Rat) < (den : Rat) := Rat.intCast_lt_intCast.2 hd
  refine Rat.le_of_mul_le_mul_right (c := (den : Rat)) ?_ hd'
  rw [Rat.div_mul_cancel (fun h => by rw [h] at hd'; exact absurd hd' (by decide)), Rat.zero_mul]
  exact Rat.intCast_le_intCast (a := 0).2 hn
theorem disc_mul (b k : Int) : ((b : Rat) * (b : Rat) * (((1 : Int) : Rat) / ((4 : Int) : Rat))) * ((k : Rat) / ((1000000000000000000 : Int) : Rat)) * ((4000000000000000000 : Int) : Rat) = ((b * b * k : Int) : Rat) := by
  have h4 : ((4 : Int) : Rat) ≠ 0 := by decide
  have h1 : ((1000000000000000000 : Int) : Rat) ≠ 0 := by decide
  have e : ((4000000000000000000 : Int) : Rat) = ((4 : Int) : Rat) * ((1000000000000000000 : Int) : Rat) := by rw [← Rat.intCast_mul]; rfl
  rw [e, Rat.intCast_mul, Rat.intCast_mul]
  generalize ((1000000000000000000 : Int) : Rat) = M at *
  have e1 : (k : Rat) / M * (((4 : Int) : Rat) * M) = ((4 : Int) : Rat) * (k : Rat) := by
    rw [Rat.mul_comm ((4 : Int) : Rat) M, ← Rat.mul_assoc, Rat.div_mul_cancel h1, Rat.mul_comm]
  rw [Rat.mul_assoc _ ((k : Rat) / M), e1, Rat.mul_assoc ((b : Rat) * (b : Rat)), ← Rat.mul_assoc (((1 : Int) : Rat) / ((4 : Int) : Rat)), Rat.div_mul_cancel h4, Rat.intCast_one, Rat.one_mul]
end Go.Kq
