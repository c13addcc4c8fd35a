/- spans: check, Check, fit, Add. · Chapter 09: outside, one, wrong, cut, spot: the small functions. · Chapter 09: where the cuts of a nest lie: plain. · An exchange of two elements of a row of one cell each (x[i], x[j] = x[j], x[i]), in a region that draws its order. No program in sight. · Chapter 09: the library's functions at this dump, as their contracts want them (printed by lay.py). -/
import Derived.Shelf.SlLaysF
import Derived.Shelf.SlLaysF0
import Derived.Ground.SlsfProg
import Derived.Shelf.SlGeneric
import Derived.Test.YtamjhpdgclbfgaaProg
import Derived.Test.YtamjhpdgclbfgaaXLibHvM
import Derived.Test.YtamjhpdgclbfgaaXLibReg
import Derived.Test.YtamjhpdgclbfgaaXLibRowM
namespace Go.Proofs.Ytamjhpdgclbfgaa
open Go.RowKit Go.Kq

def ivV (lo hi : Int) : Value := .agg #[.int .i64 lo, .int .i64 hi]
/-- The error of intervals. -/
def ckE (l : List (Int × Int)) : Int := if ∀ x ∈ l, fits x.1 = true ∧ fits x.2 = true then (if ∀ x ∈ l, x.1 ≤ x.2 then 0 else 2) else 7
theorem mem_take {α} {l : List α} {k : Nat} {x : α} (h : l[k]? = some x) : x ∈ l := List.mem_of_getElem? h
theorem all_take {α} {p : α → Prop} {l : List α} {k : Nat} {x : α} (h : ∀ y ∈ l.take k, p y) (hx : l[k]? = some x) (hp : p x) : ∀ y ∈ l.take (k + 1), p y := by
  intro y hy
  rw [List.take_add_one, hx] at hy
  rcases List.mem_append.1 hy with h1 | h1
  · exact h y h1
  · simp at h1
    rw [h1]
    exact hp
set_option maxHeartbeats 4000000 in
theorem check_any (l : List (Int × Int)) (g o n c : Nat) (w : World) (hl : l.length = n) (hn : n ≤ 1000)
    (hc : ∀ k x, l[k]? = some x → w.cell? ⟨g, o + k * 2, none⟩ = some (.int .i64 x.1) ∧ w.cell? ⟨g, o + k * 2 + 1, none⟩ = some (.int .i64 x.2)) :
    Calls Try.prog 70 #[.slice (some ⟨g, o, none⟩) n c] w fun e w' => e = .returned (.int .i64 (ckE l)) ∧ Kp No w w' := by
  have HC := Lib.hid hc
  clear hc
  have hnI : (n : Int) ≤ 1000 := by omega
  go_enter Try.func70, Try.ntmps70
  go_wp2_with fail
  go_loopw [9] (fun i wr => ∃ k : Nat, k ≤ n ∧ i = .int .i64 k ∧ (∀ x ∈ l.take k, fits x.1 = true ∧ fits x.2 = true) ∧ Kp No w wr) (fun i _ => n - (intOf i).toNat)
  case atStart => exact ⟨0, by omega, rfl, by simp, Kp.refl _ _⟩
  case round =>
    obtain ⟨k, hk, rfl, hall, hkp⟩ := hrel
    by_cases hkn : k < n
    · obtain ⟨x, hx⟩ : ∃ x, l[k]? = some x := ⟨l[k], List.getElem?_eq_getElem (by omega)⟩
      have c0 := hkp.cell (HC.out k x hx).1 (fun h => h)
      have c1 := hkp.cell (HC.out k x hx).2 (fun h => h)
      have hkI : (k : Int) < n := by omega
      have hw1 : IntKind.i64.wrap ((k : Int) + 1) = (k : Int) + 1 := by rw [IntKind.wrap_i64]; omega
      have HA := Lib.hid hall
      clear hall
      cases d1 : fits x.1
      · have HE := Lib.hid (show ckE l = 7 from by
          unfold ckE
          rw [if_neg]
          intro h
          have := (h x (mem_take hx)).1
          rw [d1] at this
          exact absurd this (by decide))
        go_wp2_with fail
        refine (number_any x.1 _).mono ?_
        rintro e w2 ⟨rfl, hw2⟩
        rw [d1]
        subst hw2
        go_wp2_with fail
        go_ret
        exact ⟨ret_i64 HE.out.symm, hkp.tr (Kp.alloc _ _ _)⟩
      · cases d2 : fits x.2
        · have HE := Lib.hid (show ckE l = 7 from by
            unfold ckE
            rw [if_neg]
            intro h
            have := (h x (mem_take hx)).2
            rw [d2] at this
            exact absurd this (by decide))
          go_wp2_with fail
          refine (number_any x.1 _).mono ?_
          rintro e w2 ⟨rfl, hw2⟩
          rw [d1]
          subst hw2
          go_wp2_with fail
          refine (number_any x.2 _).mono ?_
          rintro e w2 ⟨rfl, hw2⟩
          rw [d2]
          subst hw2
          go_wp2_with fail
          go_ret
          exact ⟨ret_i64 HE.out.symm, hkp.tr (Kp.alloc _ _ _)⟩
        · go_wp2_with fail
          refine (number_any x.1 _).mono ?_
          rintro e w2 ⟨rfl, hw2⟩
          rw [d1]
          subst hw2
          go_wp2_with fail
          refine (number_any x.2 _).mono ?_
          rintro e w2 ⟨rfl, hw2⟩
          rw [d2]
          subst hw2
          go_wp2_with fail
          go_roundw
          case rel => exact ⟨k + 1, by omega, by first | rfl | go_num, all_take HA.out hx ⟨d1, d2⟩, hkp.tr (Kp.alloc _ _ _)⟩
          case measure => simp [intOf]; omega
    · obtain rfl : k = n := by omega
      rw [List.take_of_length_le (by omega)] at hall
      have HA := Lib.hid hall
      clear hall
      go_wp2_with fail
      go_loopw [26] (fun i wr => ∃ k : Nat, k ≤ l.length ∧ i = .int .i64 k ∧ (∀ x ∈ l.take k, x.1 ≤ x.2) ∧ Kp No w wr) (fun i _ => l.length - (intOf i).toNat)
      case atStart => exact ⟨0, by omega, rfl, by simp, hkp⟩
      case round =>
        obtain ⟨m, hm, rfl, hle, hkp2⟩ := hrel
        by_cases hmn : m < l.length
        · obtain ⟨x, hx⟩ : ∃ x, l[m]? = some x := ⟨l[m], List.getElem?_eq_getElem (by omega)⟩
          have c0 := hkp2.cell (HC.out m x hx).1 (fun h => h)
          have c1 := hkp2.cell (HC.out m x hx).2 (fun h => h)
          have hmI : (m : Int) < k := by omega
          have hw1 : IntKind.i64.wrap ((m : Int) + 1) = (m : Int) + 1 := by rw [IntKind.wrap_i64]; omega
          have HL := Lib.hid hle
          clear hle
          by_cases hlt : x.2 < x.1
          · have HE := Lib.hid (show ckE l = 2 from by
              unfold ckE
              rw [if_pos HA.out, if_neg]
              intro h
              have := h x (mem_take hx)
              omega)
            go_wp2_with fail
            go_ret
            exact ⟨ret_i64 HE.out.symm, hkp2.tr (Kp.alloc _ _ _)⟩
          · have hlt' : x.1 ≤ x.2 := by omega
            go_wp2_with fail
            go_roundw
            case rel => exact ⟨m + 1, by omega, by first | rfl | go_num, all_take HL.out hx hlt', hkp2.tr (Kp.alloc _ _ _)⟩
            case measure => simp [intOf]; omega
        · rw [List.take_of_length_le (by omega)] at hle
          have HE := Lib.hid (show ckE l = 0 from by
            unfold ckE
            rw [if_pos HA.out, if_pos hle])
          have hmI : ¬ (m : Int) < k := by omega
          clear hle
          go_wp2_with fail
          go_ret
          exact ⟨ret_i64 HE.out.symm, hkp2⟩
end Go.Proofs.Ytamjhpdgclbfgaa

namespace Go.Proofs.Ytamjhpdgclbfgaa
open Go.RowKit Go.Kq

def outB (n a b : Int) : Bool := decide (n < a) || decide (b < n)
def badC (c : Ct) : Bool := outB c.w 1 20000000 || outB c.h 1 20000000
theorem outside_any (n a b : Int) (w : World) : Calls Try.prog 43 #[.int .i64 n, .int .i64 a, .int .i64 b] w fun e w' => e = .returned (.bool (outB n a b)) ∧ w' = w := by
  unfold outB
  go_enter Try.func43, Try.ntmps43
  go_wp2
  all_goals
    go_ret
    refine ⟨ret_bool ?_, rfl⟩
    first | (simp [*]; done) | (simp; omega)
theorem one_any (n : Int) (w : World) : Calls Try.prog 45 #[.int .i64 n] w fun e w' => e = .returned (ivV n n) ∧ Kp No w w' := by
  go_enter Try.func45, Try.ntmps45
  go_wp2
  have hk : Kp No w (w.alloc (.cells #[.int .i64 n, .int .i64 n] 40)) := Kp.alloc _ _ _
  have p0 : (w.alloc (.cells #[.int .i64 n, .int .i64 n] 40)).cell? ⟨w.heap.size, 0, none⟩ = some (.int .i64 n) := by go_simp
  have p1 : (w.alloc (.cells #[.int .i64 n, .int .i64 n] 40)).cell? ⟨w.heap.size, 1, none⟩ = some (.int .i64 n) := by go_simp
  generalize (w.alloc (.cells #[.int .i64 n, .int .i64 n] 40)) = w2 at p0 p1 hk ⊢
  exact bodyPost_ret (v := .agg #[.int .i64 n, .int .i64 n]) (by simp [results, Try.results45, go_sem, p0, p1]) rfl ⟨rfl, hk⟩
theorem cut_any (a b : Int) (w : World) : Calls Try.prog 24 #[.int .i64 a, .int .i64 b] w fun e w' => e = .returned (Ct.val ⟨a, b⟩) ∧ Kp No w w' := by
  go_enter Try.func24, Try.ntmps24
  go_wp2
  have hk : Kp No w (w.alloc (.cells #[.int .i64 a, .int .i64 b] 35)) := Kp.alloc _ _ _
  have p0 : (w.alloc (.cells #[.int .i64 a, .int .i64 b] 35)).cell? ⟨w.heap.size, 0, none⟩ = some (.int .i64 a) := by go_simp
  have p1 : (w.alloc (.cells #[.int .i64 a, .int .i64 b] 35)).cell? ⟨w.heap.size, 1, none⟩ = some (.int .i64 b) := by go_simp
  generalize (w.alloc (.cells #[.int .i64 a, .int .i64 b] 35)) = w2 at p0 p1 hk ⊢
  exact bodyPost_ret (v := .agg #[.int .i64 a, .int .i64 b]) (by simp [results, Try.results24, go_sem, p0, p1]) rfl ⟨rfl, hk⟩
theorem spot_any (a b c d : Int) (w : World) : Calls Try.prog 25 #[.int .i64 a, .int .i64 b, .int .i64 c, .int .i64 d] w fun e w' => e = .returned (Spo.val ⟨a, b, c, d⟩) ∧ Kp No w w' := by
  go_enter Try.func25, Try.ntmps25
  go_wp2
  have hk : Kp No w (w.alloc (.cells #[.int .i64 a, .int .i64 b, .int .i64 c, .int .i64 d] 52)) := Kp.alloc _ _ _
  have p0 : (w.alloc (.cells #[.int .i64 a, .int .i64 b, .int .i64 c, .int .i64 d] 52)).cell? ⟨w.heap.size, 0, none⟩ = some (.int .i64 a) := by go_simp
  have p1 : (w.alloc (.cells #[.int .i64 a, .int .i64 b, .int .i64 c, .int .i64 d] 52)).cell? ⟨w.heap.size, 1, none⟩ = some (.int .i64 b) := by go_simp
  have p2 : (w.alloc (.cells #[.int .i64 a, .int .i64 b, .int .i64 c, .int .i64 d] 52)).cell? ⟨w.heap.size, 2, none⟩ = some (.int .i64 c) := by go_simp
  have p3 : (w.alloc (.cells #[.int .i64 a, .int .i64 b, .int .i64 c, .int .i64 d] 52)).cell? ⟨w.heap.size, 3, none⟩ = some (.int .i64 d) := by go_simp
  generalize (w.alloc (.cells #[.int .i64 a, .int .i64 b, .int .i64 c, .int .i64 d] 52)) = w2 at p0 p1 p2 p3 hk ⊢
  exact bodyPost_ret (v := .agg #[.int .i64 a, .int .i64 b, .int .i64 c, .int .i64 d]) (by simp [results, Try.results25, go_sem, p0, p1, p2, p3]) rfl ⟨rfl, hk⟩
end Go.Proofs.Ytamjhpdgclbfgaa

namespace Go.Proofs.Ytamjhpdgclbfgaa
open Go.RowKit Go.Kq

/-- How high each plate is used, when shelves have been laid. -/
def topF (K : Int) : List (Nat × Int) → List Int → List Int
  | [], T => T
  | (o, h) :: r, T => topF K r (T.set o (T.getD o 0 + (h + K)))
def widF (K : Int) : List (Nat × Ct) → List Int → List Int
  | [], X => X
  | (k, c) :: r, X => widF K r (X.set k (X.getD k 0 + (c.w + K)))
theorem yF_snoc (K : Int) (o : Nat) (h : Int) : ∀ (L : List (Nat × Int)) (T : List Int), yF K (L ++ [(o, h)]) T = yF K L T ++ [(topF K L T).getD o 0]
  | [], T => rfl
  | (o', h') :: L, T => by
    simp only [List.cons_append, yF, topF]
    rw [yF_snoc K o h L]
theorem topF_snoc (K : Int) (o : Nat) (h : Int) : ∀ (L : List (Nat × Int)) (T : List Int), topF K (L ++ [(o, h)]) T = (topF K L T).set o ((topF K L T).getD o 0 + (h + K))
  | [], T => rfl
  | (o', h') :: L, T => by
    simp only [List.cons_append, topF]
    rw [topF_snoc K o h L]
theorem yF_len (K : Int) : ∀ (L : List (Nat × Int)) (T : List Int), (yF K L T).length = L.length
  | [], _ => rfl
  | (o, h) :: L, T => by simp only [yF, List.length_cons, yF_len K L]
theorem topF_len (K : Int) : ∀ (L : List (Nat × Int)) (T : List Int), (topF K L T).length = T.length
  | [], _ => rfl
  | (o, h) :: L, T => by
    simp only [topF]
    rw [topF_len K L, List.length_set]
theorem widF_len (K : Int) : ∀ (L : List (Nat × Ct)) (T : List Int), (widF K L T).length = T.length
  | [], _ => rfl
  | (o, h) :: L, T => by
    simp only [widF]
    rw [widF_len K L, List.length_set]
theorem spF_snoc (K : Int) (ON : List Nat) (Y : List Int) (k : Nat) (c : Ct) : ∀ (L : List (Nat × Ct)) (X : List Int), spF K ON Y (L ++ [(k, c)]) X = spF K ON Y L X ++ [⟨(ON.getD k 0 : Nat), (k : Nat), (widF K L X).getD k 0, Y.getD k 0⟩]
  | [], X => rfl
  | (k', c') :: L, X => by
    simp only [List.cons_append, spF, widF]
    rw [spF_snoc K ON Y k c L]
theorem widF_snoc (K : Int) (k : Nat) (c : Ct) : ∀ (L : List (Nat × Ct)) (X : List Int), widF K (L ++ [(k, c)]) X = (widF K L X).set k ((widF K L X).getD k 0 + (c.w + K))
  | [], X => rfl
  | (k', c') :: L, X => by
    simp only [List.cons_append, widF]
    rw [widF_snoc K k c L]
theorem spF_len (K : Int) (ON : List Nat) (Y : List Int) : ∀ (L : List (Nat × Ct)) (X : List Int), (spF K ON Y L X).length = L.length
  | [], _ => rfl
  | (k, c) :: L, X => by simp only [spF, List.length_cons, spF_len K ON Y L]
def bdL (M : Int) (T : List Int) : Prop := ∀ t ∈ T, 0 ≤ t ∧ t ≤ M
theorem bdL_at {M : Int} {T : List Int} (h : bdL M T) (hM : 0 ≤ M) (k : Nat) : 0 ≤ T.getD k 0 ∧ T.getD k 0 ≤ M := by
  rw [List.getD_eq_getElem?_getD]
  cases hk : T[k]? with
  | none => simp; exact hM
  | some t => exact h t (List.mem_of_getElem? hk)
theorem bdL_set {M M' : Int} {T : List Int} (h : bdL M T) (hM : M ≤ M') (k : Nat) {v : Int} (hv : 0 ≤ v ∧ v ≤ M') : bdL M' (T.set k v) := fun t ht => by
  rcases List.mem_or_eq_of_mem_set ht with ht | rfl
  · have := h t ht
    omega
  · exact hv
theorem bdL_zero (m : Nat) : bdL 0 (List.replicate m 0) := fun t ht => by
  have := (List.mem_replicate.1 ht).2
  omega
theorem zip_at {α β : Type} {a : List α} {b : List β} {k : Nat} {x : α} {y : β} (ha : a[k]? = some x) (hb : b[k]? = some y) : (a.zip b).take (k + 1) = (a.zip b).take k ++ [(x, y)] := by
  rw [List.take_add_one]
  congr 1
  rw [(List.getElem?_zip_eq_some (z := (x, y))).2 ⟨ha, hb⟩]
  rfl
theorem getD_of {α : Type} {l : List α} {k : Nat} {x d : α} (h : l[k]? = some x) : l.getD k d = x := by
  rw [List.getD_eq_getElem?_getD, h]
  rfl
theorem set_pad {α : Type} (a : List α) (x z : α) (m : Nat) : (a ++ List.replicate (m + 1) z).set a.length x = (a ++ [x]) ++ List.replicate m z := by
  rw [List.set_append_right _ _ (Nat.le_refl _), Nat.sub_self, List.replicate_succ]
  simp
theorem getD_at' {l : List Int} {k : Nat} (h : k < l.length) : l[k]? = some (l.getD k 0) := by
  rw [List.getD_eq_getElem?_getD, List.getElem?_eq_getElem h]
  rfl
theorem map_at' {α β : Type} (f : α → β) {l : List α} {k : Nat} {x : α} (h : l[k]? = some x) : (l.map f)[k]? = some (f x) := by
  rw [List.getElem?_map, h]
  rfl
end Go.Proofs.Ytamjhpdgclbfgaa

namespace Go.Kq
open Go.RowKit

/-- Operation la loads element j (vj), lb element i (vi); sa stores vj into i, sb stores vi into j. -/
structure Sw (w0 : World) (g base : Nat) (e : TypeId) (n c : Nat) (xs : List Value) (i j : Nat) (vi vj : Value) (la lb sa sb : Nat) (r : Nat → Option Value) (w : World) : Prop where
  kp : Kp (One g) w0 w
  row : w.ownsRow base e 1 (.slice (some ⟨g, 0, none⟩) n c) n ((r sb).elim ((r sa).elim xs fun _ => xs.set i vj) fun _ => ((r sa).elim xs fun _ => xs.set i vj).set j vi)
  da : r sa ≠ none → r lb ≠ none
  db : r sb ≠ none → r la ≠ none
section
variable {w0 w w' : World} {g base : Nat} {e : TypeId} {n c : Nat} {xs : List Value} {i j : Nat} {vi vj : Value} {la lb sa sb : Nat} {r : Nat → Option Value}
theorem Sw.start (h : w0.ownsRow base e 1 (.slice (some ⟨g, 0, none⟩) n c) n xs) : Sw w0 g base e n c xs i j vi vj la lb sa sb (fun _ => none) w0.drew :=
  ⟨Kp.drew _ _, (Kp.drew No w0).owns h fun _ _ h => h, fun h => absurd rfl h, fun h => absurd rfl h⟩
theorem Sw.upd (h : Sw w0 g base e n c xs i j vi vj la lb sa sb r w) (k : Nat) (v : Value) (h1 : k ≠ sa) (h2 : k ≠ sb) : Sw w0 g base e n c xs i j vi vj la lb sa sb (Kq.upd r k v) w := by
  have e1 := upd_ne r v h1.symm
  have e2 := upd_ne r v h2.symm
  have some_ : ∀ q, r q ≠ none → Kq.upd r k v q ≠ none := fun q hq => by
    by_cases hk : q = k
    · rw [hk, upd_same]
      simp
    · rw [upd_ne _ _ hk]
      exact hq
  exact ⟨h.kp, by rw [e1, e2]; exact h.row, fun x => some_ _ (h.da (e1 ▸ x)), fun x => some_ _ (h.db (e2 ▸ x))⟩
theorem Sw.loadj (h : Sw w0 g base e n c xs i j vi vj la lb sa sb r w) (hr : r la = none) (hne : i ≠ j) (hj : xs[j]? = some vj) : w.cell? ⟨g, j, none⟩ = some vj := by
  have hb : r sb = none := by
    cases hs : r sb with
    | none => rfl
    | some u => exact absurd hr (h.db (by rw [hs]; simp))
  have hrow := h.row
  rw [hb] at hrow
  refine own_cell hrow ?_
  cases hs : r sa with
  | none => exact hj
  | some u =>
    show (xs.set i vj)[j]? = some vj
    rw [List.getElem?_set_ne hne, hj]
theorem Sw.loadi (h : Sw w0 g base e n c xs i j vi vj la lb sa sb r w) (hr : r lb = none) (hne : i ≠ j) (hi : xs[i]? = some vi) : w.cell? ⟨g, i, none⟩ = some vi := by
  have ha : r sa = none := by
    cases hs : r sa with
    | none => rfl
    | some u => exact absurd hr (h.da (by rw [hs]; simp))
  have hrow := h.row
  rw [ha] at hrow
  refine own_cell hrow ?_
  cases hs : r sb with
  | none => exact hi
  | some u =>
    show (xs.set j vi)[i]? = some vi
    rw [List.getElem?_set_ne (fun e => hne e.symm), hi]
theorem Sw.sta (h : Sw w0 g base e n c xs i j vi vj la lb sa sb r w) (hr : r sa = none) (hl : r lb ≠ none) (hne : sa ≠ sb ∧ sa ≠ lb ∧ sa ≠ la) (hij : i ≠ j) (x : Value) : Sw w0 g base e n c xs i j vi vj la lb sa sb (Kq.upd r sa x) (w.setCell ⟨g, i, none⟩ vj) := by
  have e2 := upd_ne r x hne.1.symm
  have e3 := upd_ne r x hne.2.1.symm
  have e4 := upd_ne r x hne.2.2.symm
  have hrow := own_set h.row i vj
  refine ⟨h.kp.tr (kp_setOne _ _ _ _), ?_, fun _ => by rw [e3]; exact hl, fun y => by rw [e4]; exact h.db (e2 ▸ y)⟩
  rw [upd_same, e2]
  rw [hr] at hrow
  cases hs : r sb with
  | none => rw [hs] at hrow; exact hrow
  | some u =>
    rw [hs] at hrow
    replace hrow : (w.setCell ⟨g, i, none⟩ vj).ownsRow base e 1 (.slice (some ⟨g, 0, none⟩) n c) n ((xs.set j vi).set i vj) := hrow
    show (w.setCell ⟨g, i, none⟩ vj).ownsRow base e 1 (.slice (some ⟨g, 0, none⟩) n c) n ((xs.set i vj).set j vi)
    rw [List.set_comm _ _ hij]
    exact hrow
theorem Sw.stb (h : Sw w0 g base e n c xs i j vi vj la lb sa sb r w) (hr : r sb = none) (hl : r la ≠ none) (hne : sb ≠ sa ∧ sb ≠ lb ∧ sb ≠ la) (x : Value) : Sw w0 g base e n c xs i j vi vj la lb sa sb (Kq.upd r sb x) (w.setCell ⟨g, j, none⟩ vi) := by
  have e2 := upd_ne r x hne.1.symm
  have e3 := upd_ne r x hne.2.1.symm
  have e4 := upd_ne r x hne.2.2.symm
  have hrow := own_set h.row j vi
  refine ⟨h.kp.tr (kp_setOne _ _ _ _), ?_, fun y => by rw [e3]; exact h.da (e2 ▸ y), fun _ => by rw [e4]; exact hl⟩
  rw [upd_same, e2]
  rw [hr] at hrow
  exact hrow
theorem Sw.fin (h : Sw w0 g base e n c xs i j vi vj la lb sa sb r w) (h1 : r sa ≠ none) (h2 : r sb ≠ none) : w.ownsRow base e 1 (.slice (some ⟨g, 0, none⟩) n c) n ((xs.set i vj).set j vi) := by
  obtain ⟨z1, hz1⟩ := Option.ne_none_iff_exists'.1 h1
  obtain ⟨z2, hz2⟩ := Option.ne_none_iff_exists'.1 h2
  have hrow := h.row
  rw [hz1, hz2] at hrow
  exact hrow
theorem Sw.free (h : Sw w0 g base e n c xs i j vi vj la lb sa sb r w) (k : Nat) : w.frozen? ⟨g, k, none⟩ = false := own_free h.row k
end
end Go.Kq

namespace Go.Proofs.Ytamjhpdgclbfgaa
open Go.Shelf
def sortFI_ren : Go.Shelf.Ren := ⟨fun | 6 => 36 | 15 => 65 | 14 => 64 | 28 => 94 | 29 => 95 | 20 => 86 | 21 => 87 | 22 => 88 | 23 => 89 | 24 => 90 | 25 => 91 | 26 => 92 | 27 => 93 | 46 => 113 | 47 => 114 | 48 => 115 | 49 => 116 | 50 => 117 | 57 => 125 | n => n, fun | 22 => 57 | 24 => 3 | 25 => 76 | 3 => 3 | 39 => 109 | 0 => 0 | 53 => 142 | 55 => 115 | 4 => 4 | 46 => 135 | 45 => 134 | 50 => 139 | 5 => 5 | 9 => 9 | 66 => 163 | 70 => 167 | 76 => 177 | 77 => 178 | n => n, fun | n => n⟩
theorem sortFI : Go.Proofs.SlLaysF.n6 Try.prog sortFI_ren := {
  mixed := by kernel_rfl
  f6 := ⟨Try.f36.name, by decide, Try.func36.trans (congrArg some (by kernel_rfl))⟩
  f14 := ⟨Try.f64.name, by decide, Try.func64.trans (congrArg some (by kernel_rfl))⟩
  f15 := Try.func65.trans (congrArg some (by kernel_rfl))
  f20 := ⟨Try.f86.name, by decide, Try.func86.trans (congrArg some (by kernel_rfl))⟩
  f21 := ⟨Try.f87.name, by decide, Try.func87.trans (congrArg some (by kernel_rfl))⟩
  f22 := ⟨Try.f88.name, by decide, Try.func88.trans (congrArg some (by kernel_rfl))⟩
  f23 := ⟨Try.f89.name, by decide, Try.func89.trans (congrArg some (by kernel_rfl))⟩
  f24 := ⟨Try.f90.name, by decide, Try.func90.trans (congrArg some (by kernel_rfl))⟩
  f25 := ⟨Try.f91.name, by decide, Try.func91.trans (congrArg some (by kernel_rfl))⟩
  f26 := ⟨Try.f92.name, by decide, Try.func92.trans (congrArg some (by kernel_rfl))⟩
  f27 := ⟨Try.f93.name, by decide, Try.func93.trans (congrArg some (by kernel_rfl))⟩
  f28 := Try.func94.trans (congrArg some (by kernel_rfl))
  f29 := Try.func95.trans (congrArg some (by kernel_rfl))
  f46 := ⟨Try.f113.name, by decide, Try.func113.trans (congrArg some (by kernel_rfl))⟩
  f47 := Try.func114.trans (congrArg some (by kernel_rfl))
  f48 := Try.func115.trans (congrArg some (by kernel_rfl))
  f49 := ⟨Try.f116.name, by decide, Try.func116.trans (congrArg some (by kernel_rfl))⟩
  f50 := ⟨Try.f117.name, by decide, Try.func117.trans (congrArg some (by kernel_rfl))⟩
  f57 := ⟨Try.f125.name, by decide, Try.func125.trans (congrArg some (by kernel_rfl))⟩
  t0 := Try.underlying0
  a0 := Try.isAgg0
  z0 := Try.sizeOf0
  v0 := Try.zeroValue0
  t3 := Try.underlying3
  a3 := Try.isAgg3
  z3 := Try.sizeOf3
  v3 := Try.zeroValue3
  t4 := Try.underlying4
  a4 := Try.isAgg4
  z4 := Try.sizeOf4
  v4 := Try.zeroValue4
  t5 := Try.underlying5
  a5 := Try.isAgg5
  z5 := Try.sizeOf5
  v5 := Try.zeroValue5
  t9 := Try.underlying9
  a9 := Try.isAgg9
  z9 := Try.sizeOf9
  v9 := Try.zeroValue9
  t22 := Try.underlying57
  a22 := Try.isAgg57
  z22 := Try.sizeOf57
  v22 := Try.zeroValue57
  a24 := Try.isAgg3
  z24 := Try.sizeOf3
  t25 := Try.underlying76
  a25 := Try.isAgg76
  z25 := Try.sizeOf76
  v25 := Try.zeroValue76
  t39 := Try.underlying109
  a39 := Try.isAgg109
  z39 := Try.sizeOf109
  v39 := Try.zeroValue109
  t45 := Try.underlying134
  a45 := Try.isAgg134
  z45 := Try.sizeOf134
  v45 := Try.zeroValue134
  t46 := Try.underlying135
  a46 := Try.isAgg135
  z46 := Try.sizeOf135
  v46 := Try.zeroValue135
  t50 := Try.underlying139
  a50 := Try.isAgg139
  z50 := Try.sizeOf139
  v50 := Try.zeroValue139
  t53 := Try.underlying142
  a53 := Try.isAgg142
  z53 := Try.sizeOf142
  v53 := Try.zeroValue142
  t55 := Try.underlying115
  a55 := Try.isAgg115
  z55 := Try.sizeOf115
  v55 := Try.zeroValue115
  t66 := Try.underlying163
  a66 := Try.isAgg163
  z66 := Try.sizeOf163
  v66 := Try.zeroValue163
  t70 := Try.underlying167
  a70 := Try.isAgg167
  z70 := Try.sizeOf167
  v70 := Try.zeroValue167
  t76 := Try.underlying177
  a76 := Try.isAgg177
  z76 := Try.sizeOf177
  v76 := Try.zeroValue177
  t77 := Try.underlying178
  a77 := Try.isAgg178
  z77 := Try.sizeOf178
  v77 := Try.zeroValue178 }
end Go.Proofs.Ytamjhpdgclbfgaa
