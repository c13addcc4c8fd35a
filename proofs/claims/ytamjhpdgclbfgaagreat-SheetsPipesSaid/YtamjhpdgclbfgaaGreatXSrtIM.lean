/- Fractions: badq, Quo, turned: walks. · Chapter 09: where the cuts of a nest lie: plain. · An exchange of two elements of a row of one cell each (x[i], x[j] = x[j], x[i]), in a region that draws its order. No program in sight. · Chapter 09: the library's functions at this dump, as their contracts want them (printed by lay.py). -/
import Derived.Shelf.SlLaysF
import Derived.Shelf.SlLaysF0
import Derived.Ground.SlsfProg
import Derived.Shelf.SlGeneric
import Derived.Test.YtamjhpdgclbfgaaGreatProg
import Derived.Test.YtamjhpdgclbfgaaGreatXNtl
import Derived.Test.YtamjhpdgclbfgaaGreatXLibQuoFM
import Derived.Test.YtamjhpdgclbfgaaGreatXLibReg
import Derived.Test.YtamjhpdgclbfgaaGreatXLibMakeM
namespace Go.Proofs.YtamjhpdgclbfgaaGreat
open Go.RowKit Go.Kq

/-- Fractions that lie in memory one behind the other. -/
def QAt (w : World) (b : Nat) (qs : List Rat) : Prop := ∀ (i : Nat) q, qs[i]? = some q → ∃ n d, w.cell? ⟨b, i * 3, none⟩ = some (.bool (negQ q)) ∧ w.cell? ⟨b, i * 3 + 1, none⟩ = some n ∧ w.cell? ⟨b, i * 3 + 2, none⟩ = some d ∧ IsQuo w (.agg #[.bool (negQ q), n, d]) q 300
theorem QAt.no {w w' : World} {b : Nat} {qs : List Rat} (h : QAt w b qs) (hk : Kp No w w') : QAt w' b qs := fun i q hq => by
  obtain ⟨n, d, h1, h2, h3, h4⟩ := h i q hq
  exact ⟨n, d, hk.cell h1 id, hk.cell h2 id, hk.cell h3 id, h4.no hk⟩
theorem IsQuo.lens {w : World} {n d : Value} {b : Bool} {q : Rat} {k : Nat} (h : IsQuo w (.agg #[.bool b, n, d]) q k) : ∃ A m c B m2 c2, n = .slice A m c ∧ d = .slice B m2 c2 ∧ m ≤ k ∧ m2 ≤ k := by
  obtain ⟨n', d', e, h1, h2⟩ := h
  injection e with e
  simp at e
  obtain ⟨_, rfl, rfl⟩ := e
  obtain ⟨A, m, c, _, rfl, _, _, h3, _⟩ := h1.pos
  obtain ⟨B, m2, c2, _, rfl, _, _, h4, _⟩ := h2.pos
  exact ⟨A, m, c, B, m2, c2, rfl, rfl, h3, h4⟩
set_option maxHeartbeats 1000000 in
theorem badq_is (b n c : Nat) (qs : List Rat) (w : World) (hl : qs.length = n) (hn : n ≤ 100) (hc : QAt w b qs) :
    Calls Tryz.prog 81 #[.slice (some ⟨b, 0, none⟩) n c] w fun e w' => e = .returned (.int .i64 0) ∧ Kp No w w' := by
  have HC := Lib.hid hc
  clear hc
  go_enter Tryz.func81, Tryz.ntmps81
  go_wp2_with fail
  go_loop [3] (fun s => ∃ k : Nat, k ≤ n ∧ s = .int .i64 k) (fun s => n - (intOf s).toNat)
  case atStart => exact ⟨0, by omega, rfl⟩
  case round =>
    obtain ⟨k, hk, rfl⟩ := hrel
    by_cases hlt : k < n
    · obtain ⟨x, hx⟩ : ∃ x, qs[k]? = some x := ⟨_, List.getElem?_eq_getElem (by omega)⟩
      obtain ⟨nn, dd, c0, c1, c2, h0⟩ := HC.out k x hx
      obtain ⟨A, m, cc, B, m2, cc2, rfl, rfl, h3, h4⟩ := h0.lens
      have hm : (m : Int) ≤ 300 := by omega
      have hm2 : (m2 : Int) ≤ 300 := by omega
      clear hx h0
      go_wp2_with fail
      go_round
      case rel => exact ⟨k + 1, by omega, by go_num⟩
      case measure => simp [intOf] <;> omega
    · obtain rfl : k = n := by omega
      have hkk : ¬ ((k : Int) < (k : Int)) := by omega
      go_wp2_with fail
      go_loopw [4] (fun s wr => ∃ j : Nat, j ≤ k ∧ s = .int .i64 j ∧ Kp No w wr) (fun s _ => k - (intOf s).toNat)
      case atStart => exact ⟨0, by omega, rfl, Kp.refl _ _⟩
      case round =>
        obtain ⟨j, hj, rfl, hkp⟩ := hrel
        have KP := Lib.hid hkp
        by_cases hlt2 : j < k
        · obtain ⟨x, hx⟩ : ∃ x, qs[j]? = some x := ⟨_, List.getElem?_eq_getElem (by omega)⟩
          obtain ⟨nn, dd, c0, c1, c2, h0⟩ := (HC.out.no hkp) j x hx
          have PR := Lib.hid (proper_is _ x 300 wr h0 (by omega) (by omega))
          clear hx h0 hkp
          go_wp2_with fail
          refine PR.out.mono ?_
          rintro _ w2 ⟨rfl, hk2⟩
          have KP2 := Lib.hid (KP.out.tr hk2)
          clear hk2
          go_wp2_with fail
          go_round
          case rel => exact ⟨j + 1, by omega, by go_num, KP2.out⟩
          case measure => simp [intOf] <;> omega
        · obtain rfl : j = k := by omega
          go_wp2_with fail
          go_ret
          exact ⟨rfl, KP.out⟩
theorem negQ_int (n : Int) : negQ (n : Rat) = decide (n < 0) := rfl
set_option maxHeartbeats 1000000 in
theorem quo_is (n : Int) (w : World) (hn : -9223372036854775808 < n ∧ n < 9223372036854775808) :
    Calls Tryz.prog 41 #[.int .i64 n] w fun e w' => ∃ z, e = .returned z ∧ QuoNew w.heap.size w' z (n : Rat) 2 ∧ Kp No w w' := by
  have OF := Lib.hid (fun (x : Nat) (z : Int) (hz : z = (x : Int)) (hx : x < 18446744073709551616) w0 => show Calls Tryz.prog 47 #[.int .u64 z] w0 fun e w' => ∃ v, e = .returned v ∧ IsNew w0.heap.size w' v x 2 ∧ Kp No w0 w' by subst hz; exact of_any x w0 hx)
  have KB := Lib.hid (Kp.alloc No w (.cells #[.bool false, .slice none 0 0, .slice none 0 0] 76))
  have HB0 := Lib.hid (at_newQ w (.cells #[.bool false, .slice none 0 0, .slice none 0 0] 76))
  have SB := Lib.hid (show w.heap.size < (w.alloc (.cells #[.bool false, .slice none 0 0, .slice none 0 0] 76)).heap.size by simp)
  have FIN := Lib.hid (fun (w' w4 : World) (b : Bool) (u v : Value) (hb : b = decide (n < 0)) (hu : IsNew (w.heap.size + 1) w' u n.natAbs 2) (hv : IsNew (w.heap.size + 1) w' v 1 2) (hk : Kp (Kq.One w.heap.size) w' w4) => show QuoNew w.heap.size w4 (.agg #[.bool b, u, v]) (n : Rat) 2 from ⟨u, v, by rw [negQ_int, hb], (hu.kp hk (by omega)).mono (by omega), (hv.kp hk (by omega)).mono (by omega)⟩)
  by_cases hneg : n < 0
  all_goals
    obtain ⟨x, hx⟩ : ∃ x, x = n.natAbs := ⟨_, rfl⟩
    have hxx : IntKind.u64.wrap n = (x : Int) ∨ n < 0 := by
      rcases Int.lt_or_le n 0 with h | h
      · exact .inr h
      · left; rw [IntKind.wrap_u64]; omega
    have hx1 : IntKind.i64.wrap (-n) = -n := by rw [IntKind.wrap_i64]; omega
    have hx2 : IntKind.u64.wrap (-n) = -n ∨ 0 ≤ n := by
      rcases Int.lt_or_le n 0 with h | h
      · left; rw [IntKind.wrap_u64]; omega
      · exact .inr h
    have OX := fun z hz w0 => OF.out x z hz (by omega) w0
    rw [← hx] at FIN
    go_enter Tryz.func41, Tryz.ntmps41
    have HX := Lib.hid hx
    have OX := Lib.hid OX
    clear hx hn
  · have w1 : IntKind.u64.wrap (-n) = -n := by omega
    have e1 : -n = (x : Int) := by have := HX.out; omega
    have E1 := Lib.hid e1
    clear hxx hx2 e1
    go_wp2_with fail
    refine (OX.out _ E1.out _).mono ?_
    rintro _ w2 ⟨u, rfl, hu, k2⟩
    have U2 := Lib.hid (hu.mono (show w.heap.size + 1 ≤ _ from SB.out))
    have K2 := Lib.hid (KB.out.tr k2)
    have B2 := Lib.hid (k2.heap HB0.out id)
    have S2 := Lib.hid (show w.heap.size + 1 ≤ w2.heap.size from Nat.le_trans SB.out k2.size)
    clear hu k2
    go_wp2_with fail
    refine (ofone_any _).mono ?_
    rintro _ w3 ⟨v, rfl, hv, k3⟩
    have V3 := Lib.hid (hv.mono S2.out)
    have U3 := Lib.hid (U2.out.no k3)
    have K3 := Lib.hid (K2.out.tr k3)
    have B3 := k3.heap B2.out id
    clear hv k3
    obtain ⟨A, m, c, _, rfl, _⟩ := U3.out.1.pos
    obtain ⟨B, m2, c2, _, rfl, _⟩ := V3.out.1.pos
    obtain ⟨x0, x1, x2, y0, y1, y2⟩ := three_cells B3
    have B3 := Lib.hid B3
    go_wp2_with fail
    have hs := setQ_at B3.out (.bool true) (.slice A m c) (.slice B m2 c2)
    have hk := kp_setQ w3 w.heap.size (.bool true) (.slice A m c) (.slice B m2 c2)
    obtain ⟨z0, z1, z2, _⟩ := three_cells hs
    exact bodyPost_ret (v := .agg #[.bool true, .slice A m c, .slice B m2 c2]) (by simp [results, Tryz.results41, go_sem, z0, z1, z2]) rfl ⟨_, rfl, FIN.out w3 _ true (.slice A m c) (.slice B m2 c2) (by simp [hneg]) U3.out V3.out hk, K3.out.trans hk (fun k hk e => by unfold Kq.One at e; omega)⟩
  · have w1 : IntKind.u64.wrap n = n := by have := HX.out; omega
    have e1 : n = (x : Int) := by have := HX.out; omega
    have E1 := Lib.hid e1
    clear hxx hx2 e1
    go_wp2_with fail
    refine (OX.out _ E1.out _).mono ?_
    rintro _ w2 ⟨u, rfl, hu, k2⟩
    have U2 := Lib.hid (hu.mono (show w.heap.size + 1 ≤ _ from SB.out))
    have K2 := Lib.hid (KB.out.tr k2)
    have B2 := Lib.hid (k2.heap HB0.out id)
    have S2 := Lib.hid (show w.heap.size + 1 ≤ w2.heap.size from Nat.le_trans SB.out k2.size)
    clear hu k2
    go_wp2_with fail
    refine (ofone_any _).mono ?_
    rintro _ w3 ⟨v, rfl, hv, k3⟩
    have V3 := Lib.hid (hv.mono S2.out)
    have U3 := Lib.hid (U2.out.no k3)
    have K3 := Lib.hid (K2.out.tr k3)
    have B3 := k3.heap B2.out id
    clear hv k3
    obtain ⟨A, m, c, _, rfl, _⟩ := U3.out.1.pos
    obtain ⟨B, m2, c2, _, rfl, _⟩ := V3.out.1.pos
    obtain ⟨x0, x1, x2, y0, y1, y2⟩ := three_cells B3
    have B3 := Lib.hid B3
    go_wp2_with fail
    have hs := setQ_at B3.out (.bool false) (.slice A m c) (.slice B m2 c2)
    have hk := kp_setQ w3 w.heap.size (.bool false) (.slice A m c) (.slice B m2 c2)
    obtain ⟨z0, z1, z2, _⟩ := three_cells hs
    exact bodyPost_ret (v := .agg #[.bool false, .slice A m c, .slice B m2 c2]) (by simp [results, Tryz.results41, go_sem, z0, z1, z2]) rfl ⟨_, rfl, FIN.out w3 _ false (.slice A m c) (.slice B m2 c2) (by simp [hneg]) U3.out V3.out hk, K3.out.trans hk (fun k hk e => by unfold Kq.One at e; omega)⟩
end Go.Proofs.YtamjhpdgclbfgaaGreat

namespace Go.Proofs.YtamjhpdgclbfgaaGreat
open Go.RowKit Go.Kq

/-- How high each plate is used, when shelves have been laid. -/
def topF (K : Int) : List (Nat × Int) → List Int → List Int
  | [], T => T
  | (o, h) :: r, T => topF K r (T.set o (T.getD o 0 + (h + K)))
def widF (K : Int) : List (Nat × Ct) → List Int → List Int
  | [], X => X
  | (k, c) :: r, X => widF K r (X.set k (X.getD k 0 + (c.w + K)))
theorem yF_snoc (K : Int) (o : Nat) (h : Int) : ∀ (L : List (Nat × Int)) (T : List Int), yF K (L ++ [(o, h)]) T = yF K L T ++ [(topF K L T).getD o 0]
  | [], T => rfl
  | (o', h') :: L, T => by
    simp only [List.cons_append, yF, topF]
    rw [yF_snoc K o h L]
theorem topF_snoc (K : Int) (o : Nat) (h : Int) : ∀ (L : List (Nat × Int)) (T : List Int), topF K (L ++ [(o, h)]) T = (topF K L T).set o ((topF K L T).getD o 0 + (h + K))
  | [], T => rfl
  | (o', h') :: L, T => by
    simp only [List.cons_append, topF]
    rw [topF_snoc K o h L]
theorem yF_len (K : Int) : ∀ (L : List (Nat × Int)) (T : List Int), (yF K L T).length = L.length
  | [], _ => rfl
  | (o, h) :: L, T => by simp only [yF, List.length_cons, yF_len K L]
theorem topF_len (K : Int) : ∀ (L : List (Nat × Int)) (T : List Int), (topF K L T).length = T.length
  | [], _ => rfl
  | (o, h) :: L, T => by
    simp only [topF]
    rw [topF_len K L, List.length_set]
theorem widF_len (K : Int) : ∀ (L : List (Nat × Ct)) (T : List Int), (widF K L T).length = T.length
  | [], _ => rfl
  | (o, h) :: L, T => by
    simp only [widF]
    rw [widF_len K L, List.length_set]
theorem spF_snoc (K : Int) (ON : List Nat) (Y : List Int) (k : Nat) (c : Ct) : ∀ (L : List (Nat × Ct)) (X : List Int), spF K ON Y (L ++ [(k, c)]) X = spF K ON Y L X ++ [⟨(ON.getD k 0 : Nat), (k : Nat), (widF K L X).getD k 0, Y.getD k 0⟩]
  | [], X => rfl
  | (k', c') :: L, X => by
    simp only [List.cons_append, spF, widF]
    rw [spF_snoc K ON Y k c L]
theorem widF_snoc (K : Int) (k : Nat) (c : Ct) : ∀ (L : List (Nat × Ct)) (X : List Int), widF K (L ++ [(k, c)]) X = (widF K L X).set k ((widF K L X).getD k 0 + (c.w + K))
  | [], X => rfl
  | (k', c') :: L, X => by
    simp only [List.cons_append, widF]
    rw [widF_snoc K k c L]
theorem spF_len (K : Int) (ON : List Nat) (Y : List Int) : ∀ (L : List (Nat × Ct)) (X : List Int), (spF K ON Y L X).length = L.length
  | [], _ => rfl
  | (k, c) :: L, X => by simp only [spF, List.length_cons, spF_len K ON Y L]
def bdL (M : Int) (T : List Int) : Prop := ∀ t ∈ T, 0 ≤ t ∧ t ≤ M
theorem bdL_at {M : Int} {T : List Int} (h : bdL M T) (hM : 0 ≤ M) (k : Nat) : 0 ≤ T.getD k 0 ∧ T.getD k 0 ≤ M := by
  rw [List.getD_eq_getElem?_getD]
  cases hk : T[k]? with
  | none => simp; exact hM
  | some t => exact h t (List.mem_of_getElem? hk)
theorem bdL_set {M M' : Int} {T : List Int} (h : bdL M T) (hM : M ≤ M') (k : Nat) {v : Int} (hv : 0 ≤ v ∧ v ≤ M') : bdL M' (T.set k v) := fun t ht => by
  rcases List.mem_or_eq_of_mem_set ht with ht | rfl
  · have := h t ht
    omega
  · exact hv
theorem bdL_zero (m : Nat) : bdL 0 (List.replicate m 0) := fun t ht => by
  have := (List.mem_replicate.1 ht).2
  omega
theorem zip_at {α β : Type} {a : List α} {b : List β} {k : Nat} {x : α} {y : β} (ha : a[k]? = some x) (hb : b[k]? = some y) : (a.zip b).take (k + 1) = (a.zip b).take k ++ [(x, y)] := by
  rw [List.take_add_one]
  congr 1
  rw [(List.getElem?_zip_eq_some (z := (x, y))).2 ⟨ha, hb⟩]
  rfl
theorem getD_of {α : Type} {l : List α} {k : Nat} {x d : α} (h : l[k]? = some x) : l.getD k d = x := by
  rw [List.getD_eq_getElem?_getD, h]
  rfl
theorem set_pad {α : Type} (a : List α) (x z : α) (m : Nat) : (a ++ List.replicate (m + 1) z).set a.length x = (a ++ [x]) ++ List.replicate m z := by
  rw [List.set_append_right _ _ (Nat.le_refl _), Nat.sub_self, List.replicate_succ]
  simp
theorem getD_at' {l : List Int} {k : Nat} (h : k < l.length) : l[k]? = some (l.getD k 0) := by
  rw [List.getD_eq_getElem?_getD, List.getElem?_eq_getElem h]
  rfl
theorem map_at' {α β : Type} (f : α → β) {l : List α} {k : Nat} {x : α} (h : l[k]? = some x) : (l.map f)[k]? = some (f x) := by
  rw [List.getElem?_map, h]
  rfl
end Go.Proofs.YtamjhpdgclbfgaaGreat

namespace Go.Kq
open Go.RowKit

/-- Operation la loads element j (vj), lb element i (vi); sa stores vj into i, sb stores vi into j. -/
structure Sw (w0 : World) (g base : Nat) (e : TypeId) (n c : Nat) (xs : List Value) (i j : Nat) (vi vj : Value) (la lb sa sb : Nat) (r : Nat → Option Value) (w : World) : Prop where
  kp : Kp (One g) w0 w
  row : w.ownsRow base e 1 (.slice (some ⟨g, 0, none⟩) n c) n ((r sb).elim ((r sa).elim xs fun _ => xs.set i vj) fun _ => ((r sa).elim xs fun _ => xs.set i vj).set j vi)
  da : r sa ≠ none → r lb ≠ none
  db : r sb ≠ none → r la ≠ none
section
variable {w0 w w' : World} {g base : Nat} {e : TypeId} {n c : Nat} {xs : List Value} {i j : Nat} {vi vj : Value} {la lb sa sb : Nat} {r : Nat → Option Value}
theorem Sw.start (h : w0.ownsRow base e 1 (.slice (some ⟨g, 0, none⟩) n c) n xs) : Sw w0 g base e n c xs i j vi vj la lb sa sb (fun _ => none) w0.drew :=
  ⟨Kp.drew _ _, (Kp.drew No w0).owns h fun _ _ h => h, fun h => absurd rfl h, fun h => absurd rfl h⟩
theorem Sw.upd (h : Sw w0 g base e n c xs i j vi vj la lb sa sb r w) (k : Nat) (v : Value) (h1 : k ≠ sa) (h2 : k ≠ sb) : Sw w0 g base e n c xs i j vi vj la lb sa sb (Kq.upd r k v) w := by
  have e1 := upd_ne r v h1.symm
  have e2 := upd_ne r v h2.symm
  have some_ : ∀ q, r q ≠ none → Kq.upd r k v q ≠ none := fun q hq => by
    by_cases hk : q = k
    · rw [hk, upd_same]
      simp
    · rw [upd_ne _ _ hk]
      exact hq
  exact ⟨h.kp, by rw [e1, e2]; exact h.row, fun x => some_ _ (h.da (e1 ▸ x)), fun x => some_ _ (h.db (e2 ▸ x))⟩
theorem Sw.loadj (h : Sw w0 g base e n c xs i j vi vj la lb sa sb r w) (hr : r la = none) (hne : i ≠ j) (hj : xs[j]? = some vj) : w.cell? ⟨g, j, none⟩ = some vj := by
  have hb : r sb = none := by
    cases hs : r sb with
    | none => rfl
    | some u => exact absurd hr (h.db (by rw [hs]; simp))
  have hrow := h.row
  rw [hb] at hrow
  refine own_cell hrow ?_
  cases hs : r sa with
  | none => exact hj
  | some u =>
    show (xs.set i vj)[j]? = some vj
    rw [List.getElem?_set_ne hne, hj]
theorem Sw.loadi (h : Sw w0 g base e n c xs i j vi vj la lb sa sb r w) (hr : r lb = none) (hne : i ≠ j) (hi : xs[i]? = some vi) : w.cell? ⟨g, i, none⟩ = some vi := by
  have ha : r sa = none := by
    cases hs : r sa with
    | none => rfl
    | some u => exact absurd hr (h.da (by rw [hs]; simp))
  have hrow := h.row
  rw [ha] at hrow
  refine own_cell hrow ?_
  cases hs : r sb with
  | none => exact hi
  | some u =>
    show (xs.set j vi)[i]? = some vi
    rw [List.getElem?_set_ne (fun e => hne e.symm), hi]
theorem Sw.sta (h : Sw w0 g base e n c xs i j vi vj la lb sa sb r w) (hr : r sa = none) (hl : r lb ≠ none) (hne : sa ≠ sb ∧ sa ≠ lb ∧ sa ≠ la) (hij : i ≠ j) (x : Value) : Sw w0 g base e n c xs i j vi vj la lb sa sb (Kq.upd r sa x) (w.setCell ⟨g, i, none⟩ vj) := by
  have e2 := upd_ne r x hne.1.symm
  have e3 := upd_ne r x hne.2.1.symm
  have e4 := upd_ne r x hne.2.2.symm
  have hrow := own_set h.row i vj
  refine ⟨h.kp.tr (kp_setOne _ _ _ _), ?_, fun _ => by rw [e3]; exact hl, fun y => by rw [e4]; exact h.db (e2 ▸ y)⟩
  rw [upd_same, e2]
  rw [hr] at hrow
  cases hs : r sb with
  | none => rw [hs] at hrow; exact hrow
  | some u =>
    rw [hs] at hrow
    replace hrow : (w.setCell ⟨g, i, none⟩ vj).ownsRow base e 1 (.slice (some ⟨g, 0, none⟩) n c) n ((xs.set j vi).set i vj) := hrow
    show (w.setCell ⟨g, i, none⟩ vj).ownsRow base e 1 (.slice (some ⟨g, 0, none⟩) n c) n ((xs.set i vj).set j vi)
    rw [List.set_comm _ _ hij]
    exact hrow
theorem Sw.stb (h : Sw w0 g base e n c xs i j vi vj la lb sa sb r w) (hr : r sb = none) (hl : r la ≠ none) (hne : sb ≠ sa ∧ sb ≠ lb ∧ sb ≠ la) (x : Value) : Sw w0 g base e n c xs i j vi vj la lb sa sb (Kq.upd r sb x) (w.setCell ⟨g, j, none⟩ vi) := by
  have e2 := upd_ne r x hne.1.symm
  have e3 := upd_ne r x hne.2.1.symm
  have e4 := upd_ne r x hne.2.2.symm
  have hrow := own_set h.row j vi
  refine ⟨h.kp.tr (kp_setOne _ _ _ _), ?_, fun y => by rw [e3]; exact h.da (e2 ▸ y), fun _ => by rw [e4]; exact hl⟩
  rw [upd_same, e2]
  rw [hr] at hrow
  exact hrow
theorem Sw.fin (h : Sw w0 g base e n c xs i j vi vj la lb sa sb r w) (h1 : r sa ≠ none) (h2 : r sb ≠ none) : w.ownsRow base e 1 (.slice (some ⟨g, 0, none⟩) n c) n ((xs.set i vj).set j vi) := by
  obtain ⟨z1, hz1⟩ := Option.ne_none_iff_exists'.1 h1
  obtain ⟨z2, hz2⟩ := Option.ne_none_iff_exists'.1 h2
  have hrow := h.row
  rw [hz1, hz2] at hrow
  exact hrow
theorem Sw.free (h : Sw w0 g base e n c xs i j vi vj la lb sa sb r w) (k : Nat) : w.frozen? ⟨g, k, none⟩ = false := own_free h.row k
end
end Go.Kq

namespace Go.Proofs.YtamjhpdgclbfgaaGreat
open Go.Shelf
def sortFI_ren : Go.Shelf.Ren := ⟨fun | 6 => 57 | 15 => 88 | 14 => 87 | 28 => 110 | 29 => 111 | 20 => 102 | 21 => 103 | 22 => 104 | 23 => 105 | 24 => 106 | 25 => 107 | 26 => 108 | 27 => 109 | 46 => 120 | 47 => 121 | 48 => 122 | 49 => 123 | 50 => 124 | 57 => 125 | n => n, fun | 22 => 98 | 24 => 3 | 25 => 105 | 3 => 3 | 39 => 134 | 0 => 0 | 53 => 127 | 55 => 65 | 4 => 4 | 46 => 149 | 45 => 148 | 50 => 153 | 5 => 5 | 9 => 9 | 66 => 162 | 70 => 166 | 76 => 168 | 77 => 169 | n => n, fun | n => n⟩
theorem sortFI : Go.Proofs.SlLaysF.n6 Tryz.prog sortFI_ren := {
  mixed := by kernel_rfl
  f6 := ⟨Tryz.f57.name, by decide, Tryz.func57.trans (congrArg some (by kernel_rfl))⟩
  f14 := ⟨Tryz.f87.name, by decide, Tryz.func87.trans (congrArg some (by kernel_rfl))⟩
  f15 := Tryz.func88.trans (congrArg some (by kernel_rfl))
  f20 := ⟨Tryz.f102.name, by decide, Tryz.func102.trans (congrArg some (by kernel_rfl))⟩
  f21 := ⟨Tryz.f103.name, by decide, Tryz.func103.trans (congrArg some (by kernel_rfl))⟩
  f22 := ⟨Tryz.f104.name, by decide, Tryz.func104.trans (congrArg some (by kernel_rfl))⟩
  f23 := ⟨Tryz.f105.name, by decide, Tryz.func105.trans (congrArg some (by kernel_rfl))⟩
  f24 := ⟨Tryz.f106.name, by decide, Tryz.func106.trans (congrArg some (by kernel_rfl))⟩
  f25 := ⟨Tryz.f107.name, by decide, Tryz.func107.trans (congrArg some (by kernel_rfl))⟩
  f26 := ⟨Tryz.f108.name, by decide, Tryz.func108.trans (congrArg some (by kernel_rfl))⟩
  f27 := ⟨Tryz.f109.name, by decide, Tryz.func109.trans (congrArg some (by kernel_rfl))⟩
  f28 := Tryz.func110.trans (congrArg some (by kernel_rfl))
  f29 := Tryz.func111.trans (congrArg some (by kernel_rfl))
  f46 := ⟨Tryz.f120.name, by decide, Tryz.func120.trans (congrArg some (by kernel_rfl))⟩
  f47 := Tryz.func121.trans (congrArg some (by kernel_rfl))
  f48 := Tryz.func122.trans (congrArg some (by kernel_rfl))
  f49 := ⟨Tryz.f123.name, by decide, Tryz.func123.trans (congrArg some (by kernel_rfl))⟩
  f50 := ⟨Tryz.f124.name, by decide, Tryz.func124.trans (congrArg some (by kernel_rfl))⟩
  f57 := ⟨Tryz.f125.name, by decide, Tryz.func125.trans (congrArg some (by kernel_rfl))⟩
  t0 := Tryz.underlying0
  a0 := Tryz.isAgg0
  z0 := Tryz.sizeOf0
  v0 := Tryz.zeroValue0
  t3 := Tryz.underlying3
  a3 := Tryz.isAgg3
  z3 := Tryz.sizeOf3
  v3 := Tryz.zeroValue3
  t4 := Tryz.underlying4
  a4 := Tryz.isAgg4
  z4 := Tryz.sizeOf4
  v4 := Tryz.zeroValue4
  t5 := Tryz.underlying5
  a5 := Tryz.isAgg5
  z5 := Tryz.sizeOf5
  v5 := Tryz.zeroValue5
  t9 := Tryz.underlying9
  a9 := Tryz.isAgg9
  z9 := Tryz.sizeOf9
  v9 := Tryz.zeroValue9
  t22 := Tryz.underlying98
  a22 := Tryz.isAgg98
  z22 := Tryz.sizeOf98
  v22 := Tryz.zeroValue98
  a24 := Tryz.isAgg3
  z24 := Tryz.sizeOf3
  t25 := Tryz.underlying105
  a25 := Tryz.isAgg105
  z25 := Tryz.sizeOf105
  v25 := Tryz.zeroValue105
  t39 := Tryz.underlying134
  a39 := Tryz.isAgg134
  z39 := Tryz.sizeOf134
  v39 := Tryz.zeroValue134
  t45 := Tryz.underlying148
  a45 := Tryz.isAgg148
  z45 := Tryz.sizeOf148
  v45 := Tryz.zeroValue148
  t46 := Tryz.underlying149
  a46 := Tryz.isAgg149
  z46 := Tryz.sizeOf149
  v46 := Tryz.zeroValue149
  t50 := Tryz.underlying153
  a50 := Tryz.isAgg153
  z50 := Tryz.sizeOf153
  v50 := Tryz.zeroValue153
  t53 := Tryz.underlying127
  a53 := Tryz.isAgg127
  z53 := Tryz.sizeOf127
  v53 := Tryz.zeroValue127
  t55 := Tryz.underlying65
  a55 := Tryz.isAgg65
  z55 := Tryz.sizeOf65
  v55 := Tryz.zeroValue65
  t66 := Tryz.underlying162
  a66 := Tryz.isAgg162
  z66 := Tryz.sizeOf162
  v66 := Tryz.zeroValue162
  t70 := Tryz.underlying166
  a70 := Tryz.isAgg166
  z70 := Tryz.sizeOf166
  v70 := Tryz.zeroValue166
  t76 := Tryz.underlying168
  a76 := Tryz.isAgg168
  z76 := Tryz.sizeOf168
  v76 := Tryz.zeroValue168
  t77 := Tryz.underlying169
  a77 := Tryz.isAgg169
  z77 := Tryz.sizeOf169
  v77 := Tryz.zeroValue169 }
end Go.Proofs.YtamjhpdgclbfgaaGreat
