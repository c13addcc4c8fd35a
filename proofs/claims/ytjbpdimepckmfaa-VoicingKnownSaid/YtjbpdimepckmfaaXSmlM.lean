/- Chapter 27: what has been done to pipes (plain). · Chapter 27: the statements' equalities of lists: walks. Printed by gen_sml.py. -/
import Derived.BigQuiet
import Derived.ChangeKeysEq
import Derived.Test.YtjbpdimepckmfaaXMrgP
import Derived.Test.YtjbpdimepckmfaaXLibSortM
namespace Go.Proofs.Ytjbpdimepckmfaa
open Go.RowKit Go.Kq

def Pv.get (v : Pv) : Nat → Int
  | 0 => v.f0 | 1 => v.f1 | 2 => v.f2 | 3 => v.f3 | 4 => v.f4 | 5 => v.f5 | 6 => v.f6 | _ => v.f7
def Pv.set (v : Pv) (k : Nat) (x : Int) : Pv := match k with
  | 0 => { v with f0 := x } | 1 => { v with f1 := x } | 2 => { v with f2 := x } | 3 => { v with f3 := x } | 4 => { v with f4 := x } | 5 => { v with f5 := x } | 6 => { v with f6 := x } | _ => { v with f7 := x }
def Pv.note (v : Pv) (n : Int) (t : ByteArray) : Pv := { v with no := n, la := t }
theorem Pv.cells_set (v : Pv) {k : Nat} (hk : k < 8) (x : Int) : v.cells.set (2 + k) (.int .i64 x) = (v.set k x).cells := by
  match k, hk with
  | 0, _ => rfl | 1, _ => rfl | 2, _ => rfl | 3, _ => rfl | 4, _ => rfl | 5, _ => rfl | 6, _ => rfl | 7, _ => rfl
theorem Pv.cells_get (v : Pv) {k : Nat} (hk : k < 8) : v.cells[2 + k]? = some (.int .i64 (v.get k)) := by
  match k, hk with
  | 0, _ => rfl | 1, _ => rfl | 2, _ => rfl | 3, _ => rfl | 4, _ => rfl | 5, _ => rfl | 6, _ => rfl | 7, _ => rfl
theorem Pv.set_p (v : Pv) (k : Nat) (x : Int) : (v.set k x).p = v.p := by
  unfold Pv.set
  split <;> rfl
theorem Pv.cells_inj {u v : Pv} (h : u.cells = v.cells) : u = v := by
  obtain ⟨⟨a0, a1⟩, a2, a3, a4, a5, a6, a7, a8, a9, a10, a11⟩ := u
  obtain ⟨⟨b0, b1⟩, b2, b3, b4, b5, b6, b7, b8, b9, b10, b11⟩ := v
  simp only [Pv.cells, List.cons.injEq, Value.int.injEq, true_and, Value.string.injEq, and_true] at h
  obtain ⟨rfl, rfl, rfl, rfl, rfl, rfl, rfl, rfl, rfl, rfl, rfl, rfl⟩ := h
  rfl
def pv0 (p : Pp) : Pv := ⟨p, 0, 0, 0, 0, 0, 0, 0, 0, 0, ⟨#[]⟩⟩
def Wk.pp (v : Wk) : Pp := (v.rk, v.nt)
/-- A work is done to its pipe. -/
def stepP (v : Pv) (w : Wk) : Pv := if w.kd = 1 then v.set w.fd.toNat w.vl else if w.kd = 2 then v.set w.fd.toNat (wrap64 (v.get w.fd.toNat + w.vl)) else v.note (wrap64 (v.no + 1)) w.tx
theorem stepP_p (v : Pv) (w : Wk) : (stepP v w).p = v.p := by
  unfold stepP
  split
  · exact Pv.set_p _ _ _
  · split
    · exact Pv.set_p _ _ _
    · rfl
def st1 (p : Pp) (o : Option Pv) (w : Wk) : Option Pv := if w.pp = p then some (stepP (o.getD (pv0 p)) w) else o
/-- What works have done to a pipe. -/
def stOf (ws : List Wk) (p : Pp) : Option Pv := ws.foldl (st1 p) none
theorem stOf_nil (p : Pp) : stOf [] p = none := rfl
theorem stOf_snoc (ws : List Wk) (w : Wk) (p : Pp) : stOf (ws ++ [w]) p = if w.pp = p then some (stepP ((stOf ws p).getD (pv0 p)) w) else stOf ws p := by
  unfold stOf
  rw [List.foldl_append]
  rfl
theorem snoc_ind {α : Type} {P : List α → Prop} (h0 : P []) (h1 : ∀ l x, P l → P (l ++ [x])) (l : List α) : P l := by
  have : ∀ m : List α, P m.reverse := fun m => by
    induction m with
    | nil => exact h0
    | cons x m ih => rw [List.reverse_cons]; exact h1 _ _ ih
  have h := this l.reverse
  rwa [List.reverse_reverse] at h
theorem stOf_p {ws : List Wk} {p : Pp} {v : Pv} (h : stOf ws p = some v) : v.p = p := by
  revert v
  refine snoc_ind (P := fun ws => ∀ {v : Pv}, stOf ws p = some v → v.p = p) (fun h => by cases h) (fun l x ih => ?_) ws
  intro v h
  rw [stOf_snoc] at h
  split at h
  · injection h with h
    subst h
    rw [stepP_p]
    cases ho : stOf l p with
    | none => rfl
    | some u => exact ih ho
  · exact ih h
theorem stOf_some {ws : List Wk} {p : Pp} : (stOf ws p).isSome = true ↔ ∃ w ∈ ws, w.pp = p := by
  refine snoc_ind (P := fun ws => (stOf ws p).isSome = true ↔ ∃ w ∈ ws, w.pp = p) (by simp [stOf_nil]) (fun l x ih => ?_) ws
  rw [stOf_snoc]
  by_cases h : x.pp = p
  · rw [if_pos h]
    exact ⟨fun _ => ⟨x, by simp, h⟩, fun _ => rfl⟩
  · rw [if_neg h, ih]
    constructor
    · rintro ⟨w, hw, e⟩
      exact ⟨w, by simp [hw], e⟩
    · rintro ⟨w, hw, e⟩
      rcases List.mem_append.1 hw with hw | hw
      · exact ⟨w, hw, e⟩
      · simp at hw
        subst hw
        exact absurd e h
/-- The state: what has been done, in the order of the pipes. -/
def IsSt (ws : List Wk) (s : List Pv) : Prop := (s.Pairwise fun a b => ltP a.p b.p = true) ∧ ∀ v, v ∈ s ↔ stOf ws v.p = some v
theorem ltP_iff (a b : Pp) : ltP a b = true ↔ (a.1 < b.1 ∨ (a.1 = b.1 ∧ a.2 < b.2)) := by unfold ltP; exact decide_eq_true_iff
theorem ltP_no (a b : Pp) : ltP a b = false ↔ ¬ (a.1 < b.1 ∨ (a.1 = b.1 ∧ a.2 < b.2)) := by unfold ltP; exact decide_eq_false_iff_not
theorem ltP_irr (a : Pp) : ltP a a = false := by rw [ltP_no]; omega
theorem ltP_trans {a b c : Pp} (h : ltP a b = true) (h2 : ltP b c = true) : ltP a c = true := by
  rw [ltP_iff] at h h2 ⊢
  omega
theorem ltP_total {a b : Pp} (h : ltP a b = false) (h2 : ltP b a = false) : a = b := by
  rw [ltP_no] at h h2
  obtain ⟨a1, a2⟩ := a
  obtain ⟨b1, b2⟩ := b
  rw [Prod.mk.injEq]
  simp only at h h2
  omega
theorem pv_nodup {s : List Pv} (h : s.Pairwise fun a b => ltP a.p b.p = true) : s.Nodup := h.imp fun {a b} h e => by rw [e, ltP_irr] at h; cases h
theorem isSt_uniq {ws : List Wk} {s t : List Pv} (h : IsSt ws s) (h2 : IsSt ws t) : s = t :=
  List.Perm.eq_of_pairwise (le := fun a b => ltP a.p b.p = true) (fun a b _ _ x y => by have := ltP_trans x y; rw [ltP_irr] at this; cases this) h.1 h2.1
    ((List.perm_ext_iff_of_nodup (pv_nodup h.1) (pv_nodup h2.1)).2 fun v => (h.2 v).trans (h2.2 v).symm)
end Go.Proofs.Ytjbpdimepckmfaa

namespace Go.Proofs.Ytjbpdimepckmfaa
open Go.RowKit Go.Kq

instance : DecidableEq Wk := fun a b => decidable_of_iff _ (eqW_iff a b)
def eqV (a b : Pv) : Bool := a.p.1 == b.p.1 && a.p.2 == b.p.2 && (a.f0 == b.f0 && a.f1 == b.f1 && a.f2 == b.f2 && a.f3 == b.f3 && a.f4 == b.f4 && a.f5 == b.f5 && a.f6 == b.f6 && a.f7 == b.f7) && a.no == b.no && (a.la.toList == b.la.toList)
theorem info2 : (Try.prog.info? 2).map (fun i => (i.zero, i.size, i.bytes)) = some (some (.int .i64 0), 1, 8) := by kernel_rfl
set_option maxHeartbeats 2000000 in
theorem arr_equal (w : World) (a2 a3 a4 a5 a6 a7 a8 a9 b2 b3 b4 b5 b6 b7 b8 b9 : Int) : (Op.equalIn 9999 62 (.agg #[.int .i64 a2, .int .i64 a3, .int .i64 a4, .int .i64 a5, .int .i64 a6, .int .i64 a7, .int .i64 a8, .int .i64 a9]) (.agg #[.int .i64 b2, .int .i64 b3, .int .i64 b4, .int .i64 b5, .int .i64 b6, .int .i64 b7, .int .i64 b8, .int .i64 b9])).run Try.prog w = .ok (a2 == b2 && a3 == b3 && a4 == b4 && a5 == b5 && a6 == b6 && a7 == b7 && a8 == b8 && a9 == b9) w := by
  obtain ⟨i0, hi, _⟩ := info_parts info2
  have c2 : Try.prog.cellsOf 2 = 1 := by kernel_rfl
  have u2 := Try.underlying2
  have a2' := Try.isAgg2
  have z2 := Try.sizeOf2
  rw [show (9999 : Nat) = 9998 + 1 from rfl, run_equalIn_array (w := w) 9998 _ _ Try.underlying62 hi, c2]
  simp only [List.range_succ, List.range_zero, List.nil_append, List.cons_append, Op.eqItems]
  go_simp
  by_cases h2 : a2 = b2
  rotate_left
  · simp [h2]
  subst h2
  by_cases h3 : a3 = b3
  rotate_left
  · simp [h3]
  subst h3
  by_cases h4 : a4 = b4
  rotate_left
  · simp [h4]
  subst h4
  by_cases h5 : a5 = b5
  rotate_left
  · simp [h5]
  subst h5
  by_cases h6 : a6 = b6
  rotate_left
  · simp [h6]
  subst h6
  by_cases h7 : a7 = b7
  rotate_left
  · simp [h7]
  subst h7
  by_cases h8 : a8 = b8
  rotate_left
  · simp [h8]
  subst h8
  by_cases h9 : a9 = b9
  rotate_left
  · simp [h9]
  subst h9
  simp
set_option maxHeartbeats 2000000 in
theorem pv_equal (w : World) (a b : Pv) : (Op.equalIn 10000 64 a.val b.val).run Try.prog w = .ok (eqV a b) w := by
  have hS : Try.prog.underlying 64 = some (.struct (Try.prog.fieldsOf 64)) := by kernel_rfl
  have hp : Try.prog.stoodInHeld 64 = false := by kernel_rfl
  have u3 := Try.underlying3
  have u2 := Try.underlying2
  have u9 := Try.underlying9
  obtain ⟨⟨a0, a1⟩, a2, a3, a4, a5, a6, a7, a8, a9, a10, a11⟩ := a
  obtain ⟨⟨b0, b1⟩, b2, b3, b4, b5, b6, b7, b8, b9, b10, b11⟩ := b
  simp only [Pv.val, eqV]
  rw [show (10000 : Nat) = 9999 + 1 from rfl, run_equalIn_agg w 9999 64 _ _ hS hp]
  simp only [Program.fieldsOf, Try.underlying64]
  have HA := arr_equal w a2 a3 a4 a5 a6 a7 a8 a9 b2 b3 b4 b5 b6 b7 b8 b9
  go_simp
  by_cases h0 : a0 = b0
  rotate_left
  · simp [h0]
  subst h0
  by_cases h1 : a1 = b1
  rotate_left
  · simp [h1]
  subst h1
  generalize hq : (a2 == b2 && a3 == b3 && a4 == b4 && a5 == b5 && a6 == b6 && a7 == b7 && a8 == b8 && a9 == b9) = q at *
  cases q
  · simp
  by_cases h10 : a10 = b10
  rotate_left
  · simp [h10]
  subst h10
  by_cases h : a11.toList = b11.toList <;> simp [h]
theorem eqV_iff (a b : Pv) : eqV a b = true ↔ a = b := by
  obtain ⟨⟨a0, a1⟩, a2, a3, a4, a5, a6, a7, a8, a9, a10, a11⟩ := a
  obtain ⟨⟨b0, b1⟩, b2, b3, b4, b5, b6, b7, b8, b9, b10, b11⟩ := b
  simp only [eqV, Bool.and_eq_true, beq_iff_eq, Pv.mk.injEq, Prod.mk.injEq]
  constructor
  · rintro ⟨⟨⟨⟨h0, h1⟩, ⟨⟨⟨⟨⟨⟨⟨h2, h3⟩, h4⟩, h5⟩, h6⟩, h7⟩, h8⟩, h9⟩⟩, h10⟩, h11⟩
    exact ⟨⟨h0, h1⟩, h2, h3, h4, h5, h6, h7, h8, h9, h10, bytes_eq h11⟩
  · rintro ⟨⟨h0, h1⟩, h2, h3, h4, h5, h6, h7, h8, h9, h10, h11⟩
    exact ⟨⟨⟨⟨h0, h1⟩, ⟨⟨⟨⟨⟨⟨⟨h2, h3⟩, h4⟩, h5⟩, h6⟩, h7⟩, h8⟩, h9⟩⟩, h10⟩, by rw [h11]⟩
instance : DecidableEq Pv := fun a b => decidable_of_iff _ (eqV_iff a b)
/-- What has been done to a pipe lies at a place. -/
def PvAt (w : World) (b o : Nat) (v : Pv) : Prop :=
  w.cell? ⟨b, o, none⟩ = some (.int .i64 v.p.1) ∧ w.cell? ⟨b, o + 1, none⟩ = some (.int .i64 v.p.2) ∧ w.cell? ⟨b, o + 2, none⟩ = some (.int .i64 v.f0) ∧ w.cell? ⟨b, o + 3, none⟩ = some (.int .i64 v.f1) ∧ w.cell? ⟨b, o + 4, none⟩ = some (.int .i64 v.f2) ∧ w.cell? ⟨b, o + 5, none⟩ = some (.int .i64 v.f3) ∧ w.cell? ⟨b, o + 6, none⟩ = some (.int .i64 v.f4) ∧ w.cell? ⟨b, o + 7, none⟩ = some (.int .i64 v.f5) ∧ w.cell? ⟨b, o + 8, none⟩ = some (.int .i64 v.f6) ∧ w.cell? ⟨b, o + 9, none⟩ = some (.int .i64 v.f7) ∧ w.cell? ⟨b, o + 10, none⟩ = some (.int .i64 v.no) ∧ w.cell? ⟨b, o + 11, none⟩ = some (.string v.la)
theorem PvAt.of {w : World} {b o : Nat} {v : Pv} (h : ∀ j u, v.cells[j]? = some u → w.cell? ⟨b, o + j, none⟩ = some u) : PvAt w b o v :=
  ⟨h 0 _ rfl, h 1 _ rfl, h 2 _ rfl, h 3 _ rfl, h 4 _ rfl, h 5 _ rfl, h 6 _ rfl, h 7 _ rfl, h 8 _ rfl, h 9 _ rfl, h 10 _ rfl, h 11 _ rfl⟩
abbrev RdP (w : World) (A : Option Addr) (n : Nat) (vs : List Pv) : Prop := Rd Pv.cells 12 w A n vs
theorem RdP.at_ {w : World} {A : Option Addr} {n : Nat} {vs : List Pv} (h : RdP w A n vs) {i : Nat} {v : Pv} (hv : vs[i]? = some v) : ∃ b o, A = some ⟨b, o, none⟩ ∧ b < w.heap.size ∧ PvAt w b (o + i * 12) v := by
  obtain ⟨b, o, hA, hb, hc⟩ := h.2 i v hv
  exact ⟨b, o, hA, hb, .of hc⟩
theorem PvAt.no {w w' : World} {b o : Nat} {v : Pv} (h : PvAt w b o v) (k : Kp No w w') : PvAt w' b o v := by
  obtain ⟨h0, h1, h2, h3, h4, h5, h6, h7, h8, h9, h10, h11⟩ := h
  exact ⟨k.cell h0 id, k.cell h1 id, k.cell h2 id, k.cell h3 id, k.cell h4 id, k.cell h5 id, k.cell h6 id, k.cell h7 id, k.cell h8 id, k.cell h9 id, k.cell h10 id, k.cell h11 id⟩
set_option maxHeartbeats 1000000 in
theorem sameW_any (A B : Option Addr) (n m ca cb : Nat) (xs ys : List Wk) (w : World) (hx : RdW w A n xs) (hy : RdW w B m ys) (hn : n ≤ 100000000) :
    Calls Try.prog 15 #[.slice A n ca, .slice B m cb] w fun e w' => e = .returned (.bool (decide (xs = ys))) ∧ Kp No w w' := by
  have hxl := hx.1
  have hyl := hy.1
  by_cases hl : n = m
  · subst hl
    go_enter Try.func15, Try.ntmps15
    go_wp2_with fail
    go_loopw [5] (fun i wr => ∃ k : Nat, k ≤ n ∧ i = .int .i64 k ∧ xs.take k = ys.take k ∧ Kp No w wr) (fun i _ => n - (intOf i).toNat)
    case atStart => exact ⟨0, by omega, rfl, by simp, Kp.refl _ _⟩
    case round =>
      obtain ⟨k, hk, rfl, hno, hkp⟩ := hrel
      by_cases hlt : k < n
      · obtain ⟨x, hxk⟩ : ∃ x, xs[k]? = some x := ⟨_, List.getElem?_eq_getElem (by omega)⟩
        obtain ⟨y, hyk⟩ : ∃ y, ys[k]? = some y := ⟨_, List.getElem?_eq_getElem (by omega)⟩
        obtain ⟨b, o, rfl, _, hax⟩ := RdW.at_ (hx.no hkp) hxk
        obtain ⟨b', o', rfl, _, hay⟩ := RdW.at_ (hy.no hkp) hyk
        obtain ⟨c0, c1, c2, c3, c4, c5, c6, c7, c8, c9, c10⟩ := hax
        obtain ⟨d0, d1, d2, d3, d4, d5, d6, d7, d8, d9, d10⟩ := hay
        have Ht := Lib.hid hno
        have X := Lib.hid hxk
        have Y := Lib.hid hyk
        have HE := fun w' => work_equal w' x y
        have HI := Lib.hid (eqW_iff x y)
        simp only [Wk.val] at HE
        clear hno hxk hyk
        generalize eqW x y = q at HE HI
        cases q with
        | true =>
          have hxy : x = y := HI.out.1 rfl
          have HXY := Lib.hid hxy
          clear hxy
          go_wp2_with fail
          go_quiet (fail)
          go_wp2_with fail
          go_roundw
          case rel => exact ⟨k + 1, by omega, by go_num, by rw [List.take_add_one, List.take_add_one, Ht.out, X.out, Y.out, HXY.out], hkp.tr (Kp.drewN _ _ _)⟩
          case measure => simp [intOf]; omega
        | false =>
          have hne : xs ≠ ys := fun h => by
            have := X.out
            rw [h, Y.out] at this
            cases this
            have := HI.out.2 rfl
            cases this
          have HN := Lib.hid hne
          clear hne
          go_wp2_with fail
          go_quiet (fail)
          go_wp2_with fail
          go_ret
          exact ⟨ret_bool (by simp [HN.out]), hkp.tr (Kp.drewN _ _ _)⟩
      · have he : xs = ys := by
          rw [List.take_of_length_le (by omega), List.take_of_length_le (by omega)] at hno
          exact hno
        have HE := Lib.hid he
        clear he hno
        go_wp2
        go_ret
        exact ⟨ret_bool (by simp [HE.out]), hkp⟩
  · have hne : xs ≠ ys := fun h => hl (by rw [← hxl, ← hyl, h])
    have hb : ((n : Int) == (m : Int)) = false := by rw [beq_eq_false_iff_ne]; omega
    have HN := Lib.hid hne
    clear hne
    go_enter Try.func15, Try.ntmps15
    go_wp2
    all_goals first
      | omega
      | (go_ret
         exact ⟨ret_bool (by simp [HN.out]), Kp.refl _ _⟩)
set_option maxHeartbeats 1000000 in
theorem sameS_any (A B : Option Addr) (n m ca cb : Nat) (xs ys : List Pv) (w : World) (hx : RdP w A n xs) (hy : RdP w B m ys) (hn : n ≤ 100000000) :
    Calls Try.prog 17 #[.slice A n ca, .slice B m cb] w fun e w' => e = .returned (.bool (decide (xs = ys))) ∧ Kp No w w' := by
  have hxl := hx.1
  have hyl := hy.1
  by_cases hl : n = m
  · subst hl
    go_enter Try.func17, Try.ntmps17
    go_wp2_with fail
    go_loopw [5] (fun i wr => ∃ k : Nat, k ≤ n ∧ i = .int .i64 k ∧ xs.take k = ys.take k ∧ Kp No w wr) (fun i _ => n - (intOf i).toNat)
    case atStart => exact ⟨0, by omega, rfl, by simp, Kp.refl _ _⟩
    case round =>
      obtain ⟨k, hk, rfl, hno, hkp⟩ := hrel
      by_cases hlt : k < n
      · obtain ⟨x, hxk⟩ : ∃ x, xs[k]? = some x := ⟨_, List.getElem?_eq_getElem (by omega)⟩
        obtain ⟨y, hyk⟩ : ∃ y, ys[k]? = some y := ⟨_, List.getElem?_eq_getElem (by omega)⟩
        obtain ⟨b, o, rfl, _, hax⟩ := RdP.at_ (hx.no hkp) hxk
        obtain ⟨b', o', rfl, _, hay⟩ := RdP.at_ (hy.no hkp) hyk
        obtain ⟨c0, c1, c2, c3, c4, c5, c6, c7, c8, c9, c10, c11⟩ := hax
        obtain ⟨d0, d1, d2, d3, d4, d5, d6, d7, d8, d9, d10, d11⟩ := hay
        have Ht := Lib.hid hno
        have X := Lib.hid hxk
        have Y := Lib.hid hyk
        have HE := fun w' => pv_equal w' x y
        have HI := Lib.hid (eqV_iff x y)
        simp only [Pv.val] at HE
        clear hno hxk hyk
        generalize eqV x y = q at HE HI
        cases q with
        | true =>
          have hxy : x = y := HI.out.1 rfl
          have HXY := Lib.hid hxy
          clear hxy
          go_wp2_with fail
          go_quiet (fail)
          go_wp2_with fail
          go_roundw
          case rel => exact ⟨k + 1, by omega, by go_num, by rw [List.take_add_one, List.take_add_one, Ht.out, X.out, Y.out, HXY.out], hkp.tr (Kp.drewN _ _ _)⟩
          case measure => simp [intOf]; omega
        | false =>
          have hne : xs ≠ ys := fun h => by
            have := X.out
            rw [h, Y.out] at this
            cases this
            have := HI.out.2 rfl
            cases this
          have HN := Lib.hid hne
          clear hne
          go_wp2_with fail
          go_quiet (fail)
          go_wp2_with fail
          go_ret
          exact ⟨ret_bool (by simp [HN.out]), hkp.tr (Kp.drewN _ _ _)⟩
      · have he : xs = ys := by
          rw [List.take_of_length_le (by omega), List.take_of_length_le (by omega)] at hno
          exact hno
        have HE := Lib.hid he
        clear he hno
        go_wp2
        go_ret
        exact ⟨ret_bool (by simp [HE.out]), hkp⟩
  · have hne : xs ≠ ys := fun h => hl (by rw [← hxl, ← hyl, h])
    have hb : ((n : Int) == (m : Int)) = false := by rw [beq_eq_false_iff_ne]; omega
    have HN := Lib.hid hne
    clear hne
    go_enter Try.func17, Try.ntmps17
    go_wp2
    all_goals first
      | omega
      | (go_ret
         exact ⟨ret_bool (by simp [HN.out]), Kp.refl _ _⟩)
end Go.Proofs.Ytjbpdimepckmfaa
