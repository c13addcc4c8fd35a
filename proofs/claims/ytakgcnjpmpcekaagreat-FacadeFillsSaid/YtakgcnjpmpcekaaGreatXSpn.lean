/- spans: span, the least and the greatest of some products, divided. -/
import Derived.Test.YtakgcnjpmpcekaaGreatXSpfM
namespace Go.Proofs.YtakgcnjpmpcekaaGreat
open Go.RowKit Go.Kq

/-- A number of two words and a sign lies in memory. -/
structure LgAt (w : World) (B o : Nat) (v : Int) : Prop where
  c0 : w.cell? ⟨B, o, none⟩ = some (.bool (decide (v < 0)))
  c1 : w.cell? ⟨B, o + 1, none⟩ = some (.int .u64 ((v.natAbs / 18446744073709551616 : Nat) : Int))
  c2 : w.cell? ⟨B, o + 2, none⟩ = some (.int .u64 ((v.natAbs % 18446744073709551616 : Nat) : Int))
theorem LgAt.no {w w' : World} {B o : Nat} {v : Int} (h : LgAt w B o v) (hk : Kp No w w') : LgAt w' B o v := ⟨hk.cell h.c0 id, hk.cell h.c1 id, hk.cell h.c2 id⟩
/-- The three parts of a number of two words and a sign. -/
def lgP (v : Int) : Bool × Int × Int := (decide (v < 0), ((v.natAbs / 18446744073709551616 : Nat) : Int), ((v.natAbs % 18446744073709551616 : Nat) : Int))
def p3V (p : Bool × Int × Int) : Value := .agg #[.bool p.1, .int .u64 p.2.1, .int .u64 p.2.2]
theorem lgV_p (v : Int) : lgV v = p3V (lgP v) := rfl
def PIn (w : World) (B : Nat) (p : Bool × Int × Int) : Prop := w.heap[B]? = some (.cells #[.bool p.1, .int .u64 p.2.1, .int .u64 p.2.2] 83 (0, 0))
theorem PIn.no {w w' : World} {B : Nat} {p : Bool × Int × Int} (h : PIn w B p) (hk : Kp No w w') : PIn w' B p := hk.heap h id
theorem PIn.cells {w : World} {B : Nat} {p : Bool × Int × Int} (h : PIn w B p) : w.cell? ⟨B, 0, none⟩ = some (.bool p.1) ∧ w.cell? ⟨B, 1, none⟩ = some (.int .u64 p.2.1) ∧ w.cell? ⟨B, 2, none⟩ = some (.int .u64 p.2.2) ∧ w.frozen? ⟨B, 0, none⟩ = false ∧ w.frozen? ⟨B, 1, none⟩ = false ∧ w.frozen? ⟨B, 2, none⟩ = false := by
  unfold PIn at h
  refine ⟨by rw [cell_of_row w B 0 _ _ _ h]; rfl, by rw [cell_of_row w B 1 _ _ _ h]; rfl, by rw [cell_of_row w B 2 _ _ _ h]; rfl, ?_, ?_, ?_⟩
  all_goals simp [World.frozen?, h]
def set3 (w : World) (B : Nat) (p : Bool × Int × Int) : World := ((w.setCell ⟨B, 0, none⟩ (.bool p.1)).setCell ⟨B, 1, none⟩ (.int .u64 p.2.1)).setCell ⟨B, 2, none⟩ (.int .u64 p.2.2)
theorem kp_set3 (w : World) (B : Nat) (p : Bool × Int × Int) : Kp (Kq.One B) w (set3 w B p) :=
  ((Kp.setCell (Kq.One B) w ⟨B, 0, none⟩ _ (fun _ => rfl)).tr (Kp.setCell (Kq.One B) _ ⟨B, 1, none⟩ _ (fun _ => rfl))).tr (Kp.setCell (Kq.One B) _ ⟨B, 2, none⟩ _ (fun _ => rfl))
theorem PIn.set {w : World} {B : Nat} {p q : Bool × Int × Int} (h : PIn w B p) : PIn (set3 w B q) B q := by
  unfold PIn at *
  unfold set3
  simp [World.setCell, Array.getElem?_modify, h]
theorem PIn.other {w : World} {B C : Nat} {p q : Bool × Int × Int} (h : PIn w B p) (hne : B ≠ C) : PIn (set3 w C q) B p := (kp_set3 w C q).heap h (fun e => hne e)
theorem minL_snoc : ∀ (x : Int) (l : List Int) (y : Int), minL x (l ++ [y]) = if y < minL x l then y else minL x l
  | _, [], _ => rfl
  | _, _ :: l, y => minL_snoc _ l y
theorem maxL_snoc : ∀ (x : Int) (l : List Int) (y : Int), maxL x (l ++ [y]) = if maxL x l < y then y else maxL x l
  | _, [], _ => rfl
  | _, _ :: l, y => maxL_snoc _ l y
/-- What holds at each round's head of span's loop. -/
def SpR (w : World) (x : Int) (l : List Int) (m BL BH : Nat) (i : Value) (wr : World) : Prop :=
  ∃ k : Nat, i = .int .i64 k ∧ BL < wr.heap.size ∧ BH < wr.heap.size ∧ k ≤ m ∧ PIn wr BL (lgP (minL x (l.take k))) ∧ PIn wr BH (lgP (maxL x (l.take k))) ∧ wr.heap[w.heap.size]? = some (.cells #[.int .i64 0, .int .i64 0] 53 (0, 0)) ∧ Kp No w wr
/-- The three numbers within a round. -/
structure SpS (w wa : World) (BL BH BY : Nat) (pl ph py : Bool × Int × Int) : Prop where
  L : PIn wa BL pl
  H : PIn wa BH ph
  Y : PIn wa BY py
  R : wa.heap[w.heap.size]? = some (.cells #[.int .i64 0, .int .i64 0] 53 (0, 0))
  K : Kp No w wa
section
variable {w wa wb : World} {BL BH BY : Nat} {pl ph py : Bool × Int × Int}
theorem PIn.lt {B : Nat} {p : Bool × Int × Int} (h : PIn wa B p) : B < wa.heap.size := (Array.getElem?_eq_some_iff.1 h).1
theorem SpS.no (h : SpS w wa BL BH BY pl ph py) (k : Kp No wa wb) : SpS w wb BL BH BY pl ph py := ⟨h.L.no k, h.H.no k, h.Y.no k, k.heap h.R id, h.K.tr k⟩
theorem SpS.setL (h : SpS w wa BL BH BY pl ph py) (h1 : BH ≠ BL) (h2 : BY ≠ BL) (h3 : w.heap.size < BL) : SpS w (set3 wa BL py) BL BH BY py ph py :=
  ⟨h.L.set, h.H.other h1, h.Y.other h2, (kp_set3 _ _ _).heap h.R (fun e => by unfold Kq.One at e; omega), h.K.trans (kp_set3 _ _ _) (fun k hk t => by unfold Kq.One at t; omega)⟩
theorem SpS.setH (h : SpS w wa BL BH BY pl ph py) (h1 : BL ≠ BH) (h2 : BY ≠ BH) (h3 : w.heap.size < BH) : SpS w (set3 wa BH py) BL BH BY pl py py :=
  ⟨h.L.other h1, h.H.set, h.Y.other h2, (kp_set3 _ _ _).heap h.R (fun e => by unfold Kq.One at e; omega), h.K.trans (kp_set3 _ _ _) (fun k hk t => by unfold Kq.One at t; omega)⟩
end
set_option maxHeartbeats 4000000 in
theorem span_any (den : Nat) (x : Int) (l : List Int) (g o m c : Nat) (w : World) (hd : 0 < den) (hd2 : den < 18446744073709551616) (hl : l.length = m) (hmc : m + 1 ≤ c) (hm : 1 ≤ m) (hm2 : m < 1000) (hc1000 : c ≤ 1000)
    (hc : ∀ k v, (x :: l)[k]? = some v → LgAt w g (o + k * 3) v) :
    Calls Tryz.prog 41 #[.int .u64 (den : Nat), .slice (some ⟨g, o, none⟩) (m + 1) c] w fun e w' => e = .returned (ieV (spanV den x l)) ∧ Kp No w w' := by
  obtain ⟨a0, a1, a2⟩ := hc 0 x rfl
  rw [Nat.zero_mul, Nat.add_zero] at a0 a1 a2
  have HC := Lib.hid hc
  clear hc
  have hmI : (m : Int) ≤ 1000 := by omega
  have hcc : ¬ c = 1 := by omega
  change w.cell? _ = some (.bool (lgP x).1) at a0
  change w.cell? _ = some (.int .u64 (lgP x).2.1) at a1
  change w.cell? _ = some (.int .u64 (lgP x).2.2) at a2
  obtain ⟨px, hpx⟩ : ∃ p, lgP x = p := ⟨_, rfl⟩
  have HPX := Lib.hid hpx
  rw [hpx] at a0 a1 a2
  clear hpx
  obtain ⟨xs, xh, xl⟩ := px
  simp only at a0 a1 a2
  have hg : g < w.heap.size := World.block_lt_of_cell? _ _ a0
  have k30 : Kp No w (((w.alloc (.cells #[.int .i64 0, .int .i64 0] 53)).alloc (.cells #[.bool false, .int .u64 0, .int .u64 0] 83)).alloc (.cells #[.bool false, .int .u64 0, .int .u64 0] 83)) := (Kp.alloc No _ _).tr ((Kp.alloc No _ _).tr (Kp.alloc No _ _))
  have b00 := k30.cell a0 id
  have b01 := k30.cell a1 id
  have b02 := k30.cell a2 id
  clear k30
  have k31 : Kp No w (((w.alloc (.cells #[.int .i64 0, .int .i64 0] 53)).alloc (.cells #[.bool xs, .int .u64 xh, .int .u64 xl] 83)).alloc (.cells #[.bool false, .int .u64 0, .int .u64 0] 83)) := (Kp.alloc No _ _).tr ((Kp.alloc No _ _).tr (Kp.alloc No _ _))
  have b10 := k31.cell a0 id
  have b11 := k31.cell a1 id
  have b12 := k31.cell a2 id
  clear k31
  have k32 : Kp No w (((w.alloc (.cells #[.int .i64 0, .int .i64 0] 53)).alloc (.cells #[.bool false, .int .u64 0, .int .u64 0] 83)).alloc (.cells #[.bool xs, .int .u64 xh, .int .u64 xl] 83)) := (Kp.alloc No _ _).tr ((Kp.alloc No _ _).tr (Kp.alloc No _ _))
  have b20 := k32.cell a0 id
  have b21 := k32.cell a1 id
  have b22 := k32.cell a2 id
  clear k32
  have k33 : Kp No w (((w.alloc (.cells #[.int .i64 0, .int .i64 0] 53)).alloc (.cells #[.bool xs, .int .u64 xh, .int .u64 xl] 83)).alloc (.cells #[.bool xs, .int .u64 xh, .int .u64 xl] 83)) := (Kp.alloc No _ _).tr ((Kp.alloc No _ _).tr (Kp.alloc No _ _))
  have HK3 := Lib.hid k33
  clear k33
  go_enter Tryz.func41, Tryz.ntmps41
  go_wp2_with fail
  go_region
  · clear b00 b01 b02 b10 b11 b12 b20 b21 b22
    go_wp2_with fail
    generalize hB2 : w.heap.size + 1 + 1 = B2
    generalize hB1 : w.heap.size + 1 = B1
    have hne : B1 ≠ B2 := by omega
    have hne' : B2 ≠ B1 := by omega
    have hl1 : w.heap.size < B1 := by omega
    have hl2 : w.heap.size < B2 := by omega
    go_loopw [23] (fun i wr => SpR w x l m B1 B2 i wr) (fun i _ => m - (intOf i).toNat)
    case atStart =>
      have hp : lgP (minL x (l.take 0)) = (xs, xh, xl) := HPX.out
      have hp2 : lgP (maxL x (l.take 0)) = (xs, xh, xl) := HPX.out
      subst hB1
      subst hB2
      refine ⟨0, rfl, by simp, by simp, by omega, ?_, ?_, ?_, HK3.out.tr (Kp.drew _ _)⟩
      · rw [hp]
        exact (Kp.drew No _).heap ((Kp.alloc No _ _).heap (at_new (by simp)) id) id
      · rw [hp2]
        exact (Kp.drew No _).heap (at_new (by simp)) id
      · exact (Kp.drew No _).heap (((Kp.alloc No _ _).tr (Kp.alloc No _ _)).heap (at_new rfl) id) id
    case round =>
      obtain ⟨k, rfl, h3, h4, hk, hL, hH, hR, hkp⟩ := hrel
      clear HK3 a0 a1 a2 HPX hB1 hB2
      by_cases hkm : k < m
      · obtain ⟨y, hy⟩ : ∃ y, l[k]? = some y := ⟨_, List.getElem?_eq_getElem (by omega)⟩
        obtain ⟨y0, y1, y2⟩ := HC.out (k + 1) y hy
        have hoff : o + (k + 1) * 3 = o + 3 + k * 3 := by omega
        rw [hoff] at y0 y1 y2
        clear hoff
        have y0 := hkp.cell y0 id
        have y1 := hkp.cell y1 id
        have y2 := hkp.cell y2 id
        change wr.cell? _ = some (.bool (lgP y).1) at y0
        change wr.cell? _ = some (.int .u64 (lgP y).2.1) at y1
        change wr.cell? _ = some (.int .u64 (lgP y).2.2) at y2
        have S1 := Lib.hid (show minL x (l.take (k + 1)) = if y < minL x (l.take k) then y else minL x (l.take k) by rw [List.take_add_one, hy]; exact minL_snoc _ _ _)
        have S2 := Lib.hid (show maxL x (l.take (k + 1)) = if maxL x (l.take k) < y then y else maxL x (l.take k) by rw [List.take_add_one, hy]; exact maxL_snoc _ _ _)
        have hles1 := fun w0 => less_any y (minL x (l.take k)) w0
        have hles2 := fun w0 => less_any (maxL x (l.take k)) y w0
        simp only [lgV_p] at hles1 hles2
        generalize minL x (l.take k) = mn at *
        generalize maxL x (l.take k) = mx at *
        obtain ⟨py, hpy⟩ : ∃ p, lgP y = p := ⟨_, rfl⟩
        obtain ⟨pn, hpn⟩ : ∃ p, lgP mn = p := ⟨_, rfl⟩
        obtain ⟨pm, hpm⟩ : ∃ p, lgP mx = p := ⟨_, rfl⟩
        rw [hpy] at y0 y1 y2 hles1 hles2
        rw [hpn] at hL hles1
        rw [hpm] at hH hles2
        have HPY := Lib.hid hpy
        have HPN := Lib.hid hpn
        have HPM := Lib.hid hpm
        clear hpy hpn hpm
        obtain ⟨ys, yh, yl⟩ := py
        obtain ⟨ns, nh, nl⟩ := pn
        obtain ⟨ms, mh, ml⟩ := pm
        simp only [p3V] at y0 y1 y2 hles1 hles2
        obtain ⟨q1, hq1⟩ : ∃ q, decide (y < mn) = q := ⟨_, rfl⟩
        obtain ⟨q2, hq2⟩ : ∃ q, decide (mx < y) = q := ⟨_, rfl⟩
        rw [hq1] at hles1
        rw [hq2] at hles2
        have HQ1 := Lib.hid hq1
        have HQ2 := Lib.hid hq2
        have HL1 := Lib.hid hles1
        have HL2 := Lib.hid hles2
        clear hq1 hq2 hles1 hles2 hy
        have hkI : (k : Int) < m := by omega
        have hw1 : IntKind.i64.wrap ((k : Int) + 1) = (k : Int) + 1 := by rw [IntKind.wrap_i64]; omega
        obtain ⟨l0, l1, l2, _, _, _⟩ := hL.cells
        obtain ⟨u0, u1, u2, _, _, _⟩ := hH.cells
        have hYL : wr.heap.size ≠ B1 := by omega
        have hYH : wr.heap.size ≠ B2 := by omega
        have T0 : SpS w (wr.alloc (.cells #[.bool ys, .int .u64 yh, .int .u64 yl] 83)) B1 B2 wr.heap.size (ns, nh, nl) (ms, mh, ml) (ys, yh, yl) := ⟨hL.no (Kp.alloc _ _ _), hH.no (Kp.alloc _ _ _), at_new rfl, (Kp.alloc No _ _).heap hR id, hkp.tr (Kp.alloc _ _ _)⟩
        clear hL hH hR hkp
        have F1 : q1 = false → lgP (minL x (l.take (k + 1))) = (ns, nh, nl) := by
          intro h
          rw [S1.out, if_neg (by have := HQ1.out; rw [h] at this; simpa using this)]
          exact HPN.out
        have F2 : q1 = true → lgP (minL x (l.take (k + 1))) = (ys, yh, yl) := by
          intro h
          rw [S1.out, if_pos (by have := HQ1.out; rw [h] at this; simpa using this)]
          exact HPY.out
        have F3 : q2 = false → lgP (maxL x (l.take (k + 1))) = (ms, mh, ml) := by
          intro h
          rw [S2.out, if_neg (by have := HQ2.out; rw [h] at this; simpa using this)]
          exact HPM.out
        have F4 : q2 = true → lgP (maxL x (l.take (k + 1))) = (ys, yh, yl) := by
          intro h
          rw [S2.out, if_pos (by have := HQ2.out; rw [h] at this; simpa using this)]
          exact HPY.out
        clear S1 S2 HQ1 HQ2 HPN HPM HPY
        cases q1
        · have F := Lib.hid (F1 rfl)
          clear F1 F2
          go_wp2_with fail
          refine (HL1.out _).mono ?_
          rintro e w4 ⟨rfl, k4⟩
          have T1 := T0.no k4
          clear T0 k4 l0 l1 l2 u0 u1 u2
          obtain ⟨l0, l1, l2, _, _, _⟩ := T1.L.cells
          obtain ⟨u0, u1, u2, _, _, _⟩ := T1.H.cells
          obtain ⟨v0, v1, v2, _, _, _⟩ := T1.Y.cells
          go_wp2_with fail
          refine (HL2.out _).mono ?_
          rintro e w5 ⟨rfl, k5⟩
          have T2 := T1.no k5
          clear T1 k5
          obtain ⟨s0, s1, s2, z0, z1, z2⟩ := T2.H.cells
          obtain ⟨t0, t1, t2, _, _, _⟩ := T2.Y.cells
          cases q2
          · have G := Lib.hid (F3 rfl)
            clear F3 F4
            go_wp2_with fail
            go_roundw
            case rel => exact ⟨k + 1, by go_num, T2.L.lt, T2.H.lt, by omega, by rw [F.out]; exact T2.L, by rw [G.out]; exact T2.H, T2.R, T2.K⟩
            case measure => simp [intOf]; omega
          · have G := Lib.hid (F4 rfl)
            clear F3 F4
            have T3 := T2.setH hne hYH hl2
            go_wp2_with fail
            go_roundw
            case rel => exact ⟨k + 1, by go_num, T3.L.lt, T3.H.lt, by omega, by rw [F.out]; exact T3.L, by rw [G.out]; exact T3.H, T3.R, T3.K⟩
            case measure => simp [intOf]; omega
        · have F := Lib.hid (F2 rfl)
          clear F1 F2
          go_wp2_with fail
          refine (HL1.out _).mono ?_
          rintro e w4 ⟨rfl, k4⟩
          have T1 := T0.no k4
          clear T0 k4 l0 l1 l2 u0 u1 u2
          obtain ⟨l0, l1, l2, _, _, _⟩ := T1.L.cells
          obtain ⟨u0, u1, u2, _, _, _⟩ := T1.H.cells
          obtain ⟨v0, v1, v2, _, _, _⟩ := T1.Y.cells
          have T1 := T1.setL hne' hYL hl1
          go_wp2_with fail
          refine (HL2.out _).mono ?_
          rintro e w5 ⟨rfl, k5⟩
          have T2 := T1.no k5
          clear T1 k5
          obtain ⟨s0, s1, s2, z0, z1, z2⟩ := T2.H.cells
          obtain ⟨t0, t1, t2, _, _, _⟩ := T2.Y.cells
          cases q2
          · have G := Lib.hid (F3 rfl)
            clear F3 F4
            go_wp2_with fail
            go_roundw
            case rel => exact ⟨k + 1, by go_num, T2.L.lt, T2.H.lt, by omega, by rw [F.out]; exact T2.L, by rw [G.out]; exact T2.H, T2.R, T2.K⟩
            case measure => simp [intOf]; omega
          · have G := Lib.hid (F4 rfl)
            clear F3 F4
            have T3 := T2.setH hne hYH hl2
            go_wp2_with fail
            go_roundw
            case rel => exact ⟨k + 1, by go_num, T3.L.lt, T3.H.lt, by omega, by rw [F.out]; exact T3.L, by rw [G.out]; exact T3.H, T3.R, T3.K⟩
            case measure => simp [intOf]; omega
      · obtain rfl : k = m := by omega
        rw [List.take_of_length_le (by omega)] at hL hH
        have hov1 := fun w0 => over_any (minL x l) den false w0 hd hd2
        have hov2 := fun w0 => over_any (maxL x l) den true w0 hd hd2
        have HV := Lib.hid (show spanV (den : Int) x l = if fits (rnd false (minL x l) den) && fits (rnd true (maxL x l) den) then (rnd false (minL x l) den, rnd true (maxL x l) den, 0) else (0, 0, 7) from rfl)
        simp only [lgV_p] at hov1 hov2
        generalize minL x l = mn at *
        generalize maxL x l = mx at *
        generalize lgP mn = pn at *
        generalize lgP mx = pm at *
        obtain ⟨ns, nh, nl⟩ := pn
        obtain ⟨ms, mh, ml⟩ := pm
        generalize rnd false mn (den : Int) = ra at *
        generalize rnd true mx (den : Int) = rb at *
        simp only [p3V] at hov1 hov2
        have hmI2 : ¬ (k : Int) < k := by omega
        obtain ⟨l0, l1, l2, _, _, _⟩ := hL.cells
        obtain ⟨u0, u1, u2, _, _, _⟩ := hH.cells
        cases e1 : fits ra <;> cases e2 : fits rb
        all_goals
          rw [e1] at hov1
          rw [e2] at hov2
          rw [e1, e2] at HV
          simp only [Bool.false_eq_true, if_false, if_true, Bool.and_false, Bool.false_and, Bool.and_self] at hov1 hov2 HV
          have HO1 := Lib.hid hov1
          have HO2 := Lib.hid hov2
          clear hov1 hov2
          go_wp2_with fail
          refine (HO1.out _).mono ?_
          rintro e w4 ⟨rfl, k4⟩
          obtain ⟨v0, v1, v2, _, _, _⟩ := (hH.no k4).cells
          go_wp2_with fail
          refine (HO2.out _).mono ?_
          rintro e w5 ⟨rfl, k5⟩
          obtain ⟨r0, r1, z0, z1⟩ := two_cells ((k4.tr k5).heap hR id)
          have KP := hkp.tr (k4.tr k5)
          go_wp2_with fail
          first
          | exact bodyPost_ret (v := .tuple #[.agg #[.int .i64 0, .int .i64 0], .int .i64 7]) (by simp [results, Tryz.results41, go_sem, r0, r1]) rfl ⟨by rw [HV.out]; rfl, kp_set2 KP (by omega)⟩
          | exact bodyPost_ret (v := .tuple #[.agg #[.int .i64 ra, .int .i64 rb], .int .i64 0]) (by simp [results, Tryz.results41, go_sem, r0, r1]) rfl ⟨by rw [HV.out]; rfl, kp_set2 KP (by omega)⟩
  · clear b00 b01 b02 b10 b11 b12 b20 b21 b22
    go_wp2_with fail
    generalize hB2 : w.heap.size + 1 + 1 = B2
    generalize hB1 : w.heap.size + 1 = B1
    have hne : B2 ≠ B1 := by omega
    have hne' : B1 ≠ B2 := by omega
    have hl1 : w.heap.size < B2 := by omega
    have hl2 : w.heap.size < B1 := by omega
    go_loopw [23] (fun i wr => SpR w x l m B2 B1 i wr) (fun i _ => m - (intOf i).toNat)
    case atStart =>
      have hp : lgP (minL x (l.take 0)) = (xs, xh, xl) := HPX.out
      have hp2 : lgP (maxL x (l.take 0)) = (xs, xh, xl) := HPX.out
      subst hB1
      subst hB2
      refine ⟨0, rfl, by simp, by simp, by omega, ?_, ?_, ?_, HK3.out.tr (Kp.drew _ _)⟩
      · rw [hp]
        exact (Kp.drew No _).heap (at_new (by simp)) id
      · rw [hp2]
        exact (Kp.drew No _).heap ((Kp.alloc No _ _).heap (at_new (by simp)) id) id
      · exact (Kp.drew No _).heap (((Kp.alloc No _ _).tr (Kp.alloc No _ _)).heap (at_new rfl) id) id
    case round =>
      obtain ⟨k, rfl, h3, h4, hk, hL, hH, hR, hkp⟩ := hrel
      clear HK3 a0 a1 a2 HPX hB1 hB2
      by_cases hkm : k < m
      · obtain ⟨y, hy⟩ : ∃ y, l[k]? = some y := ⟨_, List.getElem?_eq_getElem (by omega)⟩
        obtain ⟨y0, y1, y2⟩ := HC.out (k + 1) y hy
        have hoff : o + (k + 1) * 3 = o + 3 + k * 3 := by omega
        rw [hoff] at y0 y1 y2
        clear hoff
        have y0 := hkp.cell y0 id
        have y1 := hkp.cell y1 id
        have y2 := hkp.cell y2 id
        change wr.cell? _ = some (.bool (lgP y).1) at y0
        change wr.cell? _ = some (.int .u64 (lgP y).2.1) at y1
        change wr.cell? _ = some (.int .u64 (lgP y).2.2) at y2
        have S1 := Lib.hid (show minL x (l.take (k + 1)) = if y < minL x (l.take k) then y else minL x (l.take k) by rw [List.take_add_one, hy]; exact minL_snoc _ _ _)
        have S2 := Lib.hid (show maxL x (l.take (k + 1)) = if maxL x (l.take k) < y then y else maxL x (l.take k) by rw [List.take_add_one, hy]; exact maxL_snoc _ _ _)
        have hles1 := fun w0 => less_any y (minL x (l.take k)) w0
        have hles2 := fun w0 => less_any (maxL x (l.take k)) y w0
        simp only [lgV_p] at hles1 hles2
        generalize minL x (l.take k) = mn at *
        generalize maxL x (l.take k) = mx at *
        obtain ⟨py, hpy⟩ : ∃ p, lgP y = p := ⟨_, rfl⟩
        obtain ⟨pn, hpn⟩ : ∃ p, lgP mn = p := ⟨_, rfl⟩
        obtain ⟨pm, hpm⟩ : ∃ p, lgP mx = p := ⟨_, rfl⟩
        rw [hpy] at y0 y1 y2 hles1 hles2
        rw [hpn] at hL hles1
        rw [hpm] at hH hles2
        have HPY := Lib.hid hpy
        have HPN := Lib.hid hpn
        have HPM := Lib.hid hpm
        clear hpy hpn hpm
        obtain ⟨ys, yh, yl⟩ := py
        obtain ⟨ns, nh, nl⟩ := pn
        obtain ⟨ms, mh, ml⟩ := pm
        simp only [p3V] at y0 y1 y2 hles1 hles2
        obtain ⟨q1, hq1⟩ : ∃ q, decide (y < mn) = q := ⟨_, rfl⟩
        obtain ⟨q2, hq2⟩ : ∃ q, decide (mx < y) = q := ⟨_, rfl⟩
        rw [hq1] at hles1
        rw [hq2] at hles2
        have HQ1 := Lib.hid hq1
        have HQ2 := Lib.hid hq2
        have HL1 := Lib.hid hles1
        have HL2 := Lib.hid hles2
        clear hq1 hq2 hles1 hles2 hy
        have hkI : (k : Int) < m := by omega
        have hw1 : IntKind.i64.wrap ((k : Int) + 1) = (k : Int) + 1 := by rw [IntKind.wrap_i64]; omega
        obtain ⟨l0, l1, l2, _, _, _⟩ := hL.cells
        obtain ⟨u0, u1, u2, _, _, _⟩ := hH.cells
        have hYL : wr.heap.size ≠ B2 := by omega
        have hYH : wr.heap.size ≠ B1 := by omega
        have T0 : SpS w (wr.alloc (.cells #[.bool ys, .int .u64 yh, .int .u64 yl] 83)) B2 B1 wr.heap.size (ns, nh, nl) (ms, mh, ml) (ys, yh, yl) := ⟨hL.no (Kp.alloc _ _ _), hH.no (Kp.alloc _ _ _), at_new rfl, (Kp.alloc No _ _).heap hR id, hkp.tr (Kp.alloc _ _ _)⟩
        clear hL hH hR hkp
        have F1 : q1 = false → lgP (minL x (l.take (k + 1))) = (ns, nh, nl) := by
          intro h
          rw [S1.out, if_neg (by have := HQ1.out; rw [h] at this; simpa using this)]
          exact HPN.out
        have F2 : q1 = true → lgP (minL x (l.take (k + 1))) = (ys, yh, yl) := by
          intro h
          rw [S1.out, if_pos (by have := HQ1.out; rw [h] at this; simpa using this)]
          exact HPY.out
        have F3 : q2 = false → lgP (maxL x (l.take (k + 1))) = (ms, mh, ml) := by
          intro h
          rw [S2.out, if_neg (by have := HQ2.out; rw [h] at this; simpa using this)]
          exact HPM.out
        have F4 : q2 = true → lgP (maxL x (l.take (k + 1))) = (ys, yh, yl) := by
          intro h
          rw [S2.out, if_pos (by have := HQ2.out; rw [h] at this; simpa using this)]
          exact HPY.out
        clear S1 S2 HQ1 HQ2 HPN HPM HPY
        cases q1
        · have F := Lib.hid (F1 rfl)
          clear F1 F2
          go_wp2_with fail
          refine (HL1.out _).mono ?_
          rintro e w4 ⟨rfl, k4⟩
          have T1 := T0.no k4
          clear T0 k4 l0 l1 l2 u0 u1 u2
          obtain ⟨l0, l1, l2, _, _, _⟩ := T1.L.cells
          obtain ⟨u0, u1, u2, _, _, _⟩ := T1.H.cells
          obtain ⟨v0, v1, v2, _, _, _⟩ := T1.Y.cells
          go_wp2_with fail
          refine (HL2.out _).mono ?_
          rintro e w5 ⟨rfl, k5⟩
          have T2 := T1.no k5
          clear T1 k5
          obtain ⟨s0, s1, s2, z0, z1, z2⟩ := T2.H.cells
          obtain ⟨t0, t1, t2, _, _, _⟩ := T2.Y.cells
          cases q2
          · have G := Lib.hid (F3 rfl)
            clear F3 F4
            go_wp2_with fail
            go_roundw
            case rel => exact ⟨k + 1, by go_num, T2.L.lt, T2.H.lt, by omega, by rw [F.out]; exact T2.L, by rw [G.out]; exact T2.H, T2.R, T2.K⟩
            case measure => simp [intOf]; omega
          · have G := Lib.hid (F4 rfl)
            clear F3 F4
            have T3 := T2.setH hne hYH hl2
            go_wp2_with fail
            go_roundw
            case rel => exact ⟨k + 1, by go_num, T3.L.lt, T3.H.lt, by omega, by rw [F.out]; exact T3.L, by rw [G.out]; exact T3.H, T3.R, T3.K⟩
            case measure => simp [intOf]; omega
        · have F := Lib.hid (F2 rfl)
          clear F1 F2
          go_wp2_with fail
          refine (HL1.out _).mono ?_
          rintro e w4 ⟨rfl, k4⟩
          have T1 := T0.no k4
          clear T0 k4 l0 l1 l2 u0 u1 u2
          obtain ⟨l0, l1, l2, _, _, _⟩ := T1.L.cells
          obtain ⟨u0, u1, u2, _, _, _⟩ := T1.H.cells
          obtain ⟨v0, v1, v2, _, _, _⟩ := T1.Y.cells
          have T1 := T1.setL hne' hYL hl1
          go_wp2_with fail
          refine (HL2.out _).mono ?_
          rintro e w5 ⟨rfl, k5⟩
          have T2 := T1.no k5
          clear T1 k5
          obtain ⟨s0, s1, s2, z0, z1, z2⟩ := T2.H.cells
          obtain ⟨t0, t1, t2, _, _, _⟩ := T2.Y.cells
          cases q2
          · have G := Lib.hid (F3 rfl)
            clear F3 F4
            go_wp2_with fail
            go_roundw
            case rel => exact ⟨k + 1, by go_num, T2.L.lt, T2.H.lt, by omega, by rw [F.out]; exact T2.L, by rw [G.out]; exact T2.H, T2.R, T2.K⟩
            case measure => simp [intOf]; omega
          · have G := Lib.hid (F4 rfl)
            clear F3 F4
            have T3 := T2.setH hne hYH hl2
            go_wp2_with fail
            go_roundw
            case rel => exact ⟨k + 1, by go_num, T3.L.lt, T3.H.lt, by omega, by rw [F.out]; exact T3.L, by rw [G.out]; exact T3.H, T3.R, T3.K⟩
            case measure => simp [intOf]; omega
      · obtain rfl : k = m := by omega
        rw [List.take_of_length_le (by omega)] at hL hH
        have hov1 := fun w0 => over_any (minL x l) den false w0 hd hd2
        have hov2 := fun w0 => over_any (maxL x l) den true w0 hd hd2
        have HV := Lib.hid (show spanV (den : Int) x l = if fits (rnd false (minL x l) den) && fits (rnd true (maxL x l) den) then (rnd false (minL x l) den, rnd true (maxL x l) den, 0) else (0, 0, 7) from rfl)
        simp only [lgV_p] at hov1 hov2
        generalize minL x l = mn at *
        generalize maxL x l = mx at *
        generalize lgP mn = pn at *
        generalize lgP mx = pm at *
        obtain ⟨ns, nh, nl⟩ := pn
        obtain ⟨ms, mh, ml⟩ := pm
        generalize rnd false mn (den : Int) = ra at *
        generalize rnd true mx (den : Int) = rb at *
        simp only [p3V] at hov1 hov2
        have hmI2 : ¬ (k : Int) < k := by omega
        obtain ⟨l0, l1, l2, _, _, _⟩ := hL.cells
        obtain ⟨u0, u1, u2, _, _, _⟩ := hH.cells
        cases e1 : fits ra <;> cases e2 : fits rb
        all_goals
          rw [e1] at hov1
          rw [e2] at hov2
          rw [e1, e2] at HV
          simp only [Bool.false_eq_true, if_false, if_true, Bool.and_false, Bool.false_and, Bool.and_self] at hov1 hov2 HV
          have HO1 := Lib.hid hov1
          have HO2 := Lib.hid hov2
          clear hov1 hov2
          go_wp2_with fail
          refine (HO1.out _).mono ?_
          rintro e w4 ⟨rfl, k4⟩
          obtain ⟨v0, v1, v2, _, _, _⟩ := (hH.no k4).cells
          go_wp2_with fail
          refine (HO2.out _).mono ?_
          rintro e w5 ⟨rfl, k5⟩
          obtain ⟨r0, r1, z0, z1⟩ := two_cells ((k4.tr k5).heap hR id)
          have KP := hkp.tr (k4.tr k5)
          go_wp2_with fail
          first
          | exact bodyPost_ret (v := .tuple #[.agg #[.int .i64 0, .int .i64 0], .int .i64 7]) (by simp [results, Tryz.results41, go_sem, r0, r1]) rfl ⟨by rw [HV.out]; rfl, kp_set2 KP (by omega)⟩
          | exact bodyPost_ret (v := .tuple #[.agg #[.int .i64 ra, .int .i64 rb], .int .i64 0]) (by simp [results, Tryz.results41, go_sem, r0, r1]) rfl ⟨by rw [HV.out]; rfl, kp_set2 KP (by omega)⟩
end Go.Proofs.YtakgcnjpmpcekaaGreat
