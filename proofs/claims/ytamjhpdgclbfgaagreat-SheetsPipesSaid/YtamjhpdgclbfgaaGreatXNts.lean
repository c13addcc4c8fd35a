/- Spans of fractions: corners: the walk. Printed by gen_nts.py. -/
import Derived.Test.YtamjhpdgclbfgaaGreatXNtsa
import Derived.Test.YtamjhpdgclbfgaaGreatXNtqM
namespace Go.Proofs.YtamjhpdgclbfgaaGreat
open Go.RowKit Go.Kq

def opQ : Nat → Rat → Rat → Rat
  | 0, a, b => a + b
  | 1, a, b => a - b
  | _, a, b => a * b
def cornL (W : Nat) (a b : Int × Int) : List Rat := [opQ W a.1 b.1, opQ W a.1 b.2, opQ W a.2 b.1, opQ W a.2 b.2]
theorem op0 (w0 : World) (u v : Value) (x y : Rat) (hu : IsQuo w0 u x 2) (hv : IsQuo w0 v y 2) : Calls Tryz.prog 99 #[u, v] w0 fun e w' => ∃ z, e = .returned (.tuple #[z, .int .i64 0]) ∧ QuoNew w0.heap.size w' z (opQ 0 x y) 11 ∧ Kp No w0 w' := qadd_is u v x y 2 2 w0 hu hv (by omega)
theorem op1 (w0 : World) (u v : Value) (x y : Rat) (hu : IsQuo w0 u x 2) (hv : IsQuo w0 v y 2) : Calls Tryz.prog 100 #[u, v] w0 fun e w' => ∃ z, e = .returned (.tuple #[z, .int .i64 0]) ∧ QuoNew w0.heap.size w' z (opQ 1 x y) 11 ∧ Kp No w0 w' := qsub_is u v x y 2 2 w0 hu hv (by omega)
theorem op2 (w0 : World) (u v : Value) (x y : Rat) (hu : IsQuo w0 u x 2) (hv : IsQuo w0 v y 2) : Calls Tryz.prog 52 #[u, v] w0 fun e w' => ∃ z, e = .returned (.tuple #[z, .int .i64 0]) ∧ QuoNew w0.heap.size w' z (opQ 2 x y) 11 ∧ Kp No w0 w' := by
  refine (qmul_is u v x y 2 2 w0 hu hv (by omega)).mono ?_
  rintro e w' ⟨z, rfl, hz, hk⟩
  exact ⟨z, rfl, hz.le (by omega), hk⟩
theorem corn_at (W : Nat) (a b : Int × Int) (i k : Nat) (x y : Int) (hx : [a.1, a.2][i]? = some x) (hy : [b.1, b.2][k]? = some y) : (cornL W a b)[2 * i + k]? = some (opQ W x y) := by
  match i, hx with
  | 0, hx => match k, hy with
    | 0, hy => simp at hx hy; subst hx hy; rfl
    | 1, hy => simp at hx hy; subst hx hy; rfl
    | k + 2, hy => simp at hy
  | 1, hx => match k, hy with
    | 0, hy => simp at hx hy; subst hx hy; rfl
    | 1, hy => simp at hx hy; subst hx hy; rfl
    | k + 2, hy => simp at hy
  | i + 2, hx => simp at hx
set_option maxHeartbeats 4000000 in
set_option maxRecDepth 100000 in
theorem corners0_is (a b : Int × Int) (w : World) (ha : in62 a.1 = true ∧ in62 a.2 = true) (hb : in62 b.1 = true ∧ in62 b.2 = true) :
    Calls Tryz.prog 84 #[.agg #[.int .i64 a.1, .int .i64 a.2], .agg #[.int .i64 b.1, .int .i64 b.2], .int .i64 0] w fun e w' => ∃ g c, e = .returned (.slice (some ⟨g, 0, none⟩) 4 c) ∧ QAtK 11 w' g (cornL 0 a b) ∧ Kp No w w' := by
  obtain ⟨i0, hi, hz0, hz1, hz2⟩ := info_parts infoQ
  have HI := Lib.hid hi
  have HAB := Lib.hid (And.intro ha hb)
  have hLl : (cornL 0 a b).length = 4 := rfl
  have CA := Lib.hid (corn_at 0 a b)
  generalize cornL 0 a b = L at *
  obtain ⟨h1, h2, h3, h4, KA⟩ := four_new w (.cells #[.int .i64 a.1, .int .i64 a.2] 38) (.cells #[.int .i64 b.1, .int .i64 b.2] 38) (.cells #[.int .i64 a.1, .int .i64 a.2] 2) (.cells #[.int .i64 b.1, .int .i64 b.2] 2)
  replace h3 := Lib.hid h3
  replace h4 := Lib.hid h4
  replace KA := Lib.hid KA
  replace hLl := Lib.hid hLl
  clear h1 h2 ha hb
  go_enter Tryz.func84, Tryz.ntmps84
  go_wp2_with fail
  generalize (((w.alloc (.cells #[.int .i64 a.1, .int .i64 a.2] 38)).alloc (.cells #[.int .i64 b.1, .int .i64 b.2] 38)).alloc (.cells #[.int .i64 a.1, .int .i64 a.2] 2)).alloc (.cells #[.int .i64 b.1, .int .i64 b.2] 2) = wa at *
  go_loopw [7, 10] (fun v s wr => ∃ (i : Nat), i ≤ 2 ∧ s = .int .i64 i ∧ RowQ wa.heap.size wr v (L.take (2 * i)) 11 ∧ Kp No wa wr) (fun _ s _ => 2 - (intOf s).toNat)
  case atStart => exact ⟨0, by omega, rfl, RowQ.nil _ _ _, Kp.refl _ _⟩
  case round =>
    obtain ⟨i, hi2, rfl, hR, hkp⟩ := hrel
    obtain ⟨wo, rfl⟩ : ∃ wo : World, wo = wr := ⟨_, rfl⟩
    have HR := Lib.hid hR
    have KP := Lib.hid hkp
    clear hR hkp
    by_cases hlt : i < 2
    · obtain ⟨x, hx⟩ : ∃ x, [a.1, a.2][i]? = some x := ⟨_, List.getElem?_eq_getElem (by simpa using hlt)⟩
      have cxa := row_ints h3.out i x hx
      have hxb : in62 x = true := by
        have := HAB.out.1
        match i, hx with
        | 0, hx => simp at hx; subst hx; exact this.1
        | 1, hx => simp at hx; subst hx; exact this.2
        | i + 2, hx => simp at hx
      have hxr : -9223372036854775808 < x ∧ x < 9223372036854775808 := by unfold in62 at hxb; simp at hxb; omega
      have QX := Lib.hid (fun w0 => quo_is x w0 hxr)
      have HX := Lib.hid hx
      have CXA := Lib.hid cxa
      clear hx cxa hxb hxr
      obtain ⟨xq, hxq⟩ : ∃ q : Rat, (x : Rat) = q := ⟨_, rfl⟩
      rw [hxq] at QX
      have HXQ := Lib.hid hxq
      clear hxq
      have hi0 : (0 : Int) ≤ (i : Int) := by omega
      have hi1 : (i : Int) < 2 := by omega
      go_wp2_with fail
      go_loopw [7, 11] (fun v s wr => ∃ (k : Nat), k ≤ 2 ∧ s = .int .i64 k ∧ RowQ wa.heap.size wr v (L.take (2 * i + k)) 11 ∧ Kp No wa wr) (fun _ s _ => 2 - (intOf s).toNat)
      case atStart => exact ⟨0, by omega, rfl, HR.out, KP.out⟩
      case round =>
        obtain ⟨k, hk2, rfl, hR2, hkp2⟩ := hrel
        clear HR KP
        have HR := Lib.hid hR2
        have KP := Lib.hid hkp2
        clear hR2 hkp2
        by_cases hlt2 : k < 2
        · obtain ⟨y, hy⟩ : ∃ y, [b.1, b.2][k]? = some y := ⟨_, List.getElem?_eq_getElem (by simpa using hlt2)⟩
          have cya := row_ints h4.out k y hy
          have hyb : in62 y = true := by
            have := HAB.out.2
            match k, hy with
            | 0, hy => simp at hy; subst hy; exact this.1
            | 1, hy => simp at hy; subst hy; exact this.2
            | k + 2, hy => simp at hy
          have hyr : -9223372036854775808 < y ∧ y < 9223372036854775808 := by unfold in62 at hyb; simp at hyb; omega
          have QY := Lib.hid (fun w0 => quo_is y w0 hyr)
          have hq := CA.out i k x y HX.out hy
          rw [HXQ.out] at hq
          clear hyb hyr
          obtain ⟨yq, hyq⟩ : ∃ q : Rat, (y : Rat) = q := ⟨_, rfl⟩
          rw [hyq] at QY hq
          have OP := Lib.hid (fun w0 u v hu hv => op0 w0 u v xq yq hu hv)
          generalize opQ 0 xq yq = qq at *
          have HQ := Lib.hid hq
          have HT := Lib.hid (show L.take (2 * i + (k + 1)) = L.take (2 * i + k) ++ [qq] by rw [show 2 * i + (k + 1) = 2 * i + k + 1 by omega, List.take_add_one, hq]; rfl)
          have hlen : (L.take (2 * i + k)).length = 2 * i + k := by rw [List.length_take, hLl.out]; omega
          obtain ⟨es, he1, he2, he3⟩ := HR.out
          rw [hlen] at he2
          obtain ⟨av, cv, rfl, _, _, _⟩ := own_form he2
          have KB := Lib.hid (KP.out.tr (Kp.alloc No wr (.cells #[.bool false, .slice none 0 0, .slice none 0 0] 76)))
          have HB3 := Lib.hid (at_newQ wr (.cells #[.bool false, .slice none 0 0, .slice none 0 0] 76))
          have SB := Lib.hid (show wr.heap.size + 1 ≤ (wr.alloc (.cells #[.bool false, .slice none 0 0, .slice none 0 0] 76)).heap.size by simp)
          have KW := Lib.hid (Kp.alloc No wr (.cells #[.bool false, .slice none 0 0, .slice none 0 0] 76))
          have cx := KB.out.cell CXA.out id
          have cy := KB.out.cell cya id
          have hg1 : w.heap.size + 1 + 1 < wr.heap.size := Nat.lt_of_lt_of_le (World.block_lt_of_cell? _ _ CXA.out) KP.out.size
          have hg2 : w.heap.size + 1 + 1 + 1 < wr.heap.size := Nat.lt_of_lt_of_le (World.block_lt_of_cell? _ _ cya) KP.out.size
          have nX := Lib.hid (show ¬ Kq.One wr.heap.size (w.heap.size + 1 + 1) from fun e => by unfold Kq.One at e; omega)
          have nY := Lib.hid (show ¬ Kq.One wr.heap.size (w.heap.size + 1 + 1 + 1) from fun e => by unfold Kq.One at e; omega)
          have HE := Lib.hid (And.intro he1 (And.intro he2 he3))
          have hk0 : (0 : Int) ≤ (k : Int) := by omega
          have hk1 : (k : Int) < 2 := by omega
          clear hy cya hq hyq he1 he2 he3 hg1 hg2 CA
          go_wp2_with fail
          generalize wr.alloc (.cells #[.bool false, .slice none 0 0, .slice none 0 0] 76) = wb at *
          have FS : Stab (fun ix wz u => (ix = 4 → QuoNew (wr.heap.size + 1) wz u xq 2) ∧ (ix = 9 → QuoNew (wr.heap.size + 1) wz u yq 2) ∧ (ix = 10 → TupQ (wr.heap.size + 1) wz u qq 11) ∧ (ix = 11 → TupQ (wr.heap.size + 1) wz u qq 11) ∧ (ix = 12 → QuoNew (wr.heap.size + 1) wz u qq 11) ∧ True) := fun ix u wz wz' kz h => ⟨fun e => QuoNew.no (h.1 e) kz, fun e => QuoNew.no (h.2.1 e) kz, fun e => TupQ.no (h.2.2.1 e) kz, fun e => TupQ.no (h.2.2.2.1 e) kz, fun e => QuoNew.no (h.2.2.2.2.1 e) kz, trivial⟩
          have FB : ∀ (ix : Nat) (u : Value) (wz wz' : World), Kp (Kq.One (wr.heap.size)) wz wz' → ((fun ix wz u => (ix = 4 → QuoNew (wr.heap.size + 1) wz u xq 2) ∧ (ix = 9 → QuoNew (wr.heap.size + 1) wz u yq 2) ∧ (ix = 10 → TupQ (wr.heap.size + 1) wz u qq 11) ∧ (ix = 11 → TupQ (wr.heap.size + 1) wz u qq 11) ∧ (ix = 12 → QuoNew (wr.heap.size + 1) wz u qq 11) ∧ True : Nat → World → Value → Prop) ix wz u) → ((fun ix wz u => (ix = 4 → QuoNew (wr.heap.size + 1) wz u xq 2) ∧ (ix = 9 → QuoNew (wr.heap.size + 1) wz u yq 2) ∧ (ix = 10 → TupQ (wr.heap.size + 1) wz u qq 11) ∧ (ix = 11 → TupQ (wr.heap.size + 1) wz u qq 11) ∧ (ix = 12 → QuoNew (wr.heap.size + 1) wz u qq 11) ∧ True : Nat → World → Value → Prop) ix wz' u) := fun ix u wz wz' kz h => ⟨fun e => QuoNew.kpS (h.1 e) kz, fun e => QuoNew.kpS (h.2.1 e) kz, fun e => TupQ.kpS (h.2.2.1 e) kz, fun e => TupQ.kpS (h.2.2.2.1 e) kz, fun e => QuoNew.kpS (h.2.2.2.2.1 e) kz, trivial⟩
          have FS := Lib.hid FS
          have FB := Lib.hid FB
          refine wp_region_each (fun ix u => match ix with | 0 => u = .slice (some ⟨w.heap.size + 1 + 1, 0, none⟩) 2 2 | 1 => u = .int .i64 (i : Nat) | 2 => u = .pointer (some ⟨w.heap.size + 1 + 1, i, none⟩) | 3 => u = .int .i64 x | 5 => u = .slice (some ⟨w.heap.size + 1 + 1 + 1, 0, none⟩) 2 2 | 6 => u = .int .i64 (k : Nat) | 7 => u = .pointer (some ⟨w.heap.size + 1 + 1 + 1, k, none⟩) | 8 => u = .int .i64 y | 13 => u = .int .i64 0 | _ => True) (HvS wb (wr.heap.size) 76 #[.bool false, .slice none 0 0, .slice none 0 0] 14 12 (fun ix wz u => (ix = 4 → QuoNew (wr.heap.size + 1) wz u xq 2) ∧ (ix = 9 → QuoNew (wr.heap.size + 1) wz u yq 2) ∧ (ix = 10 → TupQ (wr.heap.size + 1) wz u qq 11) ∧ (ix = 11 → TupQ (wr.heap.size + 1) wz u qq 11) ∧ (ix = 12 → QuoNew (wr.heap.size + 1) wz u qq 11) ∧ True)) (by kernel_rfl) (by kernel_rfl) (by kernel_rfl) ?_ ?_ ?_
          · exact HvS.start HB3.out
          · refine ⟨?_, ?_, ?_, ?_, ?_, ?_, ?_, ?_, ?_, ?_, ?_, ?_, ?_, ?_, ?_, trivial⟩
            · intro r a w' hf hg hW hr hd K hK
              refine wpOp_of rfl rfl ?_
              have e0 : a.tmps.getD 8 undef = .slice (some ⟨w.heap.size + 1 + 1, 0, none⟩) 2 2 := hf.evalFree (by kernel_rfl)
              go_simp
              exact hK _ _ rfl (hW.upd 0 _ hr (by decide) ⟨fun e => absurd e (by decide), fun e => absurd e (by decide), fun e => absurd e (by decide), fun e => absurd e (by decide), fun e => absurd e (by decide), trivial⟩)
            · intro r a w' hf hg hW hr hd K hK
              refine wpOp_of rfl rfl ?_
              have e0 : a.tmps.getD 10 undef = .int .i64 (i : Nat) := hf.evalFree (by kernel_rfl)
              go_simp
              exact hK _ _ rfl (hW.upd 1 _ hr (by decide) ⟨fun e => absurd e (by decide), fun e => absurd e (by decide), fun e => absurd e (by decide), fun e => absurd e (by decide), fun e => absurd e (by decide), trivial⟩)
            · intro r a w' hf hg hW hr hd K hK
              refine wpOp_of rfl rfl ?_
              refine hf.depE hg hd 0 50 (by kernel_rfl) fun u0 e0 g0 h0 => ?_
              replace g0 : u0 = .slice (some ⟨w.heap.size + 1 + 1, 0, none⟩) 2 2 := g0
              subst g0
              refine hf.depE hg hd 1 51 (by kernel_rfl) fun u1 e1 g1 h1 => ?_
              replace g1 : u1 = .int .i64 (i : Nat) := g1
              subst g1
              go_simp
              exact hK _ _ rfl (hW.upd 2 _ hr (by decide) ⟨fun e => absurd e (by decide), fun e => absurd e (by decide), fun e => absurd e (by decide), fun e => absurd e (by decide), fun e => absurd e (by decide), trivial⟩)
            · intro r a w' hf hg hW hr hd K hK
              refine wpOp_of rfl rfl ?_
              refine hf.depE hg hd 2 52 (by kernel_rfl) fun u0 e0 g0 h0 => ?_
              replace g0 : u0 = .pointer (some ⟨w.heap.size + 1 + 1, i, none⟩) := g0
              subst g0
              have z0 := hW.kp.cell cx nX.out
              go_simp
              exact hK _ _ rfl (hW.upd 3 _ hr (by decide) ⟨fun e => absurd e (by decide), fun e => absurd e (by decide), fun e => absurd e (by decide), fun e => absurd e (by decide), fun e => absurd e (by decide), trivial⟩)
            · intro r a w' hf hg hW hr hd K hK
              refine wpOp_of rfl rfl ?_
              refine hf.depE hg hd 3 53 (by kernel_rfl) fun u0 e0 g0 h0 => ?_
              replace g0 : u0 = .int .i64 x := g0
              subst g0
              go_simp
              with_reducible refine (QX.out _).mono ?_
              rintro e w'' ⟨z, rfl, hz, k⟩
              exact hK _ _ trivial ((hW.call FS.out k).upd 4 _ hr (by decide) ⟨fun _ => hz.mono (Nat.le_trans SB.out hW.kp.size), fun e => absurd e (by decide), fun e => absurd e (by decide), fun e => absurd e (by decide), fun e => absurd e (by decide), trivial⟩)
            · intro r a w' hf hg hW hr hd K hK
              refine wpOp_of rfl rfl ?_
              have e0 : a.tmps.getD 9 undef = .slice (some ⟨w.heap.size + 1 + 1 + 1, 0, none⟩) 2 2 := hf.evalFree (by kernel_rfl)
              go_simp
              exact hK _ _ rfl (hW.upd 5 _ hr (by decide) ⟨fun e => absurd e (by decide), fun e => absurd e (by decide), fun e => absurd e (by decide), fun e => absurd e (by decide), fun e => absurd e (by decide), trivial⟩)
            · intro r a w' hf hg hW hr hd K hK
              refine wpOp_of rfl rfl ?_
              have e0 : a.tmps.getD 11 undef = .int .i64 (k : Nat) := hf.evalFree (by kernel_rfl)
              go_simp
              exact hK _ _ rfl (hW.upd 6 _ hr (by decide) ⟨fun e => absurd e (by decide), fun e => absurd e (by decide), fun e => absurd e (by decide), fun e => absurd e (by decide), fun e => absurd e (by decide), trivial⟩)
            · intro r a w' hf hg hW hr hd K hK
              refine wpOp_of rfl rfl ?_
              refine hf.depE hg hd 5 55 (by kernel_rfl) fun u0 e0 g0 h0 => ?_
              replace g0 : u0 = .slice (some ⟨w.heap.size + 1 + 1 + 1, 0, none⟩) 2 2 := g0
              subst g0
              refine hf.depE hg hd 6 56 (by kernel_rfl) fun u1 e1 g1 h1 => ?_
              replace g1 : u1 = .int .i64 (k : Nat) := g1
              subst g1
              go_simp
              exact hK _ _ rfl (hW.upd 7 _ hr (by decide) ⟨fun e => absurd e (by decide), fun e => absurd e (by decide), fun e => absurd e (by decide), fun e => absurd e (by decide), fun e => absurd e (by decide), trivial⟩)
            · intro r a w' hf hg hW hr hd K hK
              refine wpOp_of rfl rfl ?_
              refine hf.depE hg hd 7 57 (by kernel_rfl) fun u0 e0 g0 h0 => ?_
              replace g0 : u0 = .pointer (some ⟨w.heap.size + 1 + 1 + 1, k, none⟩) := g0
              subst g0
              have z0 := hW.kp.cell cy nY.out
              go_simp
              exact hK _ _ rfl (hW.upd 8 _ hr (by decide) ⟨fun e => absurd e (by decide), fun e => absurd e (by decide), fun e => absurd e (by decide), fun e => absurd e (by decide), fun e => absurd e (by decide), trivial⟩)
            · intro r a w' hf hg hW hr hd K hK
              refine wpOp_of rfl rfl ?_
              refine hf.depE hg hd 8 58 (by kernel_rfl) fun u0 e0 g0 h0 => ?_
              replace g0 : u0 = .int .i64 y := g0
              subst g0
              go_simp
              with_reducible refine (QY.out _).mono ?_
              rintro e w'' ⟨z, rfl, hz, k⟩
              exact hK _ _ trivial ((hW.call FS.out k).upd 9 _ hr (by decide) ⟨fun e => absurd e (by decide), fun _ => hz.mono (Nat.le_trans SB.out hW.kp.size), fun e => absurd e (by decide), fun e => absurd e (by decide), fun e => absurd e (by decide), trivial⟩)
            · intro r a w' hf hg hW hr hd K hK
              refine wpOp_of rfl rfl ?_
              refine hf.depE hg hd 4 54 (by kernel_rfl) fun u0 e0 g0 h0 => ?_
              have f0 := (hW.hv 4 u0 h0).1 rfl
              refine hf.depE hg hd 9 59 (by kernel_rfl) fun u1 e1 g1 h1 => ?_
              have f1 := (hW.hv 9 u1 h1).2.1 rfl
              go_simp
              with_reducible refine (OP.out _ _ _ f0.is f1.is).mono ?_
              rintro e w'' ⟨z, rfl, hz, k⟩
              exact hK _ _ trivial ((hW.call FS.out k).upd 10 _ hr (by decide) ⟨fun e => absurd e (by decide), fun e => absurd e (by decide), fun _ => ⟨z, rfl, hz.mono (Nat.le_trans SB.out hW.kp.size)⟩, fun e => absurd e (by decide), fun e => absurd e (by decide), trivial⟩)
            · intro r a w' hf hg hW hr hd K hK
              refine wpOp_of rfl rfl ?_
              refine hf.depE hg hd 10 60 (by kernel_rfl) fun u0 e0 g0 h0 => ?_
              have f0 := (hW.hv 10 u0 h0).2.2.1 rfl
              go_simp
              exact hK _ _ trivial (hW.upd 11 _ hr (by decide) ⟨fun e => absurd e (by decide), fun e => absurd e (by decide), fun e => absurd e (by decide), fun _ => f0, fun e => absurd e (by decide), trivial⟩)
            · intro r a w' hf hg hW hr hd K hK
              refine wpOp_of rfl rfl ?_
              refine hf.depE hg hd 11 49 (by kernel_rfl) fun u0 e0 g0 h0 => ?_
              have f0 := (hW.hv 11 u0 h0).2.2.2.1 rfl
              obtain ⟨z, rfl, hz⟩ := f0
              go_simp
              exact hK _ _ trivial (hW.upd 12 _ hr (by decide) ⟨fun e => absurd e (by decide), fun e => absurd e (by decide), fun e => absurd e (by decide), fun e => absurd e (by decide), fun _ => hz, trivial⟩)
            · intro r a w' hf hg hW hr hd K hK
              refine wpOp_of rfl rfl ?_
              refine hf.depE hg hd 11 49 (by kernel_rfl) fun u0 e0 g0 h0 => ?_
              have f0 := (hW.hv 11 u0 h0).2.2.2.1 rfl
              obtain ⟨z, rfl, hz⟩ := f0
              go_simp
              exact hK _ _ rfl (hW.upd 13 _ hr (by decide) ⟨fun e => absurd e (by decide), fun e => absurd e (by decide), fun e => absurd e (by decide), fun e => absurd e (by decide), fun e => absurd e (by decide), trivial⟩)
            · intro r a w' hf hg hW hr hd K hK
              refine wpOp_of rfl rfl ?_
              have e0 : a.tmps.getD 12 undef = .pointer (some ⟨wr.heap.size, 0, none⟩) := hf.evalFree (by kernel_rfl)
              refine hf.depE hg hd 12 61 (by kernel_rfl) fun u1 e1 g1 h1 => ?_
              have f1 := (hW.hv 12 u1 h1).2.2.2.2.1 rfl
              obtain ⟨n, d, rfl, hn, hd⟩ := f1
              obtain ⟨An, mn, cn, _, rfl, _⟩ := hn.1.pos
              obtain ⟨Ad, md, cd, _, rfl, _⟩ := hd.1.pos
              obtain ⟨x0, x1, x2, y0, y1, y2⟩ := three_cells (hW.b0 hr)
              go_simp
              exact hK undef _ trivial (hW.store FB.out (by decide) h1 (kp_setQ _ _ _ _ _) (setQ_at (hW.b0 hr) _ _ _) _ ⟨fun e => absurd e (by decide), fun e => absurd e (by decide), fun e => absurd e (by decide), fun e => absurd e (by decide), fun e => absurd e (by decide), trivial⟩)
          intro r' w3 hg hW hr'
          have hkN := hW.kp
          obtain ⟨q12, hq12⟩ : ∃ u, r' 12 = some u := Option.ne_none_iff_exists'.1 (hr' 12 (by decide))
          have hF12 := (hW.hv 12 q12 hq12).2.2.2.2.1 rfl
          obtain ⟨cs, hcs, hB⟩ := hW.b1 (hr' 14 (by decide))
          simp only [List.length_cons, List.length_nil, Nat.reduceAdd, List.range_succ, List.range_zero, List.nil_append, List.cons_append, List.map_cons, List.map_nil, putAll, Act.put, List.setIfInBounds_toArray, List.set_cons_succ, List.set_cons_zero, hq12, Option.getD_some]
          clear hg hW hr' FS FB
          rw [hq12] at hcs
          injection hcs with hcs
          subst hcs
          obtain ⟨n, d, e, hn, hd⟩ := hF12
          injection e with e
          subst e
          obtain ⟨z0, z1, z2, _⟩ := three_cells hB
          have K3 := Lib.hid (KW.out.trans hkN (T := Kq.One wr.heap.size) (S := No) (fun k hk e => by unfold Kq.One at e; omega))
          obtain ⟨An, mn, cn, _, rfl, _⟩ := hn.1.pos
          obtain ⟨Ad, md, cd, _, rfl, _⟩ := hd.1.pos
          have HN := Lib.hid (hn.no (Kp.alloc No w3 (.cells #[.bool (negQ qq), .slice An mn cn, .slice Ad md cd] 76)))
          have HD := Lib.hid (hd.no (Kp.alloc No w3 (.cells #[.bool (negQ qq), .slice An mn cn, .slice Ad md cd] 76)))
          have OW := Lib.hid (own_kp HE.out.2.1 (K3.out.tr (Kp.alloc No w3 (.cells #[.bool (negQ qq), .slice An mn cn, .slice Ad md cd] 76))) (fun _ _ h => h))
          clear hn hd hkN hB cx cy
          go_wp2_with (at_builtin; refine stop_in ?_)
          refine stop_out ?_
          refine wpL_append_any rfl _ _ 71 rfl wa.heap.size 76 i0 (.agg #[.bool false, .slice none 0 0, .slice none 0 0]) 3 56 Tryz.underlying71 HI.out hz0 hz1 hz2 rfl (by decide) (.slice av (2 * i + k) cv) (2 * i + k) (es.flatMap qC) rfl OW.out (some ⟨w3.heap.size, 0, none⟩) 1 1 [.bool (negQ qq), .slice An mn cn, .slice Ad md cd] rfl rfl (fun h => by cases h) (fun ad had j u hu => by cases had; exact newsQ w3 _ _ _ _ j u hu) (fun u hu => by simp at hu; rcases hu with rfl | rfl | rfl <;> rfl) (by unfold maxLen; omega) (by omega) (by have h1 := KP.out.size; have h2 := K3.out.size; simp; omega) ?_
          intro v' w5 hown hgrow hat
          have R5 := Lib.hid (RowQ.snoc hlen (K3.out.tr (Kp.alloc No w3 _)) HN.out HD.out (Nat.le_refl _) hgrow hat es HE.out.1 HE.out.2.1 HE.out.2.2 hown)
          have K5 := Lib.hid (show Kp No wa w5 from (KP.out.tr K3.out).trans ((Kp.alloc (fun g => wa.heap.size ≤ g) _ _).tr (Kp.grown hgrow fun g hg _ => (own_ge HE.out.2.1 hg).1)) (fun g hg h => absurd h (Nat.not_le.2 hg)))
          clear hown hgrow hat z0 z1 z2
          go_wp2_with fail
          go_round
          case rel => exact ⟨k + 1, by omega, by go_num, by rw [HT.out]; exact R5.out, K5.out⟩
          case measure => simp [intOf] <;> omega
        · obtain rfl : k = 2 := by omega
          have hR9 := HR.out
          rw [show 2 * i + 2 = 2 * (i + 1) by omega] at hR9
          have HR9 := Lib.hid hR9
          have hi9 : IntKind.i64.wrap ((i : Int) + 1) = (i : Int) + 1 := by rw [IntKind.wrap_i64]; omega
          obtain ⟨av, cv, rfl, _, _⟩ := hR9.form
          clear hR9 HR CA
          go_wp2_with fail
          go_roundw
          case rel => exact ⟨i + 1, by omega, by go_num, HR9.out, KP.out⟩
          case measure => simp [intOf] <;> omega
    · obtain rfl : i = 2 := by omega
      have hR9 := HR.out
      rw [List.take_of_length_le (by rw [hLl.out]; omega)] at hR9
      obtain ⟨g, c, rfl, hq⟩ := hR9.at_ (by rw [hLl.out]; omega)
      rw [hLl.out]
      have HQ := Lib.hid hq
      have KF := Lib.hid (KA.out.tr KP.out)
      clear hR9 HR CA hq
      go_wp2_with fail
      go_ret
      exact ⟨g, c, rfl, HQ.out, KF.out⟩

set_option maxHeartbeats 4000000 in
set_option maxRecDepth 100000 in
theorem corners1_is (a b : Int × Int) (w : World) (ha : in62 a.1 = true ∧ in62 a.2 = true) (hb : in62 b.1 = true ∧ in62 b.2 = true) :
    Calls Tryz.prog 84 #[.agg #[.int .i64 a.1, .int .i64 a.2], .agg #[.int .i64 b.1, .int .i64 b.2], .int .i64 1] w fun e w' => ∃ g c, e = .returned (.slice (some ⟨g, 0, none⟩) 4 c) ∧ QAtK 11 w' g (cornL 1 a b) ∧ Kp No w w' := by
  obtain ⟨i0, hi, hz0, hz1, hz2⟩ := info_parts infoQ
  have HI := Lib.hid hi
  have HAB := Lib.hid (And.intro ha hb)
  have hLl : (cornL 1 a b).length = 4 := rfl
  have CA := Lib.hid (corn_at 1 a b)
  generalize cornL 1 a b = L at *
  obtain ⟨h1, h2, h3, h4, KA⟩ := four_new w (.cells #[.int .i64 a.1, .int .i64 a.2] 38) (.cells #[.int .i64 b.1, .int .i64 b.2] 38) (.cells #[.int .i64 a.1, .int .i64 a.2] 2) (.cells #[.int .i64 b.1, .int .i64 b.2] 2)
  replace h3 := Lib.hid h3
  replace h4 := Lib.hid h4
  replace KA := Lib.hid KA
  replace hLl := Lib.hid hLl
  clear h1 h2 ha hb
  go_enter Tryz.func84, Tryz.ntmps84
  go_wp2_with fail
  generalize (((w.alloc (.cells #[.int .i64 a.1, .int .i64 a.2] 38)).alloc (.cells #[.int .i64 b.1, .int .i64 b.2] 38)).alloc (.cells #[.int .i64 a.1, .int .i64 a.2] 2)).alloc (.cells #[.int .i64 b.1, .int .i64 b.2] 2) = wa at *
  go_loopw [7, 10] (fun v s wr => ∃ (i : Nat), i ≤ 2 ∧ s = .int .i64 i ∧ RowQ wa.heap.size wr v (L.take (2 * i)) 11 ∧ Kp No wa wr) (fun _ s _ => 2 - (intOf s).toNat)
  case atStart => exact ⟨0, by omega, rfl, RowQ.nil _ _ _, Kp.refl _ _⟩
  case round =>
    obtain ⟨i, hi2, rfl, hR, hkp⟩ := hrel
    obtain ⟨wo, rfl⟩ : ∃ wo : World, wo = wr := ⟨_, rfl⟩
    have HR := Lib.hid hR
    have KP := Lib.hid hkp
    clear hR hkp
    by_cases hlt : i < 2
    · obtain ⟨x, hx⟩ : ∃ x, [a.1, a.2][i]? = some x := ⟨_, List.getElem?_eq_getElem (by simpa using hlt)⟩
      have cxa := row_ints h3.out i x hx
      have hxb : in62 x = true := by
        have := HAB.out.1
        match i, hx with
        | 0, hx => simp at hx; subst hx; exact this.1
        | 1, hx => simp at hx; subst hx; exact this.2
        | i + 2, hx => simp at hx
      have hxr : -9223372036854775808 < x ∧ x < 9223372036854775808 := by unfold in62 at hxb; simp at hxb; omega
      have QX := Lib.hid (fun w0 => quo_is x w0 hxr)
      have HX := Lib.hid hx
      have CXA := Lib.hid cxa
      clear hx cxa hxb hxr
      obtain ⟨xq, hxq⟩ : ∃ q : Rat, (x : Rat) = q := ⟨_, rfl⟩
      rw [hxq] at QX
      have HXQ := Lib.hid hxq
      clear hxq
      have hi0 : (0 : Int) ≤ (i : Int) := by omega
      have hi1 : (i : Int) < 2 := by omega
      go_wp2_with fail
      go_loopw [7, 11] (fun v s wr => ∃ (k : Nat), k ≤ 2 ∧ s = .int .i64 k ∧ RowQ wa.heap.size wr v (L.take (2 * i + k)) 11 ∧ Kp No wa wr) (fun _ s _ => 2 - (intOf s).toNat)
      case atStart => exact ⟨0, by omega, rfl, HR.out, KP.out⟩
      case round =>
        obtain ⟨k, hk2, rfl, hR2, hkp2⟩ := hrel
        clear HR KP
        have HR := Lib.hid hR2
        have KP := Lib.hid hkp2
        clear hR2 hkp2
        by_cases hlt2 : k < 2
        · obtain ⟨y, hy⟩ : ∃ y, [b.1, b.2][k]? = some y := ⟨_, List.getElem?_eq_getElem (by simpa using hlt2)⟩
          have cya := row_ints h4.out k y hy
          have hyb : in62 y = true := by
            have := HAB.out.2
            match k, hy with
            | 0, hy => simp at hy; subst hy; exact this.1
            | 1, hy => simp at hy; subst hy; exact this.2
            | k + 2, hy => simp at hy
          have hyr : -9223372036854775808 < y ∧ y < 9223372036854775808 := by unfold in62 at hyb; simp at hyb; omega
          have QY := Lib.hid (fun w0 => quo_is y w0 hyr)
          have hq := CA.out i k x y HX.out hy
          rw [HXQ.out] at hq
          clear hyb hyr
          obtain ⟨yq, hyq⟩ : ∃ q : Rat, (y : Rat) = q := ⟨_, rfl⟩
          rw [hyq] at QY hq
          have OP := Lib.hid (fun w0 u v hu hv => op1 w0 u v xq yq hu hv)
          generalize opQ 1 xq yq = qq at *
          have HQ := Lib.hid hq
          have HT := Lib.hid (show L.take (2 * i + (k + 1)) = L.take (2 * i + k) ++ [qq] by rw [show 2 * i + (k + 1) = 2 * i + k + 1 by omega, List.take_add_one, hq]; rfl)
          have hlen : (L.take (2 * i + k)).length = 2 * i + k := by rw [List.length_take, hLl.out]; omega
          obtain ⟨es, he1, he2, he3⟩ := HR.out
          rw [hlen] at he2
          obtain ⟨av, cv, rfl, _, _, _⟩ := own_form he2
          have KB := Lib.hid (KP.out.tr (Kp.alloc No wr (.cells #[.bool false, .slice none 0 0, .slice none 0 0] 76)))
          have HB3 := Lib.hid (at_newQ wr (.cells #[.bool false, .slice none 0 0, .slice none 0 0] 76))
          have SB := Lib.hid (show wr.heap.size + 1 ≤ (wr.alloc (.cells #[.bool false, .slice none 0 0, .slice none 0 0] 76)).heap.size by simp)
          have KW := Lib.hid (Kp.alloc No wr (.cells #[.bool false, .slice none 0 0, .slice none 0 0] 76))
          have cx := KB.out.cell CXA.out id
          have cy := KB.out.cell cya id
          have hg1 : w.heap.size + 1 + 1 < wr.heap.size := Nat.lt_of_lt_of_le (World.block_lt_of_cell? _ _ CXA.out) KP.out.size
          have hg2 : w.heap.size + 1 + 1 + 1 < wr.heap.size := Nat.lt_of_lt_of_le (World.block_lt_of_cell? _ _ cya) KP.out.size
          have nX := Lib.hid (show ¬ Kq.One wr.heap.size (w.heap.size + 1 + 1) from fun e => by unfold Kq.One at e; omega)
          have nY := Lib.hid (show ¬ Kq.One wr.heap.size (w.heap.size + 1 + 1 + 1) from fun e => by unfold Kq.One at e; omega)
          have HE := Lib.hid (And.intro he1 (And.intro he2 he3))
          have hk0 : (0 : Int) ≤ (k : Int) := by omega
          have hk1 : (k : Int) < 2 := by omega
          clear hy cya hq hyq he1 he2 he3 hg1 hg2 CA
          go_wp2_with fail
          generalize wr.alloc (.cells #[.bool false, .slice none 0 0, .slice none 0 0] 76) = wb at *
          have FS : Stab (fun ix wz u => (ix = 4 → QuoNew (wr.heap.size + 1) wz u xq 2) ∧ (ix = 9 → QuoNew (wr.heap.size + 1) wz u yq 2) ∧ (ix = 10 → TupQ (wr.heap.size + 1) wz u qq 11) ∧ (ix = 11 → TupQ (wr.heap.size + 1) wz u qq 11) ∧ (ix = 12 → QuoNew (wr.heap.size + 1) wz u qq 11) ∧ True) := fun ix u wz wz' kz h => ⟨fun e => QuoNew.no (h.1 e) kz, fun e => QuoNew.no (h.2.1 e) kz, fun e => TupQ.no (h.2.2.1 e) kz, fun e => TupQ.no (h.2.2.2.1 e) kz, fun e => QuoNew.no (h.2.2.2.2.1 e) kz, trivial⟩
          have FB : ∀ (ix : Nat) (u : Value) (wz wz' : World), Kp (Kq.One (wr.heap.size)) wz wz' → ((fun ix wz u => (ix = 4 → QuoNew (wr.heap.size + 1) wz u xq 2) ∧ (ix = 9 → QuoNew (wr.heap.size + 1) wz u yq 2) ∧ (ix = 10 → TupQ (wr.heap.size + 1) wz u qq 11) ∧ (ix = 11 → TupQ (wr.heap.size + 1) wz u qq 11) ∧ (ix = 12 → QuoNew (wr.heap.size + 1) wz u qq 11) ∧ True : Nat → World → Value → Prop) ix wz u) → ((fun ix wz u => (ix = 4 → QuoNew (wr.heap.size + 1) wz u xq 2) ∧ (ix = 9 → QuoNew (wr.heap.size + 1) wz u yq 2) ∧ (ix = 10 → TupQ (wr.heap.size + 1) wz u qq 11) ∧ (ix = 11 → TupQ (wr.heap.size + 1) wz u qq 11) ∧ (ix = 12 → QuoNew (wr.heap.size + 1) wz u qq 11) ∧ True : Nat → World → Value → Prop) ix wz' u) := fun ix u wz wz' kz h => ⟨fun e => QuoNew.kpS (h.1 e) kz, fun e => QuoNew.kpS (h.2.1 e) kz, fun e => TupQ.kpS (h.2.2.1 e) kz, fun e => TupQ.kpS (h.2.2.2.1 e) kz, fun e => QuoNew.kpS (h.2.2.2.2.1 e) kz, trivial⟩
          have FS := Lib.hid FS
          have FB := Lib.hid FB
          refine wp_region_each (fun ix u => match ix with | 0 => u = .slice (some ⟨w.heap.size + 1 + 1, 0, none⟩) 2 2 | 1 => u = .int .i64 (i : Nat) | 2 => u = .pointer (some ⟨w.heap.size + 1 + 1, i, none⟩) | 3 => u = .int .i64 x | 5 => u = .slice (some ⟨w.heap.size + 1 + 1 + 1, 0, none⟩) 2 2 | 6 => u = .int .i64 (k : Nat) | 7 => u = .pointer (some ⟨w.heap.size + 1 + 1 + 1, k, none⟩) | 8 => u = .int .i64 y | 13 => u = .int .i64 0 | _ => True) (HvS wb (wr.heap.size) 76 #[.bool false, .slice none 0 0, .slice none 0 0] 14 12 (fun ix wz u => (ix = 4 → QuoNew (wr.heap.size + 1) wz u xq 2) ∧ (ix = 9 → QuoNew (wr.heap.size + 1) wz u yq 2) ∧ (ix = 10 → TupQ (wr.heap.size + 1) wz u qq 11) ∧ (ix = 11 → TupQ (wr.heap.size + 1) wz u qq 11) ∧ (ix = 12 → QuoNew (wr.heap.size + 1) wz u qq 11) ∧ True)) (by kernel_rfl) (by kernel_rfl) (by kernel_rfl) ?_ ?_ ?_
          · exact HvS.start HB3.out
          · refine ⟨?_, ?_, ?_, ?_, ?_, ?_, ?_, ?_, ?_, ?_, ?_, ?_, ?_, ?_, ?_, trivial⟩
            · intro r a w' hf hg hW hr hd K hK
              refine wpOp_of rfl rfl ?_
              have e0 : a.tmps.getD 8 undef = .slice (some ⟨w.heap.size + 1 + 1, 0, none⟩) 2 2 := hf.evalFree (by kernel_rfl)
              go_simp
              exact hK _ _ rfl (hW.upd 0 _ hr (by decide) ⟨fun e => absurd e (by decide), fun e => absurd e (by decide), fun e => absurd e (by decide), fun e => absurd e (by decide), fun e => absurd e (by decide), trivial⟩)
            · intro r a w' hf hg hW hr hd K hK
              refine wpOp_of rfl rfl ?_
              have e0 : a.tmps.getD 10 undef = .int .i64 (i : Nat) := hf.evalFree (by kernel_rfl)
              go_simp
              exact hK _ _ rfl (hW.upd 1 _ hr (by decide) ⟨fun e => absurd e (by decide), fun e => absurd e (by decide), fun e => absurd e (by decide), fun e => absurd e (by decide), fun e => absurd e (by decide), trivial⟩)
            · intro r a w' hf hg hW hr hd K hK
              refine wpOp_of rfl rfl ?_
              refine hf.depE hg hd 0 66 (by kernel_rfl) fun u0 e0 g0 h0 => ?_
              replace g0 : u0 = .slice (some ⟨w.heap.size + 1 + 1, 0, none⟩) 2 2 := g0
              subst g0
              refine hf.depE hg hd 1 67 (by kernel_rfl) fun u1 e1 g1 h1 => ?_
              replace g1 : u1 = .int .i64 (i : Nat) := g1
              subst g1
              go_simp
              exact hK _ _ rfl (hW.upd 2 _ hr (by decide) ⟨fun e => absurd e (by decide), fun e => absurd e (by decide), fun e => absurd e (by decide), fun e => absurd e (by decide), fun e => absurd e (by decide), trivial⟩)
            · intro r a w' hf hg hW hr hd K hK
              refine wpOp_of rfl rfl ?_
              refine hf.depE hg hd 2 68 (by kernel_rfl) fun u0 e0 g0 h0 => ?_
              replace g0 : u0 = .pointer (some ⟨w.heap.size + 1 + 1, i, none⟩) := g0
              subst g0
              have z0 := hW.kp.cell cx nX.out
              go_simp
              exact hK _ _ rfl (hW.upd 3 _ hr (by decide) ⟨fun e => absurd e (by decide), fun e => absurd e (by decide), fun e => absurd e (by decide), fun e => absurd e (by decide), fun e => absurd e (by decide), trivial⟩)
            · intro r a w' hf hg hW hr hd K hK
              refine wpOp_of rfl rfl ?_
              refine hf.depE hg hd 3 69 (by kernel_rfl) fun u0 e0 g0 h0 => ?_
              replace g0 : u0 = .int .i64 x := g0
              subst g0
              go_simp
              with_reducible refine (QX.out _).mono ?_
              rintro e w'' ⟨z, rfl, hz, k⟩
              exact hK _ _ trivial ((hW.call FS.out k).upd 4 _ hr (by decide) ⟨fun _ => hz.mono (Nat.le_trans SB.out hW.kp.size), fun e => absurd e (by decide), fun e => absurd e (by decide), fun e => absurd e (by decide), fun e => absurd e (by decide), trivial⟩)
            · intro r a w' hf hg hW hr hd K hK
              refine wpOp_of rfl rfl ?_
              have e0 : a.tmps.getD 9 undef = .slice (some ⟨w.heap.size + 1 + 1 + 1, 0, none⟩) 2 2 := hf.evalFree (by kernel_rfl)
              go_simp
              exact hK _ _ rfl (hW.upd 5 _ hr (by decide) ⟨fun e => absurd e (by decide), fun e => absurd e (by decide), fun e => absurd e (by decide), fun e => absurd e (by decide), fun e => absurd e (by decide), trivial⟩)
            · intro r a w' hf hg hW hr hd K hK
              refine wpOp_of rfl rfl ?_
              have e0 : a.tmps.getD 11 undef = .int .i64 (k : Nat) := hf.evalFree (by kernel_rfl)
              go_simp
              exact hK _ _ rfl (hW.upd 6 _ hr (by decide) ⟨fun e => absurd e (by decide), fun e => absurd e (by decide), fun e => absurd e (by decide), fun e => absurd e (by decide), fun e => absurd e (by decide), trivial⟩)
            · intro r a w' hf hg hW hr hd K hK
              refine wpOp_of rfl rfl ?_
              refine hf.depE hg hd 5 71 (by kernel_rfl) fun u0 e0 g0 h0 => ?_
              replace g0 : u0 = .slice (some ⟨w.heap.size + 1 + 1 + 1, 0, none⟩) 2 2 := g0
              subst g0
              refine hf.depE hg hd 6 72 (by kernel_rfl) fun u1 e1 g1 h1 => ?_
              replace g1 : u1 = .int .i64 (k : Nat) := g1
              subst g1
              go_simp
              exact hK _ _ rfl (hW.upd 7 _ hr (by decide) ⟨fun e => absurd e (by decide), fun e => absurd e (by decide), fun e => absurd e (by decide), fun e => absurd e (by decide), fun e => absurd e (by decide), trivial⟩)
            · intro r a w' hf hg hW hr hd K hK
              refine wpOp_of rfl rfl ?_
              refine hf.depE hg hd 7 73 (by kernel_rfl) fun u0 e0 g0 h0 => ?_
              replace g0 : u0 = .pointer (some ⟨w.heap.size + 1 + 1 + 1, k, none⟩) := g0
              subst g0
              have z0 := hW.kp.cell cy nY.out
              go_simp
              exact hK _ _ rfl (hW.upd 8 _ hr (by decide) ⟨fun e => absurd e (by decide), fun e => absurd e (by decide), fun e => absurd e (by decide), fun e => absurd e (by decide), fun e => absurd e (by decide), trivial⟩)
            · intro r a w' hf hg hW hr hd K hK
              refine wpOp_of rfl rfl ?_
              refine hf.depE hg hd 8 74 (by kernel_rfl) fun u0 e0 g0 h0 => ?_
              replace g0 : u0 = .int .i64 y := g0
              subst g0
              go_simp
              with_reducible refine (QY.out _).mono ?_
              rintro e w'' ⟨z, rfl, hz, k⟩
              exact hK _ _ trivial ((hW.call FS.out k).upd 9 _ hr (by decide) ⟨fun e => absurd e (by decide), fun _ => hz.mono (Nat.le_trans SB.out hW.kp.size), fun e => absurd e (by decide), fun e => absurd e (by decide), fun e => absurd e (by decide), trivial⟩)
            · intro r a w' hf hg hW hr hd K hK
              refine wpOp_of rfl rfl ?_
              refine hf.depE hg hd 4 70 (by kernel_rfl) fun u0 e0 g0 h0 => ?_
              have f0 := (hW.hv 4 u0 h0).1 rfl
              refine hf.depE hg hd 9 75 (by kernel_rfl) fun u1 e1 g1 h1 => ?_
              have f1 := (hW.hv 9 u1 h1).2.1 rfl
              go_simp
              with_reducible refine (OP.out _ _ _ f0.is f1.is).mono ?_
              rintro e w'' ⟨z, rfl, hz, k⟩
              exact hK _ _ trivial ((hW.call FS.out k).upd 10 _ hr (by decide) ⟨fun e => absurd e (by decide), fun e => absurd e (by decide), fun _ => ⟨z, rfl, hz.mono (Nat.le_trans SB.out hW.kp.size)⟩, fun e => absurd e (by decide), fun e => absurd e (by decide), trivial⟩)
            · intro r a w' hf hg hW hr hd K hK
              refine wpOp_of rfl rfl ?_
              refine hf.depE hg hd 10 76 (by kernel_rfl) fun u0 e0 g0 h0 => ?_
              have f0 := (hW.hv 10 u0 h0).2.2.1 rfl
              go_simp
              exact hK _ _ trivial (hW.upd 11 _ hr (by decide) ⟨fun e => absurd e (by decide), fun e => absurd e (by decide), fun e => absurd e (by decide), fun _ => f0, fun e => absurd e (by decide), trivial⟩)
            · intro r a w' hf hg hW hr hd K hK
              refine wpOp_of rfl rfl ?_
              refine hf.depE hg hd 11 65 (by kernel_rfl) fun u0 e0 g0 h0 => ?_
              have f0 := (hW.hv 11 u0 h0).2.2.2.1 rfl
              obtain ⟨z, rfl, hz⟩ := f0
              go_simp
              exact hK _ _ trivial (hW.upd 12 _ hr (by decide) ⟨fun e => absurd e (by decide), fun e => absurd e (by decide), fun e => absurd e (by decide), fun e => absurd e (by decide), fun _ => hz, trivial⟩)
            · intro r a w' hf hg hW hr hd K hK
              refine wpOp_of rfl rfl ?_
              refine hf.depE hg hd 11 65 (by kernel_rfl) fun u0 e0 g0 h0 => ?_
              have f0 := (hW.hv 11 u0 h0).2.2.2.1 rfl
              obtain ⟨z, rfl, hz⟩ := f0
              go_simp
              exact hK _ _ rfl (hW.upd 13 _ hr (by decide) ⟨fun e => absurd e (by decide), fun e => absurd e (by decide), fun e => absurd e (by decide), fun e => absurd e (by decide), fun e => absurd e (by decide), trivial⟩)
            · intro r a w' hf hg hW hr hd K hK
              refine wpOp_of rfl rfl ?_
              have e0 : a.tmps.getD 12 undef = .pointer (some ⟨wr.heap.size, 0, none⟩) := hf.evalFree (by kernel_rfl)
              refine hf.depE hg hd 12 77 (by kernel_rfl) fun u1 e1 g1 h1 => ?_
              have f1 := (hW.hv 12 u1 h1).2.2.2.2.1 rfl
              obtain ⟨n, d, rfl, hn, hd⟩ := f1
              obtain ⟨An, mn, cn, _, rfl, _⟩ := hn.1.pos
              obtain ⟨Ad, md, cd, _, rfl, _⟩ := hd.1.pos
              obtain ⟨x0, x1, x2, y0, y1, y2⟩ := three_cells (hW.b0 hr)
              go_simp
              exact hK undef _ trivial (hW.store FB.out (by decide) h1 (kp_setQ _ _ _ _ _) (setQ_at (hW.b0 hr) _ _ _) _ ⟨fun e => absurd e (by decide), fun e => absurd e (by decide), fun e => absurd e (by decide), fun e => absurd e (by decide), fun e => absurd e (by decide), trivial⟩)
          intro r' w3 hg hW hr'
          have hkN := hW.kp
          obtain ⟨q12, hq12⟩ : ∃ u, r' 12 = some u := Option.ne_none_iff_exists'.1 (hr' 12 (by decide))
          have hF12 := (hW.hv 12 q12 hq12).2.2.2.2.1 rfl
          obtain ⟨cs, hcs, hB⟩ := hW.b1 (hr' 14 (by decide))
          simp only [List.length_cons, List.length_nil, Nat.reduceAdd, List.range_succ, List.range_zero, List.nil_append, List.cons_append, List.map_cons, List.map_nil, putAll, Act.put, List.setIfInBounds_toArray, List.set_cons_succ, List.set_cons_zero, hq12, Option.getD_some]
          clear hg hW hr' FS FB
          rw [hq12] at hcs
          injection hcs with hcs
          subst hcs
          obtain ⟨n, d, e, hn, hd⟩ := hF12
          injection e with e
          subst e
          obtain ⟨z0, z1, z2, _⟩ := three_cells hB
          have K3 := Lib.hid (KW.out.trans hkN (T := Kq.One wr.heap.size) (S := No) (fun k hk e => by unfold Kq.One at e; omega))
          obtain ⟨An, mn, cn, _, rfl, _⟩ := hn.1.pos
          obtain ⟨Ad, md, cd, _, rfl, _⟩ := hd.1.pos
          have HN := Lib.hid (hn.no (Kp.alloc No w3 (.cells #[.bool (negQ qq), .slice An mn cn, .slice Ad md cd] 76)))
          have HD := Lib.hid (hd.no (Kp.alloc No w3 (.cells #[.bool (negQ qq), .slice An mn cn, .slice Ad md cd] 76)))
          have OW := Lib.hid (own_kp HE.out.2.1 (K3.out.tr (Kp.alloc No w3 (.cells #[.bool (negQ qq), .slice An mn cn, .slice Ad md cd] 76))) (fun _ _ h => h))
          clear hn hd hkN hB cx cy
          go_wp2_with (at_builtin; refine stop_in ?_)
          refine stop_out ?_
          refine wpL_append_any rfl _ _ 71 rfl wa.heap.size 76 i0 (.agg #[.bool false, .slice none 0 0, .slice none 0 0]) 3 56 Tryz.underlying71 HI.out hz0 hz1 hz2 rfl (by decide) (.slice av (2 * i + k) cv) (2 * i + k) (es.flatMap qC) rfl OW.out (some ⟨w3.heap.size, 0, none⟩) 1 1 [.bool (negQ qq), .slice An mn cn, .slice Ad md cd] rfl rfl (fun h => by cases h) (fun ad had j u hu => by cases had; exact newsQ w3 _ _ _ _ j u hu) (fun u hu => by simp at hu; rcases hu with rfl | rfl | rfl <;> rfl) (by unfold maxLen; omega) (by omega) (by have h1 := KP.out.size; have h2 := K3.out.size; simp; omega) ?_
          intro v' w5 hown hgrow hat
          have R5 := Lib.hid (RowQ.snoc hlen (K3.out.tr (Kp.alloc No w3 _)) HN.out HD.out (Nat.le_refl _) hgrow hat es HE.out.1 HE.out.2.1 HE.out.2.2 hown)
          have K5 := Lib.hid (show Kp No wa w5 from (KP.out.tr K3.out).trans ((Kp.alloc (fun g => wa.heap.size ≤ g) _ _).tr (Kp.grown hgrow fun g hg _ => (own_ge HE.out.2.1 hg).1)) (fun g hg h => absurd h (Nat.not_le.2 hg)))
          clear hown hgrow hat z0 z1 z2
          go_wp2_with fail
          go_round
          case rel => exact ⟨k + 1, by omega, by go_num, by rw [HT.out]; exact R5.out, K5.out⟩
          case measure => simp [intOf] <;> omega
        · obtain rfl : k = 2 := by omega
          have hR9 := HR.out
          rw [show 2 * i + 2 = 2 * (i + 1) by omega] at hR9
          have HR9 := Lib.hid hR9
          have hi9 : IntKind.i64.wrap ((i : Int) + 1) = (i : Int) + 1 := by rw [IntKind.wrap_i64]; omega
          obtain ⟨av, cv, rfl, _, _⟩ := hR9.form
          clear hR9 HR CA
          go_wp2_with fail
          go_roundw
          case rel => exact ⟨i + 1, by omega, by go_num, HR9.out, KP.out⟩
          case measure => simp [intOf] <;> omega
    · obtain rfl : i = 2 := by omega
      have hR9 := HR.out
      rw [List.take_of_length_le (by rw [hLl.out]; omega)] at hR9
      obtain ⟨g, c, rfl, hq⟩ := hR9.at_ (by rw [hLl.out]; omega)
      rw [hLl.out]
      have HQ := Lib.hid hq
      have KF := Lib.hid (KA.out.tr KP.out)
      clear hR9 HR CA hq
      go_wp2_with fail
      go_ret
      exact ⟨g, c, rfl, HQ.out, KF.out⟩

set_option maxHeartbeats 4000000 in
set_option maxRecDepth 100000 in
theorem corners2_is (a b : Int × Int) (w : World) (ha : in62 a.1 = true ∧ in62 a.2 = true) (hb : in62 b.1 = true ∧ in62 b.2 = true) :
    Calls Tryz.prog 84 #[.agg #[.int .i64 a.1, .int .i64 a.2], .agg #[.int .i64 b.1, .int .i64 b.2], .int .i64 2] w fun e w' => ∃ g c, e = .returned (.slice (some ⟨g, 0, none⟩) 4 c) ∧ QAtK 11 w' g (cornL 2 a b) ∧ Kp No w w' := by
  obtain ⟨i0, hi, hz0, hz1, hz2⟩ := info_parts infoQ
  have HI := Lib.hid hi
  have HAB := Lib.hid (And.intro ha hb)
  have hLl : (cornL 2 a b).length = 4 := rfl
  have CA := Lib.hid (corn_at 2 a b)
  generalize cornL 2 a b = L at *
  obtain ⟨h1, h2, h3, h4, KA⟩ := four_new w (.cells #[.int .i64 a.1, .int .i64 a.2] 38) (.cells #[.int .i64 b.1, .int .i64 b.2] 38) (.cells #[.int .i64 a.1, .int .i64 a.2] 2) (.cells #[.int .i64 b.1, .int .i64 b.2] 2)
  replace h3 := Lib.hid h3
  replace h4 := Lib.hid h4
  replace KA := Lib.hid KA
  replace hLl := Lib.hid hLl
  clear h1 h2 ha hb
  go_enter Tryz.func84, Tryz.ntmps84
  go_wp2_with fail
  generalize (((w.alloc (.cells #[.int .i64 a.1, .int .i64 a.2] 38)).alloc (.cells #[.int .i64 b.1, .int .i64 b.2] 38)).alloc (.cells #[.int .i64 a.1, .int .i64 a.2] 2)).alloc (.cells #[.int .i64 b.1, .int .i64 b.2] 2) = wa at *
  go_loopw [7, 10] (fun v s wr => ∃ (i : Nat), i ≤ 2 ∧ s = .int .i64 i ∧ RowQ wa.heap.size wr v (L.take (2 * i)) 11 ∧ Kp No wa wr) (fun _ s _ => 2 - (intOf s).toNat)
  case atStart => exact ⟨0, by omega, rfl, RowQ.nil _ _ _, Kp.refl _ _⟩
  case round =>
    obtain ⟨i, hi2, rfl, hR, hkp⟩ := hrel
    obtain ⟨wo, rfl⟩ : ∃ wo : World, wo = wr := ⟨_, rfl⟩
    have HR := Lib.hid hR
    have KP := Lib.hid hkp
    clear hR hkp
    by_cases hlt : i < 2
    · obtain ⟨x, hx⟩ : ∃ x, [a.1, a.2][i]? = some x := ⟨_, List.getElem?_eq_getElem (by simpa using hlt)⟩
      have cxa := row_ints h3.out i x hx
      have hxb : in62 x = true := by
        have := HAB.out.1
        match i, hx with
        | 0, hx => simp at hx; subst hx; exact this.1
        | 1, hx => simp at hx; subst hx; exact this.2
        | i + 2, hx => simp at hx
      have hxr : -9223372036854775808 < x ∧ x < 9223372036854775808 := by unfold in62 at hxb; simp at hxb; omega
      have QX := Lib.hid (fun w0 => quo_is x w0 hxr)
      have HX := Lib.hid hx
      have CXA := Lib.hid cxa
      clear hx cxa hxb hxr
      obtain ⟨xq, hxq⟩ : ∃ q : Rat, (x : Rat) = q := ⟨_, rfl⟩
      rw [hxq] at QX
      have HXQ := Lib.hid hxq
      clear hxq
      have hi0 : (0 : Int) ≤ (i : Int) := by omega
      have hi1 : (i : Int) < 2 := by omega
      go_wp2_with fail
      go_loopw [7, 11] (fun v s wr => ∃ (k : Nat), k ≤ 2 ∧ s = .int .i64 k ∧ RowQ wa.heap.size wr v (L.take (2 * i + k)) 11 ∧ Kp No wa wr) (fun _ s _ => 2 - (intOf s).toNat)
      case atStart => exact ⟨0, by omega, rfl, HR.out, KP.out⟩
      case round =>
        obtain ⟨k, hk2, rfl, hR2, hkp2⟩ := hrel
        clear HR KP
        have HR := Lib.hid hR2
        have KP := Lib.hid hkp2
        clear hR2 hkp2
        by_cases hlt2 : k < 2
        · obtain ⟨y, hy⟩ : ∃ y, [b.1, b.2][k]? = some y := ⟨_, List.getElem?_eq_getElem (by simpa using hlt2)⟩
          have cya := row_ints h4.out k y hy
          have hyb : in62 y = true := by
            have := HAB.out.2
            match k, hy with
            | 0, hy => simp at hy; subst hy; exact this.1
            | 1, hy => simp at hy; subst hy; exact this.2
            | k + 2, hy => simp at hy
          have hyr : -9223372036854775808 < y ∧ y < 9223372036854775808 := by unfold in62 at hyb; simp at hyb; omega
          have QY := Lib.hid (fun w0 => quo_is y w0 hyr)
          have hq := CA.out i k x y HX.out hy
          rw [HXQ.out] at hq
          clear hyb hyr
          obtain ⟨yq, hyq⟩ : ∃ q : Rat, (y : Rat) = q := ⟨_, rfl⟩
          rw [hyq] at QY hq
          have OP := Lib.hid (fun w0 u v hu hv => op2 w0 u v xq yq hu hv)
          generalize opQ 2 xq yq = qq at *
          have HQ := Lib.hid hq
          have HT := Lib.hid (show L.take (2 * i + (k + 1)) = L.take (2 * i + k) ++ [qq] by rw [show 2 * i + (k + 1) = 2 * i + k + 1 by omega, List.take_add_one, hq]; rfl)
          have hlen : (L.take (2 * i + k)).length = 2 * i + k := by rw [List.length_take, hLl.out]; omega
          obtain ⟨es, he1, he2, he3⟩ := HR.out
          rw [hlen] at he2
          obtain ⟨av, cv, rfl, _, _, _⟩ := own_form he2
          have KB := Lib.hid (KP.out.tr (Kp.alloc No wr (.cells #[.bool false, .slice none 0 0, .slice none 0 0] 76)))
          have HB3 := Lib.hid (at_newQ wr (.cells #[.bool false, .slice none 0 0, .slice none 0 0] 76))
          have SB := Lib.hid (show wr.heap.size + 1 ≤ (wr.alloc (.cells #[.bool false, .slice none 0 0, .slice none 0 0] 76)).heap.size by simp)
          have KW := Lib.hid (Kp.alloc No wr (.cells #[.bool false, .slice none 0 0, .slice none 0 0] 76))
          have cx := KB.out.cell CXA.out id
          have cy := KB.out.cell cya id
          have hg1 : w.heap.size + 1 + 1 < wr.heap.size := Nat.lt_of_lt_of_le (World.block_lt_of_cell? _ _ CXA.out) KP.out.size
          have hg2 : w.heap.size + 1 + 1 + 1 < wr.heap.size := Nat.lt_of_lt_of_le (World.block_lt_of_cell? _ _ cya) KP.out.size
          have nX := Lib.hid (show ¬ Kq.One wr.heap.size (w.heap.size + 1 + 1) from fun e => by unfold Kq.One at e; omega)
          have nY := Lib.hid (show ¬ Kq.One wr.heap.size (w.heap.size + 1 + 1 + 1) from fun e => by unfold Kq.One at e; omega)
          have HE := Lib.hid (And.intro he1 (And.intro he2 he3))
          have hk0 : (0 : Int) ≤ (k : Int) := by omega
          have hk1 : (k : Int) < 2 := by omega
          clear hy cya hq hyq he1 he2 he3 hg1 hg2 CA
          go_wp2_with fail
          generalize wr.alloc (.cells #[.bool false, .slice none 0 0, .slice none 0 0] 76) = wb at *
          have FS : Stab (fun ix wz u => (ix = 4 → QuoNew (wr.heap.size + 1) wz u xq 2) ∧ (ix = 9 → QuoNew (wr.heap.size + 1) wz u yq 2) ∧ (ix = 10 → TupQ (wr.heap.size + 1) wz u qq 11) ∧ (ix = 11 → TupQ (wr.heap.size + 1) wz u qq 11) ∧ (ix = 12 → QuoNew (wr.heap.size + 1) wz u qq 11) ∧ True) := fun ix u wz wz' kz h => ⟨fun e => QuoNew.no (h.1 e) kz, fun e => QuoNew.no (h.2.1 e) kz, fun e => TupQ.no (h.2.2.1 e) kz, fun e => TupQ.no (h.2.2.2.1 e) kz, fun e => QuoNew.no (h.2.2.2.2.1 e) kz, trivial⟩
          have FB : ∀ (ix : Nat) (u : Value) (wz wz' : World), Kp (Kq.One (wr.heap.size)) wz wz' → ((fun ix wz u => (ix = 4 → QuoNew (wr.heap.size + 1) wz u xq 2) ∧ (ix = 9 → QuoNew (wr.heap.size + 1) wz u yq 2) ∧ (ix = 10 → TupQ (wr.heap.size + 1) wz u qq 11) ∧ (ix = 11 → TupQ (wr.heap.size + 1) wz u qq 11) ∧ (ix = 12 → QuoNew (wr.heap.size + 1) wz u qq 11) ∧ True : Nat → World → Value → Prop) ix wz u) → ((fun ix wz u => (ix = 4 → QuoNew (wr.heap.size + 1) wz u xq 2) ∧ (ix = 9 → QuoNew (wr.heap.size + 1) wz u yq 2) ∧ (ix = 10 → TupQ (wr.heap.size + 1) wz u qq 11) ∧ (ix = 11 → TupQ (wr.heap.size + 1) wz u qq 11) ∧ (ix = 12 → QuoNew (wr.heap.size + 1) wz u qq 11) ∧ True : Nat → World → Value → Prop) ix wz' u) := fun ix u wz wz' kz h => ⟨fun e => QuoNew.kpS (h.1 e) kz, fun e => QuoNew.kpS (h.2.1 e) kz, fun e => TupQ.kpS (h.2.2.1 e) kz, fun e => TupQ.kpS (h.2.2.2.1 e) kz, fun e => QuoNew.kpS (h.2.2.2.2.1 e) kz, trivial⟩
          have FS := Lib.hid FS
          have FB := Lib.hid FB
          refine wp_region_each (fun ix u => match ix with | 0 => u = .slice (some ⟨w.heap.size + 1 + 1, 0, none⟩) 2 2 | 1 => u = .int .i64 (i : Nat) | 2 => u = .pointer (some ⟨w.heap.size + 1 + 1, i, none⟩) | 3 => u = .int .i64 x | 5 => u = .slice (some ⟨w.heap.size + 1 + 1 + 1, 0, none⟩) 2 2 | 6 => u = .int .i64 (k : Nat) | 7 => u = .pointer (some ⟨w.heap.size + 1 + 1 + 1, k, none⟩) | 8 => u = .int .i64 y | 13 => u = .int .i64 0 | _ => True) (HvS wb (wr.heap.size) 76 #[.bool false, .slice none 0 0, .slice none 0 0] 14 12 (fun ix wz u => (ix = 4 → QuoNew (wr.heap.size + 1) wz u xq 2) ∧ (ix = 9 → QuoNew (wr.heap.size + 1) wz u yq 2) ∧ (ix = 10 → TupQ (wr.heap.size + 1) wz u qq 11) ∧ (ix = 11 → TupQ (wr.heap.size + 1) wz u qq 11) ∧ (ix = 12 → QuoNew (wr.heap.size + 1) wz u qq 11) ∧ True)) (by kernel_rfl) (by kernel_rfl) (by kernel_rfl) ?_ ?_ ?_
          · exact HvS.start HB3.out
          · refine ⟨?_, ?_, ?_, ?_, ?_, ?_, ?_, ?_, ?_, ?_, ?_, ?_, ?_, ?_, ?_, trivial⟩
            · intro r a w' hf hg hW hr hd K hK
              refine wpOp_of rfl rfl ?_
              have e0 : a.tmps.getD 8 undef = .slice (some ⟨w.heap.size + 1 + 1, 0, none⟩) 2 2 := hf.evalFree (by kernel_rfl)
              go_simp
              exact hK _ _ rfl (hW.upd 0 _ hr (by decide) ⟨fun e => absurd e (by decide), fun e => absurd e (by decide), fun e => absurd e (by decide), fun e => absurd e (by decide), fun e => absurd e (by decide), trivial⟩)
            · intro r a w' hf hg hW hr hd K hK
              refine wpOp_of rfl rfl ?_
              have e0 : a.tmps.getD 10 undef = .int .i64 (i : Nat) := hf.evalFree (by kernel_rfl)
              go_simp
              exact hK _ _ rfl (hW.upd 1 _ hr (by decide) ⟨fun e => absurd e (by decide), fun e => absurd e (by decide), fun e => absurd e (by decide), fun e => absurd e (by decide), fun e => absurd e (by decide), trivial⟩)
            · intro r a w' hf hg hW hr hd K hK
              refine wpOp_of rfl rfl ?_
              refine hf.depE hg hd 0 82 (by kernel_rfl) fun u0 e0 g0 h0 => ?_
              replace g0 : u0 = .slice (some ⟨w.heap.size + 1 + 1, 0, none⟩) 2 2 := g0
              subst g0
              refine hf.depE hg hd 1 83 (by kernel_rfl) fun u1 e1 g1 h1 => ?_
              replace g1 : u1 = .int .i64 (i : Nat) := g1
              subst g1
              go_simp
              exact hK _ _ rfl (hW.upd 2 _ hr (by decide) ⟨fun e => absurd e (by decide), fun e => absurd e (by decide), fun e => absurd e (by decide), fun e => absurd e (by decide), fun e => absurd e (by decide), trivial⟩)
            · intro r a w' hf hg hW hr hd K hK
              refine wpOp_of rfl rfl ?_
              refine hf.depE hg hd 2 84 (by kernel_rfl) fun u0 e0 g0 h0 => ?_
              replace g0 : u0 = .pointer (some ⟨w.heap.size + 1 + 1, i, none⟩) := g0
              subst g0
              have z0 := hW.kp.cell cx nX.out
              go_simp
              exact hK _ _ rfl (hW.upd 3 _ hr (by decide) ⟨fun e => absurd e (by decide), fun e => absurd e (by decide), fun e => absurd e (by decide), fun e => absurd e (by decide), fun e => absurd e (by decide), trivial⟩)
            · intro r a w' hf hg hW hr hd K hK
              refine wpOp_of rfl rfl ?_
              refine hf.depE hg hd 3 85 (by kernel_rfl) fun u0 e0 g0 h0 => ?_
              replace g0 : u0 = .int .i64 x := g0
              subst g0
              go_simp
              with_reducible refine (QX.out _).mono ?_
              rintro e w'' ⟨z, rfl, hz, k⟩
              exact hK _ _ trivial ((hW.call FS.out k).upd 4 _ hr (by decide) ⟨fun _ => hz.mono (Nat.le_trans SB.out hW.kp.size), fun e => absurd e (by decide), fun e => absurd e (by decide), fun e => absurd e (by decide), fun e => absurd e (by decide), trivial⟩)
            · intro r a w' hf hg hW hr hd K hK
              refine wpOp_of rfl rfl ?_
              have e0 : a.tmps.getD 9 undef = .slice (some ⟨w.heap.size + 1 + 1 + 1, 0, none⟩) 2 2 := hf.evalFree (by kernel_rfl)
              go_simp
              exact hK _ _ rfl (hW.upd 5 _ hr (by decide) ⟨fun e => absurd e (by decide), fun e => absurd e (by decide), fun e => absurd e (by decide), fun e => absurd e (by decide), fun e => absurd e (by decide), trivial⟩)
            · intro r a w' hf hg hW hr hd K hK
              refine wpOp_of rfl rfl ?_
              have e0 : a.tmps.getD 11 undef = .int .i64 (k : Nat) := hf.evalFree (by kernel_rfl)
              go_simp
              exact hK _ _ rfl (hW.upd 6 _ hr (by decide) ⟨fun e => absurd e (by decide), fun e => absurd e (by decide), fun e => absurd e (by decide), fun e => absurd e (by decide), fun e => absurd e (by decide), trivial⟩)
            · intro r a w' hf hg hW hr hd K hK
              refine wpOp_of rfl rfl ?_
              refine hf.depE hg hd 5 87 (by kernel_rfl) fun u0 e0 g0 h0 => ?_
              replace g0 : u0 = .slice (some ⟨w.heap.size + 1 + 1 + 1, 0, none⟩) 2 2 := g0
              subst g0
              refine hf.depE hg hd 6 88 (by kernel_rfl) fun u1 e1 g1 h1 => ?_
              replace g1 : u1 = .int .i64 (k : Nat) := g1
              subst g1
              go_simp
              exact hK _ _ rfl (hW.upd 7 _ hr (by decide) ⟨fun e => absurd e (by decide), fun e => absurd e (by decide), fun e => absurd e (by decide), fun e => absurd e (by decide), fun e => absurd e (by decide), trivial⟩)
            · intro r a w' hf hg hW hr hd K hK
              refine wpOp_of rfl rfl ?_
              refine hf.depE hg hd 7 89 (by kernel_rfl) fun u0 e0 g0 h0 => ?_
              replace g0 : u0 = .pointer (some ⟨w.heap.size + 1 + 1 + 1, k, none⟩) := g0
              subst g0
              have z0 := hW.kp.cell cy nY.out
              go_simp
              exact hK _ _ rfl (hW.upd 8 _ hr (by decide) ⟨fun e => absurd e (by decide), fun e => absurd e (by decide), fun e => absurd e (by decide), fun e => absurd e (by decide), fun e => absurd e (by decide), trivial⟩)
            · intro r a w' hf hg hW hr hd K hK
              refine wpOp_of rfl rfl ?_
              refine hf.depE hg hd 8 90 (by kernel_rfl) fun u0 e0 g0 h0 => ?_
              replace g0 : u0 = .int .i64 y := g0
              subst g0
              go_simp
              with_reducible refine (QY.out _).mono ?_
              rintro e w'' ⟨z, rfl, hz, k⟩
              exact hK _ _ trivial ((hW.call FS.out k).upd 9 _ hr (by decide) ⟨fun e => absurd e (by decide), fun _ => hz.mono (Nat.le_trans SB.out hW.kp.size), fun e => absurd e (by decide), fun e => absurd e (by decide), fun e => absurd e (by decide), trivial⟩)
            · intro r a w' hf hg hW hr hd K hK
              refine wpOp_of rfl rfl ?_
              refine hf.depE hg hd 4 86 (by kernel_rfl) fun u0 e0 g0 h0 => ?_
              have f0 := (hW.hv 4 u0 h0).1 rfl
              refine hf.depE hg hd 9 91 (by kernel_rfl) fun u1 e1 g1 h1 => ?_
              have f1 := (hW.hv 9 u1 h1).2.1 rfl
              go_simp
              with_reducible refine (OP.out _ _ _ f0.is f1.is).mono ?_
              rintro e w'' ⟨z, rfl, hz, k⟩
              exact hK _ _ trivial ((hW.call FS.out k).upd 10 _ hr (by decide) ⟨fun e => absurd e (by decide), fun e => absurd e (by decide), fun _ => ⟨z, rfl, hz.mono (Nat.le_trans SB.out hW.kp.size)⟩, fun e => absurd e (by decide), fun e => absurd e (by decide), trivial⟩)
            · intro r a w' hf hg hW hr hd K hK
              refine wpOp_of rfl rfl ?_
              refine hf.depE hg hd 10 92 (by kernel_rfl) fun u0 e0 g0 h0 => ?_
              have f0 := (hW.hv 10 u0 h0).2.2.1 rfl
              go_simp
              exact hK _ _ trivial (hW.upd 11 _ hr (by decide) ⟨fun e => absurd e (by decide), fun e => absurd e (by decide), fun e => absurd e (by decide), fun _ => f0, fun e => absurd e (by decide), trivial⟩)
            · intro r a w' hf hg hW hr hd K hK
              refine wpOp_of rfl rfl ?_
              refine hf.depE hg hd 11 81 (by kernel_rfl) fun u0 e0 g0 h0 => ?_
              have f0 := (hW.hv 11 u0 h0).2.2.2.1 rfl
              obtain ⟨z, rfl, hz⟩ := f0
              go_simp
              exact hK _ _ trivial (hW.upd 12 _ hr (by decide) ⟨fun e => absurd e (by decide), fun e => absurd e (by decide), fun e => absurd e (by decide), fun e => absurd e (by decide), fun _ => hz, trivial⟩)
            · intro r a w' hf hg hW hr hd K hK
              refine wpOp_of rfl rfl ?_
              refine hf.depE hg hd 11 81 (by kernel_rfl) fun u0 e0 g0 h0 => ?_
              have f0 := (hW.hv 11 u0 h0).2.2.2.1 rfl
              obtain ⟨z, rfl, hz⟩ := f0
              go_simp
              exact hK _ _ rfl (hW.upd 13 _ hr (by decide) ⟨fun e => absurd e (by decide), fun e => absurd e (by decide), fun e => absurd e (by decide), fun e => absurd e (by decide), fun e => absurd e (by decide), trivial⟩)
            · intro r a w' hf hg hW hr hd K hK
              refine wpOp_of rfl rfl ?_
              have e0 : a.tmps.getD 12 undef = .pointer (some ⟨wr.heap.size, 0, none⟩) := hf.evalFree (by kernel_rfl)
              refine hf.depE hg hd 12 93 (by kernel_rfl) fun u1 e1 g1 h1 => ?_
              have f1 := (hW.hv 12 u1 h1).2.2.2.2.1 rfl
              obtain ⟨n, d, rfl, hn, hd⟩ := f1
              obtain ⟨An, mn, cn, _, rfl, _⟩ := hn.1.pos
              obtain ⟨Ad, md, cd, _, rfl, _⟩ := hd.1.pos
              obtain ⟨x0, x1, x2, y0, y1, y2⟩ := three_cells (hW.b0 hr)
              go_simp
              exact hK undef _ trivial (hW.store FB.out (by decide) h1 (kp_setQ _ _ _ _ _) (setQ_at (hW.b0 hr) _ _ _) _ ⟨fun e => absurd e (by decide), fun e => absurd e (by decide), fun e => absurd e (by decide), fun e => absurd e (by decide), fun e => absurd e (by decide), trivial⟩)
          intro r' w3 hg hW hr'
          have hkN := hW.kp
          obtain ⟨q12, hq12⟩ : ∃ u, r' 12 = some u := Option.ne_none_iff_exists'.1 (hr' 12 (by decide))
          have hF12 := (hW.hv 12 q12 hq12).2.2.2.2.1 rfl
          obtain ⟨cs, hcs, hB⟩ := hW.b1 (hr' 14 (by decide))
          simp only [List.length_cons, List.length_nil, Nat.reduceAdd, List.range_succ, List.range_zero, List.nil_append, List.cons_append, List.map_cons, List.map_nil, putAll, Act.put, List.setIfInBounds_toArray, List.set_cons_succ, List.set_cons_zero, hq12, Option.getD_some]
          clear hg hW hr' FS FB
          rw [hq12] at hcs
          injection hcs with hcs
          subst hcs
          obtain ⟨n, d, e, hn, hd⟩ := hF12
          injection e with e
          subst e
          obtain ⟨z0, z1, z2, _⟩ := three_cells hB
          have K3 := Lib.hid (KW.out.trans hkN (T := Kq.One wr.heap.size) (S := No) (fun k hk e => by unfold Kq.One at e; omega))
          obtain ⟨An, mn, cn, _, rfl, _⟩ := hn.1.pos
          obtain ⟨Ad, md, cd, _, rfl, _⟩ := hd.1.pos
          have HN := Lib.hid (hn.no (Kp.alloc No w3 (.cells #[.bool (negQ qq), .slice An mn cn, .slice Ad md cd] 76)))
          have HD := Lib.hid (hd.no (Kp.alloc No w3 (.cells #[.bool (negQ qq), .slice An mn cn, .slice Ad md cd] 76)))
          have OW := Lib.hid (own_kp HE.out.2.1 (K3.out.tr (Kp.alloc No w3 (.cells #[.bool (negQ qq), .slice An mn cn, .slice Ad md cd] 76))) (fun _ _ h => h))
          clear hn hd hkN hB cx cy
          go_wp2_with (at_builtin; refine stop_in ?_)
          refine stop_out ?_
          refine wpL_append_any rfl _ _ 71 rfl wa.heap.size 76 i0 (.agg #[.bool false, .slice none 0 0, .slice none 0 0]) 3 56 Tryz.underlying71 HI.out hz0 hz1 hz2 rfl (by decide) (.slice av (2 * i + k) cv) (2 * i + k) (es.flatMap qC) rfl OW.out (some ⟨w3.heap.size, 0, none⟩) 1 1 [.bool (negQ qq), .slice An mn cn, .slice Ad md cd] rfl rfl (fun h => by cases h) (fun ad had j u hu => by cases had; exact newsQ w3 _ _ _ _ j u hu) (fun u hu => by simp at hu; rcases hu with rfl | rfl | rfl <;> rfl) (by unfold maxLen; omega) (by omega) (by have h1 := KP.out.size; have h2 := K3.out.size; simp; omega) ?_
          intro v' w5 hown hgrow hat
          have R5 := Lib.hid (RowQ.snoc hlen (K3.out.tr (Kp.alloc No w3 _)) HN.out HD.out (Nat.le_refl _) hgrow hat es HE.out.1 HE.out.2.1 HE.out.2.2 hown)
          have K5 := Lib.hid (show Kp No wa w5 from (KP.out.tr K3.out).trans ((Kp.alloc (fun g => wa.heap.size ≤ g) _ _).tr (Kp.grown hgrow fun g hg _ => (own_ge HE.out.2.1 hg).1)) (fun g hg h => absurd h (Nat.not_le.2 hg)))
          clear hown hgrow hat z0 z1 z2
          go_wp2_with fail
          go_round
          case rel => exact ⟨k + 1, by omega, by go_num, by rw [HT.out]; exact R5.out, K5.out⟩
          case measure => simp [intOf] <;> omega
        · obtain rfl : k = 2 := by omega
          have hR9 := HR.out
          rw [show 2 * i + 2 = 2 * (i + 1) by omega] at hR9
          have HR9 := Lib.hid hR9
          have hi9 : IntKind.i64.wrap ((i : Int) + 1) = (i : Int) + 1 := by rw [IntKind.wrap_i64]; omega
          obtain ⟨av, cv, rfl, _, _⟩ := hR9.form
          clear hR9 HR CA
          go_wp2_with fail
          go_roundw
          case rel => exact ⟨i + 1, by omega, by go_num, HR9.out, KP.out⟩
          case measure => simp [intOf] <;> omega
    · obtain rfl : i = 2 := by omega
      have hR9 := HR.out
      rw [List.take_of_length_le (by rw [hLl.out]; omega)] at hR9
      obtain ⟨g, c, rfl, hq⟩ := hR9.at_ (by rw [hLl.out]; omega)
      rw [hLl.out]
      have HQ := Lib.hid hq
      have KF := Lib.hid (KA.out.tr KP.out)
      clear hR9 HR CA hq
      go_wp2_with fail
      go_ret
      exact ⟨g, c, rfl, HQ.out, KF.out⟩

end Go.Proofs.YtamjhpdgclbfgaaGreat
