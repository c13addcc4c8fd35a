/- Spans of fractions: Div over a divisor above 0: walks. Printed by gen_nsd.py. -/
import Derived.Test.YtamjhpdgclbfgaaGreatXNts
import Derived.Test.YtamjhpdgclbfgaaGreatXNtt
import Derived.Test.YtamjhpdgclbfgaaGreatXNtvaM
import Derived.Test.YtamjhpdgclbfgaaGreatXNtxM
import Derived.Test.YtamjhpdgclbfgaaGreatXNtn
import Derived.Test.YtamjhpdgclbfgaaGreatXNugM
namespace Go.Proofs.YtamjhpdgclbfgaaGreat
open Go.RowKit Go.Kq

def twoD (a b : Int × Int) : Int × Int × Int := if ckE [a, b] = 0 then spanL (cornD a b) else (0, 0, ckE [a, b])
def opD (x y : Rat) : Rat := x / y
theorem op3 (w0 : World) (u v : Value) (x y : Rat) (hy : y ≠ 0) (hu : IsQuo w0 u x 2) (hv : IsQuo w0 v y 2) : Calls Tryz.prog 80 #[u, v] w0 fun e w' => ∃ z, e = .returned (.tuple #[z, .int .i64 0]) ∧ QuoNew w0.heap.size w' z (opD x y) 11 ∧ Kp No w0 w' := by
  refine (qdiv_is u v x y 2 2 w0 hu hv (by omega) hy).mono ?_
  rintro e w' ⟨z, rfl, hz, hk⟩
  exact ⟨z, rfl, hz.le (by omega), hk⟩
theorem cornD_at (a b : Int × Int) (i k : Nat) (x y : Int) (hx : [a.1, a.2][i]? = some x) (hy : [b.1, b.2][k]? = some y) : (cornD a b)[2 * i + k]? = some (opD x y) := by
  match i, hx with
  | 0, hx => match k, hy with
    | 0, hy => simp at hx hy; subst hx hy; rfl
    | 1, hy => simp at hx hy; subst hx hy; rfl
    | k + 2, hy => simp at hy
  | 1, hx => match k, hy with
    | 0, hy => simp at hx hy; subst hx hy; rfl
    | 1, hy => simp at hx hy; subst hx hy; rfl
    | k + 2, hy => simp at hy
  | i + 2, hx => simp at hx

set_option maxHeartbeats 4000000 in
set_option maxRecDepth 100000 in
theorem corners3_is (a b : Int × Int) (w : World) (ha : in62 a.1 = true ∧ in62 a.2 = true) (hb : in62 b.1 = true ∧ in62 b.2 = true) (hpos : 0 < b.1 ∧ 0 < b.2) :
    Calls Tryz.prog 84 #[.agg #[.int .i64 a.1, .int .i64 a.2], .agg #[.int .i64 b.1, .int .i64 b.2], .int .i64 3] w fun e w' => ∃ g c, e = .returned (.slice (some ⟨g, 0, none⟩) 4 c) ∧ QAtK 11 w' g (cornD a b) ∧ Kp No w w' := by
  obtain ⟨i0, hi, hz0, hz1, hz2⟩ := info_parts infoQ
  have HI := Lib.hid hi
  have HAB := Lib.hid (And.intro ha hb)
  have HPOS := Lib.hid hpos
  have hLl : (cornD a b).length = 4 := rfl
  have CA := Lib.hid (cornD_at a b)
  generalize cornD a b = L at *
  obtain ⟨h1, h2, h3, h4, KA⟩ := four_new w (.cells #[.int .i64 a.1, .int .i64 a.2] 38) (.cells #[.int .i64 b.1, .int .i64 b.2] 38) (.cells #[.int .i64 a.1, .int .i64 a.2] 2) (.cells #[.int .i64 b.1, .int .i64 b.2] 2)
  replace h3 := Lib.hid h3
  replace h4 := Lib.hid h4
  replace KA := Lib.hid KA
  replace hLl := Lib.hid hLl
  clear h1 h2 ha hb hpos
  go_enter Tryz.func84, Tryz.ntmps84
  go_wp2_with fail
  generalize (((w.alloc (.cells #[.int .i64 a.1, .int .i64 a.2] 38)).alloc (.cells #[.int .i64 b.1, .int .i64 b.2] 38)).alloc (.cells #[.int .i64 a.1, .int .i64 a.2] 2)).alloc (.cells #[.int .i64 b.1, .int .i64 b.2] 2) = wa at *
  go_loopw [7, 10] (fun v s wr => ∃ (i : Nat), i ≤ 2 ∧ s = .int .i64 i ∧ RowQ wa.heap.size wr v (L.take (2 * i)) 11 ∧ Kp No wa wr) (fun _ s _ => 2 - (intOf s).toNat)
  case atStart => exact ⟨0, by omega, rfl, RowQ.nil _ _ _, Kp.refl _ _⟩
  case round =>
    obtain ⟨i, hi2, rfl, hR, hkp⟩ := hrel
    obtain ⟨wo, rfl⟩ : ∃ wo : World, wo = wr := ⟨_, rfl⟩
    have HR := Lib.hid hR
    have KP := Lib.hid hkp
    clear hR hkp
    by_cases hlt : i < 2
    · obtain ⟨x, hx⟩ : ∃ x, [a.1, a.2][i]? = some x := ⟨_, List.getElem?_eq_getElem (by simpa using hlt)⟩
      have cxa := row_ints h3.out i x hx
      have hxb : in62 x = true := by
        have := HAB.out.1
        match i, hx with
        | 0, hx => simp at hx; subst hx; exact this.1
        | 1, hx => simp at hx; subst hx; exact this.2
        | i + 2, hx => simp at hx
      have hxr : -9223372036854775808 < x ∧ x < 9223372036854775808 := by unfold in62 at hxb; simp at hxb; omega
      have QX := Lib.hid (fun w0 => quo_is x w0 hxr)
      have HX := Lib.hid hx
      have CXA := Lib.hid cxa
      clear hx cxa hxb hxr
      obtain ⟨xq, hxq⟩ : ∃ q : Rat, (x : Rat) = q := ⟨_, rfl⟩
      rw [hxq] at QX
      have HXQ := Lib.hid hxq
      clear hxq
      have hi0 : (0 : Int) ≤ (i : Int) := by omega
      have hi1 : (i : Int) < 2 := by omega
      go_wp2_with fail
      go_loopw [7, 11] (fun v s wr => ∃ (k : Nat), k ≤ 2 ∧ s = .int .i64 k ∧ RowQ wa.heap.size wr v (L.take (2 * i + k)) 11 ∧ Kp No wa wr) (fun _ s _ => 2 - (intOf s).toNat)
      case atStart => exact ⟨0, by omega, rfl, HR.out, KP.out⟩
      case round =>
        obtain ⟨k, hk2, rfl, hR2, hkp2⟩ := hrel
        clear HR KP
        have HR := Lib.hid hR2
        have KP := Lib.hid hkp2
        clear hR2 hkp2
        by_cases hlt2 : k < 2
        · obtain ⟨y, hy⟩ : ∃ y, [b.1, b.2][k]? = some y := ⟨_, List.getElem?_eq_getElem (by simpa using hlt2)⟩
          have cya := row_ints h4.out k y hy
          have hyb : in62 y = true := by
            have := HAB.out.2
            match k, hy with
            | 0, hy => simp at hy; subst hy; exact this.1
            | 1, hy => simp at hy; subst hy; exact this.2
            | k + 2, hy => simp at hy
          have hyr : -9223372036854775808 < y ∧ y < 9223372036854775808 := by unfold in62 at hyb; simp at hyb; omega
          have hy0 : (y : Rat) ≠ 0 := by
            have := HPOS.out
            have hy1 : 0 < y := by
              match k, hy with
              | 0, hy => simp at hy; subst hy; exact this.1
              | 1, hy => simp at hy; subst hy; exact this.2
              | k + 2, hy => simp at hy
            exact fun z => absurd (z ▸ cast_pos hy1) (by decide)
          have QY := Lib.hid (fun w0 => quo_is y w0 hyr)
          have hq := CA.out i k x y HX.out hy
          rw [HXQ.out] at hq
          clear hyb hyr
          obtain ⟨yq, hyq⟩ : ∃ q : Rat, (y : Rat) = q := ⟨_, rfl⟩
          rw [hyq] at QY hq hy0
          have OP := Lib.hid (fun w0 u v hu hv => op3 w0 u v xq yq hy0 hu hv)
          generalize opD xq yq = qq at *
          have HQ := Lib.hid hq
          have HT := Lib.hid (show L.take (2 * i + (k + 1)) = L.take (2 * i + k) ++ [qq] by rw [show 2 * i + (k + 1) = 2 * i + k + 1 by omega, List.take_add_one, hq]; rfl)
          have hlen : (L.take (2 * i + k)).length = 2 * i + k := by rw [List.length_take, hLl.out]; omega
          obtain ⟨es, he1, he2, he3⟩ := HR.out
          rw [hlen] at he2
          obtain ⟨av, cv, rfl, _, _, _⟩ := own_form he2
          have KB := Lib.hid (KP.out.tr (Kp.alloc No wr (.cells #[.bool false, .slice none 0 0, .slice none 0 0] 76)))
          have HB3 := Lib.hid (at_newQ wr (.cells #[.bool false, .slice none 0 0, .slice none 0 0] 76))
          have SB := Lib.hid (show wr.heap.size + 1 ≤ (wr.alloc (.cells #[.bool false, .slice none 0 0, .slice none 0 0] 76)).heap.size by simp)
          have KW := Lib.hid (Kp.alloc No wr (.cells #[.bool false, .slice none 0 0, .slice none 0 0] 76))
          have cx := KB.out.cell CXA.out id
          have cy := KB.out.cell cya id
          have hg1 : w.heap.size + 1 + 1 < wr.heap.size := Nat.lt_of_lt_of_le (World.block_lt_of_cell? _ _ CXA.out) KP.out.size
          have hg2 : w.heap.size + 1 + 1 + 1 < wr.heap.size := Nat.lt_of_lt_of_le (World.block_lt_of_cell? _ _ cya) KP.out.size
          have nX := Lib.hid (show ¬ Kq.One wr.heap.size (w.heap.size + 1 + 1) from fun e => by unfold Kq.One at e; omega)
          have nY := Lib.hid (show ¬ Kq.One wr.heap.size (w.heap.size + 1 + 1 + 1) from fun e => by unfold Kq.One at e; omega)
          have HE := Lib.hid (And.intro he1 (And.intro he2 he3))
          have hk0 : (0 : Int) ≤ (k : Int) := by omega
          have hk1 : (k : Int) < 2 := by omega
          clear hy hy0 cya hq hyq he1 he2 he3 hg1 hg2 CA
          go_wp2_with fail
          generalize wr.alloc (.cells #[.bool false, .slice none 0 0, .slice none 0 0] 76) = wb at *
          have FS : Stab (fun ix wz u => (ix = 4 → QuoNew (wr.heap.size + 1) wz u xq 2) ∧ (ix = 9 → QuoNew (wr.heap.size + 1) wz u yq 2) ∧ (ix = 10 → TupQ (wr.heap.size + 1) wz u qq 11) ∧ (ix = 11 → TupQ (wr.heap.size + 1) wz u qq 11) ∧ (ix = 12 → QuoNew (wr.heap.size + 1) wz u qq 11) ∧ True) := fun ix u wz wz' kz h => ⟨fun e => QuoNew.no (h.1 e) kz, fun e => QuoNew.no (h.2.1 e) kz, fun e => TupQ.no (h.2.2.1 e) kz, fun e => TupQ.no (h.2.2.2.1 e) kz, fun e => QuoNew.no (h.2.2.2.2.1 e) kz, trivial⟩
          have FB : ∀ (ix : Nat) (u : Value) (wz wz' : World), Kp (Kq.One (wr.heap.size)) wz wz' → ((fun ix wz u => (ix = 4 → QuoNew (wr.heap.size + 1) wz u xq 2) ∧ (ix = 9 → QuoNew (wr.heap.size + 1) wz u yq 2) ∧ (ix = 10 → TupQ (wr.heap.size + 1) wz u qq 11) ∧ (ix = 11 → TupQ (wr.heap.size + 1) wz u qq 11) ∧ (ix = 12 → QuoNew (wr.heap.size + 1) wz u qq 11) ∧ True : Nat → World → Value → Prop) ix wz u) → ((fun ix wz u => (ix = 4 → QuoNew (wr.heap.size + 1) wz u xq 2) ∧ (ix = 9 → QuoNew (wr.heap.size + 1) wz u yq 2) ∧ (ix = 10 → TupQ (wr.heap.size + 1) wz u qq 11) ∧ (ix = 11 → TupQ (wr.heap.size + 1) wz u qq 11) ∧ (ix = 12 → QuoNew (wr.heap.size + 1) wz u qq 11) ∧ True : Nat → World → Value → Prop) ix wz' u) := fun ix u wz wz' kz h => ⟨fun e => QuoNew.kpS (h.1 e) kz, fun e => QuoNew.kpS (h.2.1 e) kz, fun e => TupQ.kpS (h.2.2.1 e) kz, fun e => TupQ.kpS (h.2.2.2.1 e) kz, fun e => QuoNew.kpS (h.2.2.2.2.1 e) kz, trivial⟩
          replace FS := Lib.hid FS
          replace FB := Lib.hid FB
          refine wp_region_each (fun ix uR => match ix with | 0 => uR = .slice (some ⟨w.heap.size + 1 + 1, 0, none⟩) 2 2 | 1 => uR = .int .i64 (i : Nat) | 2 => uR = .pointer (some ⟨w.heap.size + 1 + 1, i, none⟩) | 3 => uR = .int .i64 x | 5 => uR = .slice (some ⟨w.heap.size + 1 + 1 + 1, 0, none⟩) 2 2 | 6 => uR = .int .i64 (k : Nat) | 7 => uR = .pointer (some ⟨w.heap.size + 1 + 1 + 1, k, none⟩) | 8 => uR = .int .i64 y | 13 => uR = .int .i64 0 | _ => True) (HvS wb (wr.heap.size) 76 #[.bool false, .slice none 0 0, .slice none 0 0] 14 12 (fun ix wz u => (ix = 4 → QuoNew (wr.heap.size + 1) wz u xq 2) ∧ (ix = 9 → QuoNew (wr.heap.size + 1) wz u yq 2) ∧ (ix = 10 → TupQ (wr.heap.size + 1) wz u qq 11) ∧ (ix = 11 → TupQ (wr.heap.size + 1) wz u qq 11) ∧ (ix = 12 → QuoNew (wr.heap.size + 1) wz u qq 11) ∧ True)) (by kernel_rfl) (by kernel_rfl) (by kernel_rfl) ?_ ?_ ?_
          · exact HvS.start HB3.out
          · refine ⟨?_, ?_, ?_, ?_, ?_, ?_, ?_, ?_, ?_, ?_, ?_, ?_, ?_, ?_, ?_, trivial⟩
            · intro r a w' hf hg hW hr hd K hK
              refine wpOp_of rfl rfl ?_
              have e0 : a.tmps.getD 8 undef = .slice (some ⟨w.heap.size + 1 + 1, 0, none⟩) 2 2 := hf.evalFree (by kernel_rfl)
              go_simp
              exact hK _ _ rfl (hW.upd 0 _ hr (by decide) ⟨fun e => absurd e (by decide), fun e => absurd e (by decide), fun e => absurd e (by decide), fun e => absurd e (by decide), fun e => absurd e (by decide), trivial⟩)
            · intro r a w' hf hg hW hr hd K hK
              refine wpOp_of rfl rfl ?_
              have e0 : a.tmps.getD 10 undef = .int .i64 (i : Nat) := hf.evalFree (by kernel_rfl)
              go_simp
              exact hK _ _ rfl (hW.upd 1 _ hr (by decide) ⟨fun e => absurd e (by decide), fun e => absurd e (by decide), fun e => absurd e (by decide), fun e => absurd e (by decide), fun e => absurd e (by decide), trivial⟩)
            · intro r a w' hf hg hW hr hd K hK
              refine wpOp_of rfl rfl ?_
              refine hf.depE hg hd 0 34 (by kernel_rfl) fun u0 e0 g0 h0 => ?_
              replace g0 : u0 = .slice (some ⟨w.heap.size + 1 + 1, 0, none⟩) 2 2 := g0
              subst g0
              refine hf.depE hg hd 1 35 (by kernel_rfl) fun u1 e1 g1 h1 => ?_
              replace g1 : u1 = .int .i64 (i : Nat) := g1
              subst g1
              go_simp
              exact hK _ _ rfl (hW.upd 2 _ hr (by decide) ⟨fun e => absurd e (by decide), fun e => absurd e (by decide), fun e => absurd e (by decide), fun e => absurd e (by decide), fun e => absurd e (by decide), trivial⟩)
            · intro r a w' hf hg hW hr hd K hK
              refine wpOp_of rfl rfl ?_
              refine hf.depE hg hd 2 36 (by kernel_rfl) fun u0 e0 g0 h0 => ?_
              replace g0 : u0 = .pointer (some ⟨w.heap.size + 1 + 1, i, none⟩) := g0
              subst g0
              have z0 := hW.kp.cell cx nX.out
              go_simp
              exact hK _ _ rfl (hW.upd 3 _ hr (by decide) ⟨fun e => absurd e (by decide), fun e => absurd e (by decide), fun e => absurd e (by decide), fun e => absurd e (by decide), fun e => absurd e (by decide), trivial⟩)
            · intro r a w' hf hg hW hr hd K hK
              refine wpOp_of rfl rfl ?_
              refine hf.depE hg hd 3 37 (by kernel_rfl) fun u0 e0 g0 h0 => ?_
              replace g0 : u0 = .int .i64 x := g0
              subst g0
              go_simp
              with_reducible refine (QX.out _).mono ?_
              rintro e w'' ⟨z, rfl, hz, k⟩
              exact hK _ _ trivial ((hW.call FS.out k).upd 4 _ hr (by decide) ⟨fun _ => hz.mono (Nat.le_trans SB.out hW.kp.size), fun e => absurd e (by decide), fun e => absurd e (by decide), fun e => absurd e (by decide), fun e => absurd e (by decide), trivial⟩)
            · intro r a w' hf hg hW hr hd K hK
              refine wpOp_of rfl rfl ?_
              have e0 : a.tmps.getD 9 undef = .slice (some ⟨w.heap.size + 1 + 1 + 1, 0, none⟩) 2 2 := hf.evalFree (by kernel_rfl)
              go_simp
              exact hK _ _ rfl (hW.upd 5 _ hr (by decide) ⟨fun e => absurd e (by decide), fun e => absurd e (by decide), fun e => absurd e (by decide), fun e => absurd e (by decide), fun e => absurd e (by decide), trivial⟩)
            · intro r a w' hf hg hW hr hd K hK
              refine wpOp_of rfl rfl ?_
              have e0 : a.tmps.getD 11 undef = .int .i64 (k : Nat) := hf.evalFree (by kernel_rfl)
              go_simp
              exact hK _ _ rfl (hW.upd 6 _ hr (by decide) ⟨fun e => absurd e (by decide), fun e => absurd e (by decide), fun e => absurd e (by decide), fun e => absurd e (by decide), fun e => absurd e (by decide), trivial⟩)
            · intro r a w' hf hg hW hr hd K hK
              refine wpOp_of rfl rfl ?_
              refine hf.depE hg hd 5 39 (by kernel_rfl) fun u0 e0 g0 h0 => ?_
              replace g0 : u0 = .slice (some ⟨w.heap.size + 1 + 1 + 1, 0, none⟩) 2 2 := g0
              subst g0
              refine hf.depE hg hd 6 40 (by kernel_rfl) fun u1 e1 g1 h1 => ?_
              replace g1 : u1 = .int .i64 (k : Nat) := g1
              subst g1
              go_simp
              exact hK _ _ rfl (hW.upd 7 _ hr (by decide) ⟨fun e => absurd e (by decide), fun e => absurd e (by decide), fun e => absurd e (by decide), fun e => absurd e (by decide), fun e => absurd e (by decide), trivial⟩)
            · intro r a w' hf hg hW hr hd K hK
              refine wpOp_of rfl rfl ?_
              refine hf.depE hg hd 7 41 (by kernel_rfl) fun u0 e0 g0 h0 => ?_
              replace g0 : u0 = .pointer (some ⟨w.heap.size + 1 + 1 + 1, k, none⟩) := g0
              subst g0
              have z0 := hW.kp.cell cy nY.out
              go_simp
              exact hK _ _ rfl (hW.upd 8 _ hr (by decide) ⟨fun e => absurd e (by decide), fun e => absurd e (by decide), fun e => absurd e (by decide), fun e => absurd e (by decide), fun e => absurd e (by decide), trivial⟩)
            · intro r a w' hf hg hW hr hd K hK
              refine wpOp_of rfl rfl ?_
              refine hf.depE hg hd 8 42 (by kernel_rfl) fun u0 e0 g0 h0 => ?_
              replace g0 : u0 = .int .i64 y := g0
              subst g0
              go_simp
              with_reducible refine (QY.out _).mono ?_
              rintro e w'' ⟨z, rfl, hz, k⟩
              exact hK _ _ trivial ((hW.call FS.out k).upd 9 _ hr (by decide) ⟨fun e => absurd e (by decide), fun _ => hz.mono (Nat.le_trans SB.out hW.kp.size), fun e => absurd e (by decide), fun e => absurd e (by decide), fun e => absurd e (by decide), trivial⟩)
            · intro r a w' hf hg hW hr hd K hK
              refine wpOp_of rfl rfl ?_
              refine hf.depE hg hd 4 38 (by kernel_rfl) fun u0 e0 g0 h0 => ?_
              have f0 := (hW.hv 4 u0 h0).1 rfl
              refine hf.depE hg hd 9 43 (by kernel_rfl) fun u1 e1 g1 h1 => ?_
              have f1 := (hW.hv 9 u1 h1).2.1 rfl
              go_simp
              with_reducible refine (OP.out _ _ _ f0.is f1.is).mono ?_
              rintro e w'' ⟨z, rfl, hz, k⟩
              exact hK _ _ trivial ((hW.call FS.out k).upd 10 _ hr (by decide) ⟨fun e => absurd e (by decide), fun e => absurd e (by decide), fun _ => ⟨z, rfl, hz.mono (Nat.le_trans SB.out hW.kp.size)⟩, fun e => absurd e (by decide), fun e => absurd e (by decide), trivial⟩)
            · intro r a w' hf hg hW hr hd K hK
              refine wpOp_of rfl rfl ?_
              refine hf.depE hg hd 10 44 (by kernel_rfl) fun u0 e0 g0 h0 => ?_
              have f0 := (hW.hv 10 u0 h0).2.2.1 rfl
              go_simp
              exact hK _ _ trivial (hW.upd 11 _ hr (by decide) ⟨fun e => absurd e (by decide), fun e => absurd e (by decide), fun e => absurd e (by decide), fun _ => f0, fun e => absurd e (by decide), trivial⟩)
            · intro r a w' hf hg hW hr hd K hK
              refine wpOp_of rfl rfl ?_
              refine hf.depE hg hd 11 33 (by kernel_rfl) fun u0 e0 g0 h0 => ?_
              have f0 := (hW.hv 11 u0 h0).2.2.2.1 rfl
              obtain ⟨z, rfl, hz⟩ := f0
              go_simp
              exact hK _ _ trivial (hW.upd 12 _ hr (by decide) ⟨fun e => absurd e (by decide), fun e => absurd e (by decide), fun e => absurd e (by decide), fun e => absurd e (by decide), fun _ => hz, trivial⟩)
            · intro r a w' hf hg hW hr hd K hK
              refine wpOp_of rfl rfl ?_
              refine hf.depE hg hd 11 33 (by kernel_rfl) fun u0 e0 g0 h0 => ?_
              have f0 := (hW.hv 11 u0 h0).2.2.2.1 rfl
              obtain ⟨z, rfl, hz⟩ := f0
              go_simp
              exact hK _ _ rfl (hW.upd 13 _ hr (by decide) ⟨fun e => absurd e (by decide), fun e => absurd e (by decide), fun e => absurd e (by decide), fun e => absurd e (by decide), fun e => absurd e (by decide), trivial⟩)
            · intro r a w' hf hg hW hr hd K hK
              refine wpOp_of rfl rfl ?_
              have e0 : a.tmps.getD 12 undef = .pointer (some ⟨wr.heap.size, 0, none⟩) := hf.evalFree (by kernel_rfl)
              refine hf.depE hg hd 12 45 (by kernel_rfl) fun u1 e1 g1 h1 => ?_
              have f1 := (hW.hv 12 u1 h1).2.2.2.2.1 rfl
              obtain ⟨n, d, rfl, hn, hd⟩ := f1
              obtain ⟨An, mn, cn, _, rfl, _⟩ := hn.1.pos
              obtain ⟨Ad, md, cd, _, rfl, _⟩ := hd.1.pos
              obtain ⟨x0, x1, x2, y0, y1, y2⟩ := three_cells (hW.b0 hr)
              go_simp
              exact hK undef _ trivial (hW.store FB.out (by decide) h1 (kp_setQ _ _ _ _ _) (setQ_at (hW.b0 hr) _ _ _) _ ⟨fun e => absurd e (by decide), fun e => absurd e (by decide), fun e => absurd e (by decide), fun e => absurd e (by decide), fun e => absurd e (by decide), trivial⟩)
          intro r' w3 hg hW hr'
          have hkN := hW.kp
          obtain ⟨q12, hq12⟩ : ∃ u, r' 12 = some u := Option.ne_none_iff_exists'.1 (hr' 12 (by decide))
          have hF12 := (hW.hv 12 q12 hq12).2.2.2.2.1 rfl
          obtain ⟨cs, hcs, hB⟩ := hW.b1 (hr' 14 (by decide))
          simp only [List.length_cons, List.length_nil, Nat.reduceAdd, List.range_succ, List.range_zero, List.nil_append, List.cons_append, List.map_cons, List.map_nil, putAll, Act.put, List.setIfInBounds_toArray, List.set_cons_succ, List.set_cons_zero, hq12, Option.getD_some]
          clear hg hW hr' FS FB
          rw [hq12] at hcs
          injection hcs with hcs
          subst hcs
          obtain ⟨n, d, e, hn, hd⟩ := hF12
          injection e with e
          subst e
          obtain ⟨z0, z1, z2, _⟩ := three_cells hB
          have K3 := Lib.hid (KW.out.trans hkN (T := Kq.One wr.heap.size) (S := No) (fun k hk e => by unfold Kq.One at e; omega))
          obtain ⟨An, mn, cn, _, rfl, _⟩ := hn.1.pos
          obtain ⟨Ad, md, cd, _, rfl, _⟩ := hd.1.pos
          have HN := Lib.hid (hn.no (Kp.alloc No w3 (.cells #[.bool (negQ qq), .slice An mn cn, .slice Ad md cd] 76)))
          have HD := Lib.hid (hd.no (Kp.alloc No w3 (.cells #[.bool (negQ qq), .slice An mn cn, .slice Ad md cd] 76)))
          have OW := Lib.hid (own_kp HE.out.2.1 (K3.out.tr (Kp.alloc No w3 (.cells #[.bool (negQ qq), .slice An mn cn, .slice Ad md cd] 76))) (fun _ _ h => h))
          clear hn hd hkN hB cx cy
          go_wp2_with (at_builtin; refine stop_in ?_)
          refine stop_out ?_
          refine wpL_append_any rfl _ _ 71 rfl wa.heap.size 76 i0 (.agg #[.bool false, .slice none 0 0, .slice none 0 0]) 3 56 Tryz.underlying71 HI.out hz0 hz1 hz2 rfl (by decide) (.slice av (2 * i + k) cv) (2 * i + k) (es.flatMap qC) rfl OW.out (some ⟨w3.heap.size, 0, none⟩) 1 1 [.bool (negQ qq), .slice An mn cn, .slice Ad md cd] rfl rfl (fun h => by cases h) (fun ad had j u hu => by cases had; exact newsQ w3 _ _ _ _ j u hu) (fun u hu => by simp at hu; rcases hu with rfl | rfl | rfl <;> rfl) (by unfold maxLen; omega) (by omega) (by have h1 := KP.out.size; have h2 := K3.out.size; simp; omega) ?_
          intro v' w5 hown hgrow hat
          have R5 := Lib.hid (RowQ.snoc hlen (K3.out.tr (Kp.alloc No w3 _)) HN.out HD.out (Nat.le_refl _) hgrow hat es HE.out.1 HE.out.2.1 HE.out.2.2 hown)
          have K5 := Lib.hid (show Kp No wa w5 from (KP.out.tr K3.out).trans ((Kp.alloc (fun g => wa.heap.size ≤ g) _ _).tr (Kp.grown hgrow fun g hg _ => (own_ge HE.out.2.1 hg).1)) (fun g hg h => absurd h (Nat.not_le.2 hg)))
          clear hown hgrow hat z0 z1 z2
          go_wp2_with fail
          go_round
          case rel => exact ⟨k + 1, by omega, by go_num, by rw [HT.out]; exact R5.out, K5.out⟩
          case measure => simp [intOf] <;> omega
        · obtain rfl : k = 2 := by omega
          have hR9 := HR.out
          rw [show 2 * i + 2 = 2 * (i + 1) by omega] at hR9
          have HR9 := Lib.hid hR9
          have hi9 : IntKind.i64.wrap ((i : Int) + 1) = (i : Int) + 1 := by rw [IntKind.wrap_i64]; omega
          obtain ⟨av, cv, rfl, _, _⟩ := hR9.form
          clear hR9 HR CA
          go_wp2_with fail
          go_roundw
          case rel => exact ⟨i + 1, by omega, by go_num, HR9.out, KP.out⟩
          case measure => simp [intOf] <;> omega
    · obtain rfl : i = 2 := by omega
      have hR9 := HR.out
      rw [List.take_of_length_le (by rw [hLl.out]; omega)] at hR9
      obtain ⟨g, c, rfl, hq⟩ := hR9.at_ (by rw [hLl.out]; omega)
      rw [hLl.out]
      have HQ := Lib.hid hq
      have KF := Lib.hid (KA.out.tr KP.out)
      clear hR9 HR CA hq
      go_wp2_with fail
      go_ret
      exact ⟨g, c, rfl, HQ.out, KF.out⟩

set_option maxHeartbeats 1000000 in
set_option maxRecDepth 100000 in
theorem two3_is (a b : Int × Int) (w : World) (hpos : 0 < b.1 ∧ 0 < b.2) :
    Calls Tryz.prog 53 #[ivV a.1 a.2, ivV b.1 b.2, .int .i64 3] w fun e w' => e = .returned (ieV (twoD a b)) ∧ Kp No w w' := by
  have BD := Lib.hid (fun (g : Nat) (w0 : World) hh => bad03_two a b g 38 w0 hh)
  have CO := Lib.hid (fun (h : ckE [a, b] = 0) w0 => corners3_is a b w0 (ck_twoQ h).1 (ck_twoQ h).2 hpos)
  have SP := Lib.hid (fun (g c : Nat) w0 hq => span_is g 4 c (cornD a b) w0 rfl (by omega) hq)
  unfold twoD
  obtain ⟨al, ah⟩ := a
  obtain ⟨bl, bh⟩ := b
  simp only [ivV] at *
  obtain ⟨hp1, hp2⟩ := hpos
  have hn1 : (bl ≤ 0) = False := eq_false (by omega)
  generalize cornD (al, ah) (bl, bh) = L at *
  generalize ckE [(al, ah), (bl, bh)] = E at *
  obtain ⟨h1, h2, h3, h4, KA⟩ := four_new w (.cells #[.int .i64 al, .int .i64 ah] 38) (.cells #[.int .i64 bl, .int .i64 bh] 38) (.cells #[.int .i64 0, .int .i64 0] 38) (.cells #[.int .i64 al, .int .i64 ah, .int .i64 bl, .int .i64 bh] 38)
  replace h1 := Lib.hid h1
  replace h2 := Lib.hid h2
  replace h3 := Lib.hid h3
  replace h4 := Lib.hid h4
  replace KA := Lib.hid KA
  by_cases h0 : E = 0
  · rw [if_pos h0]
    have CO2 := Lib.hid (CO.out h0)
    subst h0
    obtain ⟨⟨x1, x2, x3⟩, hsp⟩ : ∃ x, spanL L = x := ⟨_, rfl⟩
    rw [hsp] at SP ⊢
    simp only [ieV, ivV] at SP ⊢
    clear hsp CO
    go_enter Tryz.func53, Tryz.ntmps53
    go_wp2_with fail
    refine (BD.out _ _ h4.out).mono ?_
    rintro _ wb ⟨rfl, kb⟩
    have KB := Lib.hid (KA.out.tr kb)
    obtain ⟨a0, a1, _, _⟩ := two_cells (kb.heap h1.out id)
    obtain ⟨b0, b1, _, _⟩ := two_cells (kb.heap h2.out id)
    have H3 := Lib.hid (kb.heap h3.out id)
    clear kb h1 h2 h3 h4 BD KA
    go_wp2_with fail
    refine (CO2.out _).mono ?_
    rintro _ wc ⟨g, c, rfl, hq, kc⟩
    have SP2 := Lib.hid (SP.out g c wc (hq.le (by omega)))
    have KC := Lib.hid (KB.out.tr kc)
    have H4 := Lib.hid (kc.heap H3.out id)
    clear hq kc a0 a1 b0 b1 SP
    go_wp2_with fail
    refine SP2.out.mono ?_
    rintro _ wd ⟨rfl, kd⟩
    have KD := Lib.hid (KC.out.tr kd)
    have hr := kd.heap H4.out id
    obtain ⟨r0, r1, z0, z1⟩ := two_cells hr
    clear kd
    replace hr := Lib.hid hr
    go_wp2_with fail
    have hs := setI_at hr.out (.int .i64 x1) (.int .i64 x2)
    obtain ⟨v0, v1, _, _⟩ := two_cells hs
    exact bodyPost_ret (v := .tuple #[.agg #[.int .i64 x1, .int .i64 x2], .int .i64 x3]) (by simp [results, Tryz.results53, go_sem, v0, v1]) rfl ⟨rfl, kp_set2 KD.out (by omega)⟩
  · rw [if_neg h0]
    have he : (E != 0) = true := bne_iff_ne.2 h0
    simp only [ieV, ivV]
    clear CO SP h0
    go_enter Tryz.func53, Tryz.ntmps53
    go_wp2_with fail
    refine (BD.out _ _ h4.out).mono ?_
    rintro _ wb ⟨rfl, kb⟩
    have KB := Lib.hid (KA.out.tr kb)
    have hr := kb.heap h3.out id
    obtain ⟨r0, r1, z0, z1⟩ := two_cells hr
    clear kb
    replace hr := Lib.hid hr
    go_wp2_with fail
    have hs := setI_at hr.out (.int .i64 0) (.int .i64 0)
    obtain ⟨v0, v1, _, _⟩ := two_cells hs
    exact bodyPost_ret (v := .tuple #[.agg #[.int .i64 0, .int .i64 0], .int .i64 E]) (by simp [results, Tryz.results53, go_sem, v0, v1]) rfl ⟨rfl, kp_set2 KB.out (by omega)⟩
set_option maxHeartbeats 1000000 in
theorem Div03_is (a b : Int × Int) (w : World) (hpos : 0 < b.1 ∧ 0 < b.2) :
    Calls Tryz.prog 25 #[ivV a.1 a.2, ivV b.1 b.2] w fun e w' => e = .returned (ieV (twoD a b)) ∧ Kp No w w' := by
  have TW := Lib.hid (fun w0 => two3_is a b w0 hpos)
  obtain ⟨⟨x1, x2, x3⟩, hx⟩ : ∃ x, twoD a b = x := ⟨_, rfl⟩
  rw [hx] at TW ⊢
  obtain ⟨al, ah⟩ := a
  obtain ⟨bl, bh⟩ := b
  simp only [ieV, ivV] at TW ⊢
  obtain ⟨h1, h2, h3, KA⟩ := three_new w (.cells #[.int .i64 al, .int .i64 ah] 38) (.cells #[.int .i64 bl, .int .i64 bh] 38) (.cells #[.int .i64 0, .int .i64 0] 38)
  replace h3 := Lib.hid h3
  replace KA := Lib.hid KA
  clear hx h1 h2
  go_enter Tryz.func25, Tryz.ntmps25
  go_wp2_with fail
  refine (TW.out _).mono ?_
  rintro _ wb ⟨rfl, kb⟩
  have KB := Lib.hid (KA.out.tr kb)
  have hr := kb.heap h3.out id
  obtain ⟨r0, r1, z0, z1⟩ := two_cells hr
  clear kb
  replace hr := Lib.hid hr
  go_wp2_with fail
  have hs := setI_at hr.out (.int .i64 x1) (.int .i64 x2)
  obtain ⟨v0, v1, _, _⟩ := two_cells hs
  exact bodyPost_ret (v := .tuple #[.agg #[.int .i64 x1, .int .i64 x2], .int .i64 x3]) (by simp [results, Tryz.results25, go_sem, v0, v1]) rfl ⟨rfl, kp_set2 KB.out (by omega)⟩
end Go.Proofs.YtamjhpdgclbfgaaGreat
