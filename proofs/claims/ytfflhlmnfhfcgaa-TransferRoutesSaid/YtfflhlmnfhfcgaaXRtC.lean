/- Chapter 33: the choices for a division: the walk. -/
import Derived.Test.YtfflhlmnfhfcgaaXLibMapInM
import Derived.Test.YtfflhlmnfhfcgaaXLibMakeM
import Derived.Test.YtfflhlmnfhfcgaaXLibApR
namespace Go.Proofs.Ytfflhlmnfhfcgaa
open Go.RowKit Go.Kq

/-- A choice and where its stops lie. -/
structure Ch where
  c : Cc
  a : Option Addr
  cap : Nat
def Ch.sl (x : Ch) : Value := .slice x.a x.c.stops.length x.cap
def Ch.cells (x : Ch) : List Value := [.int .i64 x.c.to, x.sl, .int .i64 x.c.cost]
def Ch.own (w : World) (base : Nat) (x : Ch) : Prop := w.ownsRow base 3 1 x.sl x.c.stops.length (x.c.stops.map natV)
theorem ch_len (x : Ch) : x.cells.length = 3 := rfl
theorem info76 : (Try.prog.info? 76).map (fun i => (i.zero, i.size, i.bytes)) = some (some (.agg #[.int .i64 0, .slice none 0 0, .int .i64 0]), 3, 40) := by kernel_rfl

set_option maxHeartbeats 1000000 in
theorem bst14_any (A Y : Option Addr) (n m ca cb : Nat) (xs ys : List Vc) (w : World) (hx : RdV w A n xs) (hy : RdV w Y m ys) (hk : chk xs ys 14 = 0) :
    Calls Try.prog 31 #[.slice A n ca, .slice Y m cb, .int .i64 14] w fun e w' => ∃ v, e = .returned (.tuple #[v, .int .i64 (bestV xs ys 14).2.1]) ∧ w'.ownsRow w.heap.size 3 1 v (bestV xs ys 14).1.length ((bestV xs ys 14).1.map natV) ∧ Kp No w w' := by
  obtain ⟨z1, z2, z3, z4⟩ := chk_zero hk
  have sx := bad_sane z3
  have sy := bad_sane z4
  have hxl := hx.1
  have hyl := hy.1
  have hc := costs_of sx sy z1 (by omega)
  have hv : bestV xs ys 14 = (((subsAt m 14 m [] 0).foldl (better (Cst xs ys)) ([], Cst xs ys [])).1, ((subsAt m 14 m [] 0).foldl (better (Cst xs ys)) ([], Cst xs ys [])).2, 0) := by unfold bestV; rw [if_neg (by omega), if_neg (by omega), hyl]; rfl
  rw [hv]
  refine (best_any A Y n m ca cb xs ys 14 _ _ w hx hy (by omega) (by omega) (by omega) sx hc (fun k hk => ?_)).mono ?_
  · rw [keys_btw] at hk
    rw [mem_univ]
    rcases hk with ⟨v, hv, e⟩ | ⟨v, hv, _⟩
    · exact ⟨v, by simp [hv], e⟩
    · cases hv
  rintro e w2 ⟨v, out, c', rfl, hf, hown, hol, hk2⟩
  have hf' : (subsAt m 14 m [] 0).foldl (better (Cst xs ys)) ([], Cst xs ys []) = (out, c') := hf
  rw [hf']
  exact ⟨v, rfl, hown, hk2⟩

theorem tos_int (ys : List Vc) : (tos ys).map (Value.int .i64) = .int .i64 (-1) :: (divs ys).map natV := by
  unfold tos
  rw [List.map_cons, divs_int]
set_option maxHeartbeats 4000000 in
set_option maxRecDepth 100000 in
theorem choices_any (A Y : Option Addr) (n m ca cb : Nat) (xs ys : List Vc) (f : Int) (w : World) (hx : RdV w A n xs) (hy : RdV w Y m ys) (hn : n ≤ 24) (hm : m ≤ 14) (gx : ∀ v ∈ xs, v.bad = false) (gy : ∀ v ∈ ys, v.bad = false) (hf : 0 ≤ f ∧ f ≤ 5) :
    Calls Try.prog 40 #[.slice A n ca, .slice Y m cb, .int .i64 f] w fun e w' => ∃ (v : Value) (chs : List Ch), e = .returned v ∧ chs.map Ch.c = chos xs ys f ∧ w'.ownsRow w.heap.size 76 3 v chs.length (chs.flatMap Ch.cells) ∧ (∀ x ∈ chs, x.own w' w.heap.size) ∧ Kp No w w' := by
  obtain ⟨i0, hi0, hz0, hz1, hz2⟩ := info_parts info3
  obtain ⟨i1, hi1, hy0, hy1, hy2⟩ := info_parts info76
  have hxl := hx.1
  have hyl := hy.1
  have hdy : ∀ v ∈ ys, 0 ≤ v.d ∧ v.d ≤ 5 := fun v hv => by have := (bad_iff v).1 (gy v hv); omega
  have GX := Lib.hid gx
  have GY := Lib.hid gy
  have HDY := Lib.hid hdy
  clear gx gy hdy
  have hdl := divs_len ys
  go_enter Try.func40, Try.ntmps40
  go_wp2_with fail
  refine (part_any A n ca xs f f _ hx (by omega)).mono ?_
  rintro e w1 ⟨v1, u1, rfl, hov1, hou1, hk1⟩
  rw [← pvo_len xs f f n] at hov1
  obtain ⟨a1, c1, rfl, hc1, hr1⟩ := own_rdv hov1
  have HR1 := Lib.hid hr1
  clear hov1 hou1 hr1
  go_wp2_with fail
  refine (divisions_any Y m cb ys _ (hy.no (hk1.tr (Kp.alloc _ _ _))) (by omega) HDY.out).mono ?_
  rintro e w2 ⟨v2, rfl, ho2, hk2⟩
  have hot := (hk2.owns (own_made (base := w1.heap.size) (e := 3) (s := 1) (n := 1) (xs := [.int .i64 (-1)]) w1 rfl (Nat.le_refl _) (by unfold maxLen; omega)) (fun _ _ h => h))
  have hkw2 : Kp No w1 w2 := (Kp.alloc _ _ _).tr hk2
  have hsz2 := hkw2.size
  obtain ⟨a2, c2, rfl, _, _, _⟩ := Go.Kq.own_form ho2
  have HN2 := Lib.hid (own_news ho2)
  have HOT := Lib.hid hot
  clear hot ho2
  go_wp2_with (at_builtin; refine stop_in ?_)
  refine stop_out ?_
  refine wpL_append_any rfl _ _ 23 rfl w1.heap.size 3 i0 (.int .i64 0) 1 8 Try.underlying23 hi0 hz0 hz1 hz2 rfl (by decide) (.slice (some ⟨w1.heap.size, 0, none⟩) 1 1) 1 [.int .i64 (-1)] rfl HOT.out a2 (divs ys).length c2 ((divs ys).map natV) rfl (by simp) HN2.out.1 HN2.out.2 (fun u hu => by obtain ⟨x, _, rfl⟩ := List.mem_map.1 hu; rfl) (by unfold maxLen; omega) (by omega) hsz2 ?_
  intro vt w3 hown3 hgrow3 hat3
  have hkw3 : Kp No w1 w3 := kp_app0 hkw2 HOT.out (Nat.le_refl _) hgrow3
  have HR3 := Lib.hid (HR1.out.no hkw3)
  have hk3 := hk1.tr hkw3
  have htl := tos_len ys
  have hM : (tos ys).length = 1 + (divs ys).length := by simp [tos]; omega
  rw [← hM, show [Value.int .i64 (-1)] ++ (divs ys).map natV = (tos ys).map (Value.int .i64) from (tos_int ys).symm] at hown3
  obtain ⟨gt, ct, rfl, _, _, hA⟩ := Go.Kq.own_form hown3
  obtain ⟨gt, rfl⟩ := hA (by omega)
  have HT := Lib.hid hown3
  have HMT := Lib.hid (show (tos ys).take (tos ys).length = tos ys from List.take_length)
  have HML : ∀ k, k < (tos ys).length → Hid (∃ t, (tos ys)[k]? = some t) := fun k h => Lib.hid ⟨_, List.getElem?_eq_getElem h⟩
  clear hown3 hgrow3 hat3 HOT HN2 hk2 hkw2 hsz2 hA hkw3 hM
  generalize (tos ys).length = M at *
  go_wp2_with fail
  go_loopw [9, 30] (fun vo vi wr => ∃ (k : Nat) (chs : List Ch), k ≤ M ∧ vi = .int .i64 k ∧ chs.map Ch.c = ((tos ys).take k).map (cho xs ys f) ∧ wr.ownsRow w3.heap.size 76 3 vo chs.length (chs.flatMap Ch.cells) ∧ (∀ x ∈ chs, x.own wr w3.heap.size) ∧ Kp No w3 wr) (fun _ vi _ => M - (intOf vi).toNat)
  case atStart => exact ⟨0, [], by omega, rfl, rfl, ⟨rfl, .inl ⟨rfl, rfl⟩⟩, by simp, Kp.refl _ _⟩
  case round =>
    obtain ⟨k, chs, hk, rfl, hcs, hov, hst, hkp⟩ := hrel
    have HCS := Lib.hid hcs
    have HOV := Lib.hid hov
    have HST := Lib.hid hst
    have hkl : chs.length ≤ 7 := by
      have := congrArg List.length hcs
      simp at this
      omega
    clear hcs hov hst
    by_cases hltk : k < M
    · obtain ⟨t, ht⟩ := (HML k hltk).out
      have hct : wr.cell? ⟨gt, k, none⟩ = some (.int .i64 t) := Go.Kq.own_cell (hkp.owns HT.out (fun _ _ h => h)) (by rw [List.getElem?_map, ht]; rfl)
      have HTT := Lib.hid ht
      clear ht
      go_wp2_with fail
      refine (part_any Y m cb ys t f _ (hy.no (hk3.tr hkp)) (by omega)).mono ?_
      rintro e w4 ⟨v4, u4, rfl, hov4, hou4, hk4⟩
      rw [← pvo_len ys t f m] at hov4
      obtain ⟨a4, c4, rfl, hc4, hr4⟩ := own_rdv hov4
      obtain ⟨b4, d4, rfl, hd4, _, hb4⟩ := Go.Kq.own_form hou4
      have HR4 := Lib.hid hr4
      have HU4 := Lib.hid hou4
      clear hov4 hr4 hou4
      go_wp2_with fail
      have hchk : chk (pvo xs f f n) (pvo ys t f m) 14 = 0 := by have := pvo_chk (d := f) (t := t) (by omega : xs.length ≤ 24) (by omega : ys.length ≤ 14) GX.out GY.out hf; rw [hxl, hyl] at this; exact this
      refine (bst14_any a1 a4 _ _ c1 c4 (pvo xs f f n) (pvo ys t f m) _ (HR3.out.no ((hkp.tr hk4).tr (Kp.alloc _ _ _))) (HR4.out.no (Kp.alloc _ _ _)) hchk).mono ?_
      obtain ⟨out, c, hb, hbl, hbi, hbc⟩ := bst_facts (t := t) (by omega : xs.length ≤ 24) (by omega : ys.length ≤ 14) GX.out GY.out hf
      rw [hxl, hyl] at hb
      rw [hb]
      have HC := Lib.hid (show cho xs ys f t = ⟨t, out.map fun i => (pin ys t m).getD i 0, c⟩ by unfold cho; rw [hxl, hyl, hb])
      rw [hyl] at hbi
      have HBI := Lib.hid hbi
      clear hb hchk hbi
      rintro e w5 ⟨v5, rfl, ho5, hk5⟩
      replace ho5 : w5.ownsRow (w4.alloc (.cells #[.int .i64 t, .slice none 0 0, .int .i64 0] 76)).heap.size 3 1 v5 out.length (out.map natV) := ho5
      obtain ⟨a5, c5, rfl, _, _, hA5⟩ := Go.Kq.own_form ho5
      have hx5 : w5.heap[w4.heap.size]? = some (.cells #[.int .i64 t, .slice none 0 0, .int .i64 0] 76 (0, 0)) := hk5.heap (heap_alloc_new _ _) id
      have q0 : w5.cell? ⟨w4.heap.size, 2, none⟩ = some (.int .i64 0) := by simp [World.cell?, hx5]
      have q1 : w5.frozen? ⟨w4.heap.size, 2, none⟩ = false := by simp [World.frozen?, hx5]
      have HO5 := Lib.hid ho5
      have HX5 := Lib.hid hx5
      clear ho5 hx5
      go_wp2_with fail
      obtain ⟨bx, hbx⟩ : ∃ bx, bx = w4.heap.size := ⟨_, rfl⟩
      obtain ⟨w6, hw6⟩ : ∃ w6, w6 = w5.setCell ⟨w4.heap.size, 2, none⟩ (.int .i64 c) := ⟨_, rfl⟩
      rw [← hw6, ← hbx]
      have hk6 : Kp No w4 w6 := by rw [hw6, ← hbx]; exact ((Kp.alloc _ _ _).tr hk5).trans (kp_setOne w5 bx 2 _) fun g hg h => by have h : g = bx := h; omega
      have hx6 : w6.heap[bx]? = some (.cells #[.int .i64 t, .slice none 0 0, .int .i64 c] 76 (0, 0)) := by
        rw [hw6, hbx]
        simp [World.setCell, Array.getElem?_modify, HX5.out]
      have ho6 : w6.ownsRow (bx + 1) 3 1 (.slice a5 out.length c5) out.length (out.map natV) := by
        have h := HO5.out
        rw [show (w4.alloc (Obj.cells #[.int .i64 t, .slice none 0 0, .int .i64 0] 76)).heap.size = bx + 1 by rw [hbx]; simp] at h
        rw [hw6, ← hbx]
        exact (kp_setOne w5 bx 2 _).owns h fun g hg e => by have e : g = bx := e; have := (Go.Kq.own_ge h hg).1; omega
      have hz6 : bx < w6.heap.size := (Array.getElem?_eq_some_iff.1 hx6).1
      have hbw : wr.heap.size ≤ bx := by rw [hbx]; exact hk4.size
      have HU6 := Lib.hid (hk6.owns HU4.out (fun _ _ h => h))
      have hu6 : ∀ g, b4 = some ⟨g, 0, none⟩ → g < bx := fun g hg => by subst hg; rw [hbx]; exact (Go.Kq.own_ge HU4.out (g := g) rfl).2
      have HX6 := Lib.hid hx6
      have HO6 := Lib.hid ho6
      have hkr := hkp.tr (hk4.tr hk6)
      have HOVB := fun g hg => Nat.lt_of_lt_of_le (Go.Kq.own_ge HOV.out (g := g) hg).2 hbw
      have HSTB : ∀ x ∈ chs, ∀ g, x.sl.ownBlock = some g → g < bx := fun x hx g hg => Nat.lt_of_lt_of_le (Go.Kq.own_ge (HST.out x hx) (g := g) hg).2 hbw
      have HOV6 := Lib.hid ((hk4.tr hk6).owns HOV.out (fun _ _ h => h))
      have HST6 := Lib.hid (fun x (hx : x ∈ chs) => (show x.own w6 w3.heap.size from (hk4.tr hk6).owns (HST.out x hx) (fun _ _ h => h)))
      clear hx6 ho6 hw6 q0 q1 HX5 HO5 HU4 HR4 hk6 hk5 hct HST HOV
      clear hbx
      obtain ⟨wo, rfl⟩ : ∃ wo : World, wo = wr := ⟨_, rfl⟩
      go_loopw [52] (fun vi wr => ∃ j : Nat, j ≤ out.length ∧ vi = .int .i64 j ∧ ∃ aS cS, wr.heap[bx]? = some (.cells #[.int .i64 t, .slice aS j cS, .int .i64 c] 76 (0, 0)) ∧ wr.ownsRow w6.heap.size 3 1 (.slice aS j cS) j (((out.take j).map fun i => (pin ys t m).getD i 0).map natV) ∧ Kp (Kq.One bx) w6 wr) (fun vi _ => out.length - (intOf vi).toNat)
      case atStart => exact ⟨0, by omega, rfl, none, 0, HX6.out, ⟨rfl, .inl ⟨rfl, rfl⟩⟩, Kp.refl _ _⟩
      case round =>
        obtain ⟨j, hj, rfl, aS, cS, hxi, hoi, hki⟩ := hrel
        have hxb : ∀ g, (Value.slice aS j cS).ownBlock = some g → g ≠ bx := fun g hg e => by have := (Go.Kq.own_ge hoi hg).1; omega
        by_cases hltj : j < out.length
        · obtain ⟨g5, rfl⟩ := hA5 (by omega)
          obtain ⟨i, hi⟩ : ∃ i, out[j]? = some i := ⟨_, List.getElem?_eq_getElem hltj⟩
          have hir := HBI.out i (List.mem_of_getElem? hi)
          obtain ⟨g4, rfl⟩ := hb4 (by omega)
          obtain ⟨p, hp⟩ : ∃ p, (pin ys t m)[i]? = some p := ⟨_, List.getElem?_eq_getElem hir⟩
          have ho6i := hki.owns HO6.out fun g hg e => by have e : g = bx := e; have := (Go.Kq.own_ge HO6.out hg).1; omega
          have hu6i := hki.owns HU6.out fun g hg e => by have e : g = bx := e; have := hu6 g (by cases hg; rfl); omega
          have q5 : wr.cell? ⟨g5, j, none⟩ = some (.int .i64 i) := Go.Kq.own_cell ho6i (by rw [List.getElem?_map, hi]; rfl)
          have q4 : wr.cell? ⟨g4, i, none⟩ = some (.int .i64 p) := Go.Kq.own_cell hu6i (by rw [List.getElem?_map, hp]; rfl)
          have hg4 : g4 ≠ bx := fun e => by have := hu6 g4 rfl; omega
          have hg4r : (Value.slice aS j cS).ownBlock ≠ some g4 := fun e => by have := (Go.Kq.own_ge hoi e).1; have := hu6 g4 rfl; omega
          have HTK := Lib.hid (show (out.take (j + 1)).map (fun i => (pin ys t m).getD i 0) = ((out.take j).map fun i => (pin ys t m).getD i 0) ++ [p] by rw [List.take_add_one, hi, List.map_append]; simp [hp])
          clear hi hp ho6i hu6i
          have HXI := Lib.hid hxi
          have HOI := Lib.hid hoi
          clear hxi hoi
          go_wp2_with fail
          refine wp_region_each (fun ix u => match ix with
            | 0 => u = .pointer (some ⟨bx, 1, none⟩) | 1 => u = .slice aS j cS | 2 => u = .slice (some ⟨g4, 0, none⟩) (pin ys t m).length d4 | 3 => u = .int .i64 i | 4 => u = .pointer (some ⟨g4, i, none⟩) | 5 => u = .int .i64 p | 8 => u = .pointer (some ⟨bx, 1, none⟩) | _ => True)
            (Ap wr bx w6.heap.size 3 1 76 (fun v => #[.int .i64 t, v, .int .i64 c]) (.slice aS j cS) j 1 (((out.take j).map fun i => (pin ys t m).getD i 0).map natV) [.int .i64 p] 1 6 7 9) (by kernel_rfl) (by kernel_rfl) (by kernel_rfl) ?_ ?_ ?_
          · exact Ap.start HXI.out HOI.out
          · refine ⟨?_, ?_, ?_, ?_, ?_, ?_, ?_, ?_, ?_, ?_, trivial⟩
            · intro r a w' hf hg hW hr hd K hK
              refine wpOp_of rfl rfl ?_
              have e0 : a.tmps.getD 14 undef = .pointer (some ⟨bx, 0, none⟩) := hf.evalFree (by kernel_rfl)
              go_simp
              exact hK _ _ rfl (hW.upd 0 _ (by decide) (by decide) (by decide))
            · intro r a w' hf hg hW hr hd K hK
              refine wpOp_of rfl rfl ?_
              refine hf.depE hg hd 0 56 (by kernel_rfl) fun u0 e0 g0 _ => ?_
              replace g0 : u0 = .pointer (some ⟨bx, 1, none⟩) := g0
              subst g0
              have y0 : w'.cell? ⟨bx, 1, none⟩ = some (.slice aS j cS) := by simp [World.cell?, hW.load hr]
              go_simp
              exact hK _ _ rfl (hW.upd 1 _ (by decide) (by decide) (by decide))
            · intro r a w' hf hg hW hr hd K hK
              refine wpOp_of rfl rfl ?_
              have e0 : a.tmps.getD 13 undef = .slice (some ⟨g4, 0, none⟩) (pin ys t m).length d4 := hf.evalFree (by kernel_rfl)
              go_simp
              exact hK _ _ rfl (hW.upd 2 _ (by decide) (by decide) (by decide))
            · intro r a w' hf hg hW hr hd K hK
              refine wpOp_of rfl rfl ?_
              have e0 : a.tmps.getD 17 undef = .int .i64 i := hf.evalFree (by kernel_rfl)
              go_simp
              exact hK _ _ rfl (hW.upd 3 _ (by decide) (by decide) (by decide))
            · intro r a w' hf hg hW hr hd K hK
              refine wpOp_of rfl rfl ?_
              refine hf.depE hg hd 2 58 (by kernel_rfl) fun u0 e0 g0 _ => ?_
              replace g0 : u0 = .slice (some ⟨g4, 0, none⟩) (pin ys t m).length d4 := g0
              subst g0
              refine hf.depE hg hd 3 59 (by kernel_rfl) fun u1 e1 g1 _ => ?_
              replace g1 : u1 = .int .i64 i := g1
              subst g1
              go_simp
              exact hK _ _ rfl (hW.upd 4 _ (by decide) (by decide) (by decide))
            · intro r a w' hf hg hW hr hd K hK
              refine wpOp_of rfl rfl ?_
              refine hf.depE hg hd 4 60 (by kernel_rfl) fun u0 e0 g0 _ => ?_
              replace g0 : u0 = .pointer (some ⟨g4, i, none⟩) := g0
              subst g0
              have y0 := hW.kp.cell q4 (by rintro (h | h); exact hg4 h; exact hg4r h)
              go_simp
              exact hK _ _ rfl (hW.upd 5 _ (by decide) (by decide) (by decide))
            · intro r a w' hf hg hW hr hd K hK
              refine wpOp_of rfl rfl ?_
              refine hf.depE hg hd 5 61 (by kernel_rfl) fun u0 e0 g0 _ => ?_
              replace g0 : u0 = .int .i64 p := g0
              subst g0
              have e0' := get_of_getD e0
              go_simp
              exact hK _ _ trivial (hW.lay hr (by decide) rfl (by unfold maxLen; omega) rfl)
            · intro r a w' hf hg hW hr hd K hK
              refine wpOp_of rfl rfl ?_
              refine hf.depE hg hd 1 57 (by kernel_rfl) fun u0 e0 g0 h0 => ?_
              replace g0 : u0 = .slice aS j cS := g0
              subst g0
              refine hf.depE hg hd 6 62 (by kernel_rfl) fun u1 e1 _ h1 => ?_
              obtain ⟨g, rfl, hgz, hgc⟩ := hW.made _ h1 hr
              refine wpo_append _ _ 23 rfl w6.heap.size 3 i0 (.int .i64 0) 1 8 Try.underlying23 hi0 hz0 hz1 hz2 rfl (by decide) (.slice aS j cS) j _ e0 (hW.row hr) ⟨g, 0, none⟩ 1 1 [.int .i64 p] e1 rfl (fun jj uu hjj => by rw [add_at, Nat.zero_add]; exact hgc jj uu hjj) (ints_oneCell .i64 [(p : Int)]) (by unfold maxLen; omega) (by omega) (by have := hki.size; have := hW.kp.size; omega) ?_
              intro v' w7 hown' hgrow hat
              exact hK _ _ trivial (hW.app (fun e => hxb bx e rfl) hr (by rw [h0]; simp) (by rw [h1]; simp) (by decide) hown' hgrow hat)
            · intro r a w' hf hg hW hr hd K hK
              refine wpOp_of rfl rfl ?_
              have e0 : a.tmps.getD 14 undef = .pointer (some ⟨bx, 0, none⟩) := hf.evalFree (by kernel_rfl)
              go_simp
              exact hK _ _ rfl (hW.upd 8 _ (by decide) (by decide) (by decide))
            · intro r a w' hf hg hW hr hd K hK
              refine wpOp_of rfl rfl ?_
              refine hf.depE hg hd 8 64 (by kernel_rfl) fun u0 e0 g0 _ => ?_
              replace g0 : u0 = .pointer (some ⟨bx, 1, none⟩) := g0
              subst g0
              refine hf.depE hg hd 7 63 (by kernel_rfl) fun u1 e1 _ h1 => ?_
              obtain ⟨a7, c7, hu1, _⟩ := Go.Kq.own_form (hW.done _ h1).2.2.1
              subst hu1
              have y0 : w'.cell? ⟨bx, 1, none⟩ = some (.slice aS j cS) := by simp [World.cell?, hW.box hr]
              have y1 : w'.frozen? ⟨bx, 1, none⟩ = false := by simp [World.frozen?, hW.box hr]
              go_simp
              exact hK undef _ trivial (hW.store hr h1 (by decide) 1 rfl undef)
          · intro r' w9 hg hW hr'
            obtain ⟨u, hu7, ho9, hb9, hk9, hat9⟩ := hW.fin (hr' 9 (by decide))
            have HO9 := Lib.hid ho9
            have HB9 := Lib.hid hb9
            have hk9' : Kp (Kq.One bx) w6 w9 := hki.trans hk9 fun g hg h => by
              rcases h with h | h
              · exact h
              · have := (Go.Kq.own_ge HOI.out h).1
                omega
            clear hg hW hr' hu7 ho9 hb9 hk9 hat9 q4 q5
            simp only [List.length_cons, List.length_nil, Nat.reduceAdd, List.range_succ, List.range_zero, List.nil_append, List.cons_append, List.map_cons, List.map_nil, putAll, Act.put, List.setIfInBounds_toArray, List.set_cons_succ, List.set_cons_zero]
            obtain ⟨a9, c9, rfl, _⟩ := Go.Kq.own_form HO9.out
            go_wp2
            go_roundw
            case rel => exact ⟨j + 1, by omega, by go_num, a9, c9, HB9.out, by rw [HTK.out, List.map_append]; exact HO9.out, hk9'⟩
            case measure => simp [intOf]; omega
        · obtain rfl : j = out.length := by omega
          rw [List.take_length] at hoi
          have p0 : wr.cell? ⟨bx, 0, none⟩ = some (.int .i64 t) := by simp [World.cell?, hxi]
          have p1 : wr.cell? ⟨bx, 1, none⟩ = some (.slice aS out.length cS) := by simp [World.cell?, hxi]
          have p2 : wr.cell? ⟨bx, 2, none⟩ = some (.int .i64 c) := by simp [World.cell?, hxi]
          have HOI := Lib.hid hoi
          clear hoi hxi
          have hkri := hkr.trans hki fun g hg h => by have h : g = bx := h; have := hkp.size; omega
          have hovi := hki.owns HOV6.out fun g hg h => by have h : g = bx := h; have := HOVB g hg; omega
          have HSTI := Lib.hid (fun x (hx : x ∈ chs) => (show x.own wr w3.heap.size from hki.owns (HST6.out x hx) fun g hg h => by have h : g = bx := h; have := HSTB x hx g hg; omega))
          have HOVI := Lib.hid hovi
          obtain ⟨a9, c9, hu9, _⟩ := Go.Kq.own_form hovi
          subst hu9
          have HCN := Lib.hid (show (tos ys).take (k + 1) = (tos ys).take k ++ [t] by rw [List.take_add_one, HTT.out]; rfl)
          clear hovi HOVB HSTB HU6 HX6 HO6 hki HOV6 HST6 hxb
          go_wp2_with (at_builtin; refine stop_in ?_)
          refine stop_out ?_
          refine wpList_append_own_at _ rfl _ _ 72 rfl w3.heap.size 76 i1 (.agg #[.int .i64 0, .slice none 0 0, .int .i64 0]) 3 40 Try.underlying72 hi1 hy0 hy1 hy2 rfl (by decide) (.slice a9 chs.length c9) chs.length (chs.flatMap Ch.cells) rfl (HOVI.out.alloc _) ⟨wr.heap.size, 0, none⟩ 1 1 [.int .i64 t, .slice aS out.length cS, .int .i64 c] rfl rfl (new_cells wr _ (by unfold maxLen; simp)) (fun u hu => by simp at hu; rcases hu with rfl | rfl | rfl <;> rfl) (by unfold maxLen; omega) (by omega) (by have := hkri.size; simp; omega) ?_
          intro v' w7 hown' hgrow hnil hat
          obtain ⟨xn, hxn⟩ : ∃ xn : Ch, xn = ⟨⟨t, out.map fun i => (pin ys t m).getD i 0, c⟩, aS, cS⟩ := ⟨_, rfl⟩
          have hxc : xn.c = cho xs ys f t := by rw [hxn, HC.out]
          have hxl2 : xn.cells = [.int .i64 t, .slice aS out.length cS, .int .i64 c] := by rw [hxn]; simp [Ch.cells, Ch.sl]
          have hxo : xn.own wr w3.heap.size := by
            have := own_mono HOI.out hkr.size
            rw [hxn]
            simpa [Ch.own, Ch.sl] using this
          rw [← hxl2, ← Go.Kq.flat_snoc] at hown'
          have hk7 := kp_app hkri HOVI.out (Nat.le_refl _) hgrow
          have hst7 : ∀ x ∈ chs ++ [xn], x.own w7 w3.heap.size := fun x hx => by
            refine own_app HOVI.out (?_ : x.own wr w3.heap.size) (by decide) hgrow
            rcases List.mem_append.1 hx with hx | hx
            · exact HSTI.out x hx
            · simp at hx
              rw [hx]
              exact hxo
          have hcs7 : (chs ++ [xn]).map Ch.c = ((tos ys).take (k + 1)).map (cho xs ys f) := by
            rw [HCN.out, List.map_append, List.map_append, HCS.out]
            simp [hxc]
          have HO7 := Lib.hid hown'
          have HS7 := Lib.hid hst7
          have HC7 := Lib.hid hcs7
          clear hown' hgrow hnil hat hxn hxc hxl2 hxo hst7 hcs7
          go_wp2_with fail
          go_roundw
          case rel => exact ⟨k + 1, chs ++ [xn], by omega, by go_num, HC7.out, by rw [List.length_append]; exact HO7.out, HS7.out, hk7⟩
          case measure => simp [intOf]; omega
    · obtain rfl : k = M := by omega
      obtain ⟨al, cl, rfl, _, _, _⟩ := Go.Kq.own_form HOV.out
      go_wp2_with fail
      go_ret
      have hcs : chs.map Ch.c = chos xs ys f := by rw [HCS.out, HMT.out]; rfl
      exact ⟨_, chs, rfl, hcs, own_mono HOV.out hk3.size, fun x hx => own_mono (HST.out x hx) hk3.size, hk3.tr hkp⟩
end Go.Proofs.Ytfflhlmnfhfcgaa
