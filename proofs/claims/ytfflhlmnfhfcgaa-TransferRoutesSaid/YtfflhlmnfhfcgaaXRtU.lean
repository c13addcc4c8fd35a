/- Chapter 33: Route: the walk. -/
import Derived.Test.YtfflhlmnfhfcgaaXRtT
namespace Go.Proofs.Ytfflhlmnfhfcgaa
open Go.RowKit Go.Kq

theorem info72 : (Try.prog.info? 72).map (fun i => (i.zero, i.size, i.bytes)) = some (some (.slice none 0 0), 1, 24) := by kernel_rfl
/-- A row of choices, made by a call. -/
def Made (base : Nat) (xs ys : List Vc) (d : Int) (r : Rw) (w : World) : Prop := r.cs = chos xs ys d ∧ w.ownsRow base 76 3 r.sl r.chs.length (r.chs.flatMap Ch.cells) ∧ ∀ x ∈ r.chs, x.own w base
theorem Made.kp {base : Nat} {xs ys : List Vc} {d : Int} {r : Rw} {w w' : World} {S : Nat → Prop} (h : Made base xs ys d r w) (hk : Kp S w w') (hS : ∀ k, base ≤ k → ¬ S k) : Made base xs ys d r w' :=
  ⟨h.1, hk.owns h.2.1 fun g hg => hS g (Go.Kq.own_ge h.2.1 hg).1, fun x hx => hk.owns (h.2.2 x hx) fun g hg => hS g (Go.Kq.own_ge (h.2.2 x hx) hg).1⟩
theorem Made.app {base b q n : Nat} {xs ys : List Vc} {d : Int} {r : Rw} {w w' : World} {v : Value} {us : List Value} (h : Made base xs ys d r w) (ho : w.ownsRow b 72 1 v n us) (hk : Kp (fun g => g = q ∨ v.ownBlock = some g) w w') (hq : q < base) : Made base xs ys d r w' := by
  refine ⟨h.1, hk.owns h.2.1 fun g hg e => ?_, fun x hx => hk.owns (h.2.2 x hx) fun g hg e => ?_⟩
  · rcases e with e | e
    · have := (Go.Kq.own_ge h.2.1 hg).1
      omega
    · exact Go.Kq.own_apart ho h.2.1 (by decide) e hg
  · rcases e with e | e
    · have := (Go.Kq.own_ge (h.2.2 x hx) hg).1
      omega
    · exact Go.Kq.own_apart ho (h.2.2 x hx) (by decide) e hg
/-- What Route returns, in memory. -/
def RtM (base : Nat) (vF vT vS : Value) (r : RtV) (w : World) : Prop := w.ownsRow base 3 1 vF r.from_.length (r.from_.map natV) ∧ w.ownsRow base 3 1 vT r.rs.to.length (r.rs.to.map (Value.int .i64)) ∧ w.ownsRow base 3 1 vS r.rs.stops.length (r.rs.stops.map natV)
theorem rtm_nil (base : Nat) (c e : Int) (w : World) : RtM base (.slice none 0 0) (.slice none 0 0) (.slice none 0 0) ⟨[], ⟨c, [], []⟩, e⟩ w := ⟨⟨rfl, .inl ⟨rfl, rfl⟩⟩, ⟨rfl, .inl ⟨rfl, rfl⟩⟩, ⟨rfl, .inl ⟨rfl, rfl⟩⟩⟩
theorem set4 {w : World} {b : Nat} {x0 x1 x2 x3 y0 y1 y2 y3 : Value} (h : w.heap[b]? = some (.cells #[x0, x1, x2, x3] 51 (0, 0))) : ((((w.setCell ⟨b, 0, none⟩ y0).setCell ⟨b, 1, none⟩ y1).setCell ⟨b, 2, none⟩ y2).setCell ⟨b, 3, none⟩ y3).heap[b]? = some (.cells #[y0, y1, y2, y3] 51 (0, 0)) := by
  simp [World.setCell, Array.getElem?_modify, h]
theorem kp4 (w : World) (b : Nat) (y0 y1 y2 y3 : Value) : Kp (Kq.One b) w ((((w.setCell ⟨b, 0, none⟩ y0).setCell ⟨b, 1, none⟩ y1).setCell ⟨b, 2, none⟩ y2).setCell ⟨b, 3, none⟩ y3) :=
  (((kp_setOne w b 0 _).tr (kp_setOne _ b 1 _)).tr (kp_setOne _ b 2 _)).tr (kp_setOne _ b 3 _)
theorem three (w : World) (o1 o2 o3 : Obj) : (((w.alloc o1).alloc o2).alloc o3).heap[w.heap.size]? = some o1 ∧ (((w.alloc o1).alloc o2).alloc o3).heap[w.heap.size + 1]? = some o2 ∧ (((w.alloc o1).alloc o2).alloc o3).heap[w.heap.size + 1 + 1]? = some o3 ∧ Kp No w (((w.alloc o1).alloc o2).alloc o3) := by
  refine ⟨?_, ?_, ?_, ((Kp.alloc _ _ _).tr (Kp.alloc _ _ _)).tr (Kp.alloc _ _ _)⟩
  · rw [Below.heap_alloc _ _ _ (by simp <;> omega), Below.heap_alloc _ _ _ (by simp <;> omega), heap_alloc_new]
  · rw [Below.heap_alloc _ _ _ (by simp)]
    have := heap_alloc_new (w.alloc o1) o2
    simpa using this
  · have := heap_alloc_new ((w.alloc o1).alloc o2) o3
    simpa using this
set_option maxHeartbeats 4000000 in
set_option maxRecDepth 100000 in
theorem Route_any (A Y : Option Addr) (n m ca cb : Nat) (xs ys : List Vc) (w : World) (hx : RdV w A n xs) (hy : RdV w Y m ys) :
    Calls Try.prog 25 #[.slice A n ca, .slice Y m cb] w fun e w' => ∃ vF vT vS, e = .returned (.tuple #[.agg #[vF, vT, vS, .int .i64 (routeV xs ys).rs.cost], .int .i64 (routeV xs ys).err]) ∧ RtM w.heap.size vF vT vS (routeV xs ys) w' ∧ Kp No w w' := by
  obtain ⟨i1, hi1, hy0, hy1, hy2⟩ := info_parts info72
  have hxl := hx.1
  have hyl := hy.1
  by_cases he : chk xs ys 14 = 0
  · obtain ⟨z1, z2, gx, gy⟩ := chk_zero he
    have hdx : ∀ v ∈ xs, 0 ≤ v.d ∧ v.d ≤ 5 := fun v hv => by have := (bad_iff v).1 (gx v hv); omega
    have HDX := Lib.hid hdx
    have GX := Lib.hid gx
    have GY := Lib.hid gy
    have HE := Lib.hid he
    clear hdx gx gy he
    have hdl := divs_len xs
    by_cases hd : 4 < (divs xs).length
    · have hv : routeV xs ys = ⟨[], ⟨0, [], []⟩, 3⟩ := by unfold routeV; rw [if_neg (by have := HE.out; omega), if_pos hd]
      rw [hv]
      clear hv
      go_enter Try.func25, Try.ntmps25
      go_wp2_with fail
      refine (check_any A Y n m ca cb xs ys 14 _ (hx.no (Kp.alloc _ _ _)) (hy.no (Kp.alloc _ _ _)) (by omega)).mono ?_
      rintro e w1 ⟨rfl, hk1⟩
      rw [HE.out]
      go_wp2_with fail
      refine (divisions_any A n ca xs _ (hx.no ((Kp.alloc _ _ _).tr hk1)) (by omega) HDX.out).mono ?_
      rintro e w2 ⟨v2, rfl, ho2, hk2⟩
      obtain ⟨a2, c2, rfl, _, _, _⟩ := Go.Kq.own_form ho2
      have hb := hk2.heap (hk1.heap (heap_alloc_new w (.cells #[.slice none 0 0, .slice none 0 0, .slice none 0 0, .int .i64 0] 51)) id) id
      have HB := Lib.hid hb
      have o0 : w2.cell? ⟨w.heap.size, 0, none⟩ = some (.slice none 0 0) := cell_heap hb 0
      have o1 : w2.cell? ⟨w.heap.size, 1, none⟩ = some (.slice none 0 0) := cell_heap hb 1
      have o2 : w2.cell? ⟨w.heap.size, 2, none⟩ = some (.slice none 0 0) := cell_heap hb 2
      have o3 : w2.cell? ⟨w.heap.size, 3, none⟩ = some (.int .i64 0) := cell_heap hb 3
      have f0 := free_heap hb 0
      have f1 := free_heap hb 1
      have f2 := free_heap hb 2
      have f3 := free_heap hb 3
      have hdl2 : (4 : Int) < (divs xs).length := by omega
      clear ho2 hb
      go_wp2_with fail
      have hb9 := set4 (y0 := .slice none 0 0) (y1 := .slice none 0 0) (y2 := .slice none 0 0) (y3 := .int .i64 0) HB.out
      have hk9 := ((Kp.alloc No w (.cells #[.slice none 0 0, .slice none 0 0, .slice none 0 0, .int .i64 0] 51)).tr (hk1.tr hk2)).trans (kp4 w2 w.heap.size (.slice none 0 0) (.slice none 0 0) (.slice none 0 0) (.int .i64 0)) fun g hg e => by have e : g = w.heap.size := e; omega
      generalize (((w2.setCell ⟨w.heap.size, 0, none⟩ (.slice none 0 0)).setCell ⟨w.heap.size, 1, none⟩ (.slice none 0 0)).setCell ⟨w.heap.size, 2, none⟩ (.slice none 0 0)).setCell ⟨w.heap.size, 3, none⟩ (.int .i64 0) = w9 at hb9 hk9 ⊢
      have p0 : w9.cell? ⟨w.heap.size, 0, none⟩ = some (.slice none 0 0) := cell_heap hb9 0
      have p1 : w9.cell? ⟨w.heap.size, 1, none⟩ = some (.slice none 0 0) := cell_heap hb9 1
      have p2 : w9.cell? ⟨w.heap.size, 2, none⟩ = some (.slice none 0 0) := cell_heap hb9 2
      have p3 : w9.cell? ⟨w.heap.size, 3, none⟩ = some (.int .i64 0) := cell_heap hb9 3
      exact bodyPost_ret (v := .tuple #[.agg #[.slice none 0 0, .slice none 0 0, .slice none 0 0, .int .i64 0], .int .i64 (3)]) (by simp [results, Try.results25, go_sem, p0, p1, p2, p3]) rfl ⟨_, _, _, rfl, rtm_nil _ _ _ _, hk9⟩
    · have hv : routeV xs ys = ⟨divs xs, bestR (allC xs ys), 0⟩ := by unfold routeV; rw [if_neg (by have := HE.out; omega), if_neg hd]
      rw [hv]
      clear hv
      obtain ⟨R, hRr⟩ : ∃ R, R = bestR (allC xs ys) := ⟨_, rfl⟩
      rw [← hRr]
      have HRr := Lib.hid hRr
      clear hRr
      obtain ⟨D, hD⟩ : ∃ D, D = (divs xs).length := ⟨_, rfl⟩
      have hD4 : D ≤ 4 := by omega
      have HML : ∀ k, k < D → Hid (∃ d, (divs xs)[k]? = some d) := fun k h => Lib.hid ⟨_, List.getElem?_eq_getElem (by omega)⟩
      have HTD := Lib.hid (show (divs xs).take D = divs xs by rw [hD]; exact List.take_length)
      go_enter Try.func25, Try.ntmps25
      go_wp2_with fail
      refine (check_any A Y n m ca cb xs ys 14 _ (hx.no (Kp.alloc _ _ _)) (hy.no (Kp.alloc _ _ _)) (by omega)).mono ?_
      rintro e w1 ⟨rfl, hk1⟩
      rw [HE.out]
      go_wp2_with fail
      refine (divisions_any A n ca xs _ (hx.no ((Kp.alloc _ _ _).tr hk1)) (by omega) HDX.out).mono ?_
      rintro e w2 ⟨v2, rfl, ho2, hk2⟩
      have hb := hk2.heap (hk1.heap (heap_alloc_new w (.cells #[.slice none 0 0, .slice none 0 0, .slice none 0 0, .int .i64 0] 51)) id) id
      have hk02 : Kp No w w2 := ((Kp.alloc No w (.cells #[.slice none 0 0, .slice none 0 0, .slice none 0 0, .int .i64 0] 51)).tr hk1).tr hk2
      have hz1 := hk1.size
      have ho2' := own_mono ho2 (base' := w.heap.size + 1) (by simpa using hz1)
      rw [← hD] at ho2'
      obtain ⟨a2, c2, rfl, _, _, ha2⟩ := Go.Kq.own_form ho2'
      have HO2 := Lib.hid ho2'
      have HB := Lib.hid hb
      have hz2 : w.heap.size < w2.heap.size := (Array.getElem?_eq_some_iff.1 hb).1
      have hDb : decide ((4 : Int) < (D : Int)) = false := decide_eq_false (by omega)
      have HDD := Lib.hid hD
      clear ho2 ho2' hb hk1 hk2 hz1 hd hdl hD
      go_wp2_with fail
      obtain ⟨q, hq⟩ : ∃ q, q = w2.heap.size := ⟨_, rfl⟩
      obtain ⟨w3, hw3⟩ : ∃ w3, w3 = w2.alloc (.cells #[.slice none 0 0] 71) := ⟨_, rfl⟩
      rw [← hw3, ← hq]
      have hk23 : Kp No w2 w3 := by rw [hw3]; exact Kp.alloc _ _ _
      have hb3 : w3.heap[q]? = some (.cells #[.slice none 0 0] 71 (0, 0)) := by rw [hw3, hq]; exact heap_alloc_new _ _
      have hz3 : q + 1 ≤ w3.heap.size ∧ w.heap.size < q ∧ w3.heap.size ≤ q + 1 := ⟨(Array.getElem?_eq_some_iff.1 hb3).1, by omega, by rw [hw3, hq]; simp⟩
      have ho3 := hk23.owns HO2.out fun _ _ h => h
      have ho3q : ∀ g, (Value.slice a2 D c2).ownBlock = some g → g < q := fun g hg => by rw [hq]; exact (Go.Kq.own_ge HO2.out hg).2
      have HO3 := Lib.hid ho3
      have HB3 := Lib.hid (hk23.heap HB.out id)
      have HQ3 := Lib.hid hb3
      have hk03 := hk02.tr hk23
      have HDV := Lib.hid (divs_mem xs)
      clear hq hw3 hb3 ho3 HO2 HB hk23 hz2
      go_loopw [29] (fun vi wr => ∃ (k : Nat) (aA : Option Addr) (cA : Nat) (rws : List Rw), k ≤ D ∧ vi = .int .i64 k ∧ rws.length = k ∧ wr.heap[q]? = some (.cells #[.slice aA k cA] 71 (0, 0)) ∧ wr.ownsRow (q + 1) 72 1 (.slice aA k cA) k (rws.map Rw.sl) ∧ rws.map Rw.cs = ((divs xs).take k).map (fun f : Nat => chos xs ys (f : Int)) ∧ (∀ r ∈ rws, ∃ d, Made (q + 1) xs ys d r wr) ∧ Kp (Kq.One q) w3 wr) (fun vi _ => D - (intOf vi).toNat)
      case atStart => exact ⟨0, none, 0, [], by omega, rfl, rfl, HQ3.out, ⟨rfl, .inl ⟨rfl, rfl⟩⟩, by simp, by simp, Kp.refl _ _⟩
      case round =>
        obtain ⟨k, aA, cA, rws, hk, rfl, hrl, hb, hrow, hcs, hmade, hkp⟩ := hrel
        have hszr := hkp.size
        have HB := Lib.hid hb
        have HR := Lib.hid hrow
        have HCS := Lib.hid hcs
        have HMD := Lib.hid hmade
        have HRL := Lib.hid hrl
        have hqg : ∀ g, (Value.slice aA k cA).ownBlock = some g → q + 1 ≤ g ∧ g < wr.heap.size := fun g hg => Go.Kq.own_ge hrow hg
        clear hb hrow hcs hmade hrl
        have ho3r := hkp.owns HO3.out fun g hg e => by have e : g = q := e; have := ho3q g hg; omega
        by_cases hltk : k < D
        · obtain ⟨d, hdk⟩ := (HML k hltk).out
          obtain ⟨g2, rfl⟩ := ha2 (by omega)
          have hcd : wr.cell? ⟨g2, k, none⟩ = some (.int .i64 (d : Int)) := Go.Kq.own_cell ho3r (by rw [List.getElem?_map, hdk]; rfl)
          have hd6 := ((HDV.out d).1 (List.mem_of_getElem? hdk)).1
          have HTK := Lib.hid (show (divs xs).take (k + 1) = (divs xs).take k ++ [d] by rw [List.take_add_one, hdk]; rfl)
          have HXR := Lib.hid (hx.no hk03)
          clear hdk ho3r
          go_wp2_with fail
          clear hcd
          refine wp_region_each (fun ix u => match ix with
            | 0 => u = .slice aA k cA | 1 => u = .slice A n ca | 2 => u = .slice Y m cb | 3 => u = .int .i64 (d : Int) | _ => True)
            (fun r w' => ∃ rw : Rw, Ap wr q (q + 1) 72 1 71 (fun v => #[v]) (.slice aA k cA) k 1 (rws.map Rw.sl) [rw.sl] 0 5 6 7 r w' ∧ (∀ u, r 4 = some u → u = rw.sl ∧ Made wr.heap.size xs ys d rw w') ∧ (r 5 ≠ none → r 4 ≠ none)) (by kernel_rfl) (by kernel_rfl) (by kernel_rfl) ?_ ?_ ?_
          · exact ⟨⟨none, 0, []⟩, Ap.start HB.out HR.out, fun u h => (by cases h), fun h => absurd rfl h⟩
          · refine ⟨?_, ?_, ?_, ?_, ?_, ?_, ?_, ?_, trivial⟩
            · intro r a w' hf hg hW hr hd K hK
              obtain ⟨rw', hW, h4, h5⟩ := hW
              refine wpOp_of rfl rfl ?_
              have e0 : a.tmps.getD 8 undef = .pointer (some ⟨q, 0, none⟩) := hf.evalFree (by kernel_rfl)
              have y0 : w'.cell? ⟨q, 0, none⟩ = some (.slice aA k cA) := cell_heap (hW.load hr) 0
              go_simp
              exact hK _ _ rfl ⟨rw', hW.upd 0 _ (by decide) (by decide) (by decide), fun u hu => h4 u (by rwa [upd_ne _ _ (by decide)] at hu), fun h => by rw [upd_ne _ _ (by decide)] at h ⊢; exact h5 h⟩
            · intro r a w' hf hg hW hr hd K hK
              obtain ⟨rw', hW, h4, h5⟩ := hW
              refine wpOp_of rfl rfl ?_
              have e0 : a.tmps.getD 0 undef = .slice A n ca := hf.evalFree (by kernel_rfl)
              go_simp
              exact hK _ _ rfl ⟨rw', hW.upd 1 _ (by decide) (by decide) (by decide), fun u hu => h4 u (by rwa [upd_ne _ _ (by decide)] at hu), fun h => by rw [upd_ne _ _ (by decide)] at h ⊢; exact h5 h⟩
            · intro r a w' hf hg hW hr hd K hK
              obtain ⟨rw', hW, h4, h5⟩ := hW
              refine wpOp_of rfl rfl ?_
              have e0 : a.tmps.getD 1 undef = .slice Y m cb := hf.evalFree (by kernel_rfl)
              go_simp
              exact hK _ _ rfl ⟨rw', hW.upd 2 _ (by decide) (by decide) (by decide), fun u hu => h4 u (by rwa [upd_ne _ _ (by decide)] at hu), fun h => by rw [upd_ne _ _ (by decide)] at h ⊢; exact h5 h⟩
            · intro r a w' hf hg hW hr hd K hK
              obtain ⟨rw', hW, h4, h5⟩ := hW
              refine wpOp_of rfl rfl ?_
              have e0 : a.tmps.getD 10 undef = .int .i64 (d : Int) := hf.evalFree (by kernel_rfl)
              go_simp
              exact hK _ _ rfl ⟨rw', hW.upd 3 _ (by decide) (by decide) (by decide), fun u hu => h4 u (by rwa [upd_ne _ _ (by decide)] at hu), fun h => by rw [upd_ne _ _ (by decide)] at h ⊢; exact h5 h⟩
            · intro r a w' hf hg hW hr hd K hK
              obtain ⟨rw', hW, h4, h5⟩ := hW
              have hr5 : r 5 = none := by
                cases h : r 5 with
                | none => rfl
                | some u => exact absurd hr (h5 (by rw [h]; simp))
              refine wpOp_of rfl rfl ?_
              refine hf.depE hg hd 1 34 (by kernel_rfl) fun u0 e0 g0 _ => ?_
              replace g0 : u0 = .slice A n ca := g0
              subst g0
              refine hf.depE hg hd 2 35 (by kernel_rfl) fun u1 e1 g1 _ => ?_
              replace g1 : u1 = .slice Y m cb := g1
              subst g1
              refine hf.depE hg hd 3 36 (by kernel_rfl) fun u2 e2 g2 _ => ?_
              replace g2 : u2 = .int .i64 (d : Int) := g2
              subst g2
              have hkw : Kp (fun g => w.heap.size ≤ g) w w' := (((hk03.of_no (S := fun g => w.heap.size ≤ g)).trans hkp fun g hg e => by have e : g = q := e; omega).trans hW.kp fun g hg e => by
                rcases e with e | e
                · omega
                · have := hqg g e; omega)
              have hkn : Kp No w w' := hkw.mono fun g hg h => by have h : w.heap.size ≤ g := h; omega
              go_simp
              refine (choices_any A Y n m ca cb xs ys d w' (hx.no hkn) (hy.no hkn) (by omega) (by omega) GX.out GY.out ⟨by omega, by omega⟩).mono ?_
              rintro e w'' ⟨v, chs, rfl, hc1, hc2, hc3, hc4⟩
              obtain ⟨av, cv, rfl, _⟩ := Go.Kq.own_form hc2
              have hz := hW.kp.size
              refine hK _ _ trivial ⟨⟨av, cv, chs⟩, ((hW.call hc4).renew hr5).upd 4 _ (by decide) (by decide) (by decide), fun u hu => ?_, fun _ => by rw [upd_same]; simp⟩
              rw [upd_same] at hu
              cases hu
              exact ⟨rfl, hc1, own_mono hc2 hz, fun x hx => own_mono (hc3 x hx) hz⟩
            · intro r a w' hf hg hW hr hd K hK
              obtain ⟨rw', hW, h4, h5⟩ := hW
              refine wpOp_of rfl rfl ?_
              refine hf.depE hg hd 4 37 (by kernel_rfl) fun u0 e0 _ h0 => ?_
              obtain ⟨rfl, hmd⟩ := h4 u0 h0
              unfold Rw.sl at e0
              have e0' := get_of_getD e0
              go_simp
              exact hK _ _ trivial ⟨rw', hW.lay hr (by decide) rfl (by unfold maxLen; omega) rfl, fun u hu => by rw [upd_ne _ _ (by decide)] at hu; obtain ⟨b1, b2⟩ := h4 u hu; exact ⟨b1, b2.kp (Kp.alloc No _ _) fun _ _ h => h⟩, fun _ => by rw [upd_ne _ _ (by decide), h0]; simp⟩
            · intro r a w' hf hg hW hr hd K hK
              obtain ⟨rw', hW, h4, h5⟩ := hW
              refine wpOp_of rfl rfl ?_
              refine hf.depE hg hd 0 33 (by kernel_rfl) fun u0 e0 g0 h0 => ?_
              replace g0 : u0 = .slice aA k cA := g0
              subst g0
              refine hf.depE hg hd 5 38 (by kernel_rfl) fun u1 e1 _ h1 => ?_
              obtain ⟨g, rfl, hgz, hgc⟩ := hW.made _ h1 hr
              refine wpo_append _ _ 71 rfl (q + 1) 72 i1 (.slice none 0 0) 1 24 Try.underlying71 hi1 hy0 hy1 hy2 rfl (by decide) (.slice aA k cA) k _ e0 (hW.row hr) ⟨g, 0, none⟩ 1 1 [rw'.sl] e1 rfl (fun jj uu hjj => by rw [add_at, Nat.zero_add]; exact hgc jj uu hjj) (fun u hu => by simp at hu; rw [hu]; rfl) (by unfold maxLen; omega) (by omega) (by have := hW.kp.size; omega) ?_
              intro v' w7 hown' hgrow hat
              exact hK _ _ trivial ⟨rw', hW.app (fun e => by have := hqg q e; omega) hr (by rw [h0]; simp) (by rw [h1]; simp) (by decide) hown' hgrow hat, fun u hu => by
                rw [upd_ne _ _ (by decide)] at hu
                obtain ⟨b1, b2⟩ := h4 u hu
                exact ⟨b1, b2.kp (Kp.grown (S := fun g => (Value.slice aA k cA).ownBlock = some g) hgrow fun g hg _ => hg) fun g hg e => by have := hqg g e; omega⟩, fun h => by rw [upd_ne _ _ (by decide)] at h ⊢; exact h5 h⟩
            · intro r a w' hf hg hW hr hd K hK
              obtain ⟨rw', hW, h4, h5⟩ := hW
              refine wpOp_of rfl rfl ?_
              have e0 : a.tmps.getD 8 undef = .pointer (some ⟨q, 0, none⟩) := hf.evalFree (by kernel_rfl)
              refine hf.depE hg hd 6 39 (by kernel_rfl) fun u1 e1 _ h1 => ?_
              obtain ⟨a7, c7, hu1, _⟩ := Go.Kq.own_form (hW.done _ h1).2.2.1
              subst hu1
              have y0 : w'.cell? ⟨q, 0, none⟩ = some (.slice aA k cA) := cell_heap (hW.box hr) 0
              have y1 : w'.frozen? ⟨q, 0, none⟩ = false := free_heap (hW.box hr) 0
              go_simp
              exact hK undef _ trivial ⟨rw', hW.store hr h1 (by decide) 0 rfl undef, fun u hu => by
                rw [upd_ne _ _ (by decide)] at hu
                obtain ⟨b1, b2⟩ := h4 u hu
                exact ⟨b1, b2.kp (kp_setOne w' q 0 (.slice a7 (k + 1) c7)) fun g hg e => by have e : g = q := e; omega⟩, fun h => by rw [upd_ne _ _ (by decide)] at h ⊢; exact h5 h⟩
          · intro r' w9 hg hW hr'
            obtain ⟨rw', hW, h4, _⟩ := hW
            obtain ⟨u4, hu4⟩ := Option.ne_none_iff_exists'.1 (hr' 4 (by decide))
            obtain ⟨_, hmd⟩ := h4 u4 hu4
            obtain ⟨u, hu6, ho9, hb9, hk9, hat9⟩ := hW.fin (hr' 7 (by decide))
            obtain ⟨a9, c9, rfl, _⟩ := Go.Kq.own_form ho9
            have hk9' : Kp (Kq.One q) w3 w9 := hkp.trans hk9 fun g hg e => by
              rcases e with e | e
              · exact e
              · have := hqg g e
                omega
            have HO9 := Lib.hid ho9
            have HB9 := Lib.hid hb9
            have HM9 := Lib.hid hmd
            have hm9 : ∀ r ∈ rws ++ [rw'], ∃ d, Made (q + 1) xs ys d r w9 := fun r hr => by
              rcases List.mem_append.1 hr with hr | hr
              · obtain ⟨d', hd'⟩ := HMD.out r hr
                exact ⟨d', hd'.app HR.out hk9 (by omega)⟩
              · simp at hr
                rw [hr]
                exact ⟨d, HM9.out.1, own_mono HM9.out.2.1 (by omega), fun x hx => own_mono (HM9.out.2.2 x hx) (by omega)⟩
            have HMM := Lib.hid hm9
            clear hg hW hr' h4 hu4 hmd hu6 ho9 hb9 hk9 hat9 hm9
            simp only [List.length_cons, List.length_nil, Nat.reduceAdd, List.range_succ, List.range_zero, List.nil_append, List.cons_append, List.map_cons, List.map_nil, putAll, Act.put, List.setIfInBounds_toArray, List.set_cons_succ, List.set_cons_zero]
            go_wp2
            go_roundw
            case rel => exact ⟨k + 1, a9, c9, rws ++ [rw'], by omega, by go_num, by rw [List.length_append, HRL.out]; rfl, HB9.out, by rw [List.map_append]; exact HO9.out, by rw [HTK.out, List.map_append, List.map_append, HCS.out]; simp [HM9.out.1], HMM.out, hk9'⟩
            case measure => simp [intOf]; omega
        · obtain rfl : k = D := by omega
          have HAL := Lib.hid (show rws.map Rw.cs = allC xs ys by rw [HCS.out, HTD.out]; rfl)
          obtain ⟨a1, a2', a3, hk3⟩ := three wr (.cells #[.slice a2 k c2, .slice none 0 0, .slice none 0 0, .int .i64 (-1)] 51) (.cells #[.slice none 0 0] 72) (.cells #[.nilFunc] 74)
          have hst := fun (w : World) (a : Addr) (f : Fn) ts cs => run_store Try.prog w a (.func f ts cs) .plain rfl
          have b3 := cell_of_one a3
          have f3 := free_of_one a3
          have HO3R := Lib.hid ho3r
          clear a1 a2' a3 ho3r hk3
          go_wp2_with fail
          clear b3 f3 hst
          obtain ⟨o, ho⟩ : ∃ o, o = wr.heap.size := ⟨_, rfl⟩
          obtain ⟨a1, a2', a3, hk3⟩ := three wr (.cells #[.slice a2 k c2, .slice none 0 0, .slice none 0 0, .int .i64 (-1)] 51) (.cells #[.slice none 0 0] 72) (.cells #[tryV q wr.heap.size] 74)
          have hsW : wr.heap.size + 3 ≤ (((wr.alloc (.cells #[.slice a2 k c2, .slice none 0 0, .slice none 0 0, .int .i64 (-1)] 51)).alloc (.cells #[.slice none 0 0] 72)).alloc (.cells #[tryV q wr.heap.size] 74)).heap.size := by simp
          change Calls Try.prog 41 _ (((wr.alloc (.cells #[.slice a2 k c2, .slice none 0 0, .slice none 0 0, .int .i64 (-1)] 51)).alloc (.cells #[.slice none 0 0] 72)).alloc (.cells #[tryV q wr.heap.size] 74)) _
          generalize ((wr.alloc (.cells #[.slice a2 k c2, .slice none 0 0, .slice none 0 0, .int .i64 (-1)] 51)).alloc (.cells #[.slice none 0 0] 72)).alloc (.cells #[tryV q wr.heap.size] 74) = W at a1 a2' a3 hk3 hsW ⊢
          rw [← ho] at a1 a2' a3 hsW ⊢
          have hqo : q < o := by omega
          have hRS : RS q o (q + 1) aA cA (.slice a2 k c2) rws [] ⟨-1, [], []⟩ W := by
            refine ⟨⟨hqo, by rw [HRL.out]; exact hk3.heap HB.out id, by rw [HRL.out]; exact hk3.owns HR.out fun _ _ h => h, fun g hg => by rw [HRL.out] at hg; rw [ho]; exact (hqg g hg).2, fun r hr => ?_, fun r hr x hx => ?_⟩, hsW, ⟨_, _, a1, ⟨rfl, .inl ⟨rfl, rfl⟩⟩, ⟨rfl, .inl ⟨rfl, rfl⟩⟩⟩, ⟨_, a2', ⟨rfl, .inl ⟨rfl, rfl⟩⟩⟩, a3⟩
            · obtain ⟨d, hm⟩ := HMD.out r hr
              exact ⟨hk3.owns hm.2.1 fun _ _ h => h, fun g hg => by rw [ho]; exact (Go.Kq.own_ge hm.2.1 hg).2⟩
            · obtain ⟨d, hm⟩ := HMD.out r hr
              exact ⟨hk3.owns (hm.2.2 x hx) fun _ _ h => h, fun g hg => by rw [ho]; exact (Go.Kq.own_ge (hm.2.2 x hx) hg).2⟩
          have hch : ∀ r ∈ rws, r.chs.length ≤ 7 ∧ ∀ x ∈ r.chs, 0 ≤ x.c.cost ∧ x.c.cost ≤ 560000000 ∧ x.c.stops.length ≤ 14 := fun r hr => by
            have hin : r.cs ∈ allC xs ys := by rw [← HAL.out]; exact List.mem_map.2 ⟨r, hr, rfl⟩
            refine ⟨?_, fun x hx => (allC_facts (by omega) (by omega) GX.out GY.out).1 _ hin _ (List.mem_map.2 ⟨x, hx, rfl⟩)⟩
            obtain ⟨f, _, hf⟩ := List.mem_map.1 hin
            have h1 := congrArg List.length hf
            have h2 := tos_len ys
            unfold chos Rw.cs at h1
            rw [List.length_map, List.length_map] at h1
            omega
          have HRS := Lib.hid hRS
          clear hRS a1 a2' a3 ho
          refine (rtry_any q o (q + 1) aA cA (.slice a2 k c2) rws (by rw [HRL.out]; exact hD4) hch (k + 1) [] 0 ⟨-1, [], []⟩ W (by rw [HRL.out]; simp) (by simp) (by simp) (by omega) (by simp) HRS.out).mono ?_
          rintro e w5 ⟨rfl, hR5, hk5⟩
          have hres : resR rws [] 0 ⟨-1, [], []⟩ = bestR (allC xs ys) := by
            unfold resR bestR
            rw [← HAL.out]
            rfl
          rw [hres, ← HRr.out] at hR5
          obtain ⟨vT, vS, b1, b2, b3⟩ := hR5.out
          obtain ⟨aT, cT, rfl, _⟩ := Go.Kq.own_form b2
          obtain ⟨aS, cS, rfl, _⟩ := Go.Kq.own_form b3
          have hkr5 : Kp (fun g => q ≤ g) w3 w5 := ((hkp.mono fun g _ e => (by have e : g = q := e; omega : q ≤ g)).no hk3).tr (hk5.mono fun g _ e => by have e : o ≤ g := e; omega)
          have hb5 := hkr5.heap HB3.out (by omega)
          have ho5 := hkr5.owns HO3.out fun g hg e => by have := ho3q g hg; omega
          have q0 : w5.cell? ⟨o, 0, none⟩ = some (.slice a2 k c2) := cell_heap b1 0
          have q1 : w5.cell? ⟨o, 1, none⟩ = some (.slice aT R.to.length cT) := cell_heap b1 1
          have q2 : w5.cell? ⟨o, 2, none⟩ = some (.slice aS R.stops.length cS) := cell_heap b1 2
          have q3 : w5.cell? ⟨o, 3, none⟩ = some (.int .i64 R.cost) := cell_heap b1 3
          have o0 : w5.cell? ⟨w.heap.size, 0, none⟩ = some (.slice none 0 0) := cell_heap hb5 0
          have o1 : w5.cell? ⟨w.heap.size, 1, none⟩ = some (.slice none 0 0) := cell_heap hb5 1
          have o2 : w5.cell? ⟨w.heap.size, 2, none⟩ = some (.slice none 0 0) := cell_heap hb5 2
          have o3 : w5.cell? ⟨w.heap.size, 3, none⟩ = some (.int .i64 0) := cell_heap hb5 3
          have f0 := free_heap hb5 0
          have f1 := free_heap hb5 1
          have f2 := free_heap hb5 2
          have f3 := free_heap hb5 3
          have HB5 := Lib.hid hb5
          have HO5 := Lib.hid ho5
          have HT5 := Lib.hid b2
          have HS5 := Lib.hid b3
          have hk05 : Kp No w w5 := (hk03.of_no (S := fun g => w.heap.size < g)).trans hkr5 (fun g hg e => by have e : q ≤ g := e; omega) |>.mono fun g hg e => by have e : w.heap.size < g := e; omega
          clear b1 b2 b3 hb5 ho5 hkr5 hR5 hk5 hch hres
          go_wp2_with fail
          have hb9 := set4 (y0 := .slice a2 k c2) (y1 := .slice aT R.to.length cT) (y2 := .slice aS R.stops.length cS) (y3 := .int .i64 R.cost) HB5.out
          have hk9' := kp4 w5 w.heap.size (.slice a2 k c2) (.slice aT R.to.length cT) (.slice aS R.stops.length cS) (.int .i64 R.cost)
          have hk9 : Kp No w _ := hk05.trans hk9' fun g hg e => by have e : g = w.heap.size := e; omega
          clear q0 q1 q2 q3 o0 o1 o2 o3 f0 f1 f2 f3
          generalize (((w5.setCell ⟨w.heap.size, 0, none⟩ (.slice a2 k c2)).setCell ⟨w.heap.size, 1, none⟩ (.slice aT R.to.length cT)).setCell ⟨w.heap.size, 2, none⟩ (.slice aS R.stops.length cS)).setCell ⟨w.heap.size, 3, none⟩ (.int .i64 R.cost) = w9 at hb9 hk9 hk9' ⊢
          have m1 := hk9'.owns HO5.out fun g hg e => by have e : g = w.heap.size := e; have := (Go.Kq.own_ge HO5.out hg).1; omega
          have m2 := hk9'.owns HT5.out fun g hg e => by have e : g = w.heap.size := e; have := (Go.Kq.own_ge HT5.out hg).1; omega
          have m3 := hk9'.owns HS5.out fun g hg e => by have e : g = w.heap.size := e; have := (Go.Kq.own_ge HS5.out hg).1; omega
          have hmm : RtM w.heap.size (.slice a2 k c2) (.slice aT R.to.length cT) (.slice aS R.stops.length cS) ⟨divs xs, R, 0⟩ w9 := by
            refine ⟨?_, ?_, ?_⟩
            · show w9.ownsRow w.heap.size 3 1 (.slice a2 k c2) (divs xs).length ((divs xs).map natV)
              rw [← HDD.out]
              exact own_mono m1 (by omega)
            · exact own_mono m2 (by omega)
            · exact own_mono m3 (by omega)
          have HMM := Lib.hid hmm
          clear m1 m2 m3 hmm
          have p0 : w9.cell? ⟨w.heap.size, 0, none⟩ = some (.slice a2 k c2) := cell_heap hb9 0
          have p1 : w9.cell? ⟨w.heap.size, 1, none⟩ = some (.slice aT R.to.length cT) := cell_heap hb9 1
          have p2 : w9.cell? ⟨w.heap.size, 2, none⟩ = some (.slice aS R.stops.length cS) := cell_heap hb9 2
          have p3 : w9.cell? ⟨w.heap.size, 3, none⟩ = some (.int .i64 R.cost) := cell_heap hb9 3
          exact bodyPost_ret (v := .tuple #[.agg #[.slice a2 k c2, .slice aT R.to.length cT, .slice aS R.stops.length cS, .int .i64 R.cost], .int .i64 0]) (by simp [results, Try.results25, go_sem, p0, p1, p2, p3]) rfl ⟨_, _, _, rfl, HMM.out, hk9⟩
  · have hv : routeV xs ys = ⟨[], ⟨0, [], []⟩, chk xs ys 14⟩ := by unfold routeV; rw [if_pos he]
    rw [hv]
    have heb : (chk xs ys 14 == 0) = false := by rw [beq_eq_false_iff_ne]; exact he
    clear hv
    go_enter Try.func25, Try.ntmps25
    go_wp2_with fail
    refine (check_any A Y n m ca cb xs ys 14 _ (hx.no (Kp.alloc _ _ _)) (hy.no (Kp.alloc _ _ _)) (by omega)).mono ?_
    rintro e w2 ⟨rfl, hk1⟩
    have hb := hk1.heap (heap_alloc_new w (.cells #[.slice none 0 0, .slice none 0 0, .slice none 0 0, .int .i64 0] 51)) id
    have HB := Lib.hid hb
    have o0 : w2.cell? ⟨w.heap.size, 0, none⟩ = some (.slice none 0 0) := cell_heap hb 0
    have o1 : w2.cell? ⟨w.heap.size, 1, none⟩ = some (.slice none 0 0) := cell_heap hb 1
    have o2 : w2.cell? ⟨w.heap.size, 2, none⟩ = some (.slice none 0 0) := cell_heap hb 2
    have o3 : w2.cell? ⟨w.heap.size, 3, none⟩ = some (.int .i64 0) := cell_heap hb 3
    have f0 := free_heap hb 0
    have f1 := free_heap hb 1
    have f2 := free_heap hb 2
    have f3 := free_heap hb 3
    clear hb
    go_wp2_with fail
    have hb9 := set4 (y0 := .slice none 0 0) (y1 := .slice none 0 0) (y2 := .slice none 0 0) (y3 := .int .i64 0) HB.out
    have hk9 := ((Kp.alloc No w (.cells #[.slice none 0 0, .slice none 0 0, .slice none 0 0, .int .i64 0] 51)).tr hk1).trans (kp4 w2 w.heap.size (.slice none 0 0) (.slice none 0 0) (.slice none 0 0) (.int .i64 0)) fun g hg e => by have e : g = w.heap.size := e; omega
    generalize (((w2.setCell ⟨w.heap.size, 0, none⟩ (.slice none 0 0)).setCell ⟨w.heap.size, 1, none⟩ (.slice none 0 0)).setCell ⟨w.heap.size, 2, none⟩ (.slice none 0 0)).setCell ⟨w.heap.size, 3, none⟩ (.int .i64 0) = w9 at hb9 hk9 ⊢
    have p0 : w9.cell? ⟨w.heap.size, 0, none⟩ = some (.slice none 0 0) := cell_heap hb9 0
    have p1 : w9.cell? ⟨w.heap.size, 1, none⟩ = some (.slice none 0 0) := cell_heap hb9 1
    have p2 : w9.cell? ⟨w.heap.size, 2, none⟩ = some (.slice none 0 0) := cell_heap hb9 2
    have p3 : w9.cell? ⟨w.heap.size, 3, none⟩ = some (.int .i64 0) := cell_heap hb9 3
    exact bodyPost_ret (v := .tuple #[.agg #[.slice none 0 0, .slice none 0 0, .slice none 0 0, .int .i64 0], .int .i64 (chk xs ys 14)]) (by simp [results, Try.results25, go_sem, p0, p1, p2, p3]) rfl ⟨_, _, _, rfl, rtm_nil _ _ _ _, hk9⟩
end Go.Proofs.Ytfflhlmnfhfcgaa
