/- Chapter 33: the closure that tries all ways of playing the divisions: its walk. -/
import Derived.Test.YtfflhlmnfhfcgaaXRtF
import Derived.Test.YtfflhlmnfhfcgaaXRtS
namespace Go.Proofs.Ytfflhlmnfhfcgaa
open Go.RowKit Go.Kq

theorem cell_heap {w : World} {b : Nat} {cs : Array Value} {t : TypeId} {m : Nat × Nat} (h : w.heap[b]? = some (.cells cs t m)) (k : Nat) : w.cell? ⟨b, k, none⟩ = cs[k]? := by simp [World.cell?, h]
theorem free_heap {w : World} {b : Nat} {cs : Array Value} {t : TypeId} (h : w.heap[b]? = some (.cells cs t (0, 0))) (k : Nat) : w.frozen? ⟨b, k, none⟩ = false := by simp [World.frozen?, h]
theorem goR_cons (cs : List Cc) (rest : List (List Cc)) (L : List Cc) (sum : Int) (s : Rs) : goR (cs :: rest) L sum s = cs.foldl (fun s x => if clash L x then s else goR rest (L ++ [x]) (sum + x.cost) s) s := rfl
theorem flat_stops_len {L : List Ch} (h : ∀ x ∈ L, x.c.stops.length ≤ 14) : (L.flatMap fun x => x.c.stops).length ≤ 14 * L.length := by
  induction L with
  | nil => simp
  | cons x L ih =>
    have h1 := h x (by simp)
    have h2 := ih fun y hy => h y (by simp [hy])
    rw [List.flatMap_cons, List.length_append, List.length_cons]
    omega
def resR (rws : List Rw) (L : List Ch) (sum : Int) (s : Rs) : Rs := goR ((rws.drop L.length).map Rw.cs) (L.map Ch.c) sum s
set_option maxHeartbeats 4000000 in
set_option maxRecDepth 100000 in
theorem rtry_any (q o B0 : Nat) (aA : Option Addr) (cA : Nat) (fv : Value) (rws : List Rw) (hrw : rws.length ≤ 4) (hch : ∀ r ∈ rws, r.chs.length ≤ 7 ∧ ∀ x ∈ r.chs, 0 ≤ x.c.cost ∧ x.c.cost ≤ 560000000 ∧ x.c.stops.length ≤ 14) (fuel : Nat) : ∀ (L : List Ch) (sum : Int) (s : Rs) (w : World),
    rws.length - L.length < fuel → L.length ≤ rws.length → (∀ x ∈ L, ∃ r ∈ rws, x ∈ r.chs) → 0 ≤ sum → sum ≤ 560000000 * L.length → RS q o B0 aA cA fv rws L s w →
    Calls Try.prog 41 #[.int .i64 sum, .pointer (some ⟨o + 1, 0, none⟩), .pointer (some ⟨q, 0, none⟩), .pointer (some ⟨o, 0, none⟩), .pointer (some ⟨o + 1 + 1, 0, none⟩)] w
      fun e w' => e = .returned (.tuple #[]) ∧ RS q o B0 aA cA fv rws L (resR rws L sum s) w' ∧ Kp (fun k => o ≤ k) w w' := by
  obtain ⟨i0, hi0, hz0, hz1, hz2⟩ := info_parts info3
  obtain ⟨i1, hi1, hy0, hy1, hy2⟩ := info_parts info76
  have HCH := Lib.hid hch
  clear hch
  induction fuel with
  | zero =>
    intro L sum s w hk
    omega
  | succ fuel ih =>
  intro L sum s w hfu hlen hmem hs0 hs1 hR
  have IH := Lib.hid ih
  have HM := Lib.hid hmem
  clear ih hmem
  have HR := Lib.hid hR
  clear hR
  obtain ⟨vT, vS, a1, a2, a3⟩ := HR.out.out
  obtain ⟨vL, b1, b2⟩ := HR.out.lst
  obtain ⟨al, cl, rfl, hcl, _, hal⟩ := Go.Kq.own_form b2
  have dl := cell_of_one b1
  have dA := cell_of_one HR.out.fix.box
  have B1 := Lib.hid b1
  have B2 := Lib.hid b2
  have A1 := Lib.hid a1
  have hsz := HR.out.size
  have hqo := HR.out.fix.qo
  clear a2 a3 b1 b2
  obtain ⟨N, hN⟩ : ∃ N, N = rws.length := ⟨_, rfl⟩
  rw [← hN] at dA hlen hrw hfu
  have HN := Lib.hid hN
  clear hN
  by_cases hleaf : L.length = N
  · have hlb : ((L.length : Int) == (N : Int)) = true := by rw [beq_iff_eq]; omega
    have HG := Lib.hid (show resR rws L sum s = updR s (L.map Ch.c) sum by unfold resR; rw [hleaf, HN.out, List.drop_length]; rfl)
    have hlN := Nat.le_of_eq hleaf
    have hlN' := Nat.le_of_eq hleaf.symm
    clear hleaf
    have o0 : w.cell? ⟨o, 0, none⟩ = some fv := cell_heap a1 0
    have o1 : w.cell? ⟨o, 1, none⟩ = some vT := cell_heap a1 1
    have o2 : w.cell? ⟨o, 2, none⟩ = some vS := cell_heap a1 2
    have o3 : w.cell? ⟨o, 3, none⟩ = some (.int .i64 s.cost) := cell_heap a1 3
    have f1 := free_heap a1 1
    have f2 := free_heap a1 2
    have f3 := free_heap a1 3
    clear a1
    by_cases hc0 : s.cost < 0
    · have HU := Lib.hid (show updR s (L.map Ch.c) sum = ⟨sum, (L.map Ch.c).map Cc.to, srt ((L.map Ch.c).flatMap Cc.stops)⟩ by unfold updR; rw [if_pos (.inl hc0)])
      go_enter Try.func41, Try.ntmps41
      go_wp2_with fail
      obtain ⟨w1, hw1⟩ : ∃ w1, w1 = ((w.setCell ⟨o, 3, none⟩ (.int .i64 sum)).setCell ⟨o, 1, none⟩ (.slice none 0 0)).setCell ⟨o, 2, none⟩ (.slice none 0 0) := ⟨_, rfl⟩
      rw [← hw1]
      have k1 : Kp (fun k => k = o) w w1 := by rw [hw1]; exact ((kp_setOne w o 3 _).tr (kp_setOne _ o 1 _)).tr (kp_setOne _ o 2 _)
      have h1 : w1.heap[o]? = some (.cells #[fv, .slice none 0 0, .slice none 0 0, .int .i64 sum] 51 (0, 0)) := by
        rw [hw1]
        simp [World.setCell, Array.getElem?_modify, A1.out]
      have R1 := Lib.hid (HR.out.found (s' := ⟨sum, [], []⟩) k1 (fun k _ h => h) h1 ⟨rfl, .inl ⟨rfl, rfl⟩⟩ ⟨rfl, .inl ⟨rfl, rfl⟩⟩)
      have L1 := Lib.hid (k1.owns B2.out fun g hg e => by have e : g = o := e; have := (Go.Kq.own_ge B2.out hg).1; omega)
      have H1 := Lib.hid h1
      have hsz1 := k1.size
      have K1 := Lib.hid k1
      clear hw1 k1 h1 o0 o1 o2 o3 f1 f2 f3 dA dl
      go_loopw [30] (fun vi wr => ∃ j : Nat, j ≤ L.length ∧ vi = .int .i64 j ∧ ∃ uT uS, wr.heap[o]? = some (.cells #[fv, uT, uS, .int .i64 sum] 51 (0, 0)) ∧ wr.ownsRow w1.heap.size 3 1 uT j (((L.take j).map fun x => x.c.to).map (Value.int .i64)) ∧ wr.ownsRow w1.heap.size 3 1 uS ((L.take j).flatMap fun x => x.c.stops).length (((L.take j).flatMap fun x => x.c.stops).map natV) ∧ (∀ g, uT.ownBlock = some g → uS.ownBlock ≠ some g) ∧ Kp (fun k => k = o) w1 wr) (fun vi _ => L.length - (intOf vi).toNat)
      case atStart => exact ⟨0, by omega, rfl, .slice none 0 0, .slice none 0 0, H1.out, ⟨rfl, .inl ⟨rfl, rfl⟩⟩, ⟨rfl, .inl ⟨rfl, rfl⟩⟩, fun g hg => (by cases hg), Kp.refl _ _⟩
      case round =>
        obtain ⟨j, hj, rfl, uT, uS, hb, hT, hS, hap, hkp⟩ := hrel
        have hTg : ∀ g, uT.ownBlock = some g → w1.heap.size ≤ g := fun g hg => (Go.Kq.own_ge hT hg).1
        have hSg : ∀ g, uS.ownBlock = some g → w1.heap.size ≤ g := fun g hg => (Go.Kq.own_ge hS hg).1
        have hSz : ∀ g, uS.ownBlock = some g → g < wr.heap.size := fun g hg => (Go.Kq.own_ge hS hg).2
        obtain ⟨aT, cT, rfl, _, _, _⟩ := Go.Kq.own_form hT
        have hst : ((L.take j).flatMap fun x => x.c.stops).length ≤ 56 := by
          have h := flat_stops_len (L := L.take j) fun x hx => by obtain ⟨r, hr, hx'⟩ := HM.out x (List.mem_of_mem_take hx); exact ((HCH.out r hr).2 x hx').2.2
          have h2 := List.length_take_le j L
          omega
        have hnS := Lib.hid (rfl : ((L.take j).flatMap fun x => x.c.stops).length = ((L.take j).flatMap fun x => x.c.stops).length)
        generalize hgn : ((L.take j).flatMap fun x => x.c.stops).length = nS at hS hst
        replace hnS := Lib.hid hgn
        clear hgn
        obtain ⟨aS, cS, rfl, _, _, _⟩ := Go.Kq.own_form hS
        have HB := Lib.hid hb
        have HT := Lib.hid hT
        have HS := Lib.hid hS
        have HAP := Lib.hid hap
        have hszr := hkp.size
        clear hb hT hS hap
        have lr := hkp.owns L1.out fun g hg e => by have e : g = o := e; have := (Go.Kq.own_ge L1.out hg).1; omega
        by_cases hlt : j < L.length
        · obtain ⟨x, hx⟩ : ∃ x, L[j]? = some x := ⟨_, List.getElem?_eq_getElem hlt⟩
          obtain ⟨r, hr, hxr⟩ := HM.out x (List.mem_of_getElem? hx)
          obtain ⟨gl, rfl, _, hgl, _, hcl3⟩ := Go.Kq.own_at ch_len lr hx (by omega)
          have c0 := (hcl3 0 (.int .i64 x.c.to) rfl).1
          have c1 := (hcl3 1 (.slice x.a x.c.stops.length x.cap) rfl).1
          have c2 := (hcl3 2 (.int .i64 x.c.cost) rfl).1
          have hxs := ((HCH.out r hr).2 x hxr).2.2
          obtain ⟨hxo, hxg⟩ := (R1.out.fix.kp hkp fun k h => by have h : k = o := h; omega).stop r hr x hxr
          have XO := Lib.hid hxo
          have HTK := Lib.hid (show L.take (j + 1) = L.take j ++ [x] by rw [List.take_add_one, hx]; rfl)
          rw [Nat.add_zero] at c0
          clear hx hxr hcl3 hxo lr
          go_wp2_with fail
          obtain ⟨wb, hwb⟩ : ∃ wb, wb = wr.alloc (.cells #[.int .i64 x.c.to, .slice x.a x.c.stops.length x.cap, .int .i64 x.c.cost] 76) := ⟨_, rfl⟩
          obtain ⟨bx, hbx⟩ : ∃ bx, bx = wr.heap.size := ⟨_, rfl⟩
          rw [← hwb, ← hbx]
          have hbb : wb.heap[bx]? = some (.cells #[.int .i64 x.c.to, .slice x.a x.c.stops.length x.cap, .int .i64 x.c.cost] 76 (0, 0)) := by rw [hwb, hbx]; exact heap_alloc_new _ _
          have hkb : Kp No wr wb := by rw [hwb]; exact Kp.alloc _ _ _
          have hszb : bx + 1 ≤ wb.heap.size ∧ wr.heap.size ≤ bx ∧ bx ≤ wr.heap.size := ⟨by rw [hwb, hbx]; simp, by omega, by omega⟩
          clear hwb hbx
          have y0 : wb.cell? ⟨bx, 0, none⟩ = some (.int .i64 x.c.to) := cell_heap hbb 0
          have y1 : wb.cell? ⟨bx, 1, none⟩ = some (.slice x.a x.c.stops.length x.cap) := cell_heap hbb 1
          have hne : ∀ g, (g = o ∨ (Value.slice aT j cT).ownBlock = some g ∨ (Value.slice aS nS cS).ownBlock = some g) → g < bx ∧ (g = o ∨ w1.heap.size ≤ g) := fun g hg => by
            rcases hg with hg | hg | hg
            · omega
            · have := Go.Kq.own_ge HT.out hg
              omega
            · have := Go.Kq.own_ge HS.out hg
              omega
          have y0' : ∀ w', Kp (fun g => g = o ∨ (Value.slice aT j cT).ownBlock = some g ∨ (Value.slice aS nS cS).ownBlock = some g) wb w' → w'.cell? ⟨bx, 0, none⟩ = some (.int .i64 x.c.to) := fun w' k => k.cell y0 fun e => by have h := hne bx e; omega
          have y1' : ∀ w', Kp (fun g => g = o ∨ (Value.slice aT j cT).ownBlock = some g ∨ (Value.slice aS nS cS).ownBlock = some g) wb w' → w'.cell? ⟨bx, 1, none⟩ = some (.slice x.a x.c.stops.length x.cap) := fun w' k => k.cell y1 fun e => by have h := hne bx e; omega
          have xo : ∀ w', Kp (fun g => g = o ∨ (Value.slice aT j cT).ownBlock = some g ∨ (Value.slice aS nS cS).ownBlock = some g) wb w' → w'.ownsRow B0 3 1 (.slice x.a x.c.stops.length x.cap) x.c.stops.length (x.c.stops.map natV) := fun w' k => k.owns (hkb.owns XO.out fun _ _ h => h) fun g hg e => by have h := hne g e; have := hxg g hg; omega
          have Y0 := Lib.hid y0'
          have Y1 := Lib.hid y1'
          have XOW := Lib.hid xo
          have hapb := HAP.out
          clear y0 y1 y0' y1' xo hbb c0 c1 c2
          refine wp_region_each (fun ix u => match ix with
            | 0 => u = .pointer (some ⟨o, 1, none⟩) | 1 => u = .slice aT j cT | 2 => u = .pointer (some ⟨bx, 0, none⟩) | 3 => u = .int .i64 x.c.to | 6 => u = .pointer (some ⟨o, 2, none⟩) | 7 => u = .slice aS nS cS | 8 => u = .pointer (some ⟨bx, 1, none⟩) | 9 => u = .slice x.a x.c.stops.length x.cap | 11 => u = .pointer (some ⟨o, 1, none⟩) | 13 => u = .pointer (some ⟨o, 2, none⟩) | _ => True)
            (A2 wb o w1.heap.size fv (.int .i64 sum) (.slice aT j cT) (.slice aS nS cS) j nS x.c.stops.length (((L.take j).map fun x => x.c.to).map (Value.int .i64)) (((L.take j).flatMap fun x => x.c.stops).map natV) [.int .i64 x.c.to] (x.c.stops.map natV)) (by kernel_rfl) (by kernel_rfl) (by kernel_rfl) ?_ ?_ ?_
          · exact A2.start (hkb.heap HB.out id) (hkb.owns HT.out fun _ _ h => h) (hkb.owns HS.out fun _ _ h => h) hapb (fun e => by have := hTg o e; omega) (fun e => by have := hSg o e; omega)
          · refine ⟨?_, ?_, ?_, ?_, ?_, ?_, ?_, ?_, ?_, ?_, ?_, ?_, ?_, ?_, ?_, trivial⟩
            · intro r a w' hf hg hW hr hd K hK
              refine wpOp_of rfl rfl ?_
              have e0 : a.tmps.getD 3 undef = .pointer (some ⟨o, 0, none⟩) := hf.evalFree (by kernel_rfl)
              go_simp
              exact hK _ _ rfl (hW.upd 0 _ (by decide))
            · intro r a w' hf hg hW hr hd K hK
              refine wpOp_of rfl rfl ?_
              refine hf.depE hg hd 0 34 (by kernel_rfl) fun u0 e0 g0 _ => ?_
              replace g0 : u0 = .pointer (some ⟨o, 1, none⟩) := g0
              subst g0
              have y0 := hW.load1 hr
              go_simp
              exact hK _ _ rfl (hW.upd 1 _ (by decide))
            · intro r a w' hf hg hW hr hd K hK
              refine wpOp_of rfl rfl ?_
              have e0 : a.tmps.getD 7 undef = .pointer (some ⟨bx, 0, none⟩) := hf.evalFree (by kernel_rfl)
              go_simp
              exact hK _ _ rfl (hW.upd 2 _ (by decide))
            · intro r a w' hf hg hW hr hd K hK
              refine wpOp_of rfl rfl ?_
              refine hf.depE hg hd 2 36 (by kernel_rfl) fun u0 e0 g0 _ => ?_
              replace g0 : u0 = .pointer (some ⟨bx, 0, none⟩) := g0
              subst g0
              have y0 := Y0.out _ hW.kp
              go_simp
              exact hK _ _ rfl (hW.upd 3 _ (by decide))
            · intro r a w' hf hg hW hr hd K hK
              refine wpOp_of rfl rfl ?_
              refine hf.depE hg hd 3 37 (by kernel_rfl) fun u0 e0 g0 _ => ?_
              replace g0 : u0 = .int .i64 x.c.to := g0
              subst g0
              have e0' := get_of_getD e0
              go_simp
              exact hK _ _ trivial (hW.lay hr rfl rfl)
            · intro r a w' hf hg hW hr hd K hK
              refine wpOp_of rfl rfl ?_
              refine hf.depE hg hd 1 35 (by kernel_rfl) fun u0 e0 g0 h0 => ?_
              replace g0 : u0 = .slice aT j cT := g0
              subst g0
              refine hf.depE hg hd 4 38 (by kernel_rfl) fun u1 e1 _ h1 => ?_
              obtain ⟨g, rfl, hgz, hgc⟩ := hW.made _ h1 hr
              have hrow := hW.row1
              rw [hr] at hrow
              replace hrow : w'.ownsRow w1.heap.size 3 1 (.slice aT j cT) j _ := hrow
              refine wpo_append _ _ 23 rfl w1.heap.size 3 i0 (.int .i64 0) 1 8 Try.underlying23 hi0 hz0 hz1 hz2 rfl (by decide) (.slice aT j cT) j _ e0 hrow ⟨g, 0, none⟩ 1 1 [.int .i64 x.c.to] e1 rfl (fun jj uu hjj => by rw [add_at, Nat.zero_add]; exact hgc jj uu hjj) (ints_oneCell .i64 [x.c.to]) (by unfold maxLen; omega) (by omega) (by have := hW.kp.size; omega) ?_
              intro v' w7 hown' hgrow hat
              exact hK _ _ trivial (hW.app1 hr (by rw [h0]; simp) (by rw [h1]; simp) hown' hgrow hat)
            · intro r a w' hf hg hW hr hd K hK
              refine wpOp_of rfl rfl ?_
              have e0 : a.tmps.getD 3 undef = .pointer (some ⟨o, 0, none⟩) := hf.evalFree (by kernel_rfl)
              go_simp
              exact hK _ _ rfl (hW.upd 6 _ (by decide))
            · intro r a w' hf hg hW hr hd K hK
              refine wpOp_of rfl rfl ?_
              refine hf.depE hg hd 6 40 (by kernel_rfl) fun u0 e0 g0 _ => ?_
              replace g0 : u0 = .pointer (some ⟨o, 2, none⟩) := g0
              subst g0
              have y0 := hW.load2 hr
              go_simp
              exact hK _ _ rfl (hW.upd 7 _ (by decide))
            · intro r a w' hf hg hW hr hd K hK
              refine wpOp_of rfl rfl ?_
              have e0 : a.tmps.getD 7 undef = .pointer (some ⟨bx, 0, none⟩) := hf.evalFree (by kernel_rfl)
              go_simp
              exact hK _ _ rfl (hW.upd 8 _ (by decide))
            · intro r a w' hf hg hW hr hd K hK
              refine wpOp_of rfl rfl ?_
              refine hf.depE hg hd 8 42 (by kernel_rfl) fun u0 e0 g0 _ => ?_
              replace g0 : u0 = .pointer (some ⟨bx, 1, none⟩) := g0
              subst g0
              have y0 := Y1.out _ hW.kp
              go_simp
              exact hK _ _ rfl (hW.upd 9 _ (by decide))
            · intro r a w' hf hg hW hr hd K hK
              refine wpOp_of rfl rfl ?_
              refine hf.depE hg hd 7 41 (by kernel_rfl) fun u0 e0 g0 h0 => ?_
              replace g0 : u0 = .slice aS nS cS := g0
              subst g0
              refine hf.depE hg hd 9 43 (by kernel_rfl) fun u1 e1 g1 h1 => ?_
              replace g1 : u1 = .slice x.a x.c.stops.length x.cap := g1
              subst g1
              have hrow := hW.row2
              rw [hr] at hrow
              replace hrow : w'.ownsRow w1.heap.size 3 1 (.slice aS nS cS) nS _ := hrow
              have hnw := own_news (XOW.out _ hW.kp)
              refine wpo_append_nil _ _ 23 rfl w1.heap.size 3 i0 (.int .i64 0) 1 8 Try.underlying23 hi0 hz0 hz1 hz2 rfl (by decide) (.slice aS nS cS) nS _ e0 hrow x.a x.c.stops.length x.cap (x.c.stops.map natV) e1 (by simp) hnw.1 hnw.2 (fun u hu => by obtain ⟨z, _, rfl⟩ := List.mem_map.1 hu; rfl) (by unfold maxLen; omega) (by omega) (by have := hW.kp.size; omega) ?_
              intro v' w7 hown' hgrow hat
              exact hK _ _ trivial (hW.app2 hr (by rw [h0]; simp) (fun g hg => by have := hSz g hg; omega) hown' hgrow hat)
            · intro r a w' hf hg hW hr hd K hK
              refine wpOp_of rfl rfl ?_
              have e0 : a.tmps.getD 3 undef = .pointer (some ⟨o, 0, none⟩) := hf.evalFree (by kernel_rfl)
              go_simp
              exact hK _ _ rfl (hW.upd 11 _ (by decide))
            · intro r a w' hf hg hW hr hd K hK
              refine wpOp_of rfl rfl ?_
              refine hf.depE hg hd 11 45 (by kernel_rfl) fun u0 e0 g0 _ => ?_
              replace g0 : u0 = .pointer (some ⟨o, 1, none⟩) := g0
              subst g0
              refine hf.depE hg hd 5 39 (by kernel_rfl) fun u1 e1 _ h1 => ?_
              have hrow := hW.row1
              rw [h1] at hrow
              replace hrow : w'.ownsRow w1.heap.size 3 1 u1 (j + 1) _ := hrow
              obtain ⟨a7, c7, hu1, _⟩ := Go.Kq.own_form hrow
              subst hu1
              have hbx2 := hW.box
              obtain ⟨old, y0⟩ : ∃ old, w'.cell? ⟨o, 1, none⟩ = some old := ⟨_, cell_heap hbx2 1⟩
              have y1 : w'.frozen? ⟨o, 1, none⟩ = false := free_heap hbx2 1
              go_simp
              exact hK undef _ trivial (hW.store1 hr h1 undef)
            · intro r a w' hf hg hW hr hd K hK
              refine wpOp_of rfl rfl ?_
              have e0 : a.tmps.getD 3 undef = .pointer (some ⟨o, 0, none⟩) := hf.evalFree (by kernel_rfl)
              go_simp
              exact hK _ _ rfl (hW.upd 13 _ (by decide))
            · intro r a w' hf hg hW hr hd K hK
              refine wpOp_of rfl rfl ?_
              refine hf.depE hg hd 13 46 (by kernel_rfl) fun u0 e0 g0 _ => ?_
              replace g0 : u0 = .pointer (some ⟨o, 2, none⟩) := g0
              subst g0
              refine hf.depE hg hd 10 44 (by kernel_rfl) fun u1 e1 _ h1 => ?_
              have hrow := hW.row2
              rw [h1] at hrow
              replace hrow : w'.ownsRow w1.heap.size 3 1 u1 (nS + x.c.stops.length) _ := hrow
              obtain ⟨a7, c7, hu1, _⟩ := Go.Kq.own_form hrow
              subst hu1
              have hbx2 := hW.box
              obtain ⟨old, y0⟩ : ∃ old, w'.cell? ⟨o, 2, none⟩ = some old := ⟨_, cell_heap hbx2 2⟩
              have y1 : w'.frozen? ⟨o, 2, none⟩ = false := free_heap hbx2 2
              go_simp
              exact hK undef _ trivial (hW.store2 (by omega) hr h1 undef)
          · intro r' w9 hg hW hr'
            obtain ⟨u1, u2, hb9, ho9, hp9, ha9, hk9⟩ := hW.fin (hr' 12 (by decide)) (hr' 14 (by decide))
            have HB9 := Lib.hid hb9
            have HO9 := Lib.hid ho9
            have HP9 := Lib.hid hp9
            have HA9 := Lib.hid ha9
            have hk9' : Kp (fun k => k = o) w1 w9 := (hkp.no hkb).trans hk9 fun g hg h => by
              have h := hne g h
              omega
            clear hg hW hr' hb9 ho9 hp9 ha9 hk9
            simp only [List.length_cons, List.length_nil, Nat.reduceAdd, List.range_succ, List.range_zero, List.nil_append, List.cons_append, List.map_cons, List.map_nil, putAll, Act.put, List.setIfInBounds_toArray, List.set_cons_succ, List.set_cons_zero]
            go_wp2
            go_roundw
            case rel => exact ⟨j + 1, by omega, by go_num, u1, u2, HB9.out, by rw [HTK.out, List.map_append, List.map_append]; exact HO9.out, by rw [HTK.out, List.flatMap_append, List.length_append, List.map_append]; simpa [hnS.out] using HP9.out, HA9.out, hk9'⟩
            case measure => simp [intOf]; omega
        · obtain rfl : j = L.length := by omega
          rw [List.take_length] at hnS HT HS
          have o2 : wr.cell? ⟨o, 2, none⟩ = some (.slice aS nS cS) := cell_heap HB.out 2
          have hso : ∀ g, (Value.slice aS nS cS).ownBlock = some g → g ≠ o := fun g hg e => by have := hSg g hg; omega
          clear lr
          go_wp2_with fail
          refine (sort_any aS nS w1.heap.size cS _ wr (by omega) HS.out).mono ?_
          rintro e w2 ⟨rfl, hs2, hk2⟩
          have e1 : (L.map Ch.c).map Cc.to = L.map fun x => x.c.to := by rw [List.map_map]; rfl
          have e2 : (L.map Ch.c).flatMap Cc.stops = L.flatMap fun x => x.c.stops := by rw [List.flatMap_map]
          have hk3 : Kp (fun k => k = o) w w2 := (K1.out.tr hkp).trans hk2 fun k hk e => by have := hSg k e; have := K1.out.size; omega
          have RF := Lib.hid (HR.out.found (s' := ⟨sum, (L.map Ch.c).map Cc.to, srt ((L.map Ch.c).flatMap Cc.stops)⟩) hk3 (fun k _ h => h) (hk2.heap HB.out fun e => hso o e rfl)
            (by
              have h := hk2.owns HT.out fun g hg e => HAP.out g hg e
              simp only [e1, List.length_map]
              exact own_mono h (by omega))
            (by
              simp only [e2]
              rw [(srt_perm _).length_eq, hnS.out]
              exact own_mono hs2 (by omega)))
          have hk4 : Kp (fun k => o ≤ k) w w2 := hk3.mono fun k _ h => by have h : k = o := h; omega
          clear hk3 hs2 hk2 e1 e2
          go_wp2_with fail
          exact bodyPost_ret (v := .tuple #[]) (by simp [results, Try.results41, go_sem]) rfl ⟨rfl, by rw [HG.out, HU.out]; exact RF.out, hk4⟩
    · by_cases hc1 : sum < s.cost
      · have HU := Lib.hid (show updR s (L.map Ch.c) sum = ⟨sum, (L.map Ch.c).map Cc.to, srt ((L.map Ch.c).flatMap Cc.stops)⟩ by unfold updR; rw [if_pos (.inr hc1)])
        go_enter Try.func41, Try.ntmps41
        go_wp2_with fail
        obtain ⟨w1, hw1⟩ : ∃ w1, w1 = ((w.setCell ⟨o, 3, none⟩ (.int .i64 sum)).setCell ⟨o, 1, none⟩ (.slice none 0 0)).setCell ⟨o, 2, none⟩ (.slice none 0 0) := ⟨_, rfl⟩
        rw [← hw1]
        have k1 : Kp (fun k => k = o) w w1 := by rw [hw1]; exact ((kp_setOne w o 3 _).tr (kp_setOne _ o 1 _)).tr (kp_setOne _ o 2 _)
        have h1 : w1.heap[o]? = some (.cells #[fv, .slice none 0 0, .slice none 0 0, .int .i64 sum] 51 (0, 0)) := by
          rw [hw1]
          simp [World.setCell, Array.getElem?_modify, A1.out]
        have R1 := Lib.hid (HR.out.found (s' := ⟨sum, [], []⟩) k1 (fun k _ h => h) h1 ⟨rfl, .inl ⟨rfl, rfl⟩⟩ ⟨rfl, .inl ⟨rfl, rfl⟩⟩)
        have L1 := Lib.hid (k1.owns B2.out fun g hg e => by have e : g = o := e; have := (Go.Kq.own_ge B2.out hg).1; omega)
        have H1 := Lib.hid h1
        have hsz1 := k1.size
        have K1 := Lib.hid k1
        clear hw1 k1 h1 o0 o1 o2 o3 f1 f2 f3 dA dl
        go_loopw [30] (fun vi wr => ∃ j : Nat, j ≤ L.length ∧ vi = .int .i64 j ∧ ∃ uT uS, wr.heap[o]? = some (.cells #[fv, uT, uS, .int .i64 sum] 51 (0, 0)) ∧ wr.ownsRow w1.heap.size 3 1 uT j (((L.take j).map fun x => x.c.to).map (Value.int .i64)) ∧ wr.ownsRow w1.heap.size 3 1 uS ((L.take j).flatMap fun x => x.c.stops).length (((L.take j).flatMap fun x => x.c.stops).map natV) ∧ (∀ g, uT.ownBlock = some g → uS.ownBlock ≠ some g) ∧ Kp (fun k => k = o) w1 wr) (fun vi _ => L.length - (intOf vi).toNat)
        case atStart => exact ⟨0, by omega, rfl, .slice none 0 0, .slice none 0 0, H1.out, ⟨rfl, .inl ⟨rfl, rfl⟩⟩, ⟨rfl, .inl ⟨rfl, rfl⟩⟩, fun g hg => (by cases hg), Kp.refl _ _⟩
        case round =>
          obtain ⟨j, hj, rfl, uT, uS, hb, hT, hS, hap, hkp⟩ := hrel
          have hTg : ∀ g, uT.ownBlock = some g → w1.heap.size ≤ g := fun g hg => (Go.Kq.own_ge hT hg).1
          have hSg : ∀ g, uS.ownBlock = some g → w1.heap.size ≤ g := fun g hg => (Go.Kq.own_ge hS hg).1
          have hSz : ∀ g, uS.ownBlock = some g → g < wr.heap.size := fun g hg => (Go.Kq.own_ge hS hg).2
          obtain ⟨aT, cT, rfl, _, _, _⟩ := Go.Kq.own_form hT
          have hst : ((L.take j).flatMap fun x => x.c.stops).length ≤ 56 := by
            have h := flat_stops_len (L := L.take j) fun x hx => by obtain ⟨r, hr, hx'⟩ := HM.out x (List.mem_of_mem_take hx); exact ((HCH.out r hr).2 x hx').2.2
            have h2 := List.length_take_le j L
            omega
          have hnS := Lib.hid (rfl : ((L.take j).flatMap fun x => x.c.stops).length = ((L.take j).flatMap fun x => x.c.stops).length)
          generalize hgn : ((L.take j).flatMap fun x => x.c.stops).length = nS at hS hst
          replace hnS := Lib.hid hgn
          clear hgn
          obtain ⟨aS, cS, rfl, _, _, _⟩ := Go.Kq.own_form hS
          have HB := Lib.hid hb
          have HT := Lib.hid hT
          have HS := Lib.hid hS
          have HAP := Lib.hid hap
          have hszr := hkp.size
          clear hb hT hS hap
          have lr := hkp.owns L1.out fun g hg e => by have e : g = o := e; have := (Go.Kq.own_ge L1.out hg).1; omega
          by_cases hlt : j < L.length
          · obtain ⟨x, hx⟩ : ∃ x, L[j]? = some x := ⟨_, List.getElem?_eq_getElem hlt⟩
            obtain ⟨r, hr, hxr⟩ := HM.out x (List.mem_of_getElem? hx)
            obtain ⟨gl, rfl, _, hgl, _, hcl3⟩ := Go.Kq.own_at ch_len lr hx (by omega)
            have c0 := (hcl3 0 (.int .i64 x.c.to) rfl).1
            have c1 := (hcl3 1 (.slice x.a x.c.stops.length x.cap) rfl).1
            have c2 := (hcl3 2 (.int .i64 x.c.cost) rfl).1
            have hxs := ((HCH.out r hr).2 x hxr).2.2
            obtain ⟨hxo, hxg⟩ := (R1.out.fix.kp hkp fun k h => by have h : k = o := h; omega).stop r hr x hxr
            have XO := Lib.hid hxo
            have HTK := Lib.hid (show L.take (j + 1) = L.take j ++ [x] by rw [List.take_add_one, hx]; rfl)
            rw [Nat.add_zero] at c0
            clear hx hxr hcl3 hxo lr
            go_wp2_with fail
            obtain ⟨wb, hwb⟩ : ∃ wb, wb = wr.alloc (.cells #[.int .i64 x.c.to, .slice x.a x.c.stops.length x.cap, .int .i64 x.c.cost] 76) := ⟨_, rfl⟩
            obtain ⟨bx, hbx⟩ : ∃ bx, bx = wr.heap.size := ⟨_, rfl⟩
            rw [← hwb, ← hbx]
            have hbb : wb.heap[bx]? = some (.cells #[.int .i64 x.c.to, .slice x.a x.c.stops.length x.cap, .int .i64 x.c.cost] 76 (0, 0)) := by rw [hwb, hbx]; exact heap_alloc_new _ _
            have hkb : Kp No wr wb := by rw [hwb]; exact Kp.alloc _ _ _
            have hszb : bx + 1 ≤ wb.heap.size ∧ wr.heap.size ≤ bx ∧ bx ≤ wr.heap.size := ⟨by rw [hwb, hbx]; simp, by omega, by omega⟩
            clear hwb hbx
            have y0 : wb.cell? ⟨bx, 0, none⟩ = some (.int .i64 x.c.to) := cell_heap hbb 0
            have y1 : wb.cell? ⟨bx, 1, none⟩ = some (.slice x.a x.c.stops.length x.cap) := cell_heap hbb 1
            have hne : ∀ g, (g = o ∨ (Value.slice aT j cT).ownBlock = some g ∨ (Value.slice aS nS cS).ownBlock = some g) → g < bx ∧ (g = o ∨ w1.heap.size ≤ g) := fun g hg => by
              rcases hg with hg | hg | hg
              · omega
              · have := Go.Kq.own_ge HT.out hg
                omega
              · have := Go.Kq.own_ge HS.out hg
                omega
            have y0' : ∀ w', Kp (fun g => g = o ∨ (Value.slice aT j cT).ownBlock = some g ∨ (Value.slice aS nS cS).ownBlock = some g) wb w' → w'.cell? ⟨bx, 0, none⟩ = some (.int .i64 x.c.to) := fun w' k => k.cell y0 fun e => by have h := hne bx e; omega
            have y1' : ∀ w', Kp (fun g => g = o ∨ (Value.slice aT j cT).ownBlock = some g ∨ (Value.slice aS nS cS).ownBlock = some g) wb w' → w'.cell? ⟨bx, 1, none⟩ = some (.slice x.a x.c.stops.length x.cap) := fun w' k => k.cell y1 fun e => by have h := hne bx e; omega
            have xo : ∀ w', Kp (fun g => g = o ∨ (Value.slice aT j cT).ownBlock = some g ∨ (Value.slice aS nS cS).ownBlock = some g) wb w' → w'.ownsRow B0 3 1 (.slice x.a x.c.stops.length x.cap) x.c.stops.length (x.c.stops.map natV) := fun w' k => k.owns (hkb.owns XO.out fun _ _ h => h) fun g hg e => by have h := hne g e; have := hxg g hg; omega
            have Y0 := Lib.hid y0'
            have Y1 := Lib.hid y1'
            have XOW := Lib.hid xo
            have hapb := HAP.out
            clear y0 y1 y0' y1' xo hbb c0 c1 c2
            refine wp_region_each (fun ix u => match ix with
              | 0 => u = .pointer (some ⟨o, 1, none⟩) | 1 => u = .slice aT j cT | 2 => u = .pointer (some ⟨bx, 0, none⟩) | 3 => u = .int .i64 x.c.to | 6 => u = .pointer (some ⟨o, 2, none⟩) | 7 => u = .slice aS nS cS | 8 => u = .pointer (some ⟨bx, 1, none⟩) | 9 => u = .slice x.a x.c.stops.length x.cap | 11 => u = .pointer (some ⟨o, 1, none⟩) | 13 => u = .pointer (some ⟨o, 2, none⟩) | _ => True)
              (A2 wb o w1.heap.size fv (.int .i64 sum) (.slice aT j cT) (.slice aS nS cS) j nS x.c.stops.length (((L.take j).map fun x => x.c.to).map (Value.int .i64)) (((L.take j).flatMap fun x => x.c.stops).map natV) [.int .i64 x.c.to] (x.c.stops.map natV)) (by kernel_rfl) (by kernel_rfl) (by kernel_rfl) ?_ ?_ ?_
            · exact A2.start (hkb.heap HB.out id) (hkb.owns HT.out fun _ _ h => h) (hkb.owns HS.out fun _ _ h => h) hapb (fun e => by have := hTg o e; omega) (fun e => by have := hSg o e; omega)
            · refine ⟨?_, ?_, ?_, ?_, ?_, ?_, ?_, ?_, ?_, ?_, ?_, ?_, ?_, ?_, ?_, trivial⟩
              · intro r a w' hf hg hW hr hd K hK
                refine wpOp_of rfl rfl ?_
                have e0 : a.tmps.getD 3 undef = .pointer (some ⟨o, 0, none⟩) := hf.evalFree (by kernel_rfl)
                go_simp
                exact hK _ _ rfl (hW.upd 0 _ (by decide))
              · intro r a w' hf hg hW hr hd K hK
                refine wpOp_of rfl rfl ?_
                refine hf.depE hg hd 0 34 (by kernel_rfl) fun u0 e0 g0 _ => ?_
                replace g0 : u0 = .pointer (some ⟨o, 1, none⟩) := g0
                subst g0
                have y0 := hW.load1 hr
                go_simp
                exact hK _ _ rfl (hW.upd 1 _ (by decide))
              · intro r a w' hf hg hW hr hd K hK
                refine wpOp_of rfl rfl ?_
                have e0 : a.tmps.getD 7 undef = .pointer (some ⟨bx, 0, none⟩) := hf.evalFree (by kernel_rfl)
                go_simp
                exact hK _ _ rfl (hW.upd 2 _ (by decide))
              · intro r a w' hf hg hW hr hd K hK
                refine wpOp_of rfl rfl ?_
                refine hf.depE hg hd 2 36 (by kernel_rfl) fun u0 e0 g0 _ => ?_
                replace g0 : u0 = .pointer (some ⟨bx, 0, none⟩) := g0
                subst g0
                have y0 := Y0.out _ hW.kp
                go_simp
                exact hK _ _ rfl (hW.upd 3 _ (by decide))
              · intro r a w' hf hg hW hr hd K hK
                refine wpOp_of rfl rfl ?_
                refine hf.depE hg hd 3 37 (by kernel_rfl) fun u0 e0 g0 _ => ?_
                replace g0 : u0 = .int .i64 x.c.to := g0
                subst g0
                have e0' := get_of_getD e0
                go_simp
                exact hK _ _ trivial (hW.lay hr rfl rfl)
              · intro r a w' hf hg hW hr hd K hK
                refine wpOp_of rfl rfl ?_
                refine hf.depE hg hd 1 35 (by kernel_rfl) fun u0 e0 g0 h0 => ?_
                replace g0 : u0 = .slice aT j cT := g0
                subst g0
                refine hf.depE hg hd 4 38 (by kernel_rfl) fun u1 e1 _ h1 => ?_
                obtain ⟨g, rfl, hgz, hgc⟩ := hW.made _ h1 hr
                have hrow := hW.row1
                rw [hr] at hrow
                replace hrow : w'.ownsRow w1.heap.size 3 1 (.slice aT j cT) j _ := hrow
                refine wpo_append _ _ 23 rfl w1.heap.size 3 i0 (.int .i64 0) 1 8 Try.underlying23 hi0 hz0 hz1 hz2 rfl (by decide) (.slice aT j cT) j _ e0 hrow ⟨g, 0, none⟩ 1 1 [.int .i64 x.c.to] e1 rfl (fun jj uu hjj => by rw [add_at, Nat.zero_add]; exact hgc jj uu hjj) (ints_oneCell .i64 [x.c.to]) (by unfold maxLen; omega) (by omega) (by have := hW.kp.size; omega) ?_
                intro v' w7 hown' hgrow hat
                exact hK _ _ trivial (hW.app1 hr (by rw [h0]; simp) (by rw [h1]; simp) hown' hgrow hat)
              · intro r a w' hf hg hW hr hd K hK
                refine wpOp_of rfl rfl ?_
                have e0 : a.tmps.getD 3 undef = .pointer (some ⟨o, 0, none⟩) := hf.evalFree (by kernel_rfl)
                go_simp
                exact hK _ _ rfl (hW.upd 6 _ (by decide))
              · intro r a w' hf hg hW hr hd K hK
                refine wpOp_of rfl rfl ?_
                refine hf.depE hg hd 6 40 (by kernel_rfl) fun u0 e0 g0 _ => ?_
                replace g0 : u0 = .pointer (some ⟨o, 2, none⟩) := g0
                subst g0
                have y0 := hW.load2 hr
                go_simp
                exact hK _ _ rfl (hW.upd 7 _ (by decide))
              · intro r a w' hf hg hW hr hd K hK
                refine wpOp_of rfl rfl ?_
                have e0 : a.tmps.getD 7 undef = .pointer (some ⟨bx, 0, none⟩) := hf.evalFree (by kernel_rfl)
                go_simp
                exact hK _ _ rfl (hW.upd 8 _ (by decide))
              · intro r a w' hf hg hW hr hd K hK
                refine wpOp_of rfl rfl ?_
                refine hf.depE hg hd 8 42 (by kernel_rfl) fun u0 e0 g0 _ => ?_
                replace g0 : u0 = .pointer (some ⟨bx, 1, none⟩) := g0
                subst g0
                have y0 := Y1.out _ hW.kp
                go_simp
                exact hK _ _ rfl (hW.upd 9 _ (by decide))
              · intro r a w' hf hg hW hr hd K hK
                refine wpOp_of rfl rfl ?_
                refine hf.depE hg hd 7 41 (by kernel_rfl) fun u0 e0 g0 h0 => ?_
                replace g0 : u0 = .slice aS nS cS := g0
                subst g0
                refine hf.depE hg hd 9 43 (by kernel_rfl) fun u1 e1 g1 h1 => ?_
                replace g1 : u1 = .slice x.a x.c.stops.length x.cap := g1
                subst g1
                have hrow := hW.row2
                rw [hr] at hrow
                replace hrow : w'.ownsRow w1.heap.size 3 1 (.slice aS nS cS) nS _ := hrow
                have hnw := own_news (XOW.out _ hW.kp)
                refine wpo_append_nil _ _ 23 rfl w1.heap.size 3 i0 (.int .i64 0) 1 8 Try.underlying23 hi0 hz0 hz1 hz2 rfl (by decide) (.slice aS nS cS) nS _ e0 hrow x.a x.c.stops.length x.cap (x.c.stops.map natV) e1 (by simp) hnw.1 hnw.2 (fun u hu => by obtain ⟨z, _, rfl⟩ := List.mem_map.1 hu; rfl) (by unfold maxLen; omega) (by omega) (by have := hW.kp.size; omega) ?_
                intro v' w7 hown' hgrow hat
                exact hK _ _ trivial (hW.app2 hr (by rw [h0]; simp) (fun g hg => by have := hSz g hg; omega) hown' hgrow hat)
              · intro r a w' hf hg hW hr hd K hK
                refine wpOp_of rfl rfl ?_
                have e0 : a.tmps.getD 3 undef = .pointer (some ⟨o, 0, none⟩) := hf.evalFree (by kernel_rfl)
                go_simp
                exact hK _ _ rfl (hW.upd 11 _ (by decide))
              · intro r a w' hf hg hW hr hd K hK
                refine wpOp_of rfl rfl ?_
                refine hf.depE hg hd 11 45 (by kernel_rfl) fun u0 e0 g0 _ => ?_
                replace g0 : u0 = .pointer (some ⟨o, 1, none⟩) := g0
                subst g0
                refine hf.depE hg hd 5 39 (by kernel_rfl) fun u1 e1 _ h1 => ?_
                have hrow := hW.row1
                rw [h1] at hrow
                replace hrow : w'.ownsRow w1.heap.size 3 1 u1 (j + 1) _ := hrow
                obtain ⟨a7, c7, hu1, _⟩ := Go.Kq.own_form hrow
                subst hu1
                have hbx2 := hW.box
                obtain ⟨old, y0⟩ : ∃ old, w'.cell? ⟨o, 1, none⟩ = some old := ⟨_, cell_heap hbx2 1⟩
                have y1 : w'.frozen? ⟨o, 1, none⟩ = false := free_heap hbx2 1
                go_simp
                exact hK undef _ trivial (hW.store1 hr h1 undef)
              · intro r a w' hf hg hW hr hd K hK
                refine wpOp_of rfl rfl ?_
                have e0 : a.tmps.getD 3 undef = .pointer (some ⟨o, 0, none⟩) := hf.evalFree (by kernel_rfl)
                go_simp
                exact hK _ _ rfl (hW.upd 13 _ (by decide))
              · intro r a w' hf hg hW hr hd K hK
                refine wpOp_of rfl rfl ?_
                refine hf.depE hg hd 13 46 (by kernel_rfl) fun u0 e0 g0 _ => ?_
                replace g0 : u0 = .pointer (some ⟨o, 2, none⟩) := g0
                subst g0
                refine hf.depE hg hd 10 44 (by kernel_rfl) fun u1 e1 _ h1 => ?_
                have hrow := hW.row2
                rw [h1] at hrow
                replace hrow : w'.ownsRow w1.heap.size 3 1 u1 (nS + x.c.stops.length) _ := hrow
                obtain ⟨a7, c7, hu1, _⟩ := Go.Kq.own_form hrow
                subst hu1
                have hbx2 := hW.box
                obtain ⟨old, y0⟩ : ∃ old, w'.cell? ⟨o, 2, none⟩ = some old := ⟨_, cell_heap hbx2 2⟩
                have y1 : w'.frozen? ⟨o, 2, none⟩ = false := free_heap hbx2 2
                go_simp
                exact hK undef _ trivial (hW.store2 (by omega) hr h1 undef)
            · intro r' w9 hg hW hr'
              obtain ⟨u1, u2, hb9, ho9, hp9, ha9, hk9⟩ := hW.fin (hr' 12 (by decide)) (hr' 14 (by decide))
              have HB9 := Lib.hid hb9
              have HO9 := Lib.hid ho9
              have HP9 := Lib.hid hp9
              have HA9 := Lib.hid ha9
              have hk9' : Kp (fun k => k = o) w1 w9 := (hkp.no hkb).trans hk9 fun g hg h => by
                have h := hne g h
                omega
              clear hg hW hr' hb9 ho9 hp9 ha9 hk9
              simp only [List.length_cons, List.length_nil, Nat.reduceAdd, List.range_succ, List.range_zero, List.nil_append, List.cons_append, List.map_cons, List.map_nil, putAll, Act.put, List.setIfInBounds_toArray, List.set_cons_succ, List.set_cons_zero]
              go_wp2
              go_roundw
              case rel => exact ⟨j + 1, by omega, by go_num, u1, u2, HB9.out, by rw [HTK.out, List.map_append, List.map_append]; exact HO9.out, by rw [HTK.out, List.flatMap_append, List.length_append, List.map_append]; simpa [hnS.out] using HP9.out, HA9.out, hk9'⟩
              case measure => simp [intOf]; omega
          · obtain rfl : j = L.length := by omega
            rw [List.take_length] at hnS HT HS
            have o2 : wr.cell? ⟨o, 2, none⟩ = some (.slice aS nS cS) := cell_heap HB.out 2
            have hso : ∀ g, (Value.slice aS nS cS).ownBlock = some g → g ≠ o := fun g hg e => by have := hSg g hg; omega
            clear lr
            go_wp2_with fail
            refine (sort_any aS nS w1.heap.size cS _ wr (by omega) HS.out).mono ?_
            rintro e w2 ⟨rfl, hs2, hk2⟩
            have e1 : (L.map Ch.c).map Cc.to = L.map fun x => x.c.to := by rw [List.map_map]; rfl
            have e2 : (L.map Ch.c).flatMap Cc.stops = L.flatMap fun x => x.c.stops := by rw [List.flatMap_map]
            have hk3 : Kp (fun k => k = o) w w2 := (K1.out.tr hkp).trans hk2 fun k hk e => by have := hSg k e; have := K1.out.size; omega
            have RF := Lib.hid (HR.out.found (s' := ⟨sum, (L.map Ch.c).map Cc.to, srt ((L.map Ch.c).flatMap Cc.stops)⟩) hk3 (fun k _ h => h) (hk2.heap HB.out fun e => hso o e rfl)
              (by
                have h := hk2.owns HT.out fun g hg e => HAP.out g hg e
                simp only [e1, List.length_map]
                exact own_mono h (by omega))
              (by
                simp only [e2]
                rw [(srt_perm _).length_eq, hnS.out]
                exact own_mono hs2 (by omega)))
            have hk4 : Kp (fun k => o ≤ k) w w2 := hk3.mono fun k _ h => by have h : k = o := h; omega
            clear hk3 hs2 hk2 e1 e2
            go_wp2_with fail
            exact bodyPost_ret (v := .tuple #[]) (by simp [results, Try.results41, go_sem]) rfl ⟨rfl, by rw [HG.out, HU.out]; exact RF.out, hk4⟩
      · have HU := Lib.hid (show updR s (L.map Ch.c) sum = s by unfold updR; rw [if_neg (by omega)])
        go_enter Try.func41, Try.ntmps41
        go_wp2_with fail
        exact bodyPost_ret (v := .tuple #[]) (by simp [results, Try.results41, go_sem]) rfl ⟨rfl, by rw [HG.out, HU.out]; exact HR.out, Kp.refl _ _⟩
  · have hlt : L.length < N := by omega
    have hlb : ((L.length : Int) == (N : Int)) = false := by rw [beq_eq_false_iff_ne]; omega
    clear hleaf
    obtain ⟨r, hr⟩ : ∃ r, rws[L.length]? = some r := ⟨_, List.getElem?_eq_getElem (by rw [← HN.out]; exact hlt)⟩
    have hrm := List.mem_of_getElem? hr
    obtain ⟨F, hF⟩ : ∃ F : Rs → Cc → Rs, F = fun s x => if clash (L.map Ch.c) x then s else goR ((rws.drop (L.length + 1)).map Rw.cs) (L.map Ch.c ++ [x]) (sum + x.cost) s := ⟨_, rfl⟩
    have HF := Lib.hid hF
    have HG := Lib.hid (show resR rws L sum s = (r.chs.map Ch.c).foldl F s by
      unfold resR
      obtain ⟨h1, h2⟩ := List.getElem?_eq_some_iff.1 hr
      rw [List.drop_eq_getElem_cons h1, h2, List.map_cons, goR_cons, hF]
      rfl)
    clear hF
    obtain ⟨gA, cA', hA, _, _, hAg⟩ := Go.Kq.own_form HR.out.fix.all
    obtain ⟨gA, rfl⟩ : ∃ g, aA = some ⟨g, 0, none⟩ := by
      cases hA
      exact hAg (by have := HN.out; omega)
    clear hA hAg
    have hcA : w.cell? ⟨gA, L.length, none⟩ = some (.slice r.a r.chs.length r.cap) := Go.Kq.own_cell HR.out.fix.all (by rw [List.getElem?_map, hr]; rfl)
    have hrl := (HCH.out r hrm).1
    clear hr
    go_enter Try.func41, Try.ntmps41
    go_wp2_with fail
    clear hcA dA dl
    go_loopw [57] (fun vi wr => ∃ j : Nat, j ≤ r.chs.length ∧ vi = .int .i64 j ∧ ∃ s', RS q o B0 (some ⟨gA, 0, none⟩) cA fv rws L s' wr ∧ ((r.chs.drop j).map Ch.c).foldl F s' = resR rws L sum s ∧ Kp (fun k => o ≤ k) w wr) (fun vi _ => r.chs.length - (intOf vi).toNat)
    case atStart => exact ⟨0, by omega, rfl, s, HR.out, HG.out.symm, Kp.refl _ _⟩
    case round =>
      obtain ⟨j, hj, rfl, s', hR', hfo, hkp⟩ := hrel
      have HFO := Lib.hid hfo
      clear hfo
      have hszr := hkp.size
      have hq1 : o + 1 < wr.heap.size := by omega
      by_cases hltj : j < r.chs.length
      · obtain ⟨x, hx⟩ : ∃ x, r.chs[j]? = some x := ⟨_, List.getElem?_eq_getElem hltj⟩
        have hxm := List.mem_of_getElem? hx
        obtain ⟨hx0, hx1, _⟩ := (HCH.out r hrm).2 x hxm
        obtain ⟨gr, hgr, _, hgrl, _, hcl3⟩ := Go.Kq.own_at ch_len (hR'.fix.row r hrm).1 hx (by omega)
        have c0 := (hcl3 0 (.int .i64 x.c.to) rfl).1
        have c1 := (hcl3 1 (.slice x.a x.c.stops.length x.cap) rfl).1
        have c2 := (hcl3 2 (.int .i64 x.c.cost) rfl).1
        rw [Nat.add_zero] at c0
        have HFX := Lib.hid (show ((r.chs.drop (j + 1)).map Ch.c).foldl F (F s' x.c) = resR rws L sum s by
          have h := HFO.out
          obtain ⟨h1, h2⟩ := List.getElem?_eq_some_iff.1 hx
          rw [List.drop_eq_getElem_cons h1, h2] at h
          exact h)
        clear hx hcl3 HFO
        have hra : r.a = some ⟨gr, 0, none⟩ := hgr
        rw [hra]
        obtain ⟨vL', l1, l2⟩ := hR'.lst
        obtain ⟨al', cl', rfl, _, _, _⟩ := Go.Kq.own_form l2
        have e1 := cell_of_one l1
        have L1 := Lib.hid l1
        have L2 := Lib.hid l2
        have RR := Lib.hid hR'
        clear l1 l2 hR' hra hgr
        by_cases ht : 0 ≤ x.c.to
        · cases hany : L.any fun y => decide (x.c.to = y.c.to)
          · have HC := Lib.hid (show F s' x.c = resR rws (L ++ [x]) (sum + x.c.cost) s' by
              have hc : clash (L.map Ch.c) x.c = false := by
                unfold clash
                rw [List.any_map, show (fun y => decide (x.c.to = y.to)) ∘ Ch.c = fun y : Ch => decide (x.c.to = y.c.to) from rfl, hany, Bool.and_false]
              rw [HF.out]
              simp only [hc]
              unfold resR
              rw [List.length_append, List.map_append]
              rfl)
            have HA := Lib.hid hany
            clear hany
            go_wp2_with fail
            refine (ccont_any al' L.length cl' wr.heap.size x.c.to L _ (Go.Kq.Rd.of_own ch_len (by omega) (L2.out.alloc (.cells #[.int .i64 x.c.to, .slice x.a x.c.stops.length x.cap, .int .i64 x.c.cost] 76))) (cell_heap (heap_alloc_new wr (.cells #[.int .i64 x.c.to, .slice x.a x.c.stops.length x.cap, .int .i64 x.c.cost] 76)) 0) (by omega)).mono ?_
            rintro e wz ⟨rfl, hkz⟩
            rw [HA.out]
            have hbz := hkz.heap (heap_alloc_new wr (.cells #[.int .i64 x.c.to, .slice x.a x.c.stops.length x.cap, .int .i64 x.c.cost] 76)) id
            have hkwz : Kp No wr wz := (Kp.alloc _ _ _).tr hkz
            have z0 : wz.cell? ⟨wr.heap.size, 0, none⟩ = some (.int .i64 x.c.to) := cell_heap hbz 0
            have z1 : wz.cell? ⟨wr.heap.size, 1, none⟩ = some (.slice x.a x.c.stops.length x.cap) := cell_heap hbz 1
            have z2 : wz.cell? ⟨wr.heap.size, 2, none⟩ = some (.int .i64 x.c.cost) := cell_heap hbz 2
            have e1z := hkwz.cell e1 id
            clear hbz hkz c0 c1 c2
            go_wp2_with (at_builtin; refine stop_in ?_)
            refine stop_out ?_
            have hzs := hkwz.size
            have LZ1 := Lib.hid (hkwz.heap L1.out id)
            have LZ2 := Lib.hid (hkwz.owns L2.out fun _ _ h => h)
            have RZ := Lib.hid (RR.out.no hkwz)
            refine wpList_append_own_at _ rfl _ _ 72 rfl (o + 3) 76 i1 (.agg #[.int .i64 0, .slice none 0 0, .int .i64 0]) 3 40 Try.underlying72 hi1 hy0 hy1 hy2 rfl (by decide) (.slice al' L.length cl') L.length (L.flatMap Ch.cells) rfl (LZ2.out.alloc _) ⟨wz.heap.size, 0, none⟩ 1 1 [.int .i64 x.c.to, .slice x.a x.c.stops.length x.cap, .int .i64 x.c.cost] rfl rfl (new_cells wz _ (by unfold maxLen; simp)) (fun u hu => by simp at hu; rcases hu with rfl | rfl | rfl <;> rfl) (by unfold maxLen; omega) (by omega) (by simp; omega) ?_
            intro v' w4 hown' hgrow hnil hat
            replace hown' : w4.ownsRow (o + 3) 76 3 v' (L.length + 1) (L.flatMap Ch.cells ++ x.cells) := hown'
            obtain ⟨hR5, hk5⟩ := RZ.out.push LZ1.out LZ2.out hown' hgrow
            have k4 : Kp (fun k => (Value.slice al' L.length cl').ownBlock = some k) wz w4 := (Kp.alloc _ _ _).tr (Kp.grown hgrow fun k hk _ => hk)
            have hne : ∀ k, (Value.slice al' L.length cl').ownBlock = some k → o + 3 ≤ k ∧ k < wr.heap.size := fun k hk => Go.Kq.own_ge L2.out hk
            have x1 : w4.cell? ⟨o + 1, 0, none⟩ = some (.slice al' L.length cl') := cell_of_one (k4.heap LZ1.out fun e => by have := hne _ e; omega)
            have f1 : w4.frozen? ⟨o + 1, 0, none⟩ = false := free_of_one (k4.heap LZ1.out fun e => by have := hne _ e; omega)
            have x2 : w4.cell? ⟨o + 1 + 1, 0, none⟩ = some (.func (.func 41) #[] #[.pointer (some ⟨o + 1, 0, none⟩), .pointer (some ⟨q, 0, none⟩), .pointer (some ⟨o, 0, none⟩), .pointer (some ⟨o + 1 + 1, 0, none⟩)]) := cell_of_one (k4.heap RZ.out.tr fun e => by have := hne _ e; omega)
            have x3 := k4.cell z2 fun e => by have := hne wr.heap.size e; omega
            have hbne : wr.heap.size ≠ o + 1 := by omega
            obtain ⟨a4, c4, rfl, _⟩ := Go.Kq.own_form hown'
            have R5 := Lib.hid hR5
            have K5 := Lib.hid ((hkp.no hkwz).tr hk5)
            clear hown' hgrow hnil hat hR5 hk5 k4 hne z0 z1 z2
            go_wp2_with fail
            clear x1 f1 x2 x3 hbne
            have hcall := IH.out (L ++ [x]) (sum + x.c.cost) s' _ (by rw [List.length_append]; show rws.length - (L.length + 1) < fuel; have := HN.out; omega) (by rw [List.length_append]; show L.length + 1 ≤ rws.length; have := HN.out; omega) (fun y hy => by
              rcases List.mem_append.1 hy with hy | hy
              · exact HM.out y hy
              · simp at hy; rw [hy]; exact ⟨r, hrm, hxm⟩) (by omega) (by rw [List.length_append]; show _ ≤ 560000000 * ((L.length + 1 : Nat) : Int); omega) R5.out
            refine hcall.mono ?_
            clear hcall
            rintro e w6 ⟨rfl, hR6, hk6⟩
            rw [← HC.out] at hR6
            obtain ⟨vL6, d1, d2⟩ := hR6.lst
            have hLl : (L ++ [x]).length = L.length + 1 := by simp
            rw [hLl] at d2
            obtain ⟨a6, c6, rfl, _, _, ha6⟩ := Go.Kq.own_form d2
            obtain ⟨g6, rfl⟩ := ha6 (by omega)
            have p1 := cell_of_one d1
            have p2 := free_of_one d1
            obtain ⟨hR7, hk7⟩ := hR6.pop d1 d2
            have R7 := Lib.hid hR7
            have K7 := Lib.hid ((K5.out.tr hk6).tr hk7)
            clear d1 d2 hR6 hk6 hR7 hk7 ha6 hLl
            go_wp2_with fail
            go_roundw
            case rel => exact ⟨j + 1, by omega, by go_num, _, R7.out, HFX.out, K7.out⟩
            case measure => simp [intOf]; omega
          · have HC := Lib.hid (show F s' x.c = s' by
              have hc : clash (L.map Ch.c) x.c = true := by
                unfold clash
                rw [List.any_map, show (fun y => decide (x.c.to = y.to)) ∘ Ch.c = fun y : Ch => decide (x.c.to = y.c.to) from rfl, hany, decide_eq_true ht]
                rfl
              rw [HF.out]
              simp only [hc]
              rfl)
            have HA := Lib.hid hany
            clear hany
            go_wp2_with fail
            refine (ccont_any al' L.length cl' wr.heap.size x.c.to L _ (Go.Kq.Rd.of_own ch_len (by omega) (L2.out.alloc (.cells #[.int .i64 x.c.to, .slice x.a x.c.stops.length x.cap, .int .i64 x.c.cost] 76))) (cell_heap (heap_alloc_new wr (.cells #[.int .i64 x.c.to, .slice x.a x.c.stops.length x.cap, .int .i64 x.c.cost] 76)) 0) (by omega)).mono ?_
            rintro e wz ⟨rfl, hkz⟩
            rw [HA.out]
            have hkwz : Kp No wr wz := (Kp.alloc _ _ _).tr hkz
            have RZ := Lib.hid (RR.out.no hkwz)
            clear hkz c0 c1 c2
            go_wp2_with fail
            go_roundw
            case rel => exact ⟨j + 1, by omega, by go_num, s', RZ.out, by have h := HFX.out; rwa [HC.out] at h, hkp.no hkwz⟩
            case measure => simp [intOf]; omega
        · have HC := Lib.hid (show F s' x.c = resR rws (L ++ [x]) (sum + x.c.cost) s' by
            have hc : clash (L.map Ch.c) x.c = false := by
              unfold clash
              rw [decide_eq_false ht, Bool.false_and]
            rw [HF.out]
            simp only [hc]
            unfold resR
            rw [List.length_append, List.map_append]
            rfl)
          have htd : decide (0 ≤ x.c.to) = false := decide_eq_false ht
          clear ht
          go_wp2_with (at_builtin; refine stop_in ?_)
          obtain ⟨wz, hwz⟩ : ∃ wz, wz = wr.alloc (.cells #[.int .i64 x.c.to, .slice x.a x.c.stops.length x.cap, .int .i64 x.c.cost] 76) := ⟨_, rfl⟩
          have hszz : wr.heap.size + 1 = wz.heap.size := by rw [hwz]; simp
          have hbz : wz.heap[wr.heap.size]? = some (.cells #[.int .i64 x.c.to, .slice x.a x.c.stops.length x.cap, .int .i64 x.c.cost] 76 (0, 0)) := by rw [hwz]; exact heap_alloc_new _ _
          have hkwz : Kp No wr wz := by rw [hwz]; exact Kp.alloc _ _ _
          have z0 : wz.cell? ⟨wr.heap.size, 0, none⟩ = some (.int .i64 x.c.to) := cell_heap hbz 0
          have z1 : wz.cell? ⟨wr.heap.size, 1, none⟩ = some (.slice x.a x.c.stops.length x.cap) := cell_heap hbz 1
          have z2 : wz.cell? ⟨wr.heap.size, 2, none⟩ = some (.int .i64 x.c.cost) := cell_heap hbz 2
          rw [← hwz, hszz]
          clear hwz hszz hbz c0 c1 c2
          refine stop_out ?_
          have hzs := hkwz.size
          have LZ1 := Lib.hid (hkwz.heap L1.out id)
          have LZ2 := Lib.hid (hkwz.owns L2.out fun _ _ h => h)
          have RZ := Lib.hid (RR.out.no hkwz)
          refine wpList_append_own_at _ rfl _ _ 72 rfl (o + 3) 76 i1 (.agg #[.int .i64 0, .slice none 0 0, .int .i64 0]) 3 40 Try.underlying72 hi1 hy0 hy1 hy2 rfl (by decide) (.slice al' L.length cl') L.length (L.flatMap Ch.cells) rfl (LZ2.out.alloc _) ⟨wz.heap.size, 0, none⟩ 1 1 [.int .i64 x.c.to, .slice x.a x.c.stops.length x.cap, .int .i64 x.c.cost] rfl rfl (new_cells wz _ (by unfold maxLen; simp)) (fun u hu => by simp at hu; rcases hu with rfl | rfl | rfl <;> rfl) (by unfold maxLen; omega) (by omega) (by simp; omega) ?_
          intro v' w4 hown' hgrow hnil hat
          replace hown' : w4.ownsRow (o + 3) 76 3 v' (L.length + 1) (L.flatMap Ch.cells ++ x.cells) := hown'
          obtain ⟨hR5, hk5⟩ := RZ.out.push LZ1.out LZ2.out hown' hgrow
          have k4 : Kp (fun k => (Value.slice al' L.length cl').ownBlock = some k) wz w4 := (Kp.alloc _ _ _).tr (Kp.grown hgrow fun k hk _ => hk)
          have hne : ∀ k, (Value.slice al' L.length cl').ownBlock = some k → o + 3 ≤ k ∧ k < wr.heap.size := fun k hk => Go.Kq.own_ge L2.out hk
          have x1 : w4.cell? ⟨o + 1, 0, none⟩ = some (.slice al' L.length cl') := cell_of_one (k4.heap LZ1.out fun e => by have := hne _ e; omega)
          have f1 : w4.frozen? ⟨o + 1, 0, none⟩ = false := free_of_one (k4.heap LZ1.out fun e => by have := hne _ e; omega)
          have x2 : w4.cell? ⟨o + 1 + 1, 0, none⟩ = some (.func (.func 41) #[] #[.pointer (some ⟨o + 1, 0, none⟩), .pointer (some ⟨q, 0, none⟩), .pointer (some ⟨o, 0, none⟩), .pointer (some ⟨o + 1 + 1, 0, none⟩)]) := cell_of_one (k4.heap RZ.out.tr fun e => by have := hne _ e; omega)
          have x3 := k4.cell z2 fun e => by have := hne wr.heap.size e; omega
          have hbne : wr.heap.size ≠ o + 1 := by omega
          obtain ⟨a4, c4, rfl, _⟩ := Go.Kq.own_form hown'
          have R5 := Lib.hid hR5
          have K5 := Lib.hid ((hkp.no hkwz).tr hk5)
          clear hown' hgrow hnil hat hR5 hk5 k4 hne z0 z1 z2
          go_wp2_with fail
          clear x1 f1 x2 x3 hbne
          have hcall := IH.out (L ++ [x]) (sum + x.c.cost) s' _ (by rw [List.length_append]; show rws.length - (L.length + 1) < fuel; have := HN.out; omega) (by rw [List.length_append]; show L.length + 1 ≤ rws.length; have := HN.out; omega) (fun y hy => by
            rcases List.mem_append.1 hy with hy | hy
            · exact HM.out y hy
            · simp at hy; rw [hy]; exact ⟨r, hrm, hxm⟩) (by omega) (by rw [List.length_append]; show _ ≤ 560000000 * ((L.length + 1 : Nat) : Int); omega) R5.out
          refine hcall.mono ?_
          clear hcall
          rintro e w6 ⟨rfl, hR6, hk6⟩
          rw [← HC.out] at hR6
          obtain ⟨vL6, d1, d2⟩ := hR6.lst
          have hLl : (L ++ [x]).length = L.length + 1 := by simp
          rw [hLl] at d2
          obtain ⟨a6, c6, rfl, _, _, ha6⟩ := Go.Kq.own_form d2
          obtain ⟨g6, rfl⟩ := ha6 (by omega)
          have p1 := cell_of_one d1
          have p2 := free_of_one d1
          obtain ⟨hR7, hk7⟩ := hR6.pop d1 d2
          have R7 := Lib.hid hR7
          have K7 := Lib.hid ((K5.out.tr hk6).tr hk7)
          clear d1 d2 hR6 hk6 hR7 hk7 ha6 hLl
          go_wp2_with fail
          go_roundw
          case rel => exact ⟨j + 1, by omega, by go_num, _, R7.out, HFX.out, K7.out⟩
          case measure => simp [intOf]; omega
      · obtain rfl : j = r.chs.length := by omega
        have hfin : s' = resR rws L sum s := by
          have h := HFO.out
          rw [List.drop_length] at h
          exact h
        have HFI := Lib.hid hfin
        have RR := Lib.hid hR'
        clear hfin HFO hR'
        go_wp2_with fail
        go_end0
        exact ⟨rfl, by rw [← HFI.out]; exact RR.out, hkp⟩
end Go.Proofs.Ytfflhlmnfhfcgaa
