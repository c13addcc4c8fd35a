/- Chapter 09: slices.SortFunc of at most 12 indices by the order of cuts: the walks. Printed by gen_insw.py. · spans: Scale. -/
import Derived.Shelf.SlSortCmp.QuietGrown
import Derived.Deep.RegionHeld3
import Derived.Test.YtamjhpdgclbfgaaXCspM
import Derived.Test.YtamjhpdgclbfgaaXNwA
import Derived.Test.YtamjhpdgclbfgaaXSrtIM
import Derived.Test.YtamjhpdgclbfgaaXSpn
namespace Go.Proofs.Ytamjhpdgclbfgaa
open Go.RowKit Go.Kq Go.Sort

def befV (P : Pt) (A : Option Addr) (n ca : Nat) : Value := .func (.func 37) #[jobV P A n ca] #[]
theorem befF_at {l : List Ct} {a b : Nat} {x y : Ct} (hx : l[a]? = some x) (hy : l[b]? = some y) : befF l a b = orL [cmpI y.h x.h, cmpI y.w x.w, cmpI a b] := by
  unfold befF
  rw [getD_of hx, getD_of hy]
theorem swp_map (d : List Nat) (p : Nat) {x y : Nat} (hx : d.getD (p + 1) 0 = x) (hy : d.getD p 0 = y) : ((d.map natI).set (p + 1) (natI y)).set p (natI x) = (swpL d p).map natI := by
  unfold swpL
  rw [hx, hy, List.map_set, List.map_set]
set_option maxHeartbeats 8000000 in
set_option maxRecDepth 100000 in
theorem ins_any (P : Pt) (A : Option Addr) (n ca : Nat) (l : List Ct) (g cap m base : Nat) (d : List Nat) (w : World) (hx : RdC w A n l) (hA : ∀ b o, A = some ⟨b, o, none⟩ → b < base) (ho : w.ownsRow base 3 1 (.slice (some ⟨g, 0, none⟩) m cap) m (d.map natI)) (hm : m ≤ 12) (hd : ∀ v ∈ d, v < n) :
    Calls Try.prog 86 #[.slice (some ⟨g, 0, none⟩) m cap, .int .i64 0, .int .i64 (m : Nat), befV P A n ca] w fun e w' => e = .returned (.tuple #[]) ∧ w'.ownsRow base 3 1 (.slice (some ⟨g, 0, none⟩) m cap) m ((insAt (befF l) d (m - 1)).map natI) ∧ Kp (One g) w w' := by
  have mixed : Try.prog.follows .mixedOrders = true := by kernel_rfl
  have HX := Lib.hid hx
  have HLN := Lib.hid hx.1
  have HDL := Lib.hid (show d.length = m by have := ho.1; simpa using this)
  have HD := Lib.hid hd
  have HO := Lib.hid ho
  have HG := Lib.hid (own_ge ho (g := g) rfl)
  have HA := Lib.hid hA
  have HB := Lib.hid (fun (W : World) (k : Kp (One g) w W) (a b : Nat) (x y : Ct) (ha : l[a]? = some x) (hb : l[b]? = some y) => before_any P A n ca l a b x y W (hx.kp k fun b' o e _ s => by have e2 : b' = g := s; have := hA b' o e; have := (own_ge ho (g := g) rfl).1; omega) ha hb)
  clear hx ho hd hA
  simp only [befV, jobV] at HB ⊢
  go_enter Try.func86, Try.ntmps86
  go_wp2_with fail
  go_loopw [8] (fun vi wr => ∃ i : Nat, 1 ≤ i ∧ i ≤ m + 1 ∧ (i = 1 ∨ i ≤ m) ∧ vi = .int .i64 i ∧ wr.ownsRow base 3 1 (.slice (some ⟨g, 0, none⟩) m cap) m ((insAt (befF l) d (i - 1)).map natI) ∧ Kp (One g) w wr) (fun vi _ => m + 1 - (intOf vi).toNat)
  case atStart => exact ⟨1, by omega, by omega, .inl rfl, rfl, HO.out, Kp.refl _ _⟩
  case round =>
    obtain ⟨i, hi1, hi2, hi3, rfl, hor, hkr⟩ := hrel
    by_cases hlt : i < m
    · obtain ⟨q, rfl⟩ : ∃ q, i = q + 1 := ⟨i - 1, by omega⟩
      obtain ⟨di, hdi⟩ : ∃ di, di = insAt (befF l) d q := ⟨_, rfl⟩
      have HDI := Lib.hid hdi
      have HOR := Lib.hid (show wr.ownsRow base 3 1 (.slice (some ⟨g, 0, none⟩) m cap) m (di.map natI) by rw [hdi]; exact hor)
      have HKR := Lib.hid hkr
      have HMI := Lib.hid (show ∀ v ∈ di, v < n by
        rw [hdi]
        exact insAt_lt (fun v hv => HD.out v hv) q (by rw [HDL.out]; omega))
      have hltd : decide ((q : Int) + 1 < ((m : Nat) : Int)) = true := decide_eq_true (by omega)
      clear hor hkr hdi
      rw [show ((q + 1 : Nat) : Int) = (q : Int) + 1 from by omega]
      go_wp2_with fail
      go_loopw [9] (fun vj wr2 => ∃ (j : Nat) (dj : List Nat), j ≤ q + 1 ∧ vj = .int .i64 j ∧ wr2.ownsRow base 3 1 (.slice (some ⟨g, 0, none⟩) m cap) m (dj.map natI) ∧ insIn (befF l) j dj = insIn (befF l) (q + 1) di ∧ (∀ v ∈ dj, v < n) ∧ Kp (One g) w wr2) (fun vj _ => (intOf vj).toNat)
      case atStart => exact ⟨q + 1, di, Nat.le_refl _, by go_num, HOR.out, rfl, HMI.out, HKR.out⟩
      case round =>
        obtain ⟨j, dj, hj, rfl, hoj, hej, hmj, hkj⟩ := hrel
        have HOJ := Lib.hid hoj
        have HEJ := Lib.hid hej
        have HMJ := Lib.hid hmj
        have HKJ := Lib.hid hkj
        have HJL := Lib.hid (show dj.length = m by have := hoj.1; simpa using this)
        clear hoj hej hmj hkj HOR HKR HMI
        rcases Nat.eq_zero_or_pos j with h0 | h0
        · subst h0
          have hd0 : decide ((0 : Int) < ((0 : Nat) : Int)) = false := rfl
          have HE := Lib.hid (show dj = insAt (befF l) d (q + 1) by rw [insAt, ← HDI.out, ← HEJ.out]; rfl)
          go_wp2_with fail
          go_quiet (fail)
          go_wp2_with fail
          go_roundw
          case rel => exact ⟨q + 2, by omega, by omega, by omega, by go_num, by rw [show q + 2 - 1 = q + 1 by omega, ← HE.out]; exact (Kp.drewN No _ _).owns HOJ.out (fun _ _ h => h), HKJ.out.no (Kp.drewN _ _ _)⟩
          case measure => simp [intOf]; omega
        · obtain ⟨p, rfl⟩ : ∃ p, j = p + 1 := ⟨j - 1, by omega⟩
          obtain ⟨x, hx⟩ : ∃ x, dj[p + 1]? = some x := ⟨_, List.getElem?_eq_getElem (by rw [HJL.out]; omega)⟩
          obtain ⟨y, hy⟩ : ∃ y, dj[p]? = some y := ⟨_, List.getElem?_eq_getElem (by rw [HJL.out]; omega)⟩
          obtain ⟨cx, hcx⟩ : ∃ c, l[x]? = some c := ⟨_, List.getElem?_eq_getElem (by rw [HLN.out]; exact HMJ.out x (List.mem_of_getElem? hx))⟩
          obtain ⟨cy, hcy⟩ : ∃ c, l[y]? = some c := ⟨_, List.getElem?_eq_getElem (by rw [HLN.out]; exact HMJ.out y (List.mem_of_getElem? hy))⟩
          have HXJ := Lib.hid (show (dj.map natI)[p + 1]? = some (.int .i64 (x : Nat)) from map_at' natI hx)
          have HYJ := Lib.hid (show (dj.map natI)[p]? = some (.int .i64 (y : Nat)) from map_at' natI hy)
          have cX : wr.cell? ⟨g, p + 1, none⟩ = some (.int .i64 (x : Nat)) := own_cell HOJ.out HXJ.out
          have cY : wr.cell? ⟨g, p, none⟩ = some (.int .i64 (y : Nat)) := own_cell HOJ.out HYJ.out
          have hgl := (own_ge HOJ.out (g := g) rfl).2
          have gX := fun N os => cell_grown (n := N) (os := os) hgl cX
          have gY := fun N os => cell_grown (n := N) (os := os) hgl cY
          obtain ⟨c, hc⟩ : ∃ c, c = befF l x y := ⟨_, rfl⟩
          have HC := Lib.hid (fun N os => show Calls Try.prog _ #[.agg #[.int .i64 P.w, .int .i64 P.h, .int .i64 P.k, .slice A n ca], .int .i64 (x : Nat), .int .i64 (y : Nat)] (grow (wr.drewN N) os) _ from (by have := HB.out (grow (wr.drewN N) os) (HKJ.out.no (kp_of_grow ⟨N, os, rfl⟩)) x y cx cy hcx hcy; rw [← befF_at hcx hcy, ← hc] at this; exact this))
          have HCV := Lib.hid hc
          have HGX := Lib.hid (getD_of (d := 0) hx)
          have HGY := Lib.hid (getD_of (d := 0) hy)
          rw [show ((p + 1 : Nat) : Int) = (p : Int) + 1 from by omega]
          have hd0 : decide ((0 : Int) < (p : Int) + 1) = true := decide_eq_true (by omega)
          have hpz : (p : Int) + 1 < (m : Nat) := by omega
          have hpm : (p : Int) < (m : Nat) := by omega
          have hz0 : (0 : Int) ≤ (p : Int) + 1 := by omega
          have hz1 : ((p : Int) + 1).toNat = p + 1 := by omega
          have hz2 : IntKind.i64.wrap ((p : Int) + 1) = (p : Int) + 1 := IntWalk.i64_in _ (by omega)
          have hz3 : p + 1 < m := by omega
          have hz4 : p < m := by omega
          have hwp : IntKind.i64.wrap (p : Int) = (p : Int) := IntWalk.i64_in _ (by omega)
          clear hx hy hcx hcy hc cX cY
          by_cases hneg : c < 0
          · have hdn : decide (c < 0) = true := decide_eq_true hneg
            have HEN := Lib.hid (show insIn (befF l) p (swpL dj p) = insIn (befF l) (q + 1) di by
              rw [← HEJ.out]
              conv => rhs; unfold insIn
              rw [HGX.out, HGY.out, ← HCV.out, if_pos hneg])
            go_wp2_with fail
            go_quiet_grown (first | (go_at_call 37; refine Calls.grown_of (HC.out _ _)))
            have HKQ := Lib.hid (HKJ.out.no (kp_of_grow ⟨nq, osq, rfl⟩))
            have HOQ := Lib.hid ((kp_of_grow (w := wr) ⟨nq, osq, rfl⟩).owns HOJ.out fun _ _ h => h)
            clear HOJ HKJ gX gY HC hgl
            generalize grow (wr.drewN nq) osq = wq at *
            go_wp2_with fail
            refine wp_region_each (fun ix uR => match ix with | 0 => uR = .slice (some ⟨g, 0, none⟩) m cap | 1 => uR = .int .i64 ((p : Int) + 1) | 2 => uR = .slice (some ⟨g, 0, none⟩) m cap | 3 => uR = .int .i64 ((p : Int) + 1) | 4 => uR = .int .i64 (p : Int) | 5 => uR = .slice (some ⟨g, 0, none⟩) m cap | 6 => uR = .int .i64 ((p : Int) + 1) | 7 => uR = .int .i64 (p : Int) | 8 => uR = .pointer (some ⟨g, p, none⟩) | 9 => uR = .int .i64 (y : Nat) | 10 => uR = .slice (some ⟨g, 0, none⟩) m cap | 11 => uR = .int .i64 ((p : Int) + 1) | 12 => uR = .pointer (some ⟨g, p + 1, none⟩) | 13 => uR = .int .i64 (x : Nat) | 14 => uR = .pointer (some ⟨g, p + 1, none⟩) | 16 => uR = .pointer (some ⟨g, p, none⟩) | _ => True) (Sw wq g base 3 m cap (dj.map natI) (p + 1) p (.int .i64 (x : Nat)) (.int .i64 (y : Nat)) 9 13 15 17) (by kernel_rfl) (by kernel_rfl) (by kernel_rfl) ?_ ?_ ?_
            · exact Sw.start HOQ.out
            · refine ⟨?_, ?_, ?_, ?_, ?_, ?_, ?_, ?_, ?_, ?_, ?_, ?_, ?_, ?_, ?_, ?_, ?_, ?_, trivial⟩
              · intro r a w' hf hg hW hr hd K hK
                refine wpOp_of rfl rfl ?_
                have e0 : a.tmps.getD 0 undef = .slice (some ⟨g, 0, none⟩) m cap := hf.evalFree (by kernel_rfl)
                go_simp
                exact hK _ _ rfl (hW.upd 0 _ (by decide) (by decide))
              · intro r a w' hf hg hW hr hd K hK
                refine wpOp_of rfl rfl ?_
                have e0 : a.tmps.getD 9 undef = .int .i64 ((p : Int) + 1) := hf.evalFree (by kernel_rfl)
                go_simp
                exact hK _ _ rfl (hW.upd 1 _ (by decide) (by decide))
              · intro r a w' hf hg hW hr hd K hK
                refine wpOp_of rfl rfl ?_
                have e0 : a.tmps.getD 0 undef = .slice (some ⟨g, 0, none⟩) m cap := hf.evalFree (by kernel_rfl)
                go_simp
                exact hK _ _ rfl (hW.upd 2 _ (by decide) (by decide))
              · intro r a w' hf hg hW hr hd K hK
                refine wpOp_of rfl rfl ?_
                have e0 : a.tmps.getD 9 undef = .int .i64 ((p : Int) + 1) := hf.evalFree (by kernel_rfl)
                go_simp
                exact hK _ _ rfl (hW.upd 3 _ (by decide) (by decide))
              · intro r a w' hf hg hW hr hd K hK
                refine wpOp_of rfl rfl ?_
                refine hf.depE hg hd 3 40 (by kernel_rfl) fun u0 e0 g0 h0 => ?_
                replace g0 : u0 = .int .i64 ((p : Int) + 1) := g0
                subst g0
                go_simp
                exact hK _ _ rfl (hW.upd 4 _ (by decide) (by decide))
              · intro r a w' hf hg hW hr hd K hK
                refine wpOp_of rfl rfl ?_
                have e0 : a.tmps.getD 0 undef = .slice (some ⟨g, 0, none⟩) m cap := hf.evalFree (by kernel_rfl)
                go_simp
                exact hK _ _ rfl (hW.upd 5 _ (by decide) (by decide))
              · intro r a w' hf hg hW hr hd K hK
                refine wpOp_of rfl rfl ?_
                have e0 : a.tmps.getD 9 undef = .int .i64 ((p : Int) + 1) := hf.evalFree (by kernel_rfl)
                go_simp
                exact hK _ _ rfl (hW.upd 6 _ (by decide) (by decide))
              · intro r a w' hf hg hW hr hd K hK
                refine wpOp_of rfl rfl ?_
                refine hf.depE hg hd 6 43 (by kernel_rfl) fun u0 e0 g0 h0 => ?_
                replace g0 : u0 = .int .i64 ((p : Int) + 1) := g0
                subst g0
                go_simp
                exact hK _ _ rfl (hW.upd 7 _ (by decide) (by decide))
              · intro r a w' hf hg hW hr hd K hK
                refine wpOp_of rfl rfl ?_
                refine hf.depE hg hd 5 42 (by kernel_rfl) fun u0 e0 g0 h0 => ?_
                replace g0 : u0 = .slice (some ⟨g, 0, none⟩) m cap := g0
                subst g0
                refine hf.depE hg hd 7 44 (by kernel_rfl) fun u1 e1 g1 h1 => ?_
                replace g1 : u1 = .int .i64 (p : Int) := g1
                subst g1
                go_simp
                exact hK _ _ rfl (hW.upd 8 _ (by decide) (by decide))
              · intro r a w' hf hg hW hr hd K hK
                refine wpOp_of rfl rfl ?_
                refine hf.depE hg hd 8 45 (by kernel_rfl) fun u0 e0 g0 h0 => ?_
                replace g0 : u0 = .pointer (some ⟨g, p, none⟩) := g0
                subst g0
                have z0 := hW.loadj hr (by omega) HYJ.out
                go_simp
                exact hK _ _ rfl (hW.upd 9 _ (by decide) (by decide))
              · intro r a w' hf hg hW hr hd K hK
                refine wpOp_of rfl rfl ?_
                have e0 : a.tmps.getD 0 undef = .slice (some ⟨g, 0, none⟩) m cap := hf.evalFree (by kernel_rfl)
                go_simp
                exact hK _ _ rfl (hW.upd 10 _ (by decide) (by decide))
              · intro r a w' hf hg hW hr hd K hK
                refine wpOp_of rfl rfl ?_
                have e0 : a.tmps.getD 9 undef = .int .i64 ((p : Int) + 1) := hf.evalFree (by kernel_rfl)
                go_simp
                exact hK _ _ rfl (hW.upd 11 _ (by decide) (by decide))
              · intro r a w' hf hg hW hr hd K hK
                refine wpOp_of rfl rfl ?_
                refine hf.depE hg hd 10 47 (by kernel_rfl) fun u0 e0 g0 h0 => ?_
                replace g0 : u0 = .slice (some ⟨g, 0, none⟩) m cap := g0
                subst g0
                refine hf.depE hg hd 11 48 (by kernel_rfl) fun u1 e1 g1 h1 => ?_
                replace g1 : u1 = .int .i64 ((p : Int) + 1) := g1
                subst g1
                go_simp
                exact hK _ _ rfl (hW.upd 12 _ (by decide) (by decide))
              · intro r a w' hf hg hW hr hd K hK
                refine wpOp_of rfl rfl ?_
                refine hf.depE hg hd 12 49 (by kernel_rfl) fun u0 e0 g0 h0 => ?_
                replace g0 : u0 = .pointer (some ⟨g, p + 1, none⟩) := g0
                subst g0
                have z0 := hW.loadi hr (by omega) HXJ.out
                go_simp
                exact hK _ _ rfl (hW.upd 13 _ (by decide) (by decide))
              · intro r a w' hf hg hW hr hd K hK
                refine wpOp_of rfl rfl ?_
                refine hf.depE hg hd 0 37 (by kernel_rfl) fun u0 e0 g0 h0 => ?_
                replace g0 : u0 = .slice (some ⟨g, 0, none⟩) m cap := g0
                subst g0
                refine hf.depE hg hd 1 38 (by kernel_rfl) fun u1 e1 g1 h1 => ?_
                replace g1 : u1 = .int .i64 ((p : Int) + 1) := g1
                subst g1
                go_simp
                exact hK _ _ rfl (hW.upd 14 _ (by decide) (by decide))
              · intro r a w' hf hg hW hr hd K hK
                refine wpOp_of rfl rfl ?_
                refine hf.depE hg hd 14 51 (by kernel_rfl) fun u0 e0 g0 h0 => ?_
                replace g0 : u0 = .pointer (some ⟨g, p + 1, none⟩) := g0
                subst g0
                refine hf.depE hg hd 9 46 (by kernel_rfl) fun u1 e1 g1 h1 => ?_
                replace g1 : u1 = .int .i64 (y : Nat) := g1
                subst g1
                refine hf.depE hg hd 13 50 (by kernel_rfl) fun uo eo go ho => ?_
                obtain ⟨old, y0⟩ : ∃ old, w'.cell? ⟨g, (p + 1), none⟩ = some old := ⟨_, own_cell hW.row (List.getElem?_eq_getElem (by have := hW.row.1; have := HJL.out; omega))⟩
                have y1 := hW.free (p + 1)
                go_simp
                exact hK undef _ trivial (hW.sta hr (by rw [ho]; simp) (by decide) (by omega) undef)
              · intro r a w' hf hg hW hr hd K hK
                refine wpOp_of rfl rfl ?_
                refine hf.depE hg hd 2 39 (by kernel_rfl) fun u0 e0 g0 h0 => ?_
                replace g0 : u0 = .slice (some ⟨g, 0, none⟩) m cap := g0
                subst g0
                refine hf.depE hg hd 4 41 (by kernel_rfl) fun u1 e1 g1 h1 => ?_
                replace g1 : u1 = .int .i64 (p : Int) := g1
                subst g1
                go_simp
                exact hK _ _ rfl (hW.upd 16 _ (by decide) (by decide))
              · intro r a w' hf hg hW hr hd K hK
                refine wpOp_of rfl rfl ?_
                refine hf.depE hg hd 16 52 (by kernel_rfl) fun u0 e0 g0 h0 => ?_
                replace g0 : u0 = .pointer (some ⟨g, p, none⟩) := g0
                subst g0
                refine hf.depE hg hd 13 50 (by kernel_rfl) fun u1 e1 g1 h1 => ?_
                replace g1 : u1 = .int .i64 (x : Nat) := g1
                subst g1
                refine hf.depE hg hd 9 46 (by kernel_rfl) fun uo eo go ho => ?_
                obtain ⟨old, y0⟩ : ∃ old, w'.cell? ⟨g, p, none⟩ = some old := ⟨_, own_cell hW.row (List.getElem?_eq_getElem (by have := hW.row.1; have := HJL.out; omega))⟩
                have y1 := hW.free p
                go_simp
                exact hK undef _ trivial (hW.stb hr (by rw [ho]; simp) (by decide) undef)
            intro r' w9 hg hW hr'
            simp only [List.length_cons, List.length_nil, Nat.reduceAdd, List.range_succ, List.range_zero, List.nil_append, List.cons_append, List.map_cons, List.map_nil, putAll, Act.put, List.setIfInBounds_toArray, List.set_cons_succ, List.set_cons_zero]
            have ho9 := hW.fin (hr' 15 (by decide)) (hr' 17 (by decide))
            have HK9 := Lib.hid (HKQ.out.tr hW.kp)
            have HO9 := Lib.hid (show w9.ownsRow base 3 1 (.slice (some ⟨g, 0, none⟩) m cap) m ((swpL dj p).map natI) by rw [← swp_map dj p HGX.out HGY.out]; exact ho9)
            have HM9 := Lib.hid (show ∀ v ∈ swpL dj p, v < n from fun v hv => HMJ.out v ((swpL_perm (by rw [HJL.out]; omega)).mem_iff.1 hv))
            clear hg hW hr' ho9
            go_wp2_with fail
            go_roundw
            case rel => exact ⟨p, swpL dj p, by omega, by go_num, HO9.out, HEN.out, HM9.out, HK9.out⟩
            case measure => simp [intOf]
          · have hdn : decide (c < 0) = false := decide_eq_false hneg
            have HE := Lib.hid (show dj = insAt (befF l) d (q + 1) by
              rw [insAt, ← HDI.out, ← HEJ.out]
              conv => rhs; unfold insIn
              rw [HGX.out, HGY.out, ← HCV.out, if_neg hneg])
            go_wp2_with fail
            go_quiet_grown (first | (go_at_call 37; refine Calls.grown_of (HC.out _ _)))
            have HKQ := Lib.hid (HKJ.out.no (kp_of_grow ⟨nq, osq, rfl⟩))
            have HOQ := Lib.hid ((kp_of_grow (w := wr) ⟨nq, osq, rfl⟩).owns HOJ.out fun _ _ h => h)
            clear HOJ HKJ gX gY HC hgl
            generalize grow (wr.drewN nq) osq = wq at *
            go_wp2_with fail
            go_roundw
            case rel => exact ⟨q + 2, by omega, by omega, by omega, by go_num, by rw [show q + 2 - 1 = q + 1 by omega, ← HE.out]; exact HOQ.out, HKQ.out⟩
            case measure => simp [intOf]; omega
    · have HOR := Lib.hid (show wr.ownsRow base 3 1 (.slice (some ⟨g, 0, none⟩) m cap) m ((insAt (befF l) d (m - 1)).map natI) by rw [show m - 1 = i - 1 by omega]; exact hor)
      clear hor
      go_wp2_with fail
      go_end0
      exact ⟨rfl, HOR.out, hkr⟩
end Go.Proofs.Ytamjhpdgclbfgaa

namespace Go.Proofs.Ytamjhpdgclbfgaa
open Go.RowKit Go.Kq

theorem ck1_cells (w0 : World) (g : Nat) (lo hi : Int) (h0 : w0.cell? ⟨g, 0, none⟩ = some (.int .i64 lo)) (h1 : w0.cell? ⟨g, 1, none⟩ = some (.int .i64 hi)) : ∀ (k : Nat) (x : Int × Int), [(lo, hi)][k]? = some x → w0.cell? ⟨g, 0 + k * 2, none⟩ = some (.int .i64 x.1) ∧ w0.cell? ⟨g, 0 + k * 2 + 1, none⟩ = some (.int .i64 x.2) := by
  intro k x hx
  match k, hx with
  | 0, hx => simp at hx; subst hx; exact ⟨h0, h1⟩
  | k + 1, hx => simp at hx
theorem span_two (den : Nat) (x y : Int) (g : Nat) (w : World) (hd : 0 < den) (hd2 : den < 18446744073709551616)
    (h : w.cell? ⟨g, 0, none⟩ = some (.bool (lgP x).1) ∧ w.cell? ⟨g, 1, none⟩ = some (.int .u64 (lgP x).2.1) ∧ w.cell? ⟨g, 2, none⟩ = some (.int .u64 (lgP x).2.2))
    (h' : w.cell? ⟨g, 3, none⟩ = some (.bool (lgP y).1) ∧ w.cell? ⟨g, 4, none⟩ = some (.int .u64 (lgP y).2.1) ∧ w.cell? ⟨g, 5, none⟩ = some (.int .u64 (lgP y).2.2)) :
    Calls Try.prog 71 #[.int .u64 (den : Nat), .slice (some ⟨g, 0, none⟩) 2 2] w fun e w' => e = .returned (ieV (spanV den x [y])) ∧ Kp No w w' := by
  refine span_any den x [y] g 0 1 2 w hd hd2 rfl (by omega) (by omega) (by omega) (by omega) ?_
  intro k v hx
  match k, hx with
  | 0, hx => simp at hx; subst hx; exact ⟨h.1, h.2.1, h.2.2⟩
  | 1, hx => simp at hx; subst hx; exact ⟨h'.1, h'.2.1, h'.2.2⟩
  | k + 2, hx => simp at hx
set_option maxHeartbeats 4000000 in

theorem scale_ok (lo hi num : Int) (den : Nat) (w : World) (hck : ckE [(lo, hi)] = 0) (hd : 0 < den) (hdf : fits (den : Int) = true) (hnf : fits num = true) :
    Calls Try.prog 47 #[ivV lo hi, .int .i64 num, .int .i64 (den : Nat)] w fun e w' => e = .returned (ieV (spanV (den : Int) (lo * num) [hi * num])) ∧ Kp No w w' := by
  have hbd := ck_fits hck (lo, hi) (by simp)
  have l1 := fits_bounds hbd.1
  have l2 := fits_bounds hbd.2
  have l3 := fits_bounds hnf
  have l4 := fits_bounds hdf
  simp only at l1 l2 l3 l4
  have HCK := Lib.hid (fun g w0 hc => check_any [(lo, hi)] g 0 1 1 w0 rfl (by omega) hc)
  rw [hck] at HCK
  have hwd : IntKind.u64.wrap (den : Int) = (den : Int) := by rw [IntKind.wrap_u64]; omega
  have T1 := Lib.hid (fun w0 => times_any lo num w0 (by omega) (by omega) (by omega) (by omega))
  have T2 := Lib.hid (fun w0 => times_any hi num w0 (by omega) (by omega) (by omega) (by omega))
  have SP := Lib.hid (fun g w0 h h' => span_two den (lo * num) (hi * num) g w0 hd (by omega) h h')
  generalize spanV (den : Int) (lo * num) [hi * num] = sv at *
  simp only [lgV_p] at T1 T2
  generalize lgP (lo * num) = p1 at *
  generalize lgP (hi * num) = p2 at *
  obtain ⟨p11, p12, p13⟩ := p1
  obtain ⟨p21, p22, p23⟩ := p2
  simp only [p3V] at T1 T2 SP
  have HN1 := Lib.hid (number_any (den : Int))
  have HN2 := Lib.hid (number_any num)
  rw [hdf] at HN1
  rw [hnf] at HN2
  have hd1 : ¬ (den : Int) < 1 := by omega
  clear hbd l1 l2 l3 l4 hck hdf hnf
  obtain ⟨v1, v2, v3⟩ := sv
  simp only [ieV, ivV] at SP ⊢
  go_enter Try.func47, Try.ntmps47
  go_wp2_with fail
  refine (HCK.out _ _ (ck1_cells _ _ _ _ (by go_simp) (by go_simp))).mono ?_
  rintro e w1 ⟨rfl, hk⟩
  have q0 := hk.heap (((Kp.alloc No _ _).tr (Kp.alloc No _ _)).heap (at_new (n := w.heap.size) rfl) id) id
  have q1 := hk.heap ((Kp.alloc No _ _).heap (at_new (n := w.heap.size + 1) (by simp)) id) id
  obtain ⟨c0, c1, _, _⟩ := two_cells q0
  obtain ⟨r0, r1, z0, z1⟩ := two_cells q1
  have KP := ((Kp.alloc No w _).tr ((Kp.alloc No _ _).tr (Kp.alloc No _ _))).tr hk
  go_wp2_with fail
  refine (HN1.out _).mono ?_
  rintro e w2 ⟨rfl, hw2⟩
  subst hw2
  go_wp2_with fail
  refine (HN2.out _).mono ?_
  rintro e w2 ⟨rfl, hw2⟩
  subst hw2
  go_wp2_with fail
  go_region_held3 (fun w' => w'.cell? ⟨w.heap.size, 0, none⟩ = some (.int .i64 lo) ∧ w'.cell? ⟨w.heap.size, 1, none⟩ = some (.int .i64 hi)) (first | exact ⟨c0, c1⟩ | go_keep)
    ((first | (go_at_call 72; with_reducible refine (T1.out _).mono ?_; rintro e w3 ⟨rfl, k3⟩; have L3 := Lib.hid ((Kp.drew No _).tr k3); have c0 := L3.out.cell c0 (fun h => h); have c1 := L3.out.cell c1 (fun h => h); clear k3) | (go_at_call 72; with_reducible refine (T2.out _).mono ?_; rintro e w4 ⟨rfl, k4⟩; have L4 := Lib.hid (L3.out.tr k4); have c0 := k4.cell c0 (fun h => h); have c1 := k4.cell c1 (fun h => h); clear k4) | (go_at_call 71; refine (SP.out _ _ ⟨by go_simp, by go_simp, by go_simp⟩ ⟨by go_simp, by go_simp, by go_simp⟩).mono ?_; rintro e w5 ⟨rfl, k5⟩; have L5 := Lib.hid (L4.out.tr ((Kp.alloc No _ _).tr k5)); have c0 := k5.cell (a := ⟨w.heap.size, 0, none⟩) (v := .int .i64 lo) (by go_simp) (fun h => h); have c1 := k5.cell (a := ⟨w.heap.size, 1, none⟩) (v := .int .i64 hi) (by go_simp) (fun h => h); have z0 := (L5.out.frozen (World.block_lt_of_cell? _ _ r0) id).trans z0; have z1 := (L5.out.frozen (World.block_lt_of_cell? _ _ r1) id).trans z1; have r0 := L5.out.cell r0 id; have r1 := L5.out.cell r1 id; clear k5)))
  go_wp2_with fail
  exact bodyPost_ret (v := .tuple #[.agg #[.int .i64 v1, .int .i64 v2], .int .i64 v3]) (by simp [results, Try.results47, go_sem, r0, r1]) rfl ⟨rfl, kp_set2 (KP.tr L5.out) (by omega)⟩
end Go.Proofs.Ytamjhpdgclbfgaa
