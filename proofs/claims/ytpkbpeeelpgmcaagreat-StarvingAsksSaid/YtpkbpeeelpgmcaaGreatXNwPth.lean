/- Chapter 14: the walk of the reference's path. -/
import Derived.Laws.NewBlocks
import Derived.Test.YtpkbpeeelpgmcaaGreatXNwPth0M
import Derived.Test.YtpkbpeeelpgmcaaGreatXWdFrM
namespace Go.Proofs.YtpkbpeeelpgmcaaGreat
open Go.RowKit Go.Kq Go.Flow

theorem path_rows (w : World) (H n : Nat) (hn : n ≤ 100000) (hH : w.heap.size = H) :
    ((w.alloc (.cells (List.replicate n (Value.int .i64 0)).toArray 3)).alloc (.cells (List.replicate n (Value.bool false)).toArray 4)).ownsRow H 3 1 (.slice (some ⟨H, 0, none⟩) n n) n (List.replicate n (.int .i64 0)) ∧
    ((w.alloc (.cells (List.replicate n (Value.int .i64 0)).toArray 3)).alloc (.cells (List.replicate n (Value.bool false)).toArray 4)).ownsRow H 4 1 (.slice (some ⟨H + 1, 0, none⟩) n n) n (tRow n fun _ => false) := by
  subst hH
  refine ⟨own_kp (own_zero w 3 (.int .i64 0) n w.heap.size hn (Nat.le_refl _)) (Kp.alloc No _ _) (fun _ _ h => h), ?_⟩
  have h := own_zero (w.alloc (.cells (List.replicate n (Value.int .i64 0)).toArray 3)) 4 (.bool false) n w.heap.size hn (by simp)
  rw [show (w.alloc (.cells (List.replicate n (Value.int .i64 0)).toArray 3)).heap.size = w.heap.size + 1 by simp] at h
  rw [tRow_none]
  exact h
theorem path_cell (w : World) (H n fr : Nat) (hf : fr < n) (hn : n ≤ 100000) (hH : w.heap.size = H) :
    ((w.alloc (.cells (List.replicate n (Value.int .i64 0)).toArray 3)).alloc (.cells (List.replicate n (Value.bool false)).toArray 4)).cell? ⟨H + 1, fr, none⟩ = some (.bool false) ∧ ((w.alloc (.cells (List.replicate n (Value.int .i64 0)).toArray 3)).alloc (.cells (List.replicate n (Value.bool false)).toArray 4)).frozen? ⟨H + 1, fr, none⟩ = false :=
  ⟨own_cell (path_rows w H n hn hH).2 (tRow_at _ hf), own_free (path_rows w H n hn hH).2 fr⟩
theorem path_start (w : World) (H n fr : Nat) (L : List Pi) (hf : fr < n) (hn : n ≤ 100000) (hH : w.heap.size = H) :
    PI w (((((w.alloc (.cells (List.replicate n (Value.int .i64 0)).toArray 3)).alloc (.cells (List.replicate n (Value.bool false)).toArray 4)).setCell ⟨H + 1, fr, none⟩ (.bool true)).alloc (.cells #[natV fr] 3))) H n fr L (fun _ => none) [fr] (.slice (some ⟨H + 1 + 1, 0, none⟩) 1 1) := by
  obtain ⟨h1, h2⟩ := path_rows w H n hn hH
  have k1 := kp_setOne ((w.alloc (.cells (List.replicate n (Value.int .i64 0)).toArray 3)).alloc (.cells (List.replicate n (Value.bool false)).toArray 4)) (H + 1) fr (.bool true)
  have b1 := own_kp h1 k1 (fun g hg e => by have e2 : g = H + 1 := e; have : some H = some g := hg; injection this; omega)
  have b2 := own_set h2 fr (.bool true)
  rw [tRow_set] at b2
  have hsz : (((w.alloc (.cells (List.replicate n (Value.int .i64 0)).toArray 3)).alloc (.cells (List.replicate n (Value.bool false)).toArray 4)).setCell ⟨H + 1, fr, none⟩ (.bool true)).heap.size = H + 1 + 1 := by simp [hH]
  have hk : Kp No w (((w.alloc (.cells (List.replicate n (Value.int .i64 0)).toArray 3)).alloc (.cells (List.replicate n (Value.bool false)).toArray 4)).setCell ⟨H + 1, fr, none⟩ (.bool true)) :=
    ((Kp.alloc No _ _).tr (Kp.alloc No _ _)).trans k1 fun k hk e => by have e2 : k = H + 1 := e; omega
  generalize ((w.alloc (.cells (List.replicate n (Value.int .i64 0)).toArray 3)).alloc (.cells (List.replicate n (Value.bool false)).toArray 4)).setCell ⟨H + 1, fr, none⟩ (.bool true) = W at *
  have h3 := own_one (w := W) (base := H + 1 + 1) (e := 3) (v := natV fr) (by omega)
  rw [hsz] at h3
  exact PI.start (own_kp b1 (Kp.alloc No _ _) (fun _ _ h => h)) (own_kp b2 (Kp.alloc No _ _) (fun _ _ h => h)) h3 hf (hk.tr (Kp.alloc No _ _))
theorem one_news (w : World) (t : TypeId) (c : Int) : ∀ (j : Nat) (u : Value), [Value.int .i64 c][j]? = some u → (w.alloc (.cells #[.int .i64 c] t)).cell? ((⟨w.heap.size, 0, none⟩ : Addr).add j) = some u := fun j u hj => by
  match j, hj with
  | 0, hj =>
    simp at hj
    subst hj
    rw [add_at]
    go_simp
  | k + 1, hj => simp at hj
theorem one_news_at {w : World} {a : Nat} (h : w.heap.size = a) (t : TypeId) (c : Int) : ∀ (j : Nat) (u : Value), [Value.int .i64 c][j]? = some u → (w.alloc (.cells #[.int .i64 c] t)).cell? ((⟨a, 0, none⟩ : Addr).add j) = some u := by
  subst h
  exact one_news w t c
theorem path_world (w : World) (H n fr : Nat) (hH : w.heap.size = H) : ((w.alloc (.cells (List.replicate n (Value.int .i64 0)).toArray 3)).alloc (.cells (List.replicate n (Value.bool false)).toArray 4)).setCell ⟨H + 1, fr, none⟩ (.bool true) =
    (w.alloc (.cells (Array.replicate n (Value.int .i64 0)) 3)).alloc (.cells ((Array.replicate n (Value.bool false)).setIfInBounds fr (.bool true)) 4) := by
  rw [World.setCell_alloc_at _ _ _ _ _ (by simp [hH])]
  simp
set_option maxHeartbeats 8000000 in
set_option maxRecDepth 100000 in
theorem path_any (L : List Pi) (A : Option Addr) (ca n fr to : Nat) (w : World) (hA : Rd a4 4 w A L.length L) (hst : ∀ p ∈ L, p.st = false) (hb : ∀ p ∈ L, p.fr < n ∧ p.to < n ∧ p.fr ≠ p.to) (hn : n ≤ 30) (hfr : fr < n) (hto : to < n) (hL : L.length ≤ 200) :
    Calls Tryz.prog 108 #[.slice A L.length ca, .int .i64 n, .int .i64 fr, .int .i64 to] w fun e w' => PathR w L n fr to e w' := by
  obtain ⟨i0, hi0, hz0, hz1, hz2⟩ := info_parts infoI
  have hmk1 := fun W => make_ints (T := 23) (E := 3) Tryz.underlying23 infoI n (n : Int) rfl (by omega) W
  have hmk2 := fun W => make_bools n (by omega) W
  have HA := Lib.hid hA
  have HST := Lib.hid hst
  have HB := Lib.hid hb
  have hfr' : (fr : Int) < n := by omega
  have hto' : (to : Int) < n := by omega
  clear hA hst hb
  generalize hG : w.heap.size = H
  have HG := Lib.hid hG
  clear hG
  have HP0 := Lib.hid (path_start w H n fr L hfr (by omega) HG.out)
  have cz := (path_cell w H n fr hfr (by omega) HG.out).1
  have fz := (path_cell w H n fr hfr (by omega) HG.out).2
  rw [path_world w H n fr HG.out] at HP0
  have hH : w.heap.size = H := HG.out
  subst hH
  go_enter Tryz.func108, Tryz.ntmps108
  go_wp2_with fail
  clear cz fz hmk1 hmk2
  generalize hG : w.heap.size = H at *
  go_loopw [12, 13] (fun q i wr => ∃ (j : Nat) (xs : List Nat) (b : Nat → Option Stp) (g cap : Nat), j ≤ xs.length ∧ i = .int .i64 j ∧ q = .slice (some ⟨g, 0, none⟩) xs.length cap ∧ PI w wr H n fr L b xs q ∧ ∀ y ∈ xs.take j, Dn L (Rs fr b) y L.length) (fun _ i _ => n + 1 - (intOf i).toNat)
  case atStart => exact ⟨0, [fr], _, H + 1 + 1, 1, by omega, rfl, rfl, HP0.out, by simp⟩
  case round =>
    obtain ⟨j, xs, b, g, cap, hj, rfl, rfl, hpi, hdp⟩ := hrel
    have HI := Lib.hid hpi
    have HDP := Lib.hid hdp
    have hct := hpi.ct
    have hxl : xs.length ≤ 31 := by omega
    have HCT := Lib.hid hct
    have hkn := own_cell hpi.kn (tRow_at (Rs fr b) hto)
    clear hpi hdp hct
    cases hr : Rs fr b to with
    | false =>
      rw [hr] at hkn
      have HR := Lib.hid hr
      clear hr
      by_cases hlt : (j : Int) < xs.length
      · obtain ⟨x, hx⟩ : ∃ x, xs[j]? = some x := ⟨_, List.getElem?_eq_getElem (by omega)⟩
        have HX0 := Lib.hid hx
        have HRX := Lib.hid (HI.out.xl x (List.mem_of_getElem? hx))
        clear hx
        go_wp2_with fail
        obtain ⟨wo, rfl⟩ : ∃ wo : World, wo = wr := ⟨_, rfl⟩
        go_loopw [12, 14] (fun q i wr => ∃ (k : Nat) (xs : List Nat) (b : Nat → Option Stp) (g cap : Nat), k ≤ L.length ∧ i = .int .i64 k ∧ q = .slice (some ⟨g, 0, none⟩) xs.length cap ∧ PI w wr H n fr L b xs q ∧ xs[j]? = some x ∧ Dn L (Rs fr b) x k ∧ ∀ y ∈ xs.take j, Dn L (Rs fr b) y L.length) (fun _ i _ => L.length - (intOf i).toNat)
        case atStart => exact ⟨0, xs, b, g, cap, by omega, rfl, rfl, HI.out, HX0.out, Dn.zero _ _ _, HDP.out⟩
        case round =>
          clear hkn HI HDP HX0 HRX HCT HR hxl hlt
          obtain ⟨k, xs, b, g, cap, hk, rfl, rfl, hpi, hx, hdn, hdp⟩ := hrel
          have HI := Lib.hid hpi
          have HX := Lib.hid hx
          have HDN := Lib.hid hdn
          have HDP := Lib.hid hdp
          have HRX := Lib.hid (hpi.xl x (List.mem_of_getElem? hx))
          have hct := hpi.ct
          have hxl : xs.length ≤ 31 := by omega
          have hjx : (j : Int) < xs.length := by have := (List.getElem?_eq_some_iff.1 hx).1; omega
          have hjl : j < n + 1 := by omega
          have cx := own_cell hpi.re (j := j) (u := natV x) (by rw [List.getElem?_map, hx]; rfl)
          replace cx : wr.cell? ⟨g, j, none⟩ = some (.int .i64 (x : Int)) := cx
          have hgH : H + 1 + 1 ≤ g := (own_ge hpi.re rfl).1
          have hgz : g < wr.heap.size := (own_ge hpi.re rfl).2
          clear hpi hx hdn hdp hct
          by_cases hlt : (k : Int) < L.length
          · obtain ⟨p, hp⟩ : ∃ p, L[k]? = some p := ⟨_, List.getElem?_eq_getElem (by omega)⟩
            obtain ⟨e1, e2, e3⟩ := HB.out p (List.mem_of_getElem? hp)
            have HPK := Lib.hid hp
            obtain ⟨bA, oA, rfl, hbA, t0, t1, t2, t3⟩ := rd_arc (HA.out.no HI.out.kp) hp
            have hbH : bA < H := by
              obtain ⟨b0, o0, e0, hb0, _⟩ := rd_arc HA.out hp
              cases e0
              omega
            have n1 := own_cell HI.out.kn (tRow_at (Rs fr b) e2)
            have n2 := own_cell HI.out.kn (tRow_at (Rs fr b) e1)
            have hf' : (p.fr : Int) < n := by omega
            have ht' : (p.to : Int) < n := by omega
            clear hp
            by_cases hfx : p.fr = x
            · have hfb : ((p.fr : Int) == (x : Int)) = true := by rw [beq_iff_eq]; omega
              have htx : p.to ≠ x := fun e => e3 (hfx.trans e.symm)
              have htb : ((p.to : Int) == (x : Int)) = false := by rw [beq_eq_false_iff_ne]; omega
              have HX0 := Lib.hid hfx
              have HTX := Lib.hid htx
              clear hfx htx e3
              cases hkt : Rs fr b p.to with
              | true =>
                rw [hkt] at n1
                have HKT := Lib.hid hkt
                clear hkt
                have HD2 := Lib.hid (HDN.out.succ HPK.out fun _ => ⟨fun _ _ => HKT.out, fun h => absurd h HTX.out⟩)
                go_wp2_with fail
                go_quiet (fail)
                go_wp2_with fail
                go_quiet (fail)
                go_wp2_with fail
                go_roundw
                case rel => exact ⟨k + 1, xs, b, g, cap, by omega, by go_num, rfl, HI.out.same (by first | exact Kp.drewN _ _ _ | exact (Kp.drewN _ _ _).tr (Kp.drewN _ _ _)), HX.out, HD2.out, HDP.out⟩
                case measure => simp [intOf]; omega
              | false =>
                rw [hkt] at n1
                have HKT := Lib.hid hkt
                clear hkt
                by_cases hroom : p.fl < p.mo
                · have hroom' : decide (p.fl < p.mo) = true := decide_eq_true hroom
                  have HR := Lib.hid (show Rch L ⟨k, true⟩ p.to x from ⟨p, HPK.out, HST.out p (List.mem_of_getElem? HPK.out), rfl, HX0.out, by show 0 < p.mo - p.fl; omega⟩)
                  have fk := own_free HI.out.kn p.to
                  have fb := own_free HI.out.by_ p.to
                  have cb := own_cell HI.out.by_ (ndRow_at (fun v => cd (b v)) (show p.to < n by omega))
                  have hHz : H + 1 < wr.heap.size := (own_ge HI.out.kn rfl).2
                  have HNV := Lib.hid (show p.to < n by omega)
                  go_wp2_with fail
                  go_quiet (fail)
                  go_wp2_with (at_builtin; refine stop_in ?_)
                  refine stop_out ?_
                  refine wpList_append_own_at _ rfl _ _ 23 rfl (H + 1 + 1) 3 i0 (.int .i64 0) 1 8 Tryz.underlying23 hi0 hz0 hz1 hz2 rfl (by decide) (.slice (some ⟨g, 0, none⟩) xs.length cap) xs.length (xs.map natV) rfl ?_ ⟨wr.heap.size, 0, none⟩ 1 1 [.int .i64 (p.to : Int)] rfl rfl ?_ (by simp [Value.oneCell']) (by unfold maxLen; omega) (by omega) ?_ ?_
                  · exact HI.out.pre (by first | exact Kp.drewN _ _ _ | exact (Kp.drewN _ _ _).tr (Kp.drewN _ _ _)) p.to ⟨k, true⟩ (by simp [cd])
                  · refine one_news_at ?_ 3 _
                    simp
                  · have := HI.out.kp.size
                    simp
                    omega
                  intro v' w4 hown' hgrow hnil hat
                  have PJ := Lib.hid (PI.put (s := ⟨k, true⟩) (x := x) hgrow HI.out (by first | exact Kp.drewN _ _ _ | exact (Kp.drewN _ _ _).tr (Kp.drewN _ _ _)) rfl (by simp [cd]) hG hown' HR.out HRX.out.2 HNV.out HKT.out)
                  obtain ⟨g2, cap2, rfl⟩ := own_posn hown' (by omega)
                  have HXL := Lib.hid (show (xs ++ [p.to]).length = xs.length + 1 by simp)
                  have HX2 := Lib.hid (show (xs ++ [p.to])[j]? = some x by rw [List.getElem?_append_left (by omega)]; exact HX.out)
                  have HTK := Lib.hid (show (xs ++ [p.to]).take j = xs.take j by rw [List.take_append_of_le_length (by omega)])
                  have hre2 := PJ.out.re
                  rw [HXL.out] at hre2
                  have cx2 := own_cell hre2 (j := j) (u := natV x) (by rw [List.getElem?_map, HX2.out]; rfl)
                  replace cx2 : w4.cell? ⟨g2, j, none⟩ = some (.int .i64 (x : Int)) := cx2
                  obtain ⟨bA', oA', hA', hbA2, q0, q1, q2, q3⟩ := rd_arc (HA.out.no PJ.out.kp) HPK.out
                  cases hA'
                  have HD2 := Lib.hid (show Dn L (Rs fr (put b p.to ⟨k, true⟩)) x (k + 1) from (HDN.out.mono fun v hv => rs_put.2 (.inr hv)).succ HPK.out fun _ => ⟨fun _ _ => rs_put.2 (.inl rfl), fun h => absurd h HTX.out⟩)
                  clear hre2 hown' hgrow hnil hat cx cb fk fb n1 n2 t0 t1 t2 t3
                  go_wp2_with fail
                  go_quiet (fail)
                  go_wp2_with fail
                  go_roundw
                  case rel => exact ⟨k + 1, xs ++ [p.to], _, g2, cap2, by omega, by go_num, by rw [HXL.out], PJ.out.same (Kp.drewN _ _ _), HX2.out, HD2.out, fun y hy => (HDP.out y (by rw [← HTK.out]; exact hy)).mono fun v hv => rs_put.2 (.inr hv)⟩
                  case measure => simp [intOf]; omega
                · have hroom' : decide (p.fl < p.mo) = false := decide_eq_false hroom
                  have HD2 := Lib.hid (HDN.out.succ HPK.out fun _ => ⟨fun _ h => absurd h hroom, fun h => absurd h HTX.out⟩)
                  go_wp2_with fail
                  go_quiet (fail)
                  go_wp2_with fail
                  go_quiet (fail)
                  go_wp2_with fail
                  go_roundw
                  case rel => exact ⟨k + 1, xs, b, g, cap, by omega, by go_num, rfl, HI.out.same (by first | exact Kp.drewN _ _ _ | exact (Kp.drewN _ _ _).tr (Kp.drewN _ _ _)), HX.out, HD2.out, HDP.out⟩
                  case measure => simp [intOf]; omega
            · have hfb : ((p.fr : Int) == (x : Int)) = false := by rw [beq_eq_false_iff_ne]; omega
              have HFX := Lib.hid hfx
              clear hfx
              by_cases htx : p.to = x
              · have htb : ((p.to : Int) == (x : Int)) = true := by rw [beq_iff_eq]; omega
                have HX0 := Lib.hid htx
                clear htx e3
                cases hkt : Rs fr b p.fr with
                | true =>
                  rw [hkt] at n2
                  have HKT := Lib.hid hkt
                  clear hkt
                  have HD2 := Lib.hid (HDN.out.succ HPK.out fun _ => ⟨fun h => absurd h HFX.out, fun _ _ => HKT.out⟩)
                  go_wp2_with fail
                  go_quiet (fail)
                  go_wp2_with fail
                  go_quiet (fail)
                  go_wp2_with fail
                  go_roundw
                  case rel => exact ⟨k + 1, xs, b, g, cap, by omega, by go_num, rfl, HI.out.same (by first | exact Kp.drewN _ _ _ | exact (Kp.drewN _ _ _).tr (Kp.drewN _ _ _)), HX.out, HD2.out, HDP.out⟩
                  case measure => simp [intOf]; omega
                | false =>
                  rw [hkt] at n2
                  have HKT := Lib.hid hkt
                  clear hkt
                  by_cases hroom : 0 < p.fl
                  · have hroom' : decide (0 < p.fl) = true := decide_eq_true hroom
                    have HR := Lib.hid (show Rch L ⟨k, false⟩ p.fr x from ⟨p, HPK.out, HST.out p (List.mem_of_getElem? HPK.out), rfl, HX0.out, by show 0 < p.fl; omega⟩)
                    have fk := own_free HI.out.kn p.fr
                    have fb := own_free HI.out.by_ p.fr
                    have cb := own_cell HI.out.by_ (ndRow_at (fun v => cd (b v)) (show p.fr < n by omega))
                    have hHz : H + 1 < wr.heap.size := (own_ge HI.out.kn rfl).2
                    have HNV := Lib.hid (show p.fr < n by omega)
                    go_wp2_with fail
                    go_quiet (fail)
                    go_wp2_with fail
                    go_quiet (fail)
                    go_wp2_with (at_builtin; refine stop_in ?_)
                    refine stop_out ?_
                    refine wpList_append_own_at _ rfl _ _ 23 rfl (H + 1 + 1) 3 i0 (.int .i64 0) 1 8 Tryz.underlying23 hi0 hz0 hz1 hz2 rfl (by decide) (.slice (some ⟨g, 0, none⟩) xs.length cap) xs.length (xs.map natV) rfl ?_ ⟨wr.heap.size, 0, none⟩ 1 1 [.int .i64 (p.fr : Int)] rfl rfl ?_ (by simp [Value.oneCell']) (by unfold maxLen; omega) (by omega) ?_ ?_
                    · exact HI.out.pre (by first | exact Kp.drewN _ _ _ | exact (Kp.drewN _ _ _).tr (Kp.drewN _ _ _)) p.fr ⟨k, false⟩ (by simp [cd])
                    · refine one_news_at ?_ 3 _
                      simp
                    · have := HI.out.kp.size
                      simp
                      omega
                    intro v' w4 hown' hgrow hnil hat
                    have PJ := Lib.hid (PI.put (s := ⟨k, false⟩) (x := x) hgrow HI.out (by first | exact Kp.drewN _ _ _ | exact (Kp.drewN _ _ _).tr (Kp.drewN _ _ _)) rfl (by simp [cd]) hG hown' HR.out HRX.out.2 HNV.out HKT.out)
                    obtain ⟨g2, cap2, rfl⟩ := own_posn hown' (by omega)
                    have HXL := Lib.hid (show (xs ++ [p.fr]).length = xs.length + 1 by simp)
                    have HX2 := Lib.hid (show (xs ++ [p.fr])[j]? = some x by rw [List.getElem?_append_left (by omega)]; exact HX.out)
                    have HTK := Lib.hid (show (xs ++ [p.fr]).take j = xs.take j by rw [List.take_append_of_le_length (by omega)])
                    have hre2 := PJ.out.re
                    rw [HXL.out] at hre2
                    have cx2 := own_cell hre2 (j := j) (u := natV x) (by rw [List.getElem?_map, HX2.out]; rfl)
                    replace cx2 : w4.cell? ⟨g2, j, none⟩ = some (.int .i64 (x : Int)) := cx2
                    obtain ⟨bA', oA', hA', hbA2, q0, q1, q2, q3⟩ := rd_arc (HA.out.no PJ.out.kp) HPK.out
                    cases hA'
                    have HD2 := Lib.hid (show Dn L (Rs fr (put b p.fr ⟨k, false⟩)) x (k + 1) from (HDN.out.mono fun v hv => rs_put.2 (.inr hv)).succ HPK.out fun _ => ⟨fun h => absurd h HFX.out, fun _ _ => rs_put.2 (.inl rfl)⟩)
                    clear hre2 hown' hgrow hnil hat cx cb fk fb n1 n2 t0 t1 t2 t3
                    go_wp2_with fail

                    go_roundw
                    case rel => exact ⟨k + 1, xs ++ [p.fr], _, g2, cap2, by omega, by go_num, by rw [HXL.out], PJ.out, HX2.out, HD2.out, fun y hy => (HDP.out y (by rw [← HTK.out]; exact hy)).mono fun v hv => rs_put.2 (.inr hv)⟩
                    case measure => simp [intOf]; omega
                  · have hroom' : decide (0 < p.fl) = false := decide_eq_false hroom
                    have HD2 := Lib.hid (HDN.out.succ HPK.out fun _ => ⟨fun h => absurd h HFX.out, fun _ h => absurd h hroom⟩)
                    go_wp2_with fail
                    go_quiet (fail)
                    go_wp2_with fail
                    go_quiet (fail)
                    go_wp2_with fail
                    go_roundw
                    case rel => exact ⟨k + 1, xs, b, g, cap, by omega, by go_num, rfl, HI.out.same (by first | exact Kp.drewN _ _ _ | exact (Kp.drewN _ _ _).tr (Kp.drewN _ _ _)), HX.out, HD2.out, HDP.out⟩
                    case measure => simp [intOf]; omega
              · have htb : ((p.to : Int) == (x : Int)) = false := by rw [beq_eq_false_iff_ne]; omega
                have HTX := Lib.hid htx
                clear htx e3
                have HD2 := Lib.hid (HDN.out.succ HPK.out fun _ => ⟨fun h => absurd h HFX.out, fun h => absurd h HTX.out⟩)
                go_wp2_with fail
                go_quiet (fail)
                go_wp2_with fail
                go_quiet (fail)
                go_wp2_with fail
                go_roundw
                case rel => exact ⟨k + 1, xs, b, g, cap, by omega, by go_num, rfl, HI.out.same (by first | exact Kp.drewN _ _ _ | exact (Kp.drewN _ _ _).tr (Kp.drewN _ _ _)), HX.out, HD2.out, HDP.out⟩
                case measure => simp [intOf]; omega
          · have hkk : k = L.length := by omega
            have HDF := Lib.hid (show ∀ y ∈ xs.take (j + 1), Dn L (Rs fr b) y L.length from fun y hy => by
              rw [List.take_add_one, HX.out] at hy
              rcases List.mem_append.1 hy with hy | hy
              · exact HDP.out y hy
              · simp at hy
                rw [hy]
                exact hkk ▸ HDN.out)
            clear hkk
            go_wp2_with fail
            go_roundw
            case rel => exact ⟨j + 1, xs, b, g, cap, by omega, by go_num, rfl, HI.out, HDF.out⟩
            case measure => simp [intOf]; omega
      · have HCL := Lib.hid (show Clo (Rs fr b) L from clo_of fun v hv => HDP.out v (by rw [List.take_of_length_le (by omega)]; exact HI.out.al v hv))
        go_wp2_with fail
        go_loopw [15, 16] (fun o a wq => o = .slice none 0 0 ∧ a = .int .i64 (to : Int) ∧ wq = wr) (fun _ _ _ => 0)
        case atStart => exact ⟨rfl, rfl, rfl⟩
        case round =>
          obtain ⟨rfl, rfl, rfl⟩ := hrel
          go_wp2_with fail
          go_quiet (fail)
          go_wp2_with fail
          refine bodyPost_ret (v := .tuple #[.slice none 0 0, .bool false]) (by simp [results, Tryz.results108, go_sem]) rfl ⟨HI.out.kp.tr (Kp.drewN _ _ _), .inr ⟨b, _, HI.out.lab, HCL.out, HR.out, rfl⟩⟩
    | true =>
      rw [hr] at hkn
      obtain ⟨l, hway, hd⟩ := HI.out.lab.way (rs_iff.1 hr)
      have hll := way_len HI.out.lab hway
      have HWY := Lib.hid hway
      have HD := Lib.hid hd
      have HLL := Lib.hid (show l.length ≤ n + 1 by have := HCT.out; omega)
      have hl31 : l.length ≤ 31 := by omega
      have HR := Lib.hid hr
      clear hway hd hr hll
      have hcase : (j : Int) < xs.length ∨ (xs.length : Int) ≤ j := by omega
      rcases hcase with hlt | hlt
      all_goals
        go_wp2_with fail
        clear hkn
        obtain ⟨we, rfl⟩ : ∃ we : World, we = wr := ⟨_, rfl⟩
        go_loopg [15, 16] l.length (fun gk so sa wr => ∃ (l1 l2 : List Stp) (at' : Nat), gk = l2.length ∧ sa = .int .i64 (at' : Int) ∧ l = l1 ++ l2 ∧ Flow.Way L b fr at' l2 ∧ at' < n ∧ wr.ownsRow we.heap.size 3 1 so l1.length (l1.map cdV) ∧ Kp No we wr)
        case atStart => exact ⟨[], l, to, rfl, rfl, rfl, HWY.out, hto, ⟨by simp, .inl ⟨rfl, rfl⟩⟩, Kp.refl _ _⟩
        case round =>
          obtain ⟨l1, l2, at', hgk, rfl, hl, hway, hat', hown, hkp⟩ := hrel
          have HI3 := Lib.hid (HI.out.same hkp)
          have HK3 := Lib.hid hkp
          have HO := Lib.hid hown
          have HL := Lib.hid hl
          have HGK := Lib.hid hgk
          obtain ⟨ao, co, rfl, _, _, _⟩ := own_form hown
          have kn := own_cell HI3.out.kn (tRow_at (Rs fr b) hto)
          rw [HR.out] at kn
          clear hl hgk hkp hown
          cases hway with
          | nil =>
            have hll : l = l1 := by rw [HL.out]; simp
            have HLL2 := Lib.hid hll
            clear hll
            go_wp2_with fail
            go_quiet (fail)
            go_wp2_with fail
            refine bodyPost_ret (v := .tuple #[.slice ao l1.length co, .bool true]) (by simp [results, Tryz.results108, go_sem]) rfl ⟨HI3.out.kp.tr (Kp.drewN _ _ _), .inl ⟨b, l, _, HWY.out, HD.out, HLL.out, rfl, ?_⟩⟩
            rw [HLL2.out]
            exact own_mono ((Kp.drewN (fun _ => False) _ _).owns HO.out (fun _ _ h => h)) HI.out.kp.size
          | @cons _ u s l2' hne hbs hR hw2 =>
            obtain ⟨p, hp, _, hdst, hsrc, hres⟩ := hR
            have hnb : ((at' : Int) == (fr : Int)) = false := by rw [beq_eq_false_iff_ne]; omega
            have hnb2 : ((at' : Int) != (fr : Int)) = true := by rw [bne_iff_ne]; omega
            have cb := own_cell HI3.out.by_ (ndRow_at (fun v => cd (b v)) hat')
            simp only [hbs] at cb
            have hat2 : (at' : Int) < n := by omega
            have hl1 : l1.length ≤ 31 := by have := HL.out; rw [this, List.length_append] at hl31; omega
            have HP := Lib.hid hp
            have HW2 := Lib.hid hw2
            have HBS := Lib.hid hbs
            have hHz : H < wr.heap.size := (own_ge HI3.out.by_ rfl).2
            obtain ⟨f1, f2, _⟩ := HB.out p (List.mem_of_getElem? hp)
            clear hp hw2 hne hbs
            go_wp2_with (at_builtin; refine stop_in ?_)
            refine stop_out ?_
            refine wpList_append_own_at _ rfl _ _ 23 rfl we.heap.size 3 i0 (.int .i64 0) 1 8 Tryz.underlying23 hi0 hz0 hz1 hz2 rfl (by decide) (.slice ao l1.length co) l1.length (l1.map cdV) rfl (own_kp HO.out (Kp.alloc No _ _) (fun _ _ h => h)) ⟨wr.heap.size, 0, none⟩ 1 1 [.int .i64 (cd (some s))] rfl rfl (one_news wr 3 _) (by simp [Value.oneCell']) (by unfold maxLen; omega) (by omega) (by have := HK3.out.size; simp; omega) ?_
            intro v' w5 hown' hgrow hnil hat
            have K5 := Lib.hid (show Kp No we w5 from HK3.out.trans ((Kp.alloc (fun k => we.heap.size ≤ k) _ _).tr (Kp.grown hgrow fun k hk _ => (own_ge HO.out hk).1)) fun k hk h => absurd h (by omega))
            have HI5 := Lib.hid (HI.out.same K5.out)
            have O5 := Lib.hid (show w5.ownsRow we.heap.size 3 1 v' (l1 ++ [s]).length ((l1 ++ [s]).map cdV) by rw [List.length_append, List.map_append]; exact hown')
            have cb5 := own_cell HI5.out.by_ (ndRow_at (fun v => cd (b v)) hat')
            simp only [show b at' = some s from HBS.out] at cb5
            obtain ⟨bA, oA, rfl, hbA, t0, t1, t2, t3⟩ := rd_arc (HA.out.no HI5.out.kp) HP.out
            have hjl : s.j < L.length := (List.getElem?_eq_some_iff.1 HP.out).1
            have hjl2 : (s.j : Int) < L.length := by omega
            have hj200 : (s.j : Int) ≤ 200 := by omega
            clear hown' hgrow hnil hat cb
            obtain ⟨j', fw⟩ := s
            cases fw with
            | true =>
              replace hsrc : p.fr = u := hsrc
              have HSR := Lib.hid hsrc
              simp only [cd, if_true] at cb5
              simp only at hjl hjl2 hj200 t0 t1
              clear hsrc hdst hres
              go_wp2_with fail
              go_roundg l2'.length
              case measure => have := HGK.out; rw [List.length_cons] at this; omega
              case rel => exact ⟨l1 ++ [⟨j', true⟩], l2', u, rfl, by rw [HSR.out], by rw [HL.out]; simp, HW2.out, by have := HSR.out; omega, O5.out, K5.out⟩
            | false =>
              replace hsrc : p.to = u := hsrc
              have HSR := Lib.hid hsrc
              simp only [cd, Bool.false_eq_true, if_false] at cb5
              simp only at hjl hjl2 hj200 t0 t1
              have hjj : (-1 : Int) - (-1 - (j' : Int)) = (j' : Int) := by omega
              clear hsrc hdst hres
              go_wp2_with fail
              go_roundg l2'.length
              case measure => have := HGK.out; rw [List.length_cons] at this; omega
              case rel => exact ⟨l1 ++ [⟨j', false⟩], l2', u, rfl, by rw [HSR.out], by rw [HL.out]; simp, HW2.out, by have := HSR.out; omega, O5.out, K5.out⟩
end Go.Proofs.YtpkbpeeelpgmcaaGreat
