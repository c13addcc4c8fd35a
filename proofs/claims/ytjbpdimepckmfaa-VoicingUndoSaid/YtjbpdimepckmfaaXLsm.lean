/- Chapter 27: the law of VoicingSums. -/
import Derived.Test.YtjbpdimepckmfaaXLho
import Derived.Test.YtjbpdimepckmfaaXLcw
import Derived.Test.YtjbpdimepckmfaaXAwk
import Derived.Test.YtjbpdimepckmfaaXLsa
namespace Go.Proofs.Ytjbpdimepckmfaa
open Go.RowKit Go.Kq

theorem fm_congr {α β : Type} {f g : α → Option β} : ∀ l : List α, (∀ x ∈ l, f x = g x) → l.filterMap f = l.filterMap g
  | [], _ => rfl
  | x :: l, h => by
    rw [List.filterMap_cons, List.filterMap_cons, h x (by simp), fm_congr l fun y hy => h y (by simp [hy])]
theorem cwsB_und {l : List Wk} (hN : Names l) : cwsB l (lawL l (-1)) l.length = cws l := by
  unfold cws cntL cntU cwsB
  rw [lawL_und hN, List.map_filterMap]
  refine fm_congr _ fun j hj => ?_
  have hj := List.mem_range.1 hj
  obtain ⟨v, hv⟩ : ∃ v, l[j]? = some v := ⟨_, List.getElem?_eq_getElem hj⟩
  obtain ⟨q, hq⟩ : ∃ q, (undL l)[j]? = some q := ⟨_, List.getElem?_eq_getElem (by unfold undL; rw [undAt_len]; exact hj)⟩
  simp only [hv, isC, List.getD_eq_getElem?_getD, List.getElem?_map, hq, Option.map_some, Option.getD_some]
  cases (!q && v.kd != 4) <;> simp
theorem mem_cwsB {l : List Wk} {cs : List Bool} {n k : Nat} {u : Wk} (hk : k < n) (hu : l[k]? = some u) (hc : cs[k]? = some true) (h4 : u.kd ≠ 4) : u ∈ cwsB l cs n := by
  unfold cwsB
  refine List.mem_filterMap.2 ⟨k, List.mem_range.2 hk, ?_⟩
  simp [hu, List.getD_eq_getElem?_getD, hc, h4]
set_option maxHeartbeats 1000000 in
set_option maxRecDepth 100000 in
theorem tsums_any (A : Option Addr) (n ca : Nat) (l : List Wk) (w : World) (hx : RdW w A n l) (fa : Fits l) (ha : n ≤ ca) :
    Calls Try.prog 4 #[.slice A n ca] w fun e w' => e = .returned (.bool true) ∧ Kp No w w' := by
  have CA := rCheck_any A n ca l w hx fa ha
  by_cases h1 : chkL l = 0
  · have R := rec_of h1
    have hl := hx.1
    have hlen := R.len
    have hn : n ≤ 400 := by omega
    have HR := Lib.hid R
    have HX := Lib.hid hx
    have HF := Lib.hid fa
    have HL := Lib.hid hl
    have HB := Lib.hid (fun (s : List Pv) (hs : StRes l s) => (show IsSt (cwsB l (lawL l (-1)) n) s by rw [← hl, cwsB_und R.names]; unfold StRes at hs; rwa [if_pos h1] at hs))
    rw [h1] at CA
    have HC1 := Lib.hid h1
    clear R hx fa hl h1
    go_enter Try.func4, Try.ntmps4
    go_wp2_with fail
    with_reducible refine CA.mono ?_
    rintro e w1 ⟨rfl, hk1⟩
    clear CA
    go_wp2_with fail
    with_reducible refine (State_any A n ca l w1 (HX.out.no hk1) HF.out).mono ?_
    rw [HC1.out]
    rintro e w2 ⟨v, s, rfl, hs, hos, hk12⟩
    have hk2 := hk1.tr hk12
    have hst := HB.out s hs
    obtain ⟨A2, c2, rfl, r2⟩ := own_rdP hos
    have HST := Lib.hid hst
    have HRS := Lib.hid hs
    have HR2 := Lib.hid r2
    clear hs hst hos r2 hk1 hk12
    go_wp2_with fail
    with_reducible refine (lcount_any A n ca l (-1) w2 (HX.out.no hk2) (by omega)).mono ?_
    rintro e w3 ⟨G, rfl, hoc, hk23⟩
    have hk3 := hk2.tr hk23
    have hcs : RdB w3 (some ⟨G, 0, none⟩) n (lawL l (-1)) := by
      refine ⟨by unfold lawL; rw [lawAt_len, HL.out], fun i x hi => ⟨G, 0, rfl, (own_ge hoc (g := G) rfl).2, ?_⟩⟩
      rw [Nat.zero_add]
      exact own_cell hoc (by rw [List.getElem?_map, hi]; rfl)
    have hsl : s.length ≤ 1000 := by
      have h1 := nodup_lenP (s.map Pv.p) ((cwsB l (lawL l (-1)) n).map Wk.pp) (by
        rw [List.nodup_iff_pairwise_ne, List.pairwise_map]
        exact HST.out.1.imp fun {x y} h e => by rw [e, ltP_irr] at h; cases h) fun p hp => by
          obtain ⟨v, hv, rfl⟩ := List.mem_map.1 hp
          obtain ⟨u, hu, e⟩ := stOf_some.1 (by rw [(HST.out.2 v).1 hv]; rfl : (stOf (cwsB l (lawL l (-1)) n) v.p).isSome = true)
          exact List.mem_map.2 ⟨u, hu, e⟩
      rw [List.length_map, List.length_map] at h1
      have h2 : (cwsB l (lawL l (-1)) n).length ≤ n := by unfold cwsB; exact Nat.le_trans (List.length_filterMap_le _ _) (by simp)
      have := HL.out
      omega
    have hH := holds_any A2 A (some ⟨G, 0, none⟩) s.length n c2 ca n s l (lawL l (-1)) w3 (HR2.out.no hk23) (HX.out.no hk3) hcs hsl (by have := HL.out; omega) HR.out.ok (fun v hv => (HST.out.2 v).1 hv) (fun k u hu hc h4 => by
      have hkl := (List.getElem?_eq_some_iff.1 hu).1
      have hm := mem_cwsB (n := n) (by have := HL.out; omega) hu hc h4
      have hsome := stOf_some.2 ⟨u, hm, rfl⟩
      cases hv : stOf (cwsB l (lawL l (-1)) n) u.pp with
      | none => rw [hv] at hsome; cases hsome
      | some v =>
        have hp := stOf_p hv
        refine ⟨v, (HST.out.2 v).2 (by rw [hp]; exact hv), hp⟩)
    clear hoc hk2 hcs hk23
    go_wp2_with fail
    with_reducible refine hH.mono ?_
    rintro e w4 ⟨rfl, hk34⟩
    have hk4 := hk3.tr hk34
    clear hH hk34 hk3
    go_wp2_with fail
    with_reducible refine (awake_any w4).mono ?_
    rintro e w5 ⟨rfl, hk45⟩
    go_wp2_with fail
    go_ret
    exact ⟨rfl, hk4.tr hk45⟩
  · have q1 : (chkL l != 0) = true := by rw [bne_iff_ne]; exact h1
    generalize chkL l = x at CA q1
    clear h1
    go_enter Try.func4, Try.ntmps4
    go_wp2_with fail
    with_reducible refine CA.mono ?_
    rintro e w1 ⟨rfl, hk1⟩
    go_wp2_with fail
    with_reducible refine (awake_any w1).mono ?_
    rintro e w2 ⟨rfl, hk2⟩
    go_wp2_with fail
    go_ret
    exact ⟨rfl, hk1.tr hk2⟩
end Go.Proofs.Ytjbpdimepckmfaa
