/- Chapter 14: the walk of the reference's push. -/
import Derived.Test.YtpkbpeeelpgmcaaGreatXNwPth
import Derived.Test.YtpkbpeeelpgmcaaGreatXNwBaseM
namespace Go.Proofs.YtpkbpeeelpgmcaaGreat
open Go.RowKit Go.Kq Go.Flow

/-- Arcs of the call's own, anywhere in their block. -/
structure Arcs (w : World) (base g o m : Nat) (L : List Pi) : Prop where
  ge : base ≤ g
  len : L.length = m
  row : ∃ cur, w.heap[g]? = some (.cells cur 127 (0, 0)) ∧ ∀ j u, (L.flatMap a4)[j]? = some u → cur[o + j]? = some u
theorem Arcs.lt {w : World} {base g o m : Nat} {L : List Pi} (h : Arcs w base g o m L) : base ≤ g ∧ g < w.heap.size := by
  obtain ⟨cur, h1, _⟩ := h.row
  exact ⟨h.ge, (Array.getElem?_eq_some_iff.1 h1).1⟩
theorem Arcs.kp {S : Nat → Prop} {w w' : World} {base g o m : Nat} {L : List Pi} (h : Arcs w base g o m L) (hk : Kp S w w') (hS : ¬ S g) : Arcs w' base g o m L := by
  obtain ⟨cur, h1, h2⟩ := h.row
  exact ⟨h.ge, h.len, cur, hk.heap h1 hS, h2⟩
theorem Arcs.cell {w : World} {base g o m : Nat} {L : List Pi} (h : Arcs w base g o m L) {i : Nat} {p : Pi} (hp : L[i]? = some p) {j : Nat} {u : Value} (hj : (a4 p)[j]? = some u) : w.cell? ⟨g, o + i * 4 + j, none⟩ = some u ∧ w.frozen? ⟨g, o + i * 4 + j, none⟩ = false := by
  obtain ⟨cur, h1, h2⟩ := h.row
  refine ⟨?_, by simp [World.frozen?, h1]⟩
  rw [cell_of_row w g _ cur 127 (0, 0) h1, show o + i * 4 + j = o + (i * 4 + j) by omega]
  exact h2 _ u (flat_at a4_len L i p j u hp hj)
theorem Arcs.rd {w : World} {base g o m : Nat} {L : List Pi} (h : Arcs w base g o m L) : Rd a4 4 w (some ⟨g, o, none⟩) m L :=
  ⟨h.len, fun _ _ hv => ⟨g, o, rfl, h.lt.2, fun _ _ hj => (h.cell hv hj).1⟩⟩
theorem Arcs.set {w : World} {base g o m : Nat} {L : List Pi} (h : Arcs w base g o m L) {i : Nat} {p : Pi} (hp : L[i]? = some p) (f : Int) : Arcs (w.setCell ⟨g, o + i * 4 + 3, none⟩ (.int .i64 f)) base g o m (L.set i { p with fl := f }) := by
  obtain ⟨cur, h1, h2⟩ := h.row
  refine ⟨h.ge, by rw [List.length_set]; exact h.len, cur.setIfInBounds (o + i * 4 + 3) (.int .i64 f), ?_, fun j u hj => ?_⟩
  · simp [World.setCell, Array.getElem?_modify, h1]
  · have e := flat_set a4_len L i p { p with fl := f } 3 (.int .i64 f) hp (by decide) rfl
    rw [← e, List.getElem?_set] at hj
    rw [Array.getElem?_setIfInBounds]
    have hlt : i * 4 + 3 < (L.flatMap a4).length := by
      rw [flat_len a4_len]
      have := (List.getElem?_eq_some_iff.1 hp).1
      omega
    have hin : o + (i * 4 + 3) < cur.size := by
      have := h2 (i * 4 + 3) _ (List.getElem?_eq_getElem hlt)
      exact (Array.getElem?_eq_some_iff.1 this).1
    by_cases e2 : i * 4 + 3 = j
    · subst e2
      rw [if_pos rfl, if_pos hlt] at hj
      rw [if_pos (by omega), if_pos (by omega)]
      exact hj
    · rw [if_neg e2] at hj
      rw [if_neg (by omega)]
      exact h2 j u hj
theorem Arcs.step {w : World} {base g o m : Nat} {L : List Pi} (h : Arcs w base g o m L) {s : Stp} {p : Pi} (hp : L[s.j]? = some p) (n : Int) : Arcs (w.setCell ⟨g, o + s.j * 4 + 3, none⟩ (.int .i64 (if s.fw then p.fl + n else p.fl - n))) base g o m (bump n s L) := by
  rw [bump_is hp]
  exact h.set hp _
theorem leastOf_bd {L : List Pi} {b : Nat → Option Stp} {fr v : Nat} {l : List Stp} (h : Flow.Way L b fr v l) (hl : l ≠ []) {M : Int} (hf : ∀ p ∈ L, p.fl ≤ M ∧ p.mo - p.fl ≤ M) (m : Int) : Flow.leastOf L l m ≤ M := by
  cases h with
  | nil => exact absurd rfl hl
  | @cons _ u s l' _ _ hR _ =>
    obtain ⟨p, hp, _⟩ := hR
    have h1 := (leastOf_le L (s :: l') m).2 s (by simp) p hp
    have h2 := hf p (List.mem_of_getElem? hp)
    unfold Stp.res at h1
    split at h1 <;> omega
theorem push_bound {L L' : List Pi} {s t : Nat} {d M : Int} (hp : Pushed L L' s t d) (hz : ∀ p ∈ L, p.fl = 0) (hst : s ≠ t) (hM : cut (fun v => decide (v = s)) L ≤ M) : d ≤ M := by
  have h1 := hp.dv (ind fun v => decide (v = s))
  rw [ind_t (by simp), ind_f (by simp [Ne.symm hst])] at h1
  have h2 := weak (fun v => decide (v = s)) L' hp.fit
  rw [cut_same hp.same] at h2
  have h3 : dv (ind fun v => decide (v = s)) L = 0 := by
    clear h1 h2 hM hp
    induction L with
    | nil => rfl
    | cons p l ih => rw [dv, ih fun q hq => hz q (by simp [hq]), hz p (by simp)]; simp
  omega
theorem take_snoc' {α : Type} {l : List α} {k : Nat} {x : α} (h : l[k]? = some x) : l.take (k + 1) = l.take k ++ [x] := by
  rw [List.take_add_one, h]
  rfl
theorem dist_ne {l : List Stp} (hd : Dist l) {k : Nat} {s : Stp} (h : l[k]? = some s) : ∀ t ∈ l.take k, t.j ≠ s.j := fun t ht => by
  obtain ⟨i, hi⟩ := List.mem_iff_getElem?.1 ht
  rw [List.getElem?_take] at hi
  split at hi
  · rename_i hik
    obtain ⟨i1, e1⟩ := List.getElem?_eq_some_iff.1 hi
    obtain ⟨i2, e2⟩ := List.getElem?_eq_some_iff.1 h
    have := List.pairwise_iff_getElem.1 hd i k i1 i2 hik
    rw [e1, e2] at this
    exact this
  · cases hi
theorem way_at {L : List Pi} {b : Nat → Option Stp} {fr v : Nat} {l : List Stp} (h : Flow.Way L b fr v l) : ∀ s ∈ l, ∃ p, L[s.j]? = some p := by
  induction h with
  | nil => exact fun s hs => by cases hs
  | cons _ _ hR _ ih =>
    intro t ht
    rcases List.mem_cons.1 ht with rfl | ht
    · obtain ⟨p, hp, _⟩ := hR
      exact ⟨p, hp⟩
    · exact ih t ht
/-- What push returns. -/
def PushR (w : World) (base g o m : Nat) (L : List Pi) (s t : Nat) (e : Ending) (w' : World) : Prop :=
  ∃ L' d, e = .returned (.int .i64 d) ∧ Arcs w' base g o m L' ∧ Pushed L L' s t d ∧ 0 ≤ d ∧ (∃ b m, Lab L' s b m ∧ Clo (Rs s b) L' ∧ Rs s b t = false) ∧ Kp (One g) w w'
set_option maxHeartbeats 8000000 in
set_option maxRecDepth 100000 in
theorem rpush_any (L : List Pi) (base g o m ca n s t : Nat) (M : Int) (w : World) (hA : Arcs w base g o m L) (hst : ∀ p ∈ L, p.st = false) (hb : ∀ p ∈ L, p.fr < n ∧ p.to < n ∧ p.fr ≠ p.to) (hmo : ∀ p ∈ L, 0 ≤ p.mo ∧ p.mo ≤ 1152921504606846976) (hz : ∀ p ∈ L, p.fl = 0) (hM : cut (fun v => decide (v = s)) L ≤ M) (hM2 : M ≤ 10000000000000000) (hn : n ≤ 30) (hs : s < n) (ht : t < n) (hne : s ≠ t) (hL : m ≤ 200) :
    Calls Tryz.prog 78 #[.slice (some ⟨g, o, none⟩) m ca, .int .i64 n, .int .i64 s, .int .i64 t] w fun e w' => PushR w base g o m L s t e w' := by
  have hfit : Fit L := fun p hp => by have := hmo p hp; have := hz p hp; omega
  have HA := Lib.hid hA
  have HST := Lib.hid hst
  have HB := Lib.hid hb
  have HMO := Lib.hid hmo
  have HZ := Lib.hid hz
  have HM := Lib.hid hM
  have HFIT := Lib.hid hfit
  have HNE := Lib.hid hne
  have hM0 : 0 ≤ M := by
    have h1 := cut_ge (R := fun v => decide (v = s)) L fun p hp => (hmo p hp).1
    omega
  have hgz0 := hA.lt.2
  clear hA hst hb hmo hz hM hfit hne
  go_enter Tryz.func78, Tryz.ntmps78
  go_wp2_with fail
  go_loopg [9] M.toNat (fun gk sv wr => ∃ (L' : List Pi) (sum : Int), gk = (M - sum).toNat ∧ sv = .int .i64 sum ∧ Arcs wr base g o m L' ∧ Pushed L L' s t sum ∧ 0 ≤ sum ∧ sum ≤ M ∧ Kp (One g) w wr)
  case atStart => exact ⟨L, 0, by omega, rfl, HA.out, Pushed.refl HFIT.out _ _, by omega, hM0, Kp.refl _ _⟩
  case round =>
    obtain ⟨L', sum, hgk, rfl, harc, hpu, hs0, hs1, hkp⟩ := hrel
    have HGK := Lib.hid hgk
    have HARC := Lib.hid harc
    have HP := Lib.hid hpu
    have HKP := Lib.hid hkp
    have hgw := harc.lt.2
    have HLN := Lib.hid harc.len
    have HST' := Lib.hid (same_st hpu.same HST.out)
    have HB' := Lib.hid (show ∀ p ∈ L', (p.fr < n ∧ p.to < n ∧ p.fr ≠ p.to) ∧ 0 ≤ p.fl ∧ p.fl ≤ p.mo ∧ p.mo ≤ 1152921504606846976 from fun q hq => by
      have hf := hpu.fit q hq
      obtain ⟨i, hi⟩ := List.mem_iff_getElem?.1 hq
      obtain ⟨p, hp, e1, e2, e3⟩ := sk_at (hpu.same.sk) hi
      have h1 := HB.out p (List.mem_of_getElem? hp)
      have h2 := HMO.out p (List.mem_of_getElem? hp)
      rw [e1, e2] at h1
      exact ⟨h1, hf.1, hf.2, by omega⟩)
    have HC := Lib.hid (path_any L' (some ⟨g, o, none⟩) ca n s t wr (by rw [harc.len]; exact harc.rd) HST'.out (fun p hp => (HB'.out p hp).1) hn hs ht (by rw [harc.len]; exact hL))
    rw [harc.len] at HC
    clear hgk harc hpu hkp
    go_wp2_with fail
    refine HC.out.mono ?_
    clear HC
    rintro e w1 ⟨hk1, ⟨b, l, v, hway, hd, hll, rfl, hown⟩ | ⟨b, mm, hlab, hclo, hno, rfl⟩⟩
    · have hne0 : 0 < l.length := by
        cases l with
        | nil => cases hway; exact absurd rfl HNE.out
        | cons _ _ => simp
      obtain ⟨gv, cv, rfl⟩ := own_posn hown hne0
      have hgv := own_ge hown (g := gv) rfl
      have HOW := Lib.hid hown
      have HWY := Lib.hid hway
      have HD := Lib.hid hd
      have HK1 := Lib.hid hk1
      have HARC1 := Lib.hid (HARC.out.kp hk1 (fun h => h))
      have hl31 : l.length ≤ 31 := by omega
      have hgne : gv ≠ g := by omega
      have hgz1 : g < w1.heap.size := by omega
      clear hown hway hd hk1
      go_wp2_with fail
      go_loopw [12, 13] (fun nv i wr => ∃ (k : Nat) (nn : Int), k ≤ l.length ∧ i = .int .i64 k ∧ nv = .int .i64 nn ∧ nn = Flow.leastOf L' (l.take k) 4611686018427387904 ∧ 0 ≤ nn ∧ nn ≤ 4611686018427387904 ∧ Kp No w1 wr) (fun _ i _ => l.length - (intOf i).toNat)
      case atStart => exact ⟨0, _, by omega, rfl, rfl, by simp [Flow.leastOf], by omega, by omega, Kp.refl _ _⟩
      case round =>
        obtain ⟨k, nn, hk, rfl, rfl, hnn, hn0, hn1, hkp⟩ := hrel
        have HNN := Lib.hid hnn
        have HK2 := Lib.hid hkp
        have O2 := own_kp HOW.out hkp (fun _ _ h => h)
        have A2 := HARC1.out.kp hkp (fun h => h)
        have hgz2 := A2.lt.2
        clear hnn hkp
        by_cases hlt : (k : Int) < l.length
        · obtain ⟨st, hsk⟩ : ∃ st, l[k]? = some st := ⟨_, List.getElem?_eq_getElem (by omega)⟩
          obtain ⟨p, hp⟩ := way_at HWY.out st (List.mem_of_getElem? hsk)
          have cw := own_cell O2 (j := k) (u := cdV st) (by rw [List.getElem?_map, hsk]; rfl)
          have x2 := (A2.cell hp (j := 2) rfl).1
          have x3 := (A2.cell hp (j := 3) rfl).1
          obtain ⟨_, p0, p1, p2⟩ := HB'.out p (List.mem_of_getElem? hp)
          have HLS := Lib.hid (leastOf_snoc L' st p hp (l.take k) 4611686018427387904)
          have HTK := Lib.hid (take_snoc' hsk)
          have hjm : (st.j : Int) < m := by have := (List.getElem?_eq_some_iff.1 hp).1; have := HLN.out; omega
          have hj0 : (0 : Int) ≤ (st.j : Int) := by omega
          have hj200 : (st.j : Int) ≤ 200 := by omega
          have hkl : k < l.length := by omega
          clear O2 A2 hsk hp
          obtain ⟨j, fw⟩ := st
          simp only at hjm hj0 hj200 x2 x3
          cases fw with
          | true =>
            replace cw : wr.cell? ⟨gv, k, none⟩ = some (.int .i64 (j : Int)) := cw
            by_cases hlm : nn ≤ p.mo - p.fl
            · have HLM := Lib.hid (show nn = Flow.leastOf L' (l.take (k + 1)) 4611686018427387904 by rw [HTK.out, HLS.out, ← HNN.out]; exact (Int.min_eq_left hlm).symm)
              go_wp2_with fail
              go_quiet (fail)
              go_wp2_with fail
              go_roundw
              case rel => exact ⟨k + 1, nn, by omega, by go_num, by first | rfl | (congr 1; omega), HLM.out, hn0, hn1, HK2.out.tr (Kp.drewN _ _ _)⟩
              case measure => simp [intOf]; omega
            · have hlm2 : p.mo - p.fl < nn := by omega
              have HLM := Lib.hid (show p.mo - p.fl = Flow.leastOf L' (l.take (k + 1)) 4611686018427387904 by rw [HTK.out, HLS.out, ← HNN.out]; exact (Int.min_eq_right (Int.le_of_lt hlm2)).symm)
              clear hlm
              go_wp2_with fail
              go_quiet (fail)
              go_wp2_with fail
              go_roundw
              case rel => exact ⟨k + 1, p.mo - p.fl, by omega, by go_num, by first | rfl | (congr 1; omega), HLM.out, by omega, by omega, HK2.out.tr (Kp.drewN _ _ _)⟩
              case measure => simp [intOf]; omega
          | false =>
            replace cw : wr.cell? ⟨gv, k, none⟩ = some (.int .i64 (-1 - (j : Int))) := cw
            have hjj : (-1 : Int) - (-1 - (j : Int)) = (j : Int) := by omega
            by_cases hlm : nn ≤ p.fl
            · have HLM := Lib.hid (show nn = Flow.leastOf L' (l.take (k + 1)) 4611686018427387904 by rw [HTK.out, HLS.out, ← HNN.out]; exact (Int.min_eq_left hlm).symm)
              go_wp2_with fail
              go_roundw
              case rel => exact ⟨k + 1, nn, by omega, by go_num, by first | rfl | (congr 1; omega), HLM.out, hn0, hn1, HK2.out⟩
              case measure => simp [intOf]; omega
            · have hlm2 : p.fl < nn := by omega
              have HLM := Lib.hid (show p.fl = Flow.leastOf L' (l.take (k + 1)) 4611686018427387904 by rw [HTK.out, HLS.out, ← HNN.out]; exact (Int.min_eq_right (Int.le_of_lt hlm2)).symm)
              clear hlm
              go_wp2_with fail
              go_roundw
              case rel => exact ⟨k + 1, p.fl, by omega, by go_num, by first | rfl | (congr 1; omega), HLM.out, by omega, by omega, HK2.out⟩
              case measure => simp [intOf]; omega
        · have HN := Lib.hid (show nn = Flow.leastOf L' l 4611686018427387904 by have := HNN.out; rwa [List.take_of_length_le (by omega)] at this)
          have HNP := Lib.hid (leastOf_pos HWY.out 4611686018427387904 (by omega))
          have hnp : 0 < nn := by rw [HN.out]; exact HNP.out
          have hnb : nn ≤ 1152921504606846976 := by
            rw [HN.out]
            exact leastOf_bd HWY.out (by intro h; rw [h] at hne0; simp at hne0) (fun p hp => by have := HB'.out p hp; omega) _
          have HLL := Lib.hid (show ∀ s ∈ l, ∀ p, L'[s.j]? = some p → nn ≤ s.res p by rw [HN.out]; exact (leastOf_le L' l 4611686018427387904).2)
          have HPW := Lib.hid (HP.out.trans (Pushed.way HP.out.fit HWY.out HD.out (Int.le_of_lt hnp) HLL.out))
          have hsn := push_bound HPW.out HZ.out HNE.out HM.out
          have O3 := Lib.hid (own_kp HOW.out HK2.out (fun _ _ h => h))
          have A3 := Lib.hid (HARC1.out.kp HK2.out (fun h => h))
          have K3 := Lib.hid ((HKP.out.no HK1.out).no HK2.out)
          have hgz3 := A3.out.lt.2
          clear HNN HN HNP HK2
          go_wp2_with fail
          obtain ⟨wo, rfl⟩ : ∃ wo : World, wo = wr := ⟨_, rfl⟩
          go_loopw [14] (fun i wr => ∃ k : Nat, k ≤ l.length ∧ i = .int .i64 k ∧ Arcs wr base g o m (aug nn (l.take k) L') ∧ Kp (One g) wo wr) (fun i _ => l.length - (intOf i).toNat)
          case atStart => exact ⟨0, by omega, rfl, A3.out, Kp.refl _ _⟩
          case round =>
            obtain ⟨k, hk, rfl, harc, hkp⟩ := hrel
            have HK4 := Lib.hid hkp
            have A4 := Lib.hid harc
            have O4 := own_kp O3.out hkp (fun g1 hg1 e => by have e2 : g1 = g := e; have : some gv = some g1 := hg1; injection this; omega)
            have hgz4 := harc.lt.2
            have hgv4 := (own_ge O4 (g := gv) rfl).2
            clear hkp harc
            by_cases hlt : (k : Int) < l.length
            · obtain ⟨st, hsk⟩ : ∃ st, l[k]? = some st := ⟨_, List.getElem?_eq_getElem (by omega)⟩
              obtain ⟨p, hp⟩ := way_at HWY.out st (List.mem_of_getElem? hsk)
              have hpa : (aug nn (l.take k) L')[st.j]? = some p := (aug_ne _ L' (dist_ne HD.out hsk)).trans hp
              have cw := own_cell O4 (j := k) (u := cdV st) (by rw [List.getElem?_map, hsk]; rfl)
              have x3 := (A4.out.cell hpa (j := 3) rfl).1
              have f3 := (A4.out.cell hpa (j := 3) rfl).2
              obtain ⟨_, p0, p1, p2⟩ := HB'.out p (List.mem_of_getElem? hp)
              have hres := HLL.out st (List.mem_of_getElem? hsk) p hp
              have HA5 := Lib.hid (A4.out.step hpa nn)
              have HAS := Lib.hid (show aug nn (l.take (k + 1)) L' = bump nn st (aug nn (l.take k) L') by rw [take_snoc' hsk, aug_snoc])
              have hjm : (st.j : Int) < m := by have := (List.getElem?_eq_some_iff.1 hp).1; have := HLN.out; omega
              have hj0 : (0 : Int) ≤ (st.j : Int) := by omega
              have hj200 : (st.j : Int) ≤ 200 := by omega
              have hkl : k < l.length := by omega
              clear O4 hsk hp hpa
              obtain ⟨j, fw⟩ := st
              simp only at hjm hj0 hj200 x3 f3 HA5
              cases fw with
              | true =>
                replace cw : wr.cell? ⟨gv, k, none⟩ = some (.int .i64 (j : Int)) := cw
                replace hres : nn ≤ p.mo - p.fl := hres
                simp only [if_true] at HA5
                have hsum : IntKind.i64.wrap (p.fl + nn) = p.fl + nn := IntWalk.i64_in _ (by omega)
                go_wp2_with fail
                go_region
                clear hsum
                go_wp2_with fail
                go_roundw
                case rel => exact ⟨k + 1, by omega, by go_num, by rw [HAS.out]; exact HA5.out.kp (Kp.drew No _) (fun h => h), HK4.out.tr ((kp_setOne _ _ _ _).tr (Kp.drew _ _))⟩
                case measure => simp [intOf]; omega
              | false =>
                replace cw : wr.cell? ⟨gv, k, none⟩ = some (.int .i64 (-1 - (j : Int))) := cw
                replace hres : nn ≤ p.fl := hres
                simp only [Bool.false_eq_true, if_false] at HA5
                have hjj : IntKind.i64.wrap ((-1 : Int) - (-1 - (j : Int))) = (j : Int) := by rw [IntWalk.i64_in _ (by omega)]; omega
                have hsum : IntKind.i64.wrap (p.fl - nn) = p.fl - nn := IntWalk.i64_in _ (by omega)
                go_wp2_with fail
                go_region
                clear hsum hjj
                go_wp2_with fail
                go_roundw
                case rel => exact ⟨k + 1, by omega, by go_num, by rw [HAS.out]; exact HA5.out.kp (Kp.drew No _) (fun h => h), HK4.out.tr ((kp_setOne _ _ _ _).tr (Kp.drew _ _))⟩
                case measure => simp [intOf]; omega
            · have A6 := Lib.hid (show Arcs wr base g o m (aug nn l L') by have := A4.out; rwa [List.take_of_length_le (by omega)] at this)
              go_wp2_with fail
              go_roundg (M - (sum + nn)).toNat
              case measure => have := HGK.out; omega
              case rel => exact ⟨_, sum + nn, rfl, rfl, A6.out, HPW.out, by omega, hsn, K3.out.tr HK4.out⟩
    · have HCL := Lib.hid (show ∃ b m, Lab L' s b m ∧ Clo (Rs s b) L' ∧ Rs s b t = false from ⟨b, mm, hlab, hclo, hno⟩)
      have HK1 := Lib.hid hk1
      clear hlab hclo hno hk1
      go_wp2_with fail
      go_ret
      exact ⟨L', sum, rfl, HARC.out.kp HK1.out (fun h => h), HP.out, hs0, HCL.out, HKP.out.no HK1.out⟩
end Go.Proofs.YtpkbpeeelpgmcaaGreat
