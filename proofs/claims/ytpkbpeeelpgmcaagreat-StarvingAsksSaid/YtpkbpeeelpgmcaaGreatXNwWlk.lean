/- Chapter 14: the walk of the closure that goes back along a way. -/
import Derived.Test.YtpkbpeeelpgmcaaGreatXNwRch
namespace Go.Proofs.YtpkbpeeelpgmcaaGreat
open Go.RowKit Go.Kq Go.Flow

theorem bump_is {n : Int} {s : Stp} {L : List Pi} {p : Pi} (h : L[s.j]? = some p) : bump n s L = L.set s.j { p with fl := if s.fw then p.fl + n else p.fl - n } := by
  refine List.ext_getElem? fun i => ?_
  by_cases e : s.j = i
  · subst e
    have hlt := (List.getElem?_eq_some_iff.1 h).1
    rw [bump_at h, List.getElem?_set_self hlt]
  · rw [bump_ne e, List.getElem?_set_ne e]
theorem aug_snoc (n : Int) (s : Stp) : ∀ (l : List Stp) (L : List Pi), aug n (l ++ [s]) L = bump n s (aug n l L)
  | [], _ => rfl
  | t :: l, L => by rw [List.cons_append, aug, aug_snoc n s l, aug]
theorem leastOf_snoc (L : List Pi) (s : Stp) (p : Pi) (h : L[s.j]? = some p) : ∀ (l : List Stp) (m : Int), Flow.leastOf L (l ++ [s]) m = min (Flow.leastOf L l m) (s.res p)
  | [], m => by simp [Flow.leastOf, h]
  | t :: l, m => by rw [List.cons_append, Flow.leastOf, leastOf_snoc L s p h l, Flow.leastOf]
/-- A web whose pipe has another flow now. -/
theorem Web.flow {w : World} {base B V g cap : Nat} {L : List Pi} {j : Nat} {p : Pi} {f : Int} (h : Web w base B V (.slice (some ⟨g, 0, none⟩) L.length cap) L) (hp : L[j]? = some p) :
    Web (w.setCell ⟨g, j * 5 + 3, none⟩ (.int .i64 f)) base B V (.slice (some ⟨g, 0, none⟩) (L.set j { p with fl := f }).length cap) (L.set j { p with fl := f }) := by
  have hne : g ≠ B := fun e => own_other h.row h.head (by decide) (by rw [e]; rfl)
  refine ⟨h.ge, by rw [List.length_set]; exact (kp_setOne w g _ _).heap h.head fun e => hne e.symm, ?_⟩
  have h1 := own_set h.row (j * 5 + 3) (.int .i64 f)
  rw [flat_set c5_len L j p { p with fl := f } 3 (.int .i64 f) hp (by decide) rfl] at h1
  simpa using h1
theorem Web.step {w : World} {base B V g cap N : Nat} {L : List Pi} {s : Stp} {p : Pi} {n : Int} (h : Web w base B V (.slice (some ⟨g, 0, none⟩) N cap) L) (hN : L.length = N) (hp : L[s.j]? = some p) :
    Web (w.setCell ⟨g, s.j * 5 + 3, none⟩ (.int .i64 (if s.fw then p.fl + n else p.fl - n))) base B V (.slice (some ⟨g, 0, none⟩) N cap) (bump n s L) := by
  subst hN
  have h1 := h.flow hp (f := if s.fw then p.fl + n else p.fl - n)
  rw [List.length_set] at h1
  rw [bump_is hp]
  exact h1
/-- What the closure captures. -/
structure Cap (w : World) (M Su To Fr By Wp : Nat) (most sum : Int) (to fr G V B : Nat) (b : Nat → Option Stp) : Prop where
  m : w.heap[M]? = some (.cells #[.int .i64 most] 2 (0, 0))
  s : w.heap[Su]? = some (.cells #[.int .i64 sum] 2 (0, 0))
  t : w.heap[To]? = some (.cells #[.int .i64 to] 3 (0, 0))
  f : w.heap[Fr]? = some (.cells #[.int .i64 fr] 3 (0, 0))
  y : w.heap[By]? = some (.cells #[.slice (some ⟨G, 0, none⟩) (V + 1) (V + 1)] 23 (0, 0))
  p : w.heap[Wp]? = some (.cells #[.pointer (some ⟨B, 0, none⟩)] 90 (0, 0))
  l : w.heap[G]? = some (.cells (lbl V b) 3 (0, 0))
theorem cell_one {w : World} {b : Nat} {v : Value} {t : TypeId} (h : w.heap[b]? = some (.cells #[v] t (0, 0))) : w.cell? ⟨b, 0, none⟩ = some v := by
  rw [cell_of_row w b 0 _ _ _ h]
  rfl
theorem Cap.kp {S : Nat → Prop} {w w' : World} {M Su To Fr By Wp : Nat} {most sum : Int} {to fr G V B : Nat} {b : Nat → Option Stp} (h : Cap w M Su To Fr By Wp most sum to fr G V B b) (hk : Kp S w w') (hS : ∀ k c t, S k → w.heap[k]? = some (.cells c t (0, 0)) → t = 98) : Cap w' M Su To Fr By Wp most sum to fr G V B b := by
  refine ⟨hk.heap h.m ?_, hk.heap h.s ?_, hk.heap h.t ?_, hk.heap h.f ?_, hk.heap h.y ?_, hk.heap h.p ?_, hk.heap h.l ?_⟩
  · intro hs; exact absurd (hS _ _ _ hs h.m) (by decide)
  · intro hs; exact absurd (hS _ _ _ hs h.s) (by decide)
  · intro hs; exact absurd (hS _ _ _ hs h.t) (by decide)
  · intro hs; exact absurd (hS _ _ _ hs h.f) (by decide)
  · intro hs; exact absurd (hS _ _ _ hs h.y) (by decide)
  · intro hs; exact absurd (hS _ _ _ hs h.p) (by decide)
  · intro hs; exact absurd (hS _ _ _ hs h.l) (by decide)
theorem row_type {w : World} {base n : Nat} {e : TypeId} {size : Nat} {v : Value} {xs : List Value} (h : w.ownsRow base e size v n xs) {k : Nat} {c : Array Value} {t : TypeId} (hk : v.ownBlock = some k) (hc : w.heap[k]? = some (.cells c t (0, 0))) : t = e := by
  rcases h.2 with ⟨rfl, _⟩ | ⟨g1, _, _, rfl, _, hh, _⟩
  · cases hk
  · cases hk
    rw [hh] at hc
    injection hc with hc
    injection hc with _ ht
    exact ht.symm
def Row (sl : Value) : Nat → Prop := fun k => sl.ownBlock = some k
set_option maxHeartbeats 8000000 in
set_option maxRecDepth 100000 in
theorem walk_any (base B V : Nat) (g cap : Nat) (L : List Pi) (M Su To Fr By Wp : Nat) (most sum : Int) (to fr G : Nat) (b : Nat → Option Stp) (l : List Stp) (n : Int) (w : World)
    (hW : Web w base B V (.slice (some ⟨g, 0, none⟩) L.length cap) L) (hC : Cap w M Su To Fr By Wp most sum to fr G V B b) (hway : Flow.Way L b fr to l) (hd : Dist l) (hto : to ≤ V) (hb : ∀ v, b v ≠ none → v ≤ V) (hL : L.length ≤ 100) (_hV : V ≤ 30)
    (hfit : ∀ p ∈ L, p.fr ≤ V ∧ p.to ≤ V ∧ 0 ≤ p.fl ∧ p.fl ≤ p.mo ∧ p.mo ≤ 200000000000000) (hms : 0 ≤ sum ∧ sum ≤ most ∧ most ≤ 200000000000000) (hn : 0 ≤ n ∧ n ≤ 200000000000000) :
    Calls Tryz.prog 75 #[.int .i64 n, .pointer (some ⟨M, 0, none⟩), .pointer (some ⟨Su, 0, none⟩), .pointer (some ⟨To, 0, none⟩), .pointer (some ⟨Fr, 0, none⟩), .pointer (some ⟨By, 0, none⟩), .pointer (some ⟨Wp, 0, none⟩)] w fun e w' =>
      e = .returned (.int .i64 (Flow.leastOf L l (most - sum))) ∧ Web w' base B V (.slice (some ⟨g, 0, none⟩) L.length cap) (aug n l L) ∧ Kp (One g) w w' := by
  have cm := cell_one hC.m
  have cs := cell_one hC.s
  have ct := cell_one hC.t
  have cf := cell_one hC.f
  have cy := cell_one hC.y
  have cp := cell_one hC.p
  have HC := Lib.hid hC
  have HW := Lib.hid hW
  have HWY := Lib.hid hway
  have HD := Lib.hid hd
  have HB := Lib.hid hb
  have HF := Lib.hid hfit
  clear hC hW hway hd hb hfit
  go_enter Tryz.func75, Tryz.ntmps75
  go_wp2_with fail
  go_loopg [9, 10] l.length (fun gk sl sa wr => ∃ (l1 l2 : List Stp) (at' : Nat) (left : Int), gk = l2.length ∧ sl = .int .i64 left ∧ sa = .int .i64 at' ∧ l = l1 ++ l2 ∧ Flow.Way L b fr at' l2 ∧ left = Flow.leastOf L l1 (most - sum) ∧ 0 ≤ left ∧ left ≤ 200000000000000 ∧ at' ≤ V ∧ Web wr base B V (.slice (some ⟨g, 0, none⟩) L.length cap) (aug n l1 L) ∧ Kp (One g) w wr)
  case atStart => exact ⟨[], l, to, _, rfl, rfl, rfl, rfl, HWY.out, rfl, by omega, by omega, hto, HW.out, Kp.refl _ _⟩
  case round =>
    obtain ⟨l1, l2, at', left, hgk, rfl, rfl, hl, hway, hleft, hl0, hl1, hav, hweb, hkp⟩ := hrel
    have hcap := HC.out.kp hkp (fun k c t hk hc => row_type HW.out.row (by have : k = g := hk; rw [this]; rfl) hc)
    have dm := cell_one hcap.m
    have ds := cell_one hcap.s
    have dt := cell_one hcap.t
    have df := cell_one hcap.f
    have dy := cell_one hcap.y
    have dp := cell_one hcap.p
    obtain ⟨hd0, hd1, _, _⟩ := cell_head hweb.head
    have HWB := Lib.hid hweb
    have HWAY := Lib.hid hway
    have HL := Lib.hid hl
    have HLE := Lib.hid hleft
    have HGK := Lib.hid hgk
    have HCP := Lib.hid hcap
    clear hweb hl hleft hgk
    cases hway with
    | nil =>
      go_wp2_with fail
      go_ret
      have hll : l = l1 := by rw [HL.out]; simp
      exact ⟨ret_i64 (by rw [HLE.out, hll]), by rw [hll]; exact HWB.out, hkp⟩
    | @cons v u s l2' hne hbs hR hw2 =>
      obtain ⟨p, hp, hst, hdst, hsrc, hres⟩ := hR
      have hdl := HD.out
      rw [HL.out] at hdl
      have hdj : ∀ t ∈ l1, t.j ≠ s.j := fun t ht => (List.pairwise_append.1 hdl).2.2 t ht s (by simp)
      have hpa : (aug n l1 L)[s.j]? = some p := (aug_ne l1 L hdj).trans hp
      have hrow := HWB.out.row
      rw [aug_len] at hrow
      obtain ⟨g', hgg, hg1, hg2, hjl, hcs⟩ := own_at c5_len hrow hpa (by decide)
      cases hgg
      have x0 := (hcs 0 _ rfl).1
      have x1 := (hcs 1 _ rfl).1
      have x2 := (hcs 2 _ rfl).1
      have x3 := (hcs 3 _ rfl).1
      have z3 := (hcs 3 _ rfl).2
      rw [Nat.add_zero] at x0
      have hcl := lbl_cell hcap.l (v := at') hav
      rw [hbs] at hcl
      obtain ⟨hpf, hpt, hp0, hp1, hp2⟩ := HF.out p (List.mem_of_getElem? hp)
      have hnb : ((at' : Int) == (fr : Int)) = false := by rw [beq_eq_false_iff_ne]; omega
      have hnb2 : ((at' : Int) != (fr : Int)) = true := by rw [bne_iff_ne]; omega
      have HPA := Lib.hid hpa
      have HP := Lib.hid hp
      have HW2 := Lib.hid hw2
      have HWAY2 := HWAY
      have HLS := Lib.hid (leastOf_snoc L s p hp l1 (most - sum))
      have HAS := Lib.hid ((aug_snoc n s l1 L).trans (bump_is hpa))
      have hlen2 : (s :: l2').length = l2'.length + 1 := rfl
      have HLN := Lib.hid hlen2
      obtain ⟨j, fw⟩ := s
      have hj1 : j < L.length := hjl
      have hj2 : (j : Int) < (L.length : Int) := by omega
      have hj3 : (j : Int) ≤ 100 := by omega
      clear hjl hpa hp hw2 hdl hdj hrow hcs hst hlen2 hne hbs
      cases fw with
      | true =>
        simp only [code, if_true] at hcl
        replace hdst : p.to = at' := hdst
        replace hsrc : p.fr = u := hsrc
        replace hres : 0 < p.mo - p.fl := hres
        have HDS := Lib.hid hdst
        have HSR := Lib.hid hsrc
        clear hdst hsrc
        by_cases hlm : left ≤ p.mo - p.fl
        · have HLM := Lib.hid (show left = Flow.leastOf L (l1 ++ [⟨j, true⟩]) (most - sum) by rw [HLS.out, ← HLE.out]; exact (Int.min_eq_left hlm).symm)
          go_wp2_with fail
          go_quiet (fail)
          go_wp2_with fail
          go_roundg l2'.length
          case measure => have := HGK.out; rw [HLN.out] at this; omega
          case rel => exact ⟨l1 ++ [⟨j, true⟩], l2', u, left, rfl, rfl, by rw [HSR.out], by rw [HL.out]; simp, HW2.out, HLM.out, hl0, hl1, by have := HSR.out; omega, by rw [aug_snoc]; exact (HWB.out.no (Kp.drewN _ _ _)).step (s := ⟨j, true⟩) (by rw [aug_len]) HPA.out, (hkp.no (Kp.drewN _ _ _)).tr (kp_setOne _ _ _ _)⟩
        · have hlm2 : p.mo - p.fl < left := by omega
          have HLM := Lib.hid (show p.mo - p.fl = Flow.leastOf L (l1 ++ [⟨j, true⟩]) (most - sum) by rw [HLS.out, ← HLE.out]; exact (Int.min_eq_right (Int.le_of_lt hlm2)).symm)
          clear hlm
          go_wp2_with fail
          go_quiet (fail)
          go_wp2_with fail
          go_roundg l2'.length
          case measure => have := HGK.out; rw [HLN.out] at this; omega
          case rel => exact ⟨l1 ++ [⟨j, true⟩], l2', u, p.mo - p.fl, rfl, rfl, by rw [HSR.out], by rw [HL.out]; simp, HW2.out, HLM.out, by omega, by omega, by have := HSR.out; omega, by rw [aug_snoc]; exact (HWB.out.no (Kp.drewN _ _ _)).step (s := ⟨j, true⟩) (by rw [aug_len]) HPA.out, (hkp.no (Kp.drewN _ _ _)).tr (kp_setOne _ _ _ _)⟩
      | false =>
        simp only [code, Bool.false_eq_true, if_false] at hcl
        replace hdst : p.fr = at' := hdst
        replace hsrc : p.to = u := hsrc
        replace hres : 0 < p.fl := hres
        have hjj : (-1 : Int) - (-1 - (j : Int)) = (j : Int) := by omega
        have HDS := Lib.hid hdst
        have HSR := Lib.hid hsrc
        clear hdst hsrc
        by_cases hlm : left ≤ p.fl
        · have HLM := Lib.hid (show left = Flow.leastOf L (l1 ++ [⟨j, false⟩]) (most - sum) by rw [HLS.out, ← HLE.out]; exact (Int.min_eq_left hlm).symm)
          go_wp2_with fail
          go_roundg l2'.length
          case measure => have := HGK.out; rw [HLN.out] at this; omega
          case rel => exact ⟨l1 ++ [⟨j, false⟩], l2', u, left, rfl, rfl, by rw [HSR.out], by rw [HL.out]; simp, HW2.out, HLM.out, hl0, hl1, by have := HSR.out; omega, by rw [aug_snoc]; exact (HWB.out).step (s := ⟨j, false⟩) (by rw [aug_len]) HPA.out, hkp.tr (kp_setOne _ _ _ _)⟩
        · have hlm2 : p.fl < left := by omega
          have HLM := Lib.hid (show p.fl = Flow.leastOf L (l1 ++ [⟨j, false⟩]) (most - sum) by rw [HLS.out, ← HLE.out]; exact (Int.min_eq_right (Int.le_of_lt hlm2)).symm)
          clear hlm
          go_wp2_with fail
          go_roundg l2'.length
          case measure => have := HGK.out; rw [HLN.out] at this; omega
          case rel => exact ⟨l1 ++ [⟨j, false⟩], l2', u, p.fl, rfl, rfl, by rw [HSR.out], by rw [HL.out]; simp, HW2.out, HLM.out, by omega, by omega, by have := HSR.out; omega, by rw [aug_snoc]; exact (HWB.out).step (s := ⟨j, false⟩) (by rw [aug_len]) HPA.out, hkp.tr (kp_setOne _ _ _ _)⟩
end Go.Proofs.YtpkbpeeelpgmcaaGreat
