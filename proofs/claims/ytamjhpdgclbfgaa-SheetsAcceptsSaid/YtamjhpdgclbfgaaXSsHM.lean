/- Chapter 09: slices.pdqsortCmpFunc below 50: the walk. Printed by gen_ssg.py. · Chapter 09: slices.SortFunc of less than 50 indices by the order of cuts: the walk. -/
import Derived.Test.YtamjhpdgclbfgaaXSsB
import Derived.Test.YtamjhpdgclbfgaaXSsCh
import Derived.Test.YtamjhpdgclbfgaaXSsD
import Derived.Test.YtamjhpdgclbfgaaXSsFM
import Derived.Test.YtamjhpdgclbfgaaXSsK
import Derived.Test.YtamjhpdgclbfgaaXSsQM
import Derived.Test.YtamjhpdgclbfgaaXSpyM
namespace Go.Proofs.Ytamjhpdgclbfgaa
open Go.RowKit Go.Kq Go.Sort

set_option maxHeartbeats 16000000 in
set_option maxRecDepth 100000 in
theorem pdqP_any (P : Pt) (A : Option Addr) (n ca : Nat) (l : List Ct) (base g cap m : Nat) (w : World) (hB : CmpB P A n ca l g w) (hm : m < 50) : ∀ (k fa fb : Nat) (d : Array Nat) (lim : Int) (W0 : World), fb - fa < k → fa ≤ fb → fb ≤ m → Srt base g m cap n w d W0 → d.toList.Nodup → Below (ltB l) fa fb d →
    Calls Try.prog 64 #[.slice (some ⟨g, 0, none⟩) m cap, .int .i64 (fa : Nat), .int .i64 (fb : Nat), .int .i64 lim, befV P A n ca] W0 fun e w' => e = .returned (.tuple #[]) ∧ ∃ d', PermIn fa fb d d' ∧ SortedIn (ltB l) fa fb d' ∧ Srt base g m cap n w d' w' := by
  have mixed : Try.prog.follows .mixedOrders = true := by kernel_rfl
  intro k
  induction k with
  | zero => intro fa fb d lim W0 hk; omega
  | succ k ih =>
    intro fa fb d lim W0 hk hab hb hs hn hbel
    have HB := Lib.hid hB
    have HI0 := Lib.hid (PdI.start hab (by rw [hs.sz]; exact hb) hn hbel)
    have HS := Lib.hid hs
    have HIH := Lib.hid ih
    have HINS := Lib.hid (fun (x y : Nat) (dd : Array Nat) (W : World) hs h1 h2 => insP_any P A n ca l base g cap m x y dd w W hB hs (by omega) h1 h2)
    have HHEAP := Lib.hid (fun (x y : Nat) (dd : Array Nat) (W : World) hs h1 h2 => heapP_any P A n ca l base g cap m x y dd w W hB hs (by omega) h1 h2)
    have HBRK := Lib.hid (fun (x y : Nat) (dd : Array Nat) (W : World) hs h1 h2 => brkP_any P A n ca base g cap m x y dd w W hs (by omega) h1 h2)
    have HCHO := Lib.hid (fun (x y : Nat) (dd : Array Nat) (W : World) hs h1 h2 => choP_any P A n ca l base g cap m x y dd w W hB hs hm h1 h2)
    have HREV := Lib.hid (fun (x y : Nat) (dd : Array Nat) (W : World) hs h1 h2 => revP_any P A n ca base g cap m x y dd w W hs (by omega) h1 h2)
    have HPIN := Lib.hid (fun (x y : Nat) (dd : Array Nat) (W : World) hs h1 h2 => pinsP_any P A n ca l base g cap m x y dd w W hB hs hm h1 h2)
    have HPART := Lib.hid (fun (x y z : Nat) (dd : Array Nat) (W : World) hs h1 h2 h3 => partP_any P A n ca l base g cap m x y z dd w W hB hs (by omega) h1 h2 h3)
    clear hB hs hn hbel ih
    simp only [befV, jobV] at HINS HHEAP HBRK HCHO HREV HPIN HPART HIH ⊢
    go_enter Try.func64, Try.ntmps64
    go_wp2_with fail
    go_loopw [1, 2, 3, 10, 11] (fun va vb vl vq vp wr => ∃ (ra rb : Nat) (dj : Array Nat) (lm : Int) (q p : Bool), va = .int .i64 (ra : Nat) ∧ vb = .int .i64 (rb : Nat) ∧ vl = .int .i64 lm ∧ vq = .bool q ∧ vp = .bool p ∧ PdI (ltB l) fa fb d ra rb dj ∧ Srt base g m cap n w dj wr) (fun va vb _ _ _ _ => (intOf vb - intOf va).toNat)
    case atStart => exact ⟨fa, fb, d, lim, true, true, rfl, rfl, rfl, rfl, rfl, HI0.out, HS.out⟩
    case round =>
      clear HI0 HS
      obtain ⟨ra, rb, dj, lm, q, p, rfl, rfl, rfl, rfl, rfl, hi, hsr⟩ := hrel
      have HI := Lib.hid hi
      have HS := Lib.hid hsr
      have hra := hi.ha
      have hrab := hi.hab
      have hrb := hi.hb
      clear hi hsr
      obtain ⟨len, hlen⟩ : ∃ r, r = rb - ra := ⟨_, rfl⟩
      have hwl : IntKind.i64.wrap ((rb : Int) - (ra : Int)) = ((len : Nat) : Int) := by rw [IntKind.wrap_i64]; omega
      have HLEN := Lib.hid hlen
      clear hlen
      by_cases h12 : len ≤ 12
      · have h12' : (len : Int) ≤ 12 := by omega
        go_wp2_with fail
        with_reducible refine (HINS.out ra rb dj wr HS.out hrab (by omega)).mono ?_
        rintro e w2 ⟨rfl, h⟩
        have HR := Lib.hid h
        clear h
        go_wp2_with fail
        (try simp only [Exit.inBlock, Exit.then])
        refine bodyPost_ret (results_none rfl _ _ _) rfl ?_
        obtain ⟨o1, o2⟩ := insertionSort_holds (ltB_swo l) dj ra rb hrab (Nat.le_trans hrb HI.out.hs)
        exact ⟨rfl, _, (HI.out.out o1 o2).1, (HI.out.out o1 o2).2, HR.out⟩
      · have h12' : (12 : Int) < (len : Int) := by omega
        have hge : ra + 8 ≤ rb := by have := HLEN.out; omega
        by_cases hl0 : lm = 0
        · subst hl0
          go_wp2_with fail
          with_reducible refine (HHEAP.out ra rb dj wr HS.out (by omega) (by omega)).mono ?_
          rintro e w2 ⟨rfl, h⟩
          have HR := Lib.hid h
          clear h
          go_wp2_with fail
          (try simp only [Exit.inBlock, Exit.then])
          refine bodyPost_ret (results_none rfl _ _ _) rfl ?_
          obtain ⟨o1, o2⟩ := heapSort_holds (ltB_swo l) dj ra rb hrab (Nat.le_trans hrb HI.out.hs)
          exact ⟨rfl, _, (HI.out.out o1 o2).1, (HI.out.out o1 o2).2, HR.out⟩
        · go_upto_if 39 with fail
          go_cut [3] from 21 to 147 (fun vl wx => ∃ (l2 : Int) (d2 : Array Nat), vl = .int .i64 l2 ∧ PdI (ltB l) fa fb d ra rb d2 ∧ Srt base g m cap n w d2 wx)
          case first =>
            cases q
            · go_wp2_with fail
              with_reducible refine (HBRK.out ra rb dj wr HS.out hge (by omega)).mono ?_
              rintro e w2 ⟨rfl, d2, hp, h⟩
              have HR := Lib.hid h
              have HP := Lib.hid hp
              clear h hp
              go_wp2_with fail
              go_meet
              exact ⟨_, d2, rfl, HI.out.to HP.out, HR.out⟩
            · go_wp2_with fail
              go_meet
              exact ⟨lm, dj, rfl, HI.out, HS.out⟩
          case rest =>
          obtain ⟨l2, d2, rfl, hi, hsr⟩ := hcut
          replace HI := Lib.hid hi
          replace HS := Lib.hid hsr
          clear hi hsr
          go_wp2_with fail
          with_reducible refine (HCHO.out ra rb d2 wc HS.out hge (by omega)).mono ?_
          rintro e w2 ⟨pv0, hint, rfl, hp1, hp2, hhint, h⟩
          replace HS := Lib.hid h
          have HHI := Lib.hid hhint
          clear h hhint
          go_upto_if 56 with fail
          go_cut [13, 14] from 21 to 147 (fun vp vh wx => ∃ (pv : Nat) (h : Int) (d3 : Array Nat), vp = .int .i64 (pv : Nat) ∧ vh = .int .i64 h ∧ ra ≤ pv ∧ pv < rb ∧ PdI (ltB l) fa fb d ra rb d3 ∧ Srt base g m cap n w d3 wx)
          case first =>
            by_cases h2 : hint = 2
            · subst h2
              obtain ⟨b1, hb1⟩ : ∃ r, r = rb - 1 := ⟨_, rfl⟩
              obtain ⟨p1, hp1e⟩ : ∃ r, r = pv0 - ra := ⟨_, rfl⟩
              obtain ⟨pv2, hpv2⟩ : ∃ r, r = b1 - p1 := ⟨_, rfl⟩
              have hw1 : IntKind.i64.wrap ((rb : Int) - 1) = ((b1 : Nat) : Int) := by rw [IntKind.wrap_i64]; omega
              have hw2 : IntKind.i64.wrap ((pv0 : Int) - (ra : Int)) = ((p1 : Nat) : Int) := by rw [IntKind.wrap_i64]; omega
              have hw3 : IntKind.i64.wrap ((b1 : Int) - (p1 : Int)) = ((pv2 : Nat) : Int) := by rw [IntKind.wrap_i64]; omega
              have HPV := Lib.hid (show ra ≤ pv2 ∧ pv2 < rb by omega)
              clear hb1 hp1e hpv2
              go_wp2_with fail
              with_reducible refine (HREV.out ra rb d2 w2 HS.out (by omega) (by omega)).mono ?_
              rintro e w3 ⟨rfl, d3, hp, h⟩
              have HR := Lib.hid h
              have HP := Lib.hid hp
              clear h hp
              go_wp2_with fail
              go_meet
              exact ⟨pv2, 1, d3, by go_num, rfl, HPV.out.1, HPV.out.2, HI.out.to HP.out, HR.out⟩
            · have h2' : (hint = 2) = False := eq_false h2
              go_wp2_with fail
              go_meet
              exact ⟨pv0, hint, d2, rfl, rfl, hp1, hp2, HI.out, HS.out⟩
          case rest =>
          clear HHI hp1 hp2 HS HI
          obtain ⟨pv, h, d3, rfl, rfl, hp1, hp2, hi, hsr⟩ := hcut
          have HI := Lib.hid hi
          have HS := Lib.hid hsr
          clear hi hsr
          go_upto_region 15 with fail
          go_cut [75] from 21 to 147 (fun vc wx => (∃ bb : Bool, vc = .bool bb) ∧ Srt base g m cap n w d3 wx)
          case first =>
            cases q <;> cases p
            all_goals
              go_wp2_with fail
              go_meet
              exact ⟨⟨_, rfl⟩, HS.out⟩
          case rest =>
          obtain ⟨⟨bb, rfl⟩, hsr⟩ := hcut
          replace HS := Lib.hid hsr
          clear hsr
          go_upto_if 75 with fail
          go_cut [14] from 21 to 147 (fun vh wx => vh = .int .i64 h ∧ Srt base g m cap n w d3 wx)
          case first =>
            cases bb
            · go_wp2_with fail
              go_meet
              exact ⟨rfl, HS.out⟩
            · go_wp2_with fail
              with_reducible refine (HPIN.out ra rb d3 _ HS.out (by omega) (by omega)).mono ?_
              rintro e w3 ⟨bl, rfl, hso, hr⟩
              have HR := Lib.hid hr
              have HSO := Lib.hid hso
              clear hr hso
              cases bl
              · go_wp2_with fail
                go_meet
                exact ⟨rfl, HR.out⟩
              · go_wp2_with fail
                (try simp only [Exit.inBlock, Exit.then])
                refine bodyPost_ret (results_none rfl _ _ _) rfl ?_
                exact ⟨rfl, d3, (HI.out.out (permIn_refl _ _ _) (HSO.out trivial)).1, (HI.out.out (permIn_refl _ _ _) (HSO.out trivial)).2, HR.out⟩
          case rest =>
          obtain ⟨rfl, hsr⟩ := hcut
          replace HS := Lib.hid hsr
          clear hsr
          go_upto_region 17 with fail
          go_cut [97] from 21 to 147 (fun vc wx => vc = .bool false ∧ Srt base g m cap n w d3 wx)
          case first =>
            by_cases ha0 : ra = 0
            · have hd0 : decide ((0 : Int) < (ra : Int)) = false := decide_eq_false (by omega)
              have hd1 : decide (0 < ra) = false := decide_eq_false (by omega)
              clear ha0
              go_wp2_with fail
              go_quiet (fail)
              go_wp2_with fail
              go_meet
              exact ⟨by go_num, HS.out.no (Kp.drewN No _ _)⟩
            · have hd0 : decide ((0 : Int) < (ra : Int)) = true := decide_eq_true (by omega)
              have hd1 : decide (0 < ra) = true := decide_eq_true (by omega)
              have HST := Lib.hid (HI.out.strict (ltB_total l) (by omega) hp1 hp2)
              obtain ⟨a1, ha1⟩ : ∃ r, ra - 1 = r := ⟨_, rfl⟩
              rw [ha1] at HST
              have hwa : IntKind.i64.wrap ((ra : Int) - 1) = ((a1 : Nat) : Int) := by rw [IntKind.wrap_i64]; omega
              have HA1 := Lib.hid (show a1 < m by omega)
              clear ha1
              generalize wc = wr1 at *
              obtain ⟨x, hx⟩ : ∃ x : Nat, d3[a1]! = x := ⟨_, rfl⟩
              have hxm : a1 < m := HA1.out
              have hxi : (a1 : Int) < (m : Nat) := by omega
              have gx := fun N os => HS.out.cg hxm hx N os
              obtain ⟨y, hy⟩ : ∃ x : Nat, d3[pv]! = x := ⟨_, rfl⟩
              have hym : pv < m := by omega
              have hyi : (pv : Int) < (m : Nat) := by omega
              have gy := fun N os => HS.out.cg hym hy N os
              have HC := Lib.hid (fun N os => HB.out (grow (wr1.drewN N) os) (HS.out.k.no (kp_of_grow ⟨N, os, rfl⟩)) x y (by rw [← hx]; exact HS.out.lt _ hxm) (by rw [← hy]; exact HS.out.lt _ hym))
              obtain ⟨c, hc⟩ : ∃ c, befF l x y = c := ⟨_, rfl⟩
              rw [hc] at HC
              have HLT := Lib.hid (show ltB l d3[a1]! d3[pv]! = decide (c < 0) by rw [hx, hy, ← hc]; rfl)
              clear hx hy hc
              have hneg : c < 0 := of_decide_eq_true (by rw [← HLT.out]; exact HST.out)
              have hdn : decide (c < 0) = true := decide_eq_true hneg
              have HL := Lib.hid (show ltB l d3[a1]! d3[pv]! = true by rw [HLT.out, hdn])
              go_wp2_with fail
              go_quiet_grown (first | (go_at_call 37; refine Calls.grown_of (HC.out _ _)))
              have HS2 := Lib.hid (HS.out.grown ⟨nq, osq, rfl⟩)
              clear HC HLT gx gy
              generalize grow (wr1.drewN nq) osq = wq at *
              go_wp2_with fail
              go_meet
              exact ⟨by go_num, HS2.out⟩
          case rest =>
          obtain ⟨rfl, hsr⟩ := hcut
          replace HS := Lib.hid hsr
          clear hsr
          obtain ⟨mid, d4, hm1, hm2, m1, m2, m3, m4, m5, m6, m7, m8⟩ := HI.out.part2 (ltB_swo l) hp1 hp2
          have hpa := HPART.out ra rb pv d3 wc HS.out hp1 hp2 (by omega)
          rw [hm1, hm2] at hpa
          replace HPART := Lib.hid hpa
          have HM := Lib.hid (And.intro m4 (And.intro m5 (And.intro m6 (And.intro m7 m8))))
          clear hpa hm1 hm2 m4 m5 m6 m7 m8 HI
          go_wp2_with fail
          with_reducible refine HPART.out.mono ?_
          rintro e w3 ⟨bl, rfl, hsr⟩
          replace HS := Lib.hid hsr
          clear hsr
          obtain ⟨ll, hll⟩ : ∃ r, r = mid - ra := ⟨_, rfl⟩
          obtain ⟨rl, hrl⟩ : ∃ r, r = rb - mid := ⟨_, rfl⟩
          obtain ⟨th, hth⟩ : ∃ r, r = len / 8 := ⟨_, rfl⟩
          obtain ⟨mi1, hmi⟩ : ∃ r, r = mid + 1 := ⟨_, rfl⟩
          have hwll : IntKind.i64.wrap ((mid : Int) - (ra : Int)) = ((ll : Nat) : Int) := by rw [IntKind.wrap_i64]; omega
          have hwrl : IntKind.i64.wrap ((rb : Int) - (mid : Int)) = ((rl : Nat) : Int) := by rw [IntKind.wrap_i64]; omega
          have hwth : Int.tdiv ((len : Nat) : Int) 8 = ((th : Nat) : Int) := by rw [Int.tdiv_eq_ediv_of_nonneg (by omega)]; omega
          have hwmi : IntKind.i64.wrap ((mid : Int) + 1) = ((mi1 : Nat) : Int) := by rw [IntKind.wrap_i64]; omega
          have HMI := Lib.hid hmi
          clear hll hrl hth hmi
          by_cases hlr : ll < rl
          · have hlr' : (ll : Int) < (rl : Int) := by omega
            go_wp2_with fail
            with_reducible refine (HIH.out ra mid d4 l2 w3 (by omega) m1 (by omega) HS.out HM.out.1 HM.out.2.1).mono ?_
            rintro e w4 ⟨rfl, L, hp, hso, hsr⟩
            have HR := Lib.hid hsr
            have HNI := Lib.hid (HM.out.2.2.2.1 L hp hso)
            clear hsr hp hso
            go_wp2_with fail
            go_roundw
            case rel => exact ⟨mi1, rb, L, l2, _, bl, by go_num, by go_num, by go_num, rfl, by go_num, by rw [HMI.out]; exact HNI.out, HR.out⟩
            case measure => have := HMI.out; simp [intOf]; omega
          · have hlr' : (rl : Int) ≤ (ll : Int) := by omega
            go_wp2_with fail
            with_reducible refine (HIH.out mi1 rb d4 l2 w3 (by have := HMI.out; omega) (by have := HMI.out; omega) (by omega) HS.out HM.out.1 (by rw [HMI.out]; exact HM.out.2.2.1)).mono ?_
            rintro e w4 ⟨rfl, L, hp, hso, hsr⟩
            have HR := Lib.hid hsr
            have HNI := Lib.hid (HM.out.2.2.2.2 L (by rw [← HMI.out]; exact hp) (by rw [← HMI.out]; exact hso))
            clear hsr hp hso
            go_wp2_with fail
            go_roundw
            case rel => exact ⟨ra, mid, L, l2, _, bl, by go_num, by go_num, by go_num, rfl, by go_num, HNI.out, HR.out⟩
            case measure => simp [intOf]; omega
end Go.Proofs.Ytamjhpdgclbfgaa

namespace Go.Proofs.Ytamjhpdgclbfgaa
open Go.RowKit Go.Kq Go.Sort

set_option maxHeartbeats 4000000 in
set_option maxRecDepth 100000 in
theorem srtP_any (P : Pt) (A : Option Addr) (n ca : Nat) (l : List Ct) (base g cap m : Nat) (d : Array Nat) (w W0 : World) (hB : CmpB P A n ca l g w) (hm : m < 50) (hs : Srt base g m cap n w d W0) (hn : d.toList.Nodup) :
    Calls Try.prog 36 #[.slice (some ⟨g, 0, none⟩) m cap, befV P A n ca] W0 fun e w' => e = .returned (.tuple #[]) ∧ ∃ d', PermIn 0 m d d' ∧ SortedIn (ltB l) 0 m d' ∧ Srt base g m cap n w d' w' := by
  have HI := Lib.hid (fun lim => pdqP_any P A n ca l base g cap m w hB hm (m + 1) 0 m d lim W0 (by omega) (by omega) (Nat.le_refl _) hs hn (.inl rfl))
  have HL := Lib.hid (blen_any m (by omega) W0)
  have hw : IntKind.u64.wrap (m : Int) = m := by simp [IntKind.wrap, IntKind.bits, IntKind.signed]; omega
  simp only [befV, jobV, show ((0 : Nat) : Int) = 0 from rfl] at HI
  simp only [befV, jobV]
  clear hB hs hn
  go_enter Try.func36, Try.ntmps36
  go_wp2_with fail
  with_reducible refine HL.out.mono ?_
  rintro e w1 ⟨rfl, h⟩
  subst h
  go_wp2_with fail
  with_reducible refine (HI.out _).mono ?_
  rintro e w2 ⟨rfl, d', h1, h2, h3⟩
  have H1 := Lib.hid h1
  have H2 := Lib.hid h2
  have H3 := Lib.hid h3
  clear h1 h2 h3 HI HL
  go_wp2_with fail
  go_end0
  exact ⟨rfl, d', H1.out, H2.out, H3.out⟩
/-- The row of all indices, sorted. -/
theorem sortR_any (P : Pt) (A : Option Addr) (n ca : Nat) (l : List Ct) (g cap base : Nat) (w : World) (hx : RdC w A n l) (hA : ∀ b o, A = some ⟨b, o, none⟩ → b ≠ g) (ho : w.ownsRow base 3 1 (.slice (some ⟨g, 0, none⟩) n cap) n ((List.range n).map natI)) (hm : n < 50) :
    Calls Try.prog 36 #[.slice (some ⟨g, 0, none⟩) n cap, befV P A n ca] w fun e w' => e = .returned (.tuple #[]) ∧ w'.ownsRow base 3 1 (.slice (some ⟨g, 0, none⟩) n cap) n ((ordF l).map natI) ∧ Kp (One g) w w' := by
  have hsr : Srt base g n cap n w (List.range n).toArray w := ⟨ho, fun i hi => by rw [getElem!_pos _ i (by simpa using hi)]; simpa using hi, Kp.refl _ _⟩
  refine (srtP_any P A n ca l base g cap n _ w w (cmpB_of P A n ca l g w hx hA) hm hsr (by simpa using List.nodup_range)).mono ?_
  rintro e w' ⟨rfl, d', h1, h2, h3⟩
  have := h3.row
  rw [ord_unique hx.1.symm h1 h2] at this
  exact ⟨rfl, this, h3.k⟩
end Go.Proofs.Ytamjhpdgclbfgaa
