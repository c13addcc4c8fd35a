/- Chapter 14: the walk of NetworkDual. -/
import Derived.Test.YtjjecadfcndkaaaPrv
namespace Go.Proofs.Ytjjecadfcndkaaa
open Go.RowKit Go.Kq Go.Flow

set_option maxHeartbeats 2000000 in
set_option maxRecDepth 100000 in
theorem dual_long (Z : Nz) (A B D E S : Option Addr) (ca cb dn dc en ec sn sc : Nat) (hi : Bool) (x : Int) (w : World) (hlong : 70 < Z.tr.length ∨ 20 < Z.ch.length ∨ 20 < dn) :
    Calls Try.prog 5 #[netZ Z A B ca cb, askV2 hi D E dn dc en ec x, .slice S sn sc] w fun e w' => e = .returned (.bool true) ∧ Kp No w w' := by
  unfold netZ askV2
  have HA := Lib.hid awake_any
  have hcase : (70 : Int) < Z.tr.length ∨ ((Z.tr.length : Int) ≤ 70 ∧ (20 : Int) < Z.ch.length) ∨ ((Z.tr.length : Int) ≤ 70 ∧ (Z.ch.length : Int) ≤ 20 ∧ (20 : Int) < dn) := by omega
  clear hlong
  rcases hcase with h1 | ⟨h1, h2⟩ | ⟨h1, h2, h3⟩
  all_goals
    go_enter Try.func5, Try.ntmps5
    go_wp2_with fail
    refine (HA.out _).mono ?_
    rintro e w1 ⟨rfl, hk1⟩
    go_wp2_with fail
    refine bodyPost_ret (v := .bool true) (by simp [results, Try.results5, go_sem]) rfl ⟨rfl, ?_⟩
    exact ((Kp.alloc No _ _).tr (Kp.alloc No _ _)).tr hk1
set_option maxHeartbeats 2000000 in
set_option maxRecDepth 100000 in
theorem dual_err (Z : Nz) (c : Int) (hc : ChkIs Z c) (hz : c ≠ 0) (A B D E S : Option Addr) (ca cb dn dc en ec sn sc : Nat) (hi : Bool) (x : Int) (w : World) (hR : RdNz w A B Z) (h1 : (Z.tr.length : Int) ≤ 70) (h2 : (Z.ch.length : Int) ≤ 20) (h3 : (dn : Int) ≤ 20) :
    Calls Try.prog 5 #[netZ Z A B ca cb, askV2 hi D E dn dc en ec x, .slice S sn sc] w fun e w' => e = .returned (.bool true) ∧ Kp No w w' := by
  have HA := Lib.hid awake_any
  have HG := Lib.hid (Greatest_bad Z c hc hz A B ca cb)
  have HC := Lib.hid (Cut_bad Z c hc hz A B ca cb hi)
  have HR := Lib.hid hR
  have d1 : (c != 0) = true := by rw [bne_iff_ne]; exact hz
  have d2 : (c == 0) = false := by rw [beq_eq_false_iff_ne]; exact hz
  clear hc hz hR
  unfold netZ at HG HC
  unfold netZ askV2
  go_enter Try.func5, Try.ntmps5
  go_wp2_with fail
  obtain ⟨hk0, b0, b1⟩ := two_box w #[.int .i64 Z.n, .slice A Z.tr.length ca, .slice B Z.ch.length cb] #[.bool hi, .slice D dn dc, .slice E en ec, .int .i64 x] 25 40
  refine (HG.out _ (HR.out.no hk0)).mono ?_
  rintro e w1 ⟨rfl, hk1⟩
  have K1 := Lib.hid (hk0.tr hk1)
  have B0 := Lib.hid (hk1.heap b0 (fun h => h))
  have B1 := Lib.hid (hk1.heap b1 (fun h => h))
  clear hk0 b0 b1 hk1
  obtain ⟨x0, x1, x2⟩ := box3 B0.out
  obtain ⟨y0, y1, y2, y3⟩ := box4' B1.out
  have hs1 := (Array.getElem?_eq_some_iff.1 B0.out).1
  have hs2 := (Array.getElem?_eq_some_iff.1 B1.out).1
  go_wp2_with fail
  have K2 := Lib.hid (K1.out.tr (Kp.alloc No w1 (.cells #[.int .i64 0, .int .i64 0] 29)))
  refine (HC.out _ (HR.out.no K2.out)).mono ?_
  rintro e w2 ⟨rfl, hk2⟩
  have g0 := hk2.cell (a := ⟨w1.heap.size, 0, none⟩) (v := .int .i64 0) (by go_simp) (fun h => h)
  have g1 := hk2.cell (a := ⟨w1.heap.size, 1, none⟩) (v := .int .i64 0) (by go_simp) (fun h => h)
  have K3 := Lib.hid (K2.out.tr hk2)
  clear hk2
  go_wp2_with fail
  refine (HA.out _).mono ?_
  rintro e w3 ⟨rfl, hk3⟩
  go_wp2_with fail
  refine bodyPost_ret (v := .bool true) (by simp [results, Try.results5, go_sem]) rfl ⟨rfl, K3.out.tr hk3⟩
theorem rCheck_ok (N : Net) (hN : N.Ok) (A B : Option Addr) (ca cb : Nat) (w : World) (hR : RdNet w A B N) :
    Calls Try.prog 16 #[netV N A B ca cb] w fun e w' => e = .returned (.int .i64 0) ∧ Kp No w w' := by
  have h := rCheck_any (nz N) A B ca cb w (rdnz_of hR)
  rw [netZ_nz] at h
  refine h.mono ?_
  rintro e w' ⟨c, rfl, hc, hk⟩
  rw [hc.uniq (chk_ok hN)]
  exact ⟨rfl, hk⟩
/-! ### the law's own set -/
/-- The set that is given, as far as it reaches. -/
def given (ss : List Bool) (k v : Nat) : Bool := decide (v < k) && ss.getD v false
def bRow (n : Nat) (R : Nat → Bool) : List Value := (List.range n).map fun v => Value.bool (R v)
def updB (R : Nat → Bool) (v : Nat) (b : Bool) : Nat → Bool := fun u => if u = v then b else R u
theorem bRow_at {n v : Nat} (R : Nat → Bool) (hv : v < n) : (bRow n R)[v]? = some (.bool (R v)) := by
  unfold bRow
  rw [List.getElem?_map, List.getElem?_range hv]
  rfl
theorem bRow_set (n : Nat) (R : Nat → Bool) (v : Nat) (b : Bool) : (bRow n R).set v (.bool b) = bRow n (updB R v b) := by
  apply List.ext_getElem
  · simp [bRow]
  · intro i h1 h2
    rw [List.getElem_set]
    by_cases e : v = i
    · subst e
      simp [bRow, updB]
    · simp [bRow, updB, e, Ne.symm e]
theorem bRow_mem (n : Nat) (R : Nat → Bool) : bRow n R = (rowOf n (mem R n)).map Value.bool := by
  apply List.ext_getElem?
  intro i
  by_cases h : i < n
  · rw [bRow_at R h, rowOf_at R h]
  · rw [List.getElem?_eq_none (by simp [bRow]; omega), List.getElem?_eq_none (by simp [rowOf]; omega)]
theorem own_bs (w : World) (n : Nat) (hn : n ≤ 100000) : (w.alloc (.cells (List.replicate n (Value.bool false)).toArray 4)).ownsRow w.heap.size 4 1 (.slice (some ⟨w.heap.size, 0, none⟩) n n) n (bRow n fun _ => false) := by
  have h := own_bools w n hn
  have e : bRow n (fun _ => false) = (rowOf n []).map Value.bool := by
    rw [rowOf_nil, List.map_replicate]
    apply List.ext_getElem
    · simp [bRow]
    · intro i h1 h2
      simp [bRow]
  rw [e]
  exact h
theorem b_set {w wr : World} {base n g c : Nat} {R : Nat → Bool} {x : Bool} (ho : wr.ownsRow base 4 1 (.slice (some ⟨g, 0, none⟩) n n) n (bRow n R)) (hk : Kp No w wr) (hg : w.heap.size ≤ g) :
    (wr.setCell ⟨g, c, none⟩ (.bool x)).ownsRow base 4 1 (.slice (some ⟨g, 0, none⟩) n n) n (bRow n (updB R c x)) ∧ Kp No w (wr.setCell ⟨g, c, none⟩ (.bool x)) := by
  refine ⟨?_, hk.trans (kp_setOne wr g c _) fun k hk e => by have e2 : k = g := e; omega⟩
  rw [← bRow_set]
  exact own_set ho c _
theorem cu_le {N : Net} (hN : N.Ok) {h : Bool} {R S : Nat → Bool} (hc : Cu N h R) (h0 : S 0 = true) (hs : ∀ (j c : Nat), j < N.ch.length → N.ch[j]? = some c → S c = false) : N.out h R ≤ N.out h S := by
  have h1 := (hc.2 (fun v => decide (v < N.n) && S v) ⟨⟨by have := hN.n1; simp [h0]; omega, by simp⟩, fun c hcm => by
    obtain ⟨j, hj⟩ := List.mem_iff_getElem?.1 hcm
    simp [hs j c (List.getElem?_eq_some_iff.1 hj).1 hj]⟩).1
  have e := out_congr hN h (R := fun v => decide (v < N.n) && S v) (S := S) fun v hv => by simp [hv]
  rwa [e] at h1
theorem cu_out {N : Net} {h : Bool} {d : Int} (hg : Gr N h d) {R : Nat → Bool} (hc : Cu N h R) : N.out h R = d := by
  obtain ⟨R', h1, rfl⟩ := hg
  exact hc.same h1
set_option maxHeartbeats 8000000 in
set_option maxRecDepth 100000 in
theorem dual_ok (N : Net) (hN : N.Ok) (A B D E S : Option Addr) (ca cb dn dc en ec sn sc : Nat) (hi : Bool) (x : Int) (ds : List Int) (ss : List Bool) (w : World) (hR : RdNet w A B N) (hD : RdI .i64 w D dn ds) (hnil : D = none → dn = 0 ∧ dc = 0) (hS : Rd b1 1 w S sn ss) (h3 : (dn : Int) ≤ 20) :
    Calls Try.prog 5 #[netV N A B ca cb, askV2 hi D E dn dc en ec x, .slice S sn sc] w fun e w' => e = .returned (.bool true) ∧ Kp No w w' := by
  have hn1 := hN.n1
  have hn2 := hN.n2
  have h1 : (N.tr.length : Int) ≤ 70 := by have := hN.t1; omega
  have h2 : (N.ch.length : Int) ≤ 20 := by have := hN.c1; omega
  have HA := Lib.hid awake_any
  have HG := Lib.hid (Greatest_ok N hN A B ca cb)
  have HC := Lib.hid (Cut_ok N hN A B ca cb hi)
  have HK := Lib.hid (rCheck_ok N hN A B ca cb)
  have HO := Lib.hid (fun g R base W hR hV => out_set N hN A B ca cb g hi R (base := base) W hR hV)
  have HP := Lib.hid (fun W hR hD => proven_any N hN A B D E ca cb dn dc en ec hi x ds W hR hD hnil)
  have HMK := Lib.hid (fun W => make_bools N.n (by omega) W)
  have HN := Lib.hid hN
  have HR := Lib.hid hR
  have HD := Lib.hid hD
  have HS := Lib.hid hS
  have hsl := hS.1
  have HSL := Lib.hid hsl
  clear hN hR hD hnil hS hsl
  unfold netV at HG HC HK HO HP
  unfold askV2 at HP
  unfold netV askV2
  go_enter Try.func5, Try.ntmps5
  go_wp2_with fail
  obtain ⟨hk0, b0, b1⟩ := two_box w #[.int .i64 N.n, .slice A N.tr.length ca, .slice B N.ch.length cb] #[.bool hi, .slice D dn dc, .slice E en ec, .int .i64 x] 25 40
  refine (HG.out _ (HR.out.no hk0)).mono ?_
  rintro e w1 ⟨lo, up, rfl, hlo, hup, hk1⟩
  have K1 := Lib.hid (hk0.tr hk1)
  have B0 := Lib.hid (hk1.heap b0 (fun h => h))
  have B1 := Lib.hid (hk1.heap b1 (fun h => h))
  have HMOST := Lib.hid (show Gr N hi (if hi then up else lo) by cases hi <;> assumption)
  clear hk0 b0 b1 hk1 hlo hup
  obtain ⟨x0, x1, x2⟩ := box3 B0.out
  obtain ⟨y0, y1, y2, y3⟩ := box4' B1.out
  have hs1 := (Array.getElem?_eq_some_iff.1 B0.out).1
  have hs2 := (Array.getElem?_eq_some_iff.1 B1.out).1
  go_wp2_with fail
  have KA := Kp.alloc No w1 (.cells #[.int .i64 lo, .int .i64 up] 29)
  have K2 := Lib.hid (K1.out.tr KA)
  refine (HC.out _ (HR.out.no K2.out)).mono ?_
  rintro e w2 ⟨v, R, rfl, hcu, hro, hk2⟩
  have G2 := Lib.hid (hk2.heap (heap_alloc_new w1 (.cells #[.int .i64 lo, .int .i64 up] 29)) (fun h => h))
  have C0 := Lib.hid ((KA.tr hk2).heap B0.out (fun h => h))
  have C1 := Lib.hid ((KA.tr hk2).heap B1.out (fun h => h))
  have K3 := Lib.hid (K2.out.tr hk2)
  have HCU := Lib.hid hcu
  have HRO := Lib.hid hro
  clear hk2 KA hcu hro x0 x1 x2 y0 y1 y2 y3
  obtain ⟨x0, x1, x2⟩ := box3 C0.out
  obtain ⟨y0, y1, y2, y3⟩ := box4' C1.out
  obtain ⟨z0, z1⟩ := box2 G2.out
  have hs3 := (Array.getElem?_eq_some_iff.1 C0.out).1
  have hs4 := (Array.getElem?_eq_some_iff.1 C1.out).1
  have hs5 := (Array.getElem?_eq_some_iff.1 G2.out).1
  go_wp2_with fail
  refine (HK.out _ (HR.out.no K3.out)).mono ?_
  rintro e w3 ⟨rfl, hk3⟩
  have D0 := Lib.hid (hk3.heap C0.out (fun h => h))
  have D1 := Lib.hid (hk3.heap C1.out (fun h => h))
  have G3 := Lib.hid (hk3.heap G2.out (fun h => h))
  have K4 := Lib.hid (K3.out.tr hk3)
  have HRO3 := Lib.hid (own_kp HRO.out hk3 (fun _ _ h => h))
  clear hk3 x0 x1 x2 y0 y1 y2 y3 z0 z1
  obtain ⟨x0, x1, x2⟩ := box3 D0.out
  obtain ⟨y0, y1, y2, y3⟩ := box4' D1.out
  obtain ⟨z0, z1⟩ := box2 G3.out
  have HEQ := Lib.hid (cu_out HMOST.out HCU.out)
  cases hi
  all_goals
    simp only [if_true, Bool.false_eq_true, if_false] at HEQ
    go_wp2_with fail
    refine (within_set N.n ⟨hn1, hn2⟩ R HCU.out.1.1.1 _ HRO3.out).mono ?_
    rintro e w4 ⟨g, rfl, hin, hk4⟩
    have E0 := Lib.hid (hk4.heap D0.out (fun h => h))
    have E1 := Lib.hid (hk4.heap D1.out (fun h => h))
    have K5 := Lib.hid (K4.out.tr hk4)
    have HIN := Lib.hid hin
    clear hk4 hin x0 x1 x2 y0 y1 y2 y3 z0 z1
    obtain ⟨x0, x1, x2⟩ := box3 E0.out
    obtain ⟨y0, y1, y2, y3⟩ := box4' E1.out
    go_wp2_with fail
    refine (HO.out g R _ _ (HR.out.no K5.out) HIN.out).mono ?_
    rw [HEQ.out]
    rintro e w5 ⟨rfl, hk5⟩
    have F0 := Lib.hid (hk5.heap E0.out (fun h => h))
    have F1 := Lib.hid (hk5.heap E1.out (fun h => h))
    have K6 := Lib.hid (K5.out.tr hk5)
    have HIN5 := Lib.hid (own_kp HIN.out hk5 (fun _ _ h => h))
    clear hk5 x0 x1 x2 y0 y1 y2 y3
    have HLE := Lib.hid (fun S h0 hs => HEQ.out ▸ cu_le HN.out HCU.out (S := S) h0 hs)
    go_wp2_with fail
    go_loopw [14] (fun i wr => ∃ k : Nat, k ≤ N.ch.length ∧ i = .int .i64 k ∧ Kp No w5 wr) (fun i _ => N.ch.length - (intOf i).toNat)
    case atStart => exact ⟨0, by omega, rfl, Kp.refl _ _⟩
    case round =>
      obtain ⟨k, hk, rfl, hkp⟩ := hrel
      obtain ⟨x0, x1, x2⟩ := box3 (hkp.heap F0.out (fun h => h))
      have HKP := Lib.hid hkp
      have HO3 := Lib.hid (own_kp HIN5.out hkp (fun _ _ h => h))
      clear hkp
      by_cases hlt : (k : Int) < N.ch.length
      · obtain ⟨c, hc⟩ : ∃ c, N.ch[k]? = some c := ⟨_, List.getElem?_eq_getElem (by omega)⟩
        have hck := HN.out.ck c (List.mem_of_getElem? hc)
        have hRc := HCU.out.1.2 c (List.mem_of_getElem? hc)
        obtain ⟨bB, oB, rfl, hbB, q0⟩ := (HR.out.no (K6.out.tr HKP.out)).chest hc
        have yg := own_cell HO3.out (rowOf_at R hck.2)
        rw [hRc] at yg
        have hcn : (c : Int) < N.n := by omega
        clear hc hRc
        go_wp2_with fail
        go_roundw
        case rel => exact ⟨k + 1, by omega, by go_num, HKP.out⟩
        case measure => simp [intOf]; omega
      · obtain rfl : k = N.ch.length := by omega
        have hmk := HMK.out wr
        have OM := Lib.hid (own_bs wr N.n (by omega))
        have K7 := Lib.hid (K6.out.tr HKP.out)
        have H0 := Lib.hid (HKP.out.heap F0.out (fun h => h))
        have H1 := Lib.hid (HKP.out.heap F1.out (fun h => h))
        go_wp2_with fail
        clear hmk
        obtain ⟨wo, rfl⟩ : ∃ wo : World, wo = wr := ⟨_, rfl⟩
        go_loopw [16] (fun i wr => ∃ (k : Nat) (R' : Nat → Bool), k ≤ N.n ∧ i = .int .i64 k ∧ wr.ownsRow wo.heap.size 4 1 (.slice (some ⟨wo.heap.size, 0, none⟩) N.n N.n) N.n (bRow N.n R') ∧ Kp No wo wr) (fun i _ => N.n - (intOf i).toNat)
        case atStart => exact ⟨0, _, by omega, rfl, OM.out, Kp.alloc _ _ _⟩
        case round =>
          obtain ⟨k, R', hk, rfl, hown, hkp⟩ := hrel
          clear x0 x1 x2
          obtain ⟨x0, x1, x2⟩ := box3 (hkp.heap H0.out (fun h => h))
          have HKP := Lib.hid hkp
          have HOW := Lib.hid hown
          clear hkp hown
          by_cases hlt : (k : Int) < N.n ∧ (k : Int) < sn
          · obtain ⟨hlt1, hlt2⟩ := hlt
            obtain ⟨bS, oS, rfl, hbS, q0⟩ := rd_bool (HS.out.no (K7.out.tr HKP.out)) (show k < sn by omega)
            have yg := own_cell HOW.out (bRow_at R' (show k < N.n by omega))
            have fg := own_free HOW.out k
            have HB := Lib.hid (b_set (c := k) (x := ofRow ss k) HOW.out HKP.out (Nat.le_refl _))
            generalize ofRow ss k = b at *
            go_wp2_with fail
            go_roundw
            case rel => exact ⟨k + 1, _, by omega, by go_num, HB.out.1, HB.out.2⟩
            case measure => simp [intOf]; omega
          · have yg := own_cell HOW.out (bRow_at R' (show 0 < N.n by omega))
            have fg := own_free HOW.out 0
            have HB := Lib.hid (b_set (c := 0) (x := true) HOW.out HKP.out (Nat.le_refl _))
            have hn0 : (0 : Int) < N.n := by omega
            have hcase : ((N.n : Int) ≤ k) ∨ ((k : Int) < N.n ∧ (sn : Int) ≤ k) := by omega
            clear hlt
            rcases hcase with hlt | ⟨hlt, hlt2⟩
            all_goals
              go_wp2_with fail
              have OM2 := Lib.hid HB.out.1
              have KM2 := Lib.hid HB.out.2
              clear HB yg fg
              generalize wr.setCell ⟨wo.heap.size, 0, none⟩ (.bool true) = w8 at *
              go_loopw [17] (fun i wr => ∃ (k : Nat) (R' : Nat → Bool), k ≤ N.ch.length ∧ i = .int .i64 k ∧ R' 0 = true ∧ (∀ (j c : Nat), j < k → N.ch[j]? = some c → R' c = false) ∧ wr.ownsRow wo.heap.size 4 1 (.slice (some ⟨wo.heap.size, 0, none⟩) N.n N.n) N.n (bRow N.n R') ∧ Kp No wo wr) (fun i _ => N.ch.length - (intOf i).toNat)
              case atStart => exact ⟨0, _, by omega, rfl, by simp [updB], fun j c h => by omega, OM2.out, KM2.out⟩
              case round =>
                obtain ⟨k, R', hk, rfl, hR0, hRc, hown, hkp⟩ := hrel
                clear x0 x1 x2
                obtain ⟨x0, x1, x2⟩ := box3 (hkp.heap H0.out (fun h => h))
                obtain ⟨y0, y1, y2, y3⟩ := box4' (hkp.heap H1.out (fun h => h))
                have HKP := Lib.hid hkp
                have HOW := Lib.hid hown
                have HR0 := Lib.hid hR0
                have HRC := Lib.hid hRc
                have hz2 := (own_ge hown rfl).2
                clear hkp hown hR0 hRc
                by_cases hlt3 : (k : Int) < N.ch.length
                · obtain ⟨c, hc⟩ : ∃ c, N.ch[k]? = some c := ⟨_, List.getElem?_eq_getElem (by omega)⟩
                  have hck := HN.out.ck c (List.mem_of_getElem? hc)
                  obtain ⟨bB, oB, rfl, hbB, q0⟩ := (HR.out.no (K7.out.tr HKP.out)).chest hc
                  have yg := own_cell HOW.out (bRow_at R' hck.2)
                  have fg := own_free HOW.out c
                  have HB := Lib.hid (b_set (c := c) (x := false) HOW.out HKP.out (Nat.le_refl _))
                  have HRC2 := Lib.hid (show ∀ (j c' : Nat), j < k + 1 → N.ch[j]? = some c' → updB R' c false c' = false from fun j c' hj hc' => by
                    unfold updB
                    split
                    · rfl
                    · rename_i hne
                      by_cases e : j = k
                      · subst e
                        rw [hc] at hc'
                        cases hc'
                        exact absurd rfl hne
                      · exact HRC.out j c' (by omega) hc')
                  have HR02 := Lib.hid (show updB R' c false 0 = true by unfold updB; rw [if_neg (by omega)]; exact HR0.out)
                  have hcn : (c : Int) < N.n := by omega
                  clear hc
                  go_wp2_with fail
                  go_roundw
                  case rel => exact ⟨k + 1, _, by omega, by go_num, HR02.out, HRC2.out, HB.out.1, HB.out.2⟩
                  case measure => simp [intOf]; omega
                · obtain rfl : k = N.ch.length := by omega
                  have K8 := Lib.hid (K7.out.tr HKP.out)
                  have hle := HLE.out R' HR0.out HRC.out
                  have HON := Lib.hid (by have := HOW.out; rw [bRow_mem] at this; exact this)
                  have HOUT := Lib.hid (HO.out (wo.heap.size) R' _ _ (HR.out.no K8.out) HON.out)
                  have J0 := Lib.hid (HKP.out.heap H0.out (fun h => h))
                  have J1 := Lib.hid (HKP.out.heap H1.out (fun h => h))
                  generalize N.out _ R' = o at *
                  go_wp2_with fail
                  refine HOUT.out.mono ?_
                  rintro e w9 ⟨rfl, hk9⟩
                  have K9 := Lib.hid (K8.out.tr hk9)
                  clear x0 x1 x2 y0 y1 y2 y3
                  obtain ⟨x0, x1, x2⟩ := box3 (hk9.heap J0.out (fun h => h))
                  obtain ⟨y0, y1, y2, y3⟩ := box4' (hk9.heap J1.out (fun h => h))
                  clear hk9
                  go_wp2_with fail
                  refine (HP.out _ (HR.out.no K9.out) (HD.out.no K9.out)).mono ?_
                  rintro e w10 ⟨rfl, hk10⟩
                  go_wp2_with fail
                  refine (HA.out _).mono ?_
                  rintro e w11 ⟨rfl, hk11⟩
                  go_wp2_with fail
                  refine bodyPost_ret (v := .bool true) (by simp [results, Try.results5, go_sem]) rfl ⟨rfl, (K9.out.tr hk10).tr hk11⟩
theorem tdual_any (Z : Nz) (A B D E S : Option Addr) (ca cb dn dc en ec sn sc : Nat) (hi : Bool) (x : Int) (ds : List Int) (ss : List Bool) (w : World) (hR : RdNz w A B Z) (hD : RdI .i64 w D dn ds) (hnil : D = none → dn = 0 ∧ dc = 0) (hS : Rd b1 1 w S sn ss) :
    Calls Try.prog 5 #[netZ Z A B ca cb, askV2 hi D E dn dc en ec x, .slice S sn sc] w fun e w' => e = .returned (.bool true) ∧ Kp No w w' := by
  by_cases hlong : 70 < Z.tr.length ∨ 20 < Z.ch.length ∨ 20 < dn
  · exact dual_long Z A B D E S ca cb dn dc en ec sn sc hi x w hlong
  · obtain ⟨c, hc⟩ : ∃ c, ChkIs Z c := by
      by_cases h1 : NLong Z
      · exact ⟨3, .inl ⟨h1, rfl⟩⟩
      · by_cases h2 : NBad Z
        · exact ⟨2, .inr (.inl ⟨h1, h2, rfl⟩)⟩
        · exact ⟨0, .inr (.inr ⟨h1, h2, rfl⟩)⟩
    by_cases hz : c = 0
    · subst hz
      obtain ⟨N, hN, rfl⟩ := chk_zero hc
      rw [netZ_nz]
      exact dual_ok N hN A B D E S ca cb dn dc en ec sn sc hi x ds ss w (rdnet_z hR) hD hnil hS (by omega)
    · exact dual_err Z c hc hz A B D E S ca cb dn dc en ec sn sc hi x w hR (by omega) (by omega) (by omega)
end Go.Proofs.Ytjjecadfcndkaaa
