/- Chapter 15: the law's far. Printed by gen_rdf.py. · Chapter 15: the document's Outside. · Chapter 15: the law's all. · Chapter 15: one stop more: plain. · Chapter 15: the law's row of a set. -/
import Derived.Test.YtpkbpeeelpgmcaaXExPM
import Derived.Test.YtpkbpeeelpgmcaaXRdO
import Derived.Test.YtpkbpeeelpgmcaaXNwOut
import Derived.Test.YtpkbpeeelpgmcaaXWdG
import Derived.Test.YtpkbpeeelpgmcaaXCmBM
import Derived.Test.YtpkbpeeelpgmcaaXCmAM
import Derived.Test.YtpkbpeeelpgmcaaXLibYetM
import Derived.Test.YtpkbpeeelpgmcaaXLibMakeM
namespace Go.Proofs.Ytpkbpeeelpgmcaa
open Go.RowKit Go.Kq Go.Flow

def FarR (w : World) (e : Ending) (w' : World) : Prop := ∃ b, e = .returned (.bool b) ∧ Kp No w w'
set_option maxHeartbeats 8000000 in
set_option maxRecDepth 100000 in
theorem far_any (Z : Nz) (l : List Sto) (vs : List Sv) (A B C : Option Addr) (ca cb n cc : Nat) (w : World) (hS : RdSt w C n vs l) :
    Calls Try.prog 5 #[windV Z A B C ca cb n cc] w fun e w' => FarR w e w' := by
  unfold windV
  generalize Z.n = zn
  generalize Z.tr.length = zt
  generalize Z.ch.length = zc
  obtain ⟨w0, hw0⟩ : ∃ w0, (w.alloc (.cells #[.int .i64 zn, .slice A zt ca, .slice B zc cb, .slice C n cc] 28)) = w0 := ⟨_, rfl⟩
  have hk0 : Kp No w w0 := by rw [← hw0]; exact Kp.alloc _ _ _
  have HBX := Lib.hid (show w0.heap[w.heap.size]? = some (.cells #[.int .i64 zn, .slice A zt ca, .slice B zc cb, .slice C n cc] 28 (0, 0)) by rw [← hw0]; exact heap_alloc_new w _)
  have HK := Lib.hid hk0
  have HS := Lib.hid (hS.no hk0)
  have HL := Lib.hid hS.len
  clear hk0 hS
  obtain ⟨p0, p1, p2, p3⟩ := four_at HBX.out
  go_enter Try.func5, Try.ntmps5
  by_cases h1 : 100 < zt
  · go_wp2_with fail
    go_ret
    exact ⟨true, rfl, by first | exact HK.out | exact Kp.alloc _ _ _⟩
  by_cases h2 : 100 < zc
  · go_wp2_with fail
    go_ret
    exact ⟨true, rfl, by first | exact HK.out | exact Kp.alloc _ _ _⟩
  by_cases h3 : 20 < n
  · go_wp2_with fail
    go_ret
    exact ⟨true, rfl, by first | exact HK.out | exact Kp.alloc _ _ _⟩
  by_cases h4 : 7 < zn ∧ zn ≤ 24
  · obtain ⟨h4, h4'⟩ := h4
    go_wp2_with fail
    go_ret
    exact ⟨true, rfl, by first | exact HK.out | exact Kp.alloc _ _ _⟩
  by_cases h5 : 20 < zt ∧ zt ≤ 60
  · obtain ⟨h5, h5'⟩ := h5
    by_cases h6 : 7 < zn
    · have h6' : ¬ zn ≤ 24 := fun h => h4 ⟨h6, h⟩
      clear h4
      go_wp2_with fail
      go_ret
      exact ⟨true, rfl, by first | exact HK.out | exact Kp.alloc _ _ _⟩
    · clear h4
      go_wp2_with fail
      go_ret
      exact ⟨true, rfl, by first | exact HK.out | exact Kp.alloc _ _ _⟩
  have key : (¬ 7 < zn ∨ (7 < zn ∧ ¬ zn ≤ 24)) ∧ (¬ 20 < zt ∨ (20 < zt ∧ ¬ zt ≤ 60)) := by omega
  clear h4 h5
  obtain ⟨k1, k2⟩ := key
  rcases k1 with k1 | ⟨k1, k1'⟩ <;> rcases k2 with k2 | ⟨k2, k2'⟩
  all_goals
    go_wp2_with fail
    go_loopw [3] (fun i wr => ∃ k : Nat, k ≤ n ∧ i = .int .i64 (k : Nat) ∧ Kp No w0 wr) (fun i _ => n - (intOf i).toNat)
    case atStart => exact ⟨0, by omega, rfl, Kp.refl _ _⟩
    case round =>
      obtain ⟨k, hk, rfl, hkp⟩ := hrel
      have HKP := Lib.hid hkp
      have BW := Lib.hid (hkp.heap HBX.out id)
      clear p0 p1 p2 p3
      obtain ⟨p0, p1, p2, p3⟩ := four_at BW.out
      by_cases hlt : k < n
      · obtain ⟨s, hs⟩ : ∃ s, l[k]? = some s := ⟨_, List.getElem?_eq_getElem (by rw [HL.out]; exact hlt)⟩
        obtain ⟨v, bC, oC, hv, rfl, hbC, y0, y1, is⟩ := (HS.out.no hkp).at_ hs
        obtain ⟨vch, TA, m, tc⟩ := v
        dsimp only at y0 y1
        clear hs hv is hkp
        by_cases hm : 20 < m
        · go_wp2_with fail
          go_ret
          exact ⟨true, rfl, HK.out.tr HKP.out⟩
        · go_wp2_with fail
          go_roundw
          case rel => exact ⟨k + 1, by omega, by go_num, HKP.out⟩
          case measure => simp [intOf]; omega
      · obtain rfl : k = n := by omega
        clear hkp
        go_wp2_with fail
        go_ret
        exact ⟨false, rfl, HK.out.tr HKP.out⟩
end Go.Proofs.Ytpkbpeeelpgmcaa

namespace Go.Proofs.Ytpkbpeeelpgmcaa
open Go.RowKit Go.Kq Go.Flow

theorem cut_nn {R : Nat → Bool} : ∀ L : List Pi, (∀ p ∈ L, 0 ≤ p.mo) → 0 ≤ cut R L
  | [], _ => by simp [cut]
  | p :: L, h => by
    have h1 := cut_nn (R := R) L fun q hq => h q (by simp [hq])
    have h2 := h p (by simp)
    unfold cut
    split <;> omega
theorem out_nn {N : Net} (hN : N.Ok) (h : Bool) (R : Nat → Bool) : 0 ≤ N.out h R := by
  refine cut_nn _ fun p hp => ?_
  obtain ⟨t, ht, rfl⟩ := List.mem_map.1 hp
  exact (hN.cap ht h).1
set_option maxHeartbeats 4000000 in
set_option maxRecDepth 100000 in
theorem Outside_any (N : Net) (hN : N.Ok) (A B D V : Option Addr) (ca cb dc vc : Nat) (ds : List Int) (bs : List Bool) (w : World) (hR : RdNet w A B N) (hD : RdI .i64 w D N.ch.length ds) (hV : Rd b1 1 w V N.n bs) (hd : ∀ d ∈ ds, 0 ≤ d ∧ d ≤ 1000000000000) :
    Calls Try.prog 15 #[netV N A B ca cb, .slice D N.ch.length dc, .slice V N.n vc] w fun e w' => e = .returned (.int .i64 (sumZ ds - N.wt false ds (ofRow bs))) ∧ Kp No w w' := by
  have hl := hD.1
  have hc16 := hN.c1
  have HO := Lib.hid (show sumZ ds - N.wt false ds (ofRow bs) = - N.out false (ofRow bs) + sumM (fun i => !ofRow bs (N.ch.getD i 0)) ds by
    have := sumM_out (ofRow bs) N.ch ds hl
    unfold Net.wt
    omega)
  have hob := hN.out_le false (ofRow bs)
  have hon := out_nn hN false (ofRow bs)
  obtain ⟨w0, hw0⟩ : ∃ w0, w.alloc (.cells #[.int .i64 N.n, .slice A N.tr.length ca, .slice B N.ch.length cb] 25) = w0 := ⟨_, rfl⟩
  have hk0 : Kp No w w0 := by rw [← hw0]; exact Kp.alloc _ _ _
  have HB0 := Lib.hid (show w0.heap[w.heap.size]? = some (.cells #[.int .i64 N.n, .slice A N.tr.length ca, .slice B N.ch.length cb] 25 (0, 0)) by rw [← hw0]; exact heap_alloc_new w _)
  have OA := out_any N hN A B V ca cb vc false bs w0 (hR.no hk0) (hV.no hk0)
  unfold netV at OA ⊢
  replace OA := Lib.hid OA
  have HN := Lib.hid hN
  have HR := Lib.hid (hR.no hk0)
  have HD := Lib.hid (hD.no hk0)
  have HV := Lib.hid (hV.no hk0)
  have K0 := Lib.hid hk0
  have HL := Lib.hid hl
  have HSB := Lib.hid (fun (c : Nat → Bool) (k : Nat) => sumM_bd c (ds.take k) fun d h => hd d (List.mem_of_mem_take h))
  have HDD := Lib.hid hd
  rw [HO.out]
  generalize hou : N.out false (ofRow bs) = ou at *
  clear hR hD hV hk0 hN hl hd hou HO
  obtain ⟨x0, x1, x2⟩ := box3 HB0.out
  go_enter Try.func15, Try.ntmps15
  go_wp2_with fail
  with_reducible refine OA.out.mono ?_
  rintro e w1 ⟨rfl, k1⟩
  have HB1 := Lib.hid (k1.heap HB0.out id)
  have K1 := Lib.hid k1
  clear x0 x1 x2 k1
  have ew : wrap64 (-ou) = -ou := IntWalk.wrap64_in _ (by omega)
  go_wp2_with fail
  try rw [ew]
  clear ew
  obtain ⟨cc, hcc⟩ : ∃ cc : Nat → Bool, cc = fun i => !ofRow bs (N.ch.getD i 0) := ⟨_, rfl⟩
  have HCC := Lib.hid hcc
  clear hcc
  go_loopw [7, 8] (fun s i wr => ∃ k : Nat, k ≤ N.ch.length ∧ i = .int .i64 (k : Nat) ∧ s = .int .i64 (-ou + sumM cc (ds.take k)) ∧ Kp No w1 wr) (fun _ i _ => N.ch.length - (intOf i).toNat)
  case atStart => exact ⟨0, by omega, rfl, by simp [sumM], Kp.refl _ _⟩
  case round =>
    obtain ⟨k, hk, rfl, rfl, hkp⟩ := hrel
    obtain ⟨x0, x1, x2⟩ := box3 (hkp.heap HB1.out id)
    have hbb := (Array.getElem?_eq_some_iff.1 (hkp.heap HB1.out id)).1
    have HK := Lib.hid hkp
    have HKW := Lib.hid (K1.out.tr hkp)
    have hsb := HSB.out cc k
    have hsl : (ds.take k).length ≤ 16 := by rw [List.length_take, HL.out]; omega
    have hs2 : (1000000000000 : Int) * ((ds.take k).length : Int) ≤ 16000000000000 := by omega
    obtain ⟨b1', b2'⟩ := hsb
    clear hkp
    by_cases hlt : k < N.ch.length
    · obtain ⟨d, hd⟩ : ∃ d, ds[k]? = some d := ⟨_, List.getElem?_eq_getElem (by rw [HL.out]; exact hlt)⟩
      obtain ⟨c, hc⟩ : ∃ c, N.ch[k]? = some c := ⟨_, List.getElem?_eq_getElem hlt⟩
      have hcm : (N.ch.map Int.ofNat)[k]? = some (c : Int) := by rw [List.getElem?_map, hc]; rfl
      have hcn := (HN.out.ck c (List.mem_of_getElem? hc)).2
      have hcn' : (c : Int) < N.n := by omega
      obtain ⟨bB, oB, rfl, hbB, z0⟩ := (HR.out.no HKW.out).ch.2 k _ hcm
      obtain ⟨bD, oD, rfl, hbD, z1⟩ := (HD.out.no HKW.out).2 k d hd
      obtain ⟨bV, oV, rfl, hbV, z2⟩ := rd_bool (HV.out.no HKW.out) hcn
      have hd1 := HDD.out d (List.mem_of_getElem? hd)
      have HT := Lib.hid (sumM_take cc ds k d hd)
      have HCK := Lib.hid (show cc k = !ofRow bs c by rw [HCC.out]; show (!ofRow bs (N.ch.getD k 0)) = _; rw [List.getD_eq_getElem?_getD, hc]; rfl)
      clear hd hc hcm
      generalize sumM cc (ds.take k) = S at *
      obtain ⟨d1, d2⟩ := hd1
      cases hr : ofRow bs c with
      | true =>
        rw [hr] at z2 HCK
        clear hr
        go_wp2_with fail
        go_roundw
        case rel => exact ⟨k + 1, by omega, by go_num, by rw [HT.out, HCK.out]; simp, HK.out⟩
        case measure => simp [intOf]; omega
      | false =>
        rw [hr] at z2 HCK
        clear hr
        go_wp2_with fail
        go_roundw
        case rel => exact ⟨k + 1, by omega, by go_num, by rw [HT.out, HCK.out]; simp [Int.add_assoc], HK.out⟩
        case measure => simp [intOf]; omega
    · obtain rfl : k = N.ch.length := by omega
      have HE := Lib.hid (show sumM cc (ds.take N.ch.length) = sumM (fun i => !ofRow bs (N.ch.getD i 0)) ds by rw [← HCC.out, List.take_of_length_le (by rw [HL.out]; exact Nat.le_refl _)])
      rw [HE.out]
      go_wp2_with fail
      go_ret
      exact ⟨rfl, K0.out.tr HKW.out⟩
end Go.Proofs.Ytpkbpeeelpgmcaa

namespace Go.Proofs.Ytpkbpeeelpgmcaa
open Go.RowKit Go.Kq Go.Flow

/-- All of ys in xs. -/
def allB (xs ys : List Int) : Bool := ys.all fun y => decide (y ∈ xs)
theorem any_mem_take (xs : List Int) (y : Int) (k : Nat) (x : Int) (hx : xs[k]? = some x) : decide (y ∈ xs.take (k + 1)) = (decide (y ∈ xs.take k) || (x == y)) := by
  rw [List.take_add_one, hx, Bool.eq_iff_iff]
  simp only [Option.toList, List.mem_append, List.mem_singleton, Bool.or_eq_true, decide_eq_true_eq, beq_iff_eq]
  constructor
  · rintro (h | h)
    · exact .inl h
    · exact .inr h.symm
  · rintro (h | h)
    · exact .inl h
    · exact .inr h.symm
set_option maxHeartbeats 8000000 in
set_option maxRecDepth 100000 in
theorem all_any (A B : Option Addr) (n c m d : Nat) (xs ys : List Int) (w : World) (hR : RdI .i64 w A n xs) (hS : RdI .i64 w B m ys) (hn : n ≤ 1000000) (hm : m ≤ 1000000) :
    Calls Try.prog 16 #[.slice A n c, .slice B m d] w fun e w' => e = .returned (.bool (allB xs ys)) ∧ Kp No w w' := by
  have HR := Lib.hid hR
  have HS := Lib.hid hS
  have HL := Lib.hid hR.1
  have HL2 := Lib.hid hS.1
  clear hR hS
  go_enter Try.func16, Try.ntmps16
  go_wp2_with fail
  go_loopw [5] (fun i wr => ∃ k : Nat, k ≤ m ∧ i = .int .i64 (k : Nat) ∧ (ys.take k).all (fun y => decide (y ∈ xs)) = true ∧ Kp No w wr) (fun i _ => m - (intOf i).toNat)
  case atStart => exact ⟨0, by omega, rfl, rfl, Kp.refl _ _⟩
  case round =>
    obtain ⟨k, hk, rfl, hno, hkp⟩ := hrel
    have HN := Lib.hid hno
    have HK := Lib.hid hkp
    clear hno hkp
    by_cases hlt : k < m
    · obtain ⟨y, hy⟩ : ∃ y, ys[k]? = some y := ⟨_, List.getElem?_eq_getElem (by rw [HL2.out]; exact hlt)⟩
      have HT := Lib.hid (all_take_one (fun y => decide (y ∈ xs)) ys k y hy)
      have HY := Lib.hid hy
      have HM := Lib.hid (List.mem_of_getElem? hy)
      clear hy
      obtain ⟨wo, rfl⟩ : ∃ wo, wo = wr := ⟨_, rfl⟩
      go_wp2_with fail
      go_loopw [6, 7] (fun s i wr => ∃ j : Nat, j ≤ n ∧ i = .int .i64 (j : Nat) ∧ s = .bool (decide (y ∈ xs.take j)) ∧ Kp No wo wr) (fun _ i _ => n - (intOf i).toNat)
      case atStart => exact ⟨0, by omega, rfl, by simp, Kp.refl _ _⟩
      case round =>
        obtain ⟨j, hj, rfl, rfl, hkj⟩ := hrel
        have HKJ := Lib.hid hkj
        have HKK := Lib.hid (HK.out.tr hkj)
        clear hkj
        by_cases hlj : j < n
        · obtain ⟨x, hx⟩ : ∃ y, xs[j]? = some y := ⟨_, List.getElem?_eq_getElem (by rw [HL.out]; exact hlj)⟩
          obtain ⟨b, o, rfl, hb, hc⟩ := (HR.out.no HKK.out).2 j _ hx
          obtain ⟨b2, o2, rfl, hb2, hc2⟩ := (HS.out.no HKK.out).2 k _ HY.out
          have HA := Lib.hid (any_mem_take xs y j x hx)
          clear hx
          cases hq : decide (y ∈ xs.take j) with
          | true =>
            rw [hq] at HA
            clear hq
            go_wp2_with fail
            go_quiet (fail)
            go_wp2_with fail
            go_roundw
            case rel => exact ⟨j + 1, by omega, by go_num, by rw [HA.out]; simp, HKJ.out.tr (Kp.drewN _ _ _)⟩
            case measure => simp [intOf]; omega
          | false =>
            rw [hq] at HA
            clear hq
            cases hxy : (x == y) with
            | true =>
              rw [hxy] at HA
              go_wp2_with fail
              go_quiet (fail)
              go_wp2_with fail
              go_roundw
              case rel => exact ⟨j + 1, by omega, by go_num, by rw [HA.out]; simp, HKJ.out.tr (Kp.drewN _ _ _)⟩
              case measure => simp [intOf]; omega
            | false =>
              rw [hxy] at HA
              go_wp2_with fail
              go_quiet (fail)
              go_wp2_with fail
              go_roundw
              case rel => exact ⟨j + 1, by omega, by go_num, by rw [HA.out]; simp, HKJ.out.tr (Kp.drewN _ _ _)⟩
              case measure => simp [intOf]; omega
        · obtain rfl : j = n := by omega
          have hte : xs.take j = xs := List.take_of_length_le (by rw [HL.out]; exact Nat.le_refl _)
          rw [hte]
          clear hte
          cases hq : decide (y ∈ xs) with
          | true =>
            rw [hq] at HT
            clear hq
            go_wp2_with fail
            go_roundw
            case rel => exact ⟨k + 1, by omega, by go_num, by rw [HT.out, HN.out]; rfl, HKK.out⟩
            case measure => simp [intOf]; omega
          | false =>
            have HE := Lib.hid (show allB xs ys = false by
              unfold allB
              rw [← Bool.not_eq_true, List.all_eq_true]
              exact fun h => by have := h y HM.out; rw [hq] at this; cases this)
            clear hq
            go_wp2_with fail
            go_ret
            exact ⟨by rw [HE.out]; rfl, HKK.out⟩
    · obtain rfl : k = m := by omega
      have HE := Lib.hid (show allB xs ys = true by
        have h := HN.out
        rwa [List.take_of_length_le (by rw [HL2.out]; exact Nat.le_refl _)] at h)
      go_wp2_with fail
      go_ret
      exact ⟨by rw [HE.out]; rfl, HK.out⟩
end Go.Proofs.Ytpkbpeeelpgmcaa

namespace Go.Proofs.Ytpkbpeeelpgmcaa
open Go.Flow

theorem safN_mono' {K : Nat} {p q : List Nat → Bool} (h : ∀ s, p (numB s K) = true → q (numB s K) = true) : safN K q ≤ safN K p := by
  rcases safF_is (K := K) (p := p) (2 ^ K) with h1 | ⟨s, h1, h2, h3⟩
  · have := safF_le (K := K) (p := q) (2 ^ K)
    unfold safN
    omega
  · have := safF_lt (K := K) (p := q) (2 ^ K) s h1 (h _ h2)
    unfold safN
    omega
/-- The stops below k that are kk or among ss. -/
def moreT (ss : List Nat) (kk : Int) (k : Nat) : List Nat := (List.range k).filter fun i => decide ((i : Int) = kk) || decide (i ∈ ss)
theorem moreT_succ (ss : List Nat) (kk : Int) (k : Nat) : moreT ss kk (k + 1) = moreT ss kk k ++ if decide ((k : Int) = kk) || decide (k ∈ ss) then [k] else [] := by
  unfold moreT
  rw [List.range_succ, List.filter_append]
  simp [List.filter_cons]
theorem moreT_up (ss : List Nat) (kk : Int) (k : Nat) : (moreT ss kk k).Pairwise (· < ·) := List.Pairwise.filter _ List.pairwise_lt_range
theorem moreT_lt {ss : List Nat} {kk : Int} {k x : Nat} (h : x ∈ moreT ss kk k) : x < k := List.mem_range.1 (List.mem_filter.1 h).1
theorem moreT_in {ss : List Nat} {kk : Int} {k x : Nat} (hk : x < k) (h : x ∈ ss) : x ∈ moreT ss kk k := List.mem_filter.2 ⟨List.mem_range.2 hk, by simp [h]⟩
theorem moreT_len (ss : List Nat) (kk : Int) (k : Nat) : (moreT ss kk k).length ≤ k := by
  unfold moreT
  have := List.length_filter_le (fun i : Nat => decide ((i : Int) = kk) || decide (i ∈ ss)) (List.range k)
  rw [List.length_range] at this
  exact this
theorem star_more {N : Net} {l : List Sto} (hok : StoOk N.ch.length l) {ss st ks : List Nat} (h1 : ss.Nodup) (h2 : ks.Nodup) (h : ∀ x ∈ ss, x ∈ st) (hs : starB N l ss ks = true) : starB N l st ks = true := by
  rw [starB_iff] at *
  exact hs.mono (dmd_len _ _ _ _) (dmd_len _ _ _ _) fun c => dmd_mono hok h1 h2 h (fun _ h => h) c
end Go.Proofs.Ytpkbpeeelpgmcaa

namespace Go.Proofs.Ytpkbpeeelpgmcaa
open Go.RowKit Go.Kq Go.Flow

theorem infoBl : (Try.prog.info? 4).map (fun i => (i.zero, i.size, i.bytes)) = some (some (.bool false), 1, 1) := by kernel_rfl
theorem rep_b1 : ∀ m : Nat, (List.replicate m false).flatMap b1 = List.replicate m (Value.bool false)
  | 0 => rfl
  | m + 1 => by rw [List.replicate_succ, List.flatMap_cons, rep_b1 m]; rfl
theorem flat_one {α : Type} (f : α → Value) : ∀ l : List α, (l.flatMap fun a => [f a]) = l.map f
  | [] => rfl
  | x :: l => by rw [List.flatMap_cons, flat_one f l]; rfl
theorem make_bools (m : Nat) (hm : m ≤ 100000) (w : World) : (Instr.makeSlice 48 (.int .i64 (m : Nat)) (.int .i64 (m : Nat))).run Try.prog w = .ok (.slice (some ⟨w.heap.size, 0, none⟩) m m) (w.alloc (.cells ((List.replicate m (Value.bool false)).toArray) 4)) := by
  obtain ⟨i0, hi, hz0, hz1, hz2⟩ := info_parts infoBl
  have := run_make_flat w b1 false _ _ i0 _ 1 1 m Try.underlying48 hi hz0 hz1 hz2 (by decide) rfl rfl (by omega) (by omega)
  rw [this, rep_b1]
def inRow (n : Nat) (ml : List Nat) : List Value := (List.range n).map fun v => .bool (decide (v ∈ ml))
theorem inRow_nil (n : Nat) : inRow n [] = List.replicate n (Value.bool false) := by
  unfold inRow
  apply List.ext_getElem (by simp)
  intro i h1 h2
  simp
theorem inRow_at {n x : Nat} (h : x < n) (ml : List Nat) : (inRow n ml)[x]? = some (.bool (decide (x ∈ ml))) := by
  unfold inRow
  rw [List.getElem?_map, List.getElem?_range h]
  rfl
theorem inRow_set {n x : Nat} (ml : List Nat) : (inRow n ml).set x (.bool true) = inRow n (ml ++ [x]) := by
  unfold inRow
  apply List.ext_getElem (by simp)
  intro i h1 h2
  rw [List.getElem_set]
  by_cases e : x = i
  · subst e
    simp
  · have e2 : i ≠ x := fun h => e h.symm
    simp [e, e2]
theorem heap_set {w : World} {g x : Nat} {cs : List Value} {e : TypeId} {mm : Nat × Nat} (h : w.heap[g]? = some (.cells cs.toArray e mm)) (v : Value) : (w.setCell ⟨g, x, none⟩ v).heap[g]? = some (.cells (cs.set x v).toArray e mm) := by
  simp [World.setCell, Array.getElem?_modify, h]
theorem rd_in {w : World} {g n : Nat} {ml : List Nat} {e : TypeId} {mm : Nat × Nat} (h : w.heap[g]? = some (.cells (inRow n ml).toArray e mm)) : Rd b1 1 w (some ⟨g, 0, none⟩) n ((List.range n).map fun v => decide (v ∈ ml)) := by
  have h2 := rd_heap (f := b1) (s := 1) (vs := (List.range n).map fun v => decide (v ∈ ml)) (fun _ => rfl) (by unfold inRow b1; rw [List.flatMap_map]; exact flat_one _ _) h
  simpa using h2
theorem cut_congr {R R' : Nat → Bool} : ∀ L : List Pi, (∀ p ∈ L, R p.fr = R' p.fr ∧ R p.to = R' p.to) → cut R L = cut R' L
  | [], _ => rfl
  | p :: L, h => by
    have h1 := h p (by simp)
    unfold cut
    rw [h1.1, h1.2, cut_congr L fun q hq => h q (by simp [hq])]
theorem held_congr {R R' : Nat → Bool} : ∀ L : List (Nat × Int), (∀ x ∈ L, R x.1 = R' x.1) → held R L = held R' L
  | [], _ => rfl
  | x :: L, h => by
    unfold held
    rw [h x (by simp), held_congr L fun q hq => h q (by simp [hq])]
theorem wt_congr {N : Net} (hN : N.Ok) (ds : List Int) {R R' : Nat → Bool} (h : ∀ v, v < N.n → R v = R' v) : N.wt false ds R = N.wt false ds R' := by
  unfold Net.wt Net.out
  rw [cut_congr (R := R) (R' := R') _ fun p hp => by
    obtain ⟨t, ht, rfl⟩ := List.mem_map.1 hp
    have := hN.tk t ht
    exact ⟨h _ this.1, h _ this.2.1⟩]
  rw [held_congr (R := R) (R' := R') _ fun x hx => h _ (hN.ck _ (List.of_mem_zip hx).1).2]
theorem of_in {N : Net} (R : Nat → Bool) (v : Nat) (hv : v < N.n) : ofRow ((List.range N.n).map fun v => decide (v ∈ mem R N.n)) v = R v := by
  unfold ofRow
  rw [List.getD_eq_getElem?_getD, List.getElem?_map, List.getElem?_range hv]
  show decide (v ∈ mem R N.n) = R v
  unfold mem
  rw [Bool.eq_iff_iff, decide_eq_true_eq, List.mem_filter]
  exact ⟨fun h => h.2, fun h => ⟨List.mem_range.2 hv, h⟩⟩
theorem mem_up (R : Nat → Bool) (n : Nat) : (mem R n).Pairwise (· < ·) := List.Pairwise.filter _ List.pairwise_lt_range
theorem mem_lt {R : Nat → Bool} {n x : Nat} (h : x ∈ mem R n) : x < n := List.mem_range.1 (List.mem_filter.1 h).1
theorem up_not_take {l : List Nat} (h : l.Pairwise (· < ·)) {k x : Nat} (hx : l[k]? = some x) : x ∉ l.take k := fun hm => by
  obtain ⟨i, hi, e⟩ := List.mem_iff_getElem.1 hm
  have hk := (List.getElem?_eq_some_iff.1 hx)
  obtain ⟨hk1, hk2⟩ := hk
  have hi2 : i < k := by rw [List.length_take] at hi; omega
  have := List.pairwise_iff_getElem.1 h i k (by omega) hk1 hi2
  rw [List.getElem_take] at e
  rw [e, hk2] at this
  omega
end Go.Proofs.Ytpkbpeeelpgmcaa
