/- Chapter 14: the walk of the reference's Greatest. · Chapter 14: the walk of the reference's demands. · Halving: if two numbers are possible, so are those between them: plain laws. No program in sight. · Chapter 14: the walk of members. · Network: the row of a set: plain. · Chapter 14: the least set out of all of them: plain laws. No walk. -/
import Derived.RegionTactic
import Derived.Laws.BitsLemmas
import Derived.Test.YtpkbpeeelpgmcaaGreatXLibQsM
import Derived.Test.YtpkbpeeelpgmcaaGreatXNwRckM
import Derived.Test.YtpkbpeeelpgmcaaGreatXNwGvp
import Derived.Test.YtpkbpeeelpgmcaaGreatXNwBitM
namespace Go.Proofs.YtpkbpeeelpgmcaaGreat
open Go.RowKit Go.Kq Go.Flow

theorem rcheck_bad (Z : Nz) (c : Int) (hc : ChkIs Z c) (A B : Option Addr) (ca cb : Nat) (w : World) (hR : RdNz w A B Z) :
    Calls Tryz.prog 36 #[netZ Z A B ca cb] w fun e w' => e = .returned (.int .i64 c) ∧ Kp No w w' := by
  refine (rCheck_any Z A B ca cb w hR).mono ?_
  rintro e w' ⟨c', rfl, hc', hk⟩
  rw [hc'.uniq hc]
  exact ⟨rfl, hk⟩
theorem rcheck_ok (N : Net) (hN : N.Ok) (A B : Option Addr) (ca cb : Nat) (w : World) (hR : RdNet w A B N) :
    Calls Tryz.prog 36 #[netV N A B ca cb] w fun e w' => e = .returned (.int .i64 0) ∧ Kp No w w' := by
  have h := rcheck_bad (nz N) 0 (chk_ok hN) A B ca cb w (rdnz_of hR)
  rwa [netZ_nz] at h
theorem two_new (w : World) (xs ys : Array Value) (s t : TypeId) : Kp No w ((w.alloc (.cells xs s)).alloc (.cells ys t)) ∧ ((w.alloc (.cells xs s)).alloc (.cells ys t)).heap[w.heap.size]? = some (.cells xs s (0, 0)) ∧ ((w.alloc (.cells xs s)).alloc (.cells ys t)).heap[w.heap.size + 1]? = some (.cells ys t (0, 0)) :=
  ⟨(Kp.alloc No _ _).tr (Kp.alloc No _ _), (Kp.alloc No _ _).heap (heap_alloc_new w (.cells xs s)) (fun h => h), by
    have := heap_alloc_new (w.alloc (.cells xs s)) (.cells ys t)
    simpa using this⟩
end Go.Proofs.YtpkbpeeelpgmcaaGreat

namespace Go.Proofs.YtpkbpeeelpgmcaaGreat
open Go.RowKit Go.Kq Go.Flow

set_option maxHeartbeats 2000000 in
theorem rdem_bad (Z : Nz) (c : Int) (hc : ChkIs Z c) (hz : c ≠ 0) (A B D : Option Addr) (ca cb dn dc : Nat) (w : World) (hR : RdNz w A B Z) :
    Calls Tryz.prog 54 #[netZ Z A B ca cb, .slice D dn dc] w fun e w' => e = .returned (.int .i64 c) ∧ Kp No w w' := by
  have H1 := Lib.hid (rcheck_bad Z c hc A B ca cb)
  have d1 : (c != 0) = true := by rw [bne_iff_ne]; exact hz
  have d2 : (c == 0) = false := by rw [beq_eq_false_iff_ne]; exact hz
  have HR := Lib.hid hR
  clear hc hz hR
  unfold netZ at H1
  unfold netZ
  have hcase : (0 : Int) < dn ∨ (dn : Int) ≤ 0 := by omega
  rcases hcase with h | h
  all_goals
    go_enter Tryz.func54, Tryz.ntmps54
    go_wp2_with fail
    have K0 := Lib.hid (Kp.alloc No w (.cells #[.int .i64 Z.n, .slice A Z.tr.length ca, .slice B Z.ch.length cb] 25))
    refine (H1.out _ (HR.out.no K0.out)).mono ?_
    rintro e w1 ⟨rfl, hk1⟩
    go_wp2_with fail
    go_loopw [5, 6] (fun ev iv wr => ev = .int .i64 c ∧ iv = .int .i64 0 ∧ wr = w1) (fun _ _ _ => 0)
    case atStart => exact ⟨rfl, rfl, rfl⟩
    case round =>
      obtain ⟨rfl, rfl, rfl⟩ := hrel
      go_wp2_with fail
      go_ret
      exact ⟨rfl, K0.out.tr hk1⟩
/-- The error of demands. -/
def DmC (N : Net) (ds : List Int) (c : Int) : Prop := ((ds.length = N.ch.length ∧ ∀ d ∈ ds, dOk d) ∧ c = 0) ∨ (¬ (ds.length = N.ch.length ∧ ∀ d ∈ ds, dOk d) ∧ c = 2)
set_option maxHeartbeats 4000000 in
theorem rdem_net (N : Net) (hN : N.Ok) (A B D : Option Addr) (ca cb dc : Nat) (ds : List Int) (w : World) (hR : RdNet w A B N) (hD : RdI .i64 w D ds.length ds) (hd20 : ds.length ≤ 1000000) :
    Calls Tryz.prog 54 #[netV N A B ca cb, .slice D ds.length dc] w fun e w' => ∃ c, e = .returned (.int .i64 c) ∧ DmC N ds c ∧ Kp No w w' := by
  have H1 := Lib.hid (rcheck_ok N hN A B ca cb)
  have HR := Lib.hid hR
  have HD := Lib.hid hD
  have hc1 := hN.c1
  clear hN hR hD
  unfold netV at H1
  unfold netV
  by_cases hl : ds.length = N.ch.length
  · have hb1 : ((ds.length : Int) == (N.ch.length : Int)) = true := by rw [beq_iff_eq]; omega
    have hb2 : ((ds.length : Int) != (N.ch.length : Int)) = false := by rw [bne_eq_false_iff_eq]; omega
    have HL := Lib.hid hl
    clear hl
    go_enter Tryz.func54, Tryz.ntmps54
    go_wp2_with fail
    have K0 := Lib.hid (Kp.alloc No w (.cells #[.int .i64 N.n, .slice A N.tr.length ca, .slice B N.ch.length cb] 25))
    refine (H1.out _ (HR.out.no K0.out)).mono ?_
    rintro e w1 ⟨rfl, hk1⟩
    have K1 := Lib.hid (K0.out.tr hk1)
    obtain ⟨x0, x1, x2⟩ := box3 (hk1.heap (heap_alloc_new w (.cells #[.int .i64 N.n, .slice A N.tr.length ca, .slice B N.ch.length cb] 25)) (fun h => h))
    clear hk1
    go_wp2_with fail
    go_loopw [5, 6] (fun ev iv wr => ∃ k : Nat, k ≤ ds.length ∧ iv = .int .i64 k ∧ ((ev = .int .i64 0 ∧ ∀ d ∈ ds.take k, dOk d) ∨ (ev = .int .i64 2 ∧ ∃ d ∈ ds, ¬ dOk d)) ∧ Kp No w1 wr) (fun _ iv _ => ds.length - (intOf iv).toNat)
    case atStart => exact ⟨0, by omega, rfl, .inl ⟨rfl, by simp⟩, Kp.refl _ _⟩
    case round =>
      obtain ⟨k, hk, rfl, ⟨rfl, hok⟩ | ⟨rfl, hbad⟩, hkp⟩ := hrel
      · have HOK := Lib.hid hok
        have HKP := Lib.hid hkp
        clear hok hkp
        by_cases hlt : (k : Int) < ds.length
        · obtain ⟨d, hdk⟩ : ∃ d, ds[k]? = some d := ⟨_, List.getElem?_eq_getElem (by omega)⟩
          obtain ⟨bD, oD, rfl, hbD, z0⟩ := (HD.out.no (K1.out.tr HKP.out)).2 k d hdk
          by_cases hg : dOk d
          · have HG := Lib.hid (show ∀ x ∈ ds.take (k + 1), dOk x from fun x hx => by
              rw [List.take_add_one, hdk] at hx
              rcases List.mem_append.1 hx with hx | hx
              · exact HOK.out x hx
              · simp at hx
                rw [hx]
                exact hg)
            unfold dOk at hg
            obtain ⟨g1, g2⟩ := hg
            clear hdk
            go_wp2_with fail
            go_roundw
            case rel => exact ⟨k + 1, by omega, by go_num, .inl ⟨rfl, HG.out⟩, HKP.out⟩
            case measure => simp [intOf]; omega
          · have HG := Lib.hid (show ∃ d ∈ ds, ¬ dOk d from ⟨d, List.mem_of_getElem? hdk, hg⟩)
            have hcase : d < 0 ∨ (0 ≤ d ∧ 1000000000000 < d) := by unfold dOk at hg; omega
            clear hdk hg
            rcases hcase with h | ⟨h, h2⟩
            all_goals
              go_wp2_with fail
              go_roundw
              case rel => exact ⟨k + 1, by omega, by go_num, .inr ⟨rfl, HG.out⟩, HKP.out⟩
              case measure => simp [intOf]; omega
        · have HG := Lib.hid (show ∀ x ∈ ds, dOk x by have := HOK.out; rwa [List.take_of_length_le (by omega)] at this)
          go_wp2_with fail
          go_ret
          exact ⟨0, rfl, .inl ⟨⟨HL.out, HG.out⟩, rfl⟩, K1.out.tr HKP.out⟩
      · have HB := Lib.hid (show ¬ (ds.length = N.ch.length ∧ ∀ d ∈ ds, dOk d) from fun h => by
          obtain ⟨d, h1, h2⟩ := hbad
          exact h2 (h.2 d h1))
        clear hbad
        have hcase : (k : Int) < ds.length ∨ (ds.length : Int) ≤ k := by omega
        rcases hcase with h | h
        all_goals
          go_wp2_with fail
          go_ret
          exact ⟨2, rfl, .inr ⟨HB.out, rfl⟩, K1.out.tr hkp⟩
  · have hb1 : ((ds.length : Int) == (N.ch.length : Int)) = false := by rw [beq_eq_false_iff_ne]; omega
    have hb2 : ((ds.length : Int) != (N.ch.length : Int)) = true := by rw [bne_iff_ne]; omega
    have HB := Lib.hid (show ¬ (ds.length = N.ch.length ∧ ∀ d ∈ ds, dOk d) from fun h => hl h.1)
    clear hl
    have hcase : (0 : Int) < ds.length ∨ (ds.length : Int) ≤ 0 := by omega
    rcases hcase with h | h
    all_goals
      go_enter Tryz.func54, Tryz.ntmps54
      go_wp2_with fail
      have K0 := Lib.hid (Kp.alloc No w (.cells #[.int .i64 N.n, .slice A N.tr.length ca, .slice B N.ch.length cb] 25))
      refine (H1.out _ (HR.out.no K0.out)).mono ?_
      rintro e w1 ⟨rfl, hk1⟩
      have K1 := Lib.hid (K0.out.tr hk1)
      obtain ⟨x0, x1, x2⟩ := box3 (hk1.heap (heap_alloc_new w (.cells #[.int .i64 N.n, .slice A N.tr.length ca, .slice B N.ch.length cb] 25)) (fun h => h))
      clear hk1
      go_wp2_with fail
      go_loopw [5, 6] (fun ev iv wr => ev = .int .i64 2 ∧ iv = .int .i64 0 ∧ wr = w1) (fun _ _ _ => 0)
      case atStart => exact ⟨rfl, rfl, rfl⟩
      case round =>
        obtain ⟨rfl, rfl, rfl⟩ := hrel
        go_wp2_with fail
        go_ret
        exact ⟨2, rfl, .inr ⟨HB.out, rfl⟩, K1.out⟩
end Go.Proofs.YtpkbpeeelpgmcaaGreat

namespace Go.Flow

theorem pf_one {N : Net} {h : Bool} {first : List Int} {k : Nat} {t : Tk} (x : Int) (hk : first.length = k) (ht : N.tr[k]? = some t) (G : List Int) :
    pf h N.tr (first ++ x :: G) = pf h N.tr first ++ ⟨t.fr, t.to, t.cap h, x, false⟩ :: pf h (N.tr.drop (k + 1)) G := by
  subst hk
  have hlt := (List.getElem?_eq_some_iff.1 ht).1
  rw [pf_app h _ _ _ (by omega)]
  have e : N.tr.drop first.length = t :: N.tr.drop (first.length + 1) := by
    rw [List.drop_eq_getElem_cons hlt]
    congr 1
    exact (List.getElem?_eq_some_iff.1 ht).2
  rw [e]
  rfl
theorem feas_ge {N : Net} {h : Bool} {ds first G : List Int} {k : Nat} {t : Tk} {x : Int} (hk : first.length = k) (ht : N.tr[k]? = some t) (hF : N.Feas h ds (first ++ x :: G)) (R : Nat → Bool) :
    dem (ind R) (N.ch.zip ds) ≤ dv (ind R) (pf h N.tr first) + x * (ind R t.fr - ind R t.to) + cut R ((N.tr.drop (k + 1)).map (tp h)) := by
  have h1 := hF.dv (ind R)
  rw [pf_one x hk ht, dv_app, dv] at h1
  have hlt := (List.getElem?_eq_some_iff.1 ht).1
  have hG : G.length = (N.tr.drop (k + 1)).length := by
    have := hF.len
    rw [List.length_append, List.length_cons] at this
    simp
    omega
  have h2 := weak R (pf h (N.tr.drop (k + 1)) G) fun p hp => hF.fit p (by rw [pf_one x hk ht]; simp [hp])
  rw [cut_sk (pf_sk h _ _ hG)] at h2
  simp only at h1
  omega
theorem No.between {N : Net} {h : Bool} {ds first G G' : List Int} {k : Nat} {t : Tk} {x m y : Int} (hk : first.length = k) (ht : N.tr[k]? = some t) (hno : N.No h ds (first ++ [m])) (hx : N.Feas h ds (first ++ x :: G)) (hy : N.Feas h ds (first ++ y :: G')) (h1 : x ≤ m) (h2 : m ≤ y) : False := by
  obtain ⟨R, hR⟩ := hno
  have a := feas_ge hk ht hx R
  have b := feas_ge hk ht hy R
  rw [pf_one m hk ht [], dv_app, List.length_append, List.length_singleton, hk] at hR
  have hnil : pf h (N.tr.drop (k + 1)) [] = [] := by simp [pf]
  rw [hnil] at hR
  simp only [dv] at hR
  cases hr1 : R t.fr <;> cases hr2 : R t.to
  · rw [ind_f hr1, ind_f hr2] at *
    simp at *
    omega
  · rw [ind_f hr1, ind_t hr2] at *
    simp at *
    omega
  · rw [ind_t hr1, ind_f hr2] at *
    simp at *
    omega
  · rw [ind_t hr1, ind_t hr2] at *
    simp at *
    omega
/-- The state of the search for the least flow: its first k numbers, and a flow that goes on from them. -/
structure HS (N : Net) (h : Bool) (ds : List Int) (k : Nat) (first F : List Int) : Prop where
  len : first.length = k
  feas : N.Feas h ds F
  pre : F.take k = first
  lo : ∀ (j : Nat) (G : List Int), j < k → N.Feas h ds G → (∀ i, i < j → G[i]? = F[i]?) → ∀ f g : Int, F[j]? = some f → G[j]? = some g → f ≤ g
theorem HS.start {N : Net} {h : Bool} {ds F : List Int} (hF : N.Feas h ds F) : HS N h ds 0 [] F := ⟨rfl, hF, by simp, fun j G hj => by omega⟩
theorem HS.fin {N : Net} {h : Bool} {ds first F : List Int} (hs : HS N h ds N.tr.length first F) : N.Least h ds first := by
  have e : first = F := by rw [← hs.pre, List.take_of_length_le (by rw [hs.feas.len]; exact Nat.le_refl _)]
  subst e
  refine ⟨hs.feas, fun k G hG hi f g hf hg => ?_⟩
  have hk := (List.getElem?_eq_some_iff.1 hg).1
  rw [hG.len] at hk
  exact hs.lo k G hk hG hi f g hf hg
/-- One halving's state. -/
def HI (N : Net) (h : Bool) (ds first F : List Int) (low can : Int) : Prop :=
  N.Feas h ds F ∧ (∃ G, F = first ++ can :: G) ∧ low < can ∧ -1 ≤ low ∧ ∀ x G, x ≤ low → ¬ N.Feas h ds (first ++ x :: G)
theorem HI.start {N : Net} {h : Bool} {ds first F : List Int} {k : Nat} {t : Tk} {x : Int} (hs : HS N h ds k first F) (hx : F[k]? = some x) (ht : N.tr[k]? = some t) : HI N h ds first F (-1) x ∧ x ≤ t.cap h := by
  have hlt := (List.getElem?_eq_some_iff.1 hx).1
  have e : F = first ++ x :: F.drop (k + 1) := by
    conv => lhs; rw [← List.take_append_drop k F, hs.pre, List.drop_eq_getElem_cons hlt, (List.getElem?_eq_some_iff.1 hx).2]
  have hb := hs.feas.fit.get (pf_at ht hx)
  simp only at hb
  refine ⟨⟨hs.feas, ⟨_, e⟩, by omega, by omega, fun y G hy hF => ?_⟩, hb.2⟩
  have := hF.fit.get (pf_at ht (f := y) (by rw [List.getElem?_append_right (by rw [hs.len]; exact Nat.le_refl _), hs.len]; simp))
  simp only at this
  omega
theorem HI.yes {N : Net} {h : Bool} {ds first F G : List Int} {low can m : Int} (hi : HI N h ds first F low can) (hm : low < m) (hF : N.Feas h ds ((first ++ [m]) ++ G)) : HI N h ds first ((first ++ [m]) ++ G) low m :=
  ⟨hF, ⟨G, by simp⟩, hm, hi.2.2.2.1, hi.2.2.2.2⟩
theorem HI.no {N : Net} {h : Bool} {ds first F : List Int} {low can m : Int} {k : Nat} {t : Tk} (hi : HI N h ds first F low can) (hk : first.length = k) (ht : N.tr[k]? = some t) (h1 : low < m) (hm : m < can) (hno : N.No h ds (first ++ [m])) : HI N h ds first F m can := by
  obtain ⟨hF, ⟨G, hG⟩, _, h3, h4⟩ := hi
  refine ⟨hF, ⟨G, hG⟩, hm, by omega, fun x G' hx hF' => ?_⟩
  rw [hG] at hF
  exact No.between hk ht hno hF' hF hx (by omega)
theorem HI.fin {N : Net} {h : Bool} {ds first F0 F : List Int} {low can : Int} {k : Nat} (hs : HS N h ds k first F0) (hi : HI N h ds first F low can) (he : can ≤ low + 1) : HS N h ds (k + 1) (first ++ [can]) F := by
  obtain ⟨hF, ⟨G, hG⟩, h2, h3, h4⟩ := hi
  have hlen := hs.len
  have pre : ∀ i, i < k → F[i]? = F0[i]? := fun i hi => by
    rw [hG, List.getElem?_append_left (by omega), ← hs.pre, List.getElem?_take, if_pos hi]
  refine ⟨by simp [hlen], hF, ?_, fun j G' hj hG' hi f g hf hg => ?_⟩
  · rw [hG]
    rw [List.take_append]
    rw [hlen, List.take_of_length_le (by omega)]
    simp
  · by_cases hjk : j < k
    · exact hs.lo j G' hjk hG' (fun i hij => (hi i hij).trans (pre i (by omega))) f g (by rw [← pre j hjk]; exact hf) hg
    · obtain rfl : j = k := by omega
      have hfc : f = can := by
        rw [hG, List.getElem?_append_right (by omega), hlen] at hf
        simpa using hf.symm
      subst hfc
      have hlt := (List.getElem?_eq_some_iff.1 hg).1
      have e : G' = first ++ g :: G'.drop (j + 1) := by
        conv => lhs; rw [← List.take_append_drop j G', List.drop_eq_getElem_cons hlt, (List.getElem?_eq_some_iff.1 hg).2]
        congr 1
        refine List.ext_getElem? fun i => ?_
        rw [List.getElem?_take]
        by_cases h5 : i < j
        · rw [if_pos h5, hi i h5, hG, List.getElem?_append_left (by omega)]
        · rw [if_neg h5, List.getElem?_eq_none (by omega)]
      by_cases hle : f ≤ g
      · exact hle
      · rw [e] at hG'
        exact absurd hG' (h4 g _ (by omega))
end Go.Flow

namespace Go.Proofs.YtpkbpeeelpgmcaaGreat
open Go.RowKit Go.Kq Go.Flow

theorem info4 : (Tryz.prog.info? 4).map (fun i => (i.zero, i.size, i.bytes)) = some (some (.bool false), 1, 1) := by kernel_rfl
theorem tRow_succ (k : Nat) (R : Nat → Bool) : tRow k R ++ [.bool (R k)] = tRow (k + 1) R := by
  unfold tRow
  rw [List.range_succ, List.map_append]
  rfl
theorem one_newsb (w : World) (t : TypeId) (c : Bool) : ∀ (j : Nat) (u : Value), [Value.bool c][j]? = some u → (w.alloc (.cells #[.bool c] t)).cell? ((⟨w.heap.size, 0, none⟩ : Addr).add j) = some u := fun j u hj => by
  match j, hj with
  | 0, hj =>
    simp at hj
    subst hj
    rw [add_at]
    go_simp
  | k + 1, hj => simp at hj
set_option maxHeartbeats 2000000 in
theorem members_any (n b : Nat) (w : World) (hn : n ≤ 20) (hb : b < 2 ^ 20) :
    Calls Tryz.prog 79 #[.int .i64 n, .int .i64 b] w fun e w' => ∃ v, e = .returned v ∧ w'.ownsRow w.heap.size 4 1 v n (tRow n (bitR b)) ∧ Kp No w w' := by
  obtain ⟨i0, hi0, hz0, hz1, hz2⟩ := info_parts info4
  have HB := Lib.hid hb
  have hb2 : (b : Int) < 1048576 := by omega
  clear hb
  go_enter Tryz.func79, Tryz.ntmps79
  go_wp2_with fail
  go_loopw [5, 6] (fun v i wr => ∃ k : Nat, k ≤ n ∧ i = .int .i64 k ∧ wr.ownsRow w.heap.size 4 1 v k (tRow k (bitR b)) ∧ Kp No w wr) (fun _ i _ => n - (intOf i).toNat)
  case atStart => exact ⟨0, by omega, rfl, ⟨by simp [tRow], .inl ⟨rfl, rfl⟩⟩, Kp.refl _ _⟩
  case round =>
    obtain ⟨k, hk, rfl, hown, hkp⟩ := hrel
    obtain ⟨av, cv, rfl, _, _, _⟩ := own_form hown
    have HO := Lib.hid hown
    have HK := Lib.hid hkp
    clear hown hkp
    by_cases hlt : (k : Int) < n
    · have hbit := bit_is b k HB.out
      have hbe := bit_eq b k
      have HT := Lib.hid (tRow_succ k (bitR b))
      go_wp2_with (at_builtin; refine stop_in ?_)
      refine stop_out ?_
      refine wpList_append_own_at _ rfl _ _ 74 rfl w.heap.size 4 i0 (.bool false) 1 1 Tryz.underlying74 hi0 hz0 hz1 hz2 rfl (by decide) (.slice av k cv) k (tRow k (bitR b)) rfl (own_kp HO.out (Kp.alloc No _ _) (fun _ _ h => h)) ⟨wr.heap.size, 0, none⟩ 1 1 [.bool (bitR b k)] rfl rfl (one_newsb wr 4 _) (by simp [Value.oneCell']) (by unfold maxLen; omega) (by omega) (by have := HK.out.size; simp; omega) ?_
      intro v' w5 hown' hgrow hnil hat
      rw [HT.out] at hown'
      have K5 := Lib.hid (HK.out.trans ((Kp.alloc (fun k => w.heap.size ≤ k) _ _).tr (Kp.grown hgrow fun k hk _ => (own_ge HO.out hk).1)) fun k hk h => absurd h (by omega))
      have O5 := Lib.hid hown'
      clear hown' hgrow hnil hat hbit hbe
      go_wp2_with fail
      go_roundw
      case rel => exact ⟨k + 1, by omega, by go_num, O5.out, K5.out⟩
      case measure => simp [intOf]; omega
    · obtain rfl : k = n := by omega
      go_wp2_with fail
      refine bodyPost_ret (v := .slice av k cv) (by simp [results, Tryz.results79, go_sem]) rfl ⟨_, rfl, HO.out, HK.out⟩
end Go.Proofs.YtpkbpeeelpgmcaaGreat

namespace Go.Proofs.YtpkbpeeelpgmcaaGreat
open Go.RowKit Go.Kq Go.Flow

def rowOf (n : Nat) (M : List Nat) : List Bool := (List.range n).map fun v => decide (v ∈ M)
theorem rowOf_nil (n : Nat) : rowOf n [] = List.replicate n false := by
  apply List.ext_getElem
  · simp [rowOf]
  · intro i h1 h2
    simp [rowOf]
theorem rowOf_mem {n : Nat} (R : Nat → Bool) {v : Nat} (hv : v < n) : ofRow (rowOf n (mem R n)) v = R v := by
  unfold ofRow rowOf
  rw [List.getD_eq_getElem?_getD, List.getElem?_map, List.getElem?_range hv]
  have : v ∈ mem R n ↔ R v = true := by
    unfold mem
    rw [List.mem_filter, List.mem_range]
    simp [hv]
  cases hr : R v <;> simp [this, hr]
theorem cut_congr {R S : Nat → Bool} (h : Bool) : ∀ l : List Tk, (∀ t ∈ l, R t.fr = S t.fr ∧ R t.to = S t.to) → cut R (l.map (tp h)) = cut S (l.map (tp h))
  | [], _ => rfl
  | t :: l, e => by
    have ih := cut_congr h l fun y hy => e y (by simp [hy])
    obtain ⟨e1, e2⟩ := e t (by simp)
    simp only [List.map_cons, cut, tp, e1, e2] at ih ⊢
    rw [ih]
theorem out_congr {N : Net} (hN : N.Ok) (h : Bool) {R S : Nat → Bool} (e : ∀ v, v < N.n → R v = S v) : N.out h R = N.out h S :=
  cut_congr h _ fun t ht => ⟨e _ (hN.tk t ht).1, e _ (hN.tk t ht).2.1⟩
theorem out_row {N : Net} (hN : N.Ok) (h : Bool) (R : Nat → Bool) : N.out h (ofRow (rowOf N.n (mem R N.n))) = N.out h R :=
  out_congr hN h fun _ hv => rowOf_mem R hv
theorem rowOf_at {n : Nat} (R : Nat → Bool) {v : Nat} (hv : v < n) : ((rowOf n (mem R n)).map Value.bool)[v]? = some (.bool (R v)) := by
  have h := rowOf_mem R hv
  unfold ofRow at h
  rw [List.getD_eq_getElem?_getD] at h
  have hl : (rowOf n (mem R n)).length = n := by simp [rowOf]
  rw [List.getElem?_map, List.getElem?_eq_getElem (by omega)]
  rw [List.getElem?_eq_getElem (by omega)] at h
  simp at h
  simp [h]
theorem mem_zip_snd {α β : Type} : ∀ {l : List α} {k : List β} {x : α × β}, x ∈ l.zip k → x.2 ∈ k
  | [], _, _, h => by simp at h
  | _ :: _, [], _, h => by simp at h
  | a :: l, b :: k, x, h => by
    rcases List.mem_cons.1 h with rfl | h
    · simp
    · simp [mem_zip_snd h]

theorem own_pos {w : World} {base n : Nat} {e : TypeId} {size : Nat} {v : Value} {xs : List Value} (h : w.ownsRow base e size v n xs) (hn : 0 < n) : ∃ g cap, v = .slice (some ⟨g, 0, none⟩) n cap := by
  obtain ⟨a, cap, rfl, _, _, hp⟩ := own_form h
  obtain ⟨g, rfl⟩ := hp hn
  exact ⟨g, cap, rfl⟩
theorem rd_own_bools {w : World} {base n cap : Nat} {A : Option Addr} {bs : List Bool} (h : w.ownsRow base 4 1 (.slice A n cap) n (bs.map Value.bool)) : Rd b1 1 w A n bs := by
  refine Rd.of_own (base := base) (e := 4) (cap := cap) (fun _ => rfl) (by omega) ?_
  have e : bs.flatMap b1 = bs.map Value.bool := by
    clear h
    induction bs with
    | nil => rfl
    | cons b l ih => simp [b1, ih]
  rw [e]
  exact h
end Go.Proofs.YtpkbpeeelpgmcaaGreat

namespace Go.Proofs.YtpkbpeeelpgmcaaGreat
open Go.RowKit Go.Kq Go.Flow

def numOf (R : Nat → Bool) : Nat → Nat
  | 0 => 0
  | n + 1 => numOf R n ||| (if R n then 2 ^ n else 0)
theorem numOf_lt (R : Nat → Bool) : ∀ n, numOf R n < 2 ^ n
  | 0 => by simp [numOf]
  | n + 1 => by
    have ih := numOf_lt R n
    have h1 : (2 : Nat) ^ n < 2 ^ (n + 1) := Nat.pow_lt_pow_right (by omega) (by omega)
    unfold numOf
    refine Nat.or_lt_two_pow (by omega) ?_
    split
    · exact h1
    · exact Nat.two_pow_pos _
theorem numOf_bit (R : Nat → Bool) : ∀ (n i : Nat), i < n → bitR (numOf R n) i = R i
  | 0, i, h => by omega
  | n + 1, i, h => by
    unfold bitR numOf
    rw [Nat.testBit_or]
    by_cases e : i = n
    · subst e
      rw [Nat.testBit_lt_two_pow (numOf_lt R i)]
      cases R i <;> simp [Nat.testBit_two_pow_self]
    · have ih := numOf_bit R n i (by omega)
      unfold bitR at ih
      rw [ih]
      cases R n
      · simp
      · simp [show n ≠ i by omega]
/-- What is known when the sets below a number were looked at. -/
def LInv (A : (Nat → Bool) → Prop) (W : (Nat → Bool) → Int) (b : Nat) (low : Int) (all : Nat) : Prop :=
  (low = -1 ∧ ∀ c, c < b → c % 2 = 1 → ¬ A (bitR c)) ∨
  (0 ≤ low ∧ (∀ c, c < b → c % 2 = 1 → A (bitR c) → low ≤ W (bitR c)) ∧ (∃ c, c < b ∧ c % 2 = 1 ∧ A (bitR c) ∧ W (bitR c) = low) ∧
    ∀ i, bitR all i = true ↔ ∀ c, c < b → c % 2 = 1 → A (bitR c) → W (bitR c) = low → bitR c i = true)
section
variable {A : (Nat → Bool) → Prop} {W : (Nat → Bool) → Int} {b : Nat} {low : Int} {all : Nat}
theorem LInv.start : LInv A W 1 (-1) 0 := .inl ⟨rfl, fun c h1 h2 => by omega⟩
theorem odd_cases {b c : Nat} (hb : b % 2 = 1) (h : c < b + 2) (hc : c % 2 = 1) : c < b ∨ c = b := by omega
theorem LInv.skip (h : LInv A W b low all) (hb : b % 2 = 1) (hn : ¬ A (bitR b)) : LInv A W (b + 2) low all := by
  rcases h with ⟨h1, h2⟩ | ⟨h1, h2, ⟨c0, h3, h4, h5, h6⟩, h7⟩
  · refine .inl ⟨h1, fun c hc ho hA => ?_⟩
    rcases odd_cases hb hc ho with h | rfl
    · exact h2 c h ho hA
    · exact hn hA
  · refine .inr ⟨h1, fun c hc ho hA => ?_, ⟨c0, by omega, h4, h5, h6⟩, fun i => ⟨fun hi c hc ho hA hw => ?_, fun hi => (h7 i).2 fun c hc => hi c (by omega)⟩⟩
    · rcases odd_cases hb hc ho with h | rfl
      · exact h2 c h ho hA
      · exact absurd hA hn
    · rcases odd_cases hb hc ho with h | rfl
      · exact (h7 i).1 hi c h ho hA hw
      · exact absurd hA hn
theorem LInv.more (h : LInv A W b low all) (hb : b % 2 = 1) (hg : 0 ≤ low) (hw : low < W (bitR b)) : LInv A W (b + 2) low all := by
  rcases h with ⟨h1, h2⟩ | ⟨h1, h2, ⟨c0, h3, h4, h5, h6⟩, h7⟩
  · omega
  · refine .inr ⟨h1, fun c hc ho hA => ?_, ⟨c0, by omega, h4, h5, h6⟩, fun i => ⟨fun hi c hc ho hA hw => ?_, fun hi => (h7 i).2 fun c hc => hi c (by omega)⟩⟩
    · rcases odd_cases hb hc ho with h | rfl
      · exact h2 c h ho hA
      · omega
    · rcases odd_cases hb hc ho with h | rfl
      · exact (h7 i).1 hi c h ho hA hw
      · omega
theorem LInv.less (h : LInv A W b low all) (hb : b % 2 = 1) (hA : A (bitR b)) (h0 : 0 ≤ W (bitR b)) (hw : low < 0 ∨ W (bitR b) < low) : LInv A W (b + 2) (W (bitR b)) b := by
  refine .inr ⟨h0, fun c hc ho hAc => ?_, ⟨b, by omega, hb, hA, rfl⟩, fun i => ⟨fun hi c hc ho hAc hwc => ?_, fun hi => hi b (by omega) hb hA rfl⟩⟩
  · rcases odd_cases hb hc ho with hlt | rfl
    · rcases h with ⟨_, h2⟩ | ⟨h1, h2, _⟩
      · exact absurd hAc (h2 c hlt ho)
      · have := h2 c hlt ho hAc
        omega
    · exact Int.le_refl _
  · rcases odd_cases hb hc ho with hlt | rfl
    · rcases h with ⟨_, h2⟩ | ⟨h1, h2, _⟩
      · exact absurd hAc (h2 c hlt ho)
      · have := h2 c hlt ho hAc
        omega
    · exact hi
theorem LInv.same (h : LInv A W b low all) (hb : b % 2 = 1) (hA : A (bitR b)) (h0 : 0 ≤ low) (hw : W (bitR b) = low) : LInv A W (b + 2) low (all &&& b) := by
  have hbit : ∀ i, bitR (all &&& b) i = (bitR all i && bitR b i) := fun i => by unfold bitR; rw [Nat.testBit_and]
  rcases h with ⟨h1, h2⟩ | ⟨h1, h2, ⟨c0, h3, h4, h5, h6⟩, h7⟩
  · omega
  · refine .inr ⟨h1, fun c hc ho hAc => ?_, ⟨c0, by omega, h4, h5, h6⟩, fun i => ?_⟩
    · rcases odd_cases hb hc ho with hlt | rfl
      · exact h2 c hlt ho hAc
      · omega
    · rw [hbit, Bool.and_eq_true, h7 i]
      constructor
      · rintro ⟨g1, g2⟩ c hc ho hAc hwc
        rcases odd_cases hb hc ho with hlt | rfl
        · exact g1 c hlt ho hAc hwc
        · exact g2
      · exact fun g => ⟨fun c hc ho hAc hwc => g c (by omega) ho hAc hwc, g b (by omega) hb hA hw⟩
theorem LInv.fin (h : LInv A W b low all) {n : Nat} (hb : 2 ^ n ≤ b) {R : Nat → Bool} (hR : Min A W R) (hn : 0 < n) (h0 : R 0 = true) (hA : ∀ S S', (∀ v, v < n → S v = S' v) → (∀ v, n ≤ v → S' v = false) → A S → A S') (hW : ∀ S S', (∀ v, v < n → S v = S' v) → W S = W S') : ∀ i, i < n → bitR all i = R i := fun i hi => by
  have hr := numOf_lt R n
  have hbit := numOf_bit R n
  have hodd : numOf R n % 2 = 1 := by
    have h1 := hbit 0 hn
    rw [h0] at h1
    unfold bitR at h1
    rw [Nat.testBit_zero, decide_eq_true_eq] at h1
    exact h1
  have hAr : A (bitR (numOf R n)) := hA R _ (fun v hv => (hbit v hv).symm) (fun v hv => by
    unfold bitR
    exact Nat.testBit_lt_two_pow (Nat.lt_of_lt_of_le hr (Nat.pow_le_pow_right (by omega) hv))) hR.1
  have hWr : W (bitR (numOf R n)) = W R := hW _ _ hbit
  rcases h with ⟨_, h2⟩ | ⟨_, h2, ⟨c0, h3, h4, h5, h6⟩, h7⟩
  · exact absurd hAr (h2 _ (by omega) hodd)
  · have g1 := h2 _ (by omega) hodd hAr
    have g2 := (hR.2 _ h5).1
    have hlow : low = W R := by omega
    cases hRi : R i with
    | true =>
      refine (h7 i).2 fun c hc ho hAc hwc => ?_
      exact (hR.2 _ hAc).2 (by omega) i hRi
    | false =>
      cases hai : bitR all i with
      | false => rfl
      | true =>
        have := (h7 i).1 hai _ (by omega) hodd hAr (by omega)
        rw [hbit i hi, hRi] at this
        cases this
end
theorem tRow_mem (n : Nat) (R : Nat → Bool) : tRow n R = (rowOf n (mem R n)).map Value.bool := by
  apply List.ext_getElem?
  intro i
  by_cases h : i < n
  · rw [tRow_at R h, rowOf_at R h]
  · rw [List.getElem?_eq_none (by simp [tRow]; omega), List.getElem?_eq_none (by simp [rowOf]; omega)]
theorem bitR_big {c n v : Nat} (hc : c < 2 ^ n) (hv : n ≤ v) : bitR c v = false := by
  unfold bitR
  exact Nat.testBit_lt_two_pow (Nat.lt_of_lt_of_le hc (Nat.pow_le_pow_right (by omega) hv))
theorem bitR_odd {c : Nat} (hc : c % 2 = 1) : bitR c 0 = true := by
  unfold bitR
  rw [Nat.testBit_zero, decide_eq_true_eq]
  exact hc
theorem held_snoc (R : Nat → Bool) (x : Nat × Int) : ∀ l : List (Nat × Int), held R (l ++ [x]) = held R l + if R x.1 then x.2 else 0
  | [] => by simp [held]
  | y :: l => by simp only [List.cons_append, held, held_snoc R x l]; omega
theorem held_bd (R : Nat → Bool) : ∀ (l : List (Nat × Int)), (∀ x ∈ l, dOk x.2) → 0 ≤ held R l ∧ held R l ≤ 1000000000000 * l.length
  | [], _ => by simp [held]
  | x :: l, h => by
    have ih := held_bd R l fun y hy => h y (by simp [hy])
    have := h x (by simp)
    unfold dOk at this
    have e : (1000000000000 : Int) * ((x :: l).length : Nat) = 1000000000000 * (l.length : Nat) + 1000000000000 := by simp [Int.mul_add]
    rw [e, held]
    split <;> omega
theorem held_congr {R S : Nat → Bool} : ∀ l : List (Nat × Int), (∀ x ∈ l, R x.1 = S x.1) → held R l = held S l
  | [], _ => rfl
  | x :: l, h => by rw [held, held, held_congr l fun y hy => h y (by simp [hy]), h x (by simp)]
theorem wt_congr {N : Net} (hN : N.Ok) (h : Bool) (ds : List Int) {R S : Nat → Bool} (e : ∀ v, v < N.n → R v = S v) : N.wt h ds R = N.wt h ds S := by
  unfold Net.wt
  rw [out_congr hN h e, held_congr _ fun x hx => e _ (hN.ck x.1 (mem_zip_fst hx)).2]
/-- Is a chest among the first k in a set? -/
def anyCh (R : Nat → Bool) (l : List Nat) : Bool := l.any R
theorem anyCh_snoc (R : Nat → Bool) (l : List Nat) (c : Nat) : anyCh R (l ++ [c]) = (anyCh R l || R c) := by simp [anyCh]
end Go.Proofs.YtpkbpeeelpgmcaaGreat
