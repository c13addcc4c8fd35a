/- Chapter 09: the reference's Rank and less: the walks. -/
import Derived.Test.YtamjhpdgclbfgaaXNtE
namespace Go.Proofs.Ytamjhpdgclbfgaa
open Go.RowKit Go.Kq

theorem hfold_facts {K : Int} (hK : 0 ≤ K ∧ K ≤ 50000) : ∀ (z : List (Nat × Ct)) (q : List Int × List Int), (∀ x ∈ z, 0 ≤ x.2.h ∧ x.2.h ≤ 20000000) → (∀ x ∈ q.1, 0 ≤ x ∧ x ≤ 20000000) → (z.foldl (hstep K) q).1.length = q.1.length ∧ ∀ x ∈ (z.foldl (hstep K) q).1, 0 ≤ x ∧ x ≤ 20000000
  | [], q, _, h => ⟨rfl, h⟩
  | y :: z, q, hz, h => by
    have hy := hz y (by simp)
    have b1 := getD_bd (j := y.1) h (by omega)
    obtain ⟨h1, h2⟩ := hfold_facts hK z (hstep K q y) (fun x hx => hz x (by simp [hx])) (fun x hx => by
      rcases List.mem_or_eq_of_mem_set hx with hx | rfl
      · exact h x hx
      · omega)
    rw [List.foldl_cons]
    exact ⟨by rw [h1, (hstep_len K q y).1], h2⟩
theorem hgt_facts {P : Pt} {l : List Ct} {S : List Nat} {H : List Int} (ok : CtOk l P.k) (h : hgtV P l S = some H) : H.length = cntF S ∧ ∀ x ∈ H, 0 ≤ x ∧ x ≤ 20000000 := by
  unfold hgtV at h
  simp only at h
  split at h
  · cases h
    obtain ⟨h1, h2⟩ := hfold_facts ok.k (S.zip l) (List.replicate (cntF S) 0, List.replicate (cntF S) 0) (fun x hx => by
      have := ok.c x.2 (List.of_mem_zip hx).2
      omega) (rep_bd (by omega))
    exact ⟨by rw [h1]; simp, h2⟩
  · cases h
theorem ufold_facts {K : Int} (hK : 0 ≤ K ∧ K ≤ 50000) : ∀ (z : List (Nat × Int)) (k : Nat) (q : List Int), (∀ x ∈ z, 0 ≤ x.2 ∧ x.2 ≤ 20000000) → (∀ x ∈ q, 0 ≤ x ∧ x ≤ 20050000 * (k : Int)) → (z.foldl (ustep K) q).length = q.length ∧ ∀ x ∈ z.foldl (ustep K) q, 0 ≤ x ∧ x ≤ 20050000 * ((k + z.length : Nat) : Int)
  | [], k, q, _, h => ⟨rfl, h⟩
  | y :: z, k, q, hz, h => by
    have hy := hz y (by simp)
    obtain ⟨h1, h2⟩ := ufold_facts hK z (k + 1) (ustep K q y) (fun x hx => hz x (by simp [hx])) (ustep_bd (s := y.1) hK hy h)
    rw [List.foldl_cons]
    refine ⟨by rw [h1]; simp [ustep], fun x hx => ?_⟩
    have := h2 x hx
    rw [show k + (y :: z).length = k + 1 + z.length by simp; omega]
    exact this
theorem use_facts {P : Pt} {H U : List Int} {ON : List Nat} (hK : 0 ≤ P.k ∧ P.k ≤ 50000) (hH : ∀ x ∈ H, 0 ≤ x ∧ x ≤ 20000000) (hl : H.length ≤ 8) (h : useV P H ON = some U) : U.length = cntF ON ∧ ∀ x ∈ U, 0 ≤ x ∧ x ≤ 1000000000 := by
  unfold useV at h
  simp only at h
  split at h
  · cases h
    obtain ⟨h1, h2⟩ := ufold_facts hK (ON.zip H) 0 (List.replicate (cntF ON) 0) (fun x hx => hH x.2 (List.of_mem_zip hx).2) (rep_bd (by omega))
    refine ⟨by rw [h1]; simp, fun x hx => ?_⟩
    have h3 := h2 x hx
    have h4 : (ON.zip H).length ≤ 8 := by simp; omega
    omega
  · cases h
def rkVal : Option (Int × Int) → Value
  | none => .tuple #[.int .i64 0, .int .i64 0, .bool false]
  | some (n, h) => .tuple #[.int .i64 n, .int .i64 h, .bool true]
set_option maxHeartbeats 8000000 in
set_option maxRecDepth 100000 in
theorem rank_any (P : Pt) (A : Option Addr) (n ca : Nat) (l : List Ct) (AS : Option Addr) (cs : Nat) (S : List Nat) (AO : Option Addr) (m co : Nat) (ON : List Nat) (w : World) (hx : RdC w A n l) (hS : RdI .i64 w AS n (S.map Int.ofNat)) (hO : RdI .i64 w AO m (ON.map Int.ofNat)) (hn : n ≤ 8) (hok : CtOk l P.k) (hM : cntF S = m) (hm : m ≤ 8) (hMO : cntF ON ≤ 8) :
    Calls Try.prog 33 #[P.val, .slice A n ca, .agg #[.slice AS n cs, .slice AO m co]] w fun e w' => e = .returned (rkVal (rankV P l S ON)) ∧ Kp No w w' := by
  obtain ⟨w1, hw1⟩ : ∃ w1, (w.alloc (.cells #[.int .i64 P.w, .int .i64 P.h, .int .i64 P.k] 23)).alloc (.cells #[.slice AS n cs, .slice AO m co] 69) = w1 := ⟨_, rfl⟩
  have hk1 : Kp No w w1 := by rw [← hw1]; exact (Kp.alloc _ _ _).tr (Kp.alloc _ _ _)
  obtain ⟨g0, hg0⟩ : ∃ g, w.heap.size = g := ⟨_, rfl⟩
  have hb0 : w1.heap[g0]? = some (.cells #[.int .i64 P.w, .int .i64 P.h, .int .i64 P.k] 23 (0, 0)) := by
    rw [← hw1, ← hg0]
    exact (Kp.alloc No _ _).heap (heap_alloc_new _ _) id
  have hb1 : w1.heap[g0 + 1]? = some (.cells #[.slice AS n cs, .slice AO m co] 69 (0, 0)) := by
    rw [← hw1, ← hg0]
    have := heap_alloc_new (w.alloc (.cells #[.int .i64 P.w, .int .i64 P.h, .int .i64 P.k] 23)) (.cells #[.slice AS n cs, .slice AO m co] 69)
    simpa using this
  have HH := Lib.hid (heights_any P A n ca l AS cs S w1 (hx.no hk1) (hS.no hk1) hn hok (by omega))
  have HF := Lib.hid (fun H (h : hgtV P l S = some H) => hgt_facts hok h)
  have HU := Lib.hid (fun (H : List Int) AH ch w0 (k : Kp No w w0) (hr : RdI .i64 w0 AH m H) (hb : ∀ x ∈ H, 0 ≤ x ∧ x ≤ 20000000) => used_any P AH m ch H AO co ON w0 hr (hO.no k) hm hb hok.k hMO)
  have HUF := Lib.hid (fun (H U : List Int) (hb : ∀ x ∈ H, 0 ≤ x ∧ x ≤ 20000000) (hl : H.length ≤ 8) (h : useV P H ON = some U) => use_facts hok.k hb hl h)
  have HV := Lib.hid (show rankV P l S ON = match hgtV P l S with | none => none | some H => match useV P H ON with | none => none | some U => some (((U.length : Nat) : Int), U.sum) from rfl)
  obtain ⟨rv, hrv⟩ : ∃ rv, rankV P l S ON = rv := ⟨_, rfl⟩
  rw [hrv] at HV ⊢
  have p0 : w1.cell? ⟨g0, 0, none⟩ = some (.int .i64 P.w) := by rw [cell_of_row _ _ _ _ _ _ hb0]; rfl
  have p1 : w1.cell? ⟨g0, 1, none⟩ = some (.int .i64 P.h) := by rw [cell_of_row _ _ _ _ _ _ hb0]; rfl
  have p2 : w1.cell? ⟨g0, 2, none⟩ = some (.int .i64 P.k) := by rw [cell_of_row _ _ _ _ _ _ hb0]; rfl
  have q0 : w1.cell? ⟨g0 + 1, 0, none⟩ = some (.slice AS n cs) := by rw [cell_of_row _ _ _ _ _ _ hb1]; rfl
  have q1 : w1.cell? ⟨g0 + 1, 1, none⟩ = some (.slice AO m co) := by rw [cell_of_row _ _ _ _ _ _ hb1]; rfl
  unfold Pt.val at *
  have HK1 := Lib.hid hk1
  clear hx hS hO hok hb0 hb1 hrv hk1
  go_enter Try.func33, Try.ntmps33
  go_wp2_with fail
  clear hw1 hg0
  with_reducible refine HH.out.mono ?_
  rintro e w2 ⟨hr, k2⟩
  have HK2 := Lib.hid (HK1.out.tr k2)
  replace p0 := k2.cell p0 id
  replace p1 := k2.cell p1 id
  replace p2 := k2.cell p2 id
  replace q0 := k2.cell q0 id
  replace q1 := k2.cell q1 id
  clear k2 HH HK1
  match hh : hgtV P l S, hr with
  | none, hr =>
    have hr : e = _ := hr
    subst hr
    have HR := Lib.hid (show rv = none by rw [HV.out, hh])
    clear hh
    go_wp2_with fail
    exact bodyPost_ret (v := .tuple #[.int .i64 0, .int .i64 0, .bool false]) (by simp [results, Try.results33, go_sem]) rfl ⟨by rw [HR.out]; rfl, HK2.out⟩
  | some H, hr =>
    obtain ⟨AH, mh, ch, rfl, hri, _⟩ := hr
    obtain ⟨hl, hb⟩ := HF.out H hh
    obtain rfl : mh = m := by rw [← hri.1, hl, hM]
    have hl8 : H.length ≤ 8 := by omega
    have HUS := Lib.hid (HU.out H AH ch w2 HK2.out hri hb)
    have HV2 := Lib.hid (show rv = match useV P H ON with | none => none | some U => some (((U.length : Nat) : Int), U.sum) by rw [HV.out, hh])
    have HUF2 := Lib.hid (fun U => HUF.out H U hb hl8)
    clear hh hri HV HU HF HUF hb
    go_wp2_with fail
    with_reducible refine HUS.out.mono ?_
    rintro e w3 ⟨hr, k3⟩
    have HK3 := Lib.hid (HK2.out.tr k3)
    clear k3 HUS HK2 p0 p1 p2 q0 q1
    match hu : useV P H ON, hr with
    | none, hr =>
      have hr : e = _ := hr
      subst hr
      have HR := Lib.hid (show rv = none by rw [HV2.out, hu])
      clear hu
      go_wp2_with fail
      exact bodyPost_ret (v := .tuple #[.int .i64 0, .int .i64 0, .bool false]) (by simp [results, Try.results33, go_sem]) rfl ⟨by rw [HR.out]; rfl, HK3.out⟩
    | some U, hr =>
      obtain ⟨AU, mu, cu, rfl, hri, _⟩ := hr
      obtain ⟨hul, hub⟩ := HUF2.out U hu
      have hmu : U.length = mu := hri.1
      have HSM := Lib.hid (sum_any AU mu cu U w3 hri (by omega) hub)
      have HR := Lib.hid (show rv = some (((mu : Nat) : Int), U.sum) by rw [HV2.out, hu]; simp only; rw [hmu])
      clear hu hri HV2 HUF2 hub
      go_wp2_with fail
      with_reducible refine HSM.out.mono ?_
      rintro e w4 ⟨rfl, hw4⟩
      subst hw4
      clear HSM
      go_wp2_with fail
      exact bodyPost_ret (v := .tuple #[.int .i64 (mu : Nat), .int .i64 U.sum, .bool true]) (by simp [results, Try.results33, go_sem]) rfl ⟨by rw [HR.out]; rfl, HK3.out⟩
end Go.Proofs.Ytamjhpdgclbfgaa
