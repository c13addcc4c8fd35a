/- Chapter 09: the reference's less: the walk. -/
import Derived.Test.YtamjhpdgclbfgaaXNtF
namespace Go.Proofs.Ytamjhpdgclbfgaa
open Go.RowKit Go.Kq

theorem prs_len (S ON : List Nat) : (prs S ON).length = S.length := by simp [prs]
theorem prs_at {S ON : List Nat} {k s p : Nat} (hs : S[k]? = some s) (hp : ON[s]? = some p) : (prs S ON)[k]? = some (p, s) := by
  unfold prs
  rw [List.getElem?_map, hs, Option.map_some, List.getD_eq_getElem?_getD, hp]
  rfl
theorem dropn_at {α : Type} {l : List α} {k : Nat} {x : α} (h : l[k]? = some x) : l.drop k = x :: l.drop (k + 1) := by
  obtain ⟨h1, h2⟩ := List.getElem?_eq_some_iff.1 h
  rw [List.drop_eq_getElem_cons h1, h2]
theorem less_step {L L' : List (Nat × Nat)} {k p s q t : Nat} (h : L[k]? = some (p, s)) (h' : L'[k]? = some (q, t)) : lessL (L.drop k) (L'.drop k) = if p ≠ q then decide (p < q) else if s ≠ t then decide (s < t) else lessL (L.drop (k + 1)) (L'.drop (k + 1)) := by
  rw [dropn_at h, dropn_at h']
  rfl
set_option maxHeartbeats 8000000 in
set_option maxRecDepth 100000 in
theorem rless_any (AS : Option Addr) (n cs : Nat) (S : List Nat) (AO : Option Addr) (m co : Nat) (ON : List Nat) (BS : Option Addr) (ds : Nat) (S' : List Nat) (BO : Option Addr) (m' d' : Nat) (ON' : List Nat) (w : World) (hS : RdI .i64 w AS n (S.map Int.ofNat)) (hO : RdI .i64 w AO m (ON.map Int.ofNat)) (hS' : RdI .i64 w BS n (S'.map Int.ofNat)) (hO' : RdI .i64 w BO m' (ON'.map Int.ofNat)) (hn : n ≤ 8) (hs : ∀ s ∈ S, s < m) (hs' : ∀ s ∈ S', s < m') :
    Calls Try.prog 34 #[.agg #[.slice AS n cs, .slice AO m co], .agg #[.slice BS n ds, .slice BO m' d']] w fun e w' => e = .returned (.bool (lessL (prs S ON) (prs S' ON'))) ∧ Kp No w w' := by
  obtain ⟨w1, hw1⟩ : ∃ w1, (w.alloc (.cells #[.slice AS n cs, .slice AO m co] 69)).alloc (.cells #[.slice BS n ds, .slice BO m' d'] 69) = w1 := ⟨_, rfl⟩
  have hk1 : Kp No w w1 := by rw [← hw1]; exact (Kp.alloc _ _ _).tr (Kp.alloc _ _ _)
  obtain ⟨g0, hg0⟩ : ∃ g, w.heap.size = g := ⟨_, rfl⟩
  have hb0 : w1.heap[g0]? = some (.cells #[.slice AS n cs, .slice AO m co] 69 (0, 0)) := by
    rw [← hw1, ← hg0]
    exact (Kp.alloc No _ _).heap (heap_alloc_new _ _) id
  have hb1 : w1.heap[g0 + 1]? = some (.cells #[.slice BS n ds, .slice BO m' d'] 69 (0, 0)) := by
    rw [← hw1, ← hg0]
    have := heap_alloc_new (w.alloc (.cells #[.slice AS n cs, .slice AO m co] 69)) (.cells #[.slice BS n ds, .slice BO m' d'] 69)
    simpa using this
  have HB0 := Lib.hid hb0
  have HB1 := Lib.hid hb1
  have HS := Lib.hid (hS.no hk1)
  have HO := Lib.hid (hO.no hk1)
  have HS' := Lib.hid (hS'.no hk1)
  have HO' := Lib.hid (hO'.no hk1)
  have HL := Lib.hid (show S.length = n ∧ ON.length = m ∧ S'.length = n ∧ ON'.length = m' from ⟨nat_len hS, nat_len hO, nat_len hS', nat_len hO'⟩)
  have HSM := Lib.hid hs
  have HSM' := Lib.hid hs'
  have HK1 := Lib.hid hk1
  obtain ⟨rv, hrv⟩ : ∃ rv, lessL (prs S ON) (prs S' ON') = rv := ⟨_, rfl⟩
  rw [hrv]
  have HRV := Lib.hid hrv
  clear hS hO hS' hO' hs hs' hk1 hrv hb0 hb1
  go_enter Try.func34, Try.ntmps34
  go_wp2_with fail
  clear hw1 hg0
  go_loopw [5] (fun i wr => ∃ k : Nat, k ≤ n ∧ i = .int .i64 k ∧ lessL ((prs S ON).drop k) ((prs S' ON').drop k) = rv ∧ Kp No w1 wr) (fun i _ => n - (intOf i).toNat)
  case atStart => exact ⟨0, by omega, rfl, HRV.out, Kp.refl _ _⟩
  case round =>
    obtain ⟨k, hk, rfl, hno, hkp⟩ := hrel
    have hb0 := hkp.heap HB0.out id
    have hb1 := hkp.heap HB1.out id
    have p0 : wr.cell? ⟨g0, 0, none⟩ = some (.slice AS n cs) := by rw [cell_of_row _ _ _ _ _ _ hb0]; rfl
    have p1 : wr.cell? ⟨g0, 1, none⟩ = some (.slice AO m co) := by rw [cell_of_row _ _ _ _ _ _ hb0]; rfl
    have q0 : wr.cell? ⟨g0 + 1, 0, none⟩ = some (.slice BS n ds) := by rw [cell_of_row _ _ _ _ _ _ hb1]; rfl
    have q1 : wr.cell? ⟨g0 + 1, 1, none⟩ = some (.slice BO m' d') := by rw [cell_of_row _ _ _ _ _ _ hb1]; rfl
    have HK := Lib.hid hkp
    have HNO := Lib.hid hno
    clear hb0 hb1 hno
    by_cases hlt : k < n
    · obtain ⟨s, hs⟩ : ∃ s, S[k]? = some s := ⟨_, List.getElem?_eq_getElem (by rw [HL.out.1]; exact hlt)⟩
      obtain ⟨t, ht⟩ : ∃ t, S'[k]? = some t := ⟨_, List.getElem?_eq_getElem (by rw [HL.out.2.2.1]; exact hlt)⟩
      have hsm := HSM.out s (List.mem_of_getElem? hs)
      have htm := HSM'.out t (List.mem_of_getElem? ht)
      obtain ⟨p, hp⟩ : ∃ p, ON[s]? = some p := ⟨_, List.getElem?_eq_getElem (by rw [HL.out.2.1]; exact hsm)⟩
      obtain ⟨q, hq⟩ : ∃ q, ON'[t]? = some q := ⟨_, List.getElem?_eq_getElem (by rw [HL.out.2.2.2]; exact htm)⟩
      obtain ⟨b0, o0, rfl, _, c0⟩ := (HS.out.no hkp).2 k _ (nat_at hs)
      obtain ⟨b1, o1, rfl, _, c1⟩ := (HS'.out.no hkp).2 k _ (nat_at ht)
      obtain ⟨b2, o2, rfl, _, c2⟩ := (HO.out.no hkp).2 s _ (nat_at hp)
      obtain ⟨b3, o3, rfl, _, c3⟩ := (HO'.out.no hkp).2 t _ (nat_at hq)
      have HST := Lib.hid (less_step (prs_at hs hp) (prs_at ht hq))
      rw [HNO.out] at HST
      have hlt' : (k : Int) < n := by omega
      have hsm' : (s : Int) < m := by omega
      have htm' : (t : Int) < m' := by omega
      clear hs ht hp hq hkp
      by_cases hpq : p = q
      · subst hpq
        by_cases hst : s = t
        · subst hst
          have HR := Lib.hid (show lessL ((prs S ON).drop (k + 1)) ((prs S' ON').drop (k + 1)) = rv by rw [HST.out, if_neg (by simp), if_neg (by simp)])
          go_wp2_with fail
          go_quiet (fail)
          go_wp2_with fail
          go_quiet (fail)
          go_wp2_with fail
          go_roundw
          case rel => exact ⟨k + 1, by omega, by go_num, HR.out, HK.out.tr (Kp.drewN _ _ _)⟩
          case measure => simp [intOf]; omega
        · have HR := Lib.hid (show rv = decide (s < t) by rw [HST.out, if_neg (by simp), if_pos hst])
          have hst' : ((s : Int) = t) = False := eq_false (by omega)
          by_cases hlt2 : s < t
          · have d1 : decide ((s : Int) < t) = true := decide_eq_true (by omega)
            have HR2 := Lib.hid (show rv = true by rw [HR.out, decide_eq_true hlt2])
            go_wp2_with fail
            go_quiet (fail)
            go_wp2_with fail
            go_quiet (fail)
            go_wp2_with fail
            go_quiet (fail)
            go_wp2_with fail
            go_ret
            exact ⟨by rw [HR2.out]; try rfl, HK1.out.tr (((HK.out.tr (Kp.drewN _ _ _)).tr (Kp.drewN _ _ _)).tr (Kp.drewN _ _ _))⟩
          · have d1 : decide ((s : Int) < t) = false := decide_eq_false (by omega)
            have HR2 := Lib.hid (show rv = false by rw [HR.out, decide_eq_false hlt2])
            go_wp2_with fail
            go_quiet (fail)
            go_wp2_with fail
            go_quiet (fail)
            go_wp2_with fail
            go_quiet (fail)
            go_wp2_with fail
            go_ret
            exact ⟨by rw [HR2.out]; try rfl, HK1.out.tr (((HK.out.tr (Kp.drewN _ _ _)).tr (Kp.drewN _ _ _)).tr (Kp.drewN _ _ _))⟩
      · have HR := Lib.hid (show rv = decide (p < q) by rw [HST.out, if_pos hpq])
        have hpq' : ((p : Int) = q) = False := eq_false (by omega)
        by_cases hlt2 : p < q
        · have d1 : decide ((p : Int) < q) = true := decide_eq_true (by omega)
          have HR2 := Lib.hid (show rv = true by rw [HR.out, decide_eq_true hlt2])
          go_wp2_with fail
          go_quiet (fail)
          go_wp2_with fail
          go_ret
          exact ⟨by rw [HR2.out]; try rfl, HK1.out.tr (HK.out.tr (Kp.drewN _ _ _))⟩
        · have d1 : decide ((p : Int) < q) = false := decide_eq_false (by omega)
          have HR2 := Lib.hid (show rv = false by rw [HR.out, decide_eq_false hlt2])
          go_wp2_with fail
          go_quiet (fail)
          go_wp2_with fail
          go_ret
          exact ⟨by rw [HR2.out]; try rfl, HK1.out.tr (HK.out.tr (Kp.drewN _ _ _))⟩
    · obtain rfl : k = n := by omega
      have HR := Lib.hid (show rv = false by
        have h := HNO.out
        rw [List.drop_eq_nil_of_le (by rw [prs_len, HL.out.1]; exact Nat.le_refl _)] at h
        rw [← h]
        rfl)
      clear hkp
      go_wp2_with fail
      go_ret
      exact ⟨by rw [HR.out]; try rfl, HK1.out.tr HK.out⟩
end Go.Proofs.Ytamjhpdgclbfgaa
