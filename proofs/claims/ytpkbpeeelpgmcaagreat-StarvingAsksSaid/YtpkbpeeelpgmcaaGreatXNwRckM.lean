/- Chapter 14: the walks of the reference's Capacity and Outgoing. · Chapter 14: the walks of the reference's Check and of what it calls. -/
import Derived.Test.YtpkbpeeelpgmcaaGreatXNwSpl
import Derived.Test.YtpkbpeeelpgmcaaGreatXNwChk2
namespace Go.Proofs.YtpkbpeeelpgmcaaGreat
open Go.RowKit Go.Kq Go.Flow

theorem own_rdl {w : World} {base e n : Nat} {v : Value} {L : List Int} (h : w.ownsRow base e 1 v n (L.map (Value.int .i64))) : ∃ a cap, v = .slice a n cap ∧ RdI .i64 w a n L := by
  obtain ⟨a, cap, rfl, _, _, _⟩ := own_form h
  exact ⟨a, cap, rfl, RdI.of_own h⟩
theorem box3 {w : World} {b : Nat} {x y z : Value} {t : TypeId} (h : w.heap[b]? = some (.cells #[x, y, z] t (0, 0))) : w.cell? ⟨b, 0, none⟩ = some x ∧ w.cell? ⟨b, 1, none⟩ = some y ∧ w.cell? ⟨b, 2, none⟩ = some z :=
  ⟨by rw [cell_of_row w b 0 _ _ _ h]; rfl, by rw [cell_of_row w b 1 _ _ _ h]; rfl, by rw [cell_of_row w b 2 _ _ _ h]; rfl⟩
theorem box2 {w : World} {b : Nat} {x y : Value} {t : TypeId} (h : w.heap[b]? = some (.cells #[x, y] t (0, 0))) : w.cell? ⟨b, 0, none⟩ = some x ∧ w.cell? ⟨b, 1, none⟩ = some y :=
  ⟨by rw [cell_of_row w b 0 _ _ _ h]; rfl, by rw [cell_of_row w b 1 _ _ _ h]; rfl⟩
theorem cap_any (t : Tk) (h : Bool) (w : World) : Calls Tryz.prog 107 #[.agg #[.int .i64 t.fr, .int .i64 t.to, .int .i64 t.lo, .int .i64 t.hi], .bool h] w fun e w' => e = .returned (.int .i64 (t.cap h)) ∧ Kp No w w' := by
  cases h
  · go_enter Tryz.func107, Tryz.ntmps107
    go_wp2_with fail
    exact bodyPost_ret (v := .int .i64 t.lo) (by simp [results, Tryz.results107, go_sem]) rfl ⟨rfl, Kp.alloc _ _ _⟩
  · go_enter Tryz.func107, Tryz.ntmps107
    go_wp2_with fail
    exact bodyPost_ret (v := .int .i64 t.hi) (by simp [results, Tryz.results107, go_sem]) rfl ⟨rfl, Kp.alloc _ _ _⟩
def b1 (b : Bool) : List Value := [.bool b]
/-- A set laid out as a row of truth values. -/
def ofRow (bs : List Bool) (v : Nat) : Bool := bs.getD v false
theorem rd_bool {w : World} {V : Option Addr} {n : Nat} {bs : List Bool} (h : Rd b1 1 w V n bs) {k : Nat} (hk : k < n) : ∃ b o, V = some ⟨b, o, none⟩ ∧ b < w.heap.size ∧ w.cell? ⟨b, o + k, none⟩ = some (.bool (ofRow bs k)) := by
  have hl := h.1
  obtain ⟨b, o, hA, hb, hc⟩ := h.2 k (bs[k]'(by omega)) (List.getElem?_eq_getElem (by omega))
  refine ⟨b, o, hA, hb, ?_⟩
  have := hc 0 _ rfl
  unfold ofRow
  rw [List.getD_eq_getElem?_getD, List.getElem?_eq_getElem (by omega)]
  simpa using this
theorem cut_snoc (R : Nat → Bool) (h : Bool) {l : List Tk} {k : Nat} {t : Tk} (ht : l[k]? = some t) : cut R ((l.take (k + 1)).map (tp h)) = cut R ((l.take k).map (tp h)) + (if R t.fr && !R t.to then t.cap h else 0) := by
  rw [take_map_snoc _ _ _ _ ht, cut_app]
  simp [cut, tp]
theorem cut_part {N : Net} (hN : N.Ok) (R : Nat → Bool) (h : Bool) (k : Nat) : 0 ≤ cut R ((N.tr.take k).map (tp h)) ∧ cut R ((N.tr.take k).map (tp h)) ≤ 60000000000000 := by
  have hm : ∀ p ∈ (N.tr.take k).map (tp h), 0 ≤ p.mo ∧ p.mo ≤ 1000000000000 := fun p hp => by
    obtain ⟨t, ht, rfl⟩ := List.mem_map.1 hp
    exact hN.cap (List.mem_of_mem_take ht) h
  refine ⟨cut_ge _ fun p hp => (hm p hp).1, ?_⟩
  have h1 := cut_le (R := R) (M := 1000000000000) (by omega) _ fun p hp => (hm p hp).2
  rw [List.length_map, List.length_take] at h1
  have h2 := hN.t1
  have h3 : (1000000000000 : Int) * (min k N.tr.length : Nat) ≤ 1000000000000 * 60 := Int.mul_le_mul_of_nonneg_left (by omega) (by omega)
  omega
set_option maxHeartbeats 4000000 in
set_option maxRecDepth 100000 in
theorem out_any (N : Net) (hN : N.Ok) (A B V : Option Addr) (ca cb vc : Nat) (h : Bool) (bs : List Bool) (w : World) (hR : RdNet w A B N) (hV : Rd b1 1 w V N.n bs) :
    Calls Tryz.prog 76 #[netV N A B ca cb, .bool h, .slice V N.n vc] w fun e w' => e = .returned (.int .i64 (N.out h (ofRow bs))) ∧ Kp No w w' := by
  have ht60 := hN.t1
  have HN := Lib.hid hN
  have HR := Lib.hid hR
  have HV := Lib.hid hV
  clear hN hR hV
  unfold netV
  go_enter Tryz.func76, Tryz.ntmps76
  go_wp2_with fail
  have B0 := Lib.hid (heap_alloc_new w (.cells #[.int .i64 N.n, .slice A N.tr.length ca, .slice B N.ch.length cb] 25))
  have K0 := Lib.hid (Kp.alloc No w (.cells #[.int .i64 N.n, .slice A N.tr.length ca, .slice B N.ch.length cb] 25))
  go_loopw [7, 8] (fun s i wr => ∃ k : Nat, k ≤ N.tr.length ∧ i = .int .i64 k ∧ s = .int .i64 (cut (ofRow bs) ((N.tr.take k).map (tp h))) ∧ Kp No (w.alloc (.cells #[.int .i64 N.n, .slice A N.tr.length ca, .slice B N.ch.length cb] 25)) wr) (fun _ i _ => N.tr.length - (intOf i).toNat)
  case atStart => exact ⟨0, by omega, rfl, rfl, Kp.refl _ _⟩
  case round =>
    obtain ⟨k, hk, rfl, rfl, hkp⟩ := hrel
    obtain ⟨x0, x1, x2⟩ := box3 (hkp.heap B0.out (fun h => h))
    have hbs := (Array.getElem?_eq_some_iff.1 (hkp.heap B0.out (fun h => h))).1
    have HK := Lib.hid hkp
    clear hkp
    by_cases hlt : (k : Int) < N.tr.length
    · obtain ⟨t, ht⟩ : ∃ t, N.tr[k]? = some t := ⟨_, List.getElem?_eq_getElem (by omega)⟩
      have htk := HN.out.tk t (List.mem_of_getElem? ht)
      obtain ⟨bA, oA, rfl, hbA, t0, t1, t2, t3⟩ := (HR.out.no (K0.out.tr HK.out)).trunk ht
      obtain ⟨bV, oV, hVe, hbV, v0⟩ := rd_bool (HV.out.no (K0.out.tr HK.out)) htk.1
      obtain ⟨bV', oV', hVe', hbV', v1⟩ := rd_bool (HV.out.no (K0.out.tr HK.out)) htk.2.1
      rw [hVe] at hVe'
      cases hVe'
      subst hVe
      have hcp := HN.out.cap (List.mem_of_getElem? ht) h
      have hpt := cut_part HN.out (ofRow bs) h k
      have hf1 : (t.fr : Int) < N.n := by omega
      have hf2 : (t.to : Int) < N.n := by omega
      have HC := Lib.hid (cut_snoc (ofRow bs) h ht)
      generalize hS : cut (ofRow bs) ((N.tr.take k).map (tp h)) = S at *
      have CAP := Lib.hid (cap_any t h)
      generalize hcap : t.cap h = c at *
      obtain ⟨hc0, hc1⟩ := hcp
      obtain ⟨hp0, hp1⟩ := hpt
      clear htk hS hcap ht
      cases hr1 : ofRow bs t.fr
      · rw [hr1] at v0
        go_wp2_with fail
        go_roundw
        case rel => exact ⟨k + 1, by omega, by go_num, by rw [HC.out, hr1]; simp, HK.out⟩
        case measure => simp [intOf]; omega
      · rw [hr1] at v0
        cases hr2 : ofRow bs t.to
        · rw [hr2] at v1
          go_wp2_with fail
          refine (CAP.out _).mono ?_
          rintro e w2 ⟨rfl, hk2⟩
          have HK2 := Lib.hid (HK.out.tr hk2)
          clear hk2
          go_wp2_with fail
          go_roundw
          case rel => exact ⟨k + 1, by omega, by go_num, by rw [HC.out, hr1, hr2]; simp, HK2.out⟩
          case measure => simp [intOf]; omega
        · rw [hr2] at v1
          go_wp2_with fail
          go_roundw
          case rel => exact ⟨k + 1, by omega, by go_num, by rw [HC.out, hr1, hr2]; simp, HK.out⟩
          case measure => simp [intOf]; omega
    · obtain rfl : k = N.tr.length := by omega
      go_wp2_with fail
      refine bodyPost_ret (v := .int .i64 (N.out h (ofRow bs))) (by simp [results, Tryz.results76, go_sem, Net.out]) rfl ⟨rfl, K0.out.tr HK.out⟩
end Go.Proofs.YtpkbpeeelpgmcaaGreat

namespace Go.Proofs.YtpkbpeeelpgmcaaGreat
open Go.RowKit Go.Kq Go.Flow

theorem ivE_out {lo hi : Int} (h : ¬ (-big ≤ lo ∧ lo ≤ big ∧ -big ≤ hi ∧ hi ≤ big)) : ivE lo hi = 7 := by unfold ivE; rw [if_neg h]
set_option maxHeartbeats 2000000 in
theorem rbad_any (lo hi : Int) (g : Nat) (w : World) (h0 : w.cell? ⟨g, 0, none⟩ = some (.int .i64 lo)) (h1 : w.cell? ⟨g, 1, none⟩ = some (.int .i64 hi)) (_hg : g < w.heap.size) :
    Calls Tryz.prog 82 #[.slice (some ⟨g, 0, none⟩) 1 1] w fun e w' => e = .returned (.int .i64 (ivE lo hi)) ∧ Kp No w w' := by
  by_cases hr : -big ≤ lo ∧ lo ≤ big ∧ -big ≤ hi ∧ hi ≤ big
  · have HE := Lib.hid (show ivE lo hi = if hi < lo then 2 else 0 from by unfold ivE; rw [if_pos hr])
    unfold big at hr
    obtain ⟨a1, a2, a3, a4⟩ := hr
    go_enter Tryz.func82, Tryz.ntmps82
    go_wp2_with fail
    go_loopw [3] (fun i wr => ∃ k : Int, 0 ≤ k ∧ k ≤ 1 ∧ i = .int .i64 k ∧ Kp No w wr) (fun i _ => 1 - (intOf i).toNat)
    case atStart => exact ⟨0, by omega, by omega, rfl, Kp.refl _ _⟩
    case round =>
      obtain ⟨k, hk0', hk, rfl, hkp⟩ := hrel
      have c0 := hkp.cell h0 (fun h => h)
      have c1 := hkp.cell h1 (fun h => h)
      by_cases hk0 : k = 0
      · subst hk0
        go_wp2_with fail
        go_roundw
        case rel => exact ⟨1, by omega, by omega, rfl, hkp⟩
        case measure => simp [intOf]
      · obtain rfl : k = 1 := by omega
        go_wp2_with fail
        go_loopw [4] (fun i wq => ∃ k : Nat, k ≤ 1 ∧ i = .int .i64 k ∧ (k = 1 → lo ≤ hi) ∧ Kp No w wq) (fun i _ => 1 - (intOf i).toNat)
        case atStart => exact ⟨0, by omega, rfl, by omega, hkp⟩
        case round =>
          obtain ⟨k, hk, rfl, hle, hkp2⟩ := hrel
          have c0 := hkp2.cell h0 (fun h => h)
          have c1 := hkp2.cell h1 (fun h => h)
          by_cases hk0 : k = 0
          · subst hk0
            by_cases hlh : hi < lo
            · have HE2 := Lib.hid (show ivE lo hi = 2 by rw [HE.out, if_pos hlh])
              clear hle
              go_wp2_with fail
              go_quiet (fail)
              go_wp2_with fail
              go_ret
              exact ⟨ret_i64 HE2.out.symm, hkp2.tr (Kp.drewN _ _ _)⟩
            · clear hle
              go_wp2_with fail
              go_quiet (fail)
              go_wp2_with fail
              go_roundw
              case rel => exact ⟨1, by omega, rfl, by omega, hkp2.tr (Kp.drewN _ _ _)⟩
              case measure => simp [intOf]
          · obtain rfl : k = 1 := by omega
            have hle2 := hle rfl
            have HE2 := Lib.hid (show ivE lo hi = 0 by rw [HE.out, if_neg (by omega)])
            clear hle
            go_wp2_with fail
            go_ret
            exact ⟨ret_i64 HE2.out.symm, hkp2⟩
  · have HE := Lib.hid (ivE_out hr)
    have hcase : lo < -4611686018427387904 ∨ (-4611686018427387904 ≤ lo ∧ 4611686018427387904 < lo) ∨ (-4611686018427387904 ≤ lo ∧ lo ≤ 4611686018427387904 ∧ hi < -4611686018427387904) ∨ (-4611686018427387904 ≤ lo ∧ lo ≤ 4611686018427387904 ∧ -4611686018427387904 ≤ hi ∧ 4611686018427387904 < hi) := by
      unfold big at hr
      omega
    clear hr
    rcases hcase with h | ⟨a1, h⟩ | ⟨a1, a2, h⟩ | ⟨a1, a2, a3, h⟩
    all_goals
      go_enter Tryz.func82, Tryz.ntmps82
      go_wp2_with fail
      go_loopw [3] (fun i wr => i = .int .i64 0 ∧ Kp No w wr) (fun i _ => 1 - (intOf i).toNat)
      case atStart => exact ⟨rfl, Kp.refl _ _⟩
      case round =>
        obtain ⟨rfl, hkp⟩ := hrel
        have c0 := hkp.cell h0 (fun h => h)
        have c1 := hkp.cell h1 (fun h => h)
        go_wp2_with fail
        go_ret
        exact ⟨ret_i64 HE.out.symm, hkp⟩
theorem rspCheck_any (lo hi : Int) (w : World) : Calls Tryz.prog 64 #[.agg #[.int .i64 lo, .int .i64 hi]] w fun e w' => e = .returned (.int .i64 (ivE lo hi)) ∧ Kp No w w' := by
  go_enter Tryz.func64, Tryz.ntmps64
  go_wp2_with fail
  refine (rbad_any lo hi (w.heap.size + 1) _ (by go_simp) (by go_simp) (by simp)).mono ?_
  rintro e w1 ⟨rfl, hk⟩
  go_wp2_with fail
  go_ret
  exact ⟨rfl, ((Kp.alloc _ _ _).tr (Kp.alloc _ _ _)).tr hk⟩
/-- Why a trunk is wrong, in the order of the text. -/
theorem bad_why {t : Tz} {n : Int} (h : ¬ t.good n) : (t.fr < 0 ∨ (0 ≤ t.fr ∧ n ≤ t.fr) ∨ (0 ≤ t.fr ∧ t.fr < n ∧ t.to < 0) ∨ (0 ≤ t.fr ∧ t.fr < n ∧ 0 ≤ t.to ∧ n ≤ t.to) ∨ (0 ≤ t.fr ∧ t.fr < n ∧ 0 ≤ t.to ∧ t.to < n ∧ t.fr = t.to)) ∨ ((0 ≤ t.fr ∧ t.fr < n ∧ 0 ≤ t.to ∧ t.to < n ∧ t.fr ≠ t.to) ∧ (ivE t.lo t.hi ≠ 0 ∨ (ivE t.lo t.hi = 0 ∧ t.lo < 0) ∨ (ivE t.lo t.hi = 0 ∧ 0 ≤ t.lo ∧ 1000000000000 < t.hi))) := by
  unfold Tz.good at h
  by_cases h1 : 0 ≤ t.fr ∧ t.fr < n ∧ 0 ≤ t.to ∧ t.to < n ∧ t.fr ≠ t.to
  · refine .inr ⟨h1, ?_⟩
    by_cases h2 : ivE t.lo t.hi = 0
    · refine .inr ?_
      have hlh : t.lo ≤ t.hi := by
        unfold ivE at h2
        split at h2
        · split at h2 <;> omega
        · omega
      by_cases h3 : t.lo < 0
      · exact .inl ⟨h2, h3⟩
      · exact .inr ⟨h2, by omega, by omega⟩
    · exact .inl h2
  · exact .inl (by omega)
set_option maxHeartbeats 4000000 in
set_option maxRecDepth 100000 in
theorem rCheck_any (N : Nz) (A B : Option Addr) (ca cb : Nat) (w : World) (hR : RdNz w A B N) :
    Calls Tryz.prog 36 #[netZ N A B ca cb] w fun e w' => ∃ c, e = .returned (.int .i64 c) ∧ ChkIs N c ∧ Kp No w w' := by
  unfold netZ
  have HR := Lib.hid hR
  clear hR
  by_cases h1 : 24 < N.n
  · go_enter Tryz.func36, Tryz.ntmps36
    go_wp2
    go_ret
    exact ⟨_, rfl, .inl ⟨.inl h1, rfl⟩, Kp.alloc _ _ _⟩
  · by_cases h2 : 60 < N.tr.length
    · go_enter Tryz.func36, Tryz.ntmps36
      go_wp2
      go_ret
      exact ⟨_, rfl, .inl ⟨.inr (.inl h2), rfl⟩, Kp.alloc _ _ _⟩
    · by_cases h3 : 16 < N.ch.length
      · go_enter Tryz.func36, Tryz.ntmps36
        go_wp2
        go_ret
        exact ⟨_, rfl, .inl ⟨.inr (.inr h3), rfl⟩, Kp.alloc _ _ _⟩
      · have HL := Lib.hid (show ¬ NLong N from fun h => by unfold NLong at h; omega)
        by_cases h4 : N.n < 1
        · go_enter Tryz.func36, Tryz.ntmps36
          go_wp2
          go_ret
          exact ⟨_, rfl, .inr (.inl ⟨HL.out, .inl h4, rfl⟩), Kp.alloc _ _ _⟩
        · go_enter Tryz.func36, Tryz.ntmps36
          go_wp2_with fail
          have B0 := Lib.hid (heap_alloc_new w (.cells #[.int .i64 N.n, .slice A N.tr.length ca, .slice B N.ch.length cb] 25))
          have K0 := Lib.hid (Kp.alloc No w (.cells #[.int .i64 N.n, .slice A N.tr.length ca, .slice B N.ch.length cb] 25))
          go_loopw [3] (fun i wr => ∃ k : Nat, k ≤ N.tr.length ∧ i = .int .i64 k ∧ (∀ t ∈ N.tr.take k, t.good N.n) ∧ Kp No (w.alloc (.cells #[.int .i64 N.n, .slice A N.tr.length ca, .slice B N.ch.length cb] 25)) wr) (fun i _ => N.tr.length - (intOf i).toNat)
          case atStart => exact ⟨0, by omega, rfl, by simp, Kp.refl _ _⟩
          case round =>
            obtain ⟨k, hk, rfl, hgo, hkp⟩ := hrel
            have HGO := Lib.hid hgo
            have HK := Lib.hid hkp
            obtain ⟨x0, x1, x2⟩ := box3 (hkp.heap B0.out (fun h => h))
            have hbs := (Array.getElem?_eq_some_iff.1 (hkp.heap B0.out (fun h => h))).1
            clear hgo hkp
            by_cases hlt : k < N.tr.length
            · obtain ⟨t, ht⟩ : ∃ t, N.tr[k]? = some t := ⟨_, List.getElem?_eq_getElem hlt⟩
              obtain ⟨bA, oA, rfl, hbA, t0, t1, t2, t3⟩ := rd_trunk (HR.out.tr.no (K0.out.tr HK.out)) ht
              have HT := Lib.hid ht
              clear ht
              by_cases hg : t.good N.n
              · have HG := Lib.hid hg
                have hiv := ivE_good (lo := t.lo) (hi := t.hi) (by unfold Tz.good at hg; omega)
                have HIV := Lib.hid hiv
                have hfe : (t.fr == t.to) = false := by rw [beq_eq_false_iff_ne]; exact hg.2.2.2.2.1
                obtain ⟨g1, g2, g3, g4, _, g6, _, g8⟩ := hg
                clear hiv
                go_wp2_with fail
                refine (rspCheck_any t.lo t.hi _).mono ?_
                rw [HIV.out]
                rintro e w2 ⟨rfl, hk2⟩
                have q2 := hk2.cell (a := ⟨wr.heap.size, 2, none⟩) (v := .int .i64 t.lo) (by go_simp) (fun h => h)
                have q3 := hk2.cell (a := ⟨wr.heap.size, 3, none⟩) (v := .int .i64 t.hi) (by go_simp) (fun h => h)
                have HK2 := Lib.hid ((HK.out.tr (Kp.alloc _ _ _)).tr hk2)
                clear hk2
                go_wp2_with fail
                go_roundw
                case rel => exact ⟨k + 1, by omega, by go_num, fun u hu => by
                  rw [List.take_add_one, HT.out] at hu
                  rcases List.mem_append.1 hu with hu | hu
                  · exact HGO.out u hu
                  · simp at hu
                    rw [hu]
                    exact HG.out, HK2.out⟩
                case measure => simp [intOf]; omega
              · have HNB := Lib.hid (show NBad N from .inr (.inl ⟨t, List.mem_of_getElem? HT.out, hg⟩))
                rcases bad_why hg with hw | ⟨⟨g1, g2, g3, g4, g5⟩, hw⟩
                · clear hg
                  rcases hw with hc | ⟨g1, hc⟩ | ⟨g1, g2, hc⟩ | ⟨g1, g2, g3, hc⟩ | ⟨g1, g2, g3, g4, hc⟩
                  case' inr.inr.inr.inr => have hfe : (t.fr == t.to) = true := by rw [beq_iff_eq]; exact hc
                  case' inr.inr.inr.inr => clear hc
                  all_goals
                    go_wp2_with fail
                    go_ret
                    exact ⟨_, rfl, .inr (.inl ⟨HL.out, HNB.out, rfl⟩), (K0.out.tr HK.out).tr (Kp.alloc _ _ _)⟩
                · have hfe : (t.fr == t.to) = false := by rw [beq_eq_false_iff_ne]; exact g5
                  clear hg g5
                  have HKA := Lib.hid ((K0.out.tr HK.out).tr (Kp.alloc No wr (.cells #[.int .i64 t.fr, .int .i64 t.to, .int .i64 t.lo, .int .i64 t.hi] 80)))
                  rcases hw with hc | ⟨hc, hd⟩ | ⟨hc, hd, hd2⟩
                  · have hne : (ivE t.lo t.hi == 0) = false := by rw [beq_eq_false_iff_ne]; exact hc
                    have hne2 : (ivE t.lo t.hi != 0) = true := by rw [bne_iff_ne]; exact hc
                    clear hc
                    go_wp2_with fail
                    refine (rspCheck_any t.lo t.hi _).mono ?_
                    rintro e w2 ⟨rfl, hk2⟩
                    go_wp2_with fail
                    go_ret
                    exact ⟨_, rfl, .inr (.inl ⟨HL.out, HNB.out, rfl⟩), HKA.out.tr hk2⟩
                  all_goals
                    have HIV := Lib.hid hc
                    clear hc
                    go_wp2_with fail
                    refine (rspCheck_any t.lo t.hi _).mono ?_
                    rw [HIV.out]
                    rintro e w2 ⟨rfl, hk2⟩
                    have q2 := hk2.cell (a := ⟨wr.heap.size, 2, none⟩) (v := .int .i64 t.lo) (by go_simp) (fun h => h)
                    have q3 := hk2.cell (a := ⟨wr.heap.size, 3, none⟩) (v := .int .i64 t.hi) (by go_simp) (fun h => h)
                    go_wp2_with fail
                    go_ret
                    exact ⟨_, rfl, .inr (.inl ⟨HL.out, HNB.out, rfl⟩), HKA.out.tr hk2⟩
            · have HTR := Lib.hid (show ¬ ∃ t ∈ N.tr, ¬ t.good N.n from fun ⟨t, ht, hb⟩ => hb (HGO.out t (by rw [List.take_of_length_le (by omega)]; exact ht)))
              have KW := Lib.hid (K0.out.tr HK.out)
              have B1 := Lib.hid (HK.out.heap B0.out (fun h => h))
              clear HGO HK
              go_wp2_with fail
              obtain ⟨wo, rfl⟩ : ∃ wo : World, wo = wr := ⟨_, rfl⟩
              go_loopw [5] (fun i wq => ∃ k : Nat, k ≤ N.ch.length ∧ i = .int .i64 k ∧ (∀ j, j < k → ChOk N j) ∧ Kp No wo wq) (fun i _ => N.ch.length - (intOf i).toNat)
              case atStart => exact ⟨0, by omega, rfl, fun j hj => by omega, Kp.refl _ _⟩
              case round =>
                obtain ⟨k, hk, rfl, hok, hkp⟩ := hrel
                have HOK := Lib.hid hok
                obtain ⟨y0, y1, y2⟩ := box3 (hkp.heap B1.out (fun h => h))
                have HK := Lib.hid hkp
                have KR := Lib.hid (KW.out.tr hkp)
                clear hok hkp x0 x1 x2
                by_cases hlt : k < N.ch.length
                · obtain ⟨c, hc⟩ : ∃ c, N.ch[k]? = some c := ⟨_, List.getElem?_eq_getElem hlt⟩
                  obtain ⟨bb, o, rfl, hbb, z0⟩ := (HR.out.ch.no KR.out).2 k c hc
                  have HC := Lib.hid hc
                  clear hc
                  by_cases hc1 : c < 1
                  · have HNB := Lib.hid (show NBad N from .inr (.inr ⟨k, fun h => by have := h c HC.out; omega⟩))
                    have d1 : decide (c < 1) = true := decide_eq_true hc1
                    go_wp2_with fail
                    go_quiet (fail)
                    go_wp2_with fail
                    go_ret
                    exact ⟨_, rfl, .inr (.inl ⟨HL.out, HNB.out, rfl⟩), KR.out.tr (Kp.drewN _ _ _)⟩
                  · have d1 : decide (c < 1) = false := decide_eq_false hc1
                    by_cases hc2 : c < N.n
                    · have d2 : decide (N.n ≤ c) = false := decide_eq_false (by omega)
                      cases k with
                      | zero =>
                        simp only [Nat.add_zero] at z0
                        have HK1 := Lib.hid (show ∀ j, j < 1 → ChOk N j from fun j hj c' hc' => by
                          obtain rfl : j = 0 := by omega
                          rw [HC.out] at hc'
                          cases hc'
                          exact ⟨by omega, hc2, fun p h => by omega⟩)
                        go_wp2_with fail
                        go_quiet (fail)
                        go_wp2_with fail
                        go_roundw
                        case rel => exact ⟨1, by omega, rfl, HK1.out, HK.out.tr (Kp.drewN _ _ _)⟩
                        case measure => simp [intOf]; omega
                      | succ j =>
                        obtain ⟨p, hp⟩ : ∃ p, N.ch[j]? = some p := ⟨_, List.getElem?_eq_getElem (by omega)⟩
                        obtain ⟨bb2, o2, hbo, _, z1⟩ := (HR.out.ch.no KR.out).2 j p hp
                        cases hbo
                        have HP := Lib.hid hp
                        clear hp
                        have hkj : (0 : Int) < (j : Int) + 1 := by omega
                        have hw1 : IntKind.i64.wrap ((j : Int) + 1 - 1) = j := by rw [IntWalk.i64_in _ (by omega)]; omega
                        have hjt : ((j : Int) + 1).toNat = j + 1 := by omega
                        have hj0 : (0 : Int) ≤ (j : Int) + 1 := by omega
                        have hj1 : (j : Int) + 1 < N.ch.length := by omega
                        by_cases hcp : c ≤ p
                        · have HNB := Lib.hid (show NBad N from .inr (.inr ⟨j + 1, fun h => by have := (h c HC.out).2.2 p (by omega) (by simpa using HP.out); omega⟩))
                          have d3 : decide (c ≤ p) = true := decide_eq_true hcp
                          go_wp2_with fail
                          go_quiet (fail)
                          go_wp2_with fail
                          go_ret
                          exact ⟨_, rfl, .inr (.inl ⟨HL.out, HNB.out, rfl⟩), KR.out.tr (Kp.drewN _ _ _)⟩
                        · have d3 : decide (c ≤ p) = false := decide_eq_false hcp
                          have HK1 := Lib.hid (show ∀ i, i < j + 1 + 1 → ChOk N i from fun i hi => by
                            by_cases e : i = j + 1
                            · intro c' hc'
                              rw [e, HC.out] at hc'
                              cases hc'
                              refine ⟨by omega, hc2, fun p' _ hp' => ?_⟩
                              rw [e, show j + 1 - 1 = j by omega, HP.out] at hp'
                              cases hp'
                              omega
                            · exact HOK.out i (by omega))
                          go_wp2_with fail
                          go_quiet (fail)
                          go_wp2_with fail
                          go_roundw
                          case rel => exact ⟨j + 1 + 1, by omega, by go_num, HK1.out, HK.out.tr (Kp.drewN _ _ _)⟩
                          case measure => simp [intOf]; omega
                    · have d2 : decide (N.n ≤ c) = true := decide_eq_true (by omega)
                      have HNB := Lib.hid (show NBad N from .inr (.inr ⟨k, fun h => by have := h c HC.out; omega⟩))
                      go_wp2_with fail
                      go_quiet (fail)
                      go_wp2_with fail
                      go_ret
                      exact ⟨_, rfl, .inr (.inl ⟨HL.out, HNB.out, rfl⟩), KR.out.tr (Kp.drewN _ _ _)⟩
                · have HNB := Lib.hid (show ¬ NBad N from fun h => by
                    rcases h with h | h | ⟨i, h⟩
                    · exact absurd h (by omega)
                    · exact HTR.out h
                    · refine h fun c hc => ?_
                      have := (List.getElem?_eq_some_iff.1 hc).1
                      exact HOK.out i (by omega) c hc)
                  go_wp2_with fail
                  go_ret
                  exact ⟨_, rfl, .inr (.inr ⟨HL.out, HNB.out, rfl⟩), KR.out⟩
end Go.Proofs.YtpkbpeeelpgmcaaGreat
