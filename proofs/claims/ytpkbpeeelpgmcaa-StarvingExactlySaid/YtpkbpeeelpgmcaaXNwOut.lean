/- Chapter 14: the walks of the reference's Capacity and Outgoing. -/
import Derived.Test.YtpkbpeeelpgmcaaXNwSpl
namespace Go.Proofs.Ytpkbpeeelpgmcaa
open Go.RowKit Go.Kq Go.Flow

theorem own_rdl {w : World} {base e n : Nat} {v : Value} {L : List Int} (h : w.ownsRow base e 1 v n (L.map (Value.int .i64))) : ∃ a cap, v = .slice a n cap ∧ RdI .i64 w a n L := by
  obtain ⟨a, cap, rfl, _, _, _⟩ := own_form h
  exact ⟨a, cap, rfl, RdI.of_own h⟩
theorem box3 {w : World} {b : Nat} {x y z : Value} {t : TypeId} (h : w.heap[b]? = some (.cells #[x, y, z] t (0, 0))) : w.cell? ⟨b, 0, none⟩ = some x ∧ w.cell? ⟨b, 1, none⟩ = some y ∧ w.cell? ⟨b, 2, none⟩ = some z :=
  ⟨by rw [cell_of_row w b 0 _ _ _ h]; rfl, by rw [cell_of_row w b 1 _ _ _ h]; rfl, by rw [cell_of_row w b 2 _ _ _ h]; rfl⟩
theorem box2 {w : World} {b : Nat} {x y : Value} {t : TypeId} (h : w.heap[b]? = some (.cells #[x, y] t (0, 0))) : w.cell? ⟨b, 0, none⟩ = some x ∧ w.cell? ⟨b, 1, none⟩ = some y :=
  ⟨by rw [cell_of_row w b 0 _ _ _ h]; rfl, by rw [cell_of_row w b 1 _ _ _ h]; rfl⟩
theorem cap_any (t : Tk) (h : Bool) (w : World) : Calls Try.prog 55 #[.agg #[.int .i64 t.fr, .int .i64 t.to, .int .i64 t.lo, .int .i64 t.hi], .bool h] w fun e w' => e = .returned (.int .i64 (t.cap h)) ∧ Kp No w w' := by
  cases h
  · go_enter Try.func55, Try.ntmps55
    go_wp2_with fail
    exact bodyPost_ret (v := .int .i64 t.lo) (by simp [results, Try.results55, go_sem]) rfl ⟨rfl, Kp.alloc _ _ _⟩
  · go_enter Try.func55, Try.ntmps55
    go_wp2_with fail
    exact bodyPost_ret (v := .int .i64 t.hi) (by simp [results, Try.results55, go_sem]) rfl ⟨rfl, Kp.alloc _ _ _⟩
def b1 (b : Bool) : List Value := [.bool b]
/-- A set laid out as a row of truth values. -/
def ofRow (bs : List Bool) (v : Nat) : Bool := bs.getD v false
theorem rd_bool {w : World} {V : Option Addr} {n : Nat} {bs : List Bool} (h : Rd b1 1 w V n bs) {k : Nat} (hk : k < n) : ∃ b o, V = some ⟨b, o, none⟩ ∧ b < w.heap.size ∧ w.cell? ⟨b, o + k, none⟩ = some (.bool (ofRow bs k)) := by
  have hl := h.1
  obtain ⟨b, o, hA, hb, hc⟩ := h.2 k (bs[k]'(by omega)) (List.getElem?_eq_getElem (by omega))
  refine ⟨b, o, hA, hb, ?_⟩
  have := hc 0 _ rfl
  unfold ofRow
  rw [List.getD_eq_getElem?_getD, List.getElem?_eq_getElem (by omega)]
  simpa using this
theorem cut_snoc (R : Nat → Bool) (h : Bool) {l : List Tk} {k : Nat} {t : Tk} (ht : l[k]? = some t) : cut R ((l.take (k + 1)).map (tp h)) = cut R ((l.take k).map (tp h)) + (if R t.fr && !R t.to then t.cap h else 0) := by
  rw [take_map_snoc _ _ _ _ ht, cut_app]
  simp [cut, tp]
theorem cut_part {N : Net} (hN : N.Ok) (R : Nat → Bool) (h : Bool) (k : Nat) : 0 ≤ cut R ((N.tr.take k).map (tp h)) ∧ cut R ((N.tr.take k).map (tp h)) ≤ 60000000000000 := by
  have hm : ∀ p ∈ (N.tr.take k).map (tp h), 0 ≤ p.mo ∧ p.mo ≤ 1000000000000 := fun p hp => by
    obtain ⟨t, ht, rfl⟩ := List.mem_map.1 hp
    exact hN.cap (List.mem_of_mem_take ht) h
  refine ⟨cut_ge _ fun p hp => (hm p hp).1, ?_⟩
  have h1 := cut_le (R := R) (M := 1000000000000) (by omega) _ fun p hp => (hm p hp).2
  rw [List.length_map, List.length_take] at h1
  have h2 := hN.t1
  have h3 : (1000000000000 : Int) * (min k N.tr.length : Nat) ≤ 1000000000000 * 60 := Int.mul_le_mul_of_nonneg_left (by omega) (by omega)
  omega
set_option maxHeartbeats 4000000 in
set_option maxRecDepth 100000 in
theorem out_any (N : Net) (hN : N.Ok) (A B V : Option Addr) (ca cb vc : Nat) (h : Bool) (bs : List Bool) (w : World) (hR : RdNet w A B N) (hV : Rd b1 1 w V N.n bs) :
    Calls Try.prog 35 #[netV N A B ca cb, .bool h, .slice V N.n vc] w fun e w' => e = .returned (.int .i64 (N.out h (ofRow bs))) ∧ Kp No w w' := by
  have ht60 := hN.t1
  have HN := Lib.hid hN
  have HR := Lib.hid hR
  have HV := Lib.hid hV
  clear hN hR hV
  unfold netV
  go_enter Try.func35, Try.ntmps35
  go_wp2_with fail
  have B0 := Lib.hid (heap_alloc_new w (.cells #[.int .i64 N.n, .slice A N.tr.length ca, .slice B N.ch.length cb] 25))
  have K0 := Lib.hid (Kp.alloc No w (.cells #[.int .i64 N.n, .slice A N.tr.length ca, .slice B N.ch.length cb] 25))
  go_loopw [7, 8] (fun s i wr => ∃ k : Nat, k ≤ N.tr.length ∧ i = .int .i64 k ∧ s = .int .i64 (cut (ofRow bs) ((N.tr.take k).map (tp h))) ∧ Kp No (w.alloc (.cells #[.int .i64 N.n, .slice A N.tr.length ca, .slice B N.ch.length cb] 25)) wr) (fun _ i _ => N.tr.length - (intOf i).toNat)
  case atStart => exact ⟨0, by omega, rfl, rfl, Kp.refl _ _⟩
  case round =>
    obtain ⟨k, hk, rfl, rfl, hkp⟩ := hrel
    obtain ⟨x0, x1, x2⟩ := box3 (hkp.heap B0.out (fun h => h))
    have hbs := (Array.getElem?_eq_some_iff.1 (hkp.heap B0.out (fun h => h))).1
    have HK := Lib.hid hkp
    clear hkp
    by_cases hlt : (k : Int) < N.tr.length
    · obtain ⟨t, ht⟩ : ∃ t, N.tr[k]? = some t := ⟨_, List.getElem?_eq_getElem (by omega)⟩
      have htk := HN.out.tk t (List.mem_of_getElem? ht)
      obtain ⟨bA, oA, rfl, hbA, t0, t1, t2, t3⟩ := (HR.out.no (K0.out.tr HK.out)).trunk ht
      obtain ⟨bV, oV, hVe, hbV, v0⟩ := rd_bool (HV.out.no (K0.out.tr HK.out)) htk.1
      obtain ⟨bV', oV', hVe', hbV', v1⟩ := rd_bool (HV.out.no (K0.out.tr HK.out)) htk.2.1
      rw [hVe] at hVe'
      cases hVe'
      subst hVe
      have hcp := HN.out.cap (List.mem_of_getElem? ht) h
      have hpt := cut_part HN.out (ofRow bs) h k
      have hf1 : (t.fr : Int) < N.n := by omega
      have hf2 : (t.to : Int) < N.n := by omega
      have HC := Lib.hid (cut_snoc (ofRow bs) h ht)
      generalize hS : cut (ofRow bs) ((N.tr.take k).map (tp h)) = S at *
      have CAP := Lib.hid (cap_any t h)
      generalize hcap : t.cap h = c at *
      obtain ⟨hc0, hc1⟩ := hcp
      obtain ⟨hp0, hp1⟩ := hpt
      clear htk hS hcap ht
      cases hr1 : ofRow bs t.fr
      · rw [hr1] at v0
        go_wp2_with fail
        go_roundw
        case rel => exact ⟨k + 1, by omega, by go_num, by rw [HC.out, hr1]; simp, HK.out⟩
        case measure => simp [intOf]; omega
      · rw [hr1] at v0
        cases hr2 : ofRow bs t.to
        · rw [hr2] at v1
          go_wp2_with fail
          refine (CAP.out _).mono ?_
          rintro e w2 ⟨rfl, hk2⟩
          have HK2 := Lib.hid (HK.out.tr hk2)
          clear hk2
          go_wp2_with fail
          go_roundw
          case rel => exact ⟨k + 1, by omega, by go_num, by rw [HC.out, hr1, hr2]; simp, HK2.out⟩
          case measure => simp [intOf]; omega
        · rw [hr2] at v1
          go_wp2_with fail
          go_roundw
          case rel => exact ⟨k + 1, by omega, by go_num, by rw [HC.out, hr1, hr2]; simp, HK.out⟩
          case measure => simp [intOf]; omega
    · obtain rfl : k = N.tr.length := by omega
      go_wp2_with fail
      refine bodyPost_ret (v := .int .i64 (N.out h (ofRow bs))) (by simp [results, Try.results35, go_sem, Net.out]) rfl ⟨rfl, K0.out.tr HK.out⟩
end Go.Proofs.Ytpkbpeeelpgmcaa
