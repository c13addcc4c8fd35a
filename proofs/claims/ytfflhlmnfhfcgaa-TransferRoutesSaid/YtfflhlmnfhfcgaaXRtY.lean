/- Chapter 33: the walk of the statement TransferRoutes. -/
import Derived.Test.YtfflhlmnfhfcgaaXRrD
namespace Go.Proofs.Ytfflhlmnfhfcgaa
open Go.RowKit Go.Kq

theorem routeV_lens (xs ys : List Vc) : (routeV xs ys).from_.length ≤ 100 ∧ (routeV xs ys).rs.to.length ≤ 100 ∧ (routeV xs ys).rs.stops.length ≤ 100 := by
  unfold routeV
  split
  · exact ⟨by simp, by simp, by simp⟩
  · rename_i he
    split
    · exact ⟨by simp, by simp, by simp⟩
    · have he : chk xs ys 14 = 0 := by omega
      obtain ⟨z1, z2, gx, gy⟩ := chk_zero he
      obtain ⟨a1, a2⟩ := allC_facts z1 (by omega) gx gy
      obtain ⟨T, hT, ⟨hR, hap⟩, hmin⟩ := bestR_is (fun cs hcs x hx => (a1 cs hcs x hx).1) a2
      obtain ⟨t1, t2⟩ := (mem_tup _ T).1 hT
      have hlen : T.length = (divs xs).length := by rw [t1]; simp [allC]
      have hd := divs_len xs
      have hs : ∀ x ∈ T, x.stops.length ≤ 14 := fun x hx => by
        obtain ⟨i, hi⟩ := List.getElem?_of_mem hx
        obtain ⟨cs, hcs⟩ : ∃ cs, (allC xs ys)[i]? = some cs := ⟨_, List.getElem?_eq_getElem (by have := (List.getElem?_eq_some_iff.1 hi).1; omega)⟩
        exact (a1 cs (List.mem_of_getElem? hcs) x (t2 i x cs hi hcs)).2.2
      have h2 := rev_stops_len (T := T.reverse) fun x hx => hs x (List.mem_reverse.1 hx)
      rw [List.reverse_reverse, List.length_reverse] at h2
      refine ⟨by show (divs xs).length ≤ 100; omega, ?_, ?_⟩
      · show (bestR (allC xs ys)).to.length ≤ 100
        rw [hR]
        show (T.map Cc.to).length ≤ 100
        rw [List.length_map]
        omega
      · show (bestR (allC xs ys)).stops.length ≤ 100
        rw [hR]
        show (srt (T.flatMap Cc.stops)).length ≤ 100
        rw [(srt_perm _).length_eq]
        omega
theorem own_ints {w : World} {base : Nat} {v : Value} {X : List Int} (h : w.ownsRow base 3 1 v X.length (X.map (Value.int .i64))) : ∃ a cap, v = .slice a X.length cap ∧ RdI w a X.length X := by
  obtain ⟨a, cap, rfl, _⟩ := Go.Kq.own_form h
  exact ⟨a, cap, rfl, own_rdi_int h⟩
theorem own_nats {w : World} {base : Nat} {v : Value} {L : List Nat} (h : w.ownsRow base 3 1 v L.length (L.map natV)) : ∃ a cap, v = .slice a L.length cap ∧ RdI w a L.length (L.map Int.ofNat) := by
  obtain ⟨a, cap, rfl, _⟩ := Go.Kq.own_form h
  exact ⟨a, cap, rfl, own_rdi_int (by rw [List.map_map]; exact h)⟩
set_option maxHeartbeats 8000000 in
set_option maxRecDepth 100000 in
theorem troutes_any (A Y : Option Addr) (n m ca cb : Nat) (xs ys : List Vc) (w : World) (hx : RdV w A n xs) (hy : RdV w Y m ys) :
    Calls Try.prog 7 #[.slice A n ca, .slice Y m cb] w fun e w' => e = .returned (.bool true) ∧ Kp No w w' := by
  have hlens := routeV_lens xs ys
  obtain ⟨r, hr⟩ : ∃ r, r = routeV xs ys := ⟨_, rfl⟩
  have HR := Lib.hid hr.symm
  rw [← hr] at hlens
  obtain ⟨l1, l2, l3⟩ := hlens
  clear hr
  go_enter Try.func7, Try.ntmps7
  go_wp2_with fail
  refine (Route_any A Y n m ca cb xs ys _ hx hy).mono ?_
  rw [HR.out]
  rintro e w1 ⟨vF, vT, vS, rfl, ⟨m1, m2, m3⟩, hk1⟩
  obtain ⟨aF, cF, rfl, f1⟩ := own_nats m1
  obtain ⟨aT, cT, rfl, f2⟩ := own_ints m2
  obtain ⟨aS, cS, rfl, f3⟩ := own_nats m3
  have F1 := Lib.hid f1
  have F2 := Lib.hid f2
  have F3 := Lib.hid f3
  clear m1 m2 m3 f1 f2 f3
  go_wp2_with fail
  have hb2 := heap_alloc_new w1 (.cells #[.slice aF r.from_.length cF, .slice aT r.rs.to.length cT, .slice aS r.rs.stops.length cS, .int .i64 r.rs.cost] 51)
  have k12 : Kp No w1 (w1.alloc (.cells #[.slice aF r.from_.length cF, .slice aT r.rs.to.length cT, .slice aS r.rs.stops.length cS, .int .i64 r.rs.cost] 51)) := Kp.alloc _ _ _
  have hz2 : (w1.alloc (.cells #[.slice aF r.from_.length cF, .slice aT r.rs.to.length cT, .slice aS r.rs.stops.length cS, .int .i64 r.rs.cost] 51)).heap.size = w1.heap.size + 1 := by simp
  generalize (w1.alloc (.cells #[.slice aF r.from_.length cF, .slice aT r.rs.to.length cT, .slice aS r.rs.stops.length cS, .int .i64 r.rs.cost] 51)) = w2 at hb2 k12 hz2 ⊢
  refine (rRoute_any A Y n m ca cb xs ys _ (hx.no (hk1.tr k12)) (hy.no (hk1.tr k12))).mono ?_
  rw [HR.out]
  rintro e w3 ⟨uF, uT, uS, rfl, ⟨m1, m2, m3⟩, hk3⟩
  obtain ⟨bF, dF, rfl, g1⟩ := own_nats m1
  obtain ⟨bT, dT, rfl, g2⟩ := own_ints m2
  obtain ⟨bS, dS, rfl, g3⟩ := own_nats m3
  have hzz := hk3.size
  have G1 := Lib.hid g1
  have G2 := Lib.hid g2
  have G3 := Lib.hid g3
  have HB3 := Lib.hid (hk3.heap hb2 id)
  clear m1 m2 m3 g1 g2 g3 hb2
  have k13 := k12.tr hk3
  have K3 := Lib.hid (hk1.tr k13)
  have E1 := Lib.hid (F1.out.no k13)
  have E2 := Lib.hid (F2.out.no k13)
  have E3 := Lib.hid (F3.out.no k13)
  clear k12 hk1 hk3 F1 F2 F3 k13
  have x0 : w3.cell? ⟨w1.heap.size, 0, none⟩ = some (.slice aF r.from_.length cF) := cell_heap HB3.out 0
  have hlt : w1.heap.size < w3.heap.size := by omega
  go_wp2_with fail
  clear x0
  have hb4 := heap_alloc_new w3 (.cells #[.slice bF r.from_.length dF, .slice bT r.rs.to.length dT, .slice bS r.rs.stops.length dS, .int .i64 r.rs.cost] 51)
  have k34 : Kp No w3 (w3.alloc (.cells #[.slice bF r.from_.length dF, .slice bT r.rs.to.length dT, .slice bS r.rs.stops.length dS, .int .i64 r.rs.cost] 51)) := Kp.alloc _ _ _
  have E1b := Lib.hid (E1.out.no k34)
  have G1b := Lib.hid (G1.out.no k34)
  have HB4 := Lib.hid (k34.heap HB3.out id)
  generalize (w3.alloc (.cells #[.slice bF r.from_.length dF, .slice bT r.rs.to.length dT, .slice bS r.rs.stops.length dS, .int .i64 r.rs.cost] 51)) = w4 at hb4 k34 E1b G1b HB4 ⊢
  have HC4 := Lib.hid hb4
  clear hb4
  refine (same_any aF bF _ _ cF dF _ _ w4 E1b.out G1b.out (by omega)).mono ?_
  rw [decide_eq_true rfl]
  rintro e w5 ⟨rfl, k45⟩
  have k35 := k34.tr k45
  have x1 : w5.cell? ⟨w1.heap.size, 1, none⟩ = some (.slice aT r.rs.to.length cT) := cell_heap (k45.heap HB4.out id) 1
  have y1 : w5.cell? ⟨w3.heap.size, 1, none⟩ = some (.slice bT r.rs.to.length dT) := cell_heap (k45.heap HC4.out id) 1
  go_wp2_with fail
  clear x1 y1
  refine (same_any aT bT _ _ cT dT _ _ w5 (E2.out.no k35) (G2.out.no k35) (by omega)).mono ?_
  rw [decide_eq_true rfl]
  rintro e w6 ⟨rfl, k56⟩
  have k36 := k35.tr k56
  have k46 := k45.tr k56
  have x1 : w6.cell? ⟨w1.heap.size, 2, none⟩ = some (.slice aS r.rs.stops.length cS) := cell_heap (k46.heap HB4.out id) 2
  have y1 : w6.cell? ⟨w3.heap.size, 2, none⟩ = some (.slice bS r.rs.stops.length dS) := cell_heap (k46.heap HC4.out id) 2
  go_wp2_with fail
  clear x1 y1
  refine (same_any aS bS _ _ cS dS _ _ w6 (E3.out.no k36) (G3.out.no k36) (by omega)).mono ?_
  rw [decide_eq_true rfl]
  rintro e w7 ⟨rfl, k67⟩
  have k37 := k36.tr k67
  have k47 := k46.tr k67
  have x1 : w7.cell? ⟨w1.heap.size, 3, none⟩ = some (.int .i64 r.rs.cost) := cell_heap (k47.heap HB4.out id) 3
  have y1 : w7.cell? ⟨w3.heap.size, 3, none⟩ = some (.int .i64 r.rs.cost) := cell_heap (k47.heap HC4.out id) 3
  go_wp2_with fail
  refine (awake_any _).mono ?_
  rintro e w8 ⟨rfl, hk8⟩
  go_wp2_with fail
  go_ret
  exact ⟨rfl, K3.out.tr (k37.tr hk8)⟩
end Go.Proofs.Ytfflhlmnfhfcgaa
