/- Chapter 15: the capacities of the sets of chests: made. -/
import Derived.StillTailTactics
import Derived.Test.YtpkbpeeelpgmcaaGreatXWdH
import Derived.Test.YtpkbpeeelpgmcaaGreatXWdEM
namespace Go.Proofs.YtpkbpeeelpgmcaaGreat
open Go.RowKit Go.Kq Go.Flow

theorem mask_set {w : World} {a : Nat} {S : List Nat} {t : TypeId} (h : w.heap[a]? = some (.cells ((maskL S).map Value.bool).toArray t (0, 0))) (ch : Nat) : (w.setCell ⟨a, ch, none⟩ (.bool true)).heap[a]? = some (.cells ((maskL (S ++ [ch])).map Value.bool).toArray t (0, 0)) := by
  rw [← maskL_put, List.map_set]
  simp [World.setCell, Array.getElem?_modify, h]
theorem net_cells {w : World} {g : Nat} {a b c : Value} {t : TypeId} (h : w.heap[g]? = some (.cells #[a, b, c] t (0, 0))) : w.cell? ⟨g, 0, none⟩ = some a ∧ w.cell? ⟨g, 1, none⟩ = some b ∧ w.cell? ⟨g, 2, none⟩ = some c ∧ w.frozen? ⟨g, 2, none⟩ = false := by
  refine ⟨?_, ?_, ?_, by simp [World.frozen?, h]⟩ <;> (rw [cell_of_row _ _ _ _ _ _ h]; rfl)
theorem net_set {w : World} {g : Nat} {a b c : Value} {t : TypeId} (h : w.heap[g]? = some (.cells #[a, b, c] t (0, 0))) (u : Value) : (w.setCell ⟨g, 2, none⟩ u).heap[g]? = some (.cells #[a, b, u] t (0, 0)) := by
  simp [World.setCell, Array.getElem?_modify, h]
theorem cells16 {w : World} {g : Nat} {v0 v1 v2 v3 v4 v5 v6 v7 v8 v9 v10 v11 v12 v13 v14 v15 : Value} {t : TypeId} (h : w.heap[g]? = some (.cells #[v0, v1, v2, v3, v4, v5, v6, v7, v8, v9, v10, v11, v12, v13, v14, v15] t (0, 0))) : w.cell? ⟨g, 0, none⟩ = some v0 ∧ w.cell? ⟨g, 1, none⟩ = some v1 ∧ w.cell? ⟨g, 2, none⟩ = some v2 ∧ w.cell? ⟨g, 3, none⟩ = some v3 ∧ w.cell? ⟨g, 4, none⟩ = some v4 ∧ w.cell? ⟨g, 5, none⟩ = some v5 ∧ w.cell? ⟨g, 6, none⟩ = some v6 ∧ w.cell? ⟨g, 7, none⟩ = some v7 ∧ w.cell? ⟨g, 8, none⟩ = some v8 ∧ w.cell? ⟨g, 9, none⟩ = some v9 ∧ w.cell? ⟨g, 10, none⟩ = some v10 ∧ w.cell? ⟨g, 11, none⟩ = some v11 ∧ w.cell? ⟨g, 12, none⟩ = some v12 ∧ w.cell? ⟨g, 13, none⟩ = some v13 ∧ w.cell? ⟨g, 14, none⟩ = some v14 ∧ w.cell? ⟨g, 15, none⟩ = some v15 := by
  refine ⟨?_, ?_, ?_, ?_, ?_, ?_, ?_, ?_, ?_, ?_, ?_, ?_, ?_, ?_, ?_, ?_⟩ <;> (rw [cell_of_row _ _ _ _ _ _ h]; rfl)
def MdR (N : Net) (l : List Sto) (w : World) (e : Ending) (w' : World) : Prop := ∃ B m E, e = .returned (.pointer (some ⟨B, 0, none⟩)) ∧ w'.cell? ⟨B, 4, none⟩ = some (.map (some m)) ∧ MapAt w' m ekB (Value.int .i64) E ∧ CapOf N (useS l) (2 ^ (useS l).length) E ∧ Kp No w w'
set_option maxHeartbeats 8000000 in
set_option maxRecDepth 100000 in
theorem made_any (N : Net) (hN : N.Ok) (l : List Sto) (vs : List Sv) (A B C : Option Addr) (ca cb n cc : Nat) (w : World) (hR : RdNet w A B N) (hS : RdSt w C n vs l) (hok : StoOk N.ch.length l) :
    Calls Tryz.prog 24 #[windV (nz N) A B C ca cb n cc] w (MdR N l w) := by
  unfold windV MdR nz
  simp only [List.length_map]
  obtain ⟨g, hg⟩ : ∃ g, g = w.heap.size := ⟨_, rfl⟩
  have hmm := @run_makeMap Tryz.prog
  obtain ⟨w0, hw0⟩ : ∃ w0, w0 = ((w.alloc (.cells #[.int .i64 N.n, .slice A N.tr.length ca, .slice B N.ch.length cb, .slice C n cc] 28)).alloc (.map #[] 0)).alloc (.cells #[.int .i64 N.n, .slice A N.tr.length ca, .slice B N.ch.length cb, .slice C n cc, .map (some (g + 1))] 84) := ⟨_, rfl⟩
  have hk0 : Kp No w w0 := by rw [hw0]; exact ((Kp.alloc _ _ _).tr (Kp.alloc _ _ _)).tr (Kp.alloc _ _ _)
  have hz0 : w0.heap.size = g + 3 := by rw [hw0, hg]; simp
  have HBX := Lib.hid (show w0.heap[g]? = some (.cells #[.int .i64 N.n, .slice A N.tr.length ca, .slice B N.ch.length cb, .slice C n cc] 28 (0, 0)) by rw [hw0, hg]; exact ((Kp.alloc No _ _).tr (Kp.alloc No _ _)).heap (heap_alloc_new w _) id)
  have HSY := Lib.hid (show w0.heap[g + 2]? = some (.cells #[.int .i64 N.n, .slice A N.tr.length ca, .slice B N.ch.length cb, .slice C n cc, .map (some (g + 1))] 84 (0, 0)) by
    rw [hw0, hg]
    have := heap_alloc_new ((w.alloc (.cells #[.int .i64 N.n, .slice A N.tr.length ca, .slice B N.ch.length cb, .slice C n cc] 28)).alloc (.map #[] 0)) (.cells #[.int .i64 N.n, .slice A N.tr.length ca, .slice B N.ch.length cb, .slice C n cc, .map (some (w.heap.size + 1))] 84)
    simpa using this)
  have HMP := Lib.hid (show MapAt w0 (g + 1) (ekB (n := 16)) (Value.int .i64) [] by
    rw [hw0, hg]
    have := (MapAt.made (w.alloc (.cells #[.int .i64 N.n, .slice A N.tr.length ca, .slice B N.ch.length cb, .slice C n cc] 28)) (ekB (n := 16)) (Value.int .i64)).alloc (.cells #[.int .i64 N.n, .slice A N.tr.length ca, .slice B N.ch.length cb, .slice C n cc, .map (some (w.heap.size + 1))] 84)
    simpa using this)
  have HK := Lib.hid hk0
  have HS := Lib.hid (hS.no hk0)
  have HL := Lib.hid hS.len
  have HNT := Lib.hid (hR.no hk0)
  have HNW := Lib.hid hR
  have HN := Lib.hid hN
  have HOK := Lib.hid hok
  have hn8 : n ≤ 8 := by rw [← hS.len]; exact hok.l8
  have HUL := Lib.hid (useS_len l)
  obtain ⟨p0, p1, p2, p3⟩ := four_at HBX.out
  have HZ := Lib.hid hz0
  subst hg
  have hb1 : w.heap.size < w0.heap.size := by omega
  have hc16 := hN.c1
  clear hk0 hR hS hok hN hz0
  go_enter Tryz.func24, Tryz.ntmps24
  go_wp2_with fail
  rw [← hw0]
  clear hw0
  go_loopw [4, 21] (fun v i wr => ∃ (k : Nat) (D : Option Addr) (c : Nat), k ≤ n ∧ i = .int .i64 (k : Nat) ∧ v = .slice D (useL (l.take k)).length c ∧ OwI wr w0.heap.size (.slice D (useL (l.take k)).length c) ((useL (l.take k)).map Int.ofNat) ∧ Kp No w0 wr) (fun _ i _ => n - (intOf i).toNat)
  case atStart => exact ⟨0, none, 0, by omega, rfl, rfl, by rw [show useL (l.take 0) = [] by simp [useL]]; exact World.ownsRow_nil _ _ _ _, Kp.refl _ _⟩
  case round =>
    obtain ⟨k, D, c, hk, rfl, rfl, hown, hkp⟩ := hrel
    have HO := Lib.hid hown
    have HKP := Lib.hid hkp
    have hul : (useL (l.take k)).length ≤ 8 := by
      have h := use_len (l.take k) []
      have h2 : (l.take k).length ≤ 8 := by rw [List.length_take, HL.out]; omega
      unfold useL
      simp only [List.length_nil, Nat.zero_add] at h
      omega
    clear hown
    by_cases hlt : k < n
    · obtain ⟨s, hs⟩ : ∃ s, l[k]? = some s := ⟨_, List.getElem?_eq_getElem (by rw [HL.out]; exact hlt)⟩
      obtain ⟨v, bC, oC, hv, rfl, hbC, y0, y1, is⟩ := (HS.out.no hkp).at_ hs
      have hso := HOK.out.ok s (List.mem_of_getElem? hs)
      obtain ⟨vch, TA, m, tc⟩ := v
      have is1 := is.1
      dsimp only at y0 y1 is1
      obtain ⟨ch, hch⟩ : ∃ ch : Nat, vch = (ch : Int) := ⟨vch.toNat, by omega⟩
      subst hch
      have HUT := Lib.hid (use_take l k s hs)
      have HUF := Lib.hid (show useF (useL (l.take k)) s = if ch ∈ useL (l.take k) then useL (l.take k) else useL (l.take k) ++ [ch] by unfold useF; rw [show s.ch.toNat = ch by omega])
      obtain ⟨gb, hgb⟩ : ∃ gb, gb = wr.heap.size := ⟨_, rfl⟩
      obtain ⟨w3, hw3⟩ : ∃ w3, wr.alloc (.cells #[.int .i64 (ch : Nat), .slice TA m tc] 45) = w3 := ⟨_, rfl⟩
      have hk3 : Kp No wr w3 := by rw [← hw3]; exact Kp.alloc _ _ _
      have hb3 : w3.heap[gb]? = some (.cells #[.int .i64 (ch : Nat), .slice TA m tc] 45 (0, 0)) := by rw [← hw3, hgb]; exact heap_alloc_new wr _
      obtain ⟨q0, q1, _, _⟩ := cell_head hb3
      have O3 := Lib.hid (own_kp HO.out hk3 (fun _ _ h => h))
      have K3 := Lib.hid (hkp.tr hk3)
      have hull : ((useL (l.take k)).map Int.ofNat).length = (useL (l.take k)).length := List.length_map _
      have CT := Lib.hid (hasN_any D (useL (l.take k)).length c ((useL (l.take k)).map Int.ofNat) ch w3 (by
        have := RdI.of_own (xs := (useL (l.take k)).map Int.ofNat) (A := D) (n := (useL (l.take k)).length) (cap := c) (by have := O3.out; rw [hull] at this; exact this)
        exact this) (by omega))
      have HMM := Lib.hid (show ((ch : Int) ∈ (useL (l.take k)).map Int.ofNat) ↔ ch ∈ useL (l.take k) by
        constructor
        · intro h
          obtain ⟨x, hx, e⟩ := List.mem_map.1 h
          have : x = ch := by simp at e; omega
          exact this ▸ hx
        · intro h
          exact List.mem_map.2 ⟨ch, h, rfl⟩)
      clear hs hv is hso is1 hkp hk3 hb3
      subst hgb
      generalize useL (l.take k) = u at *
      by_cases hin : ch ∈ u
      · have HE := Lib.hid (show useF u s = u by rw [HUF.out, if_pos hin])
        rw [decide_eq_true (HMM.out.2 hin)] at CT
        clear hin
        go_wp2_with fail
        with_reducible refine CT.out.mono ?_
        rintro e w5 ⟨rfl, hw5⟩
        subst hw5
        go_wp2_with fail
        go_roundw
        case rel => exact ⟨k + 1, D, c, by omega, by go_num, by rw [HUT.out, HE.out], by rw [HUT.out, HE.out]; exact O3.out, K3.out⟩
        case measure => simp [intOf]; omega
      · have HE := Lib.hid (show useF u s = u ++ [ch] by rw [HUF.out, if_neg hin])
        rw [decide_eq_false (fun h => hin (HMM.out.1 h))] at CT
        clear hin
        go_wp2_with fail
        with_reducible refine CT.out.mono ?_
        rintro e w5 ⟨rfl, hw5⟩
        subst hw5
        go_wp2_with (at_builtin; refine stop_in ?_)
        refine stop_out ?_
        refine push_int rfl _ _ rfl w0.heap.size D u.length c (u.map Int.ofNat) (ch : Int) rfl rfl rfl (List.length_map _) O3.out (by omega) K3.out (Nat.le_refl _) K3.out.size ?_
        intro G c' w6 hown' hk6 _
        have O6 := Lib.hid hown'
        have K6 := Lib.hid hk6
        clear hown' hk6 q0 q1 y0 y1
        go_wp2_with fail
        go_roundw
        case rel =>
          refine ⟨k + 1, some ⟨G, 0, none⟩, c', by omega, by go_num, by rw [HUT.out, HE.out]; simp, ?_, K6.out⟩
          rw [HUT.out, HE.out]
          have h := O6.out
          simp only [List.map_append, List.map_cons, List.map_nil, List.length_append, List.length_cons, List.length_nil, Nat.zero_add] at h ⊢
          exact h
        case measure => simp [intOf]; omega
    · obtain rfl : k = n := by omega
      have hte : l.take k = l := List.take_of_length_le (by rw [HL.out]; exact Nat.le_refl _)
      rw [hte] at HO hul ⊢
      clear hkp hte
      go_wp2_with fail
      have hul2 : ((useL l).map Int.ofNat).length = (useL l).length := List.length_map _
      have SO := Lib.hid (sort_any w0.heap.size D (useL l).length c ((useL l).map Int.ofNat) wr hul2 (by omega) HO.out)
      have HSN := Lib.hid (show ((useL l).map Int.ofNat).mergeSort (fun x y => decide (x ≤ y)) = (useS l).map Int.ofNat from sort_nat (useL l))
      have HLN := Lib.hid (show (useL l).length = (useS l).length from (useS_perm l).length_eq.symm)
      have HUP := Lib.hid (useS_up l)
      have HUM := Lib.hid (show ∀ x ∈ useS l, x < N.ch.length from fun x hx => by
        obtain ⟨s, hs, rfl⟩ := useS_mem.1 hx
        have := (HOK.out.ok s hs).1
        omega)
      rw [HSN.out] at SO
      rw [HLN.out] at SO hul ⊢
      generalize hue : useS l = u at *
      have HUE := Lib.hid hue
      clear hue
      clear hul2
      go_wp2_with fail
      with_reducible refine SO.out.mono ?_
      rintro e wS ⟨rfl, hoS, hkS⟩
      have OS := Lib.hid hoS
      have KS := Lib.hid (show Kp No w0 wS from HKP.out.trans hkS fun b hb e => by
        have h := own_ge (show wr.ownsRow w0.heap.size 3 1 (.slice D u.length c) _ _ from by have := HO.out; rw [HLN.out] at this; exact this) (g := b) e
        omega)
      clear hoS hkS SO
      obtain ⟨T, hT⟩ : ∃ T : Nat, T = 2 ^ u.length := ⟨_, rfl⟩
      have hT256 : T ≤ 256 := by
        rw [hT]
        exact Nat.pow_le_pow_right (by omega) hul
      have hTw : wrap64 ((2 : Int) ^ u.length) = (T : Int) := by
        have : ((2 : Int) ^ u.length) = (T : Int) := by rw [hT]; simp
        rw [this]
        exact IntWalk.wrap64_in _ (by omega)
      have HT := Lib.hid hT
      clear hT
      go_wp2_with fail
      rw [hTw]
      clear hTw
      obtain ⟨mB, hmB⟩ : ∃ mB, mB = w.heap.size + 1 := ⟨_, rfl⟩
      rw [← hmB]
      have HMB := Lib.hid hmB
      have HM0 := Lib.hid (show MapAt wS mB (ekB (n := 16)) (Value.int .i64) [] by rw [HMB.out]; exact HMP.out.of_block (by rw [KS.out.block _ HMP.out.lt (fun h => h)]))
      have HBS := Lib.hid (KS.out.heap HBX.out id)
      have hbS : w.heap.size < wS.heap.size := Nat.lt_of_lt_of_le hb1 KS.out.size
      clear hmB p0 p1 p2 p3
      go_loopw [41] (fun i wr => ∃ (t : Nat) (E : List (Bls 16 × Int)), t ≤ T ∧ i = .int .i64 (t : Nat) ∧ MapAt wr mB ekB (Value.int .i64) E ∧ CapOf N u t E ∧ Kp (One mB) wS wr) (fun i _ => T - (intOf i).toNat)
      case atStart => exact ⟨0, [], by omega, rfl, HM0.out, CapOf.zero N u, Kp.refl _ _⟩
      case round =>
        obtain ⟨t, E, ht, rfl, hmap, hcap, hkp⟩ := hrel
        have HMAP := Lib.hid hmap
        have HCAP := Lib.hid hcap
        have HKT := Lib.hid hkp
        have hnm : ¬ One mB w.heap.size := fun e => by have e : w.heap.size = mB := e; have := HMB.out; omega
        have B1 := Lib.hid (hkp.heap HBS.out hnm)
        obtain ⟨p0, p1, p2, p3⟩ := four_at B1.out
        have hbr : w.heap.size < wr.heap.size := Nat.lt_of_lt_of_le hbS hkp.size
        clear hmap hcap hkp
        by_cases hlt : t < T
        · go_wp2_with fail
          obtain ⟨wI, hwI⟩ : ∃ wI, wI = (wr.alloc (.cells #[.bool false, .bool false, .bool false, .bool false, .bool false, .bool false, .bool false, .bool false, .bool false, .bool false, .bool false, .bool false, .bool false, .bool false, .bool false, .bool false] 87)).alloc (.cells #[.int .i64 N.n, .slice A N.tr.length ca, .slice none 0 0] 25) := ⟨_, rfl⟩
          obtain ⟨ga, ha⟩ : ∃ ga, ga = wr.heap.size := ⟨_, rfl⟩
          have HA0 := Lib.hid (show wI.heap[ga]? = some (.cells ((maskL []).map Value.bool).toArray 87 (0, 0)) by
            rw [hwI, ha, maskL_nil]
            exact (Kp.alloc No _ _).heap (heap_alloc_new wr _) id)
          have HN0 := Lib.hid (show wI.heap[ga + 1]? = some (.cells #[.int .i64 N.n, .slice A N.tr.length ca, .slice none 0 0] 25 (0, 0)) by
            rw [hwI, ha]
            have := heap_alloc_new (wr.alloc (.cells #[.bool false, .bool false, .bool false, .bool false, .bool false, .bool false, .bool false, .bool false, .bool false, .bool false, .bool false, .bool false, .bool false, .bool false, .bool false, .bool false] 87)) (.cells #[.int .i64 N.n, .slice A N.tr.length ca, .slice none 0 0] 25)
            simpa using this)
          have HIZ := Lib.hid (show wI.heap.size = ga + 2 by rw [hwI, ha]; simp)
          have HKI := Lib.hid (show Kp No wr wI by rw [hwI]; exact (Kp.alloc _ _ _).tr (Kp.alloc _ _ _))
          have HRW := Lib.hid (show RdI .i64 wr D u.length (u.map Int.ofNat) by
            have ho := OS.out
            unfold OwI at ho
            rw [List.length_map] at ho
            refine (RdI.of_own ho).kp HKT.out fun b o e hb h => ?_
            have h : b = mB := h
            subst e
            rcases ho.2 with ⟨hv, _⟩ | ⟨g2, _, _, hv, hge, _⟩
            · cases hv
            · injection hv with hv
              injection hv with hv
              injection hv with e1 e2
              have := HZ.out
              have := HMB.out
              omega)
          have HAE := Lib.hid ha
          rw [← hwI, ← ha]
          have hba : w.heap.size < ga := by omega
          clear p0 p1 p2 p3 hwI ha
          obtain ⟨wrO, rfl⟩ : ∃ wrO, wrO = wr := ⟨_, rfl⟩
          go_loopw [49] (fun i wq => ∃ (j : Nat) (Ac : Option Addr) (c' : Nat), j ≤ u.length ∧ i = .int .i64 (j : Nat) ∧ wq.heap[ga]? = some (.cells ((maskL (pickT u t j)).map Value.bool).toArray 87 (0, 0)) ∧ wq.heap[ga + 1]? = some (.cells #[.int .i64 N.n, .slice A N.tr.length ca, .slice Ac (pickT u t j).length c'] 25 (0, 0)) ∧ wq.ownsRow wI.heap.size 3 1 (.slice Ac (pickT u t j).length c') (pickT u t j).length ((pickT u t j).map fun x => Value.int .i64 (N.ch.getD x 0 : Nat)) ∧ Kp (fun b => b = ga ∨ b = ga + 1) wI wq) (fun i _ => u.length - (intOf i).toNat)
          case atStart => exact ⟨0, none, 0, by omega, rfl, HA0.out, HN0.out, World.ownsRow_nil _ _ _ _, Kp.refl _ _⟩
          case round =>
            obtain ⟨j, Ac, c', hj, rfl, hma, hnb, hown, hkq⟩ := hrel
            have HMA := Lib.hid hma
            have HNB := Lib.hid hnb
            have HOC := Lib.hid hown
            have HKQ := Lib.hid hkq
            have hwin : w.heap.size < wI.heap.size := by have := HIZ.out; omega
            have hnw : ¬ (w.heap.size = ga ∨ w.heap.size = ga + 1) := by omega
            obtain ⟨p0, p1, p2, p3⟩ := four_at (hkq.heap (HKI.out.heap B1.out id) hnw)
            clear hma hnb hown hkq
            by_cases hlt2 : j < u.length
            · obtain ⟨ch, hch⟩ : ∃ ch, u[j]? = some ch := ⟨_, List.getElem?_eq_getElem hlt2⟩
              obtain ⟨bD, oD, rfl, hbD, x0⟩ := HRW.out.2 j (ch : Int) (by rw [List.getElem?_map, hch]; rfl)
              have hchn := HUM.out ch (List.mem_of_getElem? hch)
              have HPS := Lib.hid (pickT_succ u t j ch hch)
              have hbit := bit_is t j (by omega)
              have hbe := bit_eq t j
              have hpl : (pickT u t j).length ≤ 8 := by
                unfold pickT
                rw [List.length_map]
                have := List.length_filter_le (fun i => t.testBit i) (List.range j)
                rw [List.length_range] at this
                omega
              have hbDa : bD < ga := by rw [HAE.out]; exact hbD
              have z0 := HKQ.out.cell (HKI.out.cell x0 id) (fun h => by have h : bD = ga ∨ bD = ga + 1 := h; omega)
              clear hch x0
              cases hb : bitR t j
              · rw [hb] at hbe
                have HPE := Lib.hid (show pickT u t (j + 1) = pickT u t j by rw [HPS.out, show t.testBit j = false from hb]; simp)
                clear hb
                go_wp2_with fail
                go_roundw
                case rel => exact ⟨j + 1, Ac, c', by omega, by go_num, by rw [HPE.out]; exact HMA.out, by rw [HPE.out]; exact HNB.out, by rw [HPE.out]; exact HOC.out, HKQ.out⟩
                case measure => simp [intOf]; omega
              · rw [hb] at hbe
                have HPE := Lib.hid (show pickT u t (j + 1) = pickT u t j ++ [ch] by rw [HPS.out, show t.testBit j = true from hb]; simp)
                clear hb
                have hci : (maskL (pickT u t j))[ch]? = some (atB (maskL (pickT u t j)) ch) := by
                  unfold atB
                  rw [List.getD_eq_getElem?_getD, List.getElem?_eq_getElem (by rw [maskL_len]; omega)]
                  rfl
                have y0 : wr.cell? ⟨ga, ch, none⟩ = some (.bool (atB (maskL (pickT u t j)) ch)) := by
                  rw [cell_of_row _ _ _ _ _ _ HMA.out]
                  simp [hci]
                have y1 : wr.frozen? ⟨ga, ch, none⟩ = false := by simp [World.frozen?, HMA.out]
                have hch16 : (ch : Int) < 16 := by omega
                go_wp2_with fail
                obtain ⟨cn, hcn⟩ : ∃ cn, N.ch[ch]? = some cn := ⟨_, List.getElem?_eq_getElem hchn⟩
                obtain ⟨bB, oB, hBe, hbB, r00⟩ := HNW.out.chest hcn
                have HGD := Lib.hid (show N.ch.getD ch 0 = cn by rw [List.getD_eq_getElem?_getD, hcn]; rfl)
                subst hBe
                have hbB0 : bB < w.heap.size := hbB
                have r01 := (KS.out.cell (HK.out.cell r00 id) id)
                have hmz := HMB.out
                have hzz := HZ.out
                obtain ⟨wM, hwM⟩ : ∃ wM, wM = wr.setCell ⟨ga, ch, none⟩ (.bool true) := ⟨_, rfl⟩
                rw [← hwM]
                have hkM : Kp (One ga) wr wM := by rw [hwM]; exact kp_setOne _ _ _ _
                have HMM := Lib.hid (show wM.heap[ga]? = some (.cells ((maskL (pickT u t j ++ [ch])).map Value.bool).toArray 87 (0, 0)) by rw [hwM]; exact mask_set HMA.out ch)
                have HNM := Lib.hid (show wM.heap[ga + 1]? = some (.cells #[.int .i64 N.n, .slice A N.tr.length ca, .slice Ac (pickT u t j).length c'] 25 (0, 0)) from hkM.heap HNB.out (fun e => by have e : ga + 1 = ga := e; omega))
                have OS := Lib.hid (show wM.ownsRow (ga + 2) 3 1 (.slice Ac (pickT u t j).length c') (pickT u t j).length ((pickT u t j).map fun x => Value.int .i64 (N.ch.getD x 0 : Nat)) by
                  rw [← HIZ.out]
                  exact own_kp HOC.out hkM (fun b hb e => by have e : b = ga := e; have := (own_ge HOC.out hb).1; have := HIZ.out; omega))
                have q2 := (net_cells HNM.out).2.2.1
                have hneG : w.heap.size ≠ ga ∧ bB ≠ ga ∧ ¬ (ga + 1 ≤ w.heap.size) ∧ ¬ (ga + 1 ≤ bB) ∧ bB ≠ mB ∧ ¬ (bB = ga ∨ bB = ga + 1) := by
                  have h1 := HKT.out.size
                  have h2 := KS.out.size
                  have h3 := HAE.out
                  omega
                have p2 := hkM.cell p2 hneG.1
                have r0 := hkM.cell (HKQ.out.cell (HKI.out.cell (HKT.out.cell r01 hneG.2.2.2.2.1) id) hneG.2.2.2.2.2) hneG.2.1
                have HNE := Lib.hid (And.intro hneG.2.2.1 hneG.2.2.2.1)
                have HSZ := Lib.hid (show ga + 2 ≤ wM.heap.size by have h1 := HKQ.out.size; have h2 := hkM.size; have := HIZ.out; omega)
                have HKM := Lib.hid (HKQ.out.tr (hkM.mono fun b _ e => .inl e))
                obtain ⟨i0, hi0, hz0, hz1, hz2⟩ := info_parts infoI0
                have hchl : (ch : Int) < N.ch.length := by omega
                clear hkM hwM hcn r00 r01 hneG hbit hbe y0 y1 hci z0 p0 p1 p3 hbB hbB0 hmz hzz hpl
                have hpl : (pickT u t j).length ≤ 8 := by
                  unfold pickT
                  rw [List.length_map]
                  have := List.length_filter_le (fun i => t.testBit i) (List.range j)
                  rw [List.length_range] at this
                  omega
                generalize hple : (pickT u t j).length = pl at *
                have HPL := Lib.hid hple
                clear hple
                have up : ∀ (r : Nat → Option Value) (w' : World) (i : Nat) (v : Value), i ≠ 8 → i ≠ 9 → i ≠ 11 → (Kp (fun k => ga + 1 ≤ k) wM w' ∧ (r 9 = none → Kp No wM w' ∧ ∀ qq, r 8 = some qq → ∃ gq, qq = .slice (some ⟨gq, 0, none⟩) 1 1 ∧ ∀ (jj : Nat) xx, ([.int .i64 (cn : Nat)] : List Value)[jj]? = some xx → w'.cell? ⟨gq, jj, none⟩ = some xx) ∧ (∀ qq, r 9 = some qq → r 1 ≠ none ∧ r 8 ≠ none ∧ w'.ownsRow (ga + 2) 3 1 qq (pl + 1) (((pickT u t j).map fun x => Value.int .i64 (N.ch.getD x 0 : Nat)) ++ [.int .i64 (cn : Nat)])) ∧ (r 11 = none → w'.heap[ga + 1]? = some (.cells #[.int .i64 N.n, .slice A N.tr.length ca, .slice Ac pl c'] 25 (0, 0))) ∧ (r 11 ≠ none → ∃ qq, r 9 = some qq ∧ w'.heap[ga + 1]? = some (.cells #[.int .i64 N.n, .slice A N.tr.length ca, qq] 25 (0, 0)))) → (Kp (fun k => ga + 1 ≤ k) wM w' ∧ ((Kq.upd r i v) 9 = none → Kp No wM w' ∧ ∀ qq, (Kq.upd r i v) 8 = some qq → ∃ gq, qq = .slice (some ⟨gq, 0, none⟩) 1 1 ∧ ∀ (jj : Nat) xx, ([.int .i64 (cn : Nat)] : List Value)[jj]? = some xx → w'.cell? ⟨gq, jj, none⟩ = some xx) ∧ (∀ qq, (Kq.upd r i v) 9 = some qq → (Kq.upd r i v) 1 ≠ none ∧ (Kq.upd r i v) 8 ≠ none ∧ w'.ownsRow (ga + 2) 3 1 qq (pl + 1) (((pickT u t j).map fun x => Value.int .i64 (N.ch.getD x 0 : Nat)) ++ [.int .i64 (cn : Nat)])) ∧ ((Kq.upd r i v) 11 = none → w'.heap[ga + 1]? = some (.cells #[.int .i64 N.n, .slice A N.tr.length ca, .slice Ac pl c'] 25 (0, 0))) ∧ ((Kq.upd r i v) 11 ≠ none → ∃ qq, (Kq.upd r i v) 9 = some qq ∧ w'.heap[ga + 1]? = some (.cells #[.int .i64 N.n, .slice A N.tr.length ca, qq] 25 (0, 0)))) := fun r w' i v h1 h2 h3 h => by
                  rw [upd_ne _ _ h1.symm, upd_ne _ _ h2.symm, upd_ne _ _ h3.symm]
                  exact ⟨h.1, h.2.1, fun u hu => ⟨upd_some (h.2.2.1 u hu).1, (h.2.2.1 u hu).2⟩, h.2.2.2⟩
                have UP := Lib.hid up
                clear up
                refine wp_region_each (fun ix uR => match ix with | 0 => uR = .pointer (some ⟨ga + 1, 2, none⟩) | 1 => uR = .slice Ac pl c' | 2 => uR = .pointer (some ⟨w.heap.size, 0, none⟩) | 3 => uR = .pointer (some ⟨w.heap.size, 2, none⟩) | 4 => uR = .slice (some ⟨bB, oB, none⟩) N.ch.length cb | 5 => uR = .int .i64 (ch : Nat) | 6 => uR = .pointer (some ⟨bB, oB + ch, none⟩) | 7 => uR = .int .i64 (cn : Nat) | 10 => uR = .pointer (some ⟨ga + 1, 2, none⟩) | _ => True) (fun r w' => (Kp (fun k => ga + 1 ≤ k) wM w' ∧ (r 9 = none → Kp No wM w' ∧ ∀ qq, r 8 = some qq → ∃ gq, qq = .slice (some ⟨gq, 0, none⟩) 1 1 ∧ ∀ (jj : Nat) xx, ([.int .i64 (cn : Nat)] : List Value)[jj]? = some xx → w'.cell? ⟨gq, jj, none⟩ = some xx) ∧ (∀ qq, r 9 = some qq → r 1 ≠ none ∧ r 8 ≠ none ∧ w'.ownsRow (ga + 2) 3 1 qq (pl + 1) (((pickT u t j).map fun x => Value.int .i64 (N.ch.getD x 0 : Nat)) ++ [.int .i64 (cn : Nat)])) ∧ (r 11 = none → w'.heap[ga + 1]? = some (.cells #[.int .i64 N.n, .slice A N.tr.length ca, .slice Ac pl c'] 25 (0, 0))) ∧ (r 11 ≠ none → ∃ qq, r 9 = some qq ∧ w'.heap[ga + 1]? = some (.cells #[.int .i64 N.n, .slice A N.tr.length ca, qq] 25 (0, 0))))) (by kernel_rfl) (by kernel_rfl) (by kernel_rfl) ?_ ?_ ?_
                · exact ⟨Kp.drew _ _, fun _ => ⟨Kp.drew _ _, fun u h => (by cases h)⟩, fun u h => (by cases h), fun _ => (Kp.drew No _).heap HNM.out id, fun h => absurd rfl h⟩
                · refine ⟨?_, ?_, ?_, ?_, ?_, ?_, ?_, ?_, ?_, ?_, ?_, ?_, trivial⟩
                  · intro r a w' hf hg hW hr hd K hK
                    refine wpOp_of rfl rfl ?_
                    have e0 : a.tmps.getD 9 undef = .pointer (some ⟨ga + 1, 0, none⟩) := hf.evalFree (by kernel_rfl)
                    go_simp
                    exact hK _ _ rfl (UP.out r w' 0 _ (by decide) (by decide) (by decide) hW)
                  · intro r a w' hf hg hW hr hd K hK
                    refine wpOp_of rfl rfl ?_
                    refine hf.depE hg hd 0 61 (by kernel_rfl) fun u0 e0 g0 h0 => ?_
                    replace g0 : u0 = .pointer (some ⟨ga + 1, 2, none⟩) := g0
                    subst g0
                    have H9 : r 9 = none := by
                      cases hs : r 9 with
                      | none => rfl
                      | some v => exact absurd hr (hW.2.2.1 v hs).1
                    have z0 := (hW.2.1 H9).1.cell q2 id
                    go_simp
                    exact hK _ _ rfl (UP.out r w' 1 _ (by decide) (by decide) (by decide) hW)
                  · intro r a w' hf hg hW hr hd K hK
                    refine wpOp_of rfl rfl ?_
                    have e0 : a.tmps.getD 1 undef = .pointer (some ⟨w.heap.size, 0, none⟩) := hf.evalFree (by kernel_rfl)
                    go_simp
                    exact hK _ _ rfl (UP.out r w' 2 _ (by decide) (by decide) (by decide) hW)
                  · intro r a w' hf hg hW hr hd K hK
                    refine wpOp_of rfl rfl ?_
                    refine hf.depE hg hd 2 63 (by kernel_rfl) fun u0 e0 g0 h0 => ?_
                    replace g0 : u0 = .pointer (some ⟨w.heap.size, 0, none⟩) := g0
                    subst g0
                    go_simp
                    exact hK _ _ rfl (UP.out r w' 3 _ (by decide) (by decide) (by decide) hW)
                  · intro r a w' hf hg hW hr hd K hK
                    refine wpOp_of rfl rfl ?_
                    refine hf.depE hg hd 3 64 (by kernel_rfl) fun u0 e0 g0 h0 => ?_
                    replace g0 : u0 = .pointer (some ⟨w.heap.size, 2, none⟩) := g0
                    subst g0
                    have z0 := hW.1.cell p2 HNE.out.1
                    go_simp
                    exact hK _ _ rfl (UP.out r w' 4 _ (by decide) (by decide) (by decide) hW)
                  · intro r a w' hf hg hW hr hd K hK
                    refine wpOp_of rfl rfl ?_
                    have e0 : a.tmps.getD 11 undef = .int .i64 (ch : Nat) := hf.evalFree (by kernel_rfl)
                    go_simp
                    exact hK _ _ rfl (UP.out r w' 5 _ (by decide) (by decide) (by decide) hW)
                  · intro r a w' hf hg hW hr hd K hK
                    refine wpOp_of rfl rfl ?_
                    refine hf.depE hg hd 4 65 (by kernel_rfl) fun u0 e0 g0 h0 => ?_
                    replace g0 : u0 = .slice (some ⟨bB, oB, none⟩) N.ch.length cb := g0
                    subst g0
                    refine hf.depE hg hd 5 66 (by kernel_rfl) fun u1 e1 g1 h1 => ?_
                    replace g1 : u1 = .int .i64 (ch : Nat) := g1
                    subst g1
                    go_simp
                    exact hK _ _ rfl (UP.out r w' 6 _ (by decide) (by decide) (by decide) hW)
                  · intro r a w' hf hg hW hr hd K hK
                    refine wpOp_of rfl rfl ?_
                    refine hf.depE hg hd 6 67 (by kernel_rfl) fun u0 e0 g0 h0 => ?_
                    replace g0 : u0 = .pointer (some ⟨bB, oB + ch, none⟩) := g0
                    subst g0
                    have z0 := hW.1.cell r0 HNE.out.2
                    go_simp
                    exact hK _ _ rfl (UP.out r w' 7 _ (by decide) (by decide) (by decide) hW)
                  · intro r a w' hf hg hW hr hd K hK
                    refine wpOp_of rfl rfl ?_
                    refine hf.depE hg hd 7 68 (by kernel_rfl) fun u0 e0 g0 h0 => ?_
                    replace g0 : u0 = .int .i64 (cn : Nat) := g0
                    subst g0
                    have e0' := get_of_getD e0
                    have H9 : r 9 = none := by
                      cases hs : r 9 with
                      | none => rfl
                      | some v => exact absurd hr (hW.2.2.1 v hs).2.1
                    have H11 : r 11 = none := by
                      cases hs : r 11 with
                      | none => rfl
                      | some v =>
                        obtain ⟨u, hu, _⟩ := hW.2.2.2.2 (by rw [hs]; simp)
                        rw [H9] at hu
                        cases hu
                    go_simp
                    refine hK _ _ trivial ⟨hW.1.tr (Kp.alloc _ _ _), fun _ => ⟨(hW.2.1 H9).1.tr (Kp.alloc _ _ _), fun u hu => ?_⟩, fun u hu => ?_, fun h => ?_, fun h => ?_⟩
                    · rw [upd_same] at hu
                      cases hu
                      exact ⟨w'.heap.size, rfl, fun jj xx hj => by have := new_cells (e := 3) w' [.int .i64 (cn : Nat)] (by simp [maxLen]) jj xx hj; rwa [add_at, Nat.zero_add] at this⟩
                    · rw [upd_ne _ _ (by decide), H9] at hu
                      cases hu
                    · exact (Kp.alloc No _ _).heap (hW.2.2.2.1 H11) id
                    · rw [upd_ne _ _ (by decide), H11] at h
                      exact absurd rfl h
                  · intro r a w' hf hg hW hr hd K hK
                    refine wpOp_of rfl rfl ?_
                    refine hf.depE hg hd 1 62 (by kernel_rfl) fun u0 e0 g0 h0 => ?_
                    replace g0 : u0 = .slice Ac pl c' := g0
                    subst g0
                    refine hf.depE hg hd 8 69 (by kernel_rfl) fun u1 e1 g1 h1 => ?_
                    have H9 := hr
                    have H11 : r 11 = none := by
                      cases hs : r 11 with
                      | none => rfl
                      | some v =>
                        obtain ⟨u, hu, _⟩ := hW.2.2.2.2 (by rw [hs]; simp)
                        rw [H9] at hu
                        cases hu
                    obtain ⟨gq, hq, hcc⟩ := (hW.2.1 hr).2 u1 h1
                    subst hq
                    have hownw := own_kp OS.out (hW.2.1 hr).1 (fun _ _ h => h)
                    refine wpo_append (.tmp 62) (.tmp 69) 23 rfl (ga + 2) 3 i0 (.int .i64 0) 1 8 Tryz.underlying23 hi0 hz0 hz1 hz2 rfl (by decide) (.slice Ac pl c') pl ((pickT u t j).map fun x => Value.int .i64 (N.ch.getD x 0 : Nat)) e0 hownw ⟨gq, 0, none⟩ 1 1 [.int .i64 (cn : Nat)] e1 rfl (fun jj xx hj => by rw [add_at, Nat.zero_add]; exact hcc jj xx hj) (fun u hu => by simp at hu; subst hu; rfl) (by unfold maxLen; omega) (by omega) (by have := HSZ.out; have := hW.1.size; omega) (fun v' w'' ho hgr _ => ?_)
                    refine hK _ _ trivial ⟨hW.1.trans (Kp.grown (S := fun k => ga + 2 ≤ k) hgr fun k hk _ => (own_ge hownw hk).1) (fun k _ h => by have h : ga + 2 ≤ k := h; show ga + 1 ≤ k; omega), fun h => ?_, fun u hu => ?_, fun h => ?_, fun h => ?_⟩
                    · rw [upd_same] at h
                      cases h
                    · rw [upd_same] at hu
                      cases hu
                      exact ⟨by rw [upd_ne _ _ (by decide), h0]; simp, by rw [upd_ne _ _ (by decide), h1]; simp, ho⟩
                    · exact (Kp.grown (S := fun k => ga + 2 ≤ k) hgr fun k hk _ => (own_ge hownw hk).1).heap (hW.2.2.2.1 H11) (fun h => by have h : ga + 2 ≤ ga + 1 := h; omega)
                    · rw [upd_ne _ _ (by decide), H11] at h
                      exact absurd rfl h
                  · intro r a w' hf hg hW hr hd K hK
                    refine wpOp_of rfl rfl ?_
                    have e0 : a.tmps.getD 9 undef = .pointer (some ⟨ga + 1, 0, none⟩) := hf.evalFree (by kernel_rfl)
                    go_simp
                    exact hK _ _ rfl (UP.out r w' 10 _ (by decide) (by decide) (by decide) hW)
                  · intro r a w' hf hg hW hr hd K hK
                    refine wpOp_of rfl rfl ?_
                    refine hf.depE hg hd 10 71 (by kernel_rfl) fun u0 e0 g0 h0 => ?_
                    replace g0 : u0 = .pointer (some ⟨ga + 1, 2, none⟩) := g0
                    subst g0
                    refine hf.depE hg hd 9 70 (by kernel_rfl) fun u1 e1 g1 h1 => ?_
                    have hbx := hW.2.2.2.1 hr
                    obtain ⟨k1, k2, k3⟩ := hW.2.2.1 _ h1
                    obtain ⟨a8, c8, hu1, _, _, _⟩ := own_form k3
                    subst hu1
                    obtain ⟨v0, v1, v2, f2⟩ := net_cells hbx
                    go_simp
                    refine hK undef _ trivial ⟨hW.1.tr (Kp.setCell _ _ _ _ fun _ => ?_), fun h => ?_, fun u hu => ?_, fun h => ?_, fun h => ?_⟩
                    · show ga + 1 ≤ ga + 1
                      exact Nat.le_refl _
                    · rw [upd_ne _ _ (by decide), h1] at h
                      cases h
                    · rw [upd_ne _ _ (by decide), h1] at hu
                      cases hu
                      refine ⟨upd_some k1, upd_some k2, own_kp k3 (kp_setOne _ _ _ _) (fun b hb e => ?_)⟩
                      have e : b = ga + 1 := e
                      have := own_ge k3 hb
                      omega
                    · rw [upd_same] at h
                      cases h
                    · refine ⟨_, by rw [upd_ne _ _ (by decide)]; exact h1, ?_⟩
                      exact net_set hbx _
                intro r' w9 hg hW hr'
                obtain ⟨q9, hq9⟩ : ∃ u, r' 9 = some u := Option.ne_none_iff_exists'.1 (hr' 9 (by decide))
                obtain ⟨q11, hq11⟩ : ∃ u, r' 11 = some u := Option.ne_none_iff_exists'.1 (hr' 11 (by decide))
                simp only [List.length_cons, List.length_nil, Nat.reduceAdd, List.range_succ, List.range_zero, List.nil_append, List.cons_append, List.map_cons, List.map_nil, putAll, Act.put, List.setIfInBounds_toArray, List.set_cons_succ, List.set_cons_zero, hq9, hq11, Option.getD_some]
                obtain ⟨u9, hu9, hb9⟩ := hW.2.2.2.2 (by rw [hq11]; simp)
                rw [hq9] at hu9
                injection hu9 with hu9
                subst hu9
                obtain ⟨_, _, ho9⟩ := hW.2.2.1 _ hq9
                obtain ⟨a9, c9, rfl, _, _, _⟩ := own_form ho9
                have HB9 := Lib.hid hb9
                have HO9 := Lib.hid ho9
                have HM9 := Lib.hid (hW.1.heap HMM.out (fun h => by have h : ga + 1 ≤ ga := h; omega))
                have HK9 := Lib.hid (HKM.out.trans hW.1 (fun b hb h => by have h : ga + 1 ≤ b := h; have := HIZ.out; show b = ga ∨ b = ga + 1; omega))
                clear hb9 ho9 hW hg hr' UP q2 p2 r0
                go_wp2_with fail
                go_roundw
                case rel =>
                  have hpe : (pickT u t (j + 1)).length = pl + 1 := by rw [HPE.out, List.length_append, HPL.out]; rfl
                  refine ⟨j + 1, a9, c9, by omega, by go_num, by rw [HPE.out]; exact HM9.out, by rw [hpe]; exact HB9.out, ?_, HK9.out⟩
                  have h := HO9.out
                  rw [hpe, HPE.out, HIZ.out, List.map_append, List.map_cons, List.map_nil, HGD.out]
                  exact h
                case measure => simp [intOf]; omega
            · obtain rfl : u.length = j := by omega
              have HSS := Lib.hid (show pickT u t u.length = pickU u t from rfl)
              have hup := pickT_up HUP.out t u.length (Nat.le_refl _)
              have HSO := Lib.hid (sub_ok HN.out hup.1 (fun x hx => HUM.out x (pickT_mem (Nat.le_refl _) hx)))
              have hKA : Kp (fun b => w.heap.size ≤ b) w wr := by
                have h1 := (HK.out.tr KS.out).of_no (S := fun b => w.heap.size ≤ b)
                have h2 : Kp (fun b => w.heap.size ≤ b) wS wrO := HKT.out.mono fun b _ e => by have e : b = mB := e; have := HMB.out; show w.heap.size ≤ b; omega
                have h3 : Kp (fun b => w.heap.size ≤ b) wI wr := HKQ.out.mono fun b _ e => by show w.heap.size ≤ b; omega
                exact ((h1.tr h2).no HKI.out).tr h3
              rw [HSS.out] at HMA HNB HOC HSO hup
              obtain ⟨b0, b1, b2, b3, b4, b5, b6, b7, b8, b9, b10, b11, b12, b13, b14, b15, hmk⟩ := len16 (maskL_len (pickU u t))
              have HKEY := Lib.hid (show ekB (maskK (pickU u t)) = .agg #[.bool b0, .bool b1, .bool b2, .bool b3, .bool b4, .bool b5, .bool b6, .bool b7, .bool b8, .bool b9, .bool b10, .bool b11, .bool b12, .bool b13, .bool b14, .bool b15] by
                show boolsV (maskL (pickU u t)) = _
                rw [hmk]
                rfl)
              rw [hmk] at HMA
              simp only [List.map_cons, List.map_nil] at HMA
              have HRN := Lib.hid (show RdNet wr A Ac (subN N (pickU u t)) from ⟨(HNW.out.tr).kp hKA (fun b o e hb h => by have h : w.heap.size ≤ b := h; omega), by
                have h := HOC.out
                have e : ((pickU u t).map fun x => Value.int .i64 (N.ch.getD x 0 : Nat)) = ((subN N (pickU u t)).ch.map Int.ofNat).map (Value.int .i64) := by
                  unfold subN
                  simp only [List.map_map]
                  rfl
                rw [e] at h
                have hl : (subN N (pickU u t)).ch.length = (pickU u t).length := List.length_map _
                rw [hl]
                exact RdI.of_own h⟩)
              have GR := Greatest_ok (subN N (pickU u t)) HSO.out A Ac ca c' wr HRN.out
              unfold netV at GR
              rw [show (subN N (pickU u t)).ch.length = (pickU u t).length from List.length_map _] at GR
              have GR := Lib.hid (show Calls Tryz.prog 49 #[.agg #[.int .i64 N.n, .slice A N.tr.length ca, .slice Ac (pickU u t).length c']] wr _ from GR)
              obtain ⟨n0, n1, n2, _⟩ := net_cells HNB.out
              clear p0 p1 p2 p3 hmk hup hKA
              generalize hSe : pickU u t = S at *
              have HSE := Lib.hid hSe
              clear hSe
              go_wp2_with fail
              with_reducible refine GR.out.mono ?_
              rintro e w5 ⟨lo, hi, rfl, hgl, _, k5⟩
              obtain ⟨gI, hgI⟩ : ∃ gI, gI = w5.heap.size := ⟨_, rfl⟩
              obtain ⟨wG, hwG⟩ : ∃ wG, wG = w5.alloc (.cells #[.int .i64 lo, .int .i64 hi] 78) := ⟨_, rfl⟩
              have hkG : Kp No wr wG := by rw [hwG]; exact k5.tr (Kp.alloc _ _ _)
              have hiv : wG.heap[gI]? = some (.cells #[.int .i64 lo, .int .i64 hi] 78 (0, 0)) := by rw [hwG, hgI]; exact heap_alloc_new w5 _
              obtain ⟨i0, i1, _, _⟩ := cell_head hiv
              have hmz := HMB.out
              have hzz := HZ.out
              have hS1 := KS.out.size
              have hS2 := HKT.out.size
              have hae := HAE.out
              have hne : ¬ (mB = ga ∨ mB = ga + 1) ∧ ¬ (mB + 1 = ga ∨ mB + 1 = ga + 1) ∧ mB + 1 ≠ mB ∧ mB < w0.heap.size ∧ mB < wS.heap.size ∧ mB + 1 < wS.heap.size ∧ mB < wrO.heap.size := by omega
              have HMG := Lib.hid (show MapAt wG mB ekB (Value.int .i64) E from HMAP.out.of_block (by
                have h1 := HMAP.out.lt
                rw [hkG.block _ (by have := HKI.out.size; have := HKQ.out.size; omega) (fun h => h), HKQ.out.block _ (by have := HKI.out.size; omega) hne.1, HKI.out.block _ h1 (fun h => h)]))
              have sy0 : w0.cell? ⟨mB + 1, 4, none⟩ = some (.map (some mB)) := by
                rw [hmz, cell_of_row _ _ _ _ _ _ HSY.out]
                rfl
              have sy := hkG.cell (HKQ.out.cell (HKI.out.cell (HKT.out.cell (KS.out.cell sy0 id) hne.2.2.1) id) hne.2.1) id
              have hkey := hkG.heap HMA.out id
              obtain ⟨m0, m1, m2, m3, m4, m5, m6, m7, m8, m9, m10, m11, m12, m13, m14, m15⟩ := cells16 hkey
              have HKG := Lib.hid (show Kp (One mB) wS wG from (HKT.out.no HKI.out).trans ((HKQ.out.no hkG).mono fun b _ e => e) (fun b hb e => by have e : b = ga ∨ b = ga + 1 := e; omega))
              have HGL := Lib.hid hgl
              have HMZ := Lib.hid hne
              have hgz : mB + 1 < wG.heap.size := by have := hkG.size; have := HKI.out.size; have := HKQ.out.size; omega
              have HWG := Lib.hid hwG
              have HGI := Lib.hid hgI
              clear hwG hgI hkG hiv hgl k5 hmz hzz hS1 hS2 hae hne sy0 hkey n0 n1 n2 hbr hbS hnm hwin hnw hba
              go_wp2_with fail
              rw [← HWG.out, ← HGI.out]
              go_still_tail 7, (by kernel_rfl)
              go_wp2_with (at_mapUpdate; refine stop_in ?_)
              refine stop_out ?_
              refine wpL_update _ rfl _ _ _ 82 rfl keyB Tryz.underlying82 HMG.out.drew (maskK S) lo rfl ?_ rfl ?_
              · rw [HKEY.out]; rfl
              intro w9 hm9 hg9 hs9
              have HM9 := Lib.hid hm9
              have HK9 := Lib.hid (show Kp (One mB) wS w9 from (HKG.out.no (Kp.drew No _)).tr (Kp.grown hg9 fun k hk _ => by injection hk with hk; exact hk.symm))
              have HCN := Lib.hid (show CapOf N u (t + 1) (ins (maskK S) lo E) by
                have h := HCAP.out.put (v := lo) (by rw [← HT.out]; exact hlt) (by rw [HSE.out]; exact HGL.out)
                rw [HSE.out] at h
                exact h)
              clear hm9 hg9 hs9 m0 m1 m2 m3 m4 m5 m6 m7 m8 m9 m10 m11 m12 m13 m14 m15 sy i0 i1
              go_wp2_with fail
              go_roundw
              case rel => exact ⟨t + 1, _, by omega, by go_num, HM9.out, HCN.out, HK9.out⟩
              case measure => simp [intOf]; omega
        · obtain rfl : t = T := by omega
          have sy0 : w0.cell? ⟨mB + 1, 4, none⟩ = some (.map (some mB)) := by
            rw [HMB.out, cell_of_row _ _ _ _ _ _ HSY.out]
            rfl
          have HSY4 := Lib.hid (HKT.out.cell (KS.out.cell sy0 id) (fun e => by have e : mB + 1 = mB := e; omega))
          have HKE := Lib.hid (show Kp No w wr from (HK.out.tr KS.out).trans HKT.out (fun b hb e => by have e : b = mB := e; have := HMB.out; omega))
          clear sy0 p0 p1 p2 p3
          go_wp2_with fail
          go_ret
          exact ⟨mB + 1, mB, E, rfl, HSY4.out, HMAP.out, by rw [HUE.out, ← HT.out]; exact HCAP.out, HKE.out⟩
end Go.Proofs.YtpkbpeeelpgmcaaGreat
