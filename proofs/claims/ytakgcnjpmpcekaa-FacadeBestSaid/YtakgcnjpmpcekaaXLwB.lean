/- Chapter 24: the law's once. -/
import Derived.Test.YtakgcnjpmpcekaaXRfI
namespace Go.Proofs.Ytakgcnjpmpcekaa
open Go.RowKit Go.Kq

def bsN (m : Nat) (T : List Nat) : List Value := (List.range m).map fun x => Value.bool (decide (x ∈ T))
theorem bs_len (m : Nat) (T : List Nat) : (bsN m T).length = m := by unfold bsN; simp
theorem bs_at {m : Nat} {T : List Nat} {x : Nat} (h : x < m) : (bsN m T)[x]? = some (.bool (decide (x ∈ T))) := by
  unfold bsN
  rw [List.getElem?_map, List.getElem?_range h]
  rfl
theorem bs_nil (m : Nat) : bsN m [] = List.replicate m (.bool false) := by
  unfold bsN
  rw [List.eq_replicate_iff]
  refine ⟨by simp, fun v hv => ?_⟩
  obtain ⟨x, _, rfl⟩ := List.mem_map.1 hv
  simp
theorem bs_set {m : Nat} {T : List Nat} {x : Nat} (h : x < m) : (bsN m T).set x (.bool true) = bsN m (T ++ [x]) := by
  refine List.ext_getElem? fun j => ?_
  rcases Nat.lt_or_ge j m with hj | hj
  · rw [List.getElem?_set, bs_len, bs_at hj, bs_at hj]
    by_cases e : x = j
    · rw [if_pos e, if_pos h]
      simp [e]
    · rw [if_neg e]
      have : decide (j ∈ T ++ [x]) = decide (j ∈ T) := by
        rw [decide_eq_decide, List.mem_append]
        simp
        intro h2
        exact absurd h2.symm e
      rw [this]
  · rw [List.getElem?_eq_none (by rw [List.length_set, bs_len]; exact hj), List.getElem?_eq_none (by rw [bs_len]; exact hj)]
theorem infoBool : (Try.prog.info? 4).map (fun i => (i.zero, i.size, i.bytes)) = some (some (.bool false), 1, 1) := by kernel_rfl
theorem make_bools (m : Nat) (hm : m ≤ 100000) (w : World) : (Instr.makeSlice 92 (.int .i64 (m : Nat)) (.int .i64 (m : Nat))).run Try.prog w = .ok (.slice (some ⟨w.heap.size, 0, none⟩) m m) (w.alloc (.cells ((List.replicate m (Value.bool false)).toArray) 4)) := by
  obtain ⟨i0, hi, hz0, hz1, hz2⟩ := info_parts infoBool
  have := run_make_flat w (fun _ : Nat => [Value.bool false]) 0 _ _ i0 _ 1 1 m Try.underlying92 hi hz0 hz1 hz2 (by decide) rfl rfl (by omega) (by omega)
  rw [this, List.flatMap_replicate]
  simp
set_option maxHeartbeats 8000000 in
set_option maxRecDepth 100000 in
theorem once_yes (g : Nat) (B : Option Addr) (N cb m : Nat) (P : List (List Nat)) (w : World) (hB : RdL g w B N (intP P)) (hm : m ≤ 60) (hN : N ≤ 20) (hP : P.flatten.Perm (List.range m)) :
    Calls Try.prog 25 #[.slice B N cb, .int .i64 (m : Nat)] w fun e w' => e = .returned (.bool true) ∧ Kp No w w' := by
  have HB := Lib.hid hB
  have HPL := Lib.hid (show P.length = N by rw [← hB.1, intP_len])
  have HND := Lib.hid (show P.flatten.Nodup from hP.nodup_iff.2 List.nodup_range)
  have HLT := Lib.hid (show ∀ x ∈ P.flatten, x < m from fun x hx => List.mem_range.1 (hP.mem_iff.1 hx))
  have HFL := Lib.hid (show P.flatten.length = m by rw [hP.length_eq, List.length_range])
  have hmk := make_bools m (by omega) w
  have HTF := Lib.hid (fun k S (h : P[k]? = some S) => take_flat P k S h)
  clear hB hP
  go_enter Try.func25, Try.ntmps25
  go_wp2_with fail
  clear hmk
  obtain ⟨gs, hgs⟩ : ∃ gs, gs = w.heap.size := ⟨_, rfl⟩
  rw [← hgs]
  have HGS := Lib.hid hgs
  clear hgs
  go_loopw [6, 7] (fun c i wr => ∃ k : Nat, k ≤ N ∧ i = .int .i64 (k : Nat) ∧ c = .int .i64 (((P.take k).flatten.length : Nat) : Int) ∧ wr.ownsRow w.heap.size 4 1 (.slice (some ⟨gs, 0, none⟩) m m) m (bsN m (P.take k).flatten) ∧ Kp No w wr) (fun _ i _ => N - (intOf i).toNat)
  case atStart =>
    refine ⟨0, by omega, rfl, rfl, ?_, Kp.alloc _ _ _⟩
    rw [HGS.out, show bsN m (P.take 0).flatten = List.replicate m (.bool false) from bs_nil m]
    exact own_made w (e := 4) (n := m) (s := 1) (base := w.heap.size) (xs := List.replicate m (.bool false)) (by simp) (Nat.le_refl _) (by unfold maxLen; omega)
  case round =>
    obtain ⟨w1, rfl⟩ : ∃ w1, w1 = wr := ⟨_, rfl⟩
    obtain ⟨k, hk, rfl, rfl, hown, hkp⟩ := hrel
    have HO := Lib.hid hown
    have HK := Lib.hid hkp
    clear hown hkp
    by_cases hlt : k < N
    · obtain ⟨S, hS⟩ : ∃ S, P[k]? = some S := ⟨_, List.getElem?_eq_getElem (by rw [HPL.out]; exact hlt)⟩
      have HT := Lib.hid (HTF.out k S hS)
      have HTO := Lib.hid (take_flat_le P (k + 1))
      have HPRE := Lib.hid (show ∃ U, P.flatten = (P.take k).flatten ++ S ++ U by
        refine ⟨(P.drop (k + 1)).flatten, ?_⟩
        rw [← HTF.out k S hS, ← List.flatten_append, List.take_append_drop])
      obtain ⟨b, o, A', n', c', rfl, hb1, hc1, _, r1, _⟩ := HB.out.2 k (cI S) (intP_get hS)
      have hSn : S.length = n' := by rw [← r1.1, cI_len]
      have HSN := Lib.hid hSn
      have HC := Lib.hid hc1
      have HR := Lib.hid r1
      have hpl : (P.take k).flatten.length + S.length ≤ m := by
        have h := HTO.out
        rw [HT.out, List.length_append, HFL.out] at h
        exact h
      rw [hSn] at hpl
      generalize (P.take k).flatten = T at *
      clear hS hSn hc1 r1 hb1
      go_wp2_with fail
      go_loopw [6, 8] (fun c i wr => ∃ j : Nat, j ≤ n' ∧ i = .int .i64 (j : Nat) ∧ c = .int .i64 (((T ++ S.take j).length : Nat) : Int) ∧ wr.ownsRow w.heap.size 4 1 (.slice (some ⟨gs, 0, none⟩) m m) m (bsN m (T ++ S.take j)) ∧ Kp No w wr) (fun _ i _ => n' - (intOf i).toNat)
      case atStart => exact ⟨0, by omega, rfl, by simp, by simpa using HO.out, HK.out⟩
      case round =>
        obtain ⟨j, hj, rfl, rfl, hown, hkp⟩ := hrel
        have HO2 := Lib.hid hown
        have HK2 := Lib.hid hkp
        have hcc := hkp.cell HC.out id
        have hbc : b < wr.heap.size := World.block_lt_of_cell? _ _ hcc
        have hlen : (T ++ S.take j).length ≤ 60 := by rw [List.length_append, List.length_take, HSN.out]; omega
        clear hown hkp
        by_cases hlt2 : j < n'
        · obtain ⟨x, hx⟩ : ∃ x, S[j]? = some x := ⟨_, List.getElem?_eq_getElem (by rw [HSN.out]; exact hlt2)⟩
          have HTS := Lib.hid (show T ++ S.take (j + 1) = (T ++ S.take j) ++ [x] by rw [List.take_add_one, hx, ← List.append_assoc]; rfl)
          have hxin : x ∉ T ++ S.take j ∧ x < m := by
            obtain ⟨U, hU⟩ := HPRE.out
            have hnd := HND.out
            have hlt := HLT.out
            rw [hU] at hnd hlt
            have hs2 : S = S.take j ++ x :: S.drop (j + 1) := by
              have hjl := (List.getElem?_eq_some_iff.1 hx).1
              have e : S[j] = x := by
                rw [List.getElem?_eq_getElem hjl] at hx
                exact Option.some.inj hx
              conv => lhs; rw [← List.take_append_drop j S, List.drop_eq_getElem_cons hjl, e]
            refine ⟨fun h => ?_, hlt x (by rw [hs2]; simp)⟩
            rw [hs2, ← List.append_assoc, List.append_assoc, List.cons_append] at hnd
            exact (List.nodup_append.1 hnd).2.2 x h x (by simp) rfl
          obtain ⟨b2, o2, rfl, hb2, hc2⟩ := (HR.out.no HK2.out).2 j (x : Int) (by unfold cI; rw [List.getElem?_map, hx]; rfl)
          have hcs := own_cell HO2.out (j := x) (bs_at hxin.2)
          rw [decide_eq_false hxin.1] at hcs
          have hfz := own_free HO2.out x
          have HST := Lib.hid (show (wr.setCell ⟨gs, x, none⟩ (.bool true)).ownsRow w.heap.size 4 1 (.slice (some ⟨gs, 0, none⟩) m m) m (bsN m ((T ++ S.take j) ++ [x])) by
            have h := own_set HO2.out x (.bool true)
            rwa [bs_set hxin.2] at h)
          have HKS := Lib.hid (HK2.out.trans (kp_setOne wr gs x (.bool true)) fun k hk e => by have e : k = gs := e; have := HGS.out; omega)
          have HLS := Lib.hid (show ((T ++ S.take j) ++ [x]).length = (T ++ S.take j).length + 1 by rw [List.length_append]; rfl)
          have hxm := hxin.2
          generalize T ++ S.take j = V at *
          clear hx hxin
          go_wp2_with fail
          go_roundw
          case rel => exact ⟨j + 1, by omega, by go_num, by rw [HTS.out, HLS.out]; go_num, by rw [HTS.out]; exact HST.out, HKS.out⟩
          case measure => simp [intOf]; omega
        · obtain rfl : n' = j := by omega
          have HTA := Lib.hid (show T ++ S.take n' = (P.take (k + 1)).flatten by rw [HT.out, List.take_of_length_le (by rw [HSN.out]; exact Nat.le_refl _)])
          rw [HTA.out] at HO2 hlen
          go_wp2_with fail
          go_roundw
          case rel => exact ⟨k + 1, by omega, by go_num, by rw [HTA.out], HO2.out, HK2.out⟩
          case measure => simp [intOf]; omega
    · obtain rfl : N = k := by omega
      have HTA := Lib.hid (show (P.take N).flatten.length = m by rw [List.take_of_length_le (by rw [HPL.out]; exact Nat.le_refl _)]; exact HFL.out)
      rw [HTA.out]
      go_wp2_with fail
      go_ret
      exact ⟨rfl, HK.out⟩
end Go.Proofs.Ytakgcnjpmpcekaa
