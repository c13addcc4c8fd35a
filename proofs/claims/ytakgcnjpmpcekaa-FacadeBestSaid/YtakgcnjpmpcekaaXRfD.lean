/- Chapter 24: the document's anew. -/
import Derived.BigQuiet
import Derived.Test.YtakgcnjpmpcekaaXRfC
import Derived.Test.YtakgcnjpmpcekaaXOrB
namespace Go.Proofs.Ytakgcnjpmpcekaa
open Go.RowKit Go.Kq

/-- How many of the first k ones count. -/
def cntN (l : List Int) (x : Int) (k : Nat) : Nat := ((List.range k).filter fun t => decide (l.getD t 0 < x) && frsB l t).length
theorem cnt_succ (l : List Int) (x : Int) (k : Nat) : cntN l x (k + 1) = cntN l x k + if decide (l.getD k 0 < x) && frsB l k then 1 else 0 := by
  unfold cntN
  rw [List.range_succ, List.filter_append, List.length_append]
  congr 1
  rw [List.filter_cons]
  split <;> rfl
theorem cnt_le (l : List Int) (x : Int) (k : Nat) : cntN l x k ≤ k := by
  unfold cntN
  refine Nat.le_trans (List.length_filter_le _ _) ?_
  rw [List.length_range]
  exact Nat.le_refl _
/-- Is the number at k other than the first t ones? -/
def frsT (l : List Int) (k t : Nat) : Bool := (List.range t).all fun j => decide (l.getD j 0 ≠ l.getD k 0)
theorem frs_succ (l : List Int) (k t : Nat) : frsT l k (t + 1) = (frsT l k t && decide (l.getD t 0 ≠ l.getD k 0)) := by
  unfold frsT
  rw [List.range_succ, List.all_append]
  simp
theorem anew_snoc {l : List Int} {i : Nat} {x : Int} (h : l[i]? = some x) : cI ((anewN l).take (i + 1)) = cI ((anewN l).take i) ++ [((rnkN l x : Nat) : Int)] := by
  unfold cI anewN
  rw [List.take_add_one, List.getElem?_map, h]
  simp
theorem getI {l : List Int} {i : Nat} {x : Int} (h : l[i]? = some x) : l.getD i 0 = x := by rw [List.getD_eq_getElem?_getD, h]; rfl
set_option maxHeartbeats 8000000 in
set_option maxRecDepth 100000 in
theorem ranew_any (A : Option Addr) (n ca : Nat) (l : List Int) (w : World) (hR : RdI .i64 w A n l) (hn : n ≤ 1000) : Calls Try.prog 53 #[.slice A n ca] w fun e w' => ∃ B c, e = .returned (.slice B n c) ∧ OwI w' w.heap.size (.slice B n c) (cI (anewN l)) ∧ Kp No w w' := by
  have HR := Lib.hid hR
  have HL := Lib.hid hR.1
  have HAL := Lib.hid (show (anewN l).length = n by unfold anewN; rw [List.length_map]; exact hR.1)
  clear hR
  go_enter Try.func53, Try.ntmps53
  go_wp2_with fail
  go_loopw [3, 4] (fun v i wr => ∃ (j : Nat) (A1 : Option Addr) (c1 : Nat), j ≤ n ∧ i = .int .i64 (j : Nat) ∧ v = .slice A1 j c1 ∧ OwI wr w.heap.size (.slice A1 j c1) (cI ((anewN l).take j)) ∧ Kp No w wr) (fun _ i _ => n - (intOf i).toNat)
  case atStart => exact ⟨0, none, 0, by omega, rfl, rfl, World.ownsRow_nil _ _ _ _, Kp.refl _ _⟩
  case round =>
    obtain ⟨w1, rfl⟩ : ∃ w1, w1 = wr := ⟨_, rfl⟩
    obtain ⟨j, A1, c1, hj, rfl, rfl, hown, hkp⟩ := hrel
    have HO := Lib.hid hown
    have HK := Lib.hid hkp
    clear hown hkp
    by_cases hlt : j < n
    · obtain ⟨xi, hxi⟩ : ∃ x, l[j]? = some x := ⟨_, List.getElem?_eq_getElem (by rw [HL.out]; exact hlt)⟩
      have HXI := Lib.hid hxi
      clear hxi
      go_wp2_with fail
      go_loopw [5, 6] (fun c i wr => ∃ k : Nat, k ≤ n ∧ i = .int .i64 (k : Nat) ∧ c = .int .i64 ((cntN l xi k : Nat) : Int) ∧ ∃ q, wr = w1.drewN q) (fun _ i _ => n - (intOf i).toNat)
      case atStart => exact ⟨0, by omega, rfl, rfl, 0, rfl⟩
      case round =>
        obtain ⟨w2, rfl⟩ : ∃ w2, w2 = wr := ⟨_, rfl⟩
        obtain ⟨k, hk, rfl, rfl, q1, hq1⟩ := hrel
        have HQ1 := Lib.hid hq1
        have k2 : Kp No w w2 := HK.out.tr (by rw [hq1]; exact Kp.drewN No _ _)
        have HK2 := Lib.hid k2
        have hcl := cnt_le l xi k
        have HCS := Lib.hid (cnt_succ l xi k)
        have HCE := Lib.hid (show k = n → cntN l xi k = rnkN l xi from fun h => by rw [h, ← HL.out]; rfl)
        clear hq1 k2
        generalize cntN l xi k = cn at *
        by_cases hlt2 : k < n
        · obtain ⟨xk, hxk⟩ : ∃ x, l[k]? = some x := ⟨_, List.getElem?_eq_getElem (by rw [HL.out]; exact hlt2)⟩
          have HXK := Lib.hid hxk
          clear hxk
          go_wp2_with fail
          go_loopw [7, 8] (fun f i wr => ∃ t : Nat, t ≤ k ∧ i = .int .i64 (t : Nat) ∧ f = .bool (frsT l k t) ∧ ∃ q, wr = w2.drewN q) (fun _ i _ => k - (intOf i).toNat)
          case atStart => exact ⟨0, by omega, rfl, rfl, 0, rfl⟩
          case round =>
            obtain ⟨t, ht, rfl, rfl, q2, hq2⟩ := hrel
            have HQ2 := Lib.hid hq2
            have k3 : Kp No w wr := HK2.out.tr (by rw [hq2]; exact Kp.drewN No _ _)
            have HK3 := Lib.hid k3
            have HFS := Lib.hid (frs_succ l k t)
            have HFK := Lib.hid (show t = k → frsB l k = frsT l k t from fun h => by rw [h]; rfl)
            clear hq2 k3
            generalize frsT l k t = FB at *
            by_cases hlt3 : t < k
            · obtain ⟨xt, hxt⟩ : ∃ x, l[t]? = some x := ⟨_, List.getElem?_eq_getElem (by rw [HL.out]; omega)⟩
              have e1 := getI hxt
              have e2 := getI HXK.out
              have HFS2 := Lib.hid (show frsT l k (t + 1) = (FB && decide (xt ≠ xk)) by rw [HFS.out, e1, e2])
              obtain ⟨b, o, rfl, hb, hc⟩ := (HR.out.no HK3.out).2 t xt hxt
              obtain ⟨b', o', f3, hb', hc'⟩ := (HR.out.no HK3.out).2 k xk HXK.out
              injection f3 with f3
              injection f3 with f3a f3b
              subst f3a f3b
              clear hxt e1 e2 HFS HFK
              cases FB
              · go_wp2_with fail
                go_quiet (fail)
                go_wp2_with fail
                go_roundw
                case rel => exact ⟨t + 1, by omega, by go_num, by rw [HFS2.out]; rfl, q2 + nq, by rw [HQ2.out, World.drewN_drewN]⟩
                case measure => simp [intOf]; omega
              · by_cases he : xt = xk
                · have d1 : (xt != xk) = false := by simp [he]
                  have HFF := Lib.hid (show decide (xt ≠ xk) = false by simp [he])
                  clear he
                  go_wp2_with fail
                  go_quiet (fail)
                  go_wp2_with fail
                  go_roundw
                  case rel => exact ⟨t + 1, by omega, by go_num, by rw [HFS2.out, HFF.out]; rfl, q2 + nq, by rw [HQ2.out, World.drewN_drewN]⟩
                  case measure => simp [intOf]; omega
                · have d1 : (xt != xk) = true := by simp [he]
                  have HFF := Lib.hid (show decide (xt ≠ xk) = true by simp [he])
                  clear he
                  go_wp2_with fail
                  go_quiet (fail)
                  go_wp2_with fail
                  go_roundw
                  case rel => exact ⟨t + 1, by omega, by go_num, by rw [HFS2.out, HFF.out]; rfl, q2 + nq, by rw [HQ2.out, World.drewN_drewN]⟩
                  case measure => simp [intOf]; omega
            · have htk : t = k := by omega
              have HFB := Lib.hid (HFK.out htk)
              have e2 := getI HXK.out
              have HC2 := Lib.hid (show cntN l xi (k + 1) = cn + if decide (xk < xi) && FB then 1 else 0 by rw [HCS.out, e2, HFB.out])
              obtain ⟨b, o, rfl, hb, hc⟩ := (HR.out.no HK3.out).2 j xi HXI.out
              obtain ⟨b', o', f3, hb', hc'⟩ := (HR.out.no HK3.out).2 k xk HXK.out
              injection f3 with f3
              injection f3 with f3a f3b
              subst f3a f3b
              clear e2 HFS HFK HFB htk HCS
              by_cases hx : xk < xi
              · cases FB
                · have HC3 := Lib.hid (show cntN l xi (k + 1) = cn by rw [HC2.out]; simp)
                  go_wp2_with fail
                  go_quiet (fail)
                  go_wp2_with fail
                  go_roundw
                  case rel => exact ⟨k + 1, by omega, by go_num, by rw [HC3.out], q1 + (q2 + nq), by rw [HQ2.out, HQ1.out, World.drewN_drewN, World.drewN_drewN]⟩
                  case measure => simp [intOf]; omega
                · have HC3 := Lib.hid (show cntN l xi (k + 1) = cn + 1 by rw [HC2.out]; simp [hx])
                  go_wp2_with fail
                  go_quiet (fail)
                  go_wp2_with fail
                  go_roundw
                  case rel => exact ⟨k + 1, by omega, by go_num, by rw [HC3.out]; go_num, q1 + (q2 + nq), by rw [HQ2.out, HQ1.out, World.drewN_drewN, World.drewN_drewN]⟩
                  case measure => simp [intOf]; omega
              · have HC3 := Lib.hid (show cntN l xi (k + 1) = cn by rw [HC2.out]; simp [hx])
                have d1 : decide (xk < xi) = false := decide_eq_false hx
                go_wp2_with fail
                go_quiet (fail)
                go_wp2_with fail
                go_roundw
                case rel => exact ⟨k + 1, by omega, by go_num, by rw [HC3.out], q1 + (q2 + nq), by rw [HQ2.out, HQ1.out, World.drewN_drewN, World.drewN_drewN]⟩
                case measure => simp [intOf]; omega
        · obtain rfl : n = k := by omega
          have HCR := Lib.hid (HCE.out rfl)
          have HSN := Lib.hid (anew_snoc HXI.out)
          have HLJ := Lib.hid (show (cI ((anewN l).take j)).length = j by rw [cI_len, List.length_take, HAL.out]; omega)
          have HO2 := Lib.hid (own_kp HO.out (show Kp No w1 w2 by rw [HQ1.out]; exact Kp.drewN No _ _) (fun _ _ h => h))
          clear HCS HCE
          go_wp2_with (at_builtin; refine stop_in ?_)
          refine stop_out ?_
          refine push_int rfl _ _ rfl w.heap.size A1 j c1 (cI ((anewN l).take j)) (cn : Int) rfl rfl rfl HLJ.out HO2.out (by omega) HK2.out (Nat.le_refl _) HK2.out.size ?_
          intro g6 c6 w6 hown' hk6 _
          have HO6 := Lib.hid hown'
          have HK6 := Lib.hid hk6
          clear hown' hk6
          go_wp2_with fail
          go_roundw
          case rel => exact ⟨j + 1, _, c6, by omega, by go_num, rfl, by rw [HSN.out, ← HCR.out]; exact HO6.out, HK6.out⟩
          case measure => simp [intOf]; omega
    · obtain rfl : n = j := by omega
      have HAN := Lib.hid (show (anewN l).take n = anewN l from List.take_of_length_le (by rw [HAL.out]; exact Nat.le_refl _))
      go_wp2_with fail
      go_ret
      exact ⟨A1, c1, rfl, by rw [← HAN.out]; exact HO.out, HK.out⟩
end Go.Proofs.Ytakgcnjpmpcekaa
