/- Chapter 24: the reference's order, stands, Order. Printed by gen_orb.py. -/
import Derived.Test.YtakgcnjpmpcekaaXOrA
import Derived.Test.YtakgcnjpmpcekaaXSpsM
namespace Go.Proofs.Ytakgcnjpmpcekaa
open Go.RowKit Go.Kq

def cI (S : List Nat) : List Int := S.map fun i : Nat => (i : Int)
theorem cI_len (S : List Nat) : (cI S).length = S.length := List.length_map _
theorem cI_snoc (S : List Nat) (k : Nat) : cI (S ++ [k]) = cI S ++ [(k : Int)] := by simp [cI]
theorem own_one (w : World) (y : Int) : OwI (w.alloc (.cells #[.int .i64 y] 3)) w.heap.size (.slice (some ⟨w.heap.size, 0, none⟩) 1 1) [y] :=
  own_made (e := 3) (n := 1) (s := 1) (xs := [Value.int .i64 y]) w rfl (Nat.le_refl _) (by unfold maxLen; omega)
theorem own_rdi {w : World} {base : Nat} {A : Option Addr} {n c : Nat} {zs : List Int} (h : OwI w base (.slice A n c) zs) (hn : zs.length = n) : RdI .i64 w A n zs := by
  subst hn
  exact RdI.of_own h
theorem own_nilc {w : World} {base : Nat} {A : Option Addr} {n c : Nat} {zs : List Int} (h : OwI w base (.slice A n c) zs) : A = none → n = 0 ∧ c = 0 := fun e => by
  subst e
  rcases h.2 with ⟨hv, _⟩ | ⟨g, _, _, hv, _⟩
  · cases hv; exact ⟨rfl, rfl⟩
  · cases hv
def refL (k : Int) (i : Nat) : List Nat := (List.range i).foldl (refN k) []
theorem refL_succ (k : Int) (i : Nat) : refL k (i + 1) = refN k (refL k i) i := by
  unfold refL
  rw [List.range_succ, List.foldl_append]
  rfl
theorem refL_len (k : Int) : ∀ i, (refL k i).length = i
  | 0 => rfl
  | i + 1 => by
    rw [refL_succ]
    unfold refN
    have := refL_len k i
    split <;> simp [this]
theorem evs_len2 (j : Nat) : (evs (2 * j)).length = j := by
  induction j with
  | zero => rfl
  | succ j ih => rw [show 2 * (j + 1) = 2 * j + 1 + 1 by omega, evs_succ, evs_succ, if_neg (by omega), if_pos (by omega), List.length_append, ih]; rfl
/-- The odd ones from a number on, falling. -/
def dwN (n i : Nat) : List Nat := ((List.range' i (n - i)).filter fun x => x % 2 == 1).reverse
theorem dw_all (n : Nat) : dwN n n = [] := by
  unfold dwN
  rw [Nat.sub_self]
  rfl
theorem dw_zero (n : Nat) : evs n ++ dwN n 0 = ordN n 4 := by
  unfold dwN ordN ods
  rw [Nat.sub_zero, ← List.range_eq_range', if_neg (by omega), if_neg (by omega), if_pos rfl]
theorem dw_succ (n i : Nat) (h : i + 1 ≤ n) : dwN n i = if i % 2 = 1 then dwN n (i + 1) ++ [i] else dwN n (i + 1) := by
  unfold dwN
  rw [show n - i = n - (i + 1) + 1 by omega, filt_cons]
  by_cases hp : i % 2 = 1
  · simp [hp]
  · have : i % 2 = 0 := by omega
    simp [this]
set_option maxHeartbeats 4000000 in
theorem rorder_1 (n : Nat) (w : World) (hn : n ≤ 60) : Calls Try.prog 60 #[.int .i64 (n : Nat), .int .i64 1] w fun e w' => ∃ A c, e = .returned (.slice A n c) ∧ OwI w' w.heap.size (.slice A n c) (cI (ordN n 1)) ∧ Kp No w w' := by
  go_enter Try.func60, Try.ntmps60
  go_wp2_with fail
  go_loopw [5, 6] (fun v i wr => ∃ (k : Nat) (A : Option Addr) (c : Nat), k ≤ n ∧ i = .int .i64 k ∧ v = .slice A k c ∧ OwI wr w.heap.size (.slice A k c) (cI (refL 1 k)) ∧ Kp No w wr) (fun _ i _ => n - (intOf i).toNat)
  case atStart => exact ⟨0, none, 0, by omega, rfl, rfl, World.ownsRow_nil w _ _ _, Kp.refl _ _⟩
  case round =>
    obtain ⟨k, A, c, hk, rfl, rfl, hown, hkp⟩ := hrel
    have HO := Lib.hid hown
    have HK := Lib.hid hkp
    clear hown hkp
    by_cases hlt : k < n
    · have RS := Lib.hid (show refL 1 (k + 1) = refL 1 k ++ [k] by rw [refL_succ]; unfold refN; rw [if_neg (by omega)])
      go_wp2_with (at_builtin; refine stop_in ?_)
      refine stop_out ?_
      refine push_int rfl _ _ rfl w.heap.size A k c (cI (refL 1 k)) (k : Int) rfl rfl rfl (by rw [cI_len, refL_len]) HO.out (by omega) HK.out (Nat.le_refl _) HK.out.size ?_
      intro g' c' w' ho' hk' _
      have HO2 := Lib.hid (show OwI w' w.heap.size (.slice (some ⟨g', 0, none⟩) (k + 1) c') (cI (refL 1 (k + 1))) by
        have e : cI (refL 1 (k + 1)) = cI (refL 1 k) ++ [(k : Int)] := by rw [RS.out, cI_snoc]
        rw [e]
        exact ho')
      have HK2 := Lib.hid hk'
      clear ho' hk'
      go_wp2_with fail
      go_roundw
      case rel => exact ⟨k + 1, _, c', by omega, by go_num, rfl, HO2.out, HK2.out⟩
      case measure => simp [intOf]; omega
    · obtain rfl : k = n := by omega
      have HO2 := Lib.hid (show OwI wr w.heap.size (.slice A k c) (cI (ordN k 1)) by rw [← refN_at 1 (by omega)]; exact HO.out)
      clear HO
      go_wp2_with fail
      go_ret
      exact ⟨A, c, rfl, HO2.out, HK.out⟩
set_option maxHeartbeats 4000000 in
theorem rorder_2 (n : Nat) (w : World) (hn : n ≤ 60) : Calls Try.prog 60 #[.int .i64 (n : Nat), .int .i64 2] w fun e w' => ∃ A c, e = .returned (.slice A n c) ∧ OwI w' w.heap.size (.slice A n c) (cI (ordN n 2)) ∧ Kp No w w' := by
  go_enter Try.func60, Try.ntmps60
  go_wp2_with fail
  go_loopw [5, 6] (fun v i wr => ∃ (k : Nat) (A : Option Addr) (c : Nat), k ≤ n ∧ i = .int .i64 k ∧ v = .slice A k c ∧ OwI wr w.heap.size (.slice A k c) (cI (refL 2 k)) ∧ Kp No w wr) (fun _ i _ => n - (intOf i).toNat)
  case atStart => exact ⟨0, none, 0, by omega, rfl, rfl, World.ownsRow_nil w _ _ _, Kp.refl _ _⟩
  case round =>
    obtain ⟨k, A, c, hk, rfl, rfl, hown, hkp⟩ := hrel
    have HO := Lib.hid hown
    have HK := Lib.hid hkp
    clear hown hkp
    by_cases hlt : k < n
    · have RS := Lib.hid (show refL 2 (k + 1) = k :: refL 2 k by rw [refL_succ]; unfold refN; rw [if_pos (by omega)])
      go_wp2_with (at_builtin; refine stop_in ?_)
      refine stop_out ?_
      refine push_all rfl _ _ rfl wr.heap.size (some ⟨wr.heap.size, 0, none⟩) A 1 1 k c [(k : Int)] (cI (refL 2 k)) rfl rfl rfl (by rw [cI_len, refL_len]) (own_one wr k) (own_nilc HO.out) ((own_rdi HO.out (by rw [cI_len, refL_len])).no (Kp.alloc _ _ _)) (by omega) (by omega) (w0 := w) (HK.out.tr (Kp.alloc _ _ _)) HK.out.size (Kp.alloc No _ _).size ?_
      intro A' c' w' ho' hk'
      have HO2 := Lib.hid (show OwI w' w.heap.size (.slice A' (k + 1) c') (cI (refL 2 (k + 1))) by
        have e : cI (refL 2 (k + 1)) = [(k : Int)] ++ cI (refL 2 k) := by rw [RS.out]; rfl
        rw [e, show k + 1 = 1 + k by omega]
        exact own_mono ho' HK.out.size)
      have HK2 := Lib.hid hk'
      clear ho' hk'
      rw [show 1 + k = k + 1 by omega]
      go_wp2_with fail
      go_roundw
      case rel => exact ⟨k + 1, A', c', by omega, by go_num, rfl, HO2.out, HK2.out⟩
      case measure => simp [intOf]; omega
    · obtain rfl : k = n := by omega
      have HO2 := Lib.hid (show OwI wr w.heap.size (.slice A k c) (cI (ordN k 2)) by rw [← refN_at 2 (by omega)]; exact HO.out)
      clear HO
      go_wp2_with fail
      go_ret
      exact ⟨A, c, rfl, HO2.out, HK.out⟩
set_option maxHeartbeats 4000000 in
theorem rorder_3 (n : Nat) (w : World) (hn : n ≤ 60) : Calls Try.prog 60 #[.int .i64 (n : Nat), .int .i64 3] w fun e w' => ∃ A c, e = .returned (.slice A n c) ∧ OwI w' w.heap.size (.slice A n c) (cI (ordN n 3)) ∧ Kp No w w' := by
  go_enter Try.func60, Try.ntmps60
  go_wp2_with fail
  go_loopw [5, 6] (fun v i wr => ∃ (k : Nat) (A : Option Addr) (c : Nat), k ≤ n ∧ i = .int .i64 k ∧ v = .slice A k c ∧ OwI wr w.heap.size (.slice A k c) (cI (refL 3 k)) ∧ Kp No w wr) (fun _ i _ => n - (intOf i).toNat)
  case atStart => exact ⟨0, none, 0, by omega, rfl, rfl, World.ownsRow_nil w _ _ _, Kp.refl _ _⟩
  case round =>
    obtain ⟨k, A, c, hk, rfl, rfl, hown, hkp⟩ := hrel
    have HO := Lib.hid hown
    have HK := Lib.hid hkp
    clear hown hkp
    by_cases hlt : k < n
    · by_cases hp : k % 2 = 1
      · have RS := Lib.hid (show refL 3 (k + 1) = k :: refL 3 k by rw [refL_succ]; unfold refN; rw [if_pos (by omega)])
        have hrem : (k : Int) % 2 = 1 := by omega
        clear hp
        go_wp2_with (at_builtin; refine stop_in ?_)
        refine stop_out ?_
        refine push_all rfl _ _ rfl wr.heap.size (some ⟨wr.heap.size, 0, none⟩) A 1 1 k c [(k : Int)] (cI (refL 3 k)) rfl rfl rfl (by rw [cI_len, refL_len]) (own_one wr k) (own_nilc HO.out) ((own_rdi HO.out (by rw [cI_len, refL_len])).no (Kp.alloc _ _ _)) (by omega) (by omega) (w0 := w) (HK.out.tr (Kp.alloc _ _ _)) HK.out.size (Kp.alloc No _ _).size ?_
        intro A' c' w' ho' hk'
        have HO2 := Lib.hid (show OwI w' w.heap.size (.slice A' (k + 1) c') (cI (refL 3 (k + 1))) by
          have e : cI (refL 3 (k + 1)) = [(k : Int)] ++ cI (refL 3 k) := by rw [RS.out]; rfl
          rw [e, show k + 1 = 1 + k by omega]
          exact own_mono ho' HK.out.size)
        have HK2 := Lib.hid hk'
        clear ho' hk'
        rw [show 1 + k = k + 1 by omega]
        go_wp2_with fail
        go_roundw
        case rel => exact ⟨k + 1, A', c', by omega, by go_num, rfl, HO2.out, HK2.out⟩
        case measure => simp [intOf]; omega
      · have RS := Lib.hid (show refL 3 (k + 1) = refL 3 k ++ [k] by rw [refL_succ]; unfold refN; rw [if_neg (by omega)])
        have hrem : (k : Int) % 2 = 0 := by omega
        clear hp
        go_wp2_with (at_builtin; refine stop_in ?_)
        refine stop_out ?_
        refine push_int rfl _ _ rfl w.heap.size A k c (cI (refL 3 k)) (k : Int) rfl rfl rfl (by rw [cI_len, refL_len]) HO.out (by omega) HK.out (Nat.le_refl _) HK.out.size ?_
        intro g' c' w' ho' hk' _
        have HO2 := Lib.hid (show OwI w' w.heap.size (.slice (some ⟨g', 0, none⟩) (k + 1) c') (cI (refL 3 (k + 1))) by
          have e : cI (refL 3 (k + 1)) = cI (refL 3 k) ++ [(k : Int)] := by rw [RS.out, cI_snoc]
          rw [e]
          exact ho')
        have HK2 := Lib.hid hk'
        clear ho' hk'
        go_wp2_with fail
        go_roundw
        case rel => exact ⟨k + 1, _, c', by omega, by go_num, rfl, HO2.out, HK2.out⟩
        case measure => simp [intOf]; omega
    · obtain rfl : k = n := by omega
      have HO2 := Lib.hid (show OwI wr w.heap.size (.slice A k c) (cI (ordN k 3)) by rw [← refN_at 3 (by omega)]; exact HO.out)
      clear HO
      go_wp2_with fail
      go_ret
      exact ⟨A, c, rfl, HO2.out, HK.out⟩
set_option maxHeartbeats 4000000 in
theorem rorder_4 (n : Nat) (w : World) (hn : n ≤ 60) : Calls Try.prog 60 #[.int .i64 (n : Nat), .int .i64 4] w fun e w' => ∃ A c, e = .returned (.slice A n c) ∧ OwI w' w.heap.size (.slice A n c) (cI (ordN n 4)) ∧ Kp No w w' := by
  go_enter Try.func60, Try.ntmps60
  go_wp2_with fail
  go_loopw [5, 6] (fun v i wr => ∃ (k : Nat) (A : Option Addr) (c : Nat), k ≤ n ∧ i = .int .i64 k ∧ v = .slice A k c ∧ OwI wr w.heap.size (.slice A k c) (cI (refL 4 k)) ∧ Kp No w wr) (fun _ i _ => n - (intOf i).toNat)
  case atStart => exact ⟨0, none, 0, by omega, rfl, rfl, World.ownsRow_nil w _ _ _, Kp.refl _ _⟩
  case round =>
    obtain ⟨k, A, c, hk, rfl, rfl, hown, hkp⟩ := hrel
    have HO := Lib.hid hown
    have HK := Lib.hid hkp
    clear hown hkp
    by_cases hlt : k < n
    · have RS := Lib.hid (show refL 4 (k + 1) = refL 4 k ++ [k] by rw [refL_succ]; unfold refN; rw [if_neg (by omega)])
      go_wp2_with (at_builtin; refine stop_in ?_)
      refine stop_out ?_
      refine push_int rfl _ _ rfl w.heap.size A k c (cI (refL 4 k)) (k : Int) rfl rfl rfl (by rw [cI_len, refL_len]) HO.out (by omega) HK.out (Nat.le_refl _) HK.out.size ?_
      intro g' c' w' ho' hk' _
      have HO2 := Lib.hid (show OwI w' w.heap.size (.slice (some ⟨g', 0, none⟩) (k + 1) c') (cI (refL 4 (k + 1))) by
        have e : cI (refL 4 (k + 1)) = cI (refL 4 k) ++ [(k : Int)] := by rw [RS.out, cI_snoc]
        rw [e]
        exact ho')
      have HK2 := Lib.hid hk'
      clear ho' hk'
      go_wp2_with fail
      go_roundw
      case rel => exact ⟨k + 1, _, c', by omega, by go_num, rfl, HO2.out, HK2.out⟩
      case measure => simp [intOf]; omega
    · obtain rfl : k = n := by omega
      clear HO
      go_wp2_with fail
      go_loopw [5, 7] (fun v i wr => ∃ (j : Nat) (A : Option Addr) (c : Nat), 2 * j ≤ k + 1 ∧ i = .int .i64 (2 * j : Nat) ∧ v = .slice A j c ∧ OwI wr w.heap.size (.slice A j c) (cI (evs (2 * j))) ∧ Kp No w wr) (fun _ i _ => k + 1 - (intOf i).toNat)
      case atStart => exact ⟨0, none, 0, by omega, rfl, rfl, World.ownsRow_nil wr _ _ _, HK.out⟩
      case round =>
        clear HK
        obtain ⟨j, A, c, hj, rfl, rfl, hown, hkp⟩ := hrel
        have HO := Lib.hid hown
        have HK := Lib.hid hkp
        clear hown hkp
        have hel := evs_len2 j
        obtain ⟨m, hm⟩ : ∃ m, m = 2 * j := ⟨_, rfl⟩
        rw [← hm] at hj hel HO ⊢
        by_cases hlt : m < k
        · have RS := Lib.hid (show cI (evs (2 * (j + 1))) = cI (evs m) ++ [(m : Int)] by rw [show 2 * (j + 1) = m + 1 + 1 by omega, evs_succ, evs_succ, if_neg (by omega), if_pos (by omega), cI_snoc])
          have HM := Lib.hid hm
          have hj60 : j ≤ 60 := by omega
          clear hm
          go_wp2_with (at_builtin; refine stop_in ?_)
          refine stop_out ?_
          refine push_int rfl _ _ rfl w.heap.size A j c (cI (evs m)) (m : Int) rfl rfl rfl (by rw [cI_len, hel]) HO.out (by omega) HK.out (Nat.le_refl _) HK.out.size ?_
          intro g' c' w' ho' hk' _
          rw [← RS.out] at ho'
          have HO2 := Lib.hid ho'
          have HK2 := Lib.hid hk'
          have HE2 := Lib.hid (show ((m : Int) + 2) = ((2 * (j + 1) : Nat) : Int) by have := HM.out; omega)
          clear ho' hk'
          go_wp2_with fail
          go_roundw
          case rel => exact ⟨j + 1, _, c', by have := HM.out; omega, by rw [← HE2.out], rfl, HO2.out, HK2.out⟩
          case measure => simp [intOf]; omega
        · have HE := Lib.hid (show evs m = evs k by rcases Nat.lt_or_ge k m with h | h; (rw [show m = k + 1 by omega, evs_succ, if_neg (by omega)]); (rw [show m = k by omega]))
          have hjl : j ≤ 60 := by omega
          rw [HE.out] at HO hel
          clear HE hm
          go_wp2_with fail
          go_loopw [5, 8] (fun v i wr => ∃ (i0 : Nat) (A : Option Addr) (c q : Nat), i0 ≤ k ∧ q ≤ 60 + (k - i0) ∧ i = .int .i64 ((i0 : Int) - 1) ∧ v = .slice A q c ∧ q = (evs k ++ dwN k i0).length ∧ OwI wr w.heap.size (.slice A q c) (cI (evs k ++ dwN k i0)) ∧ Kp No w wr) (fun _ i _ => ((intOf i) + 1).toNat)
          case atStart => exact ⟨k, A, c, j, by omega, by omega, rfl, rfl, by rw [dw_all, List.append_nil, hel], by rw [dw_all, List.append_nil]; exact HO.out, HK.out⟩
          case round =>
            clear HO HK hel hjl hlt hj
            obtain ⟨i0, A, c, q, hi0, hq, rfl, rfl, hql, hown, hkp⟩ := hrel
            have HO := Lib.hid hown
            have HK := Lib.hid hkp
            have HQ := Lib.hid hql
            clear hown hkp hql
            by_cases hz : i0 = 0
            · subst hz
              have HO2 := Lib.hid (show OwI wr w.heap.size (.slice A k c) (cI (ordN k 4)) by
                have e := dw_zero k
                have h := HO.out
                have h2 := HQ.out
                rw [e] at h h2
                rw [ordN_len] at h2
                rw [h2] at h
                exact h)
              have HQ2 := Lib.hid (show q = k by rw [HQ.out, dw_zero, ordN_len])
              clear HO HQ
              go_wp2_with fail
              go_ret
              exact ⟨A, c, by rw [HQ2.out]; rfl, HO2.out, HK.out⟩
            · obtain ⟨i1, rfl⟩ : ∃ i1, i0 = i1 + 1 := ⟨i0 - 1, by omega⟩
              clear hz
              have hi1 : (((i1 + 1 : Nat) : Int) - 1) = (i1 : Int) := by omega
              rw [hi1]
              have DS := Lib.hid (dw_succ k i1 hi0)
              by_cases hp : i1 % 2 = 1
              · have hrem : (i1 : Int) % 2 = 1 := by omega
                have RS := Lib.hid (show cI (evs k ++ dwN k i1) = cI (evs k ++ dwN k (i1 + 1)) ++ [(i1 : Int)] by rw [DS.out, if_pos hp, ← List.append_assoc, cI_snoc])
                have HQ2 := Lib.hid (show q + 1 = (evs k ++ dwN k i1).length by rw [HQ.out, DS.out, if_pos hp]; simp only [List.length_append, List.length_cons, List.length_nil]; omega)
                clear hp hi1 DS
                go_wp2_with (at_builtin; refine stop_in ?_)
                refine stop_out ?_
                refine push_int rfl _ _ rfl w.heap.size A q c (cI (evs k ++ dwN k (i1 + 1))) (i1 : Int) rfl rfl rfl (by rw [cI_len, HQ.out]) HO.out (by omega) HK.out (Nat.le_refl _) HK.out.size ?_
                intro g' c' w' ho' hk' _
                rw [← RS.out] at ho'
                have HO2 := Lib.hid ho'
                have HK2 := Lib.hid hk'
                clear ho' hk'
                go_wp2_with fail
                go_roundw
                case rel => exact ⟨i1, _, c', q + 1, by omega, by omega, rfl, rfl, HQ2.out, HO2.out, HK2.out⟩
                case measure => simp [intOf] <;> omega
              · have hrem : (i1 : Int) % 2 = 0 := by omega
                have RS := Lib.hid (show evs k ++ dwN k i1 = evs k ++ dwN k (i1 + 1) by rw [DS.out, if_neg hp])
                clear hp hi1 DS
                go_wp2_with fail
                go_roundw
                case rel => exact ⟨i1, A, c, q, by omega, by omega, rfl, rfl, by rw [RS.out]; exact HQ.out, by rw [RS.out]; exact HO.out, HK.out⟩
                case measure => simp [intOf] <;> omega
theorem rorder_any (n : Nat) (k : Int) (w : World) (hn : n ≤ 60) (hk : 1 ≤ k ∧ k ≤ 4) : Calls Try.prog 60 #[.int .i64 (n : Nat), .int .i64 k] w fun e w' => ∃ A c, e = .returned (.slice A n c) ∧ OwI w' w.heap.size (.slice A n c) (cI (ordN n k)) ∧ Kp No w w' := by
  obtain rfl | rfl | rfl | rfl : k = 1 ∨ k = 2 ∨ k = 3 ∨ k = 4 := by omega
  · exact rorder_1 n w hn
  · exact rorder_2 n w hn
  · exact rorder_3 n w hn
  · exact rorder_4 n w hn
theorem rev_take {α : Type} (l : List α) (i : Nat) (x : α) (h : l[i]? = some x) : (l.drop i).reverse = (l.drop (i + 1)).reverse ++ [x] := by
  have hi := (List.getElem?_eq_some_iff.1 h).1
  have hx := (List.getElem?_eq_some_iff.1 h).2
  rw [List.drop_eq_getElem_cons hi, List.reverse_cons, hx]
set_option maxHeartbeats 4000000 in
theorem turned_any (A : Option Addr) (n ca : Nat) (l : List Int) (w : World) (hR : RdI .i64 w A n l) (hn : n ≤ 1000) : Calls Try.prog 54 #[.slice A n ca] w fun e w' => ∃ B c, e = .returned (.slice B n c) ∧ OwI w' w.heap.size (.slice B n c) l.reverse ∧ Kp No w w' := by
  have hl := hR.1
  have HR := Lib.hid hR
  have HL := Lib.hid hl
  clear hR hl
  go_enter Try.func54, Try.ntmps54
  go_wp2_with fail
  go_loopw [3, 4] (fun v i wr => ∃ (i0 : Nat) (B : Option Addr) (c : Nat), i0 ≤ n ∧ i = .int .i64 ((i0 : Int) - 1) ∧ v = .slice B (n - i0) c ∧ OwI wr w.heap.size (.slice B (n - i0) c) (l.drop i0).reverse ∧ Kp No w wr) (fun _ i _ => ((intOf i) + 1).toNat)
  case atStart => exact ⟨n, none, 0, by omega, rfl, by rw [Nat.sub_self], by rw [Nat.sub_self, List.drop_eq_nil_of_le (by rw [HL.out]; exact Nat.le_refl _)]; exact World.ownsRow_nil w _ _ _, Kp.refl _ _⟩
  case round =>
    obtain ⟨i0, B, c, hi0, rfl, rfl, hown, hkp⟩ := hrel
    have HO := Lib.hid hown
    have HK := Lib.hid hkp
    clear hown hkp
    by_cases hz : i0 = 0
    · subst hz
      have HO2 := Lib.hid (show OwI wr w.heap.size (.slice B n c) l.reverse from HO.out)
      clear HO
      go_wp2_with fail
      go_ret
      exact ⟨B, c, rfl, HO2.out, HK.out⟩
    · obtain ⟨i1, rfl⟩ : ∃ i1, i0 = i1 + 1 := ⟨i0 - 1, by omega⟩
      clear hz
      obtain ⟨x, hx⟩ : ∃ x, l[i1]? = some x := ⟨_, List.getElem?_eq_getElem (by rw [HL.out]; omega)⟩
      obtain ⟨b, o, rfl, hb, hc⟩ := (HR.out.no HK.out).2 i1 x hx
      have RS := Lib.hid (rev_take l i1 x hx)
      have hi1 : (((i1 + 1 : Nat) : Int) - 1) = (i1 : Int) := by omega
      rw [hi1]
      obtain ⟨q, hq⟩ : ∃ q, q = n - (i1 + 1) := ⟨_, rfl⟩
      have HQ := Lib.hid hq
      rw [← hq] at HO ⊢
      have hqn : q ≤ 1000 := by omega
      have HQL := Lib.hid (show (l.drop (i1 + 1)).reverse.length = q by rw [List.length_reverse, List.length_drop, HL.out, HQ.out])
      clear hq hi1 hx
      go_wp2_with (at_builtin; refine stop_in ?_)
      refine stop_out ?_
      refine push_int rfl _ _ rfl w.heap.size B q c (l.drop (i1 + 1)).reverse x rfl rfl rfl HQL.out HO.out (by omega) HK.out (Nat.le_refl _) HK.out.size ?_
      intro g' c' w' ho' hk' _
      rw [← RS.out] at ho'
      have HO2 := Lib.hid ho'
      have HK2 := Lib.hid hk'
      have HQ2 := Lib.hid (show q + 1 = n - i1 by have := HQ.out; omega)
      clear ho' hk'
      go_wp2_with fail
      go_roundw
      case rel => exact ⟨i1, _, c', by omega, rfl, by rw [HQ2.out], by rw [← HQ2.out]; exact HO2.out, HK2.out⟩
      case measure => simp [intOf] <;> omega
set_option maxHeartbeats 4000000 in
theorem stands_any (n : Nat) (k : Int) (right : Bool) (w : World) (hn : n ≤ 60) (hk : 1 ≤ k ∧ k ≤ 4) : Calls Try.prog 32 #[.int .i64 (n : Nat), .int .i64 k, .bool right] w fun e w' => ∃ A c, e = .returned (.slice A n c) ∧ OwI w' w.heap.size (.slice A n c) (cI (staN n k right)) ∧ Kp No w w' := by
  have OR := Lib.hid (fun w0 => rorder_any n k w0 hn hk)
  by_cases ht : right = true ∧ (k = 3 ∨ k = 4)
  · obtain ⟨rfl, h⟩ := ht
    have HS := Lib.hid (show (cI (ordN n k)).reverse = cI (staN n k true) by
      have : staN n k true = (ordN n k).reverse := by unfold staN; rcases h with rfl | rfl <;> rfl
      rw [this]
      unfold cI
      rw [List.map_reverse])
    rcases h with rfl | rfl
    all_goals
      go_enter Try.func32, Try.ntmps32
      go_wp2_with fail
      with_reducible refine (OR.out _).mono ?_
      rintro e w1 ⟨A, c, rfl, ho, hk1⟩
      have RI := Lib.hid (own_rdi ho (by rw [cI_len, ordN_len]))
      have HK1 := Lib.hid hk1
      clear ho hk1
      go_wp2_with fail
      with_reducible refine (turned_any A n c _ w1 RI.out (by omega)).mono ?_
      rintro e w2 ⟨B, c2, rfl, ho, hk2⟩
      rw [HS.out] at ho
      have HO := Lib.hid (own_mono ho HK1.out.size)
      have HK2 := Lib.hid (HK1.out.tr hk2)
      clear ho hk2
      go_wp2_with fail
      go_ret
      exact ⟨B, c2, rfl, HO.out, HK2.out⟩
  · have HS := Lib.hid (show staN n k right = ordN n k by
      unfold staN
      rw [if_neg]
      intro h
      simp only [Bool.and_eq_true, Bool.or_eq_true, decide_eq_true_eq] at h
      exact ht h)
    rw [HS.out]
    obtain ⟨hk1, hk4⟩ := hk
    cases right
    · clear ht
      go_enter Try.func32, Try.ntmps32
      go_wp2_with fail
      with_reducible refine (OR.out _).mono ?_
      rintro e w1 ⟨A, c, rfl, ho, hk1⟩
      have HO := Lib.hid ho
      clear ho
      go_wp2_with fail
      go_ret
      exact ⟨A, c, rfl, HO.out, hk1⟩
    · have hk2 : k = 1 ∨ k = 2 := by
        rcases Int.lt_or_le k 3 with h | h
        · omega
        · exact absurd ⟨rfl, by omega⟩ ht
      clear ht hk1 hk4
      rcases hk2 with rfl | rfl
      all_goals
        go_enter Try.func32, Try.ntmps32
        go_wp2_with fail
        with_reducible refine (OR.out _).mono ?_
        rintro e w1 ⟨A, c, rfl, ho, hk1⟩
        have HO := Lib.hid ho
        clear ho
        go_wp2_with fail
        go_ret
        exact ⟨A, c, rfl, HO.out, hk1⟩
theorem rOrder_bad (n k : Int) (right : Bool) (w : World) (h : ordB n k = true) : Calls Try.prog 9 #[.int .i64 n, .int .i64 k, .bool right] w fun e w' => e = .returned (.tuple #[.slice none 0 0, .int .i64 2]) ∧ w' = w := by
  unfold ordB at h
  simp only [Bool.or_eq_true, decide_eq_true_eq] at h
  by_cases h1 : n < 0
  · clear h
    go_enter Try.func9, Try.ntmps9
    go_wp2
    go_ret2
    exact ⟨rfl, rfl⟩
  · by_cases h2 : 60 < n
    · clear h
      go_enter Try.func9, Try.ntmps9
      go_wp2
      go_ret2
      exact ⟨rfl, rfl⟩
    · by_cases h3 : k < 1
      · clear h
        go_enter Try.func9, Try.ntmps9
        go_wp2
        go_ret2
        exact ⟨rfl, rfl⟩
      · have h4 : 4 < k := by omega
        clear h
        go_enter Try.func9, Try.ntmps9
        go_wp2
        go_ret2
        exact ⟨rfl, rfl⟩
theorem rOrder_ok (n : Nat) (k : Int) (right : Bool) (w : World) (hn : n ≤ 60) (hk : 1 ≤ k ∧ k ≤ 4) : Calls Try.prog 9 #[.int .i64 (n : Nat), .int .i64 k, .bool right] w fun e w' => ∃ A c, e = .returned (.tuple #[.slice A n c, .int .i64 0]) ∧ OwI w' w.heap.size (.slice A n c) (cI (staN n k right)) ∧ Kp No w w' := by
  have h1 := hk.1
  have h2 := hk.2
  have OR := Lib.hid (fun w0 => stands_any n k right w0 hn hk)
  clear hk
  go_enter Try.func9, Try.ntmps9
  go_wp2_with fail
  with_reducible refine (OR.out _).mono ?_
  rintro e w1 ⟨A, c, rfl, ho, hk⟩
  have HO := Lib.hid ho
  clear ho
  go_wp2_with fail
  go_ret2
  exact ⟨A, c, rfl, HO.out, hk⟩
end Go.Proofs.Ytakgcnjpmpcekaa
