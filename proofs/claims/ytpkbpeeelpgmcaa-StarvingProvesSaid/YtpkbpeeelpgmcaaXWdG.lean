/- Chapter 15: whether demands starve a system: the method starves, over the map of capacities. -/
import Derived.Test.YtpkbpeeelpgmcaaXWdF
import Derived.Test.YtpkbpeeelpgmcaaXLibArrKeyM
namespace Go.Proofs.Ytpkbpeeelpgmcaa
open Go.RowKit Go.Kq Go.Flow

theorem keyB : KeyOk Try.prog 88 (ekB (n := 16)) := arrKey_ok Try.underlying88 Try.underlying4 Try.sizeOf4 Try.isAgg4
theorem len16 {l : List Bool} (h : l.length = 16) : ∃ b0 b1 b2 b3 b4 b5 b6 b7 b8 b9 b10 b11 b12 b13 b14 b15, l = [b0, b1, b2, b3, b4, b5, b6, b7, b8, b9, b10, b11, b12, b13, b14, b15] := by
  match l, h with
  | [b0, b1, b2, b3, b4, b5, b6, b7, b8, b9, b10, b11, b12, b13, b14, b15], _ => exact ⟨b0, b1, b2, b3, b4, b5, b6, b7, b8, b9, b10, b11, b12, b13, b14, b15, rfl⟩
theorem nodup_len {α : Type} [DecidableEq α] : ∀ {a b : List α}, a.Nodup → (∀ x ∈ a, x ∈ b) → a.length ≤ b.length
  | [], _, _, _ => Nat.zero_le _
  | x :: a, b, hn, hs => by
    have hx : x ∈ b := hs x (by simp)
    have hn2 := List.nodup_cons.1 hn
    have h1 := nodup_len (a := a) (b := b.erase x) hn2.2 fun y hy => (List.mem_erase_of_ne (fun e => hn2.1 (by rw [← e]; exact hy))).2 (hs y (by simp [hy]))
    rw [List.length_erase_of_mem hx] at h1
    have := List.length_pos_of_mem hx
    simp only [List.length_cons]
    omega
def atB (l : List Bool) (i : Nat) : Bool := l.getD i false
/-- Are the demands of some set of chests more than its capacity? -/
def mapStv (E : List (Bls 16 × Int)) (ds : List Int) : Bool := E.any fun p => decide (p.2 < sumM (atB p.1.1) ds)
theorem sumM_take : ∀ (c : Nat → Bool) (ds : List Int) (k : Nat) (d : Int), ds[k]? = some d → sumM c (ds.take (k + 1)) = sumM c (ds.take k) + if c k then d else 0
  | _, [], _, _, h => by simp at h
  | c, x :: ds, 0, d, h => by
    simp at h
    subst h
    simp [sumM]
  | c, x :: ds, k + 1, d, h => by
    have ih := sumM_take (fun i => c (i + 1)) ds k d (by simpa using h)
    simp only [List.take_succ_cons, sumM, ih]
    omega
theorem sumM_bd : ∀ (c : Nat → Bool) (ds : List Int), (∀ d ∈ ds, 0 ≤ d ∧ d ≤ 1000000000000) → 0 ≤ sumM c ds ∧ sumM c ds ≤ 1000000000000 * ds.length
  | _, [], _ => by simp [sumM]
  | c, x :: ds, h => by
    have ih := sumM_bd (fun i => c (i + 1)) ds fun d hd => h d (by simp [hd])
    have hx := h x (by simp)
    simp only [sumM, List.length_cons]
    have : (1000000000000 : Int) * ((ds.length + 1 : Nat) : Int) = 1000000000000 * ds.length + 1000000000000 := by omega
    split <;> omega
set_option maxHeartbeats 4000000 in
set_option maxRecDepth 100000 in
theorem sstarves_any (B m : Nat) (E : List (Bls 16 × Int)) (A : Option Addr) (n dc : Nat) (ds : List Int) (w : World) (hB : w.cell? ⟨B, 4, none⟩ = some (.map (some m))) (hm : MapAt w m ekB (Value.int .i64) E) (hD : RdI .i64 w A n ds) (hn : n ≤ 16) (hd : ∀ d ∈ ds, 0 ≤ d ∧ d ≤ 1000000000000) :
    Calls Try.prog 28 #[.pointer (some ⟨B, 0, none⟩), .slice A n dc] w fun e w' => e = .returned (.bool (mapStv E ds)) ∧ Kp No w w' := by
  have hmb := hm.lt
  have hnd := hm.nodup
  have HD := Lib.hid hD
  have HL := Lib.hid hD.1
  have HBD := Lib.hid (fun (c : Nat → Bool) (k : Nat) => sumM_bd c (ds.take k) fun d h => hd d (List.mem_of_mem_take h))
  clear hD hd
  go_enter Try.func28, Try.ntmps28
  go_wp2_with (at_range; refine wpL_range _ rfl _ _ rfl Try.underlying82 hm rfl ?_; intro w1 hr1 hg1 hs1)
  go_frame
  have hk1 : Kp No w w1 := Kp.grown_none hg1
  obtain ⟨r, hr⟩ : ∃ r, r = w.heap.size := ⟨_, rfl⟩
  rw [← hr] at hr1 ⊢
  have HR := Lib.hid hr
  have HS1 := Lib.hid hs1
  clear hm hg1 hr hs1
  go_loopg [4] E.length (fun g s wr => ∃ S : List (Bls 16), S.length + g = E.length ∧ s = .bool false ∧ RangeAt wr m r ekB (Value.int .i64) E S ∧ (∀ k ∈ S, ∀ v, (k, v) ∈ E → ¬ v < sumM (atB k.1) ds) ∧ Kp No w wr)
  case atStart => exact ⟨[], by simp, rfl, hr1, fun k hk => (by cases hk), hk1⟩
  case round =>
    obtain ⟨S, hSg, rfl, hrg, hno, hkp⟩ := hrel
    have HN := Lib.hid hno
    have HKP := Lib.hid hkp
    have HRG := Lib.hid hrg
    clear hr1 hk1 hno
    go_wp2_with (at_next; refine stop_in ?_)
    refine stop_out ?_
    refine wpL_next _ rfl _ rfl keyB hrg rfl (fun hall => ?_) (fun k v w2 hmem hnS hrng hgr hsz hen => ?_)
    · have HA := Lib.hid hall
      clear hall hrg hkp
      go_wp2_with fail
      go_ret
      refine ⟨ret_bool ?_, HKP.out⟩
      symm
      unfold mapStv
      rw [List.any_eq_false]
      intro p hp
      simp only [decide_eq_true_eq]
      have := HN.out p.1 (HA.out p.1 (List.mem_map.2 ⟨p, hp, rfl⟩)) p.2 hp
      omega
    · obtain ⟨l, hl⟩ := k
      have HM := Lib.hid hmem
      have HNS := Lib.hid hnS
      have HNG := Lib.hid hrng
      have hk2 : Kp No w w2 := hkp.trans (Kp.grown (S := Kq.One r) hgr fun k hk _ => by cases hk; rfl) fun k hk h => by
        have h : k = r := h
        have := HR.out
        omega
      have HK2 := Lib.hid hk2
      have HLT := Lib.hid (show S.length < E.length by
        have h1 : ((⟨l, hl⟩ : Bls 16) :: S).length ≤ (keys E).length := by
          obtain ⟨_, _, _, _, _, _, _, _, _, _, _, h7, h8⟩ := hrng
          exact nodup_len h7 h8
        simp only [List.length_cons, keys, List.length_map] at h1
        omega)
      clear hmem hnS hrng hgr hrg hkp
      obtain ⟨b0, b1, b2, b3, b4, b5, b6, b7, b8, b9, b10, b11, b12, b13, b14, b15, rfl⟩ := len16 hl
      simp only [ekB, boolsV, List.map_cons, List.map_nil] at hen ⊢
      have hrz : r < w2.heap.size := HNG.out.lt
      go_wp2_with fail
      obtain ⟨L, hL⟩ : ∃ L, L = [b0, b1, b2, b3, b4, b5, b6, b7, b8, b9, b10, b11, b12, b13, b14, b15] := ⟨_, rfl⟩
      obtain ⟨w3, hw3⟩ : ∃ w3, w3 = w2.alloc (.cells #[.bool b0, .bool b1, .bool b2, .bool b3, .bool b4, .bool b5, .bool b6, .bool b7, .bool b8, .bool b9, .bool b10, .bool b11, .bool b12, .bool b13, .bool b14, .bool b15] 88) := ⟨_, rfl⟩
      obtain ⟨gb, hgb⟩ : ∃ gb, gb = wr.heap.size := ⟨_, rfl⟩
      have HB3 := Lib.hid (show ∀ i, i < 16 → w3.cell? ⟨gb, i, none⟩ = some (.bool (atB L i)) from fun i hi => by
        have h1 : w3.heap[gb]? = some (.cells #[.bool b0, .bool b1, .bool b2, .bool b3, .bool b4, .bool b5, .bool b6, .bool b7, .bool b8, .bool b9, .bool b10, .bool b11, .bool b12, .bool b13, .bool b14, .bool b15] 88 (0, 0)) := by
          rw [hw3, hgb, ← hsz]
          exact heap_alloc_new w2 _
        rw [cell_of_row _ _ _ _ _ _ h1]
        have h2 : #[Value.bool b0, .bool b1, .bool b2, .bool b3, .bool b4, .bool b5, .bool b6, .bool b7, .bool b8, .bool b9, .bool b10, .bool b11, .bool b12, .bool b13, .bool b14, .bool b15] = (L.map Value.bool).toArray := by rw [hL]; rfl
        rw [h2]
        have h3 : i < L.length := by rw [hL]; exact hi
        simp only [List.getElem?_toArray, List.getElem?_map, atB, List.getD_eq_getElem?_getD, List.getElem?_eq_getElem h3, Option.map_some, Option.getD_some])
      have HNG3 := Lib.hid (show RangeAt w3 m r ekB (Value.int .i64) E (⟨_, hl⟩ :: S) by rw [hw3]; exact HNG.out.alloc _)
      have HK3 := Lib.hid (show Kp No w w3 by rw [hw3]; exact HK2.out.tr (Kp.alloc _ _ _))
      rw [← hw3, ← hgb]
      clear hw3 hgb hsz hen hk2 hrz HRG HNG
      go_loop [7, 22] (fun s i => ∃ j : Nat, j ≤ n ∧ i = .int .i64 (j : Nat) ∧ s = .int .i64 (sumM (atB L) (ds.take j))) (fun _ i => n - (intOf i).toNat)
      case atStart => exact ⟨0, by omega, rfl, by simp [sumM]⟩
      case round =>
        obtain ⟨j, hj, rfl, rfl⟩ := hrel
        by_cases hlt : j < n
        · obtain ⟨d, hd⟩ : ∃ d, ds[j]? = some d := ⟨_, List.getElem?_eq_getElem (by rw [HL.out]; exact hlt)⟩
          obtain ⟨b, o, rfl, hb, hc⟩ := (HD.out.no HK3.out).2 j d hd
          have hbd := HBD.out (atB L) j
          have hbd2 := HBD.out (atB L) (j + 1)
          rw [sumM_take _ _ _ _ hd] at hbd2
          have HT := Lib.hid (sumM_take (atB L) ds j d hd)
          have hl1 : ((ds.take j).length : Int) ≤ 16 := by rw [List.length_take]; omega
          have hl2 : ((ds.take (j + 1)).length : Int) ≤ 16 := by rw [List.length_take]; omega
          have ha := HB3.out j (by omega)
          have hj16 : (j : Int) < 16 := by omega
          clear hd
          generalize sumM (atB L) (ds.take j) = T at *
          cases hbb : atB L j
          · rw [hbb] at ha hbd2
            have HB := Lib.hid hbb
            clear hbb
            go_wp2_with fail
            go_round
            case rel => exact ⟨j + 1, by omega, by go_num, by rw [HT.out, HB.out]; simp⟩
            case measure => simp [intOf]; omega
          · rw [hbb] at ha hbd2
            rw [if_pos rfl] at hbd2
            have HB := Lib.hid hbb
            clear hbb
            go_wp2_with fail
            go_round
            case rel => exact ⟨j + 1, by omega, by go_num, by rw [HT.out, HB.out]; simp⟩
            case measure => simp [intOf]; omega
        · obtain rfl : j = n := by omega
          have hte : ds.take j = ds := List.take_of_length_le (by rw [HL.out]; exact Nat.le_refl _)
          rw [hte]
          have HLL := Lib.hid hL
          clear hte
          by_cases hlt2 : v < sumM (atB L) ds
          · have HY := Lib.hid (show mapStv E ds = true from List.any_eq_true.2 ⟨_, HM.out, by show decide (v < sumM (atB [b0, b1, b2, b3, b4, b5, b6, b7, b8, b9, b10, b11, b12, b13, b14, b15]) ds) = true; rw [← hL]; simpa using hlt2⟩)
            clear hL
            generalize sumM (atB L) ds = T at *
            go_wp2_with fail
            go_ret
            exact ⟨ret_bool HY.out.symm, HK3.out⟩
          · have HN2 := Lib.hid hlt2
            clear hL
            generalize hT : sumM (atB L) ds = T at *
            have HTT := Lib.hid hT
            clear hT
            have hlt3 := HLT.out
            go_wp2_with fail
            go_roundg (gk - 1)
            case measure => omega
            case rel =>
              refine ⟨_ :: S, by simp only [List.length_cons]; omega, rfl, HNG3.out, fun k hk u hu => ?_, HK3.out⟩
              rcases List.mem_cons.1 hk with rfl | hk
              · have h1 := get1_mem hnd HM.out
                have h2 := get1_mem hnd hu
                rw [h1] at h2
                injection h2 with h2
                rw [← h2]
                show sumM (atB [b0, b1, b2, b3, b4, b5, b6, b7, b8, b9, b10, b11, b12, b13, b14, b15]) ds ≤ v
                have h3 := HN2.out
                rw [← HLL.out, HTT.out]
                omega
              · have := HN.out k hk u hu
                omega
end Go.Proofs.Ytpkbpeeelpgmcaa
