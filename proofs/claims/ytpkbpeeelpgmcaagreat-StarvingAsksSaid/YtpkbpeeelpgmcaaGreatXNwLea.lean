/- Chapter 14: the walk of the reference's least. -/
import Derived.Test.YtpkbpeeelpgmcaaGreatXNwLswM
namespace Go.Proofs.YtpkbpeeelpgmcaaGreat
open Go.RowKit Go.Kq Go.Flow

theorem out_setc (N : Net) (hN : N.Ok) (A B : Option Addr) (ca cb g cg : Nat) (h : Bool) (R : Nat → Bool) {base : Nat} (w : World) (hR : RdNet w A B N) (hV : w.ownsRow base 4 1 (.slice (some ⟨g, 0, none⟩) N.n cg) N.n ((rowOf N.n (mem R N.n)).map Value.bool)) :
    Calls Tryz.prog 76 #[.agg #[.int .i64 N.n, .slice A N.tr.length ca, .slice B N.ch.length cb], .bool h, .slice (some ⟨g, 0, none⟩) N.n cg] w fun e w' => e = .returned (.int .i64 (N.out h R)) ∧ Kp No w w' := by
  have := out_any N hN A B (some ⟨g, 0, none⟩) ca cb cg h (rowOf N.n (mem R N.n)) w hR (rd_own_bools hV)
  unfold netV at this
  rwa [out_row hN] at this
set_option maxHeartbeats 8000000 in
set_option maxRecDepth 100000 in
theorem least_nil (N : Net) (hN : N.Ok) (h8 : N.n ≤ 8) (A B : Option Addr) (ca cb : Nat) (hi : Bool) (R : Nat → Bool) (w : World) (hR : RdNet w A B N) (hRm : Min N.A1 (N.out hi) R) :
    Calls Tryz.prog 56 #[netV N A B ca cb, .bool hi, .slice none 0 0] w fun e w' => ∃ v, e = .returned v ∧ w'.ownsRow w.heap.size 3 1 v (mem R N.n).length ((mem R N.n).map natV) ∧ Kp No w w' := by
  obtain ⟨i0, hi0, hz0, hz1, hz2⟩ := info_parts infoI
  have ht1 := hN.t1
  have hc1 := hN.c1
  have hn1 := hN.n1
  have HN := Lib.hid hN
  have HR := Lib.hid hR
  have HM := Lib.hid hRm
  skip
  clear hN hR hRm
  obtain ⟨Q, hQ⟩ : ∃ Q : Int, Q = ((2 ^ N.n : Nat) : Int) := ⟨_, rfl⟩
  have h256 : (2 ^ N.n : Nat) ≤ 2 ^ 8 := Nat.pow_le_pow_right (by omega) h8
  have hQ0 : 0 < Q := by have := Nat.two_pow_pos N.n; omega
  have hQ1 : Q ≤ 256 := by omega
  have hpw : wrap64 ((2 : Int) ^ N.n) = Q := by
    have e : ((2 : Int) ^ N.n) = ((2 ^ N.n : Nat) : Int) := by simp
    rw [e, ← hQ]
    unfold wrap64
    omega
  have hneq : ∀ W : World, (binOp .neq 33 (.slice none 0 0) (.slice none 0 0)).run Tryz.prog W = .ok (.bool false) W := fun W => run_neq_slice_nil_any W 33 2 _ _ _ 0 0 Tryz.underlying33
  have heql : ∀ W : World, (binOp .eql 33 (.slice none 0 0) (.slice none 0 0)).run Tryz.prog W = .ok (.bool true) W := fun W => Lib.run_eql_slice_nil W 33 2 _ _ _ 0 0 Tryz.underlying33
  have HQ := Lib.hid hQ
  clear hQ h256
  unfold netV
  go_enter Tryz.func56, Tryz.ntmps56
  go_wp2_with fail
  have B0 := Lib.hid (heap_alloc_new w (.cells #[.int .i64 N.n, .slice A N.tr.length ca, .slice B N.ch.length cb] 25))
  have K0 := Lib.hid (Kp.alloc No w (.cells #[.int .i64 N.n, .slice A N.tr.length ca, .slice B N.ch.length cb] 25))
  go_loopw [7, 8, 9] (fun lv av bv wr => ∃ (low : Int) (all b : Nat), lv = .int .i64 low ∧ av = .int .i64 all ∧ bv = .int .i64 b ∧ b % 2 = 1 ∧ (b : Int) ≤ Q + 1 ∧ all < 1048576 ∧ -1 ≤ low ∧ LInv N.A1 (N.out hi) b low all ∧ Kp No (w.alloc (.cells #[.int .i64 N.n, .slice A N.tr.length ca, .slice B N.ch.length cb] 25)) wr) (fun _ _ b _ => (Q + 2 - intOf b).toNat)
  case atStart => exact ⟨-1, 0, 1, rfl, rfl, rfl, rfl, by omega, by omega, by omega, LInv.start, Kp.refl _ _⟩
  case round =>
    obtain ⟨low, all, b, rfl, rfl, rfl, hodd, hb, hall, hlow, hinv, hkp⟩ := hrel
    have HI := Lib.hid hinv
    have HODD := Lib.hid hodd
    have HK := Lib.hid hkp
    obtain ⟨x0, x1, x2⟩ := box3 (hkp.heap B0.out (fun h => h))
    have hbs := (Array.getElem?_eq_some_iff.1 (hkp.heap B0.out (fun h => h))).1
    clear hinv hodd hkp
    by_cases hlt : (b : Int) < Q
    · have HBP := Lib.hid (show b < 2 ^ N.n by have := HQ.out; omega)
      have HBN := Lib.hid (bitR_big (c := b) (n := N.n) HBP.out (Nat.le_refl _))
      have HB0 := Lib.hid (bitR_odd HODD.out)
      go_wp2_with fail
      refine (members_any N.n b _ (by omega) (by omega)).mono ?_
      rintro e w1 ⟨v1, rfl, hown, hk1⟩
      rw [tRow_mem] at hown
      obtain ⟨g, cg, rfl⟩ := own_pos hown (by omega)
      have K1 := Lib.hid (HK.out.tr hk1)
      have B1 := Lib.hid (K1.out.heap B0.out (fun h => h))
      have HIN := Lib.hid hown
      clear hown hk1 x0 x1 x2
      obtain ⟨x0, x1, x2⟩ := box3 B1.out
      have hb1 := (Array.getElem?_eq_some_iff.1 B1.out).1
      go_wp2_with fail
      refine (out_setc N HN.out A B ca cb g cg hi (bitR b) _ (HR.out.no (K0.out.tr K1.out)) HIN.out).mono ?_
      rintro e w2 ⟨rfl, hk2⟩
      have K2 := Lib.hid (K1.out.tr hk2)
      have B2 := Lib.hid (K2.out.heap B0.out (fun h => h))
      have HIN2 := Lib.hid (own_kp HIN.out hk2 (fun _ _ h => h))
      have ho0 := HN.out.out_ge hi (bitR b)
      have ho1 := HN.out.out_le hi (bitR b)
      have HWD := Lib.hid (show ∃ o, o = N.out hi (bitR b) from ⟨_, rfl⟩)
      obtain ⟨o, hoe⟩ := HWD.out
      rw [← hoe] at ho0 ho1 ⊢
      have HOE := Lib.hid hoe
      clear hoe HWD hk2 x0 x1 x2
      go_wp2_with fail
      obtain ⟨wo, rfl⟩ : ∃ wo : World, wo = wr := ⟨_, rfl⟩
      go_loopw [11, 12, 13] (fun wv cv i wr => ∃ (k : Nat) (x : Int), k ≤ N.ch.length ∧ i = .int .i64 k ∧ wv = .int .i64 x ∧ x = N.out hi (bitR b) ∧ 0 ≤ x ∧ x ≤ 80000000000000 ∧ cv = .bool (anyCh (bitR b) (N.ch.take k)) ∧ Kp No w2 wr) (fun _ _ i _ => N.ch.length - (intOf i).toNat)
      case atStart => exact ⟨0, o, by omega, rfl, rfl, by first | exact HOE.out | (rw [HOE.out]; simp [held]), by omega, by omega, rfl, Kp.refl _ _⟩
      case round =>
        obtain ⟨k, x, hk, rfl, rfl, hx, hx0, hx1, rfl, hkp⟩ := hrel
        have HX := Lib.hid hx
        have HKP := Lib.hid hkp
        obtain ⟨x0, x1, x2⟩ := box3 (hkp.heap B2.out (fun h => h))
        have hbs := (Array.getElem?_eq_some_iff.1 (hkp.heap B2.out (fun h => h))).1
        have HIN3 := Lib.hid (own_kp HIN2.out hkp (fun _ _ h => h))
        clear hx hkp
        by_cases hkl : (k : Int) < N.ch.length
        · obtain ⟨c, hc⟩ : ∃ c, N.ch[k]? = some c := ⟨_, List.getElem?_eq_getElem (by omega)⟩
          have hck := HN.out.ck c (List.mem_of_getElem? hc)
          obtain ⟨bB, oB, rfl, hbB, z0⟩ := (HR.out.no (K0.out.tr (K2.out.tr HKP.out))).chest hc
          have yg := own_cell HIN3.out (rowOf_at (bitR b) hck.2)
          have hcn : (c : Int) < N.n := by omega
          have HAC := Lib.hid (show anyCh (bitR b) (N.ch.take (k + 1)) = (anyCh (bitR b) (N.ch.take k) || bitR b c) by rw [take_snoc' hc, anyCh_snoc])
          clear hc
          cases hRc : bitR b c
          · rw [hRc] at yg
            go_wp2_with fail
            go_roundw
            case rel => exact ⟨k + 1, x, by omega, by go_num, rfl, by exact HX.out, hx0, hx1, by rw [HAC.out, hRc, Bool.or_false], HKP.out⟩
            case measure => simp [intOf]; omega
          · rw [hRc] at yg
            have HAT := Lib.hid (show (true : Bool) = anyCh (bitR b) (N.ch.take (k + 1)) by rw [HAC.out, hRc, Bool.or_true])
            go_wp2_with fail
            go_roundw
            case rel => exact ⟨k + 1, x, by omega, by go_num, rfl, by exact HX.out, by omega, by omega, by rw [← HAT.out], HKP.out⟩
            case measure => simp [intOf]; omega
        · obtain rfl : k = N.ch.length := by omega
          have HXE := Lib.hid (show x = N.out hi (bitR b) by exact HX.out)
          have K4 := Lib.hid (K2.out.tr HKP.out)
          have HANY := Lib.hid (show anyCh (bitR b) (N.ch.take N.ch.length) = anyCh (bitR b) N.ch by rw [List.take_length])
          rw [HANY.out]
          cases hany : anyCh (bitR b) N.ch
          case' true =>
            have HNA := Lib.hid (show ¬ N.A1 (bitR b) from fun h => by
              unfold anyCh at hany
              obtain ⟨c, hc, hcb⟩ := List.any_eq_true.1 hany
              rw [h.2 c hc] at hcb
              cases hcb)
            clear hany
            go_wp2_with fail
            go_roundw
            case rel => exact ⟨low, all, b + 2, rfl, rfl, by go_num, by have := HODD.out; omega, by omega, hall, hlow, HI.out.skip HODD.out HNA.out, K4.out⟩
            case measure => simp [intOf]; omega
          have HADM := Lib.hid (show N.A1 (bitR b) from ⟨⟨HB0.out, HBN.out⟩, fun c hc => by
            unfold anyCh at hany
            have := List.any_eq_false.1 hany c hc
            simpa using this⟩)
          clear hany
          have HX0 := Lib.hid (show 0 ≤ N.out hi (bitR b) by rw [← HXE.out]; exact hx0)
          by_cases hl0 : low < 0
          · have HN1 := Lib.hid (HI.out.less HODD.out HADM.out HX0.out (.inl hl0))
            rw [← HXE.out] at HN1
            go_wp2_with fail
            go_roundw
            case rel => exact ⟨x, b, b + 2, rfl, rfl, by go_num, by have := HODD.out; omega, by omega, by omega, by omega, HN1.out, K4.out⟩
            case measure => simp [intOf]; omega
          · by_cases hxl : x < low
            · have HN1 := Lib.hid (HI.out.less HODD.out HADM.out HX0.out (.inr (by rw [← HXE.out]; exact hxl)))
              rw [← HXE.out] at HN1
              go_wp2_with fail
              go_roundw
              case rel => exact ⟨x, b, b + 2, rfl, rfl, by go_num, by have := HODD.out; omega, by omega, by omega, by omega, HN1.out, K4.out⟩
              case measure => simp [intOf]; omega
            · by_cases hxe : x = low
              · have HN1 := Lib.hid (HI.out.same HODD.out HADM.out (by omega) (by rw [← HXE.out]; exact hxe))
                have hbe : (x == low) = true := by rw [beq_iff_eq]; exact hxe
                have hand : bits .and .i64 (all : Int) (b : Int) = ((all &&& b : Nat) : Int) := (bits_nat .i64 63 (by decide) wraps_i64 all b (by omega) (by omega)).1
                have hal : all &&& b ≤ b := Nat.and_le_right
                have hab : all &&& b < 1048576 := by omega
                have hlow0 : 0 ≤ low := by omega
                have hge : low ≤ x := by omega
                have HXL := Lib.hid hxe
                clear hxe hxl hl0 hal
                go_wp2_with fail
                clear hand
                go_roundw
                case rel => exact ⟨low, all &&& b, b + 2, rfl, rfl, by go_num, by have := HODD.out; omega, by omega, hab, hlow, HN1.out, K4.out⟩
                case measure => simp [intOf]; omega
              · have HN1 := Lib.hid (HI.out.more HODD.out (by omega) (by rw [← HXE.out]; omega))
                have hbe : (x == low) = false := by rw [beq_eq_false_iff_ne]; exact hxe
                clear hxe
                go_wp2_with fail
                go_roundw
                case rel => exact ⟨low, all, b + 2, rfl, rfl, by go_num, by have := HODD.out; omega, by omega, hall, hlow, HN1.out, K4.out⟩
                case measure => simp [intOf]; omega
    · have HFIN := Lib.hid (HI.out.fin (n := N.n) (by have := HQ.out; omega) HM.out (by omega) HM.out.1.1.1 (fun S S' he hz hS => ⟨⟨by rw [← he 0 (by omega)]; exact hS.1.1, hz _ (Nat.le_refl _)⟩, fun c hc => by rw [← he c (HN.out.ck c hc).2]; exact hS.2 c hc⟩) (fun S S' he => out_congr HN.out hi he))
      have K1 := Lib.hid (K0.out.tr HK.out)
      have B1 := Lib.hid (HK.out.heap B0.out (fun h => h))
      go_wp2_with fail
      clear hpw
      obtain ⟨wo, rfl⟩ : ∃ wo : World, wo = wr := ⟨_, rfl⟩
      go_loopw [14, 15] (fun ov i wr => ∃ k : Nat, k ≤ N.n ∧ i = .int .i64 k ∧ wr.ownsRow wo.heap.size 3 1 ov (mem R k).length ((mem R k).map natV) ∧ Kp No wo wr) (fun _ i _ => N.n - (intOf i).toNat)
      case atStart => exact ⟨0, by omega, rfl, ⟨by simp [mem], .inl ⟨rfl, by simp [mem]⟩⟩, Kp.refl _ _⟩
      case round =>
        clear x0 x1 x2
        obtain ⟨k, hk, rfl, hown, hkp⟩ := hrel
        obtain ⟨x0, x1, x2⟩ := box3 (hkp.heap B1.out (fun h => h))
        obtain ⟨av, cv, rfl, _, _, _⟩ := own_form hown
        have HO2 := Lib.hid hown
        have HKP := Lib.hid hkp
        have hml := mem_le R k
        clear hown hkp
        by_cases hkl : (k : Int) < N.n
        · have hbit := bit_is all k (by omega)
          have hbe := bit_eq all k
          have hRk := HFIN.out k (by omega)
          rw [hRk] at hbe
          have HMS := Lib.hid (mem_succ R k)
          clear hRk
          cases hRk : R k
          · rw [hRk] at hbe HMS
            rw [if_neg (by simp)] at HMS
            clear hRk
            go_wp2_with fail
            clear hbit hbe
            go_roundw
            case rel => exact ⟨k + 1, by omega, by go_num, by rw [HMS.out]; exact HO2.out, HKP.out⟩
            case measure => simp [intOf]; omega
          · rw [hRk] at hbe HMS
            rw [if_pos rfl] at HMS
            clear hRk
            go_wp2_with (at_builtin; refine stop_in ?_)
            refine stop_out ?_
            refine wpList_append_own_at _ rfl _ _ 23 rfl wo.heap.size 3 i0 (.int .i64 0) 1 8 Tryz.underlying23 hi0 hz0 hz1 hz2 rfl (by decide) (.slice av (mem R k).length cv) (mem R k).length ((mem R k).map natV) rfl (own_kp HO2.out (Kp.alloc No _ _) (fun _ _ h => h)) ⟨wr.heap.size, 0, none⟩ 1 1 [.int .i64 (k : Int)] rfl rfl (one_news wr 3 _) (by simp [Value.oneCell']) (by unfold maxLen; omega) (by omega) (by have := HKP.out.size; simp; omega) ?_
            intro v' w5 hown' hgrow hnil hat
            have O5 := Lib.hid (show w5.ownsRow wo.heap.size 3 1 v' (mem R (k + 1)).length ((mem R (k + 1)).map natV) by rw [HMS.out, List.length_append, List.map_append]; exact hown')
            have K5 := Lib.hid (HKP.out.trans ((Kp.alloc (fun k => wo.heap.size ≤ k) _ _).tr (Kp.grown hgrow fun k hk _ => (own_ge HO2.out hk).1)) fun k hk h => absurd h (by omega))
            clear hown' hgrow hnil hat hbit hbe
            go_wp2_with fail
            go_roundw
            case rel => exact ⟨k + 1, by omega, by go_num, O5.out, K5.out⟩
            case measure => simp [intOf]; omega
        · obtain rfl : k = N.n := by omega
          go_wp2_with fail
          refine bodyPost_ret (v := .slice av (mem R N.n).length cv) (by simp [results, Tryz.results56, go_sem]) rfl ⟨_, rfl, own_mono HO2.out K1.out.size, K1.out.tr HKP.out⟩
set_option maxHeartbeats 8000000 in
set_option maxRecDepth 100000 in
theorem least_dem (N : Net) (hN : N.Ok) (h8 : N.n ≤ 8) (A B : Option Addr) (ca cb dc : Nat) (aD : Addr) (ds : List Int) (hi : Bool) (R : Nat → Bool) (w : World) (hR : RdNet w A B N) (hD : RdI .i64 w (some aD) ds.length ds) (hl : ds.length = N.ch.length) (hd : ∀ d ∈ ds, dOk d) (hRm : Min N.A0 (N.wt hi ds) R) :
    Calls Tryz.prog 56 #[netV N A B ca cb, .bool hi, .slice (some aD) ds.length dc] w fun e w' => ∃ v, e = .returned v ∧ w'.ownsRow w.heap.size 3 1 v (mem R N.n).length ((mem R N.n).map natV) ∧ Kp No w w' := by
  obtain ⟨i0, hi0, hz0, hz1, hz2⟩ := info_parts infoI
  have ht1 := hN.t1
  have hc1 := hN.c1
  have hn1 := hN.n1
  have HN := Lib.hid hN
  have HR := Lib.hid hR
  have HM := Lib.hid hRm
  have HD := Lib.hid hD
  have HL := Lib.hid hl
  have HDO := Lib.hid hd
  clear hD hl hd
  clear hN hR hRm
  obtain ⟨Q, hQ⟩ : ∃ Q : Int, Q = ((2 ^ N.n : Nat) : Int) := ⟨_, rfl⟩
  have h256 : (2 ^ N.n : Nat) ≤ 2 ^ 8 := Nat.pow_le_pow_right (by omega) h8
  have hQ0 : 0 < Q := by have := Nat.two_pow_pos N.n; omega
  have hQ1 : Q ≤ 256 := by omega
  have hpw : wrap64 ((2 : Int) ^ N.n) = Q := by
    have e : ((2 : Int) ^ N.n) = ((2 ^ N.n : Nat) : Int) := by simp
    rw [e, ← hQ]
    unfold wrap64
    omega
  have hneq : ∀ W : World, (binOp .neq 33 (.slice (some aD) ds.length dc) (.slice none 0 0)).run Tryz.prog W = .ok (.bool true) W := fun W => run_neq_slice_nil_any W 33 2 _ _ _ 0 0 Tryz.underlying33
  have heql : ∀ W : World, (binOp .eql 33 (.slice (some aD) ds.length dc) (.slice none 0 0)).run Tryz.prog W = .ok (.bool false) W := fun W => Lib.run_eql_slice_nil W 33 2 _ _ _ 0 0 Tryz.underlying33
  have HQ := Lib.hid hQ
  clear hQ h256
  unfold netV
  go_enter Tryz.func56, Tryz.ntmps56
  go_wp2_with fail
  have B0 := Lib.hid (heap_alloc_new w (.cells #[.int .i64 N.n, .slice A N.tr.length ca, .slice B N.ch.length cb] 25))
  have K0 := Lib.hid (Kp.alloc No w (.cells #[.int .i64 N.n, .slice A N.tr.length ca, .slice B N.ch.length cb] 25))
  go_loopw [7, 8, 9] (fun lv av bv wr => ∃ (low : Int) (all b : Nat), lv = .int .i64 low ∧ av = .int .i64 all ∧ bv = .int .i64 b ∧ b % 2 = 1 ∧ (b : Int) ≤ Q + 1 ∧ all < 1048576 ∧ -1 ≤ low ∧ LInv N.A0 (N.wt hi ds) b low all ∧ Kp No (w.alloc (.cells #[.int .i64 N.n, .slice A N.tr.length ca, .slice B N.ch.length cb] 25)) wr) (fun _ _ b _ => (Q + 2 - intOf b).toNat)
  case atStart => exact ⟨-1, 0, 1, rfl, rfl, rfl, rfl, by omega, by omega, by omega, LInv.start, Kp.refl _ _⟩
  case round =>
    obtain ⟨low, all, b, rfl, rfl, rfl, hodd, hb, hall, hlow, hinv, hkp⟩ := hrel
    have HI := Lib.hid hinv
    have HODD := Lib.hid hodd
    have HK := Lib.hid hkp
    obtain ⟨x0, x1, x2⟩ := box3 (hkp.heap B0.out (fun h => h))
    have hbs := (Array.getElem?_eq_some_iff.1 (hkp.heap B0.out (fun h => h))).1
    clear hinv hodd hkp
    by_cases hlt : (b : Int) < Q
    · have HBP := Lib.hid (show b < 2 ^ N.n by have := HQ.out; omega)
      have HBN := Lib.hid (bitR_big (c := b) (n := N.n) HBP.out (Nat.le_refl _))
      have HB0 := Lib.hid (bitR_odd HODD.out)
      go_wp2_with fail
      refine (members_any N.n b _ (by omega) (by omega)).mono ?_
      rintro e w1 ⟨v1, rfl, hown, hk1⟩
      rw [tRow_mem] at hown
      obtain ⟨g, cg, rfl⟩ := own_pos hown (by omega)
      have K1 := Lib.hid (HK.out.tr hk1)
      have B1 := Lib.hid (K1.out.heap B0.out (fun h => h))
      have HIN := Lib.hid hown
      clear hown hk1 x0 x1 x2
      obtain ⟨x0, x1, x2⟩ := box3 B1.out
      have hb1 := (Array.getElem?_eq_some_iff.1 B1.out).1
      go_wp2_with fail
      refine (out_setc N HN.out A B ca cb g cg hi (bitR b) _ (HR.out.no (K0.out.tr K1.out)) HIN.out).mono ?_
      rintro e w2 ⟨rfl, hk2⟩
      have K2 := Lib.hid (K1.out.tr hk2)
      have B2 := Lib.hid (K2.out.heap B0.out (fun h => h))
      have HIN2 := Lib.hid (own_kp HIN.out hk2 (fun _ _ h => h))
      have ho0 := HN.out.out_ge hi (bitR b)
      have ho1 := HN.out.out_le hi (bitR b)
      have HWD := Lib.hid (show ∃ o, o = N.out hi (bitR b) from ⟨_, rfl⟩)
      obtain ⟨o, hoe⟩ := HWD.out
      rw [← hoe] at ho0 ho1 ⊢
      have HOE := Lib.hid hoe
      clear hoe HWD hk2 x0 x1 x2
      go_wp2_with fail
      obtain ⟨wo, rfl⟩ : ∃ wo : World, wo = wr := ⟨_, rfl⟩
      go_loopw [11, 12, 13] (fun wv cv i wr => ∃ (k : Nat) (x : Int), k ≤ N.ch.length ∧ i = .int .i64 k ∧ wv = .int .i64 x ∧ x = N.out hi (bitR b) + held (bitR b) ((N.ch.zip ds).take k) ∧ 0 ≤ x ∧ x ≤ 80000000000000 ∧ cv = .bool (anyCh (bitR b) (N.ch.take k)) ∧ Kp No w2 wr) (fun _ _ i _ => N.ch.length - (intOf i).toNat)
      case atStart => exact ⟨0, o, by omega, rfl, rfl, by first | exact HOE.out | (rw [HOE.out]; simp [held]), by omega, by omega, rfl, Kp.refl _ _⟩
      case round =>
        obtain ⟨k, x, hk, rfl, rfl, hx, hx0, hx1, rfl, hkp⟩ := hrel
        have HX := Lib.hid hx
        have HKP := Lib.hid hkp
        obtain ⟨x0, x1, x2⟩ := box3 (hkp.heap B2.out (fun h => h))
        have hbs := (Array.getElem?_eq_some_iff.1 (hkp.heap B2.out (fun h => h))).1
        have HIN3 := Lib.hid (own_kp HIN2.out hkp (fun _ _ h => h))
        clear hx hkp
        by_cases hkl : (k : Int) < N.ch.length
        · obtain ⟨c, hc⟩ : ∃ c, N.ch[k]? = some c := ⟨_, List.getElem?_eq_getElem (by omega)⟩
          have hck := HN.out.ck c (List.mem_of_getElem? hc)
          obtain ⟨bB, oB, rfl, hbB, z0⟩ := (HR.out.no (K0.out.tr (K2.out.tr HKP.out))).chest hc
          have yg := own_cell HIN3.out (rowOf_at (bitR b) hck.2)
          have hcn : (c : Int) < N.n := by omega
          have HAC := Lib.hid (show anyCh (bitR b) (N.ch.take (k + 1)) = (anyCh (bitR b) (N.ch.take k) || bitR b c) by rw [take_snoc' hc, anyCh_snoc])
          obtain ⟨d, hd⟩ : ∃ d, ds[k]? = some d := ⟨_, List.getElem?_eq_getElem (by have := HL.out; omega)⟩
          have hdk := HDO.out d (List.mem_of_getElem? hd)
          unfold dOk at hdk
          obtain ⟨bD, oD, hDe, hbD, q0⟩ := (HD.out.no (K0.out.tr (K2.out.tr HKP.out))).2 k d hd
          cases hDe
          have HHS := Lib.hid (show held (bitR b) ((N.ch.zip ds).take (k + 1)) = held (bitR b) ((N.ch.zip ds).take k) + if bitR b c then d else 0 by rw [take_snoc' (zip_at hc hd), held_snoc])
          have hkd : (k : Int) < ds.length := by have := HL.out; omega
          have hxs : x ≤ 75000000000000 := by
            have h1 := held_bd (bitR b) ((N.ch.zip ds).take k) (fun x hx => HDO.out x.2 (mem_zip_snd (List.mem_of_mem_take hx)))
            have h2 : ((N.ch.zip ds).take k).length ≤ 15 := by rw [List.length_take]; omega
            have := HX.out
            have := HOE.out
            omega
          clear hd
          clear hc
          cases hRc : bitR b c
          · rw [hRc] at yg
            go_wp2_with fail
            go_roundw
            case rel => exact ⟨k + 1, x, by omega, by go_num, rfl, by rw [HHS.out, hRc, HX.out]; simp, hx0, hx1, by rw [HAC.out, hRc, Bool.or_false], HKP.out⟩
            case measure => simp [intOf]; omega
          · rw [hRc] at yg
            have HAT := Lib.hid (show (true : Bool) = anyCh (bitR b) (N.ch.take (k + 1)) by rw [HAC.out, hRc, Bool.or_true])
            go_wp2_with fail
            go_roundw
            case rel => exact ⟨k + 1, x + d, by omega, by go_num, rfl, by rw [HHS.out, hRc, HX.out]; simp; omega, by omega, by omega, by rw [← HAT.out], HKP.out⟩
            case measure => simp [intOf]; omega
        · obtain rfl : k = N.ch.length := by omega
          have HXE := Lib.hid (show x = N.wt hi ds (bitR b) by have := HX.out; rw [List.take_of_length_le (by simp; omega)] at this; exact this)
          have K4 := Lib.hid (K2.out.tr HKP.out)
          have HANY := Lib.hid (show anyCh (bitR b) (N.ch.take N.ch.length) = anyCh (bitR b) N.ch by rw [List.take_length])
          rw [HANY.out]
          have HADM := Lib.hid (show N.A0 (bitR b) from ⟨HB0.out, HBN.out⟩)
          have HX0 := Lib.hid (show 0 ≤ N.wt hi ds (bitR b) by rw [← HXE.out]; exact hx0)
          by_cases hl0 : low < 0
          · have HN1 := Lib.hid (HI.out.less HODD.out HADM.out HX0.out (.inl hl0))
            rw [← HXE.out] at HN1
            go_wp2_with fail
            go_roundw
            case rel => exact ⟨x, b, b + 2, rfl, rfl, by go_num, by have := HODD.out; omega, by omega, by omega, by omega, HN1.out, K4.out⟩
            case measure => simp [intOf]; omega
          · by_cases hxl : x < low
            · have HN1 := Lib.hid (HI.out.less HODD.out HADM.out HX0.out (.inr (by rw [← HXE.out]; exact hxl)))
              rw [← HXE.out] at HN1
              go_wp2_with fail
              go_roundw
              case rel => exact ⟨x, b, b + 2, rfl, rfl, by go_num, by have := HODD.out; omega, by omega, by omega, by omega, HN1.out, K4.out⟩
              case measure => simp [intOf]; omega
            · by_cases hxe : x = low
              · have HN1 := Lib.hid (HI.out.same HODD.out HADM.out (by omega) (by rw [← HXE.out]; exact hxe))
                have hbe : (x == low) = true := by rw [beq_iff_eq]; exact hxe
                have hand : bits .and .i64 (all : Int) (b : Int) = ((all &&& b : Nat) : Int) := (bits_nat .i64 63 (by decide) wraps_i64 all b (by omega) (by omega)).1
                have hal : all &&& b ≤ b := Nat.and_le_right
                have hab : all &&& b < 1048576 := by omega
                have hlow0 : 0 ≤ low := by omega
                have hge : low ≤ x := by omega
                have HXL := Lib.hid hxe
                clear hxe hxl hl0 hal
                go_wp2_with fail
                clear hand
                go_roundw
                case rel => exact ⟨low, all &&& b, b + 2, rfl, rfl, by go_num, by have := HODD.out; omega, by omega, hab, hlow, HN1.out, K4.out⟩
                case measure => simp [intOf]; omega
              · have HN1 := Lib.hid (HI.out.more HODD.out (by omega) (by rw [← HXE.out]; omega))
                have hbe : (x == low) = false := by rw [beq_eq_false_iff_ne]; exact hxe
                clear hxe
                go_wp2_with fail
                go_roundw
                case rel => exact ⟨low, all, b + 2, rfl, rfl, by go_num, by have := HODD.out; omega, by omega, hall, hlow, HN1.out, K4.out⟩
                case measure => simp [intOf]; omega
    · have HFIN := Lib.hid (HI.out.fin (n := N.n) (by have := HQ.out; omega) HM.out (by omega) HM.out.1.1 (fun S S' he hz hS => ⟨by rw [← he 0 (by omega)]; exact hS.1, hz _ (Nat.le_refl _)⟩) (fun S S' he => wt_congr HN.out hi ds he))
      have K1 := Lib.hid (K0.out.tr HK.out)
      have B1 := Lib.hid (HK.out.heap B0.out (fun h => h))
      go_wp2_with fail
      clear hpw
      obtain ⟨wo, rfl⟩ : ∃ wo : World, wo = wr := ⟨_, rfl⟩
      go_loopw [14, 15] (fun ov i wr => ∃ k : Nat, k ≤ N.n ∧ i = .int .i64 k ∧ wr.ownsRow wo.heap.size 3 1 ov (mem R k).length ((mem R k).map natV) ∧ Kp No wo wr) (fun _ i _ => N.n - (intOf i).toNat)
      case atStart => exact ⟨0, by omega, rfl, ⟨by simp [mem], .inl ⟨rfl, by simp [mem]⟩⟩, Kp.refl _ _⟩
      case round =>
        clear x0 x1 x2
        obtain ⟨k, hk, rfl, hown, hkp⟩ := hrel
        obtain ⟨x0, x1, x2⟩ := box3 (hkp.heap B1.out (fun h => h))
        obtain ⟨av, cv, rfl, _, _, _⟩ := own_form hown
        have HO2 := Lib.hid hown
        have HKP := Lib.hid hkp
        have hml := mem_le R k
        clear hown hkp
        by_cases hkl : (k : Int) < N.n
        · have hbit := bit_is all k (by omega)
          have hbe := bit_eq all k
          have hRk := HFIN.out k (by omega)
          rw [hRk] at hbe
          have HMS := Lib.hid (mem_succ R k)
          clear hRk
          cases hRk : R k
          · rw [hRk] at hbe HMS
            rw [if_neg (by simp)] at HMS
            clear hRk
            go_wp2_with fail
            clear hbit hbe
            go_roundw
            case rel => exact ⟨k + 1, by omega, by go_num, by rw [HMS.out]; exact HO2.out, HKP.out⟩
            case measure => simp [intOf]; omega
          · rw [hRk] at hbe HMS
            rw [if_pos rfl] at HMS
            clear hRk
            go_wp2_with (at_builtin; refine stop_in ?_)
            refine stop_out ?_
            refine wpList_append_own_at _ rfl _ _ 23 rfl wo.heap.size 3 i0 (.int .i64 0) 1 8 Tryz.underlying23 hi0 hz0 hz1 hz2 rfl (by decide) (.slice av (mem R k).length cv) (mem R k).length ((mem R k).map natV) rfl (own_kp HO2.out (Kp.alloc No _ _) (fun _ _ h => h)) ⟨wr.heap.size, 0, none⟩ 1 1 [.int .i64 (k : Int)] rfl rfl (one_news wr 3 _) (by simp [Value.oneCell']) (by unfold maxLen; omega) (by omega) (by have := HKP.out.size; simp; omega) ?_
            intro v' w5 hown' hgrow hnil hat
            have O5 := Lib.hid (show w5.ownsRow wo.heap.size 3 1 v' (mem R (k + 1)).length ((mem R (k + 1)).map natV) by rw [HMS.out, List.length_append, List.map_append]; exact hown')
            have K5 := Lib.hid (HKP.out.trans ((Kp.alloc (fun k => wo.heap.size ≤ k) _ _).tr (Kp.grown hgrow fun k hk _ => (own_ge HO2.out hk).1)) fun k hk h => absurd h (by omega))
            clear hown' hgrow hnil hat hbit hbe
            go_wp2_with fail
            go_roundw
            case rel => exact ⟨k + 1, by omega, by go_num, O5.out, K5.out⟩
            case measure => simp [intOf]; omega
        · obtain rfl : k = N.n := by omega
          go_wp2_with fail
          refine bodyPost_ret (v := .slice av (mem R N.n).length cv) (by simp [results, Tryz.results56, go_sem]) rfl ⟨_, rfl, own_mono HO2.out K1.out.size, K1.out.tr HKP.out⟩
end Go.Proofs.YtpkbpeeelpgmcaaGreat
