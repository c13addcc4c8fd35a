/- Chapter 27: the law's sameInts: the walk. · Chapter 27: the law of VoicingFaults. · Chapter 27: how a pipe that came in is read. -/
import Derived.Test.YtjbpdimepckmfaaXBase
import Derived.Test.YtjbpdimepckmfaaXFaw
import Derived.Test.YtjbpdimepckmfaaXRfa
import Derived.Test.YtjbpdimepckmfaaXHis
import Derived.Test.YtjbpdimepckmfaaXRhi
import Derived.Test.YtjbpdimepckmfaaXAwk
import Derived.Test.YtjbpdimepckmfaaXOpnM
import Derived.Test.YtjbpdimepckmfaaXCmp
namespace Go.Proofs.Ytjbpdimepckmfaa
open Go.RowKit Go.Kq

set_option maxHeartbeats 1000000 in
theorem sameI_any (A B : Option Addr) (n m ca cb : Nat) (xs ys : List Int) (w : World) (hx : RdI .i64 w A n xs) (hy : RdI .i64 w B m ys) (hn : n ≤ 100000000) :
    Calls Try.prog 33 #[.slice A n ca, .slice B m cb] w fun e w' => e = .returned (.bool (decide (xs = ys))) ∧ Kp No w w' := by
  have hxl := hx.1
  have hyl := hy.1
  by_cases hl : n = m
  · subst hl
    go_enter Try.func33, Try.ntmps33
    go_wp2_with fail
    go_loopw [5] (fun i wr => ∃ k : Nat, k ≤ n ∧ i = .int .i64 k ∧ xs.take k = ys.take k ∧ Kp No w wr) (fun i _ => n - (intOf i).toNat)
    case atStart => exact ⟨0, by omega, rfl, by simp, Kp.refl _ _⟩
    case round =>
      obtain ⟨k, hk, rfl, hno, hkp⟩ := hrel
      by_cases hlt : k < n
      · obtain ⟨x, hxk⟩ : ∃ x, xs[k]? = some x := ⟨_, List.getElem?_eq_getElem (by omega)⟩
        obtain ⟨y, hyk⟩ : ∃ y, ys[k]? = some y := ⟨_, List.getElem?_eq_getElem (by omega)⟩
        obtain ⟨b, o, rfl, _, c0⟩ := (hx.no hkp).2 k x hxk
        obtain ⟨b', o', rfl, _, d0⟩ := (hy.no hkp).2 k y hyk
        have Ht := Lib.hid hno
        have X := Lib.hid hxk
        have Y := Lib.hid hyk
        clear hno hxk hyk
        by_cases hxy : x = y
        · have HXY := Lib.hid hxy
          have q1 : (x != y) = false := by rw [hxy]; simp
          clear hxy
          go_wp2_with fail
          go_quiet (fail)
          go_wp2_with fail
          go_roundw
          case rel => exact ⟨k + 1, by omega, by go_num, by rw [List.take_add_one, List.take_add_one, Ht.out, X.out, Y.out, HXY.out], hkp.tr (Kp.drewN _ _ _)⟩
          case measure => simp [intOf]; omega
        · have HN := Lib.hid (show xs ≠ ys from fun h => by
            have := X.out
            rw [h, Y.out] at this
            exact hxy (Option.some.inj this).symm)
          have q1 : (x != y) = true := by rw [bne_iff_ne]; exact hxy
          clear hxy
          go_wp2_with fail
          go_quiet (fail)
          go_wp2_with fail
          go_ret
          exact ⟨ret_bool (by simp [HN.out]), hkp.tr (Kp.drewN _ _ _)⟩
      · have he : xs = ys := by
          rw [List.take_of_length_le (by omega), List.take_of_length_le (by omega)] at hno
          exact hno
        have HE := Lib.hid he
        clear he hno
        go_wp2
        go_ret
        exact ⟨ret_bool (by simp [HE.out]), hkp⟩
  · have hb : ((n : Int) != (m : Int)) = true := by rw [bne_iff_ne]; omega
    have HN := Lib.hid (show xs ≠ ys from fun h => hl (by rw [← hxl, ← hyl, h]))
    clear hl hxl hyl
    go_enter Try.func33, Try.ntmps33
    go_wp2
    go_ret
    exact ⟨ret_bool (by simp [HN.out]), Kp.refl _ _⟩
end Go.Proofs.Ytjbpdimepckmfaa

namespace Go.Proofs.Ytjbpdimepckmfaa
open Go.RowKit Go.Kq

theorem own_rdI2 {w : World} {base : Nat} {v : Value} {l : List Int} (h : w.ownsRow base 3 1 v l.length (l.map (Value.int .i64))) : ∃ A c, v = .slice A l.length c ∧ RdI .i64 w A l.length l := by
  obtain ⟨A, c, rfl, _, _, _⟩ := own_form h
  exact ⟨A, c, rfl, RdI.of_own h⟩
set_option maxHeartbeats 2000000 in
set_option maxRecDepth 100000 in
theorem tfaults_any (A : Option Addr) (n ca : Nat) (l : List Wk) (p : Pp) (w : World) (hx : RdW w A n l) (fa : Fits l) (ha : n ≤ ca) :
    Calls Try.prog 9 #[.slice A n ca, ep p] w fun e w' => e = .returned (.bool true) ∧ Kp No w w' := by
  have HFA := Lib.hid (fun w' (k : Kp No w w') => Faults_any A n ca l w' (hx.no k) fa)
  have HFR := Lib.hid (fun w' (k : Kp No w w') => rFaults_any A n ca l w' (hx.no k) fa ha)
  have HHA := Lib.hid (fun w' (k : Kp No w w') => History_any A n ca l p w' (hx.no k) fa)
  have HHR := Lib.hid (fun w' (k : Kp No w w') => rHistory_any A n ca l p w' (hx.no k) fa ha)
  have F1 := Lib.hid (fauV_few l)
  have F2 := Lib.hid (hisV_few l p)
  clear hx fa
  generalize chkL l = c at HFA HFR
  generalize fauV l = L1 at HFA HFR F1
  generalize hisE l p = e1 at HHA HHR
  generalize hisV l p = L2 at HHA HHR F2
  simp only [ep]
  go_enter Try.func9, Try.ntmps9
  go_wp2_with fail
  have hk0 : Kp No w (w.alloc (.cells #[.int .i64 p.1, .int .i64 p.2] 39)) := Kp.alloc _ _ _
  have hbx : (w.alloc (.cells #[.int .i64 p.1, .int .i64 p.2] 39)).heap[w.heap.size]? = some (.cells #[.int .i64 p.1, .int .i64 p.2] 39 (0, 0)) := heap_alloc_new _ _
  change Calls _ _ _ (w.alloc (.cells #[.int .i64 p.1, .int .i64 p.2] 39)) _
  generalize w.alloc (.cells #[.int .i64 p.1, .int .i64 p.2] 39) = w0 at hk0 hbx ⊢
  obtain ⟨gp, hgp⟩ : ∃ gp, gp = w.heap.size := ⟨_, rfl⟩
  rw [← hgp] at hbx ⊢
  clear hgp
  with_reducible refine (HFA.out w0 hk0).mono ?_
  rintro e w1 ⟨v1, rfl, ho1, hk01⟩
  have hk1 := hk0.tr hk01
  have HB1 := Lib.hid (hk01.heap hbx id)
  clear hbx hk0 hk01
  obtain ⟨A1, c1, rfl, hr1⟩ := own_rdI2 ho1
  have HR1 := Lib.hid hr1
  clear ho1 hr1
  go_wp2_with fail
  with_reducible refine (HFR.out w1 hk1).mono ?_
  rintro e w2 ⟨v2, rfl, ho2, hk12⟩
  obtain ⟨A2, c2, rfl, hr2⟩ := own_rdI2 ho2
  have HR2 := Lib.hid hr2
  have HR12 := Lib.hid (HR1.out.no hk12)
  have hk2 := hk1.tr hk12
  have HB2 := Lib.hid (hk12.heap HB1.out id)
  have hb := HB2.out
  have b0 : w2.cell? ⟨gp, 0, none⟩ = some (.int .i64 p.1) := by rw [cell_of_row _ _ _ _ _ _ hb]; rfl
  have b1 : w2.cell? ⟨gp, 1, none⟩ = some (.int .i64 p.2) := by rw [cell_of_row _ _ _ _ _ _ hb]; rfl
  clear ho2 hr2 hk1 hk12 HR1 hb HB1
  go_wp2_with fail
  change Calls _ _ #[_, ep p] _ _
  clear b0 b1
  with_reducible refine (HHA.out w2 hk2).mono ?_
  rintro e w3 ⟨v3, rfl, ho3, hk23⟩
  obtain ⟨A3, c3, rfl, hr3⟩ := own_rdI2 ho3
  have HR3 := Lib.hid hr3
  have HR13 := Lib.hid (HR12.out.no hk23)
  have HR23 := Lib.hid (HR2.out.no hk23)
  have hk3 := hk2.tr hk23
  have hb := hk23.heap HB2.out id
  have b0 : w3.cell? ⟨gp, 0, none⟩ = some (.int .i64 p.1) := by rw [cell_of_row _ _ _ _ _ _ hb]; rfl
  have b1 : w3.cell? ⟨gp, 1, none⟩ = some (.int .i64 p.2) := by rw [cell_of_row _ _ _ _ _ _ hb]; rfl
  clear ho3 hr3 hk2 hk23 HR12 HR2 hb HB2
  go_wp2_with fail
  change Calls _ _ #[_, ep p] _ _
  clear b0 b1
  with_reducible refine (HHR.out w3 hk3).mono ?_
  rintro e w4 ⟨v4, rfl, ho4, hk34⟩
  obtain ⟨A4, c4, rfl, hr4⟩ := own_rdI2 ho4
  have HR4 := Lib.hid hr4
  have HR14 := Lib.hid (HR13.out.no hk34)
  have HR24 := Lib.hid (HR23.out.no hk34)
  have HR34 := Lib.hid (HR3.out.no hk34)
  have hk4 := hk3.tr hk34
  clear ho4 hr4 hk3 hk34 HR13 HR23 HR3
  go_wp2_with fail
  with_reducible refine (sameI_any A1 A2 L1.length L1.length c1 c2 L1 L1 w4 HR14.out HR24.out (by have := F1.out; omega)).mono ?_
  rw [decide_eq_true (rfl : L1 = L1)]
  rintro e w5 ⟨rfl, hk45⟩
  have HR35 := Lib.hid (HR34.out.no hk45)
  have HR45 := Lib.hid (HR4.out.no hk45)
  have hk5 := hk4.tr hk45
  clear hk4 hk45 HR14 HR24 HR34 HR4
  go_wp2_with fail
  with_reducible refine (sameI_any A3 A4 L2.length L2.length c3 c4 L2 L2 w5 HR35.out HR45.out (by have := F2.out; omega)).mono ?_
  rw [decide_eq_true (rfl : L2 = L2)]
  rintro e w6 ⟨rfl, hk56⟩
  have hk6 := hk5.tr hk56
  clear hk5 hk56 HR35 HR45
  go_wp2_with fail
  with_reducible refine (awake_any w6).mono ?_
  rintro e w7 ⟨rfl, hk67⟩
  go_wp2_with fail
  go_ret
  exact ⟨rfl, hk6.tr hk67⟩
end Go.Proofs.Ytjbpdimepckmfaa

namespace Go.Proofs.Ytjbpdimepckmfaa
open Go.ChangeShapes Go.WideShapes Go.RowKit Go.Deep Go.Kq

section
variable {H : Type} {enc : TypeId × Value → H} {W : World} {base : Nat} {spare : Nat → Bool} {held : Bool}
set_option maxRecDepth 100000 in
theorem open_pp {v : Value} {d : DataW H} {p : List MemPlace} {r : Reach} {b0 : Nat} (hv : Value.okWide Try.prog W r b0 39 v) (h : DataW.Trod enc Try.prog W base spare held 39 v d p) : ∃ x : Pp, v = ep x := by
  simp only [Value.okWide, Try.underlying39] at hv
  obtain ⟨cs, rfl, hsz, _⟩ := hv
  obtain ⟨fuel, hf⟩ := h
  obtain ⟨a, b, hx⟩ := pp_cells (cs := (Value.agg cs).cells.toList) hf
  refine ⟨(a, b), ?_⟩
  obtain ⟨l⟩ := cs
  have hl : l = [.int .i64 a, .int .i64 b] := by simpa [Value.cells] using hx
  rw [hl]
  rfl
end
end Go.Proofs.Ytjbpdimepckmfaa
