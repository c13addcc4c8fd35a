/- Chapter 27: the law's sameInts: the walk. · Chapter 27: the law of VoicingMerges. · Chapter 27: how a list of numbers that came in is read. -/
import Derived.Test.YtjbpdimepckmfaaXBase
import Derived.Test.YtjbpdimepckmfaaXMrg
import Derived.Test.YtjbpdimepckmfaaXRmg
import Derived.Test.YtjbpdimepckmfaaXRsi
import Derived.Test.YtjbpdimepckmfaaXSml
import Derived.Test.YtjbpdimepckmfaaXAwk
import Derived.Test.YtjbpdimepckmfaaXOpn
namespace Go.Proofs.Ytjbpdimepckmfaa
open Go.RowKit Go.Kq

set_option maxHeartbeats 1000000 in
theorem sameI_any (A B : Option Addr) (n m ca cb : Nat) (xs ys : List Int) (w : World) (hx : RdI .i64 w A n xs) (hy : RdI .i64 w B m ys) (hn : n ≤ 100000000) :
    Calls Try.prog 33 #[.slice A n ca, .slice B m cb] w fun e w' => e = .returned (.bool (decide (xs = ys))) ∧ Kp No w w' := by
  have hxl := hx.1
  have hyl := hy.1
  by_cases hl : n = m
  · subst hl
    go_enter Try.func33, Try.ntmps33
    go_wp2_with fail
    go_loopw [5] (fun i wr => ∃ k : Nat, k ≤ n ∧ i = .int .i64 k ∧ xs.take k = ys.take k ∧ Kp No w wr) (fun i _ => n - (intOf i).toNat)
    case atStart => exact ⟨0, by omega, rfl, by simp, Kp.refl _ _⟩
    case round =>
      obtain ⟨k, hk, rfl, hno, hkp⟩ := hrel
      by_cases hlt : k < n
      · obtain ⟨x, hxk⟩ : ∃ x, xs[k]? = some x := ⟨_, List.getElem?_eq_getElem (by omega)⟩
        obtain ⟨y, hyk⟩ : ∃ y, ys[k]? = some y := ⟨_, List.getElem?_eq_getElem (by omega)⟩
        obtain ⟨b, o, rfl, _, c0⟩ := (hx.no hkp).2 k x hxk
        obtain ⟨b', o', rfl, _, d0⟩ := (hy.no hkp).2 k y hyk
        have Ht := Lib.hid hno
        have X := Lib.hid hxk
        have Y := Lib.hid hyk
        clear hno hxk hyk
        by_cases hxy : x = y
        · have HXY := Lib.hid hxy
          have q1 : (x != y) = false := by rw [hxy]; simp
          clear hxy
          go_wp2_with fail
          go_quiet (fail)
          go_wp2_with fail
          go_roundw
          case rel => exact ⟨k + 1, by omega, by go_num, by rw [List.take_add_one, List.take_add_one, Ht.out, X.out, Y.out, HXY.out], hkp.tr (Kp.drewN _ _ _)⟩
          case measure => simp [intOf]; omega
        · have HN := Lib.hid (show xs ≠ ys from fun h => by
            have := X.out
            rw [h, Y.out] at this
            exact hxy (Option.some.inj this).symm)
          have q1 : (x != y) = true := by rw [bne_iff_ne]; exact hxy
          clear hxy
          go_wp2_with fail
          go_quiet (fail)
          go_wp2_with fail
          go_ret
          exact ⟨ret_bool (by simp [HN.out]), hkp.tr (Kp.drewN _ _ _)⟩
      · have he : xs = ys := by
          rw [List.take_of_length_le (by omega), List.take_of_length_le (by omega)] at hno
          exact hno
        have HE := Lib.hid he
        clear he hno
        go_wp2
        go_ret
        exact ⟨ret_bool (by simp [HE.out]), hkp⟩
  · have hb : ((n : Int) != (m : Int)) = true := by rw [bne_iff_ne]; omega
    have HN := Lib.hid (show xs ≠ ys from fun h => hl (by rw [← hxl, ← hyl, h]))
    clear hl hxl hyl
    go_enter Try.func33, Try.ntmps33
    go_wp2
    go_ret
    exact ⟨ret_bool (by simp [HN.out]), Kp.refl _ _⟩
end Go.Proofs.Ytjbpdimepckmfaa

namespace Go.Proofs.Ytjbpdimepckmfaa
open Go.RowKit Go.Kq

theorem mrgV_few (a b : List Wk) : (mrgV a b).length ≤ 400 := by
  unfold mrgV
  split
  · rename_i h
    rw [mrg_len]
    unfold mrgF at h
    by_cases h1 : chkL a = 0
    · by_cases h2 : chkL b = 0
      · rw [if_neg (by rw [h1]; simp), if_neg (by rw [h2]; simp)] at h
        unfold mrgE at h
        cases hc : clash a b
        · rw [hc] at h
          by_cases h3 : 400 < (bothW a b).length
          · simp [h3] at h
          · omega
        · rw [hc] at h
          cases h
      · rw [if_neg (by rw [h1]; simp), if_pos h2] at h
        exact absurd h h2
    · rw [if_pos h1] at h
      exact absurd h h1
  · simp
theorem sinceV_few (l : List Wk) (s : List Int) : (sinceV l s).length ≤ 400 := by
  unfold sinceV
  split
  · rename_i h
    unfold sinceE at h
    by_cases h1 : chkL l = 0
    · have := (rec_of h1).len
      have h2 : (sinceL l s).length ≤ l.length := List.length_filter_le _ _
      omega
    · rw [if_pos h1] at h
      exact absurd h h1
  · simp
theorem seenV_few (l : List Wk) : (seenV l).length ≤ 20 := by
  unfold seenV
  split
  · rw [seenL_len]
    omega
  · simp
theorem own_rdW {w : World} {base : Nat} {v : Value} {l : List Wk} (h : w.ownsRow base 41 11 v l.length (l.flatMap Wk.cells)) : ∃ A c, v = .slice A l.length c ∧ RdW w A l.length l ∧ (A = none → l.length = 0 ∧ c = 0) := by
  obtain ⟨A, c, rfl, _, _, _⟩ := own_form h
  exact ⟨A, c, rfl, Rd.of_own wk_len (by omega) h, (own_news h).1⟩
theorem own_rdI {w : World} {base : Nat} {v : Value} {l : List Int} (h : w.ownsRow base 3 1 v l.length (l.map (Value.int .i64))) : ∃ A c, v = .slice A l.length c ∧ RdI .i64 w A l.length l := by
  obtain ⟨A, c, rfl, _, _, _⟩ := own_form h
  exact ⟨A, c, rfl, RdI.of_own h⟩
set_option maxHeartbeats 2000000 in
set_option maxRecDepth 100000 in
theorem tmerges_any (A : Option Addr) (n ca : Nat) (a : List Wk) (B : Option Addr) (m cb : Nat) (b : List Wk) (C : Option Addr) (k cc : Nat) (seen : List Int) (w : World) (hx : RdW w A n a) (fa : Fits a) (ha : n ≤ ca) (nA : A = none → n = 0 ∧ ca = 0) (hy : RdW w B m b) (fb : Fits b) (hb : m ≤ cb) (nB : B = none → m = 0 ∧ cb = 0) (hz : RdI .i64 w C k seen) (hk : k ≤ maxLen) :
    Calls Try.prog 8 #[.slice A n ca, .slice B m cb, .slice C k cc] w fun e w' => e = .returned (.bool true) ∧ Kp No w w' := by
  have HCA := Lib.hid (fun w' (k : Kp No w w') => Check_any A n ca a w' (hx.no k) fa)
  have HCR := Lib.hid (fun w' (k : Kp No w w') => rCheck_any A n ca a w' (hx.no k) fa ha)
  have HMA := Lib.hid (fun w' (k : Kp No w w') => Merge_any A n ca a B m cb b w' (hx.no k) (hy.no k) fa fb nA)
  have HMR := Lib.hid (fun w' (k : Kp No w w') => rMerge_any A n ca a B m cb b w' (hx.no k) (hy.no k) fa fb nA ha hb)
  have HSA := Lib.hid (fun w' (k : Kp No w w') => Seen_any A n ca a w' (hx.no k) fa)
  have HSR := Lib.hid (fun w' (k : Kp No w w') => rSeen_any A n ca a w' (hx.no k) fa ha)
  have HIA := Lib.hid (fun w' (q : Kp No w w') => Since_any B m cb b C k cc seen w' (hy.no q) fb nB (hz.no q) hk)
  have HIR := Lib.hid (fun w' (q : Kp No w w') => rSince_any B m cb b C k cc seen w' (hy.no q) fb hb (hz.no q) hk)
  have F1 := Lib.hid (mrgV_few a b)
  have F2 := Lib.hid (sinceV_few b seen)
  have F3 := Lib.hid (seenV_few a)
  clear hx hy hz hk fa fb nA nB
  generalize chkL a = c at HCA HCR HSA HSR
  generalize mrgF a b = e1 at HMA HMR
  generalize mrgV a b = L1 at HMA HMR F1
  generalize sinceE b seen = e2 at HIA HIR
  generalize sinceV b seen = L2 at HIA HIR F2
  generalize seenV a = L3 at HSA HSR F3
  go_enter Try.func8, Try.ntmps8
  go_wp2_with fail
  with_reducible refine (HCA.out w (Kp.refl _ _)).mono ?_
  rintro e w1 ⟨rfl, hk1⟩
  go_wp2_with fail
  with_reducible refine (HCR.out w1 hk1).mono ?_
  rintro e w2 ⟨rfl, hk12⟩
  have hk2 := hk1.tr hk12
  clear hk1 hk12
  go_wp2_with fail
  with_reducible refine (HMA.out w2 hk2).mono ?_
  rintro e w3 ⟨v3, rfl, ho3, hk23⟩
  obtain ⟨A3, c3, rfl, hr3, _⟩ := own_rdW ho3
  have HR3 := Lib.hid hr3
  have hk3 := hk2.tr hk23
  clear ho3 hr3 hk2 hk23
  go_wp2_with fail
  with_reducible refine (HMR.out w3 hk3).mono ?_
  rintro e w4 ⟨v4, rfl, ho4, hk34⟩
  obtain ⟨A4, c4, rfl, hr4, _⟩ := own_rdW ho4
  have HR4 := Lib.hid hr4
  have HR34 := Lib.hid (HR3.out.no hk34)
  have hk4 := hk3.tr hk34
  clear ho4 hr4 hk3 hk34 HR3
  go_wp2_with fail
  with_reducible refine (sameW_any A3 A4 L1.length L1.length c3 c4 L1 L1 w4 HR34.out HR4.out (by have := F1.out; omega)).mono ?_
  rw [decide_eq_true (rfl : L1 = L1)]
  rintro e w5 ⟨rfl, hk45⟩
  have hk5 := hk4.tr hk45
  clear hk4 hk45 HR34 HR4
  go_wp2_with fail
  with_reducible refine (HSA.out w5 hk5).mono ?_
  rintro e w6 ⟨v6, rfl, ho6, hk56⟩
  obtain ⟨A6, c6, rfl, hr6⟩ := own_rdI ho6
  have HR6 := Lib.hid hr6
  have hk6 := hk5.tr hk56
  clear ho6 hr6 hk5 hk56
  go_wp2_with fail
  with_reducible refine (HSR.out w6 hk6).mono ?_
  rintro e w7 ⟨v7, rfl, ho7, hk67⟩
  obtain ⟨A7, c7, rfl, hr7⟩ := own_rdI ho7
  have HR7 := Lib.hid hr7
  have HR67 := Lib.hid (HR6.out.no hk67)
  have hk7 := hk6.tr hk67
  clear ho7 hr7 hk6 hk67 HR6
  go_wp2_with fail
  with_reducible refine (HIA.out w7 hk7).mono ?_
  rintro e w8 ⟨v8, rfl, ho8, hk78⟩
  obtain ⟨A8, c8, rfl, hr8, _⟩ := own_rdW ho8
  have HR8 := Lib.hid hr8
  have HR78 := Lib.hid (HR7.out.no hk78)
  have HR68 := Lib.hid (HR67.out.no hk78)
  have hk8 := hk7.tr hk78
  clear ho8 hr8 hk7 hk78 HR7 HR67
  go_wp2_with fail
  with_reducible refine (HIR.out w8 hk8).mono ?_
  rintro e w9 ⟨v9, rfl, ho9, hk89⟩
  obtain ⟨A9, c9, rfl, hr9, _⟩ := own_rdW ho9
  have HR9 := Lib.hid hr9
  have HR79 := Lib.hid (HR78.out.no hk89)
  have HR69 := Lib.hid (HR68.out.no hk89)
  have HR89 := Lib.hid (HR8.out.no hk89)
  have hk9 := hk8.tr hk89
  clear ho9 hr9 hk8 hk89 HR78 HR68 HR8
  go_wp2_with fail
  with_reducible refine (sameI_any A6 A7 L3.length L3.length c6 c7 L3 L3 w9 HR69.out HR79.out (by have := F3.out; omega)).mono ?_
  rw [decide_eq_true (rfl : L3 = L3)]
  rintro e wa ⟨rfl, hk9a⟩
  have HR8a := Lib.hid (HR89.out.no hk9a)
  have HR9a := Lib.hid (HR9.out.no hk9a)
  have hka := hk9.tr hk9a
  clear hk9 hk9a HR89 HR9 HR69 HR79
  go_wp2_with fail
  with_reducible refine (sameW_any A8 A9 L2.length L2.length c8 c9 L2 L2 wa HR8a.out HR9a.out (by have := F2.out; omega)).mono ?_
  rw [decide_eq_true (rfl : L2 = L2)]
  rintro e wb ⟨rfl, hkab⟩
  have hkb := hka.tr hkab
  clear hka hkab HR8a HR9a
  go_wp2_with fail
  with_reducible refine (awake_any wb).mono ?_
  rintro e wc ⟨rfl, hkbc⟩
  go_wp2_with fail
  go_ret
  exact ⟨rfl, hkb.tr hkbc⟩
end Go.Proofs.Ytjbpdimepckmfaa

namespace Go.Proofs.Ytjbpdimepckmfaa
open Go.ChangeShapes Go.WideShapes Go.RowKit Go.Deep Go.Kq

section
variable {H : Type} {enc : TypeId × Value → H} {W : World} {base : Nat} {held : Bool}
theorem open_ints52 {a : Option Addr} {len cap : Nat} {d : DataW H} {p : List MemPlace} (h : DataW.Trod enc Try.prog W base (fun _ => true) held 52 (.slice a len cap) d p) : ∃ xs : List Int, RdI .i64 W a len xs ∧ len ≤ maxLen := by
  obtain ⟨fuel, hf⟩ := h
  have hf : DataW.trod enc Try.prog W base (fun _ => true) held fuel 52 [.slice a len cap] = some (d, p) := by simpa [Value.cells] using hf
  obtain ⟨⟨xs, hx⟩, _⟩ := open_rd (fun x : Int => [Value.int .i64 x]) 1 (by omega) (fun _ => rfl) Try.underlying52 cI (fun fuel cs y h => by
    obtain ⟨x, h1, _⟩ := DataW.trod_int Try.underlying3 h
    exact ⟨x, h1⟩) hf
  refine ⟨xs, ⟨hx.1, fun i x hi => ?_⟩, ?_⟩
  · obtain ⟨b, o, hA, hb, hc⟩ := hx.2 i x hi
    exact ⟨b, o, hA, hb, by simpa using hc 0 _ rfl⟩
  · rcases open_slice Try.underlying52 hf with ⟨hcs, _⟩ | ⟨x, l, c, m, n, D, Pl, hcs, _, hl, hm, _⟩
    · simp at hcs
      unfold maxLen
      omega
    · simp at hcs
      omega
end
end Go.Proofs.Ytjbpdimepckmfaa
