/- Chapter 33: the reference's played, twice and sorted: walks. · An exchange of two elements of a row of one cell each (x[i], x[j] = x[j], x[i]), in a region that draws its order. No program in sight. -/
import Derived.Test.YtfflhlmnfhfcgaaXRrA
import Derived.Test.YtfflhlmnfhfcgaaXRbst
import Derived.Test.YtfflhlmnfhfcgaaXLibHvM
import Derived.Test.YtfflhlmnfhfcgaaXLibReg
import Derived.Test.YtfflhlmnfhfcgaaXLibRow
namespace Go.Proofs.Ytfflhlmnfhfcgaa
open Go.RowKit Go.Kq

theorem rbst14_any (A Y : Option Addr) (n m ca cb : Nat) (xs ys : List Vc) (w : World) (hx : RdV w A n xs) (hy : RdV w Y m ys) (hk : chk xs ys 14 = 0) :
    Calls Try.prog 32 #[.slice A n ca, .slice Y m cb, .int .i64 14] w fun e w' => ∃ v, e = .returned (.tuple #[v, .int .i64 (bestV xs ys 14).2.1]) ∧ w'.ownsRow w.heap.size 3 1 v (bestV xs ys 14).1.length ((bestV xs ys 14).1.map natV) ∧ Kp No w w' := by
  obtain ⟨z1, z2, z3, z4⟩ := chk_zero hk
  have hxl := hx.1
  have hyl := hy.1
  have hv : bestV xs ys 14 = ((refS (Cst xs ys) m 14 (2 ^ m - 1)).1, (refS (Cst xs ys) m 14 (2 ^ m - 1)).2, 0) := by unfold bestV; rw [if_neg (by omega), if_neg (by omega), hyl, search_same]; rfl
  rw [hv]
  refine (rbest_any A Y n m ca cb xs ys 14 w hx hy (by omega) (by omega) (by omega) (bad_sane z3) (bad_sane z4)).mono ?_
  rintro e w2 ⟨v, out, c', rfl, hf, hown, hk2⟩
  have hf' : refS (Cst xs ys) m 14 (2 ^ m - 1) = (out, c') := hf
  rw [hf']
  exact ⟨v, rfl, hown, hk2⟩
set_option maxHeartbeats 4000000 in
set_option maxRecDepth 100000 in
theorem played_any (A Y : Option Addr) (n m ca cb : Nat) (xs ys : List Vc) (f t : Int) (w : World) (hx : RdV w A n xs) (hy : RdV w Y m ys) (hk : chk xs ys 14 = 0) (hf : 0 ≤ f ∧ f ≤ 5) :
    Calls Try.prog 46 #[.slice A n ca, .slice Y m cb, .int .i64 f, .int .i64 t] w fun e w' => ∃ v, e = .returned (.tuple #[v, .int .i64 (cho xs ys f t).cost]) ∧ w'.ownsRow w.heap.size 3 1 v (cho xs ys f t).stops.length ((cho xs ys f t).stops.map natV) ∧ Kp No w w' := by
  obtain ⟨i0, hi0, hz0, hz1, hz2⟩ := info_parts info3
  obtain ⟨z1, z2, gx, gy⟩ := chk_zero hk
  have hxl := hx.1
  have hyl := hy.1
  obtain ⟨out, c, hb, hbl, hbi, hbc⟩ := bst_facts (t := t) z1 (by omega : ys.length ≤ 14) gx gy hf
  have hC : cho xs ys f t = ⟨t, out.map fun i => (pin ys t ys.length).getD i 0, c⟩ := by unfold cho; rw [hb]
  rw [hC]
  have hck : chk (pvo xs f f n) (pvo ys t f m) 14 = 0 := by have := pvo_chk (d := f) (t := t) z1 (by omega : ys.length ≤ 14) gx gy hf; rwa [hxl, hyl] at this
  rw [hxl, hyl] at hb
  rw [hyl] at hbi ⊢
  have HCK := Lib.hid hck
  have HB := Lib.hid hb
  have HBI := Lib.hid hbi
  clear hck hb hbi hC gx gy hk
  go_enter Try.func46, Try.ntmps46
  go_wp2_with fail
  refine (rin_any A n ca xs f f _ hx (by omega)).mono ?_
  rintro e w1 ⟨v1, u1, rfl, hov1, hou1, hk1⟩
  rw [← pvo_len xs f f n] at hov1
  obtain ⟨a1, c1, rfl, hc1, hr1⟩ := own_rdv hov1
  have HR1 := Lib.hid hr1
  clear hov1 hou1 hr1
  go_wp2_with fail
  refine (rin_any Y m cb ys t f _ (hy.no hk1) (by omega)).mono ?_
  rintro e w2 ⟨v2, u2, rfl, hov2, hou2, hk2⟩
  rw [← pvo_len ys t f m] at hov2
  obtain ⟨a2, c2, rfl, hc2, hr2⟩ := own_rdv hov2
  obtain ⟨b4, d4, rfl, _, _, hb4⟩ := Go.Kq.own_form hou2
  have HR2 := Lib.hid hr2
  have HU := Lib.hid hou2
  clear hov2 hou2 hr2
  go_wp2_with fail
  refine (rbst14_any a1 a2 _ _ c1 c2 (pvo xs f f n) (pvo ys t f m) w2 (HR1.out.no hk2) HR2.out HCK.out).mono ?_
  rw [HB.out]
  rintro e w3 ⟨v3, rfl, ho3, hk3⟩
  replace ho3 : w3.ownsRow w2.heap.size 3 1 v3 out.length (out.map natV) := ho3
  obtain ⟨a3, c3, rfl, _, _, ha3⟩ := Go.Kq.own_form ho3
  have HO3 := Lib.hid ho3
  have hkw := hk1.tr (hk2.tr hk3)
  have HU3 := Lib.hid (hk3.owns HU.out fun _ _ h => h)
  clear ho3 HU HR1 HR2
  go_wp2_with fail
  go_loopw [16, 17] (fun vo vi wr => ∃ j : Nat, j ≤ out.length ∧ vi = .int .i64 j ∧ wr.ownsRow w3.heap.size 3 1 vo j (((out.take j).map fun i => (pin ys t m).getD i 0).map natV) ∧ Kp No w3 wr) (fun _ vi _ => out.length - (intOf vi).toNat)
  case atStart => exact ⟨0, by omega, rfl, ⟨rfl, .inl ⟨rfl, rfl⟩⟩, Kp.refl _ _⟩
  case round =>
    obtain ⟨j, hj, rfl, hol, hkp⟩ := hrel
    have HOL := Lib.hid hol
    clear hol
    obtain ⟨al, cl, rfl, _, _, _⟩ := own_form HOL.out
    by_cases hltj : j < out.length
    · obtain ⟨g3, rfl⟩ := ha3 (by omega)
      obtain ⟨i, hi⟩ : ∃ i, out[j]? = some i := ⟨_, List.getElem?_eq_getElem hltj⟩
      have hir := HBI.out i (List.mem_of_getElem? hi)
      obtain ⟨g4, rfl⟩ := hb4 (by omega)
      obtain ⟨p, hp⟩ : ∃ p, (pin ys t m)[i]? = some p := ⟨_, List.getElem?_eq_getElem hir⟩
      have q5 : wr.cell? ⟨g3, j, none⟩ = some (.int .i64 i) := hkp.cell (Go.Kq.own_cell HO3.out (by rw [List.getElem?_map, hi]; rfl)) id
      have q4 : wr.cell? ⟨g4, i, none⟩ = some (.int .i64 p) := hkp.cell (Go.Kq.own_cell HU3.out (by rw [List.getElem?_map, hp]; rfl)) id
      have HTK := Lib.hid (show (out.take (j + 1)).map (fun i => (pin ys t m).getD i 0) = ((out.take j).map fun i => (pin ys t m).getD i 0) ++ [p] by rw [List.take_add_one, hi, List.map_append]; simp [hp])
      clear hi hp
      go_wp2_with (at_builtin; refine stop_in ?_)
      refine stop_out ?_
      refine wpList_append_own_at _ rfl _ _ 23 rfl w3.heap.size 3 i0 (.int .i64 0) 1 8 Try.underlying23 hi0 hz0 hz1 hz2 rfl (by decide) (.slice al j cl) j _ rfl (HOL.out.alloc (.cells #[.int .i64 p] 3)) ⟨wr.heap.size, 0, none⟩ 1 1 [.int .i64 p] rfl rfl (cell_one_new wr _ _) (ints_oneCell .i64 [(p : Int)]) (by unfold maxLen; omega) (by omega) (by have := hkp.size; simp; omega) ?_
      intro v' w7 hown' hgrow hnil hat
      have hk7 : Kp No w3 w7 := kp_app hkp HOL.out (Nat.le_refl _) hgrow
      have HOL7 := Lib.hid hown'
      clear hown' hgrow hnil hat q5 q4
      go_wp2_with fail
      go_roundw
      case rel => exact ⟨j + 1, by omega, by go_num, by rw [HTK.out, List.map_append]; exact HOL7.out, hk7⟩
      case measure => simp [intOf]; omega
    · obtain rfl : j = out.length := by omega
      have HOF := Lib.hid (show wr.ownsRow w.heap.size 3 1 (.slice al out.length cl) (out.map fun i => (pin ys t m).getD i 0).length ((out.map fun i => (pin ys t m).getD i 0).map natV) by
        have h := HOL.out
        rw [List.take_length] at h
        rw [List.length_map]
        exact Go.Kq.own_mono h hkw.size)
      clear HOL
      go_wp2_with fail
      go_ret2
      exact ⟨_, rfl, HOF.out, hkw.tr hkp⟩

theorem okS_stop {X : List Int} {n i : Nat} (hi : i < n) {k : Nat} (hk : k < i) {a : Int} (h1 : X.getD i 0 = a) (h2 : X.getD k 0 = a) (h0 : 0 ≤ a) : okS X n = false := by
  rw [← Bool.not_eq_true, okS_iff]
  intro h
  have := h i hi k hk
  rw [h1, h2] at this
  omega
set_option maxHeartbeats 1000000 in
theorem twice_any (A : Option Addr) (n ca : Nat) (X : List Int) (w : World) (hx : RdI w A n X) (hn : n ≤ 100) :
    Calls Try.prog 47 #[.slice A n ca] w fun e w' => e = .returned (.bool (!okS X n)) ∧ Kp No w w' := by
  have hxl := hx.1
  go_enter Try.func47, Try.ntmps47
  go_wp2_with fail
  go_loopw [3] (fun vi wr => ∃ i : Nat, i ≤ n ∧ vi = .int .i64 i ∧ okS X i = true ∧ Kp No w wr) (fun vi _ => n - (intOf vi).toNat)
  case atStart => exact ⟨0, by omega, rfl, rfl, Kp.refl _ _⟩
  case round =>
    obtain ⟨i, hi, rfl, hok, hkp⟩ := hrel
    have HOK := Lib.hid hok
    clear hok
    by_cases hlt : i < n
    · obtain ⟨x, hxi⟩ : ∃ x, X[i]? = some x := ⟨_, List.getElem?_eq_getElem (by omega)⟩
      have HXI := Lib.hid hxi
      clear hxi
      go_wp2_with fail
      obtain ⟨wo, rfl⟩ : ∃ wo : World, wo = wr := ⟨_, rfl⟩
      go_loopw [4] (fun vk wr => ∃ k : Nat, k ≤ i ∧ vk = .int .i64 k ∧ okR X i k = true ∧ Kp No wo wr) (fun vk _ => i - (intOf vk).toNat)
      case atStart => exact ⟨0, by omega, rfl, rfl, Kp.refl _ _⟩
      case round =>
        obtain ⟨k, hk, rfl, hor, hkq⟩ := hrel
        have HOR := Lib.hid hor
        clear hor
        by_cases hltk : k < i
        · obtain ⟨y, hyk⟩ : ∃ y, X[k]? = some y := ⟨_, List.getElem?_eq_getElem (by omega)⟩
          obtain ⟨b, o, rfl, c1⟩ := (hx.no (hkp.tr hkq)).2 i x HXI.out
          obtain ⟨b', o', hb, c2⟩ := (hx.no (hkp.tr hkq)).2 k y hyk
          cases hb
          have hkn : (k : Int) < (n : Int) := by omega
          have hin : (i : Int) < (n : Int) := by omega
          have g1 : X.getD i 0 = x := by simp [HXI.out]
          have g2 : X.getD k 0 = y := by simp [hyk]
          have HG1 := Lib.hid g1
          have HG2 := Lib.hid g2
          clear hyk g1 g2
          by_cases hxy : x = y
          · subst hxy
            have hxe : (x == x) = true := beq_self_eq_true _
            by_cases hx0 : 0 ≤ x
            · have hx1 : decide (0 ≤ x) = true := decide_eq_true hx0
              have HF := Lib.hid (okS_stop hlt hltk HG1.out HG2.out hx0)
              go_wp2_with fail
              go_quiet (fail)
              go_wp2_with fail
              go_ret
              exact ⟨by rw [HF.out]; rfl, (hkp.tr hkq).tr (Kp.drewN _ _ _)⟩
            · have hx1 : decide (0 ≤ x) = false := decide_eq_false hx0
              have HR := Lib.hid (show okR X i (k + 1) = true by rw [okR, HOR.out, HG1.out, decide_eq_true (by omega : x < 0)]; rfl)
              go_wp2_with fail
              go_quiet (fail)
              go_wp2
              go_roundw
              case rel => exact ⟨k + 1, by omega, by go_num, HR.out, hkq.tr (Kp.drewN _ _ _)⟩
              case measure => simp [intOf]; omega
          · have hxe : (x == y) = false := by rw [beq_eq_false_iff_ne]; exact hxy
            have HR := Lib.hid (show okR X i (k + 1) = true by rw [okR, HOR.out, HG1.out, HG2.out, decide_eq_true hxy]; simp)
            go_wp2_with fail
            go_quiet (fail)
            go_wp2
            go_roundw
            case rel => exact ⟨k + 1, by omega, by go_num, HR.out, hkq.tr (Kp.drewN _ _ _)⟩
            case measure => simp [intOf]; omega
        · obtain rfl : k = i := by omega
          have HS := Lib.hid (show okS X (k + 1) = true by rw [okS, HOK.out, HOR.out]; rfl)
          go_wp2_with fail
          go_roundw
          case rel => exact ⟨k + 1, by omega, by go_num, HS.out, hkp.tr hkq⟩
          case measure => simp [intOf]; omega
    · obtain rfl : i = n := by omega
      go_wp2_with fail
      go_ret
      exact ⟨by rw [HOK.out]; rfl, hkp⟩
end Go.Proofs.Ytfflhlmnfhfcgaa

namespace Go.Kq
open Go.RowKit

/-- Operation la loads element j (vj), lb element i (vi); sa stores vj into i, sb stores vi into j. -/
structure Sw (w0 : World) (g base : Nat) (e : TypeId) (n c : Nat) (xs : List Value) (i j : Nat) (vi vj : Value) (la lb sa sb : Nat) (r : Nat → Option Value) (w : World) : Prop where
  kp : Kp (One g) w0 w
  row : w.ownsRow base e 1 (.slice (some ⟨g, 0, none⟩) n c) n ((r sb).elim ((r sa).elim xs fun _ => xs.set i vj) fun _ => ((r sa).elim xs fun _ => xs.set i vj).set j vi)
  da : r sa ≠ none → r lb ≠ none
  db : r sb ≠ none → r la ≠ none
section
variable {w0 w w' : World} {g base : Nat} {e : TypeId} {n c : Nat} {xs : List Value} {i j : Nat} {vi vj : Value} {la lb sa sb : Nat} {r : Nat → Option Value}
theorem Sw.start (h : w0.ownsRow base e 1 (.slice (some ⟨g, 0, none⟩) n c) n xs) : Sw w0 g base e n c xs i j vi vj la lb sa sb (fun _ => none) w0.drew :=
  ⟨Kp.drew _ _, (Kp.drew No w0).owns h fun _ _ h => h, fun h => absurd rfl h, fun h => absurd rfl h⟩
theorem Sw.upd (h : Sw w0 g base e n c xs i j vi vj la lb sa sb r w) (k : Nat) (v : Value) (h1 : k ≠ sa) (h2 : k ≠ sb) : Sw w0 g base e n c xs i j vi vj la lb sa sb (Kq.upd r k v) w := by
  have e1 := upd_ne r v h1.symm
  have e2 := upd_ne r v h2.symm
  have some_ : ∀ q, r q ≠ none → Kq.upd r k v q ≠ none := fun q hq => by
    by_cases hk : q = k
    · rw [hk, upd_same]
      simp
    · rw [upd_ne _ _ hk]
      exact hq
  exact ⟨h.kp, by rw [e1, e2]; exact h.row, fun x => some_ _ (h.da (e1 ▸ x)), fun x => some_ _ (h.db (e2 ▸ x))⟩
theorem Sw.loadj (h : Sw w0 g base e n c xs i j vi vj la lb sa sb r w) (hr : r la = none) (hne : i ≠ j) (hj : xs[j]? = some vj) : w.cell? ⟨g, j, none⟩ = some vj := by
  have hb : r sb = none := by
    cases hs : r sb with
    | none => rfl
    | some u => exact absurd hr (h.db (by rw [hs]; simp))
  have hrow := h.row
  rw [hb] at hrow
  refine own_cell hrow ?_
  cases hs : r sa with
  | none => exact hj
  | some u =>
    show (xs.set i vj)[j]? = some vj
    rw [List.getElem?_set_ne hne, hj]
theorem Sw.loadi (h : Sw w0 g base e n c xs i j vi vj la lb sa sb r w) (hr : r lb = none) (hne : i ≠ j) (hi : xs[i]? = some vi) : w.cell? ⟨g, i, none⟩ = some vi := by
  have ha : r sa = none := by
    cases hs : r sa with
    | none => rfl
    | some u => exact absurd hr (h.da (by rw [hs]; simp))
  have hrow := h.row
  rw [ha] at hrow
  refine own_cell hrow ?_
  cases hs : r sb with
  | none => exact hi
  | some u =>
    show (xs.set j vi)[i]? = some vi
    rw [List.getElem?_set_ne (fun e => hne e.symm), hi]
theorem Sw.sta (h : Sw w0 g base e n c xs i j vi vj la lb sa sb r w) (hr : r sa = none) (hl : r lb ≠ none) (hne : sa ≠ sb ∧ sa ≠ lb ∧ sa ≠ la) (hij : i ≠ j) (x : Value) : Sw w0 g base e n c xs i j vi vj la lb sa sb (Kq.upd r sa x) (w.setCell ⟨g, i, none⟩ vj) := by
  have e2 := upd_ne r x hne.1.symm
  have e3 := upd_ne r x hne.2.1.symm
  have e4 := upd_ne r x hne.2.2.symm
  have hrow := own_set h.row i vj
  refine ⟨h.kp.tr (kp_setOne _ _ _ _), ?_, fun _ => by rw [e3]; exact hl, fun y => by rw [e4]; exact h.db (e2 ▸ y)⟩
  rw [upd_same, e2]
  rw [hr] at hrow
  cases hs : r sb with
  | none => rw [hs] at hrow; exact hrow
  | some u =>
    rw [hs] at hrow
    replace hrow : (w.setCell ⟨g, i, none⟩ vj).ownsRow base e 1 (.slice (some ⟨g, 0, none⟩) n c) n ((xs.set j vi).set i vj) := hrow
    show (w.setCell ⟨g, i, none⟩ vj).ownsRow base e 1 (.slice (some ⟨g, 0, none⟩) n c) n ((xs.set i vj).set j vi)
    rw [List.set_comm _ _ hij]
    exact hrow
theorem Sw.stb (h : Sw w0 g base e n c xs i j vi vj la lb sa sb r w) (hr : r sb = none) (hl : r la ≠ none) (hne : sb ≠ sa ∧ sb ≠ lb ∧ sb ≠ la) (x : Value) : Sw w0 g base e n c xs i j vi vj la lb sa sb (Kq.upd r sb x) (w.setCell ⟨g, j, none⟩ vi) := by
  have e2 := upd_ne r x hne.1.symm
  have e3 := upd_ne r x hne.2.1.symm
  have e4 := upd_ne r x hne.2.2.symm
  have hrow := own_set h.row j vi
  refine ⟨h.kp.tr (kp_setOne _ _ _ _), ?_, fun y => by rw [e3]; exact h.da (e2 ▸ y), fun _ => by rw [e4]; exact hl⟩
  rw [upd_same, e2]
  rw [hr] at hrow
  exact hrow
theorem Sw.fin (h : Sw w0 g base e n c xs i j vi vj la lb sa sb r w) (h1 : r sa ≠ none) (h2 : r sb ≠ none) : w.ownsRow base e 1 (.slice (some ⟨g, 0, none⟩) n c) n ((xs.set i vj).set j vi) := by
  obtain ⟨z1, hz1⟩ := Option.ne_none_iff_exists'.1 h1
  obtain ⟨z2, hz2⟩ := Option.ne_none_iff_exists'.1 h2
  have hrow := h.row
  rw [hz1, hz2] at hrow
  exact hrow
theorem Sw.free (h : Sw w0 g base e n c xs i j vi vj la lb sa sb r w) (k : Nat) : w.frozen? ⟨g, k, none⟩ = false := own_free h.row k
end
end Go.Kq
