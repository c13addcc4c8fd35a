/- Chapter 33: the checks of lists of voices. · Chapter 33: slices.Clone of a row of the call's own. · Chapter 33: how voices that came in are read. -/
import Derived.Test.YtfflhlmnfhfcgaaProg
import Derived.KernelRfl
import Derived.WalkSpells
import Derived.Maps.AppendAt
import Derived.OwnWalk
import Derived.ProofKit
import Derived.OpenShut
import Derived.Deep.Slices
import Derived.Deep.Fields
import Derived.ChangeSame
import Derived.Test.YtfflhlmnfhfcgaaXBaseM
namespace Go.Proofs.Ytfflhlmnfhfcgaa
open Go.RowKit Go.Kq

theorem any_take_succ {α : Type} (p : α → Bool) (l : List α) (k : Nat) (v : α) (h : l[k]? = some v) : (l.take (k + 1)).any p = ((l.take k).any p || p v) := by
  rw [List.take_add_one, h]
  simp

set_option maxHeartbeats 400000 in
theorem index_any (A : Option Addr) (n cap : Nat) (vs : List Vc) (w : World) (h : RdV w A n vs) (hn : n ≤ 100000000) :
    Calls Try.prog 66 #[.slice A n cap, .func (.func 50) #[] #[]] w fun e w' => ∃ i : Int, e = .returned (.int .i64 i) ∧ (decide (0 ≤ i) = vs.any Vc.bad) ∧ Kp No w w' := by
  go_enter Try.func66, Try.ntmps66
  go_wp2_with fail
  go_loopw [8] (fun i wr => ∃ k : Nat, k ≤ n ∧ i = .int .i64 k ∧ (vs.take k).any Vc.bad = false ∧ Kp No w wr) (fun i _ => n - (intOf i).toNat)
  case atStart => exact ⟨0, by omega, rfl, by simp, Kp.refl _ _⟩
  case round =>
    obtain ⟨k, hk, rfl, hno, hkp⟩ := hrel
    by_cases hlt : k < n
    · obtain ⟨v, hv⟩ : ∃ v, vs[k]? = some v := ⟨_, List.getElem?_eq_getElem (by rw [h.1]; exact hlt)⟩
      obtain ⟨b, o, rfl, hb, c0, c1, c2, c3⟩ := (h.no hkp).2 k v hv
      have ht := any_take_succ Vc.bad vs k v hv
      have Ht := Lib.hid ht
      have Hno := Lib.hid hno
      have Hv := Lib.hid hv
      clear ht hno hv
      cases hbad : v.bad
      · go_wp2_with (go_at_call 50; refine (bad_any v _).mono ?_; rintro e w' ⟨rfl, hkp'⟩; rw [hbad])
        go_roundw
        case rel => exact ⟨k + 1, by omega, by go_num, by rw [Ht.out, Hno.out, hbad]; rfl, hkp.tr hkp'⟩
        case measure => simp [intOf]; omega
      · go_wp2_with (go_at_call 50; refine (bad_any v _).mono ?_; rintro e w' ⟨rfl, hkp'⟩; rw [hbad])
        go_ret
        refine ⟨k, rfl, ?_, hkp.tr hkp'⟩
        have : vs.any Vc.bad = true := List.any_eq_true.2 ⟨v, List.mem_of_getElem? Hv.out, hbad⟩
        rw [this]
        simp
    · go_wp2
      go_ret
      refine ⟨-1, rfl, ?_, hkp⟩
      rw [List.take_of_length_le (by rw [h.1]; omega)] at hno
      rw [hno]
      rfl

theorem contains_any (A : Option Addr) (n cap : Nat) (vs : List Vc) (w : World) (h : RdV w A n vs) (hn : n ≤ 100000000) :
    Calls Try.prog 49 #[.slice A n cap, .func (.func 50) #[] #[]] w fun e w' => e = .returned (.bool (vs.any Vc.bad)) ∧ Kp No w w' := by
  go_enter Try.func49, Try.ntmps49
  go_wp2_with (go_at_call 66; refine (index_any A n cap vs _ h hn).mono ?_; rintro e w' ⟨i, rfl, hi, hkp⟩)
  go_ret
  exact ⟨by first | rfl | exact ret_bool hi, hkp⟩

/-- The error of two lists. -/
def chk (want have_ : List Vc) (most : Int) : Int := if 24 < want.length ∨ most < have_.length then 3 else if want.any Vc.bad || have_.any Vc.bad then 2 else 0
theorem chk_long {want have_ : List Vc} {most : Int} (h : 24 < want.length ∨ most < have_.length) : chk want have_ most = 3 := by unfold chk; rw [if_pos h]
theorem chk_bad {want have_ : List Vc} {most : Int} (h : ¬ (24 < want.length ∨ most < have_.length)) (hb : (want.any Vc.bad || have_.any Vc.bad) = true) : chk want have_ most = 2 := by unfold chk; rw [if_neg h, if_pos hb]
theorem chk_ok {want have_ : List Vc} {most : Int} (h : ¬ (24 < want.length ∨ most < have_.length)) (hb : (want.any Vc.bad || have_.any Vc.bad) = false) : chk want have_ most = 0 := by unfold chk; rw [if_neg h, if_neg (by rw [hb]; simp)]

set_option maxHeartbeats 400000 in
theorem check_any (A B : Option Addr) (n m ca cb : Nat) (xs ys : List Vc) (most : Int) (w : World) (hx : RdV w A n xs) (hy : RdV w B m ys) (hm : most ≤ 24) :
    Calls Try.prog 30 #[.slice A n ca, .slice B m cb, .int .i64 most] w fun e w' => e = .returned (.int .i64 (chk xs ys most)) ∧ Kp No w w' := by
  have hxl := hx.1
  have hyl := hy.1
  by_cases hl : 24 < xs.length ∨ most < ys.length
  · rw [chk_long hl]
    subst hxl hyl
    rcases Decidable.em (24 < xs.length) with h1 | h1
    · go_enter Try.func30, Try.ntmps30
      go_wp2
      all_goals
        go_ret
        exact ⟨rfl, Kp.refl _ _⟩
    · have h2 : most < ys.length := hl.resolve_left h1
      go_enter Try.func30, Try.ntmps30
      go_wp2
      all_goals
        go_ret
        exact ⟨rfl, Kp.refl _ _⟩
  · have h1 : ¬ 24 < xs.length := fun h => hl (.inl h)
    have h2 : ¬ most < ys.length := fun h => hl (.inr h)
    subst hxl hyl
    cases hxb : xs.any Vc.bad
    · have Hx := Lib.hid hxb
      clear hxb
      cases hyb : ys.any Vc.bad
      all_goals
        have Hc := Lib.hid (show chk xs ys most = if ys.any Vc.bad then 2 else 0 by unfold chk; rw [if_neg hl, Hx.out]; rfl)
        have Hy := Lib.hid hyb
        clear hyb hl
        go_enter Try.func30, Try.ntmps30
        go_wp2_with fail
        refine (contains_any A _ ca xs _ hx (by omega)).mono ?_
        rintro e w' ⟨rfl, hkp⟩
        rw [Hx.out]
        go_wp2_with fail
        refine (contains_any B _ cb ys _ (hy.no hkp) (by omega)).mono ?_
        rintro e w2 ⟨rfl, hkp2⟩
        rw [Hy.out]
        go_wp2_with fail
        go_ret
        exact ⟨ret_i64 (by rw [Hc.out, Hy.out]; rfl), hkp.tr hkp2⟩
    · rw [chk_bad hl (by rw [hxb]; rfl)]
      have Hx := Lib.hid hxb
      clear hxb hl
      go_enter Try.func30, Try.ntmps30
      go_wp2_with fail
      refine (contains_any A _ ca xs _ hx (by omega)).mono ?_
      rintro e w' ⟨rfl, hkp⟩
      rw [Hx.out]
      go_wp2_with fail
      go_ret
      exact ⟨rfl, hkp⟩
end Go.Proofs.Ytfflhlmnfhfcgaa

namespace Go.Proofs.Ytfflhlmnfhfcgaa
open Go.RowKit Go.Kq

theorem info3 : (Try.prog.info? 3).map (fun i => (i.zero, i.size, i.bytes)) = some (some (.int .i64 0), 1, 8) := by kernel_rfl
set_option maxHeartbeats 400000 in
theorem clone_any (g n cap base : Nat) (xs : List Value) (w : World) (h : w.ownsRow base 3 1 (.slice (some ⟨g, 0, none⟩) n cap) n xs) (h1 : ∀ u ∈ xs, u.oneCell' = true) (hn : n ≤ 1000) :
    Calls Try.prog 53 #[.slice (some ⟨g, 0, none⟩) n cap] w fun e w' => ∃ v, e = .returned v ∧ w'.ownsRow w.heap.size 3 1 v n xs ∧ Kp No w w' := by
  obtain ⟨i0, hi0, hz0, hz1, hz2⟩ := info_parts info3
  have qT : ∀ (w : World) (a : Option Addr) (n c n' c' : Nat), (binOp .eql 23 (.slice a n c) (.slice none n' c')).run Try.prog w = .ok (.bool a.isNone) w := fun w a n c n' c' => Lib.run_eql_slice_nil w _ _ a n c n' c' Try.underlying23
  have hlt : g < w.heap.size := by
    rcases h.2 with ⟨h0, _⟩ | ⟨g', cap', cur, hv, _, hh, _⟩
    · cases h0
    · cases hv
      exact (Array.getElem?_eq_some_iff.1 hh).1
  have hc : ∀ j u, xs[j]? = some u → (w.alloc (.cells #[] 3)).cell? ((⟨g, 0, none⟩ : Addr).add j) = some u := fun j u hu => by
    have hj : j < n * 1 := by
      have := (List.getElem?_eq_some_iff.1 hu).1
      rw [h.1] at this
      exact this
    rw [show ((⟨g, 0, none⟩ : Addr).add j) = ⟨g, j, none⟩ by unfold Addr.add; split <;> simp_all, World.cell?_alloc_past _ _ _ hlt, h.cellAt j hj, hu]
  have hown : (w.alloc (.cells #[] 3)).ownsRow w.heap.size 3 1 (.slice (some ⟨w.heap.size, 0, none⟩) 0 0) 0 [] :=
    ⟨rfl, .inr ⟨_, 0, #[], rfl, Nat.le_refl _, heap_alloc_new w _, by omega, by omega, rfl, rfl⟩⟩
  go_enter Try.func53, Try.ntmps53
  go_wp2_with (at_builtin; refine wpList_append_own_at _ rfl _ _ 23 rfl w.heap.size 3 i0 (.int .i64 0) 1 8 Try.underlying23 hi0 hz0 hz1 hz2 rfl (by decide) (.slice (some ⟨w.heap.size, 0, none⟩) 0 0) 0 [] rfl hown ⟨g, 0, none⟩ n cap xs rfl h.1 hc h1 (by unfold maxLen; omega) (by omega) (by simp) ?_; intro v' w1 hown' hgrow hnil hat)
  go_ret
  refine ⟨v', rfl, by simpa using hown', (Kp.alloc _ _ _).trans (Kp.grown (S := Kq.One w.heap.size) hgrow fun k hk _ => by simp [Value.ownBlock] at hk; exact hk.symm) fun k hk hS => ?_⟩
  unfold Kq.One at hS
  omega
end Go.Proofs.Ytfflhlmnfhfcgaa

namespace Go.Proofs.Ytfflhlmnfhfcgaa
open Go.ChangeShapes Go.WideShapes Go.RowKit Go.Deep Go.Kq

theorem choose_list {α : Type} {P : Nat → α → Prop} : ∀ n : Nat, (∀ i, i < n → ∃ a, P i a) → ∃ l : List α, l.length = n ∧ ∀ i a, l[i]? = some a → P i a
  | 0, _ => ⟨[], rfl, fun i a h => by simp at h⟩
  | n + 1, h => by
    obtain ⟨l, hl, hp⟩ := choose_list n fun i hi => h i (by omega)
    obtain ⟨a, ha⟩ := h n (by omega)
    refine ⟨l ++ [a], by simp [hl], fun i b hb => ?_⟩
    rcases Nat.lt_trichotomy i n with h1 | h1 | h1
    · rw [List.getElem?_append_left (by omega)] at hb
      exact hp i b hb
    · subst h1
      rw [List.getElem?_append_right (by omega), hl] at hb
      simp at hb
      exact hb ▸ ha
    · rw [List.getElem?_eq_none (by simp; omega)] at hb
      cases hb
section
variable {H : Type} {enc : TypeId × Value → H} {W : World} {base : Nat} {spare : Nat → Bool} {held : Bool}
theorem one_int {fuel : Nat} {v : Value} {y : DataW H × List MemPlace} (h : DataW.trod enc Try.prog W base spare held fuel 3 [v] = some y) : ∃ x : Int, v = .int .i64 x := by
  obtain ⟨x, h1, _⟩ := DataW.trod_int Try.underlying3 h
  simp at h1
  exact ⟨x, h1⟩
theorem c38 : Try.prog.cellsOf 38 = 4 := by kernel_rfl
theorem c3 : Try.prog.cellsOf 3 = 1 := by kernel_rfl
theorem c30 : Try.prog.cellsOf 30 = 2 := by kernel_rfl
set_option maxRecDepth 100000 in
theorem four_cells {cs : List Value} {n : Nat} {y : DataW H × List MemPlace} (h : DataW.trod enc Try.prog W base spare held n 38 cs = some y) : ∃ v : Vc, cs = [.int .i64 v.d, .int .i64 v.p, .int .i64 v.f, .int .i64 v.q] := by
  obtain ⟨ys, m, hn, _, hlen, hyl, hf⟩ := DataW.trod_struct Try.underlying38 h
  rw [c38] at hlen
  have key : ∀ (i : Nat) (f : Field), i < 4 → (#[{ name := "Division", type := 3, offset := 0, embedded := false, tag := "", pkgPath := "", byteOffset := 0 }, { name := "Pitch", type := 3, offset := 1, embedded := false, tag := "", pkgPath := "", byteOffset := 8 }, { name := "Family", type := 3, offset := 2, embedded := false, tag := "", pkgPath := "", byteOffset := 16 }, { name := "Power", type := 3, offset := 3, embedded := false, tag := "", pkgPath := "", byteOffset := 24 }] : Array Field)[i]? = some f → f.offset = i → f.type = 3 → ∃ x : Int, cs[i]? = some (.int .i64 x) := by
    intro i f hi hfi ho ht
    have g := hf i f hfi
    rw [ho, ht, c3] at g
    have hys : ys[i]? = some (ys[i]'(by simp at hyl; omega)) := List.getElem?_eq_getElem (by simp at hyl; omega)
    have hc : cs[i]? = some (cs[i]'(by omega)) := List.getElem?_eq_getElem (by omega)
    have ht1 : (cs.drop i).take 1 = [cs[i]'(by omega)] := by
      rw [List.drop_eq_getElem_cons (by omega)]
      rfl
    rw [ht1, hys] at g
    obtain ⟨x, hx⟩ := one_int g
    exact ⟨x, by rw [hc, hx]⟩
  obtain ⟨d, h0⟩ := key 0 _ (by omega) rfl rfl rfl
  obtain ⟨p, h1⟩ := key 1 _ (by omega) rfl rfl rfl
  obtain ⟨f, h2⟩ := key 2 _ (by omega) rfl rfl rfl
  obtain ⟨q, h3⟩ := key 3 _ (by omega) rfl rfl rfl
  refine ⟨⟨d, p, f, q⟩, ?_⟩
  match cs, hlen with
  | [a0, a1, a2, a3], _ =>
    simp at h0 h1 h2 h3
    subst h0 h1 h2 h3
    rfl
set_option maxRecDepth 100000 in
theorem open_voices {a : Option Addr} {len cap : Nat} {d : DataW H} {p : List MemPlace} (h : DataW.Trod enc Try.prog W base (fun _ => true) held 22 (.slice a len cap) d p) : ∃ vs, RdV W a len vs := by
  obtain ⟨fuel, hf⟩ := h
  rcases open_slice Try.underlying22 hf with ⟨hcs, _⟩ | ⟨x, l, c, m, n, D, Pl, hcs, hb, hl, hm, hmm, _, hi⟩
  · simp [Value.cells] at hcs
    obtain ⟨rfl, rfl, rfl⟩ := hcs
    exact ⟨[], rfl, fun i v h => by simp at h⟩
  · simp [Value.cells] at hcs
    obtain ⟨rfl, rfl, rfl⟩ := hcs
    simp at hmm
    subst hmm
    rw [c38] at hi
    by_cases hz : len = 0
    · subst hz
      exact ⟨[], rfl, fun i v h => by simp at h⟩
    obtain ⟨b0, o0, sp⟩ := x
    have hsp : sp = none := by
      obtain ⟨cs', hc, ht⟩ := hi 0 (by omega)
      obtain ⟨_, _, hat⟩ := World.cells?_some hc
      have e0 := hat 0 (by omega)
      obtain ⟨v, rfl⟩ := four_cells ht
      simpa [Addr.add] using World.cell?_spot e0
    subst hsp
    obtain ⟨vs, hvl, hvs⟩ := choose_list (P := fun i (v : Vc) => ∃ b o, (some ⟨b0, o0, none⟩ : Option Addr) = some ⟨b, o, none⟩ ∧ b < W.heap.size ∧ W.cell? ⟨b, o + i * 4, none⟩ = some (.int .i64 v.d) ∧ W.cell? ⟨b, o + i * 4 + 1, none⟩ = some (.int .i64 v.p) ∧ W.cell? ⟨b, o + i * 4 + 2, none⟩ = some (.int .i64 v.f) ∧ W.cell? ⟨b, o + i * 4 + 3, none⟩ = some (.int .i64 v.q)) len (fun i hil => by
      obtain ⟨cs', hc, ht⟩ := hi i (by omega)
      obtain ⟨v, rfl⟩ := four_cells ht
      obtain ⟨_, _, hat⟩ := World.cells?_some hc
      have e0 := hat 0 (by omega)
      have e1 := hat 1 (by omega)
      have e2 := hat 2 (by omega)
      have e3 := hat 3 (by omega)
      simp only [Addr.add_lit, Nat.add_zero] at e0 e1 e2 e3
      exact ⟨v, b0, o0, rfl, World.block_lt_of_cell? W _ e0, e0, e1, e2, e3⟩)
    exact ⟨vs, hvl, hvs⟩
set_option maxRecDepth 100000 in
theorem open_pair {v : Value} {d : DataW H} {p : List MemPlace} {r : Reach} {b0 : Nat} (hv : Value.okWide Try.prog W r b0 30 v) (h : DataW.Trod enc Try.prog W base (fun _ => true) held 30 v d p) : ∃ x y : Int, v = .agg #[.int .i64 x, .int .i64 y] := by
  simp only [Value.okWide, Try.underlying30] at hv
  obtain ⟨cs, rfl, hsz, _⟩ := hv
  rw [c30] at hsz
  obtain ⟨fuel, hf⟩ := h
  obtain ⟨xs, m, _, _, hlen, hxl, hel⟩ := DataW.trod_array Try.underlying30 hf
  rw [c3] at hel
  obtain ⟨l⟩ := cs
  match l, hsz with
  | [c0, c1], _ =>
    have e0 := hel 0 (by omega)
    have e1 := hel 1 (by omega)
    match xs, hxl with
    | [y0, y1], _ =>
      obtain ⟨x, rfl⟩ := one_int (by simpa [Value.cells] using e0)
      obtain ⟨y, rfl⟩ := one_int (by simpa [Value.cells] using e1)
      exact ⟨x, y, rfl⟩
end
end Go.Proofs.Ytfflhlmnfhfcgaa
