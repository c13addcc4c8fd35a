/- Chapter 24: slices.Values at int, its iterator, AppendSeq, Collect, Sorted. · Rows of lists of numbers: what they hold, how they grow. -/
import Derived.RangeFuncNested
import Derived.RangeFuncBound
import Derived.RangeFuncLeaves
import Derived.RangeFuncCalls
import Derived.Shelf.AbstractIn
import Derived.RangeFuncSeq
import Derived.WalkKit
import Derived.OwnWalkIn
import Derived.TacticsInMore
import Derived.RegionIn
import Derived.LoopNIn
import Derived.LoopIn
import Derived.Sort.LoopGhostIn
import Derived.Test.YtakgcnjpmpcekaaGreatProg
import Derived.Test.YtakgcnjpmpcekaaGreatXLibMakeM
import Derived.Test.YtakgcnjpmpcekaaGreatXRwMM
import Derived.Test.YtakgcnjpmpcekaaGreatXFlAM
namespace Go.Proofs.YtakgcnjpmpcekaaGreat
open Go.RowKit Go.Kq

set_option maxRecDepth 100000 in
set_option maxHeartbeats 2000000 in
theorem values_in (n : Nat) (hn : 1 ≤ n) (l Bm : Nat) (A : Option Addr) (q ca : Nat) (xs : List Int) (w0 W : World) (J Jx : List Int → World → Prop) (hq : q ≤ 100000)
    (hx : RdI .i64 w0 A q xs) (hbm : w0.cell? ⟨Bm, 0, none⟩ = some (.slice A q ca)) (hb0 : Below w0.heap.size w0 W)
    (hY : ∀ pre x W1, J pre W1 → pre.length < xs.length → YieldAt Fence.wide (n - 1) Tryz.prog l #[.int .i64 x] W1 fun e W' => (e = .returned (.bool true) ∧ J (pre ++ [x]) W' ∧ Below w0.heap.size W1 W') ∨ (e = .returned (.bool false) ∧ Jx (pre ++ [x]) W'))
    (h0 : J [] W) :
    CallsIn Fence.wide n Tryz.prog 76 #[.func (.yield l) #[] #[], .pointer (some ⟨Bm, 0, none⟩)] W fun e W' => (∃ v, e = .returned v) ∧ ((∃ ss : List Int, ss = xs ∧ J ss W') ∨ ∃ pre : List Int, True ∧ Jx pre W') := by
  have hl := hx.1
  have hc0 : W.cell? ⟨Bm, 0, none⟩ = some (.slice A q ca) := (Kp.below (S := No) hb0).cell hbm id
  refine callsIn_of_wp Tryz.func76 rfl trivial ?_ rfl
  simp only [Tryz.ntmps76, List.size_toArray, List.length_cons, List.length_nil, Nat.reduceAdd, Nat.reduceSub, Array.replicate_succ, Array.replicate_zero, List.push_toArray, List.append_toArray, List.nil_append, List.cons_append]
  have HX := Lib.hid hx
  have HL := Lib.hid hl
  have HB := Lib.hid hb0
  clear hx hl
  gi_wp2
  clear hc0
  gi_loopw [7] (fun vi wr => ∃ i : Nat, i ≤ q ∧ vi = .int .i64 i ∧ J (xs.take i) wr ∧ Below w0.heap.size W wr) (fun vi _ => q - (intOf vi).toNat)
  case atStart => exact ⟨0, by omega, rfl, h0, Below.refl _ _⟩
  case round =>
    obtain ⟨i, hi, rfl, hJs, hkb⟩ := hrel
    have HJ := Lib.hid hJs
    have HKB := Lib.hid hkb
    clear hJs hkb
    by_cases hlt : i < q
    · obtain ⟨x, hxv⟩ : ∃ x, xs[i]? = some x := ⟨_, List.getElem?_eq_getElem (by rw [HL.out]; exact hlt)⟩
      obtain ⟨b, o, rfl, hb, hc⟩ := (HX.out.no (Kp.below (S := No) (HB.out.trans HKB.out))).2 i x hxv
      have HT := Lib.hid (show xs.take (i + 1) = xs.take i ++ [x] by rw [List.take_add_one, hxv]; rfl)
      obtain ⟨fn, tmps, assign, body, hy, hR⟩ := hY (xs.take i) x _ HJ.out (by rw [List.length_take, HL.out]; omega)
      clear hxv
      gi_wp2
      refine hR.mono ?_
      clear hy hR
      rintro e W3 (⟨rfl, hJ3, hk3⟩ | ⟨rfl, hJx3⟩)
      · have HJ3 := Lib.hid hJ3
        have HK3 := Lib.hid (HKB.out.trans hk3)
        clear hJ3 hk3
        gi_wp2
        go_roundw
        case rel => exact ⟨i + 1, by omega, by go_num, by rw [HT.out]; exact HJ3.out, HK3.out⟩
        case measure => simp [intOf]; omega
      · have HJ3 := Lib.hid hJx3
        clear hJx3
        gi_wp2
        refine bodyPost_ret (results_none rfl _ _ _) rfl ?_
        exact ⟨⟨_, rfl⟩, .inr ⟨_, trivial, HJ3.out⟩⟩
    · obtain rfl : i = q := by omega
      gi_wp2
      go_end0
      exact ⟨⟨_, rfl⟩, .inl ⟨xs, rfl, by rw [← List.take_of_length_le (l := xs) (i := i) (by rw [HL.out]; exact Nat.le_refl _)]; exact HJ.out⟩⟩
attribute [local go_sem] Oper.semAt_some
set_option maxRecDepth 100000 in
set_option maxHeartbeats 4000000 in
/-- slices.AppendSeq(nil, seq) at the iterator of a slice. -/
theorem appendSeq_in (n : Nat) (hn : 6 ≤ n) (Bm : Nat) (A : Option Addr) (q ca : Nat) (xs : List Int) (w : World) (hq : q ≤ 100000) (hx : RdI .i64 w A q xs) (hbm : w.cell? ⟨Bm, 0, none⟩ = some (.slice A q ca)) :
    CallsIn Fence.wide n Tryz.prog 88 #[.slice none 0 0, .func (.func 76) #[] #[.pointer (some ⟨Bm, 0, none⟩)]] w fun e w' => ∃ v : Value, e = .returned v ∧ OwI w' w.heap.size v xs ∧ Below w.heap.size w w' := by
  have h1 : 1 ≤ n := by omega
  have hxl := hx.1
  have hseq : SeqStopsK Fence.wide (n - 1) Tryz.prog 76 #[.pointer (some ⟨Bm, 0, none⟩)] (fun x : Int => #[.int .i64 x]) (Below w.heap.size) (fun ss => ss = xs) (fun _ => True) xs.length w := fun l J Jx W hW _ _ hY h0 =>
    values_in (n - 1) (by omega) l Bm A q ca xs w W J Jx hq hx hbm hW hY h0
  have hxl2 : xs.length ≤ 100000 := by omega
  have HXL := Lib.hid hxl2
  clear hx hbm hxl hxl2
  obtain ⟨i0, hi, hz0, hz1, hz2⟩ := info_parts infoI0
  refine callsIn_of_wp_marks Tryz.func88 rfl trivial ?_ rfl
  simp only [Tryz.ntmps88, List.size_toArray, List.length_cons, List.length_nil, Nat.reduceAdd, Nat.reduceSub, Array.replicate_succ, Array.replicate_zero, List.push_toArray, List.append_toArray, List.nil_append, List.cons_append]
  gi_wp2
  have bS := Boxed.new w 36 (.slice none 0 0)
  have hB0 : Below w.heap.size w (w.alloc (.cells #[.slice none 0 0] 36)) := (Below.refl _ w).alloc (Nat.le_refl _) _
  have hsz : (w.alloc (.cells #[.slice none 0 0] 36)).heap.size = w.heap.size + 1 := by simp
  obtain ⟨W0, hW0⟩ : ∃ W0, w.alloc (.cells #[.slice none 0 0] 36) = W0 := ⟨_, rfl⟩
  rw [hW0] at bS hB0 hsz ⊢
  clear hW0
  have hW0s : w.heap.size ≤ W0.heap.size := by omega
  refine wpIn_rangeFunc_ownH rfl h1 (gf := 76) (lb := #[.pointer (some ⟨Bm, 0, none⟩)]) rfl trivial (enters_of Tryz.func76 (by kernel_rfl) rfl) hseq (fun h k => h.trans k) (fun W l o o' hl h h1 h2 => belowK_b hW0s W l o o' hl h h1 h2) hB0 (fun _ => rfl)
    (fun pre W => (∃ v, Boxed W w.heap.size 36 v ∧ W.ownsRow w.heap.size 3 1 v pre.length (pre.map (Value.int .i64)) ∧ True) ∧ Below w.heap.size w W)
    (fun _ _ _ => False)
    (OwnFrom.and (Own.from (holdsRow_own w.heap.size w.heap.size 36 3 1 (fun pre : List Int => pre.length) (fun pre => pre.map (Value.int .i64)) (fun _ _ => True)) _) (ownFrom_below (Nat.le_refl _) (by omega)))
    (fun _ _ _ _ _ hs _ _ => hs)
    ⟨⟨_, bS, ⟨rfl, .inl ⟨rfl, rfl⟩⟩, trivial⟩, hB0⟩
    (fun x a' W => a' = { tmps := #[.slice none 0 0, .func (.func 76) #[] #[.pointer (some ⟨Bm, 0, none⟩)], .pointer (some ⟨w.heap.size, 0, none⟩), undef, .slice none 0 0, .int .i64 x, .func (.func 76) #[] #[.pointer (some ⟨Bm, 0, none⟩)], .int .i64 x, undef, undef, undef, undef, undef], defers := [] })
    (fun x a' _ X Y row hs hg hr => hs)
    ?assign ?body ?done ?stop
  case assign =>
    rintro l pre x W K ⟨⟨v, bV, hrow, _⟩, hB1⟩ hK
    gi_wp2
    exact hK _ _ ((KeepsOthers.refl _).from _) (Below.refl _ _) ⟨⟨v, bV, hrow, trivial⟩, hB1⟩ rfl
  case body =>
    rintro l pre x a' W hl ⟨r, hr⟩ ⟨⟨v, bV, hrow, _⟩, hB1⟩ rfl hlt
    have cV := bV.cell
    have hsW := hB1.size
    have HB := Lib.hid hB1
    have HR := Lib.hid hrow
    have HV := Lib.hid bV
    have HL := Lib.hid hlt
    clear hB1 hrow bV hlt
    gi_wp2_with (gi_at_builtin; refine stop_in ?_)
    refine stop_out ?_
    refine wpListIn_append_own _ rfl _ _ 36 rfl w.heap.size 3 i0 _ 1 8 Tryz.underlying36 hi hz0 hz1 hz2 rfl (by decide) _ _ _ rfl (HR.out.alloc _) ⟨W.heap.size, 0, none⟩ 1 1 [.int .i64 x] rfl rfl (new_cells W [.int .i64 x] (by unfold maxLen; simp)) (by simp [Value.oneCell']) (by have := HL.out; have := HXL.out; unfold maxLen; omega) (by have := HL.out; have := HXL.out; omega) (by simp; omega) ?_
    intro v' w1 hown' hgrow _
    obtain ⟨g', cap', rfl⟩ := ownsRow_succ hown'
    obtain ⟨hv1, hv2, hr2, hk2, hb2⟩ := HV.out.appended (by decide) HR.out hsW (Nat.le_refl _) hown' hgrow
    have hc1 := hv1.cell
    have hf1 := hv1.frozen
    clear hown' hgrow hv1 cV
    gi_wp2
    exact ⟨hk2.from _, hb2, ⟨_, hv2, by rw [List.map_append, List.length_append]; simpa using hr2, trivial⟩, HB.out.trans hb2⟩
  case done =>
    rintro D zs W hD hS ⟨⟨v, bV, hrow, _⟩, hB1⟩ hK
    subst hS
    have cV := bV.cell
    gi_wp2
    refine ⟨by simp, .inl ⟨_, _, rfl, run_takeDeferred hK, ?_⟩⟩
    exact ⟨_, results_tmp rfl _ _ _, v, rfl, ownsRow_putObj hrow _ hK rfl, hB1.trans (belowK_b (w := w) (Nat.le_refl _) W D _ _ (by omega) hK rfl rfl)⟩
  case stop =>
    rintro D c pre W _ _ h _
    exact h.elim
end Go.Proofs.YtakgcnjpmpcekaaGreat

namespace Go.Proofs.YtakgcnjpmpcekaaGreat
open Go.RowKit Go.Kq

/-- An element of a row of lists. -/
def LEl (g : Nat) (w : World) (v u : Value) (S : List Int) : Prop := ∃ A n c, u = .slice A n c ∧ (A = none → n = 0 ∧ c = 0) ∧ RdI .i64 w A n S ∧ ∀ b o, A = some ⟨b, o, none⟩ → g ≤ b ∧ b < w.heap.size ∧ v.ownBlock ≠ some b
def RowL (base : Nat) (w : World) (v : Value) (Ls : List (List Int)) : Prop := ∃ us : List Value, us.length = Ls.length ∧ w.ownsRow base 36 1 v Ls.length us ∧ ∀ (i : Nat) u S, us[i]? = some u → Ls[i]? = some S → LEl base w v u S
/-- A slice of lists that is read alone; its blocks are g or behind. -/
def RdL (g : Nat) (w : World) (A : Option Addr) (n : Nat) (Ls : List (List Int)) : Prop := Ls.length = n ∧ ∀ (i : Nat) S, Ls[i]? = some S → ∃ b o A' n' c', A = some ⟨b, o, none⟩ ∧ (g ≤ b ∧ b < w.heap.size) ∧ w.cell? ⟨b, o + i, none⟩ = some (.slice A' n' c') ∧ (A' = none → n' = 0 ∧ c' = 0) ∧ RdI .i64 w A' n' S ∧ ∀ b o, A' = some ⟨b, o, none⟩ → g ≤ b
theorem RdL.kp {T : Nat → Prop} {g : Nat} {w w' : World} {A : Option Addr} {n : Nat} {Ls : List (List Int)} (h : RdL g w A n Ls) (k : Kp T w w') (hT : ∀ b, g ≤ b → b < w.heap.size → ¬ T b) : RdL g w' A n Ls := ⟨h.1, fun i S hS => by
  obtain ⟨b, o, A', n', c', h1, h2, h3, h4, h5, h6⟩ := h.2 i S hS
  exact ⟨b, o, A', n', c', h1, ⟨h2.1, Nat.lt_of_lt_of_le h2.2 k.size⟩, k.cell h3 (hT b h2.1 h2.2), h4, h5.kp k (fun b o e hb => hT b (h6 b o e) hb), h6⟩⟩
theorem RdL.no {g : Nat} {w w' : World} {A : Option Addr} {n : Nat} {Ls : List (List Int)} (h : RdL g w A n Ls) (k : Kp No w w') : RdL g w' A n Ls := h.kp k fun _ _ _ h => h
theorem RdL.mono {g g' : Nat} {w : World} {A : Option Addr} {n : Nat} {Ls : List (List Int)} (h : RdL g w A n Ls) (k : g' ≤ g) : RdL g' w A n Ls := ⟨h.1, fun i S hS => by
  obtain ⟨b, o, A', n', c', h1, h2, h3, h4, h5, h6⟩ := h.2 i S hS
  exact ⟨b, o, A', n', c', h1, ⟨Nat.le_trans k h2.1, h2.2⟩, h3, h4, h5, fun b o e => Nat.le_trans k (h6 b o e)⟩⟩
theorem RowL.nil (base : Nat) (w : World) : RowL base w (.slice none 0 0) [] := ⟨[], rfl, World.ownsRow_nil w _ _ _, fun i u S h => by simp at h⟩
theorem LEl.no {g : Nat} {w w' : World} {v u : Value} {S : List Int} (h : LEl g w v u S) (k : Kp No w w') : LEl g w' v u S := by
  obtain ⟨A, n, c, h1, h2, h3, h4⟩ := h
  exact ⟨A, n, c, h1, h2, h3.no k, fun b o e => ⟨(h4 b o e).1, Nat.lt_of_lt_of_le (h4 b o e).2.1 k.size, (h4 b o e).2.2⟩⟩
theorem RowL.no {base : Nat} {w w' : World} {v : Value} {Ls : List (List Int)} (h : RowL base w v Ls) (k : Kp No w w') : RowL base w' v Ls := by
  obtain ⟨us, h1, h2, h3⟩ := h
  exact ⟨us, h1, own_kp h2 k (fun _ _ h => h), fun i u S hu hS => (h3 i u S hu hS).no k⟩
theorem RowL.form {base : Nat} {w : World} {v : Value} {Ls : List (List Int)} (h : RowL base w v Ls) : ∃ a c, v = .slice a Ls.length c := by
  obtain ⟨us, h1, h2, h3⟩ := h
  obtain ⟨a, c, h4, _⟩ := own_form h2
  exact ⟨a, c, h4⟩
theorem RowL.rd {base : Nat} {w : World} {A : Option Addr} {n c : Nat} {Ls : List (List Int)} (h : RowL base w (.slice A n c) Ls) : RdL base w A n Ls := by
  obtain ⟨us, h1, h2, h3⟩ := h
  obtain ⟨a, c', h4, _, _, h6⟩ := own_form h2
  injection h4 with e1 e2 e3
  subst e1 e2 e3
  refine ⟨rfl, fun i S hS => ?_⟩
  have hi := (List.getElem?_eq_some_iff.1 hS).1
  obtain ⟨g, rfl⟩ := h6 (by omega)
  obtain ⟨u, hu⟩ : ∃ u, us[i]? = some u := ⟨_, List.getElem?_eq_getElem (by omega)⟩
  obtain ⟨A', n', c', rfl, q1, q2, q3⟩ := h3 i u S hu hS
  exact ⟨g, 0, A', n', c', rfl, own_ge h2 (g := g) rfl, by rw [Nat.zero_add]; exact own_cell h2 hu, q1, q2, fun b o e => (q3 b o e).1⟩
/-- One list more behind a row of lists; the list's row is the last thing that was laid. -/
theorem RowL.snoc {base : Nat} {w1 w5 : World} {v v' : Value} {Ls : List (List Int)} {S : List Int} {B m n c : Nat} {A : Option Addr} (hB : base ≤ B) (hm : Ls.length = m) (hn : A = none → n = 0 ∧ c = 0) (hr : RdI .i64 w1 A n S) (hA : ∀ b o, A = some ⟨b, o, none⟩ → B ≤ b ∧ b < w1.heap.size) (hv : ∀ b, v.ownBlock = some b → b < B)
    (hgrow : w1.grownBy w5 v.ownBlock) (hat : v'.ownBlock = v.ownBlock ∨ v'.ownBlock = some w1.heap.size) (us : List Value) (h1 : us.length = Ls.length) (h3 : ∀ (i : Nat) u S, us[i]? = some u → Ls[i]? = some S → LEl base w1 v u S)
    (hown : w5.ownsRow base 36 1 v' (m + 1) (us ++ [.slice A n c])) : RowL base w5 v' (Ls ++ [S]) := by
  subst hm
  have hk : Kp (fun k => v.ownBlock = some k) w1 w5 := Kp.grown hgrow fun k hk _ => hk
  have turn : ∀ b, b < w1.heap.size → v.ownBlock ≠ some b → v'.ownBlock ≠ some b := fun b h1 h2 e => by
    rcases hat with hat | hat
    · exact h2 (hat ▸ e)
    · rw [hat] at e
      injection e with e
      omega
  refine ⟨us ++ [.slice A n c], by simp [h1], by simpa using hown, fun i u T hu hT => ?_⟩
  rcases Nat.lt_or_ge i us.length with hi | hi
  · rw [List.getElem?_append_left hi] at hu
    rw [List.getElem?_append_left (by omega)] at hT
    obtain ⟨A', n', c', e1, e2, e3, e4⟩ := h3 i u T hu hT
    exact ⟨A', n', c', e1, e2, e3.kp hk (fun b o e _ => (e4 b o e).2.2), fun b o e => ⟨(e4 b o e).1, Nat.lt_of_lt_of_le (e4 b o e).2.1 hk.size, turn b (e4 b o e).2.1 (e4 b o e).2.2⟩⟩
  · rw [List.getElem?_append_right hi] at hu
    rw [List.getElem?_append_right (by omega)] at hT
    have h0 : i - us.length = 0 := by
      rcases Nat.eq_zero_or_pos (i - us.length) with h | h
      · exact h
      · rw [List.getElem?_eq_none (by simp; omega)] at hu
        cases hu
    rw [h0] at hu
    rw [← h1, h0] at hT
    simp at hu hT
    subst hu hT
    have fresh : ∀ b o, A = some ⟨b, o, none⟩ → v.ownBlock ≠ some b := fun b o e h => by
      have := (hA b o e).1
      have := hv b h
      omega
    exact ⟨A, n, c, rfl, hn, hr.kp hk (fun b o e _ h => fresh b o e h), fun b o e => ⟨Nat.le_trans hB (hA b o e).1, Nat.lt_of_lt_of_le (hA b o e).2 hk.size, turn b (hA b o e).2 (fresh b o e)⟩⟩
theorem infoSl : (Tryz.prog.info? 36).map (fun i => (i.zero, i.size, i.bytes)) = some (some (.slice none 0 0), 1, 24) := by kernel_rfl
end Go.Proofs.YtakgcnjpmpcekaaGreat
