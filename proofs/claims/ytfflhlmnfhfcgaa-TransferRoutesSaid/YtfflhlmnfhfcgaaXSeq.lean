/- Chapter 33: maps.Keys at the balance's type, and the iterator that it hands back. -/
import Derived.RangeFuncNested
import Derived.RangeFuncBound
import Derived.RangeFuncLeaves
import Derived.RangeFuncCalls
import Derived.Shelf.AbstractIn
import Derived.RangeFuncSeq
import Derived.WalkKit
import Derived.OwnWalkIn
import Derived.TacticsInMore
import Derived.RegionIn
import Derived.LoopNIn
import Derived.LoopIn
import Derived.Sort.LoopGhostIn
import Derived.Test.YtfflhlmnfhfcgaaXCost
import Derived.Test.YtfflhlmnfhfcgaaXLibMapInM
namespace Go.Proofs.Ytfflhlmnfhfcgaa
open Go.RowKit Go.Kq

theorem wpLIn_next_key {F : Fence} {n : Nat} {P : Program} (w : World) {ops : Array Oper} {rest : List Oper} {o : Oper} {a : Act} {Q : Exit → Act → World → Prop} {b : Nat} {E : List (Key × Int)} (hg : o.guard = none) (it : Operand) (hop : o.op = Op.next it false) {kt : TypeId} (L : KeyOk P kt ek) {r : Nat} {S : List Key}
    (h : RangeAt w b r ek (Value.int .i64) E S) (hit : a.eval it = .pointer (some ⟨r, 0, none⟩))
    (hDone : (∀ k ∈ keys E, k ∈ S) → wpListIn F n P ops Q rest (a.put o.dst (.tuple #[.bool false])) w)
    (hMore : ∀ (d p f v : Int) w', ((d, p, f), v) ∈ E → (d, p, f) ∉ S → RangeAt w' b r ek (Value.int .i64) E ((d, p, f) :: S) → w.grownBy w' (some r) → w'.heap.size = w.heap.size →
      (Instr.entry (.pointer (some ⟨r, 0, none⟩))).run P w' = .ok (.tuple #[.agg #[.int .i64 d, .int .i64 p, .int .i64 f], .int .i64 v]) w' →
      wpListIn F n P ops Q rest (a.put o.dst (.tuple #[.bool true, .agg #[.int .i64 d, .int .i64 p, .int .i64 f], .int .i64 v])) w') : wpListIn F n P ops Q (o :: rest) a w :=
  wpLIn_next w hg it hop L h hit hDone fun ⟨d, p, f⟩ v w' h1 h2 h3 h4 h5 h6 => hMore d p f v w' h1 h2 h3 h4 h5 h6
theorem range_nodup {w : World} {b r : Nat} {E : List (Key × Int)} {S : List Key} (h : RangeAt w b r ek (Value.int .i64) E S) : S.Nodup ∧ (∀ k ∈ S, k ∈ keys E) := by
  obtain ⟨_, _, _, _, _, _, _, _, _, _, _, h1, h2⟩ := h
  exact ⟨h1, h2⟩
theorem perm_of_same {α : Type} {S U : List α} (hS : S.Nodup) (hU : U.Nodup) (h : ∀ x, x ∈ S ↔ x ∈ U) : S.Perm U :=
  (List.perm_ext_iff_of_nodup hS hU).2 h

set_option maxRecDepth 100000 in
set_option maxHeartbeats 1000000 in
theorem keys1_in (n : Nat) (hn : 1 ≤ n) (l Bm b : Nat) (E : List (Key × Int)) (J Jx : List Key → World → Prop)
    (hY : ∀ pre x W, J pre W → pre.length < E.length → YieldAt Fence.wide (n - 1) Try.prog l #[ek x] W fun e W' => (e = .returned (.bool true) ∧ J (pre ++ [x]) W' ∧ KeepsWalks W W') ∨ (e = .returned (.bool false) ∧ Jx (pre ++ [x]) W'))
    (W : World) (hJ : AbidesFrom W.heap.size J) (hm : W.cell? ⟨Bm, 0, none⟩ = some (.map (some b))) (hmap : MapAt W b ek (Value.int .i64) E) (h0 : J [] W) :
    CallsIn Fence.wide n Try.prog 71 #[.func (.yield l) #[] #[], .pointer (some ⟨Bm, 0, none⟩)] W fun e W' => (∃ v, e = .returned v) ∧ ((∃ ss : List Key, ss.Perm (keys E) ∧ J ss W') ∨ ∃ pre : List Key, True ∧ Jx pre W') := by
  have hnd := hmap.nodup
  refine callsIn_of_wp Try.func71 rfl trivial ?_ rfl
  simp only [Try.ntmps71, List.size_toArray, List.length_cons, List.length_nil, Nat.reduceAdd, Nat.reduceSub, Array.replicate_succ, Array.replicate_zero, List.push_toArray, List.append_toArray, List.nil_append, List.cons_append]
  gi_wp2_with (first
    | (gi_at_range; refine wpLIn_range _ rfl _ _ rfl Try.underlying64 hmap rfl ?_; intro w0 hrg0 hg0 hs0)
    | gi_in)
  have HND := Lib.hid hnd
  clear hnd
  go_frame
  gi_loopg [3] E.length (fun g _ wr => ∃ S : List Key, S.length + g = E.length ∧ RangeAt wr b W.heap.size ek (Value.int .i64) E S ∧ J S.reverse wr)
  case atStart =>
    exact ⟨[], by simp, hrg0, hJ [] W w0 none h0 hg0 (fun r e => by cases e)⟩
  case round =>
    obtain ⟨S, hcs, hrg, hJs⟩ := hrel
    clear hrg0 hg0 hs0
    have HC := Lib.hid hcs
    clear hcs
    gi_wp2_with (first
      | (gi_at_next; refine wpLIn_next_key _ rfl _ rfl keyOk hrg rfl (fun hall => ?_) (fun d p f v w2 hmem hnS hrng hgr hsz hen => ?_))
      | gi_in)
    · have h1 := range_nodup hrg
      have hP : S.Perm (keys E) := perm_of_same h1.1 HND.out fun k => ⟨h1.2 k, hall k⟩
      have HP := Lib.hid hP
      clear hP h1 hall
      gi_wp2
      go_end0
      exact ⟨⟨_, rfl⟩, .inl ⟨S.reverse, (List.reverse_perm S).trans HP.out, hJs⟩⟩
    · have hJ2 : J S.reverse w2 := hJ S.reverse wr w2 (some W.heap.size) hJs hgr (fun r e => by cases e; exact ⟨Nat.le_refl _, hrg.iter_walk⟩)
      have h1 := range_nodup hrng
      have hlt : S.length < E.length := by
        have := nodup_len _ _ h1.1 h1.2
        simp [keys] at this
        omega
      have hrngA := hrng.alloc (Obj.cells #[.int .i64 d, .int .i64 p, .int .i64 f] 92)
      have hJ3 : J S.reverse (w2.alloc (Obj.cells #[.int .i64 d, .int .i64 p, .int .i64 f] 92)) := hJ S.reverse w2 _ none hJ2 (World.grownBy_alloc w2 _ none) (fun r e => by cases e)
      obtain ⟨fn, tmps, assign, body, hy, hR⟩ := hY S.reverse (d, p, f) _ hJ3 (by simpa using hlt)
      have HL := Lib.hid hlt
      clear hsz h1 hlt hmem hgr hJ2 hrng hrg
      simp only [ek] at hy
      gi_wp2
      rw [hy, Oper.uponIn_round]
      refine ⟨fun _ => hn, hR.mono ?_⟩
      rintro e W3 (⟨rfl, hJ4, hk3⟩ | ⟨rfl, hJx⟩)
      · have hrg3 := hrngA.of_walks hk3
        gi_wp2
        gi_roundg (gk - 1)
        case measure => have := HC.out; have := HL.out; omega
        case rel => exact ⟨(d, p, f) :: S, by have := HC.out; have := HL.out; simp; omega, hrg3, by rw [List.reverse_cons]; exact hJ4⟩
      · gi_wp2
        refine bodyPost_ret (results_none rfl _ _ _) rfl ?_
        exact ⟨⟨_, rfl⟩, .inr ⟨_, trivial, hJx⟩⟩

theorem keys_stops (n : Nat) (hn : 1 ≤ n) (Bm b : Nat) (E : List (Key × Int)) (w : World) (hBm : Bm < w.heap.size) (hm : w.cell? ⟨Bm, 0, none⟩ = some (.map (some b))) (hmap : MapAt w b ek (Value.int .i64) E) :
    SeqStopsK Fence.wide n Try.prog 71 #[.pointer (some ⟨Bm, 0, none⟩)] (fun x : Key => #[ek x]) KeepsWalks (fun ss => ss.Perm (keys E)) (fun _ => True) E.length w := fun l J Jx W hW hJ _ hY h0 =>
  keys1_in n hn l Bm b E J Jx hY W hJ ((hW.cell (p := ⟨Bm, 0, none⟩) hBm).trans hm) (hmap.below hW hmap.lt) h0

set_option maxHeartbeats 1000000 in
theorem mkeys_any (mb : Option Nat) (w : World) :
    Calls Try.prog 58 #[.map mb] w fun e w' => e = .returned (.func (.func 71) #[] #[.pointer (some ⟨w.heap.size, 0, none⟩)]) ∧ w' = w.alloc (.cells #[.map mb] 64) := by
  go_enter Try.func58, Try.ntmps58
  go_wp2
  go_ret
  exact ⟨rfl, rfl⟩

/-- The cells of a key. -/
def kcells (k : Key) : List Value := [.int .i64 k.1, .int .i64 k.2.1, .int .i64 k.2.2]
theorem info92 : (Try.prog.info? 92).map (fun i => (i.zero, i.size, i.bytes)) = some (some (.agg #[.int .i64 0, .int .i64 0, .int .i64 0]), 3, 24) := by kernel_rfl
theorem new3 (w : World) (d p f : Int) (t : TypeId) : ∀ j u, (kcells (d, p, f))[j]? = some u → (w.alloc (.cells #[.int .i64 d, .int .i64 p, .int .i64 f] t)).cell? ((⟨w.heap.size, 0, none⟩ : Addr).add j) = some u := by
  intro j u hu
  match j, hu with
  | 0, hu => simp [kcells] at hu; subst hu; go_simp
  | 1, hu => simp [kcells] at hu; subst hu; go_simp
  | 2, hu => simp [kcells] at hu; subst hu; go_simp
  | m + 3, hu => simp [kcells] at hu
attribute [local go_sem] Oper.semAt_some

set_option maxRecDepth 100000 in
set_option maxHeartbeats 4000000 in
/-- slices.AppendSeq(nil, seq) against whatever iterator of keys. -/
theorem appendSeq_in (n : Nat) (hn : 6 ≤ n) (g : Nat) (lb : Array Value) (eg : ∀ args w, (callFunc g args).run Try.prog w = .ok (.enter g args) w)
    (S Sp : List Key → Prop) (N : Nat) (hN : N ≤ 1000000) (w : World) (hseq : SeqStopsK Fence.wide (n - 1) Try.prog g lb (fun x : Key => #[ek x]) KeepsWalks S Sp N w) :
    CallsIn Fence.wide n Try.prog 85 #[.slice none 0 0, .func (.func g) #[] lb] w fun e w' => ∃ (v : Value) (ss : List Key), e = .returned v ∧ S ss ∧ w'.ownsRow w.heap.size 92 3 v ss.length (ss.flatMap kcells) ∧ Below w.heap.size w w' := by
  have h1 : 1 ≤ n := by omega
  obtain ⟨i0, hi, hz0, hz1, hz2⟩ := info_parts info92
  refine callsIn_of_wp_marks Try.func85 rfl trivial ?_ rfl
  simp only [Try.ntmps85, List.size_toArray, List.length_cons, List.length_nil, Nat.reduceAdd, Nat.reduceSub, Array.replicate_succ, Array.replicate_zero, List.push_toArray, List.append_toArray, List.nil_append, List.cons_append]
  gi_wp2
  have bS := Boxed.new w 95 (.slice none 0 0)
  have hB0 : Below w.heap.size w (w.alloc (.cells #[.slice none 0 0] 95)) := (Below.refl _ w).alloc (Nat.le_refl _) _
  have hsz : (w.alloc (.cells #[.slice none 0 0] 95)).heap.size = w.heap.size + 1 := by simp
  obtain ⟨W0, hW0⟩ : ∃ W0, w.alloc (.cells #[.slice none 0 0] 95) = W0 := ⟨_, rfl⟩
  rw [hW0] at bS hB0 hsz ⊢
  clear hW0
  refine wpIn_rangeFunc_ownH rfl h1 (gf := g) (lb := lb) rfl trivial eg hseq walksK_t walksK_b hB0 (fun _ => rfl)
    (fun pre W => (∃ v, Boxed W w.heap.size 95 v ∧ W.ownsRow w.heap.size 92 3 v pre.length (pre.flatMap kcells) ∧ True) ∧ Below w.heap.size w W)
    (fun _ _ _ => False)
    (OwnFrom.and (Own.from (holdsRow_own w.heap.size w.heap.size 95 92 3 (fun pre : List Key => pre.length) (fun pre => pre.flatMap kcells) (fun _ _ => True)) _) (ownFrom_below (Nat.le_refl _) (by omega)))
    (fun _ _ _ _ _ hs _ _ => hs)
    ⟨⟨_, bS, ⟨rfl, .inl ⟨rfl, rfl⟩⟩, trivial⟩, hB0⟩
    (fun x a' W => ∃ Bx, w.heap.size < Bx ∧ W.heap[Bx]? = some (.cells (kcells x).toArray 92 (0, 0)) ∧ a' = { tmps := #[.slice none 0 0, .func (.func g) #[] lb, .pointer (some ⟨w.heap.size, 0, none⟩), undef, .slice none 0 0, .pointer (some ⟨Bx, 0, none⟩), .func (.func g) #[] lb, ek x, undef, undef, undef, undef, undef], defers := [] })
    (fun x a' _ X Y row hs hg hr => by
      obtain ⟨Bx, h1, h2, h3⟩ := hs
      refine ⟨Bx, h1, (hg.block Bx (Array.getElem?_eq_some_iff.1 h2).1 (fun e => ?_)).trans h2, h3⟩
      obtain ⟨_, o, ho, hc⟩ := hr Bx e.symm
      rw [h2] at ho
      cases ho
      cases hc)
    ?assign ?body ?done ?stop
  case assign =>
    rintro l pre ⟨d, p, f⟩ W K ⟨⟨v, bV, hrow, _⟩, hB1⟩ hK
    simp only [ek]
    gi_wp2
    exact hK _ _ ((KeepsOthers.alloc _ _).from _) (KeepsWalks.alloc _ _) ⟨⟨v, bV.alloc _, hrow.alloc _, trivial⟩, hB1.alloc hB1.size _⟩ ⟨W.heap.size, bV.lt, World.alloc_heap_new W _, rfl⟩
  case body =>
    rintro l pre ⟨d, p, f⟩ a' W hl ⟨r, hr⟩ ⟨⟨v, bV, hrow, _⟩, hB1⟩ ⟨Bx, hBx, bX, rfl⟩ hlt
    have cV := bV.cell
    have x0 : W.cell? ⟨Bx, 0, none⟩ = some (.int .i64 d) := by simp [World.cell?, bX, kcells]
    have x1 : W.cell? ⟨Bx, 1, none⟩ = some (.int .i64 p) := by simp [World.cell?, bX, kcells]
    have x2 : W.cell? ⟨Bx, 2, none⟩ = some (.int .i64 f) := by simp [World.cell?, bX, kcells]
    have hsW := hB1.size
    have HB := Lib.hid hB1
    have HR := Lib.hid hrow
    have HV := Lib.hid bV
    have HL := Lib.hid hlt
    clear hB1 hrow bV hlt bX
    gi_wp2_with (gi_at_builtin; refine stop_in ?_)
    refine stop_out ?_
    refine wpListIn_append_own _ rfl _ _ 95 rfl w.heap.size 92 i0 _ 3 24 Try.underlying95 hi hz0 hz1 hz2 rfl (by decide) _ _ _ rfl (HR.out.alloc _) ⟨W.heap.size, 0, none⟩ 1 1 (kcells (d, p, f)) rfl rfl (new3 W d p f _) (by simp [kcells, Value.oneCell']) (by have := HL.out; unfold maxLen; omega) (by have := HL.out; omega) (by simp; omega) ?_
    intro v' w1 hown' hgrow _
    obtain ⟨g', cap', rfl⟩ := ownsRow_succ hown'
    obtain ⟨hv1, hv2, hr2, hk2, hb2⟩ := HV.out.appended (by decide) HR.out hsW (Nat.le_refl _) hown' hgrow
    have hc1 := hv1.cell
    have hf1 := hv1.frozen
    clear hown' hgrow hv1 x0 x1 x2 cV
    gi_wp2
    exact ⟨hk2.from _, ⟨hk2.size, fun k o hk ho => hk2.same k o hk (Obj.not_cells_of_walk ho)⟩, ⟨_, hv2, by rw [List.flatMap_append, List.length_append]; simpa using hr2, trivial⟩, HB.out.trans hb2⟩
  case done =>
    rintro D zs W hD hS ⟨⟨v, bV, hrow, _⟩, hB1⟩ hK
    have cV := bV.cell
    gi_wp2
    refine ⟨by simp, .inl ⟨_, _, rfl, run_takeDeferred hK, ?_⟩⟩
    exact ⟨_, results_tmp rfl _ _ _, v, zs, rfl, hS, ownsRow_putObj hrow _ hK rfl, hB1.trans (belowK_b (w := w) (Nat.le_refl _) W D _ _ (by omega) hK rfl rfl)⟩
  case stop =>
    rintro D c pre W _ _ h _
    exact h.elim
end Go.Proofs.Ytfflhlmnfhfcgaa
