/- Chapter 27: Faults: the walk. Printed by gen_faw.py. -/
import Derived.RangeFuncBox
import Derived.Test.YtjbpdimepckmfaaXLknPM
import Derived.Test.YtjbpdimepckmfaaXNxtPM
import Derived.Test.YtjbpdimepckmfaaXStW
import Derived.Test.YtjbpdimepckmfaaXLibStop
import Derived.Test.YtjbpdimepckmfaaXLibHvM
namespace Go.Proofs.Ytjbpdimepckmfaa
open Go.RowKit Go.Kq

/-! ### the fields by pipe -/
def fC (u : Pv) : List Value := [.int .i64 u.f0, .int .i64 u.f1, .int .i64 u.f2, .int .i64 u.f3, .int .i64 u.f4, .int .i64 u.f5, .int .i64 u.f6, .int .i64 u.f7]
def ev8 (u : Pv) : Value := .agg #[.int .i64 u.f0, .int .i64 u.f1, .int .i64 u.f2, .int .i64 u.f3, .int .i64 u.f4, .int .i64 u.f5, .int .i64 u.f6, .int .i64 u.f7]
theorem fC_set (v : Pv) {k : Nat} (hk : k < 8) (x : Int) : (fC v).set k (.int .i64 x) = fC (v.set k x) := by
  match k, hk with
  | 0, _ => rfl | 1, _ => rfl | 2, _ => rfl | 3, _ => rfl | 4, _ => rfl | 5, _ => rfl | 6, _ => rfl | 7, _ => rfl
theorem fC_get (v : Pv) {k : Nat} (hk : k < 8) : (fC v)[k]? = some (.int .i64 (v.get k)) := by
  match k, hk with
  | 0, _ => rfl | 1, _ => rfl | 2, _ => rfl | 3, _ => rfl | 4, _ => rfl | 5, _ => rfl | 6, _ => rfl | 7, _ => rfl
theorem set_set (v : Pv) {k : Nat} (hk : k < 8) (x y : Int) : (v.set k x).set k y = v.set k y := by
  match k, hk with
  | 0, _ => rfl | 1, _ => rfl | 2, _ => rfl | 3, _ => rfl | 4, _ => rfl | 5, _ => rfl | 6, _ => rfl | 7, _ => rfl
theorem zeroF (w : World) : (zeroValue 62).run Try.prog w = .ok (ev8 default) w := by kernel_rfl
theorem ev8_pv0 (p : Pp) (o : Option Pv) : ev8 (o.getD default) = ev8 (o.getD (pv0 p)) := by cases o <;> rfl
def BoxF (W : World) (g : Nat) (u : Pv) : Prop := W.heap[g]? = some (.cells (fC u).toArray 62 (0, 0))
theorem BoxF.at_ {W : World} {g : Nat} {u : Pv} (h : BoxF W g u) {j : Nat} {x : Value} (hj : (fC u)[j]? = some x) : W.cell? ⟨g, j, none⟩ = some x ∧ W.frozen? ⟨g, j, none⟩ = false := by
  unfold BoxF at h
  refine ⟨?_, by simp [World.frozen?, h]⟩
  rw [cell_of_row _ _ _ _ _ _ h]
  simpa using hj
theorem BoxF.set {W : World} {g : Nat} {u : Pv} (h : BoxF W g u) {k : Nat} (hk : k < 8) (x : Int) : BoxF (W.setCell ⟨g, k, none⟩ (.int .i64 x)) g (u.set k x) := by
  unfold BoxF at *
  rw [← fC_set u hk]
  simp [World.setCell, Array.getElem?_modify, h]
theorem BoxF.lt {W : World} {g : Nat} {u : Pv} (h : BoxF W g u) : g < W.heap.size := (Array.getElem?_eq_some_iff.1 h).1
/-- The map of the fields. -/
def FauAt (W : World) (B : Nat) (ws : List Wk) : Prop := ∃ E : List (Pp × Pv), MapAt W B ep ev8 E ∧ ∀ p, get1 E p = stOf ws p
theorem FauAt.on {W W' : World} {B : Nat} {ws : List Wk} (h : FauAt W B ws) (hb : W'.heap[B]? = W.heap[B]?) : FauAt W' B ws := by
  obtain ⟨E, hm, h1⟩ := h
  exact ⟨E, hm.of_block hb, h1⟩
theorem FauAt.lt {W : World} {B : Nat} {ws : List Wk} (h : FauAt W B ws) : B < W.heap.size := by
  obtain ⟨E, hm, _⟩ := h
  exact hm.lt
abbrev prs (pre : List CW) : List (Nat × Wk) := pre.map Subtype.val
/-- A round's own facts: the boxes of the map and of the list, both, and what lay. -/
def IF (w : World) (pre : List CW) (W : World) : Prop := (W.heap[w.heap.size + 1]? = some (.cells #[.map (some w.heap.size)] 99 (0, 0)) ∧ (∃ V, Boxed W (w.heap.size + 2) 52 V ∧ W.ownsRow w.heap.size 3 1 V (fauS (prs pre)).2.length ((fauS (prs pre)).2.map (Value.int .i64))) ∧ FauAt W w.heap.size (fauS (prs pre)).1) ∧ Below w.heap.size w W
theorem row_notCells {W : World} {base n : Nat} {e : TypeId} {size : Nat} {V : Value} {xs : List Value} (h : W.ownsRow base e size V n xs) {g : Nat} (hg : V.ownBlock = some g) : ∃ cs, W.heap[g]? = some (.cells cs e (0, 0)) := by
  rcases h.2 with ⟨rfl, _⟩ | ⟨g', cap, cur, rfl, _, hgb, _⟩
  · cases hg
  · cases hg
    exact ⟨_, hgb⟩
theorem IF.own (w : World) {B : Nat} (hB : w.heap.size + 3 ≤ B) : OwnFrom B (IF w) :=
  OwnFrom.and (fun s X Y row hs hg hr => by
    obtain ⟨h1, ⟨V, h2, h3⟩, h4⟩ := hs
    have hB2 : Boxed Y (w.heap.size + 2) 52 V := (hg.block _ h2.lt (fun e => by have := (hr _ e.symm).1; omega)).trans h2
    refine ⟨(hg.block _ (Array.getElem?_eq_some_iff.1 h1).1 (fun e => by have := (hr _ e.symm).1; omega)).trans h1, ⟨V, hB2, own_block h3 fun g hgv => ?_⟩, h4.on (hg.block _ h4.lt (fun e => by have := (hr _ e.symm).1; omega))⟩
    obtain ⟨cs, hcs⟩ := row_notCells h3 hgv
    refine hg.block g (Array.getElem?_eq_some_iff.1 hcs).1 fun e => ?_
    obtain ⟨_, o, ho, hno⟩ := hr _ e.symm
    rw [hcs] at ho
    cases ho
    cases hno) (ownFrom_below (Nat.le_refl _) (by omega))
/-- Writes to blocks of cells that are neither bools nor records. -/
theorem Rnd.cells {B n₀ : Nat} {S : Nat → Prop} {W W' : World} (k : Kp S W W') (hs : n₀ ≤ W.heap.size) (h : ∀ g, g < W.heap.size → S g → n₀ ≤ g ∧ ∃ cs e m, W.heap[g]? = some (.cells cs e m) ∧ e ≠ 4 ∧ e ≠ 22) : Rnd B n₀ W W' := by
  refine ⟨⟨k.size, fun i o _ ho hc => ?_⟩, k.toBelowB hs fun i hi hS => ?_, fun i cs e m hi he => ?_⟩
  · refine k.heap ho fun hS => ?_
    obtain ⟨_, cs, e, m, h2, _⟩ := h i (Array.getElem?_eq_some_iff.1 ho).1 hS
    rw [ho] at h2
    cases h2
    cases hc
  · have := (h i (by omega) hS).1
    omega
  · refine k.heap hi fun hS => ?_
    obtain ⟨_, cs', e', m', h2, h3, h4⟩ := h i (Array.getElem?_eq_some_iff.1 hi).1 hS
    rw [hi] at h2
    cases h2
    rcases he with he | he
    · exact h3 he
    · exact h4 he
/-- A round's way out. -/
theorem IF.out {w W W3 : World} {B n : Nat} {pre : List CW} {x : CW} {V : Value} {ws : List Wk} {os : List Int} (hr : Rnd B w.heap.size W W3) (hb : Below w.heap.size w W) (hm : W3.heap[w.heap.size + 1]? = some (.cells #[.map (some w.heap.size)] 99 (0, 0)))
    (hV : Boxed W3 (w.heap.size + 2) 52 V) (hn : n = os.length) (hrow : W3.ownsRow w.heap.size 3 1 V n (os.map (Value.int .i64))) (hF : FauAt W3 w.heap.size ws) (hS : fauS (prs (pre ++ [x])) = (ws, os)) : KeepsFrom B W W3 ∧ KpB w.heap.size W W3 ∧ IF w (pre ++ [x]) W3 := by
  subst hn
  refine ⟨hr.kf, hr.kb, ⟨hm, ⟨V, hV, ?_⟩, ?_⟩, hb.trans hr.kb.1⟩
  · rw [hS]
    exact hrow
  · rw [hS]
    exact hF
theorem prs_snoc (pre : List CW) (x : CW) : fauS (prs (pre ++ [x])) = fstep (fauS (prs pre)) x.1 := by
  unfold prs
  rw [List.map_append]
  exact fauS_snoc _ _
attribute [local go_sem] Oper.semAt_some

set_option maxRecDepth 100000 in
set_option maxHeartbeats 8000000 in
theorem Faults_ok (A : Option Addr) (nn ca : Nat) (l : List Wk) (w : World) (hx : RdW w A nn l) (hf : Fits l) (h1 : chkL l = 0) :
    Calls Try.prog 34 #[.slice A nn ca] w fun e w' => ∃ v, e = .returned (.tuple #[v, .int .i64 0]) ∧ w'.ownsRow w.heap.size 3 1 v (fauS (cntL l)).2.length ((fauS (cntL l)).2.map (Value.int .i64)) ∧ Kp No w w' := by
  have hmm := @run_makeMap Try.prog
  have hc := Check_any A nn ca l w hx hf
  rw [h1] at hc
  obtain ⟨i0, hi0, hz0, hz1, hz2⟩ := info_parts info3
  have hR := rec_of h1
  have hn4 : nn ≤ 400 := by rw [← hx.1]; exact hR.len
  have HR := Lib.hid hR
  have HX := Lib.hid hx
  clear h1 hf hR hx
  refine (callsIn_wide (n := 6)).1 ?_
  refine callsIn_of_wp_marks Try.func34 rfl trivial ?_ rfl
  simp only [Try.ntmps34, List.size_toArray, List.length_cons, List.length_nil, Nat.reduceAdd, Nat.reduceSub, Array.replicate_succ, Array.replicate_zero, List.push_toArray, List.append_toArray, List.nil_append, List.cons_append]
  gi_wp2_with (first
    | (refine ⟨trivial, ?_⟩; gi_at_call 27; refine (callsIn_wide.2 hc).mono ?_; rintro e w1 ⟨rfl, hk1⟩; clear hc)
    | (refine ⟨trivial, ?_⟩; gi_at_call 69; refine (callsIn_wide.2 (counting_any _ _ _ _)).mono ?_; rintro e w' ⟨rfl, rfl⟩)
    | gi_in)
  have hx1 : RdW w1 A nn l := HX.out.no hk1
  obtain ⟨W0, hW0⟩ : ∃ W0, ((((w1.alloc (.map #[] 0)).alloc (.cells #[.map (some w1.heap.size)] 99)).alloc (.cells #[.slice none 0 0] 52)).alloc (.cells #[.slice A nn ca] 22)) = W0 := ⟨_, rfl⟩
  have hsz : W0.heap.size = w1.heap.size + 4 := by rw [← hW0]; simp
  have hB0 : Below w1.heap.size w1 W0 := by rw [← hW0]; exact ((((Below.refl _ w1).alloc (Nat.le_refl _) _).alloc (by simp) _).alloc (by simp; omega) _).alloc (by simp; omega) _
  have hbx : W0.heap[w1.heap.size + 1 + 1 + 1]? = some (.cells #[.slice A nn ca] 22 (0, 0)) := by
    rw [← hW0]
    have h := heap_alloc_new (((w1.alloc (.map #[] 0)).alloc (.cells #[.map (some w1.heap.size)] 99)).alloc (.cells #[.slice none 0 0] 52)) (.cells #[.slice A nn ca] 22)
    simpa using h
  have hI0 : IF w1 [] W0 := by
    refine ⟨⟨?_, ⟨.slice none 0 0, ?_, ⟨rfl, .inl ⟨rfl, rfl⟩⟩⟩, ?_⟩, hB0⟩
    · rw [← hW0]
      refine (Kp.alloc No _ _).heap ((Kp.alloc No _ _).heap ?_ id) id
      have h := heap_alloc_new (w1.alloc (.map #[] 0)) (.cells #[.map (some w1.heap.size)] 99)
      simpa using h
    · rw [← hW0]
      refine (Kp.alloc No _ _).heap ?_ id
      have h := heap_alloc_new ((w1.alloc (.map #[] 0)).alloc (.cells #[.map (some w1.heap.size)] 99)) (.cells #[.slice none 0 0] 52)
      simpa using h
    · rw [← hW0]
      have h0 : FauAt (w1.alloc (.map #[] 0)) w1.heap.size [] := ⟨[], MapAt.made w1 ep ev8, fun p => rfl⟩
      have h1 := h0.on ((Kp.alloc No _ (.cells #[.map (some w1.heap.size)] 99)).block _ h0.lt id)
      have h2 := h1.on ((Kp.alloc No _ (.cells #[.slice none 0 0] 52)).block _ h1.lt id)
      exact h2.on ((Kp.alloc No _ (.cells #[.slice A nn ca] 22)).block _ h2.lt id)
  rw [hW0]
  clear hW0 hmm
  have hLN := hx1.1
  refine wpIn_rangeFunc_ownH rfl (by decide) (gf := 87) (lb := #[.pointer (some ⟨w1.heap.size + 1 + 1 + 1, 0, none⟩)]) rfl trivial (enters_of Try.func87 (by kernel_rfl) rfl)
    (count_stops 5 (by omega) (w1.heap.size + 1 + 1 + 1) w1 A nn ca l HR.out hx1 W0 hB0 hbx) KpB.trans (KpB.put (by omega)) (Below.refl _ _) (fun _ => rfl)
    (IF w1) (fun _ _ _ => False) (IF.own w1 (by omega)) (fun _ _ _ _ _ hs _ _ => hs) hI0
    (fun x a' W => ∃ Bx, W.heap[Bx]? = some (.cells x.1.2.cells.toArray 41 (0, 0)) ∧ a' = { tmps := #[.slice A nn ca, undef, .slice none 0 0, .int .i64 0, .int .i64 0, .pointer (some ⟨w1.heap.size + 1, 0, none⟩), .pointer (some ⟨w1.heap.size + 1 + 1, 0, none⟩), .int .i64 (x.1.1 : Int), .pointer (some ⟨Bx, 0, none⟩), undef, undef, .slice A nn ca, .int .i64 0, .int .i64 0, .bool false, undef, .map (some w1.heap.size), .slice A nn ca, .func (.func 87) #[] #[.pointer (some ⟨w1.heap.size + 1 + 1 + 1, 0, none⟩)], .int .i64 (x.1.1 : Int), x.1.2.val, undef, undef, undef, undef, undef, undef, undef, undef, undef, undef, undef, undef, undef, undef, undef, undef, undef, undef, undef, undef, undef, undef, undef, undef, undef, undef, undef, undef, undef, undef, undef, undef, undef, undef, undef, undef, undef, undef, undef, undef, undef, undef, undef, undef, undef, undef], defers := [] })
    (fun x a' _ X Y row hs hg hr => by
      obtain ⟨Bx, h2, h3⟩ := hs
      refine ⟨Bx, (hg.block Bx (Array.getElem?_eq_some_iff.1 h2).1 (fun e => ?_)).trans h2, h3⟩
      obtain ⟨_, o, ho, hc⟩ := hr Bx e.symm
      rw [h2] at ho
      cases ho
      cases hc)
    ?assign ?body ?done ?stop
  case assign =>
    rintro lp pre x W K hI hK
    have hs := hI.2.size
    simp only [encC, Wk.val]
    gi_wp2
    exact hK _ _ ((KeepsOthers.alloc _ _).from _) (KpB.kp (Kp.alloc _ _ _) hs) ((IF.own w1 (Nat.le_refl _)).alloc _ hI) ⟨W.heap.size, heap_alloc_new _ _, rfl⟩
  case body =>
    rintro lp pre x a' W hl ⟨r, hr⟩ ⟨⟨hpb, ⟨V, hV, hrow⟩, hfa⟩, hbl⟩ ⟨Bx, hbx, rfl⟩ hlt
    obtain ⟨⟨i, v⟩, hok, h4⟩ := x
    dsimp only at hbx hok h4 ⊢
    have HSN := Lib.hid (prs_snoc pre ⟨(i, v), hok, h4⟩)
    have hM4 : (fauS (prs pre)).2.length ≤ 400 := by
      have h1 := (fauS_len (prs pre)).2
      rw [List.length_map] at h1
      omega
    obtain ⟨M, hM⟩ : ∃ M, M = (fauS (prs pre)).2.length := ⟨_, rfl⟩
    rw [← hM] at hrow hM4
    have HM := Lib.hid hM
    have HPB := Lib.hid hpb
    have HBX := Lib.hid hbx
    have HVB := Lib.hid hV
    have HRW := Lib.hid hrow
    have hsW := hbl.size
    obtain ⟨E, hm, hge⟩ := hfa
    have HMP := Lib.hid hm
    have HG := Lib.hid hge
    have hbx := HBX.out
    have hpb := HPB.out
    have d3 : W.cell? ⟨Bx, 3, none⟩ = some (.int .i64 v.kd) := by rw [cell_of_row _ _ _ _ _ _ hbx]; rfl
    have hBl := (Array.getElem?_eq_some_iff.1 hbx).1
    clear hV hrow hm hge hlt hr hl hM
    rcases okW_cases hok h4 with ⟨hk12, f, hfd, hf8⟩ | h3
    rotate_left
    · have p3 : (v.kd == 3) = true := by rw [beq_iff_eq]; exact h3
      have HSS := Lib.hid (show fauS (prs (pre ++ [⟨(i, v), hok, h4⟩])) = fauS (prs pre) by
        rw [HSN.out]
        unfold fstep
        rw [if_pos h3])
      clear h3 hbx hpb
      gi_wp2
      exact IF.out (x := ⟨(i, v), hok, h4⟩) (n := M) (Rnd.refl _ _ _) hbl HPB.out HVB.out HM.out HRW.out ⟨E, HMP.out, HG.out⟩ HSS.out
    have d4 : W.cell? ⟨Bx, 4, none⟩ = some (.int .i64 v.rk) := by rw [cell_of_row _ _ _ _ _ _ hbx]; rfl
    have d5 : W.cell? ⟨Bx, 5, none⟩ = some (.int .i64 v.nt) := by rw [cell_of_row _ _ _ _ _ _ hbx]; rfl
    have b3 : W.cell? ⟨w1.heap.size + 1, 0, none⟩ = some (.map (some w1.heap.size)) := by rw [cell_of_row _ _ _ _ _ _ hpb]; rfl
    have hlk := HMP.out.run_lookup pipeOk Try.underlying99 (zeroF W) v.pp false
    rw [HG.out, ev8_pv0 v.pp, show (stOf (fauS (prs pre)).1 v.pp).getD (pv0 v.pp) = fPv (fauS (prs pre)).1 v from rfl] at hlk
    simp only [ep, Wk.pp, ev8] at hlk
    have HFD := Lib.hid hfd
    have hf8i : (f : Int) < 8 := by omega
    have HK12 := Lib.hid hk12
    clear hbx hpb hk12 hfd
    rcases HK12.out with hkd | hkd
    · have HKD := Lib.hid hkd
      clear hkd
      have p2 : (v.kd == 2) = false := by rw [HKD.out]; rfl
      have p3 : (v.kd == 3) = false := by rw [HKD.out]; rfl
      obtain ⟨e0, he0⟩ : ∃ e0, e0 = fPv (fauS (prs pre)).1 v := ⟨_, rfl⟩
      obtain ⟨now, hnow⟩ : ∃ now, now = v.vl := ⟨_, rfl⟩
      obtain ⟨u, hu⟩ : ∃ u, u = e0.set f now := ⟨_, rfl⟩
      have HU := Lib.hid (show u = stepP (fPv (fauS (prs pre)).1 v) v by
        rw [hu, hnow, ← he0]
        unfold stepP
        rw [if_pos HKD.out, HFD.out]
        rfl)
      have HBD := Lib.hid (show badF (fauS (prs pre)).1 v = (decide (now < e0.get f) && decide ((f : Int) < 4)) by
        unfold badF
        rw [← HU.out, ← he0, hu, HFD.out, Int.toNat_natCast, get_set e0 hf8])
      rw [show fPv (fauS (prs pre)).1 v = e0 from he0.symm] at hlk
      have HNOW := Lib.hid hnow
      have HUU := Lib.hid hu
      clear he0 hu hnow
      have d67 := HBX.out
      gi_wp2_with (with_reducible refine stopIn_load 28 ?_)
      refine stop_out ?_
      change wpListIn _ _ _ _ _ _ _ (W.alloc (.cells (fC e0).toArray 62))
      obtain ⟨W8, hW8⟩ : ∃ W8, W8 = W.alloc (.cells (fC e0).toArray 62) := ⟨_, rfl⟩
      have hk8 : Kp No W W8 := by rw [hW8]; exact Kp.alloc _ _ _
      have HB8 := Lib.hid (show BoxF W8 W.heap.size e0 by rw [hW8]; exact heap_alloc_new _ _)
      rw [← hW8]
      obtain ⟨g8, hg8⟩ : ∃ g8, g8 = W.heap.size := ⟨_, rfl⟩
      rw [← hg8] at HB8 ⊢
      have hge8 : w1.heap.size ≤ g8 := by omega
      have HX8 := Lib.hid (hk8.heap HBX.out id)
      have HP8 := Lib.hid (hk8.heap HPB.out id)
      have HV8 := Lib.hid (show Boxed W8 (w1.heap.size + 2) 52 V from hk8.heap HVB.out id)
      have HRW8 := Lib.hid (hk8.owns HRW.out fun _ _ h => h)
      have HM8 := Lib.hid (HMP.out.of_block (hk8.block _ HMP.out.lt id))
      have HR8 : Hid (Rnd W0.heap.size w1.heap.size W W8) := Lib.hid (Rnd.kp hk8 hsW)
      have hsz8 : w1.heap.size ≤ W8.heap.size := by have := hk8.size; omega
      clear hW8 hk8 hg8 d3 d4 d5 d67 b3 hlk hBl HBX HPB HVB HRW HMP
      have hx8 := HX8.out
      have d3 : W8.cell? ⟨Bx, 3, none⟩ = some (.int .i64 v.kd) := by rw [cell_of_row _ _ _ _ _ _ hx8]; rfl
      have d6 : W8.cell? ⟨Bx, 6, none⟩ = some (.int .i64 v.fd) := by rw [cell_of_row _ _ _ _ _ _ hx8]; rfl
      have d7 : W8.cell? ⟨Bx, 7, none⟩ = some (.int .i64 v.vl) := by rw [cell_of_row _ _ _ _ _ _ hx8]; rfl
      rw [HFD.out] at d6
      obtain ⟨cf, ff⟩ := HB8.out.at_ (fC_get e0 hf8)
      have hBg : Bx ≠ g8 := fun e => by
        have h5 := HB8.out
        unfold BoxF at h5
        rw [← e, HX8.out] at h5
        injection h5 with h5
        injection h5 with _ h6
        exact absurd h6 (by decide)
      have hgB : g8 ≠ Bx := fun e => hBg e.symm
      clear hx8
      have HS9 := Lib.hid (show BoxF (W8.setCell ⟨g8, f, none⟩ (.int .i64 v.vl)) g8 u by rw [HUU.out, HNOW.out]; exact HB8.out.set hf8 v.vl)
      have HK9 := Lib.hid (show Kp (Kq.One g8) W8 (W8.setCell ⟨g8, f, none⟩ (.int .i64 v.vl)) from kp_setOne _ _ _ _)
      gi_wp2_with (with_reducible refine stopIn_load 47 ?_)
      refine stop_out ?_
      change wpListIn _ _ _ _ _ _ _ (W8.setCell ⟨g8, f, none⟩ (.int .i64 v.vl))
      generalize (W8.setCell ⟨g8, f, none⟩ (.int .i64 v.vl)) = W9 at HS9 HK9 ⊢
      have HX9 := Lib.hid (HK9.out.heap HX8.out hBg)
      have HP9 := Lib.hid (HK9.out.heap HP8.out fun e => by
        have e : w1.heap.size + 1 = g8 := e
        have h5 := HB8.out
        unfold BoxF at h5
        rw [← e, HP8.out] at h5
        injection h5 with h5
        injection h5 with _ h6
        exact absurd h6 (by decide))
      have HV9 := Lib.hid (show Boxed W9 (w1.heap.size + 2) 52 V from HK9.out.heap HV8.out fun e => by
        have e : w1.heap.size + 2 = g8 := e
        have h5 := HB8.out
        have h6 : W8.heap[w1.heap.size + 2]? = some (.cells #[V] 52 (0, 0)) := HV8.out
        unfold BoxF at h5
        rw [← e, h6] at h5
        injection h5 with h5
        injection h5 with _ h6
        exact absurd h6 (by decide))
      have HRW9 := Lib.hid (HK9.out.owns HRW8.out fun q hq e => by
        have e : q = g8 := e
        obtain ⟨cs, hcs⟩ := row_notCells HRW8.out hq
        have h5 := HB8.out
        unfold BoxF at h5
        rw [← e, hcs] at h5
        injection h5 with h5
        injection h5 with _ h6
        exact absurd h6 (by decide))
      have HM9 := Lib.hid (HM8.out.of_block (HK9.out.block _ HM8.out.lt fun e => by
        have e : w1.heap.size = g8 := e
        obtain ⟨es, c, hmm⟩ := HM8.out
        have h3 := hmm.at_
        have h5 := HB8.out
        unfold BoxF at h5
        rw [e, h5] at h3
        cases h3))
      have HR9 : Hid (Rnd W0.heap.size w1.heap.size W W9) := Lib.hid (HR8.out.trans (Rnd.cells HK9.out hsz8 fun q hq e => by
        have e : q = g8 := e
        subst e
        exact ⟨hge8, _, _, _, HB8.out, by decide, by decide⟩))
      have hsz9 : w1.heap.size ≤ W9.heap.size := by have := HK9.out.size; omega
      clear d3 d6 d7 cf ff HX8 HP8 HV8 HRW8 HM8 HR8 HB8 HK9 hsz8
      have hx9 := HX9.out
      have d6 : W9.cell? ⟨Bx, 6, none⟩ = some (.int .i64 v.fd) := by rw [cell_of_row _ _ _ _ _ _ hx9]; rfl
      rw [HFD.out] at d6
      have cf : W9.cell? ⟨g8, f, none⟩ = some (.int .i64 now) := by
        have h := (HS9.out.at_ (fC_get u hf8)).1
        rwa [HUU.out, get_set e0 hf8] at h
      clear hx9
      by_cases hbad : now < e0.get f ∧ (f : Int) < 4
      · obtain ⟨hb1, hb2⟩ := hbad
        have q3 : decide (now < e0.get f) = true := decide_eq_true hb1
        have q4 : decide ((f : Int) < 4) = true := decide_eq_true hb2
        have q5 : f < 4 := by omega
        have HSN2 := Lib.hid (show fauS (prs (pre ++ [⟨(i, v), hok, h4⟩])) = ((fauS (prs pre)).1 ++ [v], (fauS (prs pre)).2 ++ [(i : Int)]) by
          rw [HSN.out]
          unfold fstep
          rw [if_neg (by show v.kd ≠ 3; rw [HKD.out]; decide), HBD.out, q3, q4]
          rfl)
        have cV := HV9.out.cell
        clear hb1
        gi_wp2_with (gi_at_builtin; refine stop_in ?_)
        refine stop_out ?_
        refine wpListIn_append_own _ rfl _ _ 52 rfl w1.heap.size 3 i0 _ 1 8 Try.underlying52 hi0 hz0 hz1 hz2 rfl (by decide) _ _ _ rfl (HRW9.out.alloc _) ⟨W9.heap.size, 0, none⟩ 1 1 [.int .i64 i] rfl rfl (cell_one_new W9 _ _) (ints_oneCell .i64 [(i : Int)]) (by unfold maxLen; omega) (by omega) (by simp; omega) ?_
        intro v' wz hown' hgrow _
        obtain ⟨g', cap', rfl⟩ := ownsRow_succ hown'
        obtain ⟨hv1, hv2, hr2, _, _⟩ := HV9.out.appended (by decide) HRW9.out hsz9 (by omega) hown' hgrow
        have hkk : Kp (fun k => V.ownBlock = some k ∨ k = w1.heap.size + 2) W9 (wz.setCell ⟨w1.heap.size + 2, 0, none⟩ (.slice (some ⟨g', 0, none⟩) (M + 1) cap')) := ((Kp.alloc _ _ _).tr (Kp.grown hgrow fun _ hg _ => .inl hg)).tr (Kp.setCell _ _ _ _ fun _ => .inr rfl)
        have HTY := Lib.hid (show ∀ (b : Nat) (cs : Array Value) (e : TypeId) (mm : Nat × Nat), W9.heap[b]? = some (.cells cs e mm) → e ≠ 3 → e ≠ 52 → ¬ (V.ownBlock = some b ∨ b = w1.heap.size + 2) from fun b cs e mm hb he3 he52 h => by
          rcases h with h | h
          · obtain ⟨cs2, hcs⟩ := row_notCells HRW9.out h
            rw [hb] at hcs
            injection hcs with hcs
            injection hcs with _ h6
            exact he3 h6
          · have h6 : W9.heap[w1.heap.size + 2]? = some (.cells #[V] 52 (0, 0)) := HV9.out
            rw [← h, hb] at h6
            injection h6 with h6
            injection h6 with _ h7
            exact he52 h7)
        have HX10 := Lib.hid (hkk.heap HX9.out (HTY.out _ _ _ _ HX9.out (by decide) (by decide)))
        have HP10 := Lib.hid (hkk.heap HP9.out (HTY.out _ _ _ _ HP9.out (by decide) (by decide)))
        have HB10 := Lib.hid (show BoxF (wz.setCell ⟨w1.heap.size + 2, 0, none⟩ (.slice (some ⟨g', 0, none⟩) (M + 1) cap')) g8 u from hkk.heap HS9.out (HTY.out _ _ _ _ HS9.out (by decide) (by decide)))
        have HM10 := Lib.hid (HM9.out.of_block (hkk.block _ HM9.out.lt fun h => by
          obtain ⟨es, c, hmm⟩ := HM9.out
          have h3 := hmm.at_
          rcases h with h | h
          · obtain ⟨cs2, hcs⟩ := row_notCells HRW9.out h
            rw [hcs] at h3
            cases h3
          · omega))
        have HRD10 : Hid (Rnd W0.heap.size w1.heap.size W (wz.setCell ⟨w1.heap.size + 2, 0, none⟩ (.slice (some ⟨g', 0, none⟩) (M + 1) cap'))) := Lib.hid (HR9.out.trans (Rnd.cells hkk hsz9 fun q hq e => by
          rcases e with e | e
          · obtain ⟨cs2, hcs⟩ := row_notCells HRW9.out e
            exact ⟨(own_ge HRW9.out e).1, _, _, _, hcs, by decide, by decide⟩
          · subst e
            exact ⟨by omega, _, _, _, HV9.out, by decide, by decide⟩))
        have HV10 := Lib.hid hv2
        have HRW10 := Lib.hid hr2
        have hc1 := hv1.cell
        have hf1 := hv1.frozen
        have hb1 : wz.cell? ⟨w1.heap.size + 1, 0, none⟩ = some (.map (some w1.heap.size)) := by
          have h := (((Kp.alloc (fun k => V.ownBlock = some k) W9 _).tr (Kp.grown hgrow fun _ hg _ => hg)).heap HP9.out fun h => HTY.out _ _ _ _ HP9.out (by decide) (by decide) (.inl h))
          rw [cell_of_row _ _ _ _ _ _ h]; rfl
        clear hown' hgrow hv1 hv2 hr2 hkk cV d6 cf q3 q4 q5 HX9 HP9 HS9 HM9 HR9 HV9 HRW9 HTY
        gi_wp2_with (with_reducible refine stopIn_load 5 ?_)
        refine stop_out ?_
        generalize wz.setCell ⟨w1.heap.size + 2, 0, none⟩ (.slice (some ⟨g', 0, none⟩) (M + 1) cap') = W10 at HX10 HP10 HB10 HM10 HRD10 HV10 HRW10 ⊢
        clear hc1 hf1 hb1
        have hx10 := HX10.out
        have hp10 := HP10.out
        have d3 : W10.cell? ⟨Bx, 3, none⟩ = some (.int .i64 v.kd) := by rw [cell_of_row _ _ _ _ _ _ hx10]; rfl
        have d4 : W10.cell? ⟨Bx, 4, none⟩ = some (.int .i64 v.rk) := by rw [cell_of_row _ _ _ _ _ _ hx10]; rfl
        have d5 : W10.cell? ⟨Bx, 5, none⟩ = some (.int .i64 v.nt) := by rw [cell_of_row _ _ _ _ _ _ hx10]; rfl
        have d6 : W10.cell? ⟨Bx, 6, none⟩ = some (.int .i64 v.fd) := by rw [cell_of_row _ _ _ _ _ _ hx10]; rfl
        have d7 : W10.cell? ⟨Bx, 7, none⟩ = some (.int .i64 v.vl) := by rw [cell_of_row _ _ _ _ _ _ hx10]; rfl
        have b3 : W10.cell? ⟨w1.heap.size + 1, 0, none⟩ = some (.map (some w1.heap.size)) := by rw [cell_of_row _ _ _ _ _ _ hp10]; rfl
        have e0 : W10.cell? ⟨g8, 0, none⟩ = some (.int .i64 u.f0) := (HB10.out.at_ (j := 0) rfl).1
        have e1 : W10.cell? ⟨g8, 1, none⟩ = some (.int .i64 u.f1) := (HB10.out.at_ (j := 1) rfl).1
        have e2 : W10.cell? ⟨g8, 2, none⟩ = some (.int .i64 u.f2) := (HB10.out.at_ (j := 2) rfl).1
        have e3 : W10.cell? ⟨g8, 3, none⟩ = some (.int .i64 u.f3) := (HB10.out.at_ (j := 3) rfl).1
        have e4 : W10.cell? ⟨g8, 4, none⟩ = some (.int .i64 u.f4) := (HB10.out.at_ (j := 4) rfl).1
        have e5 : W10.cell? ⟨g8, 5, none⟩ = some (.int .i64 u.f5) := (HB10.out.at_ (j := 5) rfl).1
        have e6 : W10.cell? ⟨g8, 6, none⟩ = some (.int .i64 u.f6) := (HB10.out.at_ (j := 6) rfl).1
        have e7 : W10.cell? ⟨g8, 7, none⟩ = some (.int .i64 u.f7) := (HB10.out.at_ (j := 7) rfl).1
        clear hx10 hp10
        gi_wp2_with (first
          | (gi_at_mapUpdate; refine stop_in ?_)
          | gi_in)
        refine stop_out ?_
        refine wpLIn_update _ rfl _ _ _ _ rfl pipeOk Try.underlying99 HM10.out v.pp u rfl rfl rfl (fun W11 hm11 hg11 hs11 => ?_)
        have hk11 : Kp (Kq.One w1.heap.size) W10 W11 := Kp.grown hg11 fun k hk _ => by injection hk with hk; exact hk.symm
        have HR11 := Lib.hid (HRD10.out.trans (Rnd.one hk11 (Nat.le_refl _) (by have := HRD10.out.kb.1.size; omega) (fun cs e m hc => by
          obtain ⟨es, c, hmm⟩ := HM10.out
          have h3 := hmm.at_
          rw [hc] at h3
          cases h3) (.inl (by omega))))
        have HP11 := Lib.hid (hk11.heap HP10.out fun e => by have e : w1.heap.size + 1 = w1.heap.size := e; omega)
        have HV11 := Lib.hid (show Boxed W11 (w1.heap.size + 2) 52 (.slice (some ⟨g', 0, none⟩) (M + 1) cap') from hk11.heap HV10.out fun e => by have e : w1.heap.size + 2 = w1.heap.size := e; omega)
        have HRW11 := Lib.hid (hk11.owns HRW10.out fun g hg e => by
          obtain ⟨cs, hcs⟩ := row_notCells HRW10.out hg
          have e : g = w1.heap.size := e
          obtain ⟨es, c, hmm⟩ := HM10.out
          have h3 := hmm.at_
          rw [← e, hcs] at h3
          cases h3)
        have HF11 := Lib.hid (show FauAt W11 w1.heap.size ((fauS (prs pre)).1 ++ [v]) from ⟨_, hm11, fun p => by
          rw [get1_ins, HG.out, stOf_snoc]
          by_cases hp : v.pp = p
          · rw [if_pos hp, if_pos hp, HU.out, ← hp]
            rfl
          · rw [if_neg hp, if_neg hp]⟩)
        clear hm11 hg11 hs11 hk11 e0 e1 e2 e3 e4 e5 e6 e7 b3 d3 d4 d5 d6 d7
        gi_wp2
        exact IF.out (x := ⟨(i, v), hok, h4⟩) (n := M + 1) HR11.out hbl HP11.out HV11.out (by rw [List.length_append, ← HM.out]; rfl) (by rw [List.map_append]; exact HRW11.out) HF11.out HSN2.out
      · have HSN2 := Lib.hid (show fauS (prs (pre ++ [⟨(i, v), hok, h4⟩])) = ((fauS (prs pre)).1 ++ [v], (fauS (prs pre)).2) by
          rw [HSN.out]
          unfold fstep
          rw [if_neg (by show v.kd ≠ 3; rw [HKD.out]; decide), HBD.out]
          have : (decide (now < e0.get f) && decide ((f : Int) < 4)) = false := by
            rw [← Bool.not_eq_true]
            simpa using hbad
          rw [this]
          simp)
        have HB10 := HS9
        have HX10 := HX9
        have HP10 := HP9
        have HM10 := HM9
        have HRD10 := HR9
        have HV10 := HV9
        have HRW10 := HRW9
        by_cases hb2 : f < 4
        · have q4 : decide ((f : Int) < 4) = true := decide_eq_true (by omega)
          have q3 : decide (now < e0.get f) = false := decide_eq_false fun h => hbad ⟨h, by omega⟩
          clear hbad
          gi_wp2_with (with_reducible refine stopIn_load 5 ?_)
          refine stop_out ?_
          clear HX9 HP9 HS9 HM9 HR9 HV9 HRW9 d6 cf q3 q4
          generalize W9 = W10 at *
          have hx10 := HX10.out
          have hp10 := HP10.out
          have d3 : W10.cell? ⟨Bx, 3, none⟩ = some (.int .i64 v.kd) := by rw [cell_of_row _ _ _ _ _ _ hx10]; rfl
          have d4 : W10.cell? ⟨Bx, 4, none⟩ = some (.int .i64 v.rk) := by rw [cell_of_row _ _ _ _ _ _ hx10]; rfl
          have d5 : W10.cell? ⟨Bx, 5, none⟩ = some (.int .i64 v.nt) := by rw [cell_of_row _ _ _ _ _ _ hx10]; rfl
          have d6 : W10.cell? ⟨Bx, 6, none⟩ = some (.int .i64 v.fd) := by rw [cell_of_row _ _ _ _ _ _ hx10]; rfl
          have d7 : W10.cell? ⟨Bx, 7, none⟩ = some (.int .i64 v.vl) := by rw [cell_of_row _ _ _ _ _ _ hx10]; rfl
          have b3 : W10.cell? ⟨w1.heap.size + 1, 0, none⟩ = some (.map (some w1.heap.size)) := by rw [cell_of_row _ _ _ _ _ _ hp10]; rfl
          have e0 : W10.cell? ⟨g8, 0, none⟩ = some (.int .i64 u.f0) := (HB10.out.at_ (j := 0) rfl).1
          have e1 : W10.cell? ⟨g8, 1, none⟩ = some (.int .i64 u.f1) := (HB10.out.at_ (j := 1) rfl).1
          have e2 : W10.cell? ⟨g8, 2, none⟩ = some (.int .i64 u.f2) := (HB10.out.at_ (j := 2) rfl).1
          have e3 : W10.cell? ⟨g8, 3, none⟩ = some (.int .i64 u.f3) := (HB10.out.at_ (j := 3) rfl).1
          have e4 : W10.cell? ⟨g8, 4, none⟩ = some (.int .i64 u.f4) := (HB10.out.at_ (j := 4) rfl).1
          have e5 : W10.cell? ⟨g8, 5, none⟩ = some (.int .i64 u.f5) := (HB10.out.at_ (j := 5) rfl).1
          have e6 : W10.cell? ⟨g8, 6, none⟩ = some (.int .i64 u.f6) := (HB10.out.at_ (j := 6) rfl).1
          have e7 : W10.cell? ⟨g8, 7, none⟩ = some (.int .i64 u.f7) := (HB10.out.at_ (j := 7) rfl).1
          clear hx10 hp10
          gi_wp2_with (first
            | (gi_at_mapUpdate; refine stop_in ?_)
            | gi_in)
          refine stop_out ?_
          refine wpLIn_update _ rfl _ _ _ _ rfl pipeOk Try.underlying99 HM10.out v.pp u rfl rfl rfl (fun W11 hm11 hg11 hs11 => ?_)
          have hk11 : Kp (Kq.One w1.heap.size) W10 W11 := Kp.grown hg11 fun k hk _ => by injection hk with hk; exact hk.symm
          have HR11 := Lib.hid (HRD10.out.trans (Rnd.one hk11 (Nat.le_refl _) (by have := HRD10.out.kb.1.size; omega) (fun cs e m hc => by
            obtain ⟨es, c, hmm⟩ := HM10.out
            have h3 := hmm.at_
            rw [hc] at h3
            cases h3) (.inl (by omega))))
          have HP11 := Lib.hid (hk11.heap HP10.out fun e => by have e : w1.heap.size + 1 = w1.heap.size := e; omega)
          have HV11 := Lib.hid (show Boxed W11 (w1.heap.size + 2) 52 V from hk11.heap HV10.out fun e => by have e : w1.heap.size + 2 = w1.heap.size := e; omega)
          have HRW11 := Lib.hid (hk11.owns HRW10.out fun g hg e => by
            obtain ⟨cs, hcs⟩ := row_notCells HRW10.out hg
            have e : g = w1.heap.size := e
            obtain ⟨es, c, hmm⟩ := HM10.out
            have h3 := hmm.at_
            rw [← e, hcs] at h3
            cases h3)
          have HF11 := Lib.hid (show FauAt W11 w1.heap.size ((fauS (prs pre)).1 ++ [v]) from ⟨_, hm11, fun p => by
            rw [get1_ins, HG.out, stOf_snoc]
            by_cases hp : v.pp = p
            · rw [if_pos hp, if_pos hp, HU.out, ← hp]
              rfl
            · rw [if_neg hp, if_neg hp]⟩)
          clear hm11 hg11 hs11 hk11 e0 e1 e2 e3 e4 e5 e6 e7 b3 d3 d4 d5 d6 d7
          gi_wp2
          exact IF.out (x := ⟨(i, v), hok, h4⟩) (n := M) HR11.out hbl HP11.out HV11.out HM.out HRW11.out HF11.out HSN2.out
        · have q4 : decide ((f : Int) < 4) = false := decide_eq_false (by omega)
          have q5 : decide (f < 4) = false := decide_eq_false hb2
          clear hbad
          gi_wp2_with (with_reducible refine stopIn_load 5 ?_)
          refine stop_out ?_
          clear HX9 HP9 HS9 HM9 HR9 HV9 HRW9 d6 cf q4 q5
          generalize W9 = W10 at *
          have hx10 := HX10.out
          have hp10 := HP10.out
          have d3 : W10.cell? ⟨Bx, 3, none⟩ = some (.int .i64 v.kd) := by rw [cell_of_row _ _ _ _ _ _ hx10]; rfl
          have d4 : W10.cell? ⟨Bx, 4, none⟩ = some (.int .i64 v.rk) := by rw [cell_of_row _ _ _ _ _ _ hx10]; rfl
          have d5 : W10.cell? ⟨Bx, 5, none⟩ = some (.int .i64 v.nt) := by rw [cell_of_row _ _ _ _ _ _ hx10]; rfl
          have d6 : W10.cell? ⟨Bx, 6, none⟩ = some (.int .i64 v.fd) := by rw [cell_of_row _ _ _ _ _ _ hx10]; rfl
          have d7 : W10.cell? ⟨Bx, 7, none⟩ = some (.int .i64 v.vl) := by rw [cell_of_row _ _ _ _ _ _ hx10]; rfl
          have b3 : W10.cell? ⟨w1.heap.size + 1, 0, none⟩ = some (.map (some w1.heap.size)) := by rw [cell_of_row _ _ _ _ _ _ hp10]; rfl
          have e0 : W10.cell? ⟨g8, 0, none⟩ = some (.int .i64 u.f0) := (HB10.out.at_ (j := 0) rfl).1
          have e1 : W10.cell? ⟨g8, 1, none⟩ = some (.int .i64 u.f1) := (HB10.out.at_ (j := 1) rfl).1
          have e2 : W10.cell? ⟨g8, 2, none⟩ = some (.int .i64 u.f2) := (HB10.out.at_ (j := 2) rfl).1
          have e3 : W10.cell? ⟨g8, 3, none⟩ = some (.int .i64 u.f3) := (HB10.out.at_ (j := 3) rfl).1
          have e4 : W10.cell? ⟨g8, 4, none⟩ = some (.int .i64 u.f4) := (HB10.out.at_ (j := 4) rfl).1
          have e5 : W10.cell? ⟨g8, 5, none⟩ = some (.int .i64 u.f5) := (HB10.out.at_ (j := 5) rfl).1
          have e6 : W10.cell? ⟨g8, 6, none⟩ = some (.int .i64 u.f6) := (HB10.out.at_ (j := 6) rfl).1
          have e7 : W10.cell? ⟨g8, 7, none⟩ = some (.int .i64 u.f7) := (HB10.out.at_ (j := 7) rfl).1
          clear hx10 hp10
          gi_wp2_with (first
            | (gi_at_mapUpdate; refine stop_in ?_)
            | gi_in)
          refine stop_out ?_
          refine wpLIn_update _ rfl _ _ _ _ rfl pipeOk Try.underlying99 HM10.out v.pp u rfl rfl rfl (fun W11 hm11 hg11 hs11 => ?_)
          have hk11 : Kp (Kq.One w1.heap.size) W10 W11 := Kp.grown hg11 fun k hk _ => by injection hk with hk; exact hk.symm
          have HR11 := Lib.hid (HRD10.out.trans (Rnd.one hk11 (Nat.le_refl _) (by have := HRD10.out.kb.1.size; omega) (fun cs e m hc => by
            obtain ⟨es, c, hmm⟩ := HM10.out
            have h3 := hmm.at_
            rw [hc] at h3
            cases h3) (.inl (by omega))))
          have HP11 := Lib.hid (hk11.heap HP10.out fun e => by have e : w1.heap.size + 1 = w1.heap.size := e; omega)
          have HV11 := Lib.hid (show Boxed W11 (w1.heap.size + 2) 52 V from hk11.heap HV10.out fun e => by have e : w1.heap.size + 2 = w1.heap.size := e; omega)
          have HRW11 := Lib.hid (hk11.owns HRW10.out fun g hg e => by
            obtain ⟨cs, hcs⟩ := row_notCells HRW10.out hg
            have e : g = w1.heap.size := e
            obtain ⟨es, c, hmm⟩ := HM10.out
            have h3 := hmm.at_
            rw [← e, hcs] at h3
            cases h3)
          have HF11 := Lib.hid (show FauAt W11 w1.heap.size ((fauS (prs pre)).1 ++ [v]) from ⟨_, hm11, fun p => by
            rw [get1_ins, HG.out, stOf_snoc]
            by_cases hp : v.pp = p
            · rw [if_pos hp, if_pos hp, HU.out, ← hp]
              rfl
            · rw [if_neg hp, if_neg hp]⟩)
          clear hm11 hg11 hs11 hk11 e0 e1 e2 e3 e4 e5 e6 e7 b3 d3 d4 d5 d6 d7
          gi_wp2
          exact IF.out (x := ⟨(i, v), hok, h4⟩) (n := M) HR11.out hbl HP11.out HV11.out HM.out HRW11.out HF11.out HSN2.out
    · have HKD := Lib.hid hkd
      clear hkd
      have p2 : (v.kd == 2) = true := by rw [HKD.out]; rfl
      have p3 : (v.kd == 3) = false := by rw [HKD.out]; rfl
      obtain ⟨e0, he0⟩ : ∃ e0, e0 = fPv (fauS (prs pre)).1 v := ⟨_, rfl⟩
      obtain ⟨now, hnow⟩ : ∃ now, now = wrap64 (v.vl + (e0).get f) := ⟨_, rfl⟩
      obtain ⟨u, hu⟩ : ∃ u, u = e0.set f now := ⟨_, rfl⟩
      have HU := Lib.hid (show u = stepP (fPv (fauS (prs pre)).1 v) v by
        rw [hu, hnow, ← he0]
        unfold stepP
        rw [if_neg (by rw [HKD.out]; decide), if_pos HKD.out, HFD.out, Int.add_comm]
        rfl)
      have HBD := Lib.hid (show badF (fauS (prs pre)).1 v = (decide (now < e0.get f) && decide ((f : Int) < 4)) by
        unfold badF
        rw [← HU.out, ← he0, hu, HFD.out, Int.toNat_natCast, get_set e0 hf8])
      rw [show fPv (fauS (prs pre)).1 v = e0 from he0.symm] at hlk
      have HNOW := Lib.hid hnow
      have HUU := Lib.hid hu
      clear he0 hu hnow
      have d67 := HBX.out
      gi_wp2_with (with_reducible refine stopIn_load 28 ?_)
      refine stop_out ?_
      change wpListIn _ _ _ _ _ _ _ (W.alloc (.cells (fC e0).toArray 62))
      obtain ⟨W8, hW8⟩ : ∃ W8, W8 = W.alloc (.cells (fC e0).toArray 62) := ⟨_, rfl⟩
      have hk8 : Kp No W W8 := by rw [hW8]; exact Kp.alloc _ _ _
      have HB8 := Lib.hid (show BoxF W8 W.heap.size e0 by rw [hW8]; exact heap_alloc_new _ _)
      rw [← hW8]
      obtain ⟨g8, hg8⟩ : ∃ g8, g8 = W.heap.size := ⟨_, rfl⟩
      rw [← hg8] at HB8 ⊢
      have hge8 : w1.heap.size ≤ g8 := by omega
      have HX8 := Lib.hid (hk8.heap HBX.out id)
      have HP8 := Lib.hid (hk8.heap HPB.out id)
      have HV8 := Lib.hid (show Boxed W8 (w1.heap.size + 2) 52 V from hk8.heap HVB.out id)
      have HRW8 := Lib.hid (hk8.owns HRW.out fun _ _ h => h)
      have HM8 := Lib.hid (HMP.out.of_block (hk8.block _ HMP.out.lt id))
      have HR8 : Hid (Rnd W0.heap.size w1.heap.size W W8) := Lib.hid (Rnd.kp hk8 hsW)
      have hsz8 : w1.heap.size ≤ W8.heap.size := by have := hk8.size; omega
      clear hW8 hk8 hg8 d3 d4 d5 d67 b3 hlk hBl HBX HPB HVB HRW HMP
      have hx8 := HX8.out
      have d3 : W8.cell? ⟨Bx, 3, none⟩ = some (.int .i64 v.kd) := by rw [cell_of_row _ _ _ _ _ _ hx8]; rfl
      have d6 : W8.cell? ⟨Bx, 6, none⟩ = some (.int .i64 v.fd) := by rw [cell_of_row _ _ _ _ _ _ hx8]; rfl
      have d7 : W8.cell? ⟨Bx, 7, none⟩ = some (.int .i64 v.vl) := by rw [cell_of_row _ _ _ _ _ _ hx8]; rfl
      rw [HFD.out] at d6
      obtain ⟨cf, ff⟩ := HB8.out.at_ (fC_get e0 hf8)
      have hBg : Bx ≠ g8 := fun e => by
        have h5 := HB8.out
        unfold BoxF at h5
        rw [← e, HX8.out] at h5
        injection h5 with h5
        injection h5 with _ h6
        exact absurd h6 (by decide)
      have hgB : g8 ≠ Bx := fun e => hBg e.symm
      clear hx8
      have HS9 := Lib.hid (show BoxF ((W8.setCell ⟨g8, f, none⟩ (.int .i64 v.vl)).setCell ⟨g8, f, none⟩ (.int .i64 (wrap64 (v.vl + e0.get f)))) g8 u by rw [HUU.out, HNOW.out]; exact (set_set e0 hf8 v.vl (wrap64 (v.vl + e0.get f))) ▸ ((HB8.out.set hf8 v.vl).set hf8 (wrap64 (v.vl + e0.get f))))
      have HK9 := Lib.hid (show Kp (Kq.One g8) W8 ((W8.setCell ⟨g8, f, none⟩ (.int .i64 v.vl)).setCell ⟨g8, f, none⟩ (.int .i64 (wrap64 (v.vl + e0.get f)))) from (kp_setOne _ _ _ _).tr (kp_setOne _ _ _ _))
      gi_wp2_with (with_reducible refine stopIn_load 47 ?_)
      refine stop_out ?_
      change wpListIn _ _ _ _ _ _ _ ((W8.setCell ⟨g8, f, none⟩ (.int .i64 v.vl)).setCell ⟨g8, f, none⟩ (.int .i64 (wrap64 (v.vl + e0.get f))))
      generalize ((W8.setCell ⟨g8, f, none⟩ (.int .i64 v.vl)).setCell ⟨g8, f, none⟩ (.int .i64 (wrap64 (v.vl + e0.get f)))) = W9 at HS9 HK9 ⊢
      have HX9 := Lib.hid (HK9.out.heap HX8.out hBg)
      have HP9 := Lib.hid (HK9.out.heap HP8.out fun e => by
        have e : w1.heap.size + 1 = g8 := e
        have h5 := HB8.out
        unfold BoxF at h5
        rw [← e, HP8.out] at h5
        injection h5 with h5
        injection h5 with _ h6
        exact absurd h6 (by decide))
      have HV9 := Lib.hid (show Boxed W9 (w1.heap.size + 2) 52 V from HK9.out.heap HV8.out fun e => by
        have e : w1.heap.size + 2 = g8 := e
        have h5 := HB8.out
        have h6 : W8.heap[w1.heap.size + 2]? = some (.cells #[V] 52 (0, 0)) := HV8.out
        unfold BoxF at h5
        rw [← e, h6] at h5
        injection h5 with h5
        injection h5 with _ h6
        exact absurd h6 (by decide))
      have HRW9 := Lib.hid (HK9.out.owns HRW8.out fun q hq e => by
        have e : q = g8 := e
        obtain ⟨cs, hcs⟩ := row_notCells HRW8.out hq
        have h5 := HB8.out
        unfold BoxF at h5
        rw [← e, hcs] at h5
        injection h5 with h5
        injection h5 with _ h6
        exact absurd h6 (by decide))
      have HM9 := Lib.hid (HM8.out.of_block (HK9.out.block _ HM8.out.lt fun e => by
        have e : w1.heap.size = g8 := e
        obtain ⟨es, c, hmm⟩ := HM8.out
        have h3 := hmm.at_
        have h5 := HB8.out
        unfold BoxF at h5
        rw [e, h5] at h3
        cases h3))
      have HR9 : Hid (Rnd W0.heap.size w1.heap.size W W9) := Lib.hid (HR8.out.trans (Rnd.cells HK9.out hsz8 fun q hq e => by
        have e : q = g8 := e
        subst e
        exact ⟨hge8, _, _, _, HB8.out, by decide, by decide⟩))
      have hsz9 : w1.heap.size ≤ W9.heap.size := by have := HK9.out.size; omega
      clear d3 d6 d7 cf ff HX8 HP8 HV8 HRW8 HM8 HR8 HB8 HK9 hsz8
      have hx9 := HX9.out
      have d6 : W9.cell? ⟨Bx, 6, none⟩ = some (.int .i64 v.fd) := by rw [cell_of_row _ _ _ _ _ _ hx9]; rfl
      rw [HFD.out] at d6
      have cf : W9.cell? ⟨g8, f, none⟩ = some (.int .i64 now) := by
        have h := (HS9.out.at_ (fC_get u hf8)).1
        rwa [HUU.out, get_set e0 hf8] at h
      clear hx9
      by_cases hbad : now < e0.get f ∧ (f : Int) < 4
      · obtain ⟨hb1, hb2⟩ := hbad
        have q3 : decide (now < e0.get f) = true := decide_eq_true hb1
        have q4 : decide ((f : Int) < 4) = true := decide_eq_true hb2
        have q5 : f < 4 := by omega
        have HSN2 := Lib.hid (show fauS (prs (pre ++ [⟨(i, v), hok, h4⟩])) = ((fauS (prs pre)).1 ++ [v], (fauS (prs pre)).2 ++ [(i : Int)]) by
          rw [HSN.out]
          unfold fstep
          rw [if_neg (by show v.kd ≠ 3; rw [HKD.out]; decide), HBD.out, q3, q4]
          rfl)
        have cV := HV9.out.cell
        clear hb1
        gi_wp2_with (gi_at_builtin; refine stop_in ?_)
        refine stop_out ?_
        refine wpListIn_append_own _ rfl _ _ 52 rfl w1.heap.size 3 i0 _ 1 8 Try.underlying52 hi0 hz0 hz1 hz2 rfl (by decide) _ _ _ rfl (HRW9.out.alloc _) ⟨W9.heap.size, 0, none⟩ 1 1 [.int .i64 i] rfl rfl (cell_one_new W9 _ _) (ints_oneCell .i64 [(i : Int)]) (by unfold maxLen; omega) (by omega) (by simp; omega) ?_
        intro v' wz hown' hgrow _
        obtain ⟨g', cap', rfl⟩ := ownsRow_succ hown'
        obtain ⟨hv1, hv2, hr2, _, _⟩ := HV9.out.appended (by decide) HRW9.out hsz9 (by omega) hown' hgrow
        have hkk : Kp (fun k => V.ownBlock = some k ∨ k = w1.heap.size + 2) W9 (wz.setCell ⟨w1.heap.size + 2, 0, none⟩ (.slice (some ⟨g', 0, none⟩) (M + 1) cap')) := ((Kp.alloc _ _ _).tr (Kp.grown hgrow fun _ hg _ => .inl hg)).tr (Kp.setCell _ _ _ _ fun _ => .inr rfl)
        have HTY := Lib.hid (show ∀ (b : Nat) (cs : Array Value) (e : TypeId) (mm : Nat × Nat), W9.heap[b]? = some (.cells cs e mm) → e ≠ 3 → e ≠ 52 → ¬ (V.ownBlock = some b ∨ b = w1.heap.size + 2) from fun b cs e mm hb he3 he52 h => by
          rcases h with h | h
          · obtain ⟨cs2, hcs⟩ := row_notCells HRW9.out h
            rw [hb] at hcs
            injection hcs with hcs
            injection hcs with _ h6
            exact he3 h6
          · have h6 : W9.heap[w1.heap.size + 2]? = some (.cells #[V] 52 (0, 0)) := HV9.out
            rw [← h, hb] at h6
            injection h6 with h6
            injection h6 with _ h7
            exact he52 h7)
        have HX10 := Lib.hid (hkk.heap HX9.out (HTY.out _ _ _ _ HX9.out (by decide) (by decide)))
        have HP10 := Lib.hid (hkk.heap HP9.out (HTY.out _ _ _ _ HP9.out (by decide) (by decide)))
        have HB10 := Lib.hid (show BoxF (wz.setCell ⟨w1.heap.size + 2, 0, none⟩ (.slice (some ⟨g', 0, none⟩) (M + 1) cap')) g8 u from hkk.heap HS9.out (HTY.out _ _ _ _ HS9.out (by decide) (by decide)))
        have HM10 := Lib.hid (HM9.out.of_block (hkk.block _ HM9.out.lt fun h => by
          obtain ⟨es, c, hmm⟩ := HM9.out
          have h3 := hmm.at_
          rcases h with h | h
          · obtain ⟨cs2, hcs⟩ := row_notCells HRW9.out h
            rw [hcs] at h3
            cases h3
          · omega))
        have HRD10 : Hid (Rnd W0.heap.size w1.heap.size W (wz.setCell ⟨w1.heap.size + 2, 0, none⟩ (.slice (some ⟨g', 0, none⟩) (M + 1) cap'))) := Lib.hid (HR9.out.trans (Rnd.cells hkk hsz9 fun q hq e => by
          rcases e with e | e
          · obtain ⟨cs2, hcs⟩ := row_notCells HRW9.out e
            exact ⟨(own_ge HRW9.out e).1, _, _, _, hcs, by decide, by decide⟩
          · subst e
            exact ⟨by omega, _, _, _, HV9.out, by decide, by decide⟩))
        have HV10 := Lib.hid hv2
        have HRW10 := Lib.hid hr2
        have hc1 := hv1.cell
        have hf1 := hv1.frozen
        have hb1 : wz.cell? ⟨w1.heap.size + 1, 0, none⟩ = some (.map (some w1.heap.size)) := by
          have h := (((Kp.alloc (fun k => V.ownBlock = some k) W9 _).tr (Kp.grown hgrow fun _ hg _ => hg)).heap HP9.out fun h => HTY.out _ _ _ _ HP9.out (by decide) (by decide) (.inl h))
          rw [cell_of_row _ _ _ _ _ _ h]; rfl
        clear hown' hgrow hv1 hv2 hr2 hkk cV d6 cf q3 q4 q5 HX9 HP9 HS9 HM9 HR9 HV9 HRW9 HTY
        gi_wp2_with (with_reducible refine stopIn_load 5 ?_)
        refine stop_out ?_
        generalize wz.setCell ⟨w1.heap.size + 2, 0, none⟩ (.slice (some ⟨g', 0, none⟩) (M + 1) cap') = W10 at HX10 HP10 HB10 HM10 HRD10 HV10 HRW10 ⊢
        clear hc1 hf1 hb1
        have hx10 := HX10.out
        have hp10 := HP10.out
        have d3 : W10.cell? ⟨Bx, 3, none⟩ = some (.int .i64 v.kd) := by rw [cell_of_row _ _ _ _ _ _ hx10]; rfl
        have d4 : W10.cell? ⟨Bx, 4, none⟩ = some (.int .i64 v.rk) := by rw [cell_of_row _ _ _ _ _ _ hx10]; rfl
        have d5 : W10.cell? ⟨Bx, 5, none⟩ = some (.int .i64 v.nt) := by rw [cell_of_row _ _ _ _ _ _ hx10]; rfl
        have d6 : W10.cell? ⟨Bx, 6, none⟩ = some (.int .i64 v.fd) := by rw [cell_of_row _ _ _ _ _ _ hx10]; rfl
        have d7 : W10.cell? ⟨Bx, 7, none⟩ = some (.int .i64 v.vl) := by rw [cell_of_row _ _ _ _ _ _ hx10]; rfl
        have b3 : W10.cell? ⟨w1.heap.size + 1, 0, none⟩ = some (.map (some w1.heap.size)) := by rw [cell_of_row _ _ _ _ _ _ hp10]; rfl
        have e0 : W10.cell? ⟨g8, 0, none⟩ = some (.int .i64 u.f0) := (HB10.out.at_ (j := 0) rfl).1
        have e1 : W10.cell? ⟨g8, 1, none⟩ = some (.int .i64 u.f1) := (HB10.out.at_ (j := 1) rfl).1
        have e2 : W10.cell? ⟨g8, 2, none⟩ = some (.int .i64 u.f2) := (HB10.out.at_ (j := 2) rfl).1
        have e3 : W10.cell? ⟨g8, 3, none⟩ = some (.int .i64 u.f3) := (HB10.out.at_ (j := 3) rfl).1
        have e4 : W10.cell? ⟨g8, 4, none⟩ = some (.int .i64 u.f4) := (HB10.out.at_ (j := 4) rfl).1
        have e5 : W10.cell? ⟨g8, 5, none⟩ = some (.int .i64 u.f5) := (HB10.out.at_ (j := 5) rfl).1
        have e6 : W10.cell? ⟨g8, 6, none⟩ = some (.int .i64 u.f6) := (HB10.out.at_ (j := 6) rfl).1
        have e7 : W10.cell? ⟨g8, 7, none⟩ = some (.int .i64 u.f7) := (HB10.out.at_ (j := 7) rfl).1
        clear hx10 hp10
        gi_wp2_with (first
          | (gi_at_mapUpdate; refine stop_in ?_)
          | gi_in)
        refine stop_out ?_
        refine wpLIn_update _ rfl _ _ _ _ rfl pipeOk Try.underlying99 HM10.out v.pp u rfl rfl rfl (fun W11 hm11 hg11 hs11 => ?_)
        have hk11 : Kp (Kq.One w1.heap.size) W10 W11 := Kp.grown hg11 fun k hk _ => by injection hk with hk; exact hk.symm
        have HR11 := Lib.hid (HRD10.out.trans (Rnd.one hk11 (Nat.le_refl _) (by have := HRD10.out.kb.1.size; omega) (fun cs e m hc => by
          obtain ⟨es, c, hmm⟩ := HM10.out
          have h3 := hmm.at_
          rw [hc] at h3
          cases h3) (.inl (by omega))))
        have HP11 := Lib.hid (hk11.heap HP10.out fun e => by have e : w1.heap.size + 1 = w1.heap.size := e; omega)
        have HV11 := Lib.hid (show Boxed W11 (w1.heap.size + 2) 52 (.slice (some ⟨g', 0, none⟩) (M + 1) cap') from hk11.heap HV10.out fun e => by have e : w1.heap.size + 2 = w1.heap.size := e; omega)
        have HRW11 := Lib.hid (hk11.owns HRW10.out fun g hg e => by
          obtain ⟨cs, hcs⟩ := row_notCells HRW10.out hg
          have e : g = w1.heap.size := e
          obtain ⟨es, c, hmm⟩ := HM10.out
          have h3 := hmm.at_
          rw [← e, hcs] at h3
          cases h3)
        have HF11 := Lib.hid (show FauAt W11 w1.heap.size ((fauS (prs pre)).1 ++ [v]) from ⟨_, hm11, fun p => by
          rw [get1_ins, HG.out, stOf_snoc]
          by_cases hp : v.pp = p
          · rw [if_pos hp, if_pos hp, HU.out, ← hp]
            rfl
          · rw [if_neg hp, if_neg hp]⟩)
        clear hm11 hg11 hs11 hk11 e0 e1 e2 e3 e4 e5 e6 e7 b3 d3 d4 d5 d6 d7
        gi_wp2
        exact IF.out (x := ⟨(i, v), hok, h4⟩) (n := M + 1) HR11.out hbl HP11.out HV11.out (by rw [List.length_append, ← HM.out]; rfl) (by rw [List.map_append]; exact HRW11.out) HF11.out HSN2.out
      · have HSN2 := Lib.hid (show fauS (prs (pre ++ [⟨(i, v), hok, h4⟩])) = ((fauS (prs pre)).1 ++ [v], (fauS (prs pre)).2) by
          rw [HSN.out]
          unfold fstep
          rw [if_neg (by show v.kd ≠ 3; rw [HKD.out]; decide), HBD.out]
          have : (decide (now < e0.get f) && decide ((f : Int) < 4)) = false := by
            rw [← Bool.not_eq_true]
            simpa using hbad
          rw [this]
          simp)
        have HB10 := HS9
        have HX10 := HX9
        have HP10 := HP9
        have HM10 := HM9
        have HRD10 := HR9
        have HV10 := HV9
        have HRW10 := HRW9
        by_cases hb2 : f < 4
        · have q4 : decide ((f : Int) < 4) = true := decide_eq_true (by omega)
          have q3 : decide (now < e0.get f) = false := decide_eq_false fun h => hbad ⟨h, by omega⟩
          clear hbad
          gi_wp2_with (with_reducible refine stopIn_load 5 ?_)
          refine stop_out ?_
          clear HX9 HP9 HS9 HM9 HR9 HV9 HRW9 d6 cf q3 q4
          generalize W9 = W10 at *
          have hx10 := HX10.out
          have hp10 := HP10.out
          have d3 : W10.cell? ⟨Bx, 3, none⟩ = some (.int .i64 v.kd) := by rw [cell_of_row _ _ _ _ _ _ hx10]; rfl
          have d4 : W10.cell? ⟨Bx, 4, none⟩ = some (.int .i64 v.rk) := by rw [cell_of_row _ _ _ _ _ _ hx10]; rfl
          have d5 : W10.cell? ⟨Bx, 5, none⟩ = some (.int .i64 v.nt) := by rw [cell_of_row _ _ _ _ _ _ hx10]; rfl
          have d6 : W10.cell? ⟨Bx, 6, none⟩ = some (.int .i64 v.fd) := by rw [cell_of_row _ _ _ _ _ _ hx10]; rfl
          have d7 : W10.cell? ⟨Bx, 7, none⟩ = some (.int .i64 v.vl) := by rw [cell_of_row _ _ _ _ _ _ hx10]; rfl
          have b3 : W10.cell? ⟨w1.heap.size + 1, 0, none⟩ = some (.map (some w1.heap.size)) := by rw [cell_of_row _ _ _ _ _ _ hp10]; rfl
          have e0 : W10.cell? ⟨g8, 0, none⟩ = some (.int .i64 u.f0) := (HB10.out.at_ (j := 0) rfl).1
          have e1 : W10.cell? ⟨g8, 1, none⟩ = some (.int .i64 u.f1) := (HB10.out.at_ (j := 1) rfl).1
          have e2 : W10.cell? ⟨g8, 2, none⟩ = some (.int .i64 u.f2) := (HB10.out.at_ (j := 2) rfl).1
          have e3 : W10.cell? ⟨g8, 3, none⟩ = some (.int .i64 u.f3) := (HB10.out.at_ (j := 3) rfl).1
          have e4 : W10.cell? ⟨g8, 4, none⟩ = some (.int .i64 u.f4) := (HB10.out.at_ (j := 4) rfl).1
          have e5 : W10.cell? ⟨g8, 5, none⟩ = some (.int .i64 u.f5) := (HB10.out.at_ (j := 5) rfl).1
          have e6 : W10.cell? ⟨g8, 6, none⟩ = some (.int .i64 u.f6) := (HB10.out.at_ (j := 6) rfl).1
          have e7 : W10.cell? ⟨g8, 7, none⟩ = some (.int .i64 u.f7) := (HB10.out.at_ (j := 7) rfl).1
          clear hx10 hp10
          gi_wp2_with (first
            | (gi_at_mapUpdate; refine stop_in ?_)
            | gi_in)
          refine stop_out ?_
          refine wpLIn_update _ rfl _ _ _ _ rfl pipeOk Try.underlying99 HM10.out v.pp u rfl rfl rfl (fun W11 hm11 hg11 hs11 => ?_)
          have hk11 : Kp (Kq.One w1.heap.size) W10 W11 := Kp.grown hg11 fun k hk _ => by injection hk with hk; exact hk.symm
          have HR11 := Lib.hid (HRD10.out.trans (Rnd.one hk11 (Nat.le_refl _) (by have := HRD10.out.kb.1.size; omega) (fun cs e m hc => by
            obtain ⟨es, c, hmm⟩ := HM10.out
            have h3 := hmm.at_
            rw [hc] at h3
            cases h3) (.inl (by omega))))
          have HP11 := Lib.hid (hk11.heap HP10.out fun e => by have e : w1.heap.size + 1 = w1.heap.size := e; omega)
          have HV11 := Lib.hid (show Boxed W11 (w1.heap.size + 2) 52 V from hk11.heap HV10.out fun e => by have e : w1.heap.size + 2 = w1.heap.size := e; omega)
          have HRW11 := Lib.hid (hk11.owns HRW10.out fun g hg e => by
            obtain ⟨cs, hcs⟩ := row_notCells HRW10.out hg
            have e : g = w1.heap.size := e
            obtain ⟨es, c, hmm⟩ := HM10.out
            have h3 := hmm.at_
            rw [← e, hcs] at h3
            cases h3)
          have HF11 := Lib.hid (show FauAt W11 w1.heap.size ((fauS (prs pre)).1 ++ [v]) from ⟨_, hm11, fun p => by
            rw [get1_ins, HG.out, stOf_snoc]
            by_cases hp : v.pp = p
            · rw [if_pos hp, if_pos hp, HU.out, ← hp]
              rfl
            · rw [if_neg hp, if_neg hp]⟩)
          clear hm11 hg11 hs11 hk11 e0 e1 e2 e3 e4 e5 e6 e7 b3 d3 d4 d5 d6 d7
          gi_wp2
          exact IF.out (x := ⟨(i, v), hok, h4⟩) (n := M) HR11.out hbl HP11.out HV11.out HM.out HRW11.out HF11.out HSN2.out
        · have q4 : decide ((f : Int) < 4) = false := decide_eq_false (by omega)
          have q5 : decide (f < 4) = false := decide_eq_false hb2
          clear hbad
          gi_wp2_with (with_reducible refine stopIn_load 5 ?_)
          refine stop_out ?_
          clear HX9 HP9 HS9 HM9 HR9 HV9 HRW9 d6 cf q4 q5
          generalize W9 = W10 at *
          have hx10 := HX10.out
          have hp10 := HP10.out
          have d3 : W10.cell? ⟨Bx, 3, none⟩ = some (.int .i64 v.kd) := by rw [cell_of_row _ _ _ _ _ _ hx10]; rfl
          have d4 : W10.cell? ⟨Bx, 4, none⟩ = some (.int .i64 v.rk) := by rw [cell_of_row _ _ _ _ _ _ hx10]; rfl
          have d5 : W10.cell? ⟨Bx, 5, none⟩ = some (.int .i64 v.nt) := by rw [cell_of_row _ _ _ _ _ _ hx10]; rfl
          have d6 : W10.cell? ⟨Bx, 6, none⟩ = some (.int .i64 v.fd) := by rw [cell_of_row _ _ _ _ _ _ hx10]; rfl
          have d7 : W10.cell? ⟨Bx, 7, none⟩ = some (.int .i64 v.vl) := by rw [cell_of_row _ _ _ _ _ _ hx10]; rfl
          have b3 : W10.cell? ⟨w1.heap.size + 1, 0, none⟩ = some (.map (some w1.heap.size)) := by rw [cell_of_row _ _ _ _ _ _ hp10]; rfl
          have e0 : W10.cell? ⟨g8, 0, none⟩ = some (.int .i64 u.f0) := (HB10.out.at_ (j := 0) rfl).1
          have e1 : W10.cell? ⟨g8, 1, none⟩ = some (.int .i64 u.f1) := (HB10.out.at_ (j := 1) rfl).1
          have e2 : W10.cell? ⟨g8, 2, none⟩ = some (.int .i64 u.f2) := (HB10.out.at_ (j := 2) rfl).1
          have e3 : W10.cell? ⟨g8, 3, none⟩ = some (.int .i64 u.f3) := (HB10.out.at_ (j := 3) rfl).1
          have e4 : W10.cell? ⟨g8, 4, none⟩ = some (.int .i64 u.f4) := (HB10.out.at_ (j := 4) rfl).1
          have e5 : W10.cell? ⟨g8, 5, none⟩ = some (.int .i64 u.f5) := (HB10.out.at_ (j := 5) rfl).1
          have e6 : W10.cell? ⟨g8, 6, none⟩ = some (.int .i64 u.f6) := (HB10.out.at_ (j := 6) rfl).1
          have e7 : W10.cell? ⟨g8, 7, none⟩ = some (.int .i64 u.f7) := (HB10.out.at_ (j := 7) rfl).1
          clear hx10 hp10
          gi_wp2_with (first
            | (gi_at_mapUpdate; refine stop_in ?_)
            | gi_in)
          refine stop_out ?_
          refine wpLIn_update _ rfl _ _ _ _ rfl pipeOk Try.underlying99 HM10.out v.pp u rfl rfl rfl (fun W11 hm11 hg11 hs11 => ?_)
          have hk11 : Kp (Kq.One w1.heap.size) W10 W11 := Kp.grown hg11 fun k hk _ => by injection hk with hk; exact hk.symm
          have HR11 := Lib.hid (HRD10.out.trans (Rnd.one hk11 (Nat.le_refl _) (by have := HRD10.out.kb.1.size; omega) (fun cs e m hc => by
            obtain ⟨es, c, hmm⟩ := HM10.out
            have h3 := hmm.at_
            rw [hc] at h3
            cases h3) (.inl (by omega))))
          have HP11 := Lib.hid (hk11.heap HP10.out fun e => by have e : w1.heap.size + 1 = w1.heap.size := e; omega)
          have HV11 := Lib.hid (show Boxed W11 (w1.heap.size + 2) 52 V from hk11.heap HV10.out fun e => by have e : w1.heap.size + 2 = w1.heap.size := e; omega)
          have HRW11 := Lib.hid (hk11.owns HRW10.out fun g hg e => by
            obtain ⟨cs, hcs⟩ := row_notCells HRW10.out hg
            have e : g = w1.heap.size := e
            obtain ⟨es, c, hmm⟩ := HM10.out
            have h3 := hmm.at_
            rw [← e, hcs] at h3
            cases h3)
          have HF11 := Lib.hid (show FauAt W11 w1.heap.size ((fauS (prs pre)).1 ++ [v]) from ⟨_, hm11, fun p => by
            rw [get1_ins, HG.out, stOf_snoc]
            by_cases hp : v.pp = p
            · rw [if_pos hp, if_pos hp, HU.out, ← hp]
              rfl
            · rw [if_neg hp, if_neg hp]⟩)
          clear hm11 hg11 hs11 hk11 e0 e1 e2 e3 e4 e5 e6 e7 b3 d3 d4 d5 d6 d7
          gi_wp2
          exact IF.out (x := ⟨(i, v), hok, h4⟩) (n := M) HR11.out hbl HP11.out HV11.out HM.out HRW11.out HF11.out HSN2.out
  case done =>
    rintro D zs W hD hS ⟨⟨hpb, ⟨V, hV, hrow⟩, hfa⟩, hbl⟩ hK
    have cV := hV.cell
    have HRW := Lib.hid hrow
    clear hpb hfa
    gi_wp2
    refine ⟨by simp, .inl ⟨_, _, rfl, run_takeDeferred hK, ?_⟩⟩
    have hz : prs zs = cntL l := hS
    refine ⟨.tuple #[V, .int .i64 0], by simp [results, Try.results34, go_sem], V, rfl, ?_, hk1.tr (Kp.below (S := No) (hbl.trans (belowK_b (w := w1) (Nat.le_refl _) W D _ _ (by omega) hK rfl rfl)))⟩
    rw [← hz]
    exact own_mono (ownsRow_putObj HRW.out _ hK rfl) hk1.size
  case stop =>
    rintro D c pre W _ _ h _
    exact h.elim
end Go.Proofs.Ytjbpdimepckmfaa
