/- Chapter 27: state: the walk. Printed by gen_st.py. -/
import Derived.RangeFuncBox
import Derived.Test.YtjbpdimepckmfaaXStM
import Derived.Test.YtjbpdimepckmfaaXLibStiM
namespace Go.Proofs.Ytjbpdimepckmfaa
open Go.RowKit Go.Kq

/-- What a round of a loop over the works that count keeps. -/
structure Rnd (B n₀ : Nat) (W W' : World) : Prop where
  kf : KeepsFrom B W W'
  kb : KpB n₀ W W'
theorem Rnd.refl (B n₀ : Nat) (W : World) : Rnd B n₀ W W := ⟨KeepsFrom.refl _ _, KpB.refl _ _⟩
theorem Rnd.trans {B n₀ : Nat} {X Y Z : World} (h : Rnd B n₀ X Y) (k : Rnd B n₀ Y Z) : Rnd B n₀ X Z := ⟨h.kf.trans k.kf, h.kb.trans k.kb⟩
theorem Rnd.kp {B n₀ : Nat} {W W' : World} (k : Kp No W W') (hn : n₀ ≤ W.heap.size) : Rnd B n₀ W W' := ⟨⟨k.size, fun _ _ _ h _ => k.heap h id⟩, KpB.kp k hn⟩
theorem Rnd.one {B n₀ : Nat} {W W' : World} {g : Nat} (k : Kp (Kq.One g) W W') (hn : n₀ ≤ g) (hs : n₀ ≤ W.heap.size) (h1 : ∀ cs e m, W.heap[g]? = some (.cells cs e m) → e ≠ 4 ∧ e ≠ 22) (h2 : g < B ∨ ∃ cs e m, W.heap[g]? = some (.cells cs e m)) : Rnd B n₀ W W' := by
  refine ⟨⟨k.size, fun i o hi ho hc => ?_⟩, k.toBelowB hs fun i hi e => by have e : i = g := e; omega, fun i cs e m hi he => ?_⟩
  · by_cases e : i = g
    · subst e
      rcases h2 with h2 | ⟨cs, e, m, h2⟩
      · omega
      · rw [ho] at h2
        cases h2
        cases hc
    · exact k.heap ho e
  · by_cases e' : i = g
    · subst e'
      have := h1 cs e m hi
      rcases he with he | he
      · exact absurd he this.1
      · exact absurd he this.2
    · exact k.heap hi e'
theorem setP {W : World} {g k : Nat} {v : Pv} (h : BoxP W g v) (hk : k < 8) (x : Int) : Kp (Kq.One g) W (W.drew.setCell ⟨g, 2 + k, none⟩ (.int .i64 x)) ∧ BoxP (W.drew.setCell ⟨g, 2 + k, none⟩ (.int .i64 x)) g (v.set k x) := by
  refine ⟨(Kp.drew _ _).tr (kp_setOne _ _ _ _), ?_⟩
  unfold BoxP at *
  have h : W.drew.heap[g]? = some (.cells v.cells.toArray 64 (0, 0)) := h
  rw [← Pv.cells_set v hk]
  simp [World.setCell, Array.getElem?_modify, h]
theorem noteP {W : World} {g : Nat} {v : Pv} (h : BoxP W g v) (n : Int) (t : ByteArray) : Kp (Kq.One g) W ((W.setCell ⟨g, 10, none⟩ (.int .i64 n)).setCell ⟨g, 11, none⟩ (.string t)) ∧ BoxP ((W.setCell ⟨g, 10, none⟩ (.int .i64 n)).setCell ⟨g, 11, none⟩ (.string t)) g (v.note n t) := by
  refine ⟨(kp_setOne _ _ _ _).tr (kp_setOne _ _ _ _), ?_⟩
  unfold BoxP at *
  simp [World.setCell, Array.getElem?_modify, h]
  rfl
theorem BoxP.rnd {B n₀ : Nat} {W W' : World} {g : Nat} {v : Pv} (h : BoxP W g v) (k : Kp (Kq.One g) W W') (hn : n₀ ≤ g) : Rnd B n₀ W W' :=
  Rnd.one k hn (by have := h.lt; omega) (fun cs e m hc => by
    unfold BoxP at h
    rw [h] at hc
    cases hc
    decide) (.inr ⟨_, _, _, h⟩)
theorem okW_cases {v : Wk} (h : okW v = true) (h4 : v.kd ≠ 4) : ((v.kd = 1 ∨ v.kd = 2) ∧ ∃ k : Nat, v.fd = (k : Int) ∧ k < 8) ∨ v.kd = 3 := by
  unfold okW at h
  rw [Bool.and_eq_true] at h
  have h := h.2
  unfold okK at h
  by_cases h1 : v.kd = 1 ∨ v.kd = 2
  · rw [if_pos h1] at h
    simp only [Bool.and_eq_true, decide_eq_true_eq] at h
    exact .inl ⟨h1, v.fd.toNat, by omega, by omega⟩
  · rw [if_neg h1] at h
    by_cases h3 : v.kd = 3
    · exact .inr h3
    · rw [if_neg h3, if_neg h4] at h
      cases h
theorem stepP_set (u : Pv) {v : Wk} {k : Nat} (h : v.kd = 1) (hf : v.fd = (k : Int)) : stepP u v = u.set k v.vl := by unfold stepP; rw [if_pos h, hf]; rfl
theorem stepP_add (u : Pv) {v : Wk} {k : Nat} (h : v.kd = 2) (hf : v.fd = (k : Int)) : stepP u v = u.set k (wrap64 (u.get k + v.vl)) := by unfold stepP; rw [if_neg (by omega), if_pos h, hf]; rfl
theorem stepP_note (u : Pv) {v : Wk} (h : v.kd = 3) : stepP u v = u.note (wrap64 (u.no + 1)) v.tx := by unfold stepP; rw [if_neg (by omega), if_neg (by omega)]
abbrev wsC (pre : List CW) : List Wk := pre.map fun x => x.1.2
set_option maxHeartbeats 1000000 in
theorem counting_any (A : Option Addr) (n ca : Nat) (w : World) : Calls Try.prog 69 #[.slice A n ca] w fun e w' => e = .returned (.func (.func 87) #[] #[.pointer (some ⟨w.heap.size, 0, none⟩)]) ∧ w' = w.alloc (.cells #[.slice A n ca] 22) := by
  go_enter Try.func69, Try.ntmps69
  go_wp2
  go_ret
  exact ⟨rfl, rfl⟩
theorem count_stops (n : Nat) (hn : 1 ≤ n) (Bx : Nat) (w0 : World) (A : Option Addr) (nn ca : Nat) (l : List Wk) (hR : Rec l) (hx : RdW w0 A nn l) (w : World) (hb0 : Below w0.heap.size w0 w) (hm : w.heap[Bx]? = some (.cells #[.slice A nn ca] 22 (0, 0))) :
    SeqStopsK Fence.wide n Try.prog 87 #[.pointer (some ⟨Bx, 0, none⟩)] encC (KpB w0.heap.size) (fun ss => ss.map Subtype.val = cntL l) (fun _ => True) l.length w := fun lp J Jx W hW hJ _ hY h0 =>
  count1_in n hn lp Bx w0 A nn ca l hR hx J Jx hY W hJ (hb0.trans (hW.mono hb0.size)) ((hW.block Bx (Array.getElem?_eq_some_iff.1 hm).1).trans hm) h0
/-- A round's own facts: the box of the map, the map, and what lay. -/
def IS (w : World) (pre : List CW) (W : World) : Prop := (W.heap[w.heap.size + 1]? = some (.cells #[.map (some w.heap.size)] 79 (0, 0)) ∧ StAt W w.heap.size w.heap.size (wsC pre)) ∧ Below w.heap.size w W
theorem IS.own (w : World) {B : Nat} (hB : w.heap.size + 2 ≤ B) : OwnFrom B (IS w) :=
  OwnFrom.and (fun s X Y row hs hg hr => ⟨(hg.block _ (Array.getElem?_eq_some_iff.1 hs.1).1 (fun e => by have := (hr _ e.symm).1; omega)).trans hs.1, hs.2.on (hg.block _ hs.2.lt (fun e => by have := (hr _ e.symm).1; omega)) fun g cs hc => (hg.block g (Array.getElem?_eq_some_iff.1 hc).1 (fun e => by
    obtain ⟨_, o, ho, hno⟩ := hr _ e.symm
    rw [hc] at ho
    cases ho
    cases hno)).trans hc⟩) (ownFrom_below (Nat.le_refl _) (by omega))
/-- A round's way out. -/
theorem IS.out {w W W2 W3 : World} {B : Nat} {pre : List CW} {x : CW} {g : Nat} {v : Pv} (_hB : w.heap.size + 2 ≤ B) (h1 : Rnd B w.heap.size W W2) (hb : Below w.heap.size w W) (hm : W2.heap[w.heap.size + 1]? = some (.cells #[.map (some w.heap.size)] 79 (0, 0))) (hX : StX W2 w.heap.size w.heap.size (wsC pre) x.1.2.pp g v)
    (k : Kp (Kq.One g) W2 W3) (hb3 : BoxP W3 g (stepP v x.1.2)) : KeepsFrom B W W3 ∧ KpB w.heap.size W W3 ∧ IS w (pre ++ [x]) W3 := by
  have hr := h1.trans (hX.box.rnd k hX.ge)
  refine ⟨hr.kf, hr.kb, ⟨k.heap hm fun e => ?_, ?_⟩, hb.trans hr.kb.1⟩
  · have e : w.heap.size + 1 = g := e
    subst e
    have := hX.box
    unfold BoxP at this
    rw [hm] at this
    cases this
  · show StAt W3 _ _ (wsC (pre ++ [x]))
    unfold wsC
    rw [List.map_append]
    exact hX.fin k hb3
attribute [local go_sem] Oper.semAt_some

set_option maxRecDepth 100000 in
set_option maxHeartbeats 8000000 in
theorem state_any (A : Option Addr) (nn ca : Nat) (l : List Wk) (w : World) (hR : Rec l) (hx : RdW w A nn l) :
    Calls Try.prog 51 #[.slice A nn ca] w fun e w' => ∃ B, e = .returned (.map (some B)) ∧ StAt w' B w.heap.size ((cntL l).map Prod.snd) ∧ w.heap.size ≤ B ∧ Kp No w w' := by
  have hmm := @run_makeMap Try.prog
  refine (callsIn_wide (n := 6)).1 ?_
  refine callsIn_of_wp_marks Try.func51 rfl trivial ?_ rfl
  simp only [Try.ntmps51, List.size_toArray, List.length_cons, List.length_nil, Nat.reduceAdd, Nat.reduceSub, Array.replicate_succ, Array.replicate_zero, List.push_toArray, List.append_toArray, List.nil_append, List.cons_append]
  gi_wp2_with (first
    | (refine ⟨trivial, ?_⟩; gi_at_call 69; refine (callsIn_wide.2 (counting_any _ _ _ _)).mono ?_; rintro e w' ⟨rfl, rfl⟩)
    | gi_in)
  obtain ⟨W0, hW0⟩ : ∃ W0, ((w.alloc (.map #[] 0)).alloc (.cells #[.map (some w.heap.size)] 79)).alloc (.cells #[.slice A nn ca] 22) = W0 := ⟨_, rfl⟩
  have hsz : W0.heap.size = w.heap.size + 3 := by rw [← hW0]; simp
  have hB0 : Below w.heap.size w W0 := by rw [← hW0]; exact (((Below.refl _ w).alloc (Nat.le_refl _) _).alloc (by simp) _).alloc (by simp; omega) _
  have hbx : W0.heap[w.heap.size + 1 + 1]? = some (.cells #[.slice A nn ca] 22 (0, 0)) := by
    rw [← hW0]
    have h := heap_alloc_new ((w.alloc (.map #[] 0)).alloc (.cells #[.map (some w.heap.size)] 79)) (.cells #[.slice A nn ca] 22)
    simpa using h
  have hI0 : IS w [] W0 := by
    refine ⟨⟨?_, ?_⟩, hB0⟩
    · rw [← hW0]
      refine (Kp.alloc No _ _).heap ?_ id
      have h := heap_alloc_new (w.alloc (.map #[] 0)) (.cells #[.map (some w.heap.size)] 79)
      simpa using h
    · rw [← hW0]
      exact ((stAt_made w w.heap.size).no (Kp.alloc _ _ _)).no (Kp.alloc _ _ _)
  rw [hW0]
  clear hW0 hmm
  refine wpIn_rangeFunc_ownH rfl (by decide) (gf := 87) (lb := #[.pointer (some ⟨w.heap.size + 1 + 1, 0, none⟩)]) rfl trivial (enters_of Try.func87 (by kernel_rfl) rfl)
    (count_stops 5 (by omega) (w.heap.size + 1 + 1) w A nn ca l hR hx W0 hB0 hbx) KpB.trans (KpB.put (by omega)) (Below.refl _ _) (fun _ => rfl)
    (IS w) (fun _ _ _ => False) (IS.own w (by omega)) (fun _ _ _ _ _ hs _ _ => hs) hI0
    (fun x a' W => ∃ Bx, W.heap[Bx]? = some (.cells x.1.2.cells.toArray 41 (0, 0)) ∧ a' = { tmps := #[.slice A nn ca, undef, .map none, .pointer (some ⟨w.heap.size + 1, 0, none⟩), undef, .pointer (some ⟨Bx, 0, none⟩), undef, .map (some w.heap.size), .slice A nn ca, .func (.func 87) #[] #[.pointer (some ⟨w.heap.size + 1 + 1, 0, none⟩)], .int .i64 (x.1.1 : Int), x.1.2.val, undef, undef, undef, undef, undef, undef, undef, undef, undef, undef, undef, undef, undef, undef, undef, undef, undef, undef, undef, undef, undef, undef, undef, undef, undef, undef, undef, undef, undef, undef, undef, undef, undef, undef, undef, undef, undef, undef, undef, undef, undef, undef, undef, undef, undef, undef, undef, undef, undef, undef, undef, undef, undef, undef, undef, undef], defers := [] })
    (fun x a' _ X Y row hs hg hr => by
      obtain ⟨Bx, h2, h3⟩ := hs
      refine ⟨Bx, (hg.block Bx (Array.getElem?_eq_some_iff.1 h2).1 (fun e => ?_)).trans h2, h3⟩
      obtain ⟨_, o, ho, hc⟩ := hr Bx e.symm
      rw [h2] at ho
      cases ho
      cases hc)
    ?assign ?body ?done ?stop
  case assign =>
    rintro lp pre x W K hI hK
    have hs := hI.2.size
    simp only [encC, Wk.val]
    gi_wp2
    exact hK _ _ ((KeepsOthers.alloc _ _).from _) (KpB.kp (Kp.alloc _ _ _) hs) ((IS.own w (Nat.le_refl _)).alloc _ hI) ⟨W.heap.size, heap_alloc_new _ _, rfl⟩
  case body =>
    rintro lp pre x a' W hl ⟨r, hr⟩ ⟨⟨hpb, hst⟩, hbl⟩ ⟨Bx, hbx, rfl⟩ hlt
    obtain ⟨⟨i, v⟩, hok, h4⟩ := x
    dsimp only at hbx hok h4 ⊢
    have HPB := Lib.hid hpb
    have HBX := Lib.hid hbx
    have hsW := hbl.size
    obtain ⟨E, hm, h1, h2⟩ := hst
    have HM := Lib.hid hm
    have H12 := Lib.hid (And.intro h1 h2)
    clear h1 h2 hm hlt hr hl hpb hbx
    have hlk := HM.out.run_lookup pipeOk Try.underlying79 (zeroPtr W) v.pp false
    simp only [ep, Wk.pp] at hlk
    cases hg : get1 E v.pp with
    | none =>
      have hg' := hg
      unfold Wk.pp at hg'
      rw [hg'] at hlk
      simp only [Option.getD_none, eo] at hlk
      have hbx := HBX.out
      have hpb := HPB.out
      have b4 : W.cell? ⟨Bx, 4, none⟩ = some (.int .i64 v.rk) := by rw [cell_of_row _ _ _ _ _ _ hbx]; rfl
      have b5 : W.cell? ⟨Bx, 5, none⟩ = some (.int .i64 v.nt) := by rw [cell_of_row _ _ _ _ _ _ hbx]; rfl
      have b3 : W.cell? ⟨w.heap.size + 1, 0, none⟩ = some (.map (some w.heap.size)) := by rw [cell_of_row _ _ _ _ _ _ hpb]; rfl
      have hBl := (Array.getElem?_eq_some_iff.1 hbx).1
      have hPl := (Array.getElem?_eq_some_iff.1 hpb).1
      clear hbx hpb hg'
      have HG := Lib.hid hg
      clear hg
      gi_wp2_with (first
        | (gi_at_mapUpdate; refine stop_in ?_)
        | gi_in)
      refine stop_out ?_
      refine wpLIn_update _ rfl _ _ _ _ rfl pipeOk Try.underlying79 (HM.out.of_block ((Kp.alloc No W (.cells (pv0 v.pp).cells.toArray 64)).block _ HM.out.lt id)) v.pp (some W.heap.size) rfl rfl rfl (fun W2 hm2 hg2 hs2 => ?_)
      have HX := Lib.hid (StX.fresh hsW HM.out H12.out.1 H12.out.2 HG.out rfl hm2 hg2)
      have hk2 : Kp (Kq.One w.heap.size) W W2 := (Kp.alloc _ _ _).tr (Kp.grown hg2 fun k hk _ => by injection hk with hk; exact hk.symm)
      have HBX2 := Lib.hid (hk2.heap HBX.out fun e => by
        have e : Bx = w.heap.size := e
        obtain ⟨es, c, hmm⟩ := HM.out
        have h3 := hmm.at_
        rw [← e, HBX.out] at h3
        cases h3)
      have HPB2 := Lib.hid (hk2.heap HPB.out fun e => by have e : w.heap.size + 1 = w.heap.size := e; omega)
      have HRD : Hid (Rnd W0.heap.size w.heap.size W W2) := Lib.hid (Rnd.one hk2 (Nat.le_refl _) hsW (fun cs e m hc => by
        obtain ⟨es, c, hmm⟩ := HM.out
        have h3 := hmm.at_
        rw [hc] at h3
        cases h3) (.inl (by omega)))
      clear hm2 hg2 hs2 hk2 hlk HPB HBX b3 b4 b5 hBl hPl
      replace HBX := HBX2
      replace HPB := HPB2
      clear HBX2 HPB2
      have hne : W.heap.size ≠ Bx := fun e => by
        have h5 := HX.out.box
        unfold BoxP at h5
        rw [e, HBX.out] at h5
        injection h5 with h5
        injection h5 with _ h6
        exact absurd h6 (by decide)
      have hne2 : Bx ≠ W.heap.size := fun e => hne e.symm
      have hbx := HBX.out
      have hpb := HPB.out
      have d3 : W2.cell? ⟨Bx, 3, none⟩ = some (.int .i64 v.kd) := by rw [cell_of_row _ _ _ _ _ _ hbx]; rfl
      have d4 : W2.cell? ⟨Bx, 4, none⟩ = some (.int .i64 v.rk) := by rw [cell_of_row _ _ _ _ _ _ hbx]; rfl
      have d5 : W2.cell? ⟨Bx, 5, none⟩ = some (.int .i64 v.nt) := by rw [cell_of_row _ _ _ _ _ _ hbx]; rfl
      have d6 : W2.cell? ⟨Bx, 6, none⟩ = some (.int .i64 v.fd) := by rw [cell_of_row _ _ _ _ _ _ hbx]; rfl
      have d7 : W2.cell? ⟨Bx, 7, none⟩ = some (.int .i64 v.vl) := by rw [cell_of_row _ _ _ _ _ _ hbx]; rfl
      have d10 : W2.cell? ⟨Bx, 10, none⟩ = some (.string v.tx) := by rw [cell_of_row _ _ _ _ _ _ hbx]; rfl
      have c3 : W2.cell? ⟨w.heap.size + 1, 0, none⟩ = some (.map (some w.heap.size)) := by rw [cell_of_row _ _ _ _ _ _ hpb]; rfl
      have hge := HX.out.ge
      clear hbx hpb
      rcases okW_cases hok h4 with ⟨hk12, k, hfd, hk8⟩ | h3
      · have q0 := HX.out.box.at_ (Pv.cells_get (pv0 v.pp) hk8)
        obtain ⟨q1, q2⟩ := q0
        rw [hfd] at d6
        have HFD := Lib.hid hfd
        have hk8' : (k : Int) < 8 := by omega
        by_cases h1 : v.kd = 1
        · have e1 : (v.kd == 1) = true := by rw [beq_iff_eq]; exact h1
          have HS := Lib.hid (stepP_set (pv0 v.pp) h1 hfd)
          clear h1 hfd hk12
          gi_wp2
          refine wpIn_region_each (fun ix u => match ix with | 0 => u = .pointer (some ⟨W.heap.size, 0, none⟩) | 1 => u = .pointer (some ⟨Bx, 6, none⟩) | 2 => u = .int .i64 (k : Int) | 3 => u = .pointer (some ⟨Bx, 7, none⟩) | 4 => u = .int .i64 v.vl | 5 => u = .pointer (some ⟨W.heap.size, 0, none⟩) | 6 => u = .pointer (some ⟨W.heap.size, 2, none⟩) | 7 => u = .pointer (some ⟨W.heap.size, 2 + k, none⟩) | _ => True) (StI W2 (⟨W.heap.size, 2 + k, none⟩) (.int .i64 v.vl) 8 4 3) (by kernel_rfl) (by kernel_rfl) (by kernel_rfl) ?_ ?_ ?_
          · exact StI.start _ _ _ _ _ _
          · refine ⟨?_, ?_, ?_, ?_, ?_, ?_, ?_, ?_, ?_, trivial⟩
            · intro r a w' hf hg hW hr hd K hK
              refine wpOpR_of rfl rfl ?_
              have e0 : a.tmps.getD 6 undef = .pointer (some ⟨W.heap.size, 0, none⟩) := hf.evalFree (by kernel_rfl)
              go_simp
              exact hK _ _ rfl (hW.upd 0 _ (by decide) (by decide))
            · intro r a w' hf hg hW hr hd K hK
              refine wpOpR_of rfl rfl ?_
              have e0 : a.tmps.getD 5 undef = .pointer (some ⟨Bx, 0, none⟩) := hf.evalFree (by kernel_rfl)
              go_simp
              exact hK _ _ rfl (hW.upd 1 _ (by decide) (by decide))
            · intro r a w' hf hg hW hr hd K hK
              refine wpOpR_of rfl rfl ?_
              refine hf.depE hg hd 1 31 (by kernel_rfl) fun u0 e0 g0 h0 => ?_
              replace g0 : u0 = .pointer (some ⟨Bx, 6, none⟩) := g0
              subst g0
              have z0 := hW.at_ d6 hne2
              go_simp
              exact hK _ _ rfl (hW.upd 2 _ (by decide) (by decide))
            · intro r a w' hf hg hW hr hd K hK
              refine wpOpR_of rfl rfl ?_
              have e0 : a.tmps.getD 5 undef = .pointer (some ⟨Bx, 0, none⟩) := hf.evalFree (by kernel_rfl)
              go_simp
              exact hK _ _ rfl (hW.upd 3 _ (by decide) (by decide))
            · intro r a w' hf hg hW hr hd K hK
              refine wpOpR_of rfl rfl ?_
              refine hf.depE hg hd 3 33 (by kernel_rfl) fun u0 e0 g0 h0 => ?_
              replace g0 : u0 = .pointer (some ⟨Bx, 7, none⟩) := g0
              subst g0
              have z0 := hW.at_ d7 hne2
              have HDEP : r 3 ≠ none := by rw [h0]; simp
              go_simp
              exact hK _ _ rfl (hW.updA _ (by decide) HDEP)
            · intro r a w' hf hg hW hr hd K hK
              refine wpOpR_of rfl rfl ?_
              refine hf.depE hg hd 0 30 (by kernel_rfl) fun u0 e0 g0 h0 => ?_
              replace g0 : u0 = .pointer (some ⟨W.heap.size, 0, none⟩) := g0
              subst g0
              go_simp
              exact hK _ _ rfl (hW.upd 5 _ (by decide) (by decide))
            · intro r a w' hf hg hW hr hd K hK
              refine wpOpR_of rfl rfl ?_
              refine hf.depE hg hd 5 35 (by kernel_rfl) fun u0 e0 g0 h0 => ?_
              replace g0 : u0 = .pointer (some ⟨W.heap.size, 0, none⟩) := g0
              subst g0
              go_simp
              exact hK _ _ rfl (hW.upd 6 _ (by decide) (by decide))
            · intro r a w' hf hg hW hr hd K hK
              refine wpOpR_of rfl rfl ?_
              refine hf.depE hg hd 6 36 (by kernel_rfl) fun u0 e0 g0 h0 => ?_
              replace g0 : u0 = .pointer (some ⟨W.heap.size, 2, none⟩) := g0
              subst g0
              refine hf.depE hg hd 2 32 (by kernel_rfl) fun u1 e1 g1 h1 => ?_
              replace g1 : u1 = .int .i64 (k : Int) := g1
              subst g1
              go_simp
              exact hK _ _ rfl (hW.upd 7 _ (by decide) (by decide))
            · intro r a w' hf hg hW hr hd K hK
              refine wpOpR_of rfl rfl ?_
              refine hf.depE hg hd 7 37 (by kernel_rfl) fun u0 e0 g0 h0 => ?_
              replace g0 : u0 = .pointer (some ⟨W.heap.size, 2 + k, none⟩) := g0
              subst g0
              refine hf.depE hg hd 4 34 (by kernel_rfl) fun u1 e1 g1 h1 => ?_
              replace g1 : u1 = .int .i64 v.vl := g1
              subst g1
              have hw' := hW.b0 hr
              subst hw'
              have p1 : W2.drew.cell? ⟨W.heap.size, 2 + k, none⟩ = some (.int .i64 ((pv0 v.pp).get k)) := q1
              have p2 : W2.drew.frozen? ⟨W.heap.size, 2 + k, none⟩ = false := q2
              go_simp
              exact hK undef _ trivial (hW.store hr (by decide) (by decide) (by rw [h1]; simp) _)
          intro r' w3 hg hW hr'
          have hwE := hW.b1 (hr' 8 (by decide))
          simp only [List.length_cons, List.length_nil, Nat.reduceAdd, List.range_succ, List.range_zero, List.nil_append, List.cons_append, List.map_cons, List.map_nil, putAll, Act.put, List.setIfInBounds_toArray, List.set_cons_succ, List.set_cons_zero]
          clear hg hW hr'
          subst hwE
          gi_wp2
          exact IS.out (x := ⟨(i, v), hok, h4⟩) (by omega) HRD.out hbl HPB.out HX.out (setP HX.out.box hk8 v.vl).1 (by rw [HS.out]; exact (setP HX.out.box hk8 v.vl).2)
        · have h2 : v.kd = 2 := hk12.resolve_left h1
          have e1 : (v.kd == 1) = false := by rw [beq_eq_false_iff_ne]; exact h1
          have e2 : (v.kd == 2) = true := by rw [beq_iff_eq]; exact h2
          have HS := Lib.hid (stepP_add (pv0 v.pp) h2 hfd)
          clear h1 h2 hfd hk12
          gi_wp2
          refine wpIn_region_each (fun ix u => match ix with | 0 => u = .pointer (some ⟨W.heap.size, 0, none⟩) | 1 => u = .pointer (some ⟨Bx, 6, none⟩) | 2 => u = .int .i64 (k : Int) | 3 => u = .pointer (some ⟨W.heap.size, 0, none⟩) | 4 => u = .pointer (some ⟨W.heap.size, 2, none⟩) | 5 => u = .pointer (some ⟨W.heap.size, 2 + k, none⟩) | 6 => u = .int .i64 ((pv0 v.pp).get k) | 7 => u = .pointer (some ⟨Bx, 7, none⟩) | 8 => u = .int .i64 v.vl | 9 => u = .int .i64 (wrap64 ((pv0 v.pp).get k + v.vl)) | 10 => u = .pointer (some ⟨W.heap.size, 0, none⟩) | 11 => u = .pointer (some ⟨W.heap.size, 2, none⟩) | 12 => u = .pointer (some ⟨W.heap.size, 2 + k, none⟩) | _ => True) (StI W2 (⟨W.heap.size, 2 + k, none⟩) (.int .i64 (wrap64 ((pv0 v.pp).get k + v.vl))) 13 9 6) (by kernel_rfl) (by kernel_rfl) (by kernel_rfl) ?_ ?_ ?_
          · exact StI.start _ _ _ _ _ _
          · refine ⟨?_, ?_, ?_, ?_, ?_, ?_, ?_, ?_, ?_, ?_, ?_, ?_, ?_, ?_, trivial⟩
            · intro r a w' hf hg hW hr hd K hK
              refine wpOpR_of rfl rfl ?_
              have e0 : a.tmps.getD 6 undef = .pointer (some ⟨W.heap.size, 0, none⟩) := hf.evalFree (by kernel_rfl)
              go_simp
              exact hK _ _ rfl (hW.upd 0 _ (by decide) (by decide))
            · intro r a w' hf hg hW hr hd K hK
              refine wpOpR_of rfl rfl ?_
              have e0 : a.tmps.getD 5 undef = .pointer (some ⟨Bx, 0, none⟩) := hf.evalFree (by kernel_rfl)
              go_simp
              exact hK _ _ rfl (hW.upd 1 _ (by decide) (by decide))
            · intro r a w' hf hg hW hr hd K hK
              refine wpOpR_of rfl rfl ?_
              refine hf.depE hg hd 1 41 (by kernel_rfl) fun u0 e0 g0 h0 => ?_
              replace g0 : u0 = .pointer (some ⟨Bx, 6, none⟩) := g0
              subst g0
              have z0 := hW.at_ d6 hne2
              go_simp
              exact hK _ _ rfl (hW.upd 2 _ (by decide) (by decide))
            · intro r a w' hf hg hW hr hd K hK
              refine wpOpR_of rfl rfl ?_
              refine hf.depE hg hd 0 40 (by kernel_rfl) fun u0 e0 g0 h0 => ?_
              replace g0 : u0 = .pointer (some ⟨W.heap.size, 0, none⟩) := g0
              subst g0
              go_simp
              exact hK _ _ rfl (hW.upd 3 _ (by decide) (by decide))
            · intro r a w' hf hg hW hr hd K hK
              refine wpOpR_of rfl rfl ?_
              refine hf.depE hg hd 3 43 (by kernel_rfl) fun u0 e0 g0 h0 => ?_
              replace g0 : u0 = .pointer (some ⟨W.heap.size, 0, none⟩) := g0
              subst g0
              go_simp
              exact hK _ _ rfl (hW.upd 4 _ (by decide) (by decide))
            · intro r a w' hf hg hW hr hd K hK
              refine wpOpR_of rfl rfl ?_
              refine hf.depE hg hd 4 44 (by kernel_rfl) fun u0 e0 g0 h0 => ?_
              replace g0 : u0 = .pointer (some ⟨W.heap.size, 2, none⟩) := g0
              subst g0
              refine hf.depE hg hd 2 42 (by kernel_rfl) fun u1 e1 g1 h1 => ?_
              replace g1 : u1 = .int .i64 (k : Int) := g1
              subst g1
              go_simp
              exact hK _ _ rfl (hW.upd 5 _ (by decide) (by decide))
            · intro r a w' hf hg hW hr hd K hK
              refine wpOpR_of rfl rfl ?_
              refine hf.depE hg hd 5 45 (by kernel_rfl) fun u0 e0 g0 h0 => ?_
              replace g0 : u0 = .pointer (some ⟨W.heap.size, 2 + k, none⟩) := g0
              subst g0
              have hw' := hW.early hr
              subst hw'
              have p1 : W2.drew.cell? ⟨W.heap.size, 2 + k, none⟩ = some (.int .i64 ((pv0 v.pp).get k)) := q1
              go_simp
              exact hK _ _ rfl (hW.upd 6 _ (by decide) (by decide))
            · intro r a w' hf hg hW hr hd K hK
              refine wpOpR_of rfl rfl ?_
              have e0 : a.tmps.getD 5 undef = .pointer (some ⟨Bx, 0, none⟩) := hf.evalFree (by kernel_rfl)
              go_simp
              exact hK _ _ rfl (hW.upd 7 _ (by decide) (by decide))
            · intro r a w' hf hg hW hr hd K hK
              refine wpOpR_of rfl rfl ?_
              refine hf.depE hg hd 7 47 (by kernel_rfl) fun u0 e0 g0 h0 => ?_
              replace g0 : u0 = .pointer (some ⟨Bx, 7, none⟩) := g0
              subst g0
              have z0 := hW.at_ d7 hne2
              go_simp
              exact hK _ _ rfl (hW.upd 8 _ (by decide) (by decide))
            · intro r a w' hf hg hW hr hd K hK
              refine wpOpR_of rfl rfl ?_
              refine hf.depE hg hd 6 46 (by kernel_rfl) fun u0 e0 g0 h0 => ?_
              replace g0 : u0 = .int .i64 ((pv0 v.pp).get k) := g0
              subst g0
              refine hf.depE hg hd 8 48 (by kernel_rfl) fun u1 e1 g1 h1 => ?_
              replace g1 : u1 = .int .i64 v.vl := g1
              subst g1
              have HDEP : r 6 ≠ none := by rw [h0]; simp
              go_simp
              rw [IntWalk.i64_left]
              exact hK _ _ rfl (hW.updA _ (by decide) HDEP)
            · intro r a w' hf hg hW hr hd K hK
              refine wpOpR_of rfl rfl ?_
              refine hf.depE hg hd 0 40 (by kernel_rfl) fun u0 e0 g0 h0 => ?_
              replace g0 : u0 = .pointer (some ⟨W.heap.size, 0, none⟩) := g0
              subst g0
              go_simp
              exact hK _ _ rfl (hW.upd 10 _ (by decide) (by decide))
            · intro r a w' hf hg hW hr hd K hK
              refine wpOpR_of rfl rfl ?_
              refine hf.depE hg hd 10 50 (by kernel_rfl) fun u0 e0 g0 h0 => ?_
              replace g0 : u0 = .pointer (some ⟨W.heap.size, 0, none⟩) := g0
              subst g0
              go_simp
              exact hK _ _ rfl (hW.upd 11 _ (by decide) (by decide))
            · intro r a w' hf hg hW hr hd K hK
              refine wpOpR_of rfl rfl ?_
              refine hf.depE hg hd 11 51 (by kernel_rfl) fun u0 e0 g0 h0 => ?_
              replace g0 : u0 = .pointer (some ⟨W.heap.size, 2, none⟩) := g0
              subst g0
              refine hf.depE hg hd 2 42 (by kernel_rfl) fun u1 e1 g1 h1 => ?_
              replace g1 : u1 = .int .i64 (k : Int) := g1
              subst g1
              go_simp
              exact hK _ _ rfl (hW.upd 12 _ (by decide) (by decide))
            · intro r a w' hf hg hW hr hd K hK
              refine wpOpR_of rfl rfl ?_
              refine hf.depE hg hd 12 52 (by kernel_rfl) fun u0 e0 g0 h0 => ?_
              replace g0 : u0 = .pointer (some ⟨W.heap.size, 2 + k, none⟩) := g0
              subst g0
              refine hf.depE hg hd 9 49 (by kernel_rfl) fun u1 e1 g1 h1 => ?_
              replace g1 : u1 = .int .i64 (wrap64 ((pv0 v.pp).get k + v.vl)) := g1
              subst g1
              have hw' := hW.b0 hr
              subst hw'
              have p1 : W2.drew.cell? ⟨W.heap.size, 2 + k, none⟩ = some (.int .i64 ((pv0 v.pp).get k)) := q1
              have p2 : W2.drew.frozen? ⟨W.heap.size, 2 + k, none⟩ = false := q2
              go_simp
              exact hK undef _ trivial (hW.store hr (by decide) (by decide) (by rw [h1]; simp) _)
          intro r' w3 hg hW hr'
          have hwE := hW.b1 (hr' 13 (by decide))
          simp only [List.length_cons, List.length_nil, Nat.reduceAdd, List.range_succ, List.range_zero, List.nil_append, List.cons_append, List.map_cons, List.map_nil, putAll, Act.put, List.setIfInBounds_toArray, List.set_cons_succ, List.set_cons_zero]
          clear hg hW hr'
          subst hwE
          gi_wp2
          exact IS.out (x := ⟨(i, v), hok, h4⟩) (by omega) HRD.out hbl HPB.out HX.out (setP HX.out.box hk8 (wrap64 ((pv0 v.pp).get k + v.vl))).1 (by rw [HS.out]; exact (setP HX.out.box hk8 (wrap64 ((pv0 v.pp).get k + v.vl))).2)
      · have e1 : (v.kd == 1) = false := by rw [beq_eq_false_iff_ne]; omega
        have e2 : (v.kd == 2) = false := by rw [beq_eq_false_iff_ne]; omega
        have e3 : (v.kd == 3) = true := by rw [beq_iff_eq]; exact h3
        have HS := Lib.hid (stepP_note (pv0 v.pp) h3)
        obtain ⟨q1, q2⟩ := HX.out.box.at_ (j := 10) (u := .int .i64 (pv0 v.pp).no) rfl
        obtain ⟨q3, q4⟩ := HX.out.box.at_ (j := 11) (u := .string (pv0 v.pp).la) rfl
        clear h3
        gi_wp2
        exact IS.out (x := ⟨(i, v), hok, h4⟩) (by omega) HRD.out hbl HPB.out HX.out (noteP HX.out.box _ _).1 (by rw [HS.out]; exact (noteP HX.out.box _ _).2)
    | some o =>
      obtain ⟨g, pu, rfl, hX⟩ := StX.found HM.out H12.out.1 H12.out.2 hg
      have HX := Lib.hid hX
      unfold Wk.pp at hg
      rw [hg] at hlk
      simp only [Option.getD_some, eo] at hlk
      have HRD : Hid (Rnd W0.heap.size w.heap.size W W) := Lib.hid (Rnd.refl _ _ _)
      clear hg hX
      have hne : g ≠ Bx := fun e => by
        have h5 := HX.out.box
        unfold BoxP at h5
        rw [e, HBX.out] at h5
        injection h5 with h5
        injection h5 with _ h6
        exact absurd h6 (by decide)
      have hne2 : Bx ≠ g := fun e => hne e.symm
      have hbx := HBX.out
      have hpb := HPB.out
      have d3 : W.cell? ⟨Bx, 3, none⟩ = some (.int .i64 v.kd) := by rw [cell_of_row _ _ _ _ _ _ hbx]; rfl
      have d4 : W.cell? ⟨Bx, 4, none⟩ = some (.int .i64 v.rk) := by rw [cell_of_row _ _ _ _ _ _ hbx]; rfl
      have d5 : W.cell? ⟨Bx, 5, none⟩ = some (.int .i64 v.nt) := by rw [cell_of_row _ _ _ _ _ _ hbx]; rfl
      have d6 : W.cell? ⟨Bx, 6, none⟩ = some (.int .i64 v.fd) := by rw [cell_of_row _ _ _ _ _ _ hbx]; rfl
      have d7 : W.cell? ⟨Bx, 7, none⟩ = some (.int .i64 v.vl) := by rw [cell_of_row _ _ _ _ _ _ hbx]; rfl
      have d10 : W.cell? ⟨Bx, 10, none⟩ = some (.string v.tx) := by rw [cell_of_row _ _ _ _ _ _ hbx]; rfl
      have c3 : W.cell? ⟨w.heap.size + 1, 0, none⟩ = some (.map (some w.heap.size)) := by rw [cell_of_row _ _ _ _ _ _ hpb]; rfl
      have hge := HX.out.ge
      clear hbx hpb
      rcases okW_cases hok h4 with ⟨hk12, k, hfd, hk8⟩ | h3
      · have q0 := HX.out.box.at_ (Pv.cells_get pu hk8)
        obtain ⟨q1, q2⟩ := q0
        rw [hfd] at d6
        have HFD := Lib.hid hfd
        have hk8' : (k : Int) < 8 := by omega
        by_cases h1 : v.kd = 1
        · have e1 : (v.kd == 1) = true := by rw [beq_iff_eq]; exact h1
          have HS := Lib.hid (stepP_set pu h1 hfd)
          clear h1 hfd hk12
          gi_wp2
          refine wpIn_region_each (fun ix u => match ix with | 0 => u = .pointer (some ⟨g, 0, none⟩) | 1 => u = .pointer (some ⟨Bx, 6, none⟩) | 2 => u = .int .i64 (k : Int) | 3 => u = .pointer (some ⟨Bx, 7, none⟩) | 4 => u = .int .i64 v.vl | 5 => u = .pointer (some ⟨g, 0, none⟩) | 6 => u = .pointer (some ⟨g, 2, none⟩) | 7 => u = .pointer (some ⟨g, 2 + k, none⟩) | _ => True) (StI W (⟨g, 2 + k, none⟩) (.int .i64 v.vl) 8 4 3) (by kernel_rfl) (by kernel_rfl) (by kernel_rfl) ?_ ?_ ?_
          · exact StI.start _ _ _ _ _ _
          · refine ⟨?_, ?_, ?_, ?_, ?_, ?_, ?_, ?_, ?_, trivial⟩
            · intro r a w' hf hg hW hr hd K hK
              refine wpOpR_of rfl rfl ?_
              have e0 : a.tmps.getD 6 undef = .pointer (some ⟨g, 0, none⟩) := hf.evalFree (by kernel_rfl)
              go_simp
              exact hK _ _ rfl (hW.upd 0 _ (by decide) (by decide))
            · intro r a w' hf hg hW hr hd K hK
              refine wpOpR_of rfl rfl ?_
              have e0 : a.tmps.getD 5 undef = .pointer (some ⟨Bx, 0, none⟩) := hf.evalFree (by kernel_rfl)
              go_simp
              exact hK _ _ rfl (hW.upd 1 _ (by decide) (by decide))
            · intro r a w' hf hg hW hr hd K hK
              refine wpOpR_of rfl rfl ?_
              refine hf.depE hg hd 1 31 (by kernel_rfl) fun u0 e0 g0 h0 => ?_
              replace g0 : u0 = .pointer (some ⟨Bx, 6, none⟩) := g0
              subst g0
              have z0 := hW.at_ d6 hne2
              go_simp
              exact hK _ _ rfl (hW.upd 2 _ (by decide) (by decide))
            · intro r a w' hf hg hW hr hd K hK
              refine wpOpR_of rfl rfl ?_
              have e0 : a.tmps.getD 5 undef = .pointer (some ⟨Bx, 0, none⟩) := hf.evalFree (by kernel_rfl)
              go_simp
              exact hK _ _ rfl (hW.upd 3 _ (by decide) (by decide))
            · intro r a w' hf hg hW hr hd K hK
              refine wpOpR_of rfl rfl ?_
              refine hf.depE hg hd 3 33 (by kernel_rfl) fun u0 e0 g0 h0 => ?_
              replace g0 : u0 = .pointer (some ⟨Bx, 7, none⟩) := g0
              subst g0
              have z0 := hW.at_ d7 hne2
              have HDEP : r 3 ≠ none := by rw [h0]; simp
              go_simp
              exact hK _ _ rfl (hW.updA _ (by decide) HDEP)
            · intro r a w' hf hg hW hr hd K hK
              refine wpOpR_of rfl rfl ?_
              refine hf.depE hg hd 0 30 (by kernel_rfl) fun u0 e0 g0 h0 => ?_
              replace g0 : u0 = .pointer (some ⟨g, 0, none⟩) := g0
              subst g0
              go_simp
              exact hK _ _ rfl (hW.upd 5 _ (by decide) (by decide))
            · intro r a w' hf hg hW hr hd K hK
              refine wpOpR_of rfl rfl ?_
              refine hf.depE hg hd 5 35 (by kernel_rfl) fun u0 e0 g0 h0 => ?_
              replace g0 : u0 = .pointer (some ⟨g, 0, none⟩) := g0
              subst g0
              go_simp
              exact hK _ _ rfl (hW.upd 6 _ (by decide) (by decide))
            · intro r a w' hf hg hW hr hd K hK
              refine wpOpR_of rfl rfl ?_
              refine hf.depE hg hd 6 36 (by kernel_rfl) fun u0 e0 g0 h0 => ?_
              replace g0 : u0 = .pointer (some ⟨g, 2, none⟩) := g0
              subst g0
              refine hf.depE hg hd 2 32 (by kernel_rfl) fun u1 e1 g1 h1 => ?_
              replace g1 : u1 = .int .i64 (k : Int) := g1
              subst g1
              go_simp
              exact hK _ _ rfl (hW.upd 7 _ (by decide) (by decide))
            · intro r a w' hf hg hW hr hd K hK
              refine wpOpR_of rfl rfl ?_
              refine hf.depE hg hd 7 37 (by kernel_rfl) fun u0 e0 g0 h0 => ?_
              replace g0 : u0 = .pointer (some ⟨g, 2 + k, none⟩) := g0
              subst g0
              refine hf.depE hg hd 4 34 (by kernel_rfl) fun u1 e1 g1 h1 => ?_
              replace g1 : u1 = .int .i64 v.vl := g1
              subst g1
              have hw' := hW.b0 hr
              subst hw'
              have p1 : W.drew.cell? ⟨g, 2 + k, none⟩ = some (.int .i64 (pu.get k)) := q1
              have p2 : W.drew.frozen? ⟨g, 2 + k, none⟩ = false := q2
              go_simp
              exact hK undef _ trivial (hW.store hr (by decide) (by decide) (by rw [h1]; simp) _)
          intro r' w3 hg hW hr'
          have hwE := hW.b1 (hr' 8 (by decide))
          simp only [List.length_cons, List.length_nil, Nat.reduceAdd, List.range_succ, List.range_zero, List.nil_append, List.cons_append, List.map_cons, List.map_nil, putAll, Act.put, List.setIfInBounds_toArray, List.set_cons_succ, List.set_cons_zero]
          clear hg hW hr'
          subst hwE
          gi_wp2
          exact IS.out (x := ⟨(i, v), hok, h4⟩) (by omega) HRD.out hbl HPB.out HX.out (setP HX.out.box hk8 v.vl).1 (by rw [HS.out]; exact (setP HX.out.box hk8 v.vl).2)
        · have h2 : v.kd = 2 := hk12.resolve_left h1
          have e1 : (v.kd == 1) = false := by rw [beq_eq_false_iff_ne]; exact h1
          have e2 : (v.kd == 2) = true := by rw [beq_iff_eq]; exact h2
          have HS := Lib.hid (stepP_add pu h2 hfd)
          clear h1 h2 hfd hk12
          gi_wp2
          refine wpIn_region_each (fun ix u => match ix with | 0 => u = .pointer (some ⟨g, 0, none⟩) | 1 => u = .pointer (some ⟨Bx, 6, none⟩) | 2 => u = .int .i64 (k : Int) | 3 => u = .pointer (some ⟨g, 0, none⟩) | 4 => u = .pointer (some ⟨g, 2, none⟩) | 5 => u = .pointer (some ⟨g, 2 + k, none⟩) | 6 => u = .int .i64 (pu.get k) | 7 => u = .pointer (some ⟨Bx, 7, none⟩) | 8 => u = .int .i64 v.vl | 9 => u = .int .i64 (wrap64 (pu.get k + v.vl)) | 10 => u = .pointer (some ⟨g, 0, none⟩) | 11 => u = .pointer (some ⟨g, 2, none⟩) | 12 => u = .pointer (some ⟨g, 2 + k, none⟩) | _ => True) (StI W (⟨g, 2 + k, none⟩) (.int .i64 (wrap64 (pu.get k + v.vl))) 13 9 6) (by kernel_rfl) (by kernel_rfl) (by kernel_rfl) ?_ ?_ ?_
          · exact StI.start _ _ _ _ _ _
          · refine ⟨?_, ?_, ?_, ?_, ?_, ?_, ?_, ?_, ?_, ?_, ?_, ?_, ?_, ?_, trivial⟩
            · intro r a w' hf hg hW hr hd K hK
              refine wpOpR_of rfl rfl ?_
              have e0 : a.tmps.getD 6 undef = .pointer (some ⟨g, 0, none⟩) := hf.evalFree (by kernel_rfl)
              go_simp
              exact hK _ _ rfl (hW.upd 0 _ (by decide) (by decide))
            · intro r a w' hf hg hW hr hd K hK
              refine wpOpR_of rfl rfl ?_
              have e0 : a.tmps.getD 5 undef = .pointer (some ⟨Bx, 0, none⟩) := hf.evalFree (by kernel_rfl)
              go_simp
              exact hK _ _ rfl (hW.upd 1 _ (by decide) (by decide))
            · intro r a w' hf hg hW hr hd K hK
              refine wpOpR_of rfl rfl ?_
              refine hf.depE hg hd 1 41 (by kernel_rfl) fun u0 e0 g0 h0 => ?_
              replace g0 : u0 = .pointer (some ⟨Bx, 6, none⟩) := g0
              subst g0
              have z0 := hW.at_ d6 hne2
              go_simp
              exact hK _ _ rfl (hW.upd 2 _ (by decide) (by decide))
            · intro r a w' hf hg hW hr hd K hK
              refine wpOpR_of rfl rfl ?_
              refine hf.depE hg hd 0 40 (by kernel_rfl) fun u0 e0 g0 h0 => ?_
              replace g0 : u0 = .pointer (some ⟨g, 0, none⟩) := g0
              subst g0
              go_simp
              exact hK _ _ rfl (hW.upd 3 _ (by decide) (by decide))
            · intro r a w' hf hg hW hr hd K hK
              refine wpOpR_of rfl rfl ?_
              refine hf.depE hg hd 3 43 (by kernel_rfl) fun u0 e0 g0 h0 => ?_
              replace g0 : u0 = .pointer (some ⟨g, 0, none⟩) := g0
              subst g0
              go_simp
              exact hK _ _ rfl (hW.upd 4 _ (by decide) (by decide))
            · intro r a w' hf hg hW hr hd K hK
              refine wpOpR_of rfl rfl ?_
              refine hf.depE hg hd 4 44 (by kernel_rfl) fun u0 e0 g0 h0 => ?_
              replace g0 : u0 = .pointer (some ⟨g, 2, none⟩) := g0
              subst g0
              refine hf.depE hg hd 2 42 (by kernel_rfl) fun u1 e1 g1 h1 => ?_
              replace g1 : u1 = .int .i64 (k : Int) := g1
              subst g1
              go_simp
              exact hK _ _ rfl (hW.upd 5 _ (by decide) (by decide))
            · intro r a w' hf hg hW hr hd K hK
              refine wpOpR_of rfl rfl ?_
              refine hf.depE hg hd 5 45 (by kernel_rfl) fun u0 e0 g0 h0 => ?_
              replace g0 : u0 = .pointer (some ⟨g, 2 + k, none⟩) := g0
              subst g0
              have hw' := hW.early hr
              subst hw'
              have p1 : W.drew.cell? ⟨g, 2 + k, none⟩ = some (.int .i64 (pu.get k)) := q1
              go_simp
              exact hK _ _ rfl (hW.upd 6 _ (by decide) (by decide))
            · intro r a w' hf hg hW hr hd K hK
              refine wpOpR_of rfl rfl ?_
              have e0 : a.tmps.getD 5 undef = .pointer (some ⟨Bx, 0, none⟩) := hf.evalFree (by kernel_rfl)
              go_simp
              exact hK _ _ rfl (hW.upd 7 _ (by decide) (by decide))
            · intro r a w' hf hg hW hr hd K hK
              refine wpOpR_of rfl rfl ?_
              refine hf.depE hg hd 7 47 (by kernel_rfl) fun u0 e0 g0 h0 => ?_
              replace g0 : u0 = .pointer (some ⟨Bx, 7, none⟩) := g0
              subst g0
              have z0 := hW.at_ d7 hne2
              go_simp
              exact hK _ _ rfl (hW.upd 8 _ (by decide) (by decide))
            · intro r a w' hf hg hW hr hd K hK
              refine wpOpR_of rfl rfl ?_
              refine hf.depE hg hd 6 46 (by kernel_rfl) fun u0 e0 g0 h0 => ?_
              replace g0 : u0 = .int .i64 (pu.get k) := g0
              subst g0
              refine hf.depE hg hd 8 48 (by kernel_rfl) fun u1 e1 g1 h1 => ?_
              replace g1 : u1 = .int .i64 v.vl := g1
              subst g1
              have HDEP : r 6 ≠ none := by rw [h0]; simp
              go_simp
              rw [IntWalk.i64_left]
              exact hK _ _ rfl (hW.updA _ (by decide) HDEP)
            · intro r a w' hf hg hW hr hd K hK
              refine wpOpR_of rfl rfl ?_
              refine hf.depE hg hd 0 40 (by kernel_rfl) fun u0 e0 g0 h0 => ?_
              replace g0 : u0 = .pointer (some ⟨g, 0, none⟩) := g0
              subst g0
              go_simp
              exact hK _ _ rfl (hW.upd 10 _ (by decide) (by decide))
            · intro r a w' hf hg hW hr hd K hK
              refine wpOpR_of rfl rfl ?_
              refine hf.depE hg hd 10 50 (by kernel_rfl) fun u0 e0 g0 h0 => ?_
              replace g0 : u0 = .pointer (some ⟨g, 0, none⟩) := g0
              subst g0
              go_simp
              exact hK _ _ rfl (hW.upd 11 _ (by decide) (by decide))
            · intro r a w' hf hg hW hr hd K hK
              refine wpOpR_of rfl rfl ?_
              refine hf.depE hg hd 11 51 (by kernel_rfl) fun u0 e0 g0 h0 => ?_
              replace g0 : u0 = .pointer (some ⟨g, 2, none⟩) := g0
              subst g0
              refine hf.depE hg hd 2 42 (by kernel_rfl) fun u1 e1 g1 h1 => ?_
              replace g1 : u1 = .int .i64 (k : Int) := g1
              subst g1
              go_simp
              exact hK _ _ rfl (hW.upd 12 _ (by decide) (by decide))
            · intro r a w' hf hg hW hr hd K hK
              refine wpOpR_of rfl rfl ?_
              refine hf.depE hg hd 12 52 (by kernel_rfl) fun u0 e0 g0 h0 => ?_
              replace g0 : u0 = .pointer (some ⟨g, 2 + k, none⟩) := g0
              subst g0
              refine hf.depE hg hd 9 49 (by kernel_rfl) fun u1 e1 g1 h1 => ?_
              replace g1 : u1 = .int .i64 (wrap64 (pu.get k + v.vl)) := g1
              subst g1
              have hw' := hW.b0 hr
              subst hw'
              have p1 : W.drew.cell? ⟨g, 2 + k, none⟩ = some (.int .i64 (pu.get k)) := q1
              have p2 : W.drew.frozen? ⟨g, 2 + k, none⟩ = false := q2
              go_simp
              exact hK undef _ trivial (hW.store hr (by decide) (by decide) (by rw [h1]; simp) _)
          intro r' w3 hg hW hr'
          have hwE := hW.b1 (hr' 13 (by decide))
          simp only [List.length_cons, List.length_nil, Nat.reduceAdd, List.range_succ, List.range_zero, List.nil_append, List.cons_append, List.map_cons, List.map_nil, putAll, Act.put, List.setIfInBounds_toArray, List.set_cons_succ, List.set_cons_zero]
          clear hg hW hr'
          subst hwE
          gi_wp2
          exact IS.out (x := ⟨(i, v), hok, h4⟩) (by omega) HRD.out hbl HPB.out HX.out (setP HX.out.box hk8 (wrap64 (pu.get k + v.vl))).1 (by rw [HS.out]; exact (setP HX.out.box hk8 (wrap64 (pu.get k + v.vl))).2)
      · have e1 : (v.kd == 1) = false := by rw [beq_eq_false_iff_ne]; omega
        have e2 : (v.kd == 2) = false := by rw [beq_eq_false_iff_ne]; omega
        have e3 : (v.kd == 3) = true := by rw [beq_iff_eq]; exact h3
        have HS := Lib.hid (stepP_note pu h3)
        obtain ⟨q1, q2⟩ := HX.out.box.at_ (j := 10) (u := .int .i64 pu.no) rfl
        obtain ⟨q3, q4⟩ := HX.out.box.at_ (j := 11) (u := .string pu.la) rfl
        clear h3
        gi_wp2
        exact IS.out (x := ⟨(i, v), hok, h4⟩) (by omega) HRD.out hbl HPB.out HX.out (noteP HX.out.box _ _).1 (by rw [HS.out]; exact (noteP HX.out.box _ _).2)
  case done =>
    rintro D zs W hD hS ⟨⟨hpb, hst⟩, hbl⟩ hK
    have cM : W.cell? ⟨w.heap.size + 1, 0, none⟩ = some (.map (some w.heap.size)) := by rw [cell_of_row _ _ _ _ _ _ hpb]; rfl
    have HST := Lib.hid hst
    clear hst hpb
    gi_wp2
    refine ⟨by simp, .inl ⟨_, _, rfl, run_takeDeferred hK, ?_⟩⟩
    have hz : wsC zs = (cntL l).map Prod.snd := by rw [← hS]; unfold wsC; rw [List.map_map]; rfl
    refine ⟨_, results_tmp rfl _ _ _, _, rfl, ?_, Nat.le_refl _, Kp.below (S := No) (hbl.trans (belowK_b (w := w) (Nat.le_refl _) W D _ _ (by omega) hK rfl rfl))⟩
    rw [← hz]
    exact HST.out.on ((grownBy_putObj' W D _).block _ HST.out.lt (fun e => by cases e; omega)) fun g cs hc => ((grownBy_putObj' W D _).block g (Array.getElem?_eq_some_iff.1 hc).1 (fun e => by
      cases e
      rw [hK] at hc
      cases hc)).trans hc
  case stop =>
    rintro D c pre W _ _ h _
    exact h.elim
end Go.Proofs.Ytjbpdimepckmfaa
