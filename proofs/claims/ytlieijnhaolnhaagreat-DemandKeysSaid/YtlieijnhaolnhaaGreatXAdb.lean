/- Chapter 13: what pipes take by their chests: the walk. Printed by gen_adb.py. -/
import Derived.StillTailTactics
import Derived.Test.YtlieijnhaolnhaaGreatXUnkM
import Derived.Test.YtlieijnhaolnhaaGreatXLibMakeM
import Derived.Test.YtlieijnhaolnhaaGreatXLibBoxM
namespace Go.Proofs.YtlieijnhaolnhaaGreat
open Go.RowKit Go.Kq

theorem ivC_len (x : Int × Int) : (ivC x).length = 2 := rfl
theorem infoV : (Tryz.prog.info? 25).map (fun i => (i.zero, i.size, i.bytes)) = some (some (.agg #[.int .i64 0, .int .i64 0]), 2, 16) := by kernel_rfl
theorem make_ivs (m : Nat) (hm : m ≤ 100000) (w : World) : (Instr.makeSlice 38 (.int .i64 (m : Nat)) (.int .i64 (m : Nat))).run Tryz.prog w = .ok (.slice (some ⟨w.heap.size, 0, none⟩) m m) (w.alloc (.cells ((List.replicate m ((0, 0) : Int × Int)).flatMap ivC).toArray 25)) := by
  obtain ⟨i0, hi, hz0, hz1, hz2⟩ := info_parts infoV
  exact run_make_flat w ivC ((0, 0) : Int × Int) _ _ i0 _ 2 16 m Tryz.underlying38 hi hz0 hz1 hz2 (by decide) rfl rfl (by omega) (by omega)
/-- One pipe more. -/
def addS (l : List Rw) (ps : List Int) (out : List (Int × Int)) (p : Pp) : List (Int × Int) :=
  match rowOf l p with
  | some x => out.set x.c.toNat ((out.getD x.c.toNat (0, 0)).1 + tlo x.b x.f (ps.getD x.c.toNat 0), (out.getD x.c.toNat (0, 0)).2 + thi x.b x.f (ps.getD x.c.toNat 0))
  | none => out
/-- What pipes take, chest by chest. -/
def addL (l : List Rw) (ps : List Int) (pipes : List Pp) : List (Int × Int) := pipes.foldl (addS l ps) (List.replicate ps.length (0, 0))
theorem addS_len (l : List Rw) (ps : List Int) (out : List (Int × Int)) (p : Pp) : (addS l ps out p).length = out.length := by
  unfold addS
  split <;> simp
theorem addF_len (l : List Rw) (ps : List Int) : ∀ (pipes : List Pp) (out : List (Int × Int)), (pipes.foldl (addS l ps) out).length = out.length
  | [], _ => rfl
  | p :: pipes, out => by rw [List.foldl_cons, addF_len l ps pipes, addS_len]
theorem addL_len (l : List Rw) (ps : List Int) (pipes : List Pp) : (addL l ps pipes).length = ps.length := by
  unfold addL
  rw [addF_len]
  simp
theorem addL_snoc (l : List Rw) (ps : List Int) (pipes : List Pp) (p : Pp) : addL l ps (pipes ++ [p]) = addS l ps (addL l ps pipes) p := by
  unfold addL
  rw [List.foldl_append]
  rfl
/-- Rows and pressures that are valid. -/
structure Good (l : List Rw) (ps : List Int) : Prop where
  rise : risB (l.map Rw.pp) = true
  rows : ∀ x ∈ l, toeB x.b x.f = true ∧ 0 ≤ x.c ∧ x.c < ps.length
  press : ∀ p ∈ ps, preB p = true
  few : ps.length ≤ 16
def ivBd (M : Int) (out : List (Int × Int)) : Prop := ∀ y ∈ out, (0 ≤ y.1 ∧ y.1 ≤ M) ∧ (0 ≤ y.2 ∧ y.2 ≤ M)
theorem take_bd {l : List Rw} {ps : List Int} (h : Good l ps) {x : Rw} (hx : x ∈ l) : (0 ≤ tlo x.b x.f (ps.getD x.c.toNat 0) ∧ tlo x.b x.f (ps.getD x.c.toNat 0) ≤ thi x.b x.f (ps.getD x.c.toNat 0) ∧ thi x.b x.f (ps.getD x.c.toNat 0) ≤ 1000000000) ∧ preB (ps.getD x.c.toNat 0) = true := by
  obtain ⟨h1, h2, h3⟩ := h.rows x hx
  obtain ⟨a, b⟩ := toeB_of h1
  have hp : preB (ps.getD x.c.toNat 0) = true := h.press _ (by rw [List.getD_eq_getElem?_getD, List.getElem?_eq_getElem (by omega)]; exact List.getElem_mem _)
  have c := preB_of hp
  exact ⟨⟨tlo_nn (by omega) (by omega), tlo_thi (by omega) (by omega) (by omega), thi_le (by omega) (by omega) (by omega) (by omega) (by omega) (by omega)⟩, hp⟩
theorem addS_bd {l : List Rw} {ps : List Int} (h : Good l ps) {M : Int} {out : List (Int × Int)} (hM : 0 ≤ M) (hb : ivBd M out) (p : Pp) : ivBd (M + 1000000000) (addS l ps out p) := by
  unfold addS
  cases hr : rowOf l p with
  | none => exact fun y hy => by have := hb y hy; omega
  | some x =>
    obtain ⟨h1, h2⟩ := take_bd h (rowOf_some hr).1
    intro y hy
    rcases List.mem_or_eq_of_mem_set hy with hy | hy
    · have := hb y hy
      omega
    · subst hy
      have hg : (0 ≤ (out.getD x.c.toNat (0, 0)).1 ∧ (out.getD x.c.toNat (0, 0)).1 ≤ M) ∧ (0 ≤ (out.getD x.c.toNat (0, 0)).2 ∧ (out.getD x.c.toNat (0, 0)).2 ≤ M) := by
        rw [List.getD_eq_getElem?_getD]
        cases hq : out[x.c.toNat]? with
        | none => simpa using hM
        | some z => exact hb z (List.mem_of_getElem? hq)
      simp only
      omega
theorem addL_bd {l : List Rw} {ps : List Int} (h : Good l ps) : ∀ (pipes : List Pp), ivBd (1000000000 * (pipes.length : Int)) (addL l ps pipes) := by
  suffices ∀ (pipes : List Pp) (out : List (Int × Int)) (M : Int), 0 ≤ M → ivBd M out → ivBd (M + 1000000000 * (pipes.length : Int)) (pipes.foldl (addS l ps) out) by
    intro pipes
    have := this pipes (List.replicate ps.length (0, 0)) 0 (by omega) (fun y hy => by rw [(List.mem_replicate.1 hy).2]; simp)
    simpa [addL] using this
  intro pipes
  induction pipes with
  | nil => intro out M _ hb; simpa using hb
  | cons p pipes ih =>
    intro out M hM hb
    have := ih (addS l ps out p) (M + 1000000000) (by omega) (addS_bd h hM hb p)
    rw [List.foldl_cons]
    intro y hy
    have := this y hy
    simp only [List.length_cons]
    omega
theorem set_two (L : List (Int × Int)) (c : Nat) (y : Int × Int) (a b : Int) (hy : L[c]? = some y) : ((L.flatMap ivC).set (c * 2) (.int .i64 a)).set (c * 2 + 1) (.int .i64 b) = (L.set c (a, b)).flatMap ivC := by
  have h1 := flat_set ivC_len L c y (a, y.2) 0 (.int .i64 a) hy (by omega) rfl
  have hc := (List.getElem?_eq_some_iff.1 hy).1
  have h2 := flat_set ivC_len (L.set c (a, y.2)) c (a, y.2) (a, b) 1 (.int .i64 b) (by rw [List.getElem?_set]; simp [hc]) (by omega) rfl
  rw [Nat.add_zero] at h1
  rw [h1, h2, List.set_set]
set_option maxHeartbeats 8000000 in
set_option maxRecDepth 100000 in
theorem add_any_book (g m np cp cq : Nat) (P Q : Option Addr) (l : List Rw) (ps : List Int) (pipes : List Pp) (w : World) (hm : MapAt w g ep rwV (bookL l)) (hp : RdI .i64 w P m ps) (hq : Rd pcells 2 w Q np pipes) (hG : Good l ps) (hk : ∀ p ∈ pipes, ∃ x, rowOf l p = some x) (hnp : np ≤ 2000) :
    Calls Tryz.prog 41 #[.agg #[.map (some g), .slice P m cp], .slice Q np cq] w fun e w' => ∃ v, e = .returned v ∧ w'.ownsRow w.heap.size 25 2 v m ((addL l ps pipes).flatMap ivC) ∧ Kp No w w' := by
  have hpl := hp.1
  have hql := hq.1
  have hm16 := hG.few
  rw [hpl] at hm16
  have hmk := make_ivs m (by omega)
  have hgl := hm.lt
  have HM := Lib.hid hm
  have HP := Lib.hid hp
  have HQ := Lib.hid hq
  have HG := Lib.hid hG
  have HKN := Lib.hid hk
  have HPL := Lib.hid hpl
  clear hm hp hq hG hk hpl
  go_enter Tryz.func41, Tryz.ntmps41
  go_wp2_with fail
  clear hmk
  go_loopw [16] (fun i wr => ∃ k : Nat, k ≤ np ∧ i = .int .i64 k ∧ wr.ownsRow w.heap.size 25 2 (.slice (some ⟨w.heap.size + 1, 0, none⟩) m m) m ((addL l ps (pipes.take k)).flatMap ivC) ∧ wr.heap[w.heap.size]? = some (.cells #[.map (some g), .slice P m cp] 68 (0, 0)) ∧ Kp No w wr) (fun i _ => np - (intOf i).toNat)
  case atStart =>
    refine ⟨0, by omega, rfl, ?_, ?_, (Kp.alloc No _ _).tr (Kp.alloc No _ _)⟩
    · have := own_made (w.alloc (.cells #[.map (some g), .slice P m cp] 68)) (base := w.heap.size) (e := 25) (s := 2) (n := m) (xs := (List.replicate m ((0, 0) : Int × Int)).flatMap ivC) (by rw [flat_len ivC_len]; simp) (by simp) (by unfold maxLen; omega)
      rw [World.size_alloc] at this
      simpa [addL, HPL.out] using this
    · exact (Kp.alloc No _ _).heap (at_new rfl) id
  case round =>
    obtain ⟨k, hk, rfl, hown, hb, hkp⟩ := hrel
    by_cases hlt : k < np
    · obtain ⟨p, hpk⟩ : ∃ x, pipes[k]? = some x := ⟨_, List.getElem?_eq_getElem (by omega)⟩
      obtain ⟨x, hrx⟩ := HKN.out p (List.mem_of_getElem? hpk)
      obtain ⟨bQ, oQ, rfl, _, hc⟩ := HQ.out.2 k p hpk
      have q0 := hkp.cell (hc 0 _ rfl) id
      have q1 := hkp.cell (hc 1 _ rfl) id
      simp only [Nat.add_zero] at q0
      obtain ⟨hxm, hxp⟩ := rowOf_some hrx
      obtain ⟨hr1, hr2, hr3⟩ := HG.out.rows x hxm
      obtain ⟨xr, xn, xb, xf, xc⟩ := x
      simp only at hr1 hr2 hr3
      obtain ⟨c, rfl⟩ : ∃ c : Nat, xc = (c : Int) := ⟨xc.toNat, by omega⟩
      obtain ⟨ht, hpr⟩ := take_bd HG.out hxm
      have HSN := Lib.hid (show addL l ps (pipes.take (k + 1)) = (addL l ps (pipes.take k)).set c (((addL l ps (pipes.take k)).getD c (0, 0)).1 + tlo xb xf (ps.getD c 0), ((addL l ps (pipes.take k)).getD c (0, 0)).2 + thi xb xf (ps.getD c 0)) by rw [List.take_add_one, hpk]; show addL l ps (pipes.take k ++ [p]) = _; rw [addL_snoc]; unfold addS; rw [hrx]; simp only [Int.toNat_natCast])
      have hbd := addL_bd HG.out (pipes.take k)
      have hll := addL_len l ps (pipes.take k)
      rw [HPL.out] at hr3 hll
      have hlk := ((HM.out.below hkp.toBelow hgl).alloc (Obj.cells #[.int .i64 p.1, .int .i64 p.2] 51)).run_lookup pkeyOk Tryz.underlying66 (zeroR _) p false
      rw [get_bookL HG.out.rise, hrx] at hlk
      simp only [ep, Option.getD_some, Bool.false_eq_true, if_false] at hlk
      generalize hL : addL l ps (pipes.take k) = L at *
      simp only [Int.toNat_natCast] at ht hpr
      have hcm : c < m := by omega
      obtain ⟨y, hy⟩ : ∃ y, L[c]? = some y := ⟨_, List.getElem?_eq_getElem (by omega)⟩
      have hyb := hbd y (List.mem_of_getElem? hy)
      have hlen : ((pipes.take k).length : Int) ≤ 2000 := by rw [List.length_take]; omega
      have hgy : L.getD c (0, 0) = y := by rw [List.getD_eq_getElem?_getD, hy]; rfl
      rw [hgy] at HSN
      obtain ⟨pr, hprc⟩ : ∃ z, ps[c]? = some z := ⟨_, List.getElem?_eq_getElem (by have := HPL.out; omega)⟩
      have hgp : ps.getD c 0 = pr := by rw [List.getD_eq_getElem?_getD, hprc]; rfl
      rw [hgp] at HSN ht hpr
      obtain ⟨bP, oP, rfl, _, p0⟩ := HP.out.2 c pr hprc
      obtain ⟨t1', t2'⟩ := toeB_of hr1
      have TK := Lib.hid (fun w0 => takes_any xb xf pr w0 t1' t2' (preB_of hpr))
      have hs1 : IntKind.i64.wrap (y.1 + tlo xb xf pr) = y.1 + tlo xb xf pr := by rw [IntKind.wrap_i64]; omega
      have hs2 : IntKind.i64.wrap (y.2 + thi xb xf pr) = y.2 + thi xb xf pr := by rw [IntKind.wrap_i64]; omega
      generalize tlo xb xf pr = t1 at *
      generalize thi xb xf pr = t2 at *
      simp only [rwV, ivV] at hlk TK
      obtain ⟨y1, y2⟩ := y
      simp only at hs1 hs2 HSN
      have HOW := Lib.hid hown
      have HB := Lib.hid hb
      have HK := Lib.hid hkp
      have HY := Lib.hid hy
      have P0 := Lib.hid (hkp.cell p0 id)
      have zr : w.heap.size + 1 < wr.heap.size := (own_ge hown (g := w.heap.size + 1) rfl).2
      have zr0 : w.heap.size < wr.heap.size := by omega
      obtain ⟨b0, b1, _, _⟩ := two_cells hb
      obtain ⟨pp1, pp2⟩ := p
      clear hpk hrx hc hxm hxp hr1 hr2 hr3 ht hpr hbd hll hL hy hyb hlen hgy hprc hgp t1' t2' hown hb hkp p0
      simp only at hlk q0 q1
      go_wp2_with fail
      generalize hW0 : (wr.alloc (.cells #[.int .i64 pp1, .int .i64 pp2] 51)).alloc (.cells #[.int .i64 xr, .int .i64 xn, .int .i64 xb, .int .i64 xf, .int .i64 (c : Nat)] 53) = W0
      have KW : Kp No wr W0 := by rw [← hW0]; exact (Kp.alloc No _ _).tr (Kp.alloc No _ _)
      have D := show W0.heap[wr.heap.size + 1]? = some (.cells #[.int .i64 xr, .int .i64 xn, .int .i64 xb, .int .i64 xf, .int .i64 (c : Nat)] 53 (0, 0)) by rw [← hW0]; exact at_new (by simp)
      have d2 : W0.cell? ⟨wr.heap.size + 1, 2, none⟩ = some (.int .i64 xb) := by rw [cell_of_row _ _ 2 _ _ _ D]; rfl
      have d3 : W0.cell? ⟨wr.heap.size + 1, 3, none⟩ = some (.int .i64 xf) := by rw [cell_of_row _ _ 3 _ _ _ D]; rfl
      have d4 : W0.cell? ⟨wr.heap.size + 1, 4, none⟩ = some (.int .i64 (c : Nat)) := by rw [cell_of_row _ _ 4 _ _ _ D]; rfl
      have p0 := KW.cell P0.out id
      replace b1 := KW.cell b1 id
      have OW0 := Lib.hid (own_kp HOW.out KW (fun _ _ h => h))
      have KB := Lib.hid (HK.out.tr KW)
      have HB0 := Lib.hid (KW.heap HB.out id)
      have zr8 : w.heap.size + 1 < wr.heap.size + 1 := by omega
      have hW0s : w.heap.size + 1 < W0.heap.size := by have := KW.size; omega
      clear hW0 KW D q0 q1 b0 hlk
      have hc0 : (0 : Int) ≤ (c : Int) := by omega
      have hcm' : (c : Int) < (m : Int) := by omega
      have hct : ((c : Nat) : Int).toNat = c := by omega
      have HV : ∀ y ∈ [(⟨9, 10, 25, #[.int .i64 0, .int .i64 0], #[.int .i64 t1, .int .i64 t2], ptrV⟩ : Bx)], ∀ {p q : Nat}, y.v p = y.v q → p = q := by intro y hy; simp only [List.mem_cons, List.not_mem_nil, or_false] at hy; rcases hy with rfl <;> exact fun {p q} h => ptrV_inj h
      have HS0 : ∀ y ∈ [(⟨9, 10, 25, #[.int .i64 0, .int .i64 0], #[.int .i64 t1, .int .i64 t2], ptrV⟩ : Bx)], y.a = (⟨9, 10, 25, #[.int .i64 0, .int .i64 0], #[.int .i64 t1, .int .i64 t2], ptrV⟩ : Bx).a → y = (⟨9, 10, 25, #[.int .i64 0, .int .i64 0], #[.int .i64 t1, .int .i64 t2], ptrV⟩ : Bx) := by intro y hy; simp only [List.mem_cons, List.not_mem_nil, or_false] at hy; rcases hy with rfl <;> simp
      have HM0 : (⟨9, 10, 25, #[.int .i64 0, .int .i64 0], #[.int .i64 t1, .int .i64 t2], ptrV⟩ : Bx) ∈ [(⟨9, 10, 25, #[.int .i64 0, .int .i64 0], #[.int .i64 t1, .int .i64 t2], ptrV⟩ : Bx)] := by simp
      have HS0 := Lib.hid HS0
      have HM0 := Lib.hid HM0
      have HV := Lib.hid HV
      refine wp_region_each (fun i u => match i with | 0 => u = .pointer (some ⟨wr.heap.size + 1, 2, none⟩) | 1 => u = .agg #[.int .i64 xb, .int .i64 xf] | 2 => u = .pointer (some ⟨w.heap.size, 1, none⟩) | 3 => u = .slice (some ⟨bP, oP, none⟩) m cp | 4 => u = .pointer (some ⟨wr.heap.size + 1, 4, none⟩) | 5 => u = .int .i64 (c : Nat) | 6 => u = .pointer (some ⟨bP, oP + c, none⟩) | 7 => u = .int .i64 pr | 8 => u = .agg #[.int .i64 t1, .int .i64 t2] | _ => True) (BxW W0 [(⟨9, 10, 25, #[.int .i64 0, .int .i64 0], #[.int .i64 t1, .int .i64 t2], ptrV⟩ : Bx)]) (by kernel_rfl) (by kernel_rfl) (by kernel_rfl) ?_ ?_ ?_
      · exact BxW.start _ _
      · refine ⟨?_, ?_, ?_, ?_, ?_, ?_, ?_, ?_, ?_, ?_, ?_, trivial⟩
        · intro r a w' hf hg hW hr hd K hK
          refine wpOp_of rfl rfl ?_
          have y0 : a.tmps.getD 8 undef = .pointer (some ⟨wr.heap.size + 1, 0, none⟩) := hf.evalFree (by kernel_rfl)
          go_simp
          exact hK _ _ rfl (hW.upd (by kernel_rfl) _)
        · intro r a w' hf hg hW hr hd K hK
          refine wpOp_of rfl rfl ?_
          refine hf.depE hg hd 0 24 (by kernel_rfl) fun u0 e0 g0 h0 => ?_
          replace g0 : u0 = .pointer (some ⟨wr.heap.size + 1, 2, none⟩) := g0
          subst g0
          have z0 := hW.kp.cell d2 id
          have z1 := hW.kp.cell d3 id
          go_simp
          exact hK _ _ rfl (hW.upd (by kernel_rfl) _)
        · intro r a w' hf hg hW hr hd K hK
          refine wpOp_of rfl rfl ?_
          have y0 : a.tmps.getD 2 undef = .pointer (some ⟨w.heap.size, 0, none⟩) := hf.evalFree (by kernel_rfl)
          go_simp
          exact hK _ _ rfl (hW.upd (by kernel_rfl) _)
        · intro r a w' hf hg hW hr hd K hK
          refine wpOp_of rfl rfl ?_
          refine hf.depE hg hd 2 26 (by kernel_rfl) fun u0 e0 g0 h0 => ?_
          replace g0 : u0 = .pointer (some ⟨w.heap.size, 1, none⟩) := g0
          subst g0
          have z0 := hW.kp.cell b1 id
          go_simp
          exact hK _ _ rfl (hW.upd (by kernel_rfl) _)
        · intro r a w' hf hg hW hr hd K hK
          refine wpOp_of rfl rfl ?_
          have y0 : a.tmps.getD 8 undef = .pointer (some ⟨wr.heap.size + 1, 0, none⟩) := hf.evalFree (by kernel_rfl)
          go_simp
          exact hK _ _ rfl (hW.upd (by kernel_rfl) _)
        · intro r a w' hf hg hW hr hd K hK
          refine wpOp_of rfl rfl ?_
          refine hf.depE hg hd 4 28 (by kernel_rfl) fun u0 e0 g0 h0 => ?_
          replace g0 : u0 = .pointer (some ⟨wr.heap.size + 1, 4, none⟩) := g0
          subst g0
          have z0 := hW.kp.cell d4 id
          go_simp
          exact hK _ _ rfl (hW.upd (by kernel_rfl) _)
        · intro r a w' hf hg hW hr hd K hK
          refine wpOp_of rfl rfl ?_
          refine hf.depE hg hd 3 27 (by kernel_rfl) fun u0 e0 g0 h0 => ?_
          replace g0 : u0 = .slice (some ⟨bP, oP, none⟩) m cp := g0
          subst g0
          refine hf.depE hg hd 5 29 (by kernel_rfl) fun u1 e1 g1 h1 => ?_
          replace g1 : u1 = .int .i64 (c : Nat) := g1
          subst g1
          go_simp
          exact hK _ _ rfl (hW.upd (by kernel_rfl) _)
        · intro r a w' hf hg hW hr hd K hK
          refine wpOp_of rfl rfl ?_
          refine hf.depE hg hd 6 30 (by kernel_rfl) fun u0 e0 g0 h0 => ?_
          replace g0 : u0 = .pointer (some ⟨bP, oP + c, none⟩) := g0
          subst g0
          have z0 := hW.kp.cell p0 id
          go_simp
          exact hK _ _ rfl (hW.upd (by kernel_rfl) _)
        · intro r a w' hf hg hW hr hd K hK
          refine wpOp_of rfl rfl ?_
          refine hf.depE hg hd 1 25 (by kernel_rfl) fun u0 e0 g0 h0 => ?_
          replace g0 : u0 = .agg #[.int .i64 xb, .int .i64 xf] := g0
          subst g0
          refine hf.depE hg hd 7 31 (by kernel_rfl) fun u1 e1 g1 h1 => ?_
          replace g1 : u1 = .int .i64 pr := g1
          subst g1
          go_simp
          with_reducible refine (TK.out _).mono ?_
          rintro e w'' ⟨rfl, k⟩
          exact hK _ _ rfl ((hW.call k).upd (by kernel_rfl) _)
        · intro r a w' hf hg hW hr hd K hK
          refine wpOp_of rfl rfl ?_
          go_simp
          exact hK _ _ trivial (hW.alloc (by kernel_rfl) HM0.out hr HV.out HS0.out)
        · intro r a w' hf hg hW hr hd K hK
          refine wpOp_of rfl rfl ?_
          refine hf.depE hg hd 8 32 (by kernel_rfl) fun u0 e0 g0 h0 => ?_
          replace g0 : u0 = .agg #[.int .i64 t1, .int .i64 t2] := g0
          subst g0
          refine hf.depE hg hd 9 9 (by kernel_rfl) fun u1 e1 _ h1 => ?_
          obtain ⟨g, hu, hgl, _, hz⟩ := hW.empty HM0.out hr h1
          subst hu
          simp only [ptrV] at e1
          obtain ⟨a0, a1, f0, f1⟩ := two_cells hz
          go_simp
          exact hK undef _ trivial (hW.store (by kernel_rfl) HM0.out h1 hgl HV.out HS0.out (kp_two _ _ _ _) (set2 (.int .i64 t1) (.int .i64 t2) hz) _)
      intro r' w3 hg hW hr'
      obtain ⟨g0, hg0, hl0, hm0, hb0⟩ := hW.filled HM0.out (hr' 10 (by decide))
      have hkN := hW.kp
      replace hg0 : r' 9 = some (.pointer (some ⟨g0, 0, none⟩)) := hg0
      simp only [List.length_cons, List.length_nil, Nat.reduceAdd, List.range_succ, List.range_zero, List.nil_append, List.cons_append, List.map_cons, List.map_nil, putAll, Act.put, List.setIfInBounds_toArray, List.set_cons_succ, List.set_cons_zero, hg0, Option.getD_some]
      clear hg hW hr' hg0 HM0 HS0 HV
      have D4 := hkN.cell d4 id
      have OW1 := own_kp OW0.out hkN (fun _ _ h => h)
      obtain ⟨e0, e1, _, _⟩ := two_cells hb0
      have ya := own_cell OW1 (flat_at ivC_len _ c (y1, y2) 0 _ HY.out rfl)
      have yb := own_cell OW1 (flat_at ivC_len _ c (y1, y2) 1 _ HY.out rfl)
      have fa := own_free OW1 (c * 2 + 0)
      have fb := own_free OW1 (c * 2 + 1)
      simp only [Nat.add_zero] at ya fa
      have OW1 := Lib.hid OW1
      have K1 := Lib.hid (KB.out.tr hkN)
      have HB1 := Lib.hid (hkN.heap HB0.out id)
      have hg0 : w.heap.size + 1 ≠ g0 := by omega
      clear hb0 hkN d2 d3 d4 p0 b1 TK hl0 hm0
      go_wp2_with fail
      go_still_tail 11, (by kernel_rfl)
      go_wp2_with fail
      have hR8 : ¬ Kq.One (w.heap.size + 1) (wr.heap.size + 1) := fun e => by unfold Kq.One at e; omega
      have hG0 : ¬ Kq.One (w.heap.size + 1) g0 := fun e => hg0 e.symm
      have kS := (kp_setOne w3 (w.heap.size + 1) (c * 2) (.int .i64 (y1 + t1))).tr (Kp.drew _ _)
      have OW4 := own_kp (own_set OW1.out (c * 2) (.int .i64 (y1 + t1))) (Kp.drew No _) (fun _ _ h => h)
      have K4 := K1.out.trans kS (fun k hk e => by unfold Kq.One at e; omega)
      have HB4 := kS.heap HB1.out (fun e => by unfold Kq.One at e; omega)
      have D4' := kS.cell D4 hR8
      have e1' := kS.cell e1 hG0
      generalize (w3.setCell ⟨w.heap.size + 1, c * 2, none⟩ (.int .i64 (y1 + t1))).drew = w4 at *
      have yb' := own_cell OW4 (j := c * 2 + 1) (u := .int .i64 y2) (by rw [List.getElem?_set_ne (by omega)]; exact flat_at ivC_len _ c (y1, y2) 1 _ HY.out rfl)
      have fb' := own_free OW4 (c * 2 + 1)
      have OW4 := Lib.hid OW4
      have K4 := Lib.hid K4
      have HB4 := Lib.hid HB4
      clear kS D4 e0 e1 ya yb fa fb OW1 K1 HB1
      go_wp2_with fail
      go_still_tail 11, (by kernel_rfl)
      go_wp2_with fail
      have kS := (kp_setOne w4 (w.heap.size + 1) (c * 2 + 1) (.int .i64 (y2 + t2))).tr (Kp.drew _ _)
      have OW5 := own_kp (own_set OW4.out (c * 2 + 1) (.int .i64 (y2 + t2))) (Kp.drew No _) (fun _ _ h => h)
      have K5 := K4.out.trans kS (fun k hk e => by unfold Kq.One at e; omega)
      have HB5 := kS.heap HB4.out (fun e => by unfold Kq.One at e; omega)
      rw [set_two L c (y1, y2) _ _ HY.out] at OW5
      have OW5 := Lib.hid OW5
      have K5 := Lib.hid K5
      have HB5 := Lib.hid HB5
      clear kS D4' e1' yb' fb'
      go_wp2_with fail
      go_roundw
      case rel => exact ⟨k + 1, by omega, by go_num, by rw [HSN.out]; exact OW5.out, HB5.out, K5.out⟩
      case measure => simp [intOf]; omega
    · obtain rfl : k = np := by omega
      have hf : pipes.take k = pipes := List.take_of_length_le (by omega)
      rw [hf] at hown
      have HOW := Lib.hid hown
      have HK := Lib.hid hkp
      clear hown hkp hf hb
      go_wp2
      go_ret
      exact ⟨_, rfl, HOW.out, HK.out⟩
end Go.Proofs.YtlieijnhaolnhaaGreat
