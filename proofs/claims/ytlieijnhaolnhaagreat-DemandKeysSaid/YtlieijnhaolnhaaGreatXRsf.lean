/- Chapter 13: the reference's taken: the walk. Printed by gen_rsf.py. -/
import Derived.Test.YtlieijnhaolnhaaGreatXRse
import Derived.Test.YtlieijnhaolnhaaGreatXLpaPM
namespace Go.Proofs.YtlieijnhaolnhaaGreat
open Go.RowKit Go.Kq

theorem add_ok {a b : Int × Int} {M : Int} (h1 : 0 ≤ a.1) (h2 : a.1 ≤ a.2) (h3 : a.2 ≤ 2000000000000) (g1 : 0 ≤ b.1) (g2 : b.1 ≤ b.2) (g3 : b.2 ≤ 1000000000) : addE a b = (a.1 + b.1, a.2 + b.2, 0) := by
  unfold addE
  rw [if_pos (ck_both (ck_one13 (x := a.1) (y := a.2) (by omega) h2 (by omega)) (ck_one13 (x := b.1) (y := b.2) (by omega) g2 (by omega)))]
  unfold fitE
  rw [fits_of (q := a.1 + b.1) (by omega) (by omega), fits_of (q := a.2 + b.2) (by omega) (by omega)]
  rfl
def sumAt (l : List Rw) (ps : List Int) (pipes : List Pp) (c : Nat) : Int × Int := (addL l ps pipes).getD c (0, 0)
theorem sumAt_nil (l : List Rw) (ps : List Int) (c : Nat) : sumAt l ps [] c = (0, 0) := by
  unfold sumAt addL
  rw [List.foldl_nil, List.getD_eq_getElem?_getD, List.getElem?_replicate]
  split <;> rfl
theorem sumAt_snoc {l : List Rw} {ps : List Int} (hG : Good l ps) {x : Rw} (hx : x ∈ l) (pipes : List Pp) (c : Nat) :
    sumAt l ps (pipes ++ [x.pp]) c = if x.c.toNat = c then ((sumAt l ps pipes c).1 + tlo x.b x.f (ps.getD x.c.toNat 0), (sumAt l ps pipes c).2 + thi x.b x.f (ps.getD x.c.toNat 0)) else sumAt l ps pipes c := by
  unfold sumAt
  rw [addL_snoc, addS_at hG hx _ (addL_len _ _ _)]
theorem sumAt_bd {l : List Rw} {ps : List Int} (hG : Good l ps) (pipes : List Pp) (c : Nat) (hc : c < ps.length) (hp : pipes.length ≤ 2000) :
    0 ≤ (sumAt l ps pipes c).1 ∧ (sumAt l ps pipes c).1 ≤ (sumAt l ps pipes c).2 ∧ (sumAt l ps pipes c).2 ≤ 2000000000000 := by
  have hlen := addL_len l ps pipes
  obtain ⟨y, hy⟩ : ∃ y, (addL l ps pipes)[c]? = some y := ⟨_, List.getElem?_eq_getElem (by omega)⟩
  have e : sumAt l ps pipes c = y := by
    unfold sumAt
    rw [List.getD_eq_getElem?_getD, hy]
    rfl
  rw [e]
  have b1 := addL_bd hG pipes y (List.mem_of_getElem? hy)
  have l1 := addL_le hG pipes y (List.mem_of_getElem? hy)
  omega
set_option maxHeartbeats 4000000 in
set_option maxRecDepth 100000 in
theorem taken13_is (A P Q : Option Addr) (n m np ca cp cq c : Nat) (l : List Rw) (ps : List Int) (pipes : List Pp) (w : World) (hx : Rd rwC 5 w A n l) (hp : RdI .i64 w P m ps) (hq : Rd pcells 2 w Q np pipes) (hn : n ≤ 1000000) (hm : m ≤ 1000000) (hnp : np ≤ 2000)
    (hG : Good l ps) (hk : ∀ p ∈ pipes, (rowOf l p).isSome = true) (hc : c < m) :
    Calls Tryz.prog 44 #[.slice A n ca, .slice P m cp, .int .i64 (c : Nat), .slice Q np cq] w fun e w' => e = .returned (ivV (sumAt l ps pipes c).1 (sumAt l ps pipes c).2) ∧ Kp No w w' := by
  have hql := hq.1
  have hpl := hp.1
  have RW := Lib.hid (fun p w0 (hk : Kp No w w0) => row13_is A n ca l p w0 (hx.no hk) hn)
  have SB := Lib.hid (fun k => sumAt_bd hG (pipes.take k) c (by omega) (by rw [List.length_take]; omega))
  obtain ⟨pv, hpv⟩ : ∃ x, ps[c]? = some x := ⟨_, List.getElem?_eq_getElem (by omega)⟩
  obtain ⟨bP, oP, rfl, hbP, hcP⟩ := hp.2 c pv hpv
  have CP := Lib.hid hcP
  have HPV := Lib.hid (show ps.getD c 0 = pv by rw [List.getD_eq_getElem?_getD, hpv]; rfl)
  have HX := Lib.hid hx
  have HQ := Lib.hid hq
  have HG := Lib.hid hG
  have HKN := Lib.hid hk
  have hz0 := sumAt_nil l ps c
  have hc0 : (0 : Int) ≤ (c : Int) := by omega
  have hcm : (c : Int) < (m : Int) := by omega
  obtain ⟨h1, h2, KA⟩ := two_newQ w (.cells #[.int .i64 0, .int .i64 0] 25) (.cells #[.int .i64 0, .int .i64 0] 25)
  replace h1 := Lib.hid h1
  replace h2 := Lib.hid h2
  replace KA := Lib.hid KA
  simp only [ivV]
  clear hx hp hq hG hk hpv hcP
  go_enter Tryz.func44, Tryz.ntmps44
  go_wp2_with fail
  generalize (w.alloc (.cells #[.int .i64 0, .int .i64 0] 25)).alloc (.cells #[.int .i64 0, .int .i64 0] 25) = wa at *
  go_loopw [10] (fun i wr => ∃ k : Nat, k ≤ np ∧ i = .int .i64 k ∧ wr.heap[w.heap.size]? = some (.cells #[.int .i64 0, .int .i64 0] 25 (0, 0)) ∧ wr.heap[w.heap.size + 1]? = some (.cells #[.int .i64 (sumAt l ps (pipes.take k) c).1, .int .i64 (sumAt l ps (pipes.take k) c).2] 25 (0, 0)) ∧ Kp No w wr) (fun i _ => np - (intOf i).toNat)
  case atStart => exact ⟨0, by omega, rfl, h1.out, by rw [List.take_zero, hz0]; exact h2.out, KA.out⟩
  case round =>
    obtain ⟨k, hk, rfl, hb1, hb2, hkp⟩ := hrel
    clear h1 h2 KA
    have H1 := Lib.hid hb1
    have H2 := Lib.hid hb2
    have KR := Lib.hid hkp
    clear hb1 hb2 hkp
    by_cases hlt : k < np
    · obtain ⟨p, hpk⟩ : ∃ x, pipes[k]? = some x := ⟨_, List.getElem?_eq_getElem (by omega)⟩
      have hkn := HKN.out p (List.mem_of_getElem? hpk)
      obtain ⟨bQ, oQ, rfl, hbQ, hcQ⟩ := HQ.out.2 k p hpk
      have d0 := KR.out.cell (hcQ 0 _ rfl) id
      have d1 := KR.out.cell (hcQ 1 _ rfl) id
      simp only [Nat.add_zero] at d0
      have TK := show pipes.take (k + 1) = pipes.take k ++ [p] by rw [List.take_add_one, hpk]; rfl
      have RP := RW.out p wr KR.out
      obtain ⟨p1, p2⟩ := p
      simp only [ep] at RP
      replace RP := Lib.hid RP
      have hk0 : (0 : Int) ≤ (k : Int) := by omega
      have hkn2 : (k : Int) < (np : Int) := by omega
      have TKH := Lib.hid TK
      have HKK := Lib.hid hkn
      clear hpk hcQ TK hkn
      go_wp2_with fail
      refine RP.out.mono ?_
      rintro _ w2 ⟨⟨z, rfl, hz⟩, k2⟩
      obtain ⟨ix, x, rfl, hxi, hxp⟩ : ∃ (ix : Nat) (x : Rw), z = (ix : Int) ∧ l[ix]? = some x ∧ x.pp = (p1, p2) := by
        rcases hz with ⟨_, h⟩ | h
        · have := HKK.out
          cases hr : rowOf l (p1, p2) with
          | none => rw [hr] at this; cases this
          | some x => exact absurd (rowOf_some hr).2 (h x (rowOf_some hr).1)
        · exact h
      have hxm := List.mem_of_getElem? hxi
      have hSN := sumAt_snoc HG.out hxm (pipes.take k) c
      rw [hxp, ← TKH.out] at hSN
      obtain ⟨hTB, hPB⟩ := take_bd HG.out hxm
      obtain ⟨hto, hxc0, hxc1⟩ := HG.out.rows x hxm
      obtain ⟨bA, oA, rfl, hbA, hcA⟩ := HX.out.2 ix x hxi
      have KK := KR.out.tr k2
      have c0 := KK.cell (hcA 0 _ rfl) id
      have c1 := KK.cell (hcA 1 _ rfl) id
      have c2 := KK.cell (hcA 2 _ rfl) id
      have c3 := KK.cell (hcA 3 _ rfl) id
      have c4 := KK.cell (hcA 4 _ rfl) id
      simp only [Nat.add_zero] at c0
      have hxn : ix < n := by rw [← HX.out.1]; exact (List.getElem?_eq_some_iff.1 hxi).1
      have hi0 : (0 : Int) ≤ (ix : Int) := by omega
      have hi1 : (ix : Int) < (n : Int) := by omega
      have K2 := Lib.hid KK
      have H1' := k2.heap H1.out id
      have H2' := k2.heap H2.out id
      have HSN := Lib.hid hSN
      have HTB := Lib.hid hTB
      have PI := fun w0 => rpipe_ok x.b x.f (ps.getD x.c.toNat 0) w0 ⟨hto, hPB⟩
      have HXC := Lib.hid (And.intro hxc0 hxc1)
      have ka := Kp.alloc No w2 (.cells #[.int .i64 x.r, .int .i64 x.n, .int .i64 x.b, .int .i64 x.f, .int .i64 x.c] 53)
      have HR := Lib.hid (heap_alloc_new w2 (.cells #[.int .i64 x.r, .int .i64 x.n, .int .i64 x.b, .int .i64 x.f, .int .i64 x.c] 53))
      have K3 := Lib.hid (KK.tr ka)
      have H1 := Lib.hid (ka.heap H1' id)
      have H2 := Lib.hid (ka.heap H2' id)
      clear hz hxi hcA hxp hSN hTB hPB hto hxc0 hxc1 KK k2 ka H1' H2' RP d0 d1
      by_cases hch : x.c = (c : Int)
      · have hcc : x.c.toNat = c := by omega
        rw [hcc, HPV.out] at PI
        replace HSN := HSN.out
        rw [if_pos hcc, hcc, HPV.out] at HSN
        replace HTB := HTB.out
        rw [hcc, HPV.out] at HTB
        simp only [toeV] at PI
        replace PI := Lib.hid PI
        replace HSN := Lib.hid HSN
        replace HTB := Lib.hid HTB
        go_wp2_with fail
        generalize tlo x.b x.f pv = tl at *
        generalize thi x.b x.f pv = th at *
        rw [hch] at HR H1 H2 K3
        obtain ⟨_, _, r2, r3, _⟩ := five_cells HR.out
        have cp0 := K3.out.cell CP.out id
        generalize w2.alloc (.cells #[.int .i64 x.r, .int .i64 x.n, .int .i64 x.b, .int .i64 x.f, .int .i64 (c : Nat)] 53) = w3 at *
        generalize w2.heap.size = gR at *
        clear c0 c1 c2 c3 c4
        have FS : Stab (fun ix wz u => True) := fun ix u wz wz' kz h => trivial
        have FB : ∀ (g : Nat) (wz wz' : World), Kp (Kq.One g) wz wz' → wz.heap[g]? = some (.cells #[.int .i64 0, .int .i64 0] 25 (0, 0)) → ∀ (ix : Nat) (u : Value), ((fun ix wz u => True : Nat → World → Value → Prop) ix wz u) → ((fun ix wz u => True : Nat → World → Value → Prop) ix wz' u) := fun g wz wz' kz hz ix u h => trivial
        replace FS := Lib.hid FS
        replace FB := Lib.hid FB
        refine wp_region_each (fun ix u => match ix with | 0 => u = .pointer (some ⟨gR, 2, none⟩) | 1 => u = .agg #[.int .i64 x.b, .int .i64 x.f] | 2 => u = .slice (some ⟨bP, oP, none⟩) m cp | 3 => u = .int .i64 (c : Nat) | 4 => u = .pointer (some ⟨bP, oP + c, none⟩) | 5 => u = .int .i64 pv | 6 => u = .tuple #[.agg #[.int .i64 tl, .int .i64 th], .int .i64 0] | 7 => u = .tuple #[.agg #[.int .i64 tl, .int .i64 th], .int .i64 0] | 8 => u = .agg #[.int .i64 tl, .int .i64 th] | 9 => u = .int .i64 0 | 12 => u = .int .i64 0 | _ => True) (HvA w3 25 #[.int .i64 0, .int .i64 0] 10 11 8 (fun ix wz u => True)) (by kernel_rfl) (by kernel_rfl) (by kernel_rfl) ?_ ?_ ?_
        · exact HvA.start _ _ _ _ _ _ _
        · refine ⟨?_, ?_, ?_, ?_, ?_, ?_, ?_, ?_, ?_, ?_, ?_, ?_, ?_, trivial⟩
          · intro r a w' hf hg hW hr hd K hK
            refine wpOp_of rfl rfl ?_
            have e0 : a.tmps.getD 11 undef = .pointer (some ⟨gR, 0, none⟩) := hf.evalFree (by kernel_rfl)
            go_simp
            exact hK _ _ rfl (hW.upd 0 _ hr (by decide) (by decide) trivial)
          · intro r a w' hf hg hW hr hd K hK
            refine wpOp_of rfl rfl ?_
            refine hf.depE hg hd 0 35 (by kernel_rfl) fun u0 e0 g0 h0 => ?_
            replace g0 : u0 = .pointer (some ⟨gR, 2, none⟩) := g0
            subst g0
            have z0 := hW.kp.cell r2 id
            have z1 := hW.kp.cell r3 id
            go_simp
            exact hK _ _ rfl (hW.upd 1 _ hr (by decide) (by decide) trivial)
          · intro r a w' hf hg hW hr hd K hK
            refine wpOp_of rfl rfl ?_
            have e0 : a.tmps.getD 1 undef = .slice (some ⟨bP, oP, none⟩) m cp := hf.evalFree (by kernel_rfl)
            go_simp
            exact hK _ _ rfl (hW.upd 2 _ hr (by decide) (by decide) trivial)
          · intro r a w' hf hg hW hr hd K hK
            refine wpOp_of rfl rfl ?_
            have e0 : a.tmps.getD 2 undef = .int .i64 (c : Nat) := hf.evalFree (by kernel_rfl)
            go_simp
            exact hK _ _ rfl (hW.upd 3 _ hr (by decide) (by decide) trivial)
          · intro r a w' hf hg hW hr hd K hK
            refine wpOp_of rfl rfl ?_
            refine hf.depE hg hd 2 37 (by kernel_rfl) fun u0 e0 g0 h0 => ?_
            replace g0 : u0 = .slice (some ⟨bP, oP, none⟩) m cp := g0
            subst g0
            refine hf.depE hg hd 3 38 (by kernel_rfl) fun u1 e1 g1 h1 => ?_
            replace g1 : u1 = .int .i64 (c : Nat) := g1
            subst g1
            go_simp
            exact hK _ _ rfl (hW.upd 4 _ hr (by decide) (by decide) trivial)
          · intro r a w' hf hg hW hr hd K hK
            refine wpOp_of rfl rfl ?_
            refine hf.depE hg hd 4 39 (by kernel_rfl) fun u0 e0 g0 h0 => ?_
            replace g0 : u0 = .pointer (some ⟨bP, oP + c, none⟩) := g0
            subst g0
            have z0 := hW.kp.cell cp0 id
            go_simp
            exact hK _ _ rfl (hW.upd 5 _ hr (by decide) (by decide) trivial)
          · intro r a w' hf hg hW hr hd K hK
            refine wpOp_of rfl rfl ?_
            refine hf.depE hg hd 1 36 (by kernel_rfl) fun u0 e0 g0 h0 => ?_
            replace g0 : u0 = .agg #[.int .i64 x.b, .int .i64 x.f] := g0
            subst g0
            refine hf.depE hg hd 5 40 (by kernel_rfl) fun u1 e1 g1 h1 => ?_
            replace g1 : u1 = .int .i64 pv := g1
            subst g1
            go_simp
            with_reducible refine (PI.out _).mono ?_
            rintro e w'' ⟨rfl, k⟩
            exact hK _ _ rfl ((hW.call FS.out k).upd 6 _ hr (by decide) (by decide) trivial)
          · intro r a w' hf hg hW hr hd K hK
            refine wpOp_of rfl rfl ?_
            refine hf.depE hg hd 6 41 (by kernel_rfl) fun u0 e0 g0 h0 => ?_
            replace g0 : u0 = .tuple #[.agg #[.int .i64 tl, .int .i64 th], .int .i64 0] := g0
            subst g0
            go_simp
            exact hK _ _ rfl (hW.upd 7 _ hr (by decide) (by decide) trivial)
          · intro r a w' hf hg hW hr hd K hK
            refine wpOp_of rfl rfl ?_
            refine hf.depE hg hd 7 34 (by kernel_rfl) fun u0 e0 g0 h0 => ?_
            replace g0 : u0 = .tuple #[.agg #[.int .i64 tl, .int .i64 th], .int .i64 0] := g0
            subst g0
            go_simp
            exact hK _ _ rfl (hW.upd 8 _ hr (by decide) (by decide) trivial)
          · intro r a w' hf hg hW hr hd K hK
            refine wpOp_of rfl rfl ?_
            refine hf.depE hg hd 7 34 (by kernel_rfl) fun u0 e0 g0 h0 => ?_
            replace g0 : u0 = .tuple #[.agg #[.int .i64 tl, .int .i64 th], .int .i64 0] := g0
            subst g0
            go_simp
            exact hK _ _ rfl (hW.upd 9 _ hr (by decide) (by decide) trivial)
          · intro r a w' hf hg hW hr hd K hK
            refine wpOp_of rfl rfl ?_
            go_simp
            exact hK _ _ trivial (hW.alloc FS.out hr (by decide) trivial)
          · intro r a w' hf hg hW hr hd K hK
            refine wpOp_of rfl rfl ?_
            refine hf.depE hg hd 10 12 (by kernel_rfl) fun u0 e0 g0 h0 => ?_
            refine hf.depE hg hd 8 42 (by kernel_rfl) fun u1 e1 g1 h1 => ?_
            replace g1 : u1 = .agg #[.int .i64 tl, .int .i64 th] := g1
            subst g1
            obtain ⟨g0, rfl, hg0, hh0⟩ := hW.b0 hr _ h0
            obtain ⟨x0, x1, y0, y1⟩ := two_cells hh0
            go_simp
            exact hK undef _ trivial (hW.store h0 hg0 (fun _ _ _ => trivial) (by decide) (by decide) h1 (kp_setI _ _ _ _) (setI_at hh0 _ _) _ trivial)
          · intro r a w' hf hg hW hr hd K hK
            refine wpOp_of rfl rfl ?_
            refine hf.depE hg hd 9 43 (by kernel_rfl) fun u0 e0 g0 h0 => ?_
            replace g0 : u0 = .int .i64 0 := g0
            subst g0
            go_simp
            exact hK _ _ rfl (hW.upd 12 _ hr (by decide) (by decide) trivial)
        intro r' w4 hg hW hr'
        have hkN := hW.kp
        obtain ⟨q8, hq8⟩ : ∃ u, r' 8 = some u := Option.ne_none_iff_exists'.1 (hr' 8 (by decide))
        have hk8 := hg 8 q8 hq8
        replace hk8 : q8 = .agg #[.int .i64 tl, .int .i64 th] := hk8
        subst hk8
        obtain ⟨q9, hq9⟩ : ∃ u, r' 9 = some u := Option.ne_none_iff_exists'.1 (hr' 9 (by decide))
        have hk9 := hg 9 q9 hq9
        replace hk9 : q9 = .int .i64 0 := hk9
        subst hk9
        obtain ⟨g0, cs, hg0, hl0, hcs, hB⟩ := hW.b1 (hr' 11 (by decide))
        simp only [List.length_cons, List.length_nil, Nat.reduceAdd, List.range_succ, List.range_zero, List.nil_append, List.cons_append, List.map_cons, List.map_nil, putAll, Act.put, List.setIfInBounds_toArray, List.set_cons_succ, List.set_cons_zero, hq8, hq9, hg0, Option.getD_some]
        clear hg hW hr' FS FB hg0 hq9
        rw [hq8] at hcs
        injection hcs with hcs
        injection hcs with hcs
        subst hcs
        have SBK := SB.out k
        obtain ⟨S, hS⟩ : ∃ S, sumAt l ps (pipes.take k) c = S := ⟨_, rfl⟩
        rw [hS] at SBK HSN H2
        obtain ⟨s1, s2⟩ := S
        simp only at SBK HSN H2
        have AD := fun w0 => add03_is (s1, s2) (tl, th) w0
        rw [add_ok (M := 0) SBK.1 SBK.2.1 SBK.2.2 HTB.out.1 HTB.out.2.1 HTB.out.2.2] at AD
        simp only [ieV, ivV] at AD
        replace AD := Lib.hid AD
        have K4 := Lib.hid (K3.out.tr hkN)
        replace H1 := Lib.hid (hkN.heap H1.out id)
        replace H2 := Lib.hid (hkN.heap H2.out id)
        have HB := Lib.hid hB
        obtain ⟨e0, e1, _, _⟩ := two_cells H2.out
        obtain ⟨f0, f1, _, _⟩ := two_cells hB
        clear hkN hB r2 r3 cp0 HR PI SBK hS
        go_wp2_with fail
        refine (AD.out _).mono ?_
        rintro _ w5 ⟨rfl, k5⟩
        have h2 := k5.heap H2.out id
        have h1 := k5.heap H1.out id
        obtain ⟨g0', g1', y0, y1⟩ := two_cells h2
        have hs := setI_at h2 (.int .i64 (s1 + tl)) (.int .i64 (s2 + th))
        have ks := kp_setI w5 (w.heap.size + 1) (.int .i64 (s1 + tl)) (.int .i64 (s2 + th))
        have H1N := Lib.hid (ks.heap h1 (fun e => by unfold Kq.One at e; omega))
        have H2N := Lib.hid hs
        have KN := Lib.hid ((K4.out.tr k5).trans ks (fun k hk e => by unfold Kq.One at e; omega))
        clear k5 h1 h2 hs ks e0 e1 f0 f1
        go_wp2_with fail
        go_round
        case rel => exact ⟨k + 1, by omega, by go_num, H1N.out, by rw [HSN.out]; exact H2N.out, KN.out⟩
        case measure => simp [intOf] <;> omega
      · have hcc : ¬ x.c.toNat = c := by have := HXC.out; omega
        replace HSN := HSN.out
        rw [if_neg hcc] at HSN
        have HF := Lib.hid HSN
        clear HSN PI HTB
        go_wp2_with fail
        go_round
        case rel => exact ⟨k + 1, by omega, by go_num, H1.out, by rw [HF.out]; exact H2.out, K3.out⟩
        case measure => simp [intOf] <;> omega
    · obtain rfl : k = np := by omega
      have h2 := H2.out
      rw [List.take_of_length_le (by omega)] at h2
      obtain ⟨a0, a1, _, _⟩ := two_cells h2
      obtain ⟨b0, b1, y0, y1⟩ := two_cells H1.out
      clear h2 H2
      go_wp2_with fail
      have hs := setI_at H1.out (.int .i64 (sumAt l ps pipes c).1) (.int .i64 (sumAt l ps pipes c).2)
      obtain ⟨v0, v1, _, _⟩ := two_cells hs
      exact bodyPost_ret (v := .agg #[.int .i64 (sumAt l ps pipes c).1, .int .i64 (sumAt l ps pipes c).2]) (by simp [results, Tryz.results44, go_sem, v0, v1]) rfl ⟨rfl, kp_set2 KR.out (Nat.le_refl _)⟩
end Go.Proofs.YtlieijnhaolnhaaGreat
