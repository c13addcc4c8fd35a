/- Chapter 09: keep: the walk. Printed by gen_nwc.py. -/
import Derived.WalkSpells
import Derived.Test.YtamjhpdgclbfgaaXNwB
import Derived.Test.YtamjhpdgclbfgaaXCspM
namespace Go.Proofs.Ytamjhpdgclbfgaa
open Go.RowKit Go.Kq

theorem rdi_nat {w : World} {base e n cap : Nat} {A : Option Addr} {S : List Nat} (h : w.ownsRow base e 1 (.slice A n cap) n (S.map natI)) : RdI .i64 w A n (S.map Int.ofNat) :=
  RdI.of_own (base := base) (e := e) (cap := cap) (by rw [List.map_map]; exact h)
theorem rdi_int {w : World} {base e n cap : Nat} {A : Option Addr} {H : List Int} (h : w.ownsRow base e 1 (.slice A n cap) n (H.map i64V)) : RdI .i64 w A n H := RdI.of_own (base := base) (e := e) (cap := cap) h
theorem NW.best {nb : Nat} {P : Pt} {A : Option Addr} {n ca : Nat} {l : List Ct} {F : Nat → Fd} {bv : Value} {l0 l1 : Int} {B : Bst} {w w' : World} (h : NW nb P A n ca l F bv l0 l1 B w) (k : Kp (One nb) w w') {bv' : Value} {l0' l1' : Int} {B' : Bst} (hbox : w'.heap[nb]? = some (.cells (cellsN P (.slice A n ca) F bv' l0' l1') 61 (0, 0))) (hB : BstW nb bv' l0' l1' B' w') : NW nb P A n ca l F bv' l0' l1' B' w' :=
  ⟨hbox, fun j hj => k.owns (h.own j hj) fun g hg e => by have e : g = nb := e; have := (own_ge (h.own j hj) hg).1; omega, h.ap, hB, h.rd.kp k fun b o hA _ e => by have e : b = nb := e; have := h.lo b o hA; omega, h.lo⟩
/-- What holds of the lists of a nest. -/
structure NOk (P : Pt) (n : Nat) (l : List Ct) (S O : List Nat) (H U : List Int) : Prop where
  n8 : n ≤ 8
  len : l.length = n
  sl : S.length = n
  ss : ∀ s ∈ S, s < H.length
  hl : H.length ≤ n
  hb : bdL 20000000 H
  ol : O.length ≤ H.length
  so : ∀ o ∈ O, o < U.length
  ul : U.length ≤ O.length
  ub : bdL 20000000 U
  cb : ∀ c ∈ l, 0 ≤ c.w ∧ c.w ≤ 20000000
  kb : 0 ≤ P.k ∧ P.k ≤ 50000
  hh : 0 ≤ P.h ∧ P.h ≤ 20000000
theorem neq_nil (a : Option Addr) (n c : Nat) (w : World) : (binOp .neq 26 (.slice a n c) (.slice none 0 0)).run Try.prog w = .ok (.bool (!a.isNone)) w := run_neq_slice_nil_any w 26 52 a n c 0 0 Try.underlying26
theorem sum_snoc (U : List Int) (k : Nat) (v : Int) (h : U[k]? = some v) : (U.take (k + 1)).sum = (U.take k).sum + v := by
  rw [List.take_add_one, h]
  simp
theorem sum_bd {M : Int} : ∀ {U : List Int}, bdL M U → 0 ≤ U.sum ∧ U.sum ≤ U.length * M
  | [], _ => by simp
  | u :: U, h => by
    have h1 := sum_bd (M := M) (U := U) fun t ht => h t (by simp [ht])
    have h2 := h u (by simp)
    simp only [List.sum_cons, List.length_cons]
    have e : ((U.length + 1 : Nat) : Int) * M = U.length * M + M := by rw [Int.natCast_add, Int.add_mul]; simp
    rw [e]
    omega
set_option maxHeartbeats 8000000 in
set_option maxRecDepth 100000 in
theorem keep_any (P : Pt) (A : Option Addr) (n ca : Nat) (l : List Ct) (vS vO vW vH vU : Value) (S O : List Nat) (W H U : List Int) (bv : Value) (l0 l1 : Int) (B : Bst) (nb : Nat) (w : World) (hN : NW nb P A n ca l (mkF vS S vO O vW W vH H vU U) bv l0 l1 B w) (hK : NOk P n l S O H U) (hOl : O.length = H.length)
    (hB : ∀ b c d, B = some (b, c, d) → b.length ≤ 8) :
    Calls Try.prog 85 #[.pointer (some ⟨nb, 0, none⟩)] w fun e w' => e = .returned (.tuple #[]) ∧ (∃ bv' l0' l1', NW nb P A n ca l (mkF vS S vO O vW W vH H vU U) bv' l0' l1' (keepF P.k l S O H U B) w') ∧ Kp (Sn nb w) w w' := by
  have oS : w.ownsRow (nb + 1) 3 1 vS S.length (S.map natI) := hN.own 0 (by decide)
  have oO : w.ownsRow (nb + 1) 3 1 vO O.length (O.map natI) := hN.own 1 (by decide)
  have oH : w.ownsRow (nb + 1) 2 1 vH H.length (H.map i64V) := hN.own 3 (by decide)
  have oU : w.ownsRow (nb + 1) 2 1 vU U.length (U.map i64V) := hN.own 4 (by decide)
  obtain ⟨aS, cS, rfl, _, _, _⟩ := own_form oS
  obtain ⟨aO, cO, rfl, _, _, _⟩ := own_form oO
  obtain ⟨aH, cH, rfl, _, _, _⟩ := own_form oH
  obtain ⟨aU, cU, rfl, _, _, _⟩ := own_form oU
  have hb : w.heap[nb]? = some (.cells #[.int .i64 P.w, .int .i64 P.h, .int .i64 P.k, .slice A n ca, .slice aS S.length cS, .slice aO O.length cO, vW, .slice aH H.length cH, .slice aU U.length cU, .int .i64 0, bv, .int .i64 l0, .int .i64 l1] 61 (0, 0)) := hN.box
  have HBX := Lib.hid hb
  have HU := Lib.hid (rdi_int oU)
  have HN := Lib.hid hN
  have HOK := Lib.hid hK
  have HBB := Lib.hid hB
  have hnb : nb < w.heap.size := hN.lt
  have HNB := Lib.hid hnb
  have hul : U.length ≤ 8 := by have := hK.ul; have := hK.ol; have := hK.hl; have := hK.n8; omega
  have b8 : w.cell? ⟨nb, 8, none⟩ = some (.slice aU U.length cU) := by rw [cell_of_row _ _ _ _ _ _ hb]; rfl
  have b10 : w.cell? ⟨nb, 10, none⟩ = some bv := by rw [cell_of_row _ _ _ _ _ _ hb]; rfl
  have HB11 : w.cell? ⟨nb, 11, none⟩ = some (.int .i64 l0) := by rw [cell_of_row _ _ _ _ _ _ hb]; rfl
  have HB12 : w.cell? ⟨nb, 12, none⟩ = some (.int .i64 l1) := by rw [cell_of_row _ _ _ _ _ _ hb]; rfl
  replace HB11 := Lib.hid HB11
  replace HB12 := Lib.hid HB12
  have HSPOT := Lib.hid (fun (w' : World) (k : Kp No w w') => spots_any P A n ca l aS aO aH aU cS cO cH cU vW bv l0 l1 S O H H.length U.length nb w' (by have := k.heap hb id; rw [hK.sl, hOl] at this; exact this) (by have := (rdi_nat oS).no k; rw [hK.sl] at this; exact this) (by have := (rdi_nat oO).no k; rw [hOl] at this; exact this) ((rdi_int oH).no k) (hN.rd.no k) hK.n8 (by have := hK.hl; have := hK.n8; omega) hul hK.ss hK.so hK.hb hK.cb hK.kb)
  clear oS oO oH oU hN hb hB hnb hK hOl
  go_enter Try.func85, Try.ntmps85
  go_wp2_with fail
  go_loopw [2, 13] (fun v2 i wr => ∃ k : Nat, k ≤ U.length ∧ i = .int .i64 k ∧ v2 = .int .i64 (U.take k).sum ∧ wr = w) (fun _ i _ => U.length - (intOf i).toNat)
  case atStart => exact ⟨0, by omega, rfl, rfl, rfl⟩
  case round =>
    obtain ⟨k, hk, rfl, rfl, rfl⟩ := hrel
    by_cases hlt : k < U.length
    · obtain ⟨v, hv⟩ : ∃ v, U[k]? = some v := ⟨_, List.getElem?_eq_getElem hlt⟩
      obtain ⟨bu, ou, rfl, hbu, cu⟩ := HU.out.2 k v hv
      have h1 := sum_bd (M := 20000000) (U := U.take k) fun t ht => HOK.out.ub t (List.mem_of_mem_take ht)
      have h2 := HOK.out.ub v (List.mem_of_getElem? hv)
      have h3 : (U.take k).length = k := by rw [List.length_take]; omega
      rw [h3] at h1
      have HS := Lib.hid (sum_snoc U k v hv)
      clear hv h3
      go_wp2_with fail
      go_roundw
      case rel => exact ⟨k + 1, by omega, by go_num, by rw [HS.out], trivial⟩
      case measure => simp [intOf]; omega
    · obtain rfl : k = U.length := by omega
      have HT := Lib.hid (show U.take U.length = U from List.take_length)
      rw [HT.out]
      have h1 := sum_bd HOK.out.ub
      go_wp2_with fail
      obtain ⟨ga, hga⟩ : ∃ ga, ga = wr.heap.size := ⟨_, rfl⟩
      have hka : Kp No wr (wr.alloc (.cells #[.int .i64 (U.length : Nat), .int .i64 U.sum] 59)) := Kp.alloc _ _ _
      have hha : (wr.alloc (.cells #[.int .i64 (U.length : Nat), .int .i64 U.sum] 59)).heap[ga]? = some (.cells #[.int .i64 (U.length : Nat), .int .i64 U.sum] 59 (0, 0)) := by rw [hga]; exact heap_alloc_new _ _
      have hsz : (wr.alloc (.cells #[.int .i64 (U.length : Nat), .int .i64 U.sum] 59)).heap.size = wr.heap.size + 1 := by simp
      rw [← hga]
      generalize wr.alloc (.cells #[.int .i64 (U.length : Nat), .int .i64 U.sum] 59) = wa at *
      with_reducible refine (HSPOT.out _ hka).mono ?_
      rintro e w1 ⟨gs, cs, rfl, hos, hks⟩
      have HG := Lib.hid (hks.heap hha id)
      have hk1 := hka.tr hks
      have HOS := Lib.hid (own_mono (base' := nb + 1) hos (by have := HNB.out; omega))
      have HSPL := Lib.hid (show (spotsF P.k l S O H U.length).length = n by unfold spotsF; rw [spF_len, List.length_zip, HOK.out.sl, HOK.out.len]; omega)
      obtain ⟨sp, hsp⟩ : ∃ sp, sp = spotsF P.k l S O H U.length := ⟨_, rfl⟩
      rw [← hsp] at HOS HSPL
      have HSP := Lib.hid hsp
      have HK1 := Lib.hid hk1
      have HNE := Lib.hid (show ga ≠ nb by have := HNB.out; omega)
      have N1 := Lib.hid (HN.out.no hk1)
      have b10' := hk1.cell b10 id
      have hlt1 := N1.out.lt
      clear hha hsz hga hka hks hos hsp b10 HSPOT HN hk1 hk hlt
      cases B with
      | none =>
        have hbv : bv = .slice none 0 0 := N1.out.bst
        subst hbv
        have HKF := Lib.hid (show keepF P.k l S O H U none = some (sp, (U.length : Int), U.sum) by rw [HSP.out]; rfl)
        have hneq : ∀ W : World, (binOp .neq 26 (.slice none 0 0) (.slice none 0 0)).run Try.prog W = .ok (.bool false) W := fun W => neq_nil _ _ _ W
        go_wp2_with fail
        clear hneq
        have a0 : w1.cell? ⟨ga, 0, none⟩ = some (.int .i64 (U.length : Nat)) := by rw [cell_of_row _ _ _ _ _ _ HG.out]; rfl
        have a1 : w1.cell? ⟨ga, 1, none⟩ = some (.int .i64 U.sum) := by rw [cell_of_row _ _ _ _ _ _ HG.out]; rfl
        have up : ∀ (r : Nat → Option Value) (w' : World) (i : Nat) (v : Value), i ≠ 6 → i ≠ 9 → (Kp (Kq.One nb) w1 w' ∧ w'.heap[nb]? = some (.cells #[.int .i64 P.w, .int .i64 P.h, .int .i64 P.k, .slice A n ca, .slice aS S.length cS, .slice aO O.length cO, vW, .slice aH H.length cH, .slice aU U.length cU, .int .i64 0, (if (r 6).isSome then .slice (some ⟨gs, 0, none⟩) n cs else .slice none 0 0), .int .i64 (if (r 9).isSome then (U.length : Int) else l0), .int .i64 (if (r 9).isSome then U.sum else l1)] 61 (0, 0))) → (Kp (Kq.One nb) w1 w' ∧ w'.heap[nb]? = some (.cells #[.int .i64 P.w, .int .i64 P.h, .int .i64 P.k, .slice A n ca, .slice aS S.length cS, .slice aO O.length cO, vW, .slice aH H.length cH, .slice aU U.length cU, .int .i64 0, (if ((Kq.upd r i v) 6).isSome then .slice (some ⟨gs, 0, none⟩) n cs else .slice none 0 0), .int .i64 (if ((Kq.upd r i v) 9).isSome then (U.length : Int) else l0), .int .i64 (if ((Kq.upd r i v) 9).isSome then U.sum else l1)] 61 (0, 0))) := fun r w' i v h1 h2 h => by
          rw [upd_ne _ _ h1.symm, upd_ne _ _ h2.symm]
          exact h
        have UP := Lib.hid up
        clear up
        refine wp_region_each (fun ix uR => match ix with | 0 => uR = .pointer (some ⟨nb, 0, none⟩) | 1 => uR = .pointer (some ⟨nb, 0, none⟩) | 2 => uR = .slice (some ⟨gs, 0, none⟩) n cs | 3 => uR = .agg #[.int .i64 (U.length : Nat), .int .i64 U.sum] | 4 => uR = .pointer (some ⟨nb, 0, none⟩) | 5 => uR = .pointer (some ⟨nb, 10, none⟩) | 7 => uR = .pointer (some ⟨nb, 0, none⟩) | 8 => uR = .pointer (some ⟨nb, 11, none⟩) | _ => True) (fun r w' => (Kp (Kq.One nb) w1 w' ∧ w'.heap[nb]? = some (.cells #[.int .i64 P.w, .int .i64 P.h, .int .i64 P.k, .slice A n ca, .slice aS S.length cS, .slice aO O.length cO, vW, .slice aH H.length cH, .slice aU U.length cU, .int .i64 0, (if (r 6).isSome then .slice (some ⟨gs, 0, none⟩) n cs else .slice none 0 0), .int .i64 (if (r 9).isSome then (U.length : Int) else l0), .int .i64 (if (r 9).isSome then U.sum else l1)] 61 (0, 0)))) (by kernel_rfl) (by kernel_rfl) (by kernel_rfl) ?_ ?_ ?_
        · exact ⟨Kp.drew _ _, N1.out.box⟩
        · refine ⟨?_, ?_, ?_, ?_, ?_, ?_, ?_, ?_, ?_, ?_, trivial⟩
          · intro r a w' hf hg hW hr hd K hK
            refine wpOp_of rfl rfl ?_
            have e0 : a.tmps.getD 0 undef = .pointer (some ⟨nb, 0, none⟩) := hf.evalFree (by kernel_rfl)
            go_simp
            exact hK _ _ rfl (UP.out r w' 0 _ (by decide) (by decide) hW)
          · intro r a w' hf hg hW hr hd K hK
            refine wpOp_of rfl rfl ?_
            have e0 : a.tmps.getD 0 undef = .pointer (some ⟨nb, 0, none⟩) := hf.evalFree (by kernel_rfl)
            go_simp
            exact hK _ _ rfl (UP.out r w' 1 _ (by decide) (by decide) hW)
          · intro r a w' hf hg hW hr hd K hK
            refine wpOp_of rfl rfl ?_
            have e0 : a.tmps.getD 7 undef = .slice (some ⟨gs, 0, none⟩) n cs := hf.evalFree (by kernel_rfl)
            go_simp
            exact hK _ _ rfl (UP.out r w' 2 _ (by decide) (by decide) hW)
          · intro r a w' hf hg hW hr hd K hK
            refine wpOp_of rfl rfl ?_
            have e0 : a.tmps.getD 5 undef = .pointer (some ⟨ga, 0, none⟩) := hf.evalFree (by kernel_rfl)
            have z0 := hW.1.cell a0 HNE.out
            have z1 := hW.1.cell a1 HNE.out
            go_simp
            exact hK _ _ rfl (UP.out r w' 3 _ (by decide) (by decide) hW)
          · intro r a w' hf hg hW hr hd K hK
            refine wpOp_of rfl rfl ?_
            refine hf.depE hg hd 0 61 (by kernel_rfl) fun u0 e0 g0 h0 => ?_
            replace g0 : u0 = .pointer (some ⟨nb, 0, none⟩) := g0
            subst g0
            go_simp
            exact hK _ _ rfl (UP.out r w' 4 _ (by decide) (by decide) hW)
          · intro r a w' hf hg hW hr hd K hK
            refine wpOp_of rfl rfl ?_
            refine hf.depE hg hd 4 65 (by kernel_rfl) fun u0 e0 g0 h0 => ?_
            replace g0 : u0 = .pointer (some ⟨nb, 0, none⟩) := g0
            subst g0
            go_simp
            exact hK _ _ rfl (UP.out r w' 5 _ (by decide) (by decide) hW)
          · intro r a w' hf hg hW hr hd K hK
            refine wpOp_of rfl rfl ?_
            refine hf.depE hg hd 5 66 (by kernel_rfl) fun u0 e0 g0 h0 => ?_
            replace g0 : u0 = .pointer (some ⟨nb, 10, none⟩) := g0
            subst g0
            refine hf.depE hg hd 2 63 (by kernel_rfl) fun u1 e1 g1 h1 => ?_
            replace g1 : u1 = .slice (some ⟨gs, 0, none⟩) n cs := g1
            subst g1
            have c10 : ∃ v, w'.cell? ⟨nb, 10, none⟩ = some v := ⟨_, by rw [cell_of_row _ _ _ _ _ _ hW.2]; rfl⟩
            obtain ⟨_, c10⟩ := c10
            have f10 : w'.frozen? ⟨nb, 10, none⟩ = false := by simp [World.frozen?, hW.2]
            go_simp
            refine hK undef _ trivial ⟨hW.1.tr (kp_setOne _ _ _ _), ?_⟩
            rw [upd_same, upd_ne _ _ (by decide)]
            simp [World.setCell, Array.getElem?_modify, hW.2]
          · intro r a w' hf hg hW hr hd K hK
            refine wpOp_of rfl rfl ?_
            refine hf.depE hg hd 1 62 (by kernel_rfl) fun u0 e0 g0 h0 => ?_
            replace g0 : u0 = .pointer (some ⟨nb, 0, none⟩) := g0
            subst g0
            go_simp
            exact hK _ _ rfl (UP.out r w' 7 _ (by decide) (by decide) hW)
          · intro r a w' hf hg hW hr hd K hK
            refine wpOp_of rfl rfl ?_
            refine hf.depE hg hd 7 67 (by kernel_rfl) fun u0 e0 g0 h0 => ?_
            replace g0 : u0 = .pointer (some ⟨nb, 0, none⟩) := g0
            subst g0
            go_simp
            exact hK _ _ rfl (UP.out r w' 8 _ (by decide) (by decide) hW)
          · intro r a w' hf hg hW hr hd K hK
            refine wpOp_of rfl rfl ?_
            refine hf.depE hg hd 8 68 (by kernel_rfl) fun u0 e0 g0 h0 => ?_
            replace g0 : u0 = .pointer (some ⟨nb, 11, none⟩) := g0
            subst g0
            refine hf.depE hg hd 3 64 (by kernel_rfl) fun u1 e1 g1 h1 => ?_
            replace g1 : u1 = .agg #[.int .i64 (U.length : Nat), .int .i64 U.sum] := g1
            subst g1
            have c11 : ∃ v, w'.cell? ⟨nb, 11, none⟩ = some v := ⟨_, by rw [cell_of_row _ _ _ _ _ _ hW.2]; rfl⟩
            obtain ⟨_, c11⟩ := c11
            have f11 : w'.frozen? ⟨nb, 11, none⟩ = false := by simp [World.frozen?, hW.2]
            have c12 : ∃ v, w'.cell? ⟨nb, 12, none⟩ = some v := ⟨_, by rw [cell_of_row _ _ _ _ _ _ hW.2]; rfl⟩
            obtain ⟨_, c12⟩ := c12
            have f12 : w'.frozen? ⟨nb, 12, none⟩ = false := by simp [World.frozen?, hW.2]
            go_simp
            refine hK undef _ trivial ⟨(hW.1.tr (kp_setOne _ _ _ _)).tr (kp_setOne _ _ _ _), ?_⟩
            rw [upd_same, upd_ne _ _ (by decide)]
            simp [World.setCell, Array.getElem?_modify, hW.2]
        intro r' w9 hg hW hr'
        simp only [List.length_cons, List.length_nil, Nat.reduceAdd, List.range_succ, List.range_zero, List.nil_append, List.cons_append, List.map_cons, List.map_nil, putAll, Act.put, List.setIfInBounds_toArray, List.set_cons_succ, List.set_cons_zero]
        obtain ⟨q6, hq6⟩ := Option.ne_none_iff_exists'.1 (hr' 6 (by decide))
        obtain ⟨q9, hq9⟩ := Option.ne_none_iff_exists'.1 (hr' 9 (by decide))
        have hbx := hW.2
        rw [hq6, hq9] at hbx
        have hk9 := hW.1
        have N9 := Lib.hid (show NW nb P A n ca l (mkF (.slice aS S.length cS) S (.slice aO O.length cO) O vW W (.slice aH H.length cH) H (.slice aU U.length cU) U) (.slice (some ⟨gs, 0, none⟩) n cs) U.length U.sum (keepF P.k l S O H U _) w9 from N1.out.best hk9 hbx (by rw [HKF.out]; exact ⟨⟨gs, cs, by rw [HSPL.out]⟩, by rw [HSPL.out]; exact hk9.owns HOS.out fun g hg e => by have e : g = nb := e; have := (own_ge HOS.out hg).1; omega, rfl, rfl⟩))
        have K9 := Lib.hid (show Kp (Sn nb wr) wr w9 from sn_step HK1.out.of_no hk9 fun g e _ => by have e : g = nb := e; subst e; exact ⟨Nat.le_refl _, _, _, _, N1.out.box, by decide⟩)
        clear hg hW hr' hq6 hq9 hbx hk9
        go_end0
        exact ⟨rfl, ⟨_, _, _, N9.out⟩, K9.out⟩
      | some q =>
        obtain ⟨b, c, d⟩ := q
        obtain ⟨⟨gb, cb, hbv⟩, hob, hl0, hl1⟩ := N1.out.bst
        subst hbv hl0 hl1
        have HRB := Lib.hid (Rd.of_own spo_len (by decide) hob)
        have HRS := Lib.hid (Rd.of_own spo_len (by decide) HOS.out)
        have HBL := Lib.hid (HBB.out b l0 l1 rfl)
        have b11 := HK1.out.cell HB11.out id
        have b12 := HK1.out.cell HB12.out id
        have a0 : w1.cell? ⟨ga, 0, none⟩ = some (.int .i64 (U.length : Nat)) := by rw [cell_of_row _ _ _ _ _ _ HG.out]; rfl
        have a1 : w1.cell? ⟨ga, 1, none⟩ = some (.int .i64 U.sum) := by rw [cell_of_row _ _ _ _ _ _ HG.out]; rfl
        clear hob
        obtain ⟨od, hod⟩ : ∃ od, od = orL [cmpI U.length l0, cmpI U.sum l1, cmpSs sp b] := ⟨_, rfl⟩
        have HKF := Lib.hid (show keepF P.k l S O H U (some (b, l0, l1)) = if od < 0 then some (sp, (U.length : Int), U.sum) else some (b, l0, l1) by rw [hod, HSP.out]; rfl)
        have HOD := Lib.hid hod
        clear hod
        have hneq : ∀ W : World, (binOp .neq 26 (.slice (some ⟨gb, 0, none⟩) b.length cb) (.slice none 0 0)).run Try.prog W = .ok (.bool true) W := fun W => neq_nil _ _ _ W
        go_wp2_with fail
        clear hneq
        have up : ∀ (r : Nat → Option Value) (w' : World) (i : Nat) (v : Value), i ≠ 22 → (Kp No w1 w' ∧ ∀ u, r 22 = some u → ∃ gq, u = .slice (some ⟨gq, 0, none⟩) 3 3 ∧ RdI .i64 w' (some ⟨gq, 0, none⟩) 3 [cmpI U.length l0, cmpI U.sum l1, cmpSs sp b]) → (Kp No w1 w' ∧ ∀ u, (Kq.upd r i v) 22 = some u → ∃ gq, u = .slice (some ⟨gq, 0, none⟩) 3 3 ∧ RdI .i64 w' (some ⟨gq, 0, none⟩) 3 [cmpI U.length l0, cmpI U.sum l1, cmpSs sp b]) := fun r w' i v h1 h => by
          rw [upd_ne _ _ h1.symm]
          exact h
        have UP := Lib.hid up
        clear up
        have cl : ∀ (r : Nat → Option Value) (w' w'' : World), Kp No w' w'' → (Kp No w1 w' ∧ ∀ u, r 22 = some u → ∃ gq, u = .slice (some ⟨gq, 0, none⟩) 3 3 ∧ RdI .i64 w' (some ⟨gq, 0, none⟩) 3 [cmpI U.length l0, cmpI U.sum l1, cmpSs sp b]) → (Kp No w1 w'' ∧ ∀ u, r 22 = some u → ∃ gq, u = .slice (some ⟨gq, 0, none⟩) 3 3 ∧ RdI .i64 w'' (some ⟨gq, 0, none⟩) 3 [cmpI U.length l0, cmpI U.sum l1, cmpSs sp b]) := fun r w' w'' k h => ⟨h.1.tr k, fun u hu => by obtain ⟨gq, h1, h2⟩ := h.2 u hu; exact ⟨gq, h1, h2.no k⟩⟩
        have CL := Lib.hid cl
        clear cl
        refine wp_region_each (fun ix uR => match ix with | 0 => uR = .pointer (some ⟨ga, 0, none⟩) | 1 => uR = .int .i64 (U.length : Nat) | 2 => uR = .pointer (some ⟨nb, 0, none⟩) | 3 => uR = .pointer (some ⟨nb, 0, none⟩) | 4 => uR = .pointer (some ⟨nb, 11, none⟩) | 5 => uR = .pointer (some ⟨nb, 11, none⟩) | 6 => uR = .int .i64 l0 | 7 => uR = .int .i64 (cmpI U.length l0) | 8 => uR = .pointer (some ⟨ga, 1, none⟩) | 9 => uR = .int .i64 U.sum | 10 => uR = .pointer (some ⟨nb, 0, none⟩) | 11 => uR = .pointer (some ⟨nb, 0, none⟩) | 12 => uR = .pointer (some ⟨nb, 11, none⟩) | 13 => uR = .pointer (some ⟨nb, 12, none⟩) | 14 => uR = .int .i64 l1 | 15 => uR = .int .i64 (cmpI U.sum l1) | 16 => uR = .slice (some ⟨gs, 0, none⟩) n cs | 17 => uR = .pointer (some ⟨nb, 0, none⟩) | 18 => uR = .pointer (some ⟨nb, 0, none⟩) | 19 => uR = .pointer (some ⟨nb, 10, none⟩) | 20 => uR = .slice (some ⟨gb, 0, none⟩) b.length cb | 21 => uR = .int .i64 (cmpSs sp b) | 23 => uR = .int .i64 (orL [cmpI U.length l0, cmpI U.sum l1, cmpSs sp b]) | 24 => uR = .int .i64 (orL [cmpI U.length l0, cmpI U.sum l1, cmpSs sp b]) | _ => True) (fun r w' => (Kp No w1 w' ∧ ∀ u, r 22 = some u → ∃ gq, u = .slice (some ⟨gq, 0, none⟩) 3 3 ∧ RdI .i64 w' (some ⟨gq, 0, none⟩) 3 [cmpI U.length l0, cmpI U.sum l1, cmpSs sp b])) (by kernel_rfl) (by kernel_rfl) (by kernel_rfl) ?_ ?_ ?_
        · exact ⟨Kp.drew _ _, fun u h => (by cases h)⟩
        · refine ⟨?_, ?_, ?_, ?_, ?_, ?_, ?_, ?_, ?_, ?_, ?_, ?_, ?_, ?_, ?_, ?_, ?_, ?_, ?_, ?_, ?_, ?_, ?_, ?_, ?_, trivial⟩
          · intro r a w' hf hg hW hr hd K hK
            refine wpOp_of rfl rfl ?_
            have e0 : a.tmps.getD 5 undef = .pointer (some ⟨ga, 0, none⟩) := hf.evalFree (by kernel_rfl)
            go_simp
            exact hK _ _ rfl (UP.out r w' 0 _ (by decide) hW)
          · intro r a w' hf hg hW hr hd K hK
            refine wpOp_of rfl rfl ?_
            refine hf.depE hg hd 0 35 (by kernel_rfl) fun u0 e0 g0 h0 => ?_
            replace g0 : u0 = .pointer (some ⟨ga, 0, none⟩) := g0
            subst g0
            have z0 := hW.1.cell a0 id
            go_simp
            exact hK _ _ rfl (UP.out r w' 1 _ (by decide) hW)
          · intro r a w' hf hg hW hr hd K hK
            refine wpOp_of rfl rfl ?_
            have e0 : a.tmps.getD 0 undef = .pointer (some ⟨nb, 0, none⟩) := hf.evalFree (by kernel_rfl)
            go_simp
            exact hK _ _ rfl (UP.out r w' 2 _ (by decide) hW)
          · intro r a w' hf hg hW hr hd K hK
            refine wpOp_of rfl rfl ?_
            refine hf.depE hg hd 2 37 (by kernel_rfl) fun u0 e0 g0 h0 => ?_
            replace g0 : u0 = .pointer (some ⟨nb, 0, none⟩) := g0
            subst g0
            go_simp
            exact hK _ _ rfl (UP.out r w' 3 _ (by decide) hW)
          · intro r a w' hf hg hW hr hd K hK
            refine wpOp_of rfl rfl ?_
            refine hf.depE hg hd 3 38 (by kernel_rfl) fun u0 e0 g0 h0 => ?_
            replace g0 : u0 = .pointer (some ⟨nb, 0, none⟩) := g0
            subst g0
            go_simp
            exact hK _ _ rfl (UP.out r w' 4 _ (by decide) hW)
          · intro r a w' hf hg hW hr hd K hK
            refine wpOp_of rfl rfl ?_
            refine hf.depE hg hd 4 39 (by kernel_rfl) fun u0 e0 g0 h0 => ?_
            replace g0 : u0 = .pointer (some ⟨nb, 11, none⟩) := g0
            subst g0
            go_simp
            exact hK _ _ rfl (UP.out r w' 5 _ (by decide) hW)
          · intro r a w' hf hg hW hr hd K hK
            refine wpOp_of rfl rfl ?_
            refine hf.depE hg hd 5 40 (by kernel_rfl) fun u0 e0 g0 h0 => ?_
            replace g0 : u0 = .pointer (some ⟨nb, 11, none⟩) := g0
            subst g0
            have z0 := hW.1.cell b11 id
            go_simp
            exact hK _ _ rfl (UP.out r w' 6 _ (by decide) hW)
          · intro r a w' hf hg hW hr hd K hK
            refine wpOp_of rfl rfl ?_
            refine hf.depE hg hd 1 36 (by kernel_rfl) fun u0 e0 g0 h0 => ?_
            replace g0 : u0 = .int .i64 (U.length : Nat) := g0
            subst g0
            refine hf.depE hg hd 6 41 (by kernel_rfl) fun u1 e1 g1 h1 => ?_
            replace g1 : u1 = .int .i64 l0 := g1
            subst g1
            go_simp
            with_reducible refine (cmpL_any _ _ w').mono ?_
            rintro e w'' ⟨rfl, rfl⟩
            exact hK _ _ rfl (UP.out r _ 7 _ (by decide) hW)
          · intro r a w' hf hg hW hr hd K hK
            refine wpOp_of rfl rfl ?_
            have e0 : a.tmps.getD 5 undef = .pointer (some ⟨ga, 0, none⟩) := hf.evalFree (by kernel_rfl)
            go_simp
            exact hK _ _ rfl (UP.out r w' 8 _ (by decide) hW)
          · intro r a w' hf hg hW hr hd K hK
            refine wpOp_of rfl rfl ?_
            refine hf.depE hg hd 8 43 (by kernel_rfl) fun u0 e0 g0 h0 => ?_
            replace g0 : u0 = .pointer (some ⟨ga, 1, none⟩) := g0
            subst g0
            have z0 := hW.1.cell a1 id
            go_simp
            exact hK _ _ rfl (UP.out r w' 9 _ (by decide) hW)
          · intro r a w' hf hg hW hr hd K hK
            refine wpOp_of rfl rfl ?_
            have e0 : a.tmps.getD 0 undef = .pointer (some ⟨nb, 0, none⟩) := hf.evalFree (by kernel_rfl)
            go_simp
            exact hK _ _ rfl (UP.out r w' 10 _ (by decide) hW)
          · intro r a w' hf hg hW hr hd K hK
            refine wpOp_of rfl rfl ?_
            refine hf.depE hg hd 10 45 (by kernel_rfl) fun u0 e0 g0 h0 => ?_
            replace g0 : u0 = .pointer (some ⟨nb, 0, none⟩) := g0
            subst g0
            go_simp
            exact hK _ _ rfl (UP.out r w' 11 _ (by decide) hW)
          · intro r a w' hf hg hW hr hd K hK
            refine wpOp_of rfl rfl ?_
            refine hf.depE hg hd 11 46 (by kernel_rfl) fun u0 e0 g0 h0 => ?_
            replace g0 : u0 = .pointer (some ⟨nb, 0, none⟩) := g0
            subst g0
            go_simp
            exact hK _ _ rfl (UP.out r w' 12 _ (by decide) hW)
          · intro r a w' hf hg hW hr hd K hK
            refine wpOp_of rfl rfl ?_
            refine hf.depE hg hd 12 47 (by kernel_rfl) fun u0 e0 g0 h0 => ?_
            replace g0 : u0 = .pointer (some ⟨nb, 11, none⟩) := g0
            subst g0
            go_simp
            exact hK _ _ rfl (UP.out r w' 13 _ (by decide) hW)
          · intro r a w' hf hg hW hr hd K hK
            refine wpOp_of rfl rfl ?_
            refine hf.depE hg hd 13 48 (by kernel_rfl) fun u0 e0 g0 h0 => ?_
            replace g0 : u0 = .pointer (some ⟨nb, 12, none⟩) := g0
            subst g0
            have z0 := hW.1.cell b12 id
            go_simp
            exact hK _ _ rfl (UP.out r w' 14 _ (by decide) hW)
          · intro r a w' hf hg hW hr hd K hK
            refine wpOp_of rfl rfl ?_
            refine hf.depE hg hd 9 44 (by kernel_rfl) fun u0 e0 g0 h0 => ?_
            replace g0 : u0 = .int .i64 U.sum := g0
            subst g0
            refine hf.depE hg hd 14 49 (by kernel_rfl) fun u1 e1 g1 h1 => ?_
            replace g1 : u1 = .int .i64 l1 := g1
            subst g1
            go_simp
            with_reducible refine (cmpL_any _ _ w').mono ?_
            rintro e w'' ⟨rfl, rfl⟩
            exact hK _ _ rfl (UP.out r _ 15 _ (by decide) hW)
          · intro r a w' hf hg hW hr hd K hK
            refine wpOp_of rfl rfl ?_
            have e0 : a.tmps.getD 7 undef = .slice (some ⟨gs, 0, none⟩) n cs := hf.evalFree (by kernel_rfl)
            go_simp
            exact hK _ _ rfl (UP.out r w' 16 _ (by decide) hW)
          · intro r a w' hf hg hW hr hd K hK
            refine wpOp_of rfl rfl ?_
            have e0 : a.tmps.getD 0 undef = .pointer (some ⟨nb, 0, none⟩) := hf.evalFree (by kernel_rfl)
            go_simp
            exact hK _ _ rfl (UP.out r w' 17 _ (by decide) hW)
          · intro r a w' hf hg hW hr hd K hK
            refine wpOp_of rfl rfl ?_
            refine hf.depE hg hd 17 52 (by kernel_rfl) fun u0 e0 g0 h0 => ?_
            replace g0 : u0 = .pointer (some ⟨nb, 0, none⟩) := g0
            subst g0
            go_simp
            exact hK _ _ rfl (UP.out r w' 18 _ (by decide) hW)
          · intro r a w' hf hg hW hr hd K hK
            refine wpOp_of rfl rfl ?_
            refine hf.depE hg hd 18 53 (by kernel_rfl) fun u0 e0 g0 h0 => ?_
            replace g0 : u0 = .pointer (some ⟨nb, 0, none⟩) := g0
            subst g0
            go_simp
            exact hK _ _ rfl (UP.out r w' 19 _ (by decide) hW)
          · intro r a w' hf hg hW hr hd K hK
            refine wpOp_of rfl rfl ?_
            refine hf.depE hg hd 19 54 (by kernel_rfl) fun u0 e0 g0 h0 => ?_
            replace g0 : u0 = .pointer (some ⟨nb, 10, none⟩) := g0
            subst g0
            have z0 := hW.1.cell b10' id
            go_simp
            exact hK _ _ rfl (UP.out r w' 20 _ (by decide) hW)
          · intro r a w' hf hg hW hr hd K hK
            refine wpOp_of rfl rfl ?_
            refine hf.depE hg hd 16 51 (by kernel_rfl) fun u0 e0 g0 h0 => ?_
            replace g0 : u0 = .slice (some ⟨gs, 0, none⟩) n cs := g0
            subst g0
            refine hf.depE hg hd 20 55 (by kernel_rfl) fun u1 e1 g1 h1 => ?_
            replace g1 : u1 = .slice (some ⟨gb, 0, none⟩) b.length cb := g1
            subst g1
            go_simp
            with_reducible refine (compare_any _ n cs sp _ b.length cb b w' (HRS.out.no hW.1) (HRB.out.no hW.1) (by have := HOK.out.n8; omega) (by have := HBL.out; omega)).mono ?_
            rintro e w'' ⟨rfl, k'⟩
            exact hK _ _ rfl (UP.out r _ 21 _ (by decide) (CL.out r _ _ k' hW))
          · intro r a w' hf hg hW hr hd K hK
            refine wpOp_of rfl rfl ?_
            refine hf.depE hg hd 7 42 (by kernel_rfl) fun u0 e0 g0 h0 => ?_
            replace g0 : u0 = .int .i64 (cmpI U.length l0) := g0
            subst g0
            have e0' := get_of_getD e0
            refine hf.depE hg hd 15 50 (by kernel_rfl) fun u1 e1 g1 h1 => ?_
            replace g1 : u1 = .int .i64 (cmpI U.sum l1) := g1
            subst g1
            have e1' := get_of_getD e1
            refine hf.depE hg hd 21 56 (by kernel_rfl) fun u2 e2 g2 h2 => ?_
            replace g2 : u2 = .int .i64 (cmpSs sp b) := g2
            subst g2
            have e2' := get_of_getD e2
            go_simp
            refine hK _ _ trivial ⟨hW.1.tr (Kp.alloc _ _ _), fun u hu => ?_⟩
            rw [upd_same] at hu
            cases hu
            exact ⟨w'.heap.size, rfl, rdi3 w' _ _ _⟩
          · intro r a w' hf hg hW hr hd K hK
            refine wpOp_of rfl rfl ?_
            refine hf.depE hg hd 22 57 (by kernel_rfl) fun u0 e0 g0 h0 => ?_
            obtain ⟨gq, hq, hri⟩ := hW.2 u0 h0
            subst hq
            go_simp
            with_reducible refine (or_any _ 3 3 _ w' hri (by omega)).mono ?_
            rintro e w'' ⟨rfl, rfl⟩
            exact hK _ _ rfl (UP.out r _ 23 _ (by decide) hW)
          · intro r a w' hf hg hW hr hd K hK
            refine wpOp_of rfl rfl ?_
            refine hf.depE hg hd 23 58 (by kernel_rfl) fun u0 e0 g0 h0 => ?_
            replace g0 : u0 = .int .i64 (orL [cmpI U.length l0, cmpI U.sum l1, cmpSs sp b]) := g0
            subst g0
            go_simp
            exact hK _ _ rfl (UP.out r w' 24 _ (by decide) hW)
        intro r' w2 hg hW hr'
        obtain ⟨q24, hq24⟩ : ∃ u, r' 24 = some u := Option.ne_none_iff_exists'.1 (hr' 24 (by decide))
        have hv24 : q24 = .int .i64 (orL [cmpI U.length l0, cmpI U.sum l1, cmpSs sp b]) := hg 24 q24 hq24
        subst hv24
        simp only [List.length_cons, List.length_nil, Nat.reduceAdd, List.range_succ, List.range_zero, List.nil_append, List.cons_append, List.map_cons, List.map_nil, putAll, Act.put, List.setIfInBounds_toArray, List.set_cons_succ, List.set_cons_zero, hq24, Option.getD_some]
        rw [← HOD.out]
        have k2 := hW.1
        have N2 := Lib.hid (N1.out.no k2)
        have HK2 := Lib.hid (HK1.out.tr k2)
        have HG2 := Lib.hid (k2.heap HG.out id)
        have HOS2 := Lib.hid (k2.owns HOS.out fun _ _ h => h)
        have hlt2 := N2.out.lt
        clear hg hW hr' a0 a1 b11 b12 b10' k2 N1 HK1 HG HOS hlt1 HRB HRS HOD
        by_cases ho : od < 0
        · rw [if_pos ho] at HKF
          go_wp2_with fail
          have a0 : w2.cell? ⟨ga, 0, none⟩ = some (.int .i64 (U.length : Nat)) := by rw [cell_of_row _ _ _ _ _ _ HG2.out]; rfl
          have a1 : w2.cell? ⟨ga, 1, none⟩ = some (.int .i64 U.sum) := by rw [cell_of_row _ _ _ _ _ _ HG2.out]; rfl
          have up : ∀ (r : Nat → Option Value) (w' : World) (i : Nat) (v : Value), i ≠ 6 → i ≠ 9 → (Kp (Kq.One nb) w2 w' ∧ w'.heap[nb]? = some (.cells #[.int .i64 P.w, .int .i64 P.h, .int .i64 P.k, .slice A n ca, .slice aS S.length cS, .slice aO O.length cO, vW, .slice aH H.length cH, .slice aU U.length cU, .int .i64 0, (if (r 6).isSome then .slice (some ⟨gs, 0, none⟩) n cs else .slice (some ⟨gb, 0, none⟩) b.length cb), .int .i64 (if (r 9).isSome then (U.length : Int) else l0), .int .i64 (if (r 9).isSome then U.sum else l1)] 61 (0, 0))) → (Kp (Kq.One nb) w2 w' ∧ w'.heap[nb]? = some (.cells #[.int .i64 P.w, .int .i64 P.h, .int .i64 P.k, .slice A n ca, .slice aS S.length cS, .slice aO O.length cO, vW, .slice aH H.length cH, .slice aU U.length cU, .int .i64 0, (if ((Kq.upd r i v) 6).isSome then .slice (some ⟨gs, 0, none⟩) n cs else .slice (some ⟨gb, 0, none⟩) b.length cb), .int .i64 (if ((Kq.upd r i v) 9).isSome then (U.length : Int) else l0), .int .i64 (if ((Kq.upd r i v) 9).isSome then U.sum else l1)] 61 (0, 0))) := fun r w' i v h1 h2 h => by
            rw [upd_ne _ _ h1.symm, upd_ne _ _ h2.symm]
            exact h
          have UP := Lib.hid up
          clear up
          refine wp_region_each (fun ix uR => match ix with | 0 => uR = .pointer (some ⟨nb, 0, none⟩) | 1 => uR = .pointer (some ⟨nb, 0, none⟩) | 2 => uR = .slice (some ⟨gs, 0, none⟩) n cs | 3 => uR = .agg #[.int .i64 (U.length : Nat), .int .i64 U.sum] | 4 => uR = .pointer (some ⟨nb, 0, none⟩) | 5 => uR = .pointer (some ⟨nb, 10, none⟩) | 7 => uR = .pointer (some ⟨nb, 0, none⟩) | 8 => uR = .pointer (some ⟨nb, 11, none⟩) | _ => True) (fun r w' => (Kp (Kq.One nb) w2 w' ∧ w'.heap[nb]? = some (.cells #[.int .i64 P.w, .int .i64 P.h, .int .i64 P.k, .slice A n ca, .slice aS S.length cS, .slice aO O.length cO, vW, .slice aH H.length cH, .slice aU U.length cU, .int .i64 0, (if (r 6).isSome then .slice (some ⟨gs, 0, none⟩) n cs else .slice (some ⟨gb, 0, none⟩) b.length cb), .int .i64 (if (r 9).isSome then (U.length : Int) else l0), .int .i64 (if (r 9).isSome then U.sum else l1)] 61 (0, 0)))) (by kernel_rfl) (by kernel_rfl) (by kernel_rfl) ?_ ?_ ?_
          · exact ⟨Kp.drew _ _, N2.out.box⟩
          · refine ⟨?_, ?_, ?_, ?_, ?_, ?_, ?_, ?_, ?_, ?_, trivial⟩
            · intro r a w' hf hg hW hr hd K hK
              refine wpOp_of rfl rfl ?_
              have e0 : a.tmps.getD 0 undef = .pointer (some ⟨nb, 0, none⟩) := hf.evalFree (by kernel_rfl)
              go_simp
              exact hK _ _ rfl (UP.out r w' 0 _ (by decide) (by decide) hW)
            · intro r a w' hf hg hW hr hd K hK
              refine wpOp_of rfl rfl ?_
              have e0 : a.tmps.getD 0 undef = .pointer (some ⟨nb, 0, none⟩) := hf.evalFree (by kernel_rfl)
              go_simp
              exact hK _ _ rfl (UP.out r w' 1 _ (by decide) (by decide) hW)
            · intro r a w' hf hg hW hr hd K hK
              refine wpOp_of rfl rfl ?_
              have e0 : a.tmps.getD 7 undef = .slice (some ⟨gs, 0, none⟩) n cs := hf.evalFree (by kernel_rfl)
              go_simp
              exact hK _ _ rfl (UP.out r w' 2 _ (by decide) (by decide) hW)
            · intro r a w' hf hg hW hr hd K hK
              refine wpOp_of rfl rfl ?_
              have e0 : a.tmps.getD 5 undef = .pointer (some ⟨ga, 0, none⟩) := hf.evalFree (by kernel_rfl)
              have z0 := hW.1.cell a0 HNE.out
              have z1 := hW.1.cell a1 HNE.out
              go_simp
              exact hK _ _ rfl (UP.out r w' 3 _ (by decide) (by decide) hW)
            · intro r a w' hf hg hW hr hd K hK
              refine wpOp_of rfl rfl ?_
              refine hf.depE hg hd 0 61 (by kernel_rfl) fun u0 e0 g0 h0 => ?_
              replace g0 : u0 = .pointer (some ⟨nb, 0, none⟩) := g0
              subst g0
              go_simp
              exact hK _ _ rfl (UP.out r w' 4 _ (by decide) (by decide) hW)
            · intro r a w' hf hg hW hr hd K hK
              refine wpOp_of rfl rfl ?_
              refine hf.depE hg hd 4 65 (by kernel_rfl) fun u0 e0 g0 h0 => ?_
              replace g0 : u0 = .pointer (some ⟨nb, 0, none⟩) := g0
              subst g0
              go_simp
              exact hK _ _ rfl (UP.out r w' 5 _ (by decide) (by decide) hW)
            · intro r a w' hf hg hW hr hd K hK
              refine wpOp_of rfl rfl ?_
              refine hf.depE hg hd 5 66 (by kernel_rfl) fun u0 e0 g0 h0 => ?_
              replace g0 : u0 = .pointer (some ⟨nb, 10, none⟩) := g0
              subst g0
              refine hf.depE hg hd 2 63 (by kernel_rfl) fun u1 e1 g1 h1 => ?_
              replace g1 : u1 = .slice (some ⟨gs, 0, none⟩) n cs := g1
              subst g1
              have c10 : ∃ v, w'.cell? ⟨nb, 10, none⟩ = some v := ⟨_, by rw [cell_of_row _ _ _ _ _ _ hW.2]; rfl⟩
              obtain ⟨_, c10⟩ := c10
              have f10 : w'.frozen? ⟨nb, 10, none⟩ = false := by simp [World.frozen?, hW.2]
              go_simp
              refine hK undef _ trivial ⟨hW.1.tr (kp_setOne _ _ _ _), ?_⟩
              rw [upd_same, upd_ne _ _ (by decide)]
              simp [World.setCell, Array.getElem?_modify, hW.2]
            · intro r a w' hf hg hW hr hd K hK
              refine wpOp_of rfl rfl ?_
              refine hf.depE hg hd 1 62 (by kernel_rfl) fun u0 e0 g0 h0 => ?_
              replace g0 : u0 = .pointer (some ⟨nb, 0, none⟩) := g0
              subst g0
              go_simp
              exact hK _ _ rfl (UP.out r w' 7 _ (by decide) (by decide) hW)
            · intro r a w' hf hg hW hr hd K hK
              refine wpOp_of rfl rfl ?_
              refine hf.depE hg hd 7 67 (by kernel_rfl) fun u0 e0 g0 h0 => ?_
              replace g0 : u0 = .pointer (some ⟨nb, 0, none⟩) := g0
              subst g0
              go_simp
              exact hK _ _ rfl (UP.out r w' 8 _ (by decide) (by decide) hW)
            · intro r a w' hf hg hW hr hd K hK
              refine wpOp_of rfl rfl ?_
              refine hf.depE hg hd 8 68 (by kernel_rfl) fun u0 e0 g0 h0 => ?_
              replace g0 : u0 = .pointer (some ⟨nb, 11, none⟩) := g0
              subst g0
              refine hf.depE hg hd 3 64 (by kernel_rfl) fun u1 e1 g1 h1 => ?_
              replace g1 : u1 = .agg #[.int .i64 (U.length : Nat), .int .i64 U.sum] := g1
              subst g1
              have c11 : ∃ v, w'.cell? ⟨nb, 11, none⟩ = some v := ⟨_, by rw [cell_of_row _ _ _ _ _ _ hW.2]; rfl⟩
              obtain ⟨_, c11⟩ := c11
              have f11 : w'.frozen? ⟨nb, 11, none⟩ = false := by simp [World.frozen?, hW.2]
              have c12 : ∃ v, w'.cell? ⟨nb, 12, none⟩ = some v := ⟨_, by rw [cell_of_row _ _ _ _ _ _ hW.2]; rfl⟩
              obtain ⟨_, c12⟩ := c12
              have f12 : w'.frozen? ⟨nb, 12, none⟩ = false := by simp [World.frozen?, hW.2]
              go_simp
              refine hK undef _ trivial ⟨(hW.1.tr (kp_setOne _ _ _ _)).tr (kp_setOne _ _ _ _), ?_⟩
              rw [upd_same, upd_ne _ _ (by decide)]
              simp [World.setCell, Array.getElem?_modify, hW.2]
          intro r' w9 hg hW hr'
          simp only [List.length_cons, List.length_nil, Nat.reduceAdd, List.range_succ, List.range_zero, List.nil_append, List.cons_append, List.map_cons, List.map_nil, putAll, Act.put, List.setIfInBounds_toArray, List.set_cons_succ, List.set_cons_zero]
          obtain ⟨q6, hq6⟩ := Option.ne_none_iff_exists'.1 (hr' 6 (by decide))
          obtain ⟨q9, hq9⟩ := Option.ne_none_iff_exists'.1 (hr' 9 (by decide))
          have hbx := hW.2
          rw [hq6, hq9] at hbx
          have hk9 := hW.1
          have N9 := Lib.hid (show NW nb P A n ca l (mkF (.slice aS S.length cS) S (.slice aO O.length cO) O vW W (.slice aH H.length cH) H (.slice aU U.length cU) U) (.slice (some ⟨gs, 0, none⟩) n cs) U.length U.sum (keepF P.k l S O H U _) w9 from N2.out.best hk9 hbx (by rw [HKF.out]; exact ⟨⟨gs, cs, by rw [HSPL.out]⟩, by rw [HSPL.out]; exact hk9.owns HOS2.out fun g hg e => by have e : g = nb := e; have := (own_ge HOS2.out hg).1; omega, rfl, rfl⟩))
          have K9 := Lib.hid (show Kp (Sn nb wr) wr w9 from sn_step HK2.out.of_no hk9 fun g e _ => by have e : g = nb := e; subst e; exact ⟨Nat.le_refl _, _, _, _, N2.out.box, by decide⟩)
          clear hg hW hr' hq6 hq9 hbx hk9
          go_end0
          exact ⟨rfl, ⟨_, _, _, N9.out⟩, K9.out⟩
        · rw [if_neg ho] at HKF
          go_wp2_with fail
          go_end0
          exact ⟨rfl, ⟨_, _, _, by rw [HKF.out]; exact N2.out⟩, HK2.out.of_no⟩
end Go.Proofs.Ytamjhpdgclbfgaa
