/- Chapter 09: shelves: the walk. Printed by gen_nwe.py. -/
import Derived.Test.YtamjhpdgclbfgaaXNwD
namespace Go.Proofs.Ytamjhpdgclbfgaa
open Go.RowKit Go.Kq

theorem stack_any (P : Pt) (A : Option Addr) (n ca : Nat) (l : List Ct) (S : List Nat) (W H : List Int) (nb : Nat) : ∀ (m : Nat) (O : List Nat) (U : List Int) (B : Bst) (w : World), H.length - O.length = m → NSt nb P A n ca l S O W H U B w → NOk P n l S O H U → BOk B →
    Calls Try.prog 57 #[.pointer (some ⟨nb, 0, none⟩), .int .i64 (O.length : Nat)] w fun e w' => e = .returned (.tuple #[]) ∧ NSt nb P A n ca l S O W H U (SF P l S H O U B) w' ∧ BOk (SF P l S H O U B) ∧ Kp (Sn nb w) w w' := by
  intro m
  induction m with
  | zero => exact fun O U B w hm hN hK hB => stack_step P A n ca l S O W H U B nb w (fun O' U' B' w' h1 h2 _ _ _ => by omega) hN hK hB
  | succ m ih => exact fun O U B w hm hN hK hB => stack_step P A n ca l S O W H U B nb w (fun O' U' B' w' h1 h2 h3 h4 h5 => ih O' U' B' w' (by omega) h3 h4 h5) hN hK hB
structure SOk (P : Pt) (n : Nat) (l : List Ct) (S : List Nat) (W H : List Int) : Prop where
  n8 : n ≤ 8
  len : l.length = n
  sl : S.length ≤ n
  ss : ∀ s ∈ S, s < W.length
  wh : H.length = W.length
  wl : W.length ≤ S.length
  wb : bdL 20000000 W
  hb : bdL 20000000 H
  cb : ∀ c ∈ l, (0 ≤ c.w ∧ c.w ≤ 20000000) ∧ 0 ≤ c.h ∧ c.h ≤ 20000000
  kb : 0 ≤ P.k ∧ P.k ≤ 50000
  hh : 0 ≤ P.h ∧ P.h ≤ 20000000
  pw : 0 ≤ P.w ∧ P.w ≤ 20000000
def HF (P : Pt) (l : List Ct) (S : List Nat) (W H : List Int) (B : Bst) : Bst := shelvesF P l (l.drop S.length) S W H B
def HG (P : Pt) (l : List Ct) (S : List Nat) (W H : List Int) (x : Ct) (k : Nat) (B : Bst) : Bst := (List.range k).foldl (fun B k => if P.w < W.getD k 0 + P.k + x.w then B else HF P l (S ++ [k]) (W.set k (W.getD k 0 + P.k + x.w)) (H.set k (max (H.getD k 0) x.h)) B) B
theorem HF_end {P : Pt} {l : List Ct} {S : List Nat} {W H : List Int} {B : Bst} (h : S.length = l.length) : HF P l S W H B = SF P l S H [] [] B := by
  unfold HF SF
  rw [List.drop_of_length_le (by omega)]
  rfl
theorem HF_cons {P : Pt} {l : List Ct} {S : List Nat} {W H : List Int} {B : Bst} {x : Ct} (hx : l[S.length]? = some x) : HF P l S W H B = HF P l (S ++ [W.length]) (W ++ [x.w]) (H ++ [x.h]) (HG P l S W H x W.length B) := by
  unfold HG HF
  rw [drop_at hx]
  simp only [shelvesF, List.length_append, List.length_singleton]
theorem HG_succ {P : Pt} {l : List Ct} {S : List Nat} {W H : List Int} {B : Bst} {x : Ct} (k : Nat) : HG P l S W H x (k + 1) B = if P.w < W.getD k 0 + P.k + x.w then HG P l S W H x k B else HF P l (S ++ [k]) (W.set k (W.getD k 0 + P.k + x.w)) (H.set k (max (H.getD k 0) x.h)) (HG P l S W H x k B) := by
  unfold HG
  rw [List.range_succ, List.foldl_append]
  rfl
theorem SOk.nok {P : Pt} {n : Nat} {l : List Ct} {S : List Nat} {W H : List Int} (h : SOk P n l S W H) (hs : S.length = n) : NOk P n l S [] H [] :=
  ⟨h.n8, h.len, hs, fun s hs => by rw [h.wh]; exact h.ss s hs, by have := h.wh; have := h.wl; omega, h.hb, by simp, fun o ho => (by cases ho), by simp, fun u hu => (by cases hu), fun c hc => (h.cb c hc).1, h.kb, h.hh⟩
theorem SOk.push {P : Pt} {n : Nat} {l : List Ct} {S : List Nat} {W H : List Int} (h : SOk P n l S W H) {x : Ct} (hx : l[S.length]? = some x) : SOk P n l (S ++ [W.length]) (W ++ [x.w]) (H ++ [x.h]) := by
  have hlt := (List.getElem?_eq_some_iff.1 hx).1
  have hxb := h.cb x (List.mem_of_getElem? hx)
  refine ⟨h.n8, h.len, by have := h.len; simp; omega, fun s hs => ?_, by simp; exact h.wh, by simp; exact h.wl, fun u hu => ?_, fun u hu => ?_, h.cb, h.kb, h.hh, h.pw⟩
  · simp at hs
    rcases hs with hs | rfl
    · have := h.ss s hs; simp; omega
    · simp
  · simp at hu
    rcases hu with hu | rfl
    · exact h.wb u hu
    · exact hxb.1
  · simp at hu
    rcases hu with hu | rfl
    · exact h.hb u hu
    · exact hxb.2
theorem SOk.put {P : Pt} {n : Nat} {l : List Ct} {S : List Nat} {W H : List Int} (h : SOk P n l S W H) (hlt : S.length < n) {k : Nat} (hk : k < W.length) {v u : Int} (hv : 0 ≤ v ∧ v ≤ 20000000) (hu : 0 ≤ u ∧ u ≤ 20000000) : SOk P n l (S ++ [k]) (W.set k v) (H.set k u) := by
  refine ⟨h.n8, h.len, by simp; omega, fun s hs => ?_, by simp; exact h.wh, by simp; have := h.wl; omega, bdL_set h.wb (Int.le_refl _) k hv, bdL_set h.hb (Int.le_refl _) k hu, h.cb, h.kb, h.hh, h.pw⟩
  simp at hs
  rw [List.length_set]
  rcases hs with hs | rfl
  · exact h.ss s hs
  · exact hk
theorem own_nil {w : World} {base e : Nat} {v : Value} (h : w.ownsRow base e 1 v 0 []) : (v = .slice none 0 0) ∨ ∃ g c, v = .slice (some ⟨g, 0, none⟩) 0 c := by
  rcases h.2 with ⟨rfl, _⟩ | ⟨g, c, cur, rfl, _⟩
  · exact .inl rfl
  · exact .inr ⟨g, c, rfl⟩
set_option maxHeartbeats 16000000 in
set_option maxRecDepth 100000 in
theorem shelves_end (P : Pt) (A : Option Addr) (n ca : Nat) (l : List Ct) (S : List Nat) (W H : List Int) (B : Bst) (nb : Nat) (w : World) (hN : NSt nb P A n ca l S [] W H [] B w) (hK : SOk P n l S W H) (hB : BOk B) (hS : S.length = n) :
    Calls Try.prog 28 #[.pointer (some ⟨nb, 0, none⟩), .int .i64 (S.length : Nat)] w fun e w' => e = .returned (.tuple #[]) ∧ NSt nb P A n ca l S [] W H [] (HF P l S W H B) w' ∧ BOk (HF P l S W H B) ∧ Kp (Sn nb w) w w' := by
  have HST := Lib.hid (fun (w' : World) (k : Kp (Sn nb w) w w') (h : NSt nb P A n ca l S [] W H [] B w') => stack_any P A n ca l S W H nb _ [] [] B w' rfl h (hK.nok hS) hB)
  have HE := Lib.hid (HF_end (P := P) (W := W) (H := H) (B := B) (hS.trans hK.len.symm))
  obtain ⟨vS, vO, vW, vH, vU, bv, l0, l1, hN1⟩ := hN
  have oO : w.ownsRow (nb + 1) 3 1 vO 0 [] := hN1.own 1 (by decide)
  have oU : w.ownsRow (nb + 1) 2 1 vU 0 [] := hN1.own 4 (by decide)
  have b3 : w.cell? ⟨nb, 3, none⟩ = some (.slice A n ca) := by rw [cell_of_row _ _ _ _ _ _ hN1.box]; rfl
  have HN := Lib.hid hN1
  have hS' : ((S.length : Nat) : Int) = (n : Nat) := by omega
  rcases own_nil oO with rfl | ⟨gO, cO, rfl⟩ <;> rcases own_nil oU with rfl | ⟨gU, cU, rfl⟩
  · clear hN1 oO oU
    go_enter Try.func28, Try.ntmps28
    go_wp2_with fail
    refine wp_region_each (fun ix uR => match ix with | 0 => uR = .pointer (some ⟨nb, 0, none⟩) | 1 => uR = .pointer (some ⟨nb, 0, none⟩) | 2 => uR = .pointer (some ⟨nb, 0, none⟩) | 3 => uR = .pointer (some ⟨nb, 0, none⟩) | 4 => uR = .pointer (some ⟨nb, 5, none⟩) | 5 => uR = .slice none 0 0 | 6 => uR = .slice none 0 0 | 7 => uR = .pointer (some ⟨nb, 0, none⟩) | 8 => uR = .pointer (some ⟨nb, 0, none⟩) | 9 => uR = .pointer (some ⟨nb, 8, none⟩) | 10 => uR = .slice none 0 0 | 11 => uR = .slice none 0 0 | 12 => uR = .pointer (some ⟨nb, 0, none⟩) | 13 => uR = .pointer (some ⟨nb, 5, none⟩) | 15 => uR = .pointer (some ⟨nb, 0, none⟩) | 16 => uR = .pointer (some ⟨nb, 8, none⟩) | _ => True) (Tw w nb P A n ca l (mkF vS S (.slice none 0 0) [] vW W vH H (.slice none 0 0) []) bv l0 l1 B 1 4 (fRes (.slice none 0 0) (.slice none 0 0) 0 ([])) (fRes (.slice none 0 0) (.slice none 0 0) 0 ([])) 90 14 94 91 17 95 (undef) (undef) [(14, 6), (6, 5), (17, 11), (11, 10)]) (by kernel_rfl) (by kernel_rfl) (by kernel_rfl) ?_ ?_ ?_
    · exact Tw.start HN.out rfl rfl
    · refine ⟨?_, ?_, ?_, ?_, ?_, ?_, ?_, ?_, ?_, ?_, ?_, ?_, ?_, ?_, ?_, ?_, ?_, ?_, trivial⟩
      · intro r a w' hf hg hW hr hd K hK
        refine wpOp_of rfl rfl ?_
        have e0 : a.tmps.getD 0 undef = .pointer (some ⟨nb, 0, none⟩) := hf.evalFree (by kernel_rfl)
        go_simp
        exact hK _ _ rfl (hW.upd 0 _ (by decide) (by decide))
      · intro r a w' hf hg hW hr hd K hK
        refine wpOp_of rfl rfl ?_
        have e0 : a.tmps.getD 0 undef = .pointer (some ⟨nb, 0, none⟩) := hf.evalFree (by kernel_rfl)
        go_simp
        exact hK _ _ rfl (hW.upd 1 _ (by decide) (by decide))
      · intro r a w' hf hg hW hr hd K hK
        refine wpOp_of rfl rfl ?_
        have e0 : a.tmps.getD 0 undef = .pointer (some ⟨nb, 0, none⟩) := hf.evalFree (by kernel_rfl)
        go_simp
        exact hK _ _ rfl (hW.upd 2 _ (by decide) (by decide))
      · intro r a w' hf hg hW hr hd K hK
        refine wpOp_of rfl rfl ?_
        refine hf.depE hg hd 2 18 (by kernel_rfl) fun u0 e0 g0 h0 => ?_
        replace g0 : u0 = .pointer (some ⟨nb, 0, none⟩) := g0
        subst g0
        go_simp
        exact hK _ _ rfl (hW.upd 3 _ (by decide) (by decide))
      · intro r a w' hf hg hW hr hd K hK
        refine wpOp_of rfl rfl ?_
        refine hf.depE hg hd 3 19 (by kernel_rfl) fun u0 e0 g0 h0 => ?_
        replace g0 : u0 = .pointer (some ⟨nb, 0, none⟩) := g0
        subst g0
        go_simp
        exact hK _ _ rfl (hW.upd 4 _ (by decide) (by decide))
      · intro r a w' hf hg hW hr hd K hK
        refine wpOp_of rfl rfl ?_
        refine hf.depE hg hd 4 20 (by kernel_rfl) fun u0 e0 g0 h0 => ?_
        replace g0 : u0 = .pointer (some ⟨nb, 5, none⟩) := g0
        subst g0
        have hs0 : r 14 = none := hW.back (x := 14) (y := 6) (by decide) (hW.back (x := 6) (y := 5) (by decide) hr)
        have z0 := hW.cell 5 (v := .slice none 0 0) (by rw [hs0]; rfl)
        go_simp
        exact hK _ _ rfl (hW.upd 5 _ (by decide) (by decide))
      · intro r a w' hf hg hW hr hd K hK
        refine wpOp_of rfl rfl ?_
        refine hf.depE hg hd 5 21 (by kernel_rfl) fun u0 e0 g0 h0 => ?_
        replace g0 : u0 = .slice none 0 0 := g0
        subst g0
        go_simp
        exact hK _ _ rfl (hW.updL 6 _ (by decide) (by intro c hc e; simp only [List.mem_cons, List.not_mem_nil, or_false] at hc; rcases hc with rfl | rfl | rfl | rfl <;> first | (exact absurd e (by decide)) | (rw [h0]; simp)))
      · intro r a w' hf hg hW hr hd K hK
        refine wpOp_of rfl rfl ?_
        have e0 : a.tmps.getD 0 undef = .pointer (some ⟨nb, 0, none⟩) := hf.evalFree (by kernel_rfl)
        go_simp
        exact hK _ _ rfl (hW.upd 7 _ (by decide) (by decide))
      · intro r a w' hf hg hW hr hd K hK
        refine wpOp_of rfl rfl ?_
        refine hf.depE hg hd 7 23 (by kernel_rfl) fun u0 e0 g0 h0 => ?_
        replace g0 : u0 = .pointer (some ⟨nb, 0, none⟩) := g0
        subst g0
        go_simp
        exact hK _ _ rfl (hW.upd 8 _ (by decide) (by decide))
      · intro r a w' hf hg hW hr hd K hK
        refine wpOp_of rfl rfl ?_
        refine hf.depE hg hd 8 24 (by kernel_rfl) fun u0 e0 g0 h0 => ?_
        replace g0 : u0 = .pointer (some ⟨nb, 0, none⟩) := g0
        subst g0
        go_simp
        exact hK _ _ rfl (hW.upd 9 _ (by decide) (by decide))
      · intro r a w' hf hg hW hr hd K hK
        refine wpOp_of rfl rfl ?_
        refine hf.depE hg hd 9 25 (by kernel_rfl) fun u0 e0 g0 h0 => ?_
        replace g0 : u0 = .pointer (some ⟨nb, 8, none⟩) := g0
        subst g0
        have hs0 : r 17 = none := hW.back (x := 17) (y := 11) (by decide) (hW.back (x := 11) (y := 10) (by decide) hr)
        have z0 := hW.cell 8 (v := .slice none 0 0) (by rw [hs0]; rfl)
        go_simp
        exact hK _ _ rfl (hW.upd 10 _ (by decide) (by decide))
      · intro r a w' hf hg hW hr hd K hK
        refine wpOp_of rfl rfl ?_
        refine hf.depE hg hd 10 26 (by kernel_rfl) fun u0 e0 g0 h0 => ?_
        replace g0 : u0 = .slice none 0 0 := g0
        subst g0
        go_simp
        exact hK _ _ rfl (hW.updL 11 _ (by decide) (by intro c hc e; simp only [List.mem_cons, List.not_mem_nil, or_false] at hc; rcases hc with rfl | rfl | rfl | rfl <;> first | (exact absurd e (by decide)) | (rw [h0]; simp)))
      · intro r a w' hf hg hW hr hd K hK
        refine wpOp_of rfl rfl ?_
        refine hf.depE hg hd 0 16 (by kernel_rfl) fun u0 e0 g0 h0 => ?_
        replace g0 : u0 = .pointer (some ⟨nb, 0, none⟩) := g0
        subst g0
        go_simp
        exact hK _ _ rfl (hW.upd 12 _ (by decide) (by decide))
      · intro r a w' hf hg hW hr hd K hK
        refine wpOp_of rfl rfl ?_
        refine hf.depE hg hd 12 28 (by kernel_rfl) fun u0 e0 g0 h0 => ?_
        replace g0 : u0 = .pointer (some ⟨nb, 0, none⟩) := g0
        subst g0
        go_simp
        exact hK _ _ rfl (hW.upd 13 _ (by decide) (by decide))
      · intro r a w' hf hg hW hr hd K hK
        refine wpOp_of rfl rfl ?_
        refine hf.depE hg hd 13 29 (by kernel_rfl) fun u0 e0 g0 h0 => ?_
        replace g0 : u0 = .pointer (some ⟨nb, 5, none⟩) := g0
        subst g0
        refine hf.depE hg hd 6 22 (by kernel_rfl) fun u1 e1 g1 h1 => ?_
        replace g1 : u1 = .slice none 0 0 := g1
        subst g1
        obtain ⟨old, y0⟩ := hW.old (c := 5) (by decide)
        have y1 := hW.free 5
        go_simp
        exact hK undef _ trivial (hW.putRes (by decide) (by decide) (by intro c hc e; simp only [List.mem_cons, List.not_mem_nil, or_false] at hc; rcases hc with rfl | rfl | rfl | rfl <;> first | (exact absurd e (by decide)) | (rw [h1]; simp)) undef)
      · intro r a w' hf hg hW hr hd K hK
        refine wpOp_of rfl rfl ?_
        refine hf.depE hg hd 1 17 (by kernel_rfl) fun u0 e0 g0 h0 => ?_
        replace g0 : u0 = .pointer (some ⟨nb, 0, none⟩) := g0
        subst g0
        go_simp
        exact hK _ _ rfl (hW.upd 15 _ (by decide) (by decide))
      · intro r a w' hf hg hW hr hd K hK
        refine wpOp_of rfl rfl ?_
        refine hf.depE hg hd 15 30 (by kernel_rfl) fun u0 e0 g0 h0 => ?_
        replace g0 : u0 = .pointer (some ⟨nb, 0, none⟩) := g0
        subst g0
        go_simp
        exact hK _ _ rfl (hW.upd 16 _ (by decide) (by decide))
      · intro r a w' hf hg hW hr hd K hK
        refine wpOp_of rfl rfl ?_
        refine hf.depE hg hd 16 31 (by kernel_rfl) fun u0 e0 g0 h0 => ?_
        replace g0 : u0 = .pointer (some ⟨nb, 8, none⟩) := g0
        subst g0
        refine hf.depE hg hd 11 27 (by kernel_rfl) fun u1 e1 g1 h1 => ?_
        replace g1 : u1 = .slice none 0 0 := g1
        subst g1
        obtain ⟨old, y0⟩ := hW.old (c := 8) (by decide)
        have y1 := hW.free 8
        go_simp
        exact hK undef _ trivial (((hW.swap (by decide)).putRes (by decide) (by decide) (by intro c hc e; simp only [List.mem_cons, List.not_mem_nil, or_false] at hc; rcases hc with rfl | rfl | rfl | rfl <;> first | (exact absurd e (by decide)) | (rw [h1]; simp)) undef).swap (by decide))
    intro r' w2 hg hW hr'
    simp only [List.length_cons, List.length_nil, Nat.reduceAdd, List.range_succ, List.range_zero, List.nil_append, List.cons_append, List.map_cons, List.map_nil, putAll, Act.put, List.setIfInBounds_toArray, List.set_cons_succ, List.set_cons_zero]
    have n9 := hW.nw
    rw [fRes_fin (hr' 14 (by decide))] at n9
    rw [fRes_fin (hr' 17 (by decide))] at n9
    have k9 := hW.kp
    clear hg hW hr'
    have hN2 : NSt nb P A n ca l S [] W H [] B w2 := ⟨vS, .slice none 0 0, vW, vH, .slice none 0 0, bv, l0, l1, n9.congr (fun j hj => by match j, hj with | 0, _ => rfl | 1, _ => rfl | 2, _ => rfl | 3, _ => rfl | 4, _ => rfl)⟩
    have HK2 := Lib.hid k9
    have HC := Lib.hid (HST.out w2 k9 hN2)
    simp only [List.length_nil, Int.natCast_zero] at HC
    clear n9 k9 hN2 HN
    go_wp2_with fail
    with_reducible refine HC.out.mono ?_
    rintro e w3 ⟨rfl, hN3, hB3, hk3⟩
    have HK3 := Lib.hid (sn_tr HK2.out hk3)
    clear hk3 HC
    go_wp2_with fail
    refine bodyPost_ret (results_none rfl _ _ _) rfl ?_
    exact ⟨rfl, by rw [HE.out]; exact hN3, by rw [HE.out]; exact hB3, HK3.out⟩
  · clear hN1 oO oU
    go_enter Try.func28, Try.ntmps28
    go_wp2_with fail
    refine wp_region_each (fun ix uR => match ix with | 0 => uR = .pointer (some ⟨nb, 0, none⟩) | 1 => uR = .pointer (some ⟨nb, 0, none⟩) | 2 => uR = .pointer (some ⟨nb, 0, none⟩) | 3 => uR = .pointer (some ⟨nb, 0, none⟩) | 4 => uR = .pointer (some ⟨nb, 5, none⟩) | 5 => uR = .slice none 0 0 | 6 => uR = .slice none 0 0 | 7 => uR = .pointer (some ⟨nb, 0, none⟩) | 8 => uR = .pointer (some ⟨nb, 0, none⟩) | 9 => uR = .pointer (some ⟨nb, 8, none⟩) | 10 => uR = .slice (some ⟨gU, 0, none⟩) 0 cU | 11 => uR = .slice (some ⟨gU, 0, none⟩) 0 cU | 12 => uR = .pointer (some ⟨nb, 0, none⟩) | 13 => uR = .pointer (some ⟨nb, 5, none⟩) | 15 => uR = .pointer (some ⟨nb, 0, none⟩) | 16 => uR = .pointer (some ⟨nb, 8, none⟩) | _ => True) (Tw w nb P A n ca l (mkF vS S (.slice none 0 0) [] vW W vH H (.slice (some ⟨gU, 0, none⟩) 0 cU) []) bv l0 l1 B 1 4 (fRes (.slice none 0 0) (.slice none 0 0) 0 ([])) (fRes (.slice (some ⟨gU, 0, none⟩) 0 cU) (.slice (some ⟨gU, 0, none⟩) 0 cU) 0 ([])) 90 14 94 91 17 95 (undef) (undef) [(14, 6), (6, 5), (17, 11), (11, 10)]) (by kernel_rfl) (by kernel_rfl) (by kernel_rfl) ?_ ?_ ?_
    · exact Tw.start HN.out rfl rfl
    · refine ⟨?_, ?_, ?_, ?_, ?_, ?_, ?_, ?_, ?_, ?_, ?_, ?_, ?_, ?_, ?_, ?_, ?_, ?_, trivial⟩
      · intro r a w' hf hg hW hr hd K hK
        refine wpOp_of rfl rfl ?_
        have e0 : a.tmps.getD 0 undef = .pointer (some ⟨nb, 0, none⟩) := hf.evalFree (by kernel_rfl)
        go_simp
        exact hK _ _ rfl (hW.upd 0 _ (by decide) (by decide))
      · intro r a w' hf hg hW hr hd K hK
        refine wpOp_of rfl rfl ?_
        have e0 : a.tmps.getD 0 undef = .pointer (some ⟨nb, 0, none⟩) := hf.evalFree (by kernel_rfl)
        go_simp
        exact hK _ _ rfl (hW.upd 1 _ (by decide) (by decide))
      · intro r a w' hf hg hW hr hd K hK
        refine wpOp_of rfl rfl ?_
        have e0 : a.tmps.getD 0 undef = .pointer (some ⟨nb, 0, none⟩) := hf.evalFree (by kernel_rfl)
        go_simp
        exact hK _ _ rfl (hW.upd 2 _ (by decide) (by decide))
      · intro r a w' hf hg hW hr hd K hK
        refine wpOp_of rfl rfl ?_
        refine hf.depE hg hd 2 18 (by kernel_rfl) fun u0 e0 g0 h0 => ?_
        replace g0 : u0 = .pointer (some ⟨nb, 0, none⟩) := g0
        subst g0
        go_simp
        exact hK _ _ rfl (hW.upd 3 _ (by decide) (by decide))
      · intro r a w' hf hg hW hr hd K hK
        refine wpOp_of rfl rfl ?_
        refine hf.depE hg hd 3 19 (by kernel_rfl) fun u0 e0 g0 h0 => ?_
        replace g0 : u0 = .pointer (some ⟨nb, 0, none⟩) := g0
        subst g0
        go_simp
        exact hK _ _ rfl (hW.upd 4 _ (by decide) (by decide))
      · intro r a w' hf hg hW hr hd K hK
        refine wpOp_of rfl rfl ?_
        refine hf.depE hg hd 4 20 (by kernel_rfl) fun u0 e0 g0 h0 => ?_
        replace g0 : u0 = .pointer (some ⟨nb, 5, none⟩) := g0
        subst g0
        have hs0 : r 14 = none := hW.back (x := 14) (y := 6) (by decide) (hW.back (x := 6) (y := 5) (by decide) hr)
        have z0 := hW.cell 5 (v := .slice none 0 0) (by rw [hs0]; rfl)
        go_simp
        exact hK _ _ rfl (hW.upd 5 _ (by decide) (by decide))
      · intro r a w' hf hg hW hr hd K hK
        refine wpOp_of rfl rfl ?_
        refine hf.depE hg hd 5 21 (by kernel_rfl) fun u0 e0 g0 h0 => ?_
        replace g0 : u0 = .slice none 0 0 := g0
        subst g0
        go_simp
        exact hK _ _ rfl (hW.updL 6 _ (by decide) (by intro c hc e; simp only [List.mem_cons, List.not_mem_nil, or_false] at hc; rcases hc with rfl | rfl | rfl | rfl <;> first | (exact absurd e (by decide)) | (rw [h0]; simp)))
      · intro r a w' hf hg hW hr hd K hK
        refine wpOp_of rfl rfl ?_
        have e0 : a.tmps.getD 0 undef = .pointer (some ⟨nb, 0, none⟩) := hf.evalFree (by kernel_rfl)
        go_simp
        exact hK _ _ rfl (hW.upd 7 _ (by decide) (by decide))
      · intro r a w' hf hg hW hr hd K hK
        refine wpOp_of rfl rfl ?_
        refine hf.depE hg hd 7 23 (by kernel_rfl) fun u0 e0 g0 h0 => ?_
        replace g0 : u0 = .pointer (some ⟨nb, 0, none⟩) := g0
        subst g0
        go_simp
        exact hK _ _ rfl (hW.upd 8 _ (by decide) (by decide))
      · intro r a w' hf hg hW hr hd K hK
        refine wpOp_of rfl rfl ?_
        refine hf.depE hg hd 8 24 (by kernel_rfl) fun u0 e0 g0 h0 => ?_
        replace g0 : u0 = .pointer (some ⟨nb, 0, none⟩) := g0
        subst g0
        go_simp
        exact hK _ _ rfl (hW.upd 9 _ (by decide) (by decide))
      · intro r a w' hf hg hW hr hd K hK
        refine wpOp_of rfl rfl ?_
        refine hf.depE hg hd 9 25 (by kernel_rfl) fun u0 e0 g0 h0 => ?_
        replace g0 : u0 = .pointer (some ⟨nb, 8, none⟩) := g0
        subst g0
        have hs0 : r 17 = none := hW.back (x := 17) (y := 11) (by decide) (hW.back (x := 11) (y := 10) (by decide) hr)
        have z0 := hW.cell 8 (v := .slice (some ⟨gU, 0, none⟩) 0 cU) (by rw [hs0]; rfl)
        go_simp
        exact hK _ _ rfl (hW.upd 10 _ (by decide) (by decide))
      · intro r a w' hf hg hW hr hd K hK
        refine wpOp_of rfl rfl ?_
        refine hf.depE hg hd 10 26 (by kernel_rfl) fun u0 e0 g0 h0 => ?_
        replace g0 : u0 = .slice (some ⟨gU, 0, none⟩) 0 cU := g0
        subst g0
        go_simp
        exact hK _ _ rfl (hW.updL 11 _ (by decide) (by intro c hc e; simp only [List.mem_cons, List.not_mem_nil, or_false] at hc; rcases hc with rfl | rfl | rfl | rfl <;> first | (exact absurd e (by decide)) | (rw [h0]; simp)))
      · intro r a w' hf hg hW hr hd K hK
        refine wpOp_of rfl rfl ?_
        refine hf.depE hg hd 0 16 (by kernel_rfl) fun u0 e0 g0 h0 => ?_
        replace g0 : u0 = .pointer (some ⟨nb, 0, none⟩) := g0
        subst g0
        go_simp
        exact hK _ _ rfl (hW.upd 12 _ (by decide) (by decide))
      · intro r a w' hf hg hW hr hd K hK
        refine wpOp_of rfl rfl ?_
        refine hf.depE hg hd 12 28 (by kernel_rfl) fun u0 e0 g0 h0 => ?_
        replace g0 : u0 = .pointer (some ⟨nb, 0, none⟩) := g0
        subst g0
        go_simp
        exact hK _ _ rfl (hW.upd 13 _ (by decide) (by decide))
      · intro r a w' hf hg hW hr hd K hK
        refine wpOp_of rfl rfl ?_
        refine hf.depE hg hd 13 29 (by kernel_rfl) fun u0 e0 g0 h0 => ?_
        replace g0 : u0 = .pointer (some ⟨nb, 5, none⟩) := g0
        subst g0
        refine hf.depE hg hd 6 22 (by kernel_rfl) fun u1 e1 g1 h1 => ?_
        replace g1 : u1 = .slice none 0 0 := g1
        subst g1
        obtain ⟨old, y0⟩ := hW.old (c := 5) (by decide)
        have y1 := hW.free 5
        go_simp
        exact hK undef _ trivial (hW.putRes (by decide) (by decide) (by intro c hc e; simp only [List.mem_cons, List.not_mem_nil, or_false] at hc; rcases hc with rfl | rfl | rfl | rfl <;> first | (exact absurd e (by decide)) | (rw [h1]; simp)) undef)
      · intro r a w' hf hg hW hr hd K hK
        refine wpOp_of rfl rfl ?_
        refine hf.depE hg hd 1 17 (by kernel_rfl) fun u0 e0 g0 h0 => ?_
        replace g0 : u0 = .pointer (some ⟨nb, 0, none⟩) := g0
        subst g0
        go_simp
        exact hK _ _ rfl (hW.upd 15 _ (by decide) (by decide))
      · intro r a w' hf hg hW hr hd K hK
        refine wpOp_of rfl rfl ?_
        refine hf.depE hg hd 15 30 (by kernel_rfl) fun u0 e0 g0 h0 => ?_
        replace g0 : u0 = .pointer (some ⟨nb, 0, none⟩) := g0
        subst g0
        go_simp
        exact hK _ _ rfl (hW.upd 16 _ (by decide) (by decide))
      · intro r a w' hf hg hW hr hd K hK
        refine wpOp_of rfl rfl ?_
        refine hf.depE hg hd 16 31 (by kernel_rfl) fun u0 e0 g0 h0 => ?_
        replace g0 : u0 = .pointer (some ⟨nb, 8, none⟩) := g0
        subst g0
        refine hf.depE hg hd 11 27 (by kernel_rfl) fun u1 e1 g1 h1 => ?_
        replace g1 : u1 = .slice (some ⟨gU, 0, none⟩) 0 cU := g1
        subst g1
        obtain ⟨old, y0⟩ := hW.old (c := 8) (by decide)
        have y1 := hW.free 8
        go_simp
        exact hK undef _ trivial (((hW.swap (by decide)).putRes (by decide) (by decide) (by intro c hc e; simp only [List.mem_cons, List.not_mem_nil, or_false] at hc; rcases hc with rfl | rfl | rfl | rfl <;> first | (exact absurd e (by decide)) | (rw [h1]; simp)) undef).swap (by decide))
    intro r' w2 hg hW hr'
    simp only [List.length_cons, List.length_nil, Nat.reduceAdd, List.range_succ, List.range_zero, List.nil_append, List.cons_append, List.map_cons, List.map_nil, putAll, Act.put, List.setIfInBounds_toArray, List.set_cons_succ, List.set_cons_zero]
    have n9 := hW.nw
    rw [fRes_fin (hr' 14 (by decide))] at n9
    rw [fRes_fin (hr' 17 (by decide))] at n9
    have k9 := hW.kp
    clear hg hW hr'
    have hN2 : NSt nb P A n ca l S [] W H [] B w2 := ⟨vS, .slice none 0 0, vW, vH, .slice (some ⟨gU, 0, none⟩) 0 cU, bv, l0, l1, n9.congr (fun j hj => by match j, hj with | 0, _ => rfl | 1, _ => rfl | 2, _ => rfl | 3, _ => rfl | 4, _ => rfl)⟩
    have HK2 := Lib.hid k9
    have HC := Lib.hid (HST.out w2 k9 hN2)
    simp only [List.length_nil, Int.natCast_zero] at HC
    clear n9 k9 hN2 HN
    go_wp2_with fail
    with_reducible refine HC.out.mono ?_
    rintro e w3 ⟨rfl, hN3, hB3, hk3⟩
    have HK3 := Lib.hid (sn_tr HK2.out hk3)
    clear hk3 HC
    go_wp2_with fail
    refine bodyPost_ret (results_none rfl _ _ _) rfl ?_
    exact ⟨rfl, by rw [HE.out]; exact hN3, by rw [HE.out]; exact hB3, HK3.out⟩
  · clear hN1 oO oU
    go_enter Try.func28, Try.ntmps28
    go_wp2_with fail
    refine wp_region_each (fun ix uR => match ix with | 0 => uR = .pointer (some ⟨nb, 0, none⟩) | 1 => uR = .pointer (some ⟨nb, 0, none⟩) | 2 => uR = .pointer (some ⟨nb, 0, none⟩) | 3 => uR = .pointer (some ⟨nb, 0, none⟩) | 4 => uR = .pointer (some ⟨nb, 5, none⟩) | 5 => uR = .slice (some ⟨gO, 0, none⟩) 0 cO | 6 => uR = .slice (some ⟨gO, 0, none⟩) 0 cO | 7 => uR = .pointer (some ⟨nb, 0, none⟩) | 8 => uR = .pointer (some ⟨nb, 0, none⟩) | 9 => uR = .pointer (some ⟨nb, 8, none⟩) | 10 => uR = .slice none 0 0 | 11 => uR = .slice none 0 0 | 12 => uR = .pointer (some ⟨nb, 0, none⟩) | 13 => uR = .pointer (some ⟨nb, 5, none⟩) | 15 => uR = .pointer (some ⟨nb, 0, none⟩) | 16 => uR = .pointer (some ⟨nb, 8, none⟩) | _ => True) (Tw w nb P A n ca l (mkF vS S (.slice (some ⟨gO, 0, none⟩) 0 cO) [] vW W vH H (.slice none 0 0) []) bv l0 l1 B 1 4 (fRes (.slice (some ⟨gO, 0, none⟩) 0 cO) (.slice (some ⟨gO, 0, none⟩) 0 cO) 0 ([])) (fRes (.slice none 0 0) (.slice none 0 0) 0 ([])) 90 14 94 91 17 95 (undef) (undef) [(14, 6), (6, 5), (17, 11), (11, 10)]) (by kernel_rfl) (by kernel_rfl) (by kernel_rfl) ?_ ?_ ?_
    · exact Tw.start HN.out rfl rfl
    · refine ⟨?_, ?_, ?_, ?_, ?_, ?_, ?_, ?_, ?_, ?_, ?_, ?_, ?_, ?_, ?_, ?_, ?_, ?_, trivial⟩
      · intro r a w' hf hg hW hr hd K hK
        refine wpOp_of rfl rfl ?_
        have e0 : a.tmps.getD 0 undef = .pointer (some ⟨nb, 0, none⟩) := hf.evalFree (by kernel_rfl)
        go_simp
        exact hK _ _ rfl (hW.upd 0 _ (by decide) (by decide))
      · intro r a w' hf hg hW hr hd K hK
        refine wpOp_of rfl rfl ?_
        have e0 : a.tmps.getD 0 undef = .pointer (some ⟨nb, 0, none⟩) := hf.evalFree (by kernel_rfl)
        go_simp
        exact hK _ _ rfl (hW.upd 1 _ (by decide) (by decide))
      · intro r a w' hf hg hW hr hd K hK
        refine wpOp_of rfl rfl ?_
        have e0 : a.tmps.getD 0 undef = .pointer (some ⟨nb, 0, none⟩) := hf.evalFree (by kernel_rfl)
        go_simp
        exact hK _ _ rfl (hW.upd 2 _ (by decide) (by decide))
      · intro r a w' hf hg hW hr hd K hK
        refine wpOp_of rfl rfl ?_
        refine hf.depE hg hd 2 18 (by kernel_rfl) fun u0 e0 g0 h0 => ?_
        replace g0 : u0 = .pointer (some ⟨nb, 0, none⟩) := g0
        subst g0
        go_simp
        exact hK _ _ rfl (hW.upd 3 _ (by decide) (by decide))
      · intro r a w' hf hg hW hr hd K hK
        refine wpOp_of rfl rfl ?_
        refine hf.depE hg hd 3 19 (by kernel_rfl) fun u0 e0 g0 h0 => ?_
        replace g0 : u0 = .pointer (some ⟨nb, 0, none⟩) := g0
        subst g0
        go_simp
        exact hK _ _ rfl (hW.upd 4 _ (by decide) (by decide))
      · intro r a w' hf hg hW hr hd K hK
        refine wpOp_of rfl rfl ?_
        refine hf.depE hg hd 4 20 (by kernel_rfl) fun u0 e0 g0 h0 => ?_
        replace g0 : u0 = .pointer (some ⟨nb, 5, none⟩) := g0
        subst g0
        have hs0 : r 14 = none := hW.back (x := 14) (y := 6) (by decide) (hW.back (x := 6) (y := 5) (by decide) hr)
        have z0 := hW.cell 5 (v := .slice (some ⟨gO, 0, none⟩) 0 cO) (by rw [hs0]; rfl)
        go_simp
        exact hK _ _ rfl (hW.upd 5 _ (by decide) (by decide))
      · intro r a w' hf hg hW hr hd K hK
        refine wpOp_of rfl rfl ?_
        refine hf.depE hg hd 5 21 (by kernel_rfl) fun u0 e0 g0 h0 => ?_
        replace g0 : u0 = .slice (some ⟨gO, 0, none⟩) 0 cO := g0
        subst g0
        go_simp
        exact hK _ _ rfl (hW.updL 6 _ (by decide) (by intro c hc e; simp only [List.mem_cons, List.not_mem_nil, or_false] at hc; rcases hc with rfl | rfl | rfl | rfl <;> first | (exact absurd e (by decide)) | (rw [h0]; simp)))
      · intro r a w' hf hg hW hr hd K hK
        refine wpOp_of rfl rfl ?_
        have e0 : a.tmps.getD 0 undef = .pointer (some ⟨nb, 0, none⟩) := hf.evalFree (by kernel_rfl)
        go_simp
        exact hK _ _ rfl (hW.upd 7 _ (by decide) (by decide))
      · intro r a w' hf hg hW hr hd K hK
        refine wpOp_of rfl rfl ?_
        refine hf.depE hg hd 7 23 (by kernel_rfl) fun u0 e0 g0 h0 => ?_
        replace g0 : u0 = .pointer (some ⟨nb, 0, none⟩) := g0
        subst g0
        go_simp
        exact hK _ _ rfl (hW.upd 8 _ (by decide) (by decide))
      · intro r a w' hf hg hW hr hd K hK
        refine wpOp_of rfl rfl ?_
        refine hf.depE hg hd 8 24 (by kernel_rfl) fun u0 e0 g0 h0 => ?_
        replace g0 : u0 = .pointer (some ⟨nb, 0, none⟩) := g0
        subst g0
        go_simp
        exact hK _ _ rfl (hW.upd 9 _ (by decide) (by decide))
      · intro r a w' hf hg hW hr hd K hK
        refine wpOp_of rfl rfl ?_
        refine hf.depE hg hd 9 25 (by kernel_rfl) fun u0 e0 g0 h0 => ?_
        replace g0 : u0 = .pointer (some ⟨nb, 8, none⟩) := g0
        subst g0
        have hs0 : r 17 = none := hW.back (x := 17) (y := 11) (by decide) (hW.back (x := 11) (y := 10) (by decide) hr)
        have z0 := hW.cell 8 (v := .slice none 0 0) (by rw [hs0]; rfl)
        go_simp
        exact hK _ _ rfl (hW.upd 10 _ (by decide) (by decide))
      · intro r a w' hf hg hW hr hd K hK
        refine wpOp_of rfl rfl ?_
        refine hf.depE hg hd 10 26 (by kernel_rfl) fun u0 e0 g0 h0 => ?_
        replace g0 : u0 = .slice none 0 0 := g0
        subst g0
        go_simp
        exact hK _ _ rfl (hW.updL 11 _ (by decide) (by intro c hc e; simp only [List.mem_cons, List.not_mem_nil, or_false] at hc; rcases hc with rfl | rfl | rfl | rfl <;> first | (exact absurd e (by decide)) | (rw [h0]; simp)))
      · intro r a w' hf hg hW hr hd K hK
        refine wpOp_of rfl rfl ?_
        refine hf.depE hg hd 0 16 (by kernel_rfl) fun u0 e0 g0 h0 => ?_
        replace g0 : u0 = .pointer (some ⟨nb, 0, none⟩) := g0
        subst g0
        go_simp
        exact hK _ _ rfl (hW.upd 12 _ (by decide) (by decide))
      · intro r a w' hf hg hW hr hd K hK
        refine wpOp_of rfl rfl ?_
        refine hf.depE hg hd 12 28 (by kernel_rfl) fun u0 e0 g0 h0 => ?_
        replace g0 : u0 = .pointer (some ⟨nb, 0, none⟩) := g0
        subst g0
        go_simp
        exact hK _ _ rfl (hW.upd 13 _ (by decide) (by decide))
      · intro r a w' hf hg hW hr hd K hK
        refine wpOp_of rfl rfl ?_
        refine hf.depE hg hd 13 29 (by kernel_rfl) fun u0 e0 g0 h0 => ?_
        replace g0 : u0 = .pointer (some ⟨nb, 5, none⟩) := g0
        subst g0
        refine hf.depE hg hd 6 22 (by kernel_rfl) fun u1 e1 g1 h1 => ?_
        replace g1 : u1 = .slice (some ⟨gO, 0, none⟩) 0 cO := g1
        subst g1
        obtain ⟨old, y0⟩ := hW.old (c := 5) (by decide)
        have y1 := hW.free 5
        go_simp
        exact hK undef _ trivial (hW.putRes (by decide) (by decide) (by intro c hc e; simp only [List.mem_cons, List.not_mem_nil, or_false] at hc; rcases hc with rfl | rfl | rfl | rfl <;> first | (exact absurd e (by decide)) | (rw [h1]; simp)) undef)
      · intro r a w' hf hg hW hr hd K hK
        refine wpOp_of rfl rfl ?_
        refine hf.depE hg hd 1 17 (by kernel_rfl) fun u0 e0 g0 h0 => ?_
        replace g0 : u0 = .pointer (some ⟨nb, 0, none⟩) := g0
        subst g0
        go_simp
        exact hK _ _ rfl (hW.upd 15 _ (by decide) (by decide))
      · intro r a w' hf hg hW hr hd K hK
        refine wpOp_of rfl rfl ?_
        refine hf.depE hg hd 15 30 (by kernel_rfl) fun u0 e0 g0 h0 => ?_
        replace g0 : u0 = .pointer (some ⟨nb, 0, none⟩) := g0
        subst g0
        go_simp
        exact hK _ _ rfl (hW.upd 16 _ (by decide) (by decide))
      · intro r a w' hf hg hW hr hd K hK
        refine wpOp_of rfl rfl ?_
        refine hf.depE hg hd 16 31 (by kernel_rfl) fun u0 e0 g0 h0 => ?_
        replace g0 : u0 = .pointer (some ⟨nb, 8, none⟩) := g0
        subst g0
        refine hf.depE hg hd 11 27 (by kernel_rfl) fun u1 e1 g1 h1 => ?_
        replace g1 : u1 = .slice none 0 0 := g1
        subst g1
        obtain ⟨old, y0⟩ := hW.old (c := 8) (by decide)
        have y1 := hW.free 8
        go_simp
        exact hK undef _ trivial (((hW.swap (by decide)).putRes (by decide) (by decide) (by intro c hc e; simp only [List.mem_cons, List.not_mem_nil, or_false] at hc; rcases hc with rfl | rfl | rfl | rfl <;> first | (exact absurd e (by decide)) | (rw [h1]; simp)) undef).swap (by decide))
    intro r' w2 hg hW hr'
    simp only [List.length_cons, List.length_nil, Nat.reduceAdd, List.range_succ, List.range_zero, List.nil_append, List.cons_append, List.map_cons, List.map_nil, putAll, Act.put, List.setIfInBounds_toArray, List.set_cons_succ, List.set_cons_zero]
    have n9 := hW.nw
    rw [fRes_fin (hr' 14 (by decide))] at n9
    rw [fRes_fin (hr' 17 (by decide))] at n9
    have k9 := hW.kp
    clear hg hW hr'
    have hN2 : NSt nb P A n ca l S [] W H [] B w2 := ⟨vS, .slice (some ⟨gO, 0, none⟩) 0 cO, vW, vH, .slice none 0 0, bv, l0, l1, n9.congr (fun j hj => by match j, hj with | 0, _ => rfl | 1, _ => rfl | 2, _ => rfl | 3, _ => rfl | 4, _ => rfl)⟩
    have HK2 := Lib.hid k9
    have HC := Lib.hid (HST.out w2 k9 hN2)
    simp only [List.length_nil, Int.natCast_zero] at HC
    clear n9 k9 hN2 HN
    go_wp2_with fail
    with_reducible refine HC.out.mono ?_
    rintro e w3 ⟨rfl, hN3, hB3, hk3⟩
    have HK3 := Lib.hid (sn_tr HK2.out hk3)
    clear hk3 HC
    go_wp2_with fail
    refine bodyPost_ret (results_none rfl _ _ _) rfl ?_
    exact ⟨rfl, by rw [HE.out]; exact hN3, by rw [HE.out]; exact hB3, HK3.out⟩
  · clear hN1 oO oU
    go_enter Try.func28, Try.ntmps28
    go_wp2_with fail
    refine wp_region_each (fun ix uR => match ix with | 0 => uR = .pointer (some ⟨nb, 0, none⟩) | 1 => uR = .pointer (some ⟨nb, 0, none⟩) | 2 => uR = .pointer (some ⟨nb, 0, none⟩) | 3 => uR = .pointer (some ⟨nb, 0, none⟩) | 4 => uR = .pointer (some ⟨nb, 5, none⟩) | 5 => uR = .slice (some ⟨gO, 0, none⟩) 0 cO | 6 => uR = .slice (some ⟨gO, 0, none⟩) 0 cO | 7 => uR = .pointer (some ⟨nb, 0, none⟩) | 8 => uR = .pointer (some ⟨nb, 0, none⟩) | 9 => uR = .pointer (some ⟨nb, 8, none⟩) | 10 => uR = .slice (some ⟨gU, 0, none⟩) 0 cU | 11 => uR = .slice (some ⟨gU, 0, none⟩) 0 cU | 12 => uR = .pointer (some ⟨nb, 0, none⟩) | 13 => uR = .pointer (some ⟨nb, 5, none⟩) | 15 => uR = .pointer (some ⟨nb, 0, none⟩) | 16 => uR = .pointer (some ⟨nb, 8, none⟩) | _ => True) (Tw w nb P A n ca l (mkF vS S (.slice (some ⟨gO, 0, none⟩) 0 cO) [] vW W vH H (.slice (some ⟨gU, 0, none⟩) 0 cU) []) bv l0 l1 B 1 4 (fRes (.slice (some ⟨gO, 0, none⟩) 0 cO) (.slice (some ⟨gO, 0, none⟩) 0 cO) 0 ([])) (fRes (.slice (some ⟨gU, 0, none⟩) 0 cU) (.slice (some ⟨gU, 0, none⟩) 0 cU) 0 ([])) 90 14 94 91 17 95 (undef) (undef) [(14, 6), (6, 5), (17, 11), (11, 10)]) (by kernel_rfl) (by kernel_rfl) (by kernel_rfl) ?_ ?_ ?_
    · exact Tw.start HN.out rfl rfl
    · refine ⟨?_, ?_, ?_, ?_, ?_, ?_, ?_, ?_, ?_, ?_, ?_, ?_, ?_, ?_, ?_, ?_, ?_, ?_, trivial⟩
      · intro r a w' hf hg hW hr hd K hK
        refine wpOp_of rfl rfl ?_
        have e0 : a.tmps.getD 0 undef = .pointer (some ⟨nb, 0, none⟩) := hf.evalFree (by kernel_rfl)
        go_simp
        exact hK _ _ rfl (hW.upd 0 _ (by decide) (by decide))
      · intro r a w' hf hg hW hr hd K hK
        refine wpOp_of rfl rfl ?_
        have e0 : a.tmps.getD 0 undef = .pointer (some ⟨nb, 0, none⟩) := hf.evalFree (by kernel_rfl)
        go_simp
        exact hK _ _ rfl (hW.upd 1 _ (by decide) (by decide))
      · intro r a w' hf hg hW hr hd K hK
        refine wpOp_of rfl rfl ?_
        have e0 : a.tmps.getD 0 undef = .pointer (some ⟨nb, 0, none⟩) := hf.evalFree (by kernel_rfl)
        go_simp
        exact hK _ _ rfl (hW.upd 2 _ (by decide) (by decide))
      · intro r a w' hf hg hW hr hd K hK
        refine wpOp_of rfl rfl ?_
        refine hf.depE hg hd 2 18 (by kernel_rfl) fun u0 e0 g0 h0 => ?_
        replace g0 : u0 = .pointer (some ⟨nb, 0, none⟩) := g0
        subst g0
        go_simp
        exact hK _ _ rfl (hW.upd 3 _ (by decide) (by decide))
      · intro r a w' hf hg hW hr hd K hK
        refine wpOp_of rfl rfl ?_
        refine hf.depE hg hd 3 19 (by kernel_rfl) fun u0 e0 g0 h0 => ?_
        replace g0 : u0 = .pointer (some ⟨nb, 0, none⟩) := g0
        subst g0
        go_simp
        exact hK _ _ rfl (hW.upd 4 _ (by decide) (by decide))
      · intro r a w' hf hg hW hr hd K hK
        refine wpOp_of rfl rfl ?_
        refine hf.depE hg hd 4 20 (by kernel_rfl) fun u0 e0 g0 h0 => ?_
        replace g0 : u0 = .pointer (some ⟨nb, 5, none⟩) := g0
        subst g0
        have hs0 : r 14 = none := hW.back (x := 14) (y := 6) (by decide) (hW.back (x := 6) (y := 5) (by decide) hr)
        have z0 := hW.cell 5 (v := .slice (some ⟨gO, 0, none⟩) 0 cO) (by rw [hs0]; rfl)
        go_simp
        exact hK _ _ rfl (hW.upd 5 _ (by decide) (by decide))
      · intro r a w' hf hg hW hr hd K hK
        refine wpOp_of rfl rfl ?_
        refine hf.depE hg hd 5 21 (by kernel_rfl) fun u0 e0 g0 h0 => ?_
        replace g0 : u0 = .slice (some ⟨gO, 0, none⟩) 0 cO := g0
        subst g0
        go_simp
        exact hK _ _ rfl (hW.updL 6 _ (by decide) (by intro c hc e; simp only [List.mem_cons, List.not_mem_nil, or_false] at hc; rcases hc with rfl | rfl | rfl | rfl <;> first | (exact absurd e (by decide)) | (rw [h0]; simp)))
      · intro r a w' hf hg hW hr hd K hK
        refine wpOp_of rfl rfl ?_
        have e0 : a.tmps.getD 0 undef = .pointer (some ⟨nb, 0, none⟩) := hf.evalFree (by kernel_rfl)
        go_simp
        exact hK _ _ rfl (hW.upd 7 _ (by decide) (by decide))
      · intro r a w' hf hg hW hr hd K hK
        refine wpOp_of rfl rfl ?_
        refine hf.depE hg hd 7 23 (by kernel_rfl) fun u0 e0 g0 h0 => ?_
        replace g0 : u0 = .pointer (some ⟨nb, 0, none⟩) := g0
        subst g0
        go_simp
        exact hK _ _ rfl (hW.upd 8 _ (by decide) (by decide))
      · intro r a w' hf hg hW hr hd K hK
        refine wpOp_of rfl rfl ?_
        refine hf.depE hg hd 8 24 (by kernel_rfl) fun u0 e0 g0 h0 => ?_
        replace g0 : u0 = .pointer (some ⟨nb, 0, none⟩) := g0
        subst g0
        go_simp
        exact hK _ _ rfl (hW.upd 9 _ (by decide) (by decide))
      · intro r a w' hf hg hW hr hd K hK
        refine wpOp_of rfl rfl ?_
        refine hf.depE hg hd 9 25 (by kernel_rfl) fun u0 e0 g0 h0 => ?_
        replace g0 : u0 = .pointer (some ⟨nb, 8, none⟩) := g0
        subst g0
        have hs0 : r 17 = none := hW.back (x := 17) (y := 11) (by decide) (hW.back (x := 11) (y := 10) (by decide) hr)
        have z0 := hW.cell 8 (v := .slice (some ⟨gU, 0, none⟩) 0 cU) (by rw [hs0]; rfl)
        go_simp
        exact hK _ _ rfl (hW.upd 10 _ (by decide) (by decide))
      · intro r a w' hf hg hW hr hd K hK
        refine wpOp_of rfl rfl ?_
        refine hf.depE hg hd 10 26 (by kernel_rfl) fun u0 e0 g0 h0 => ?_
        replace g0 : u0 = .slice (some ⟨gU, 0, none⟩) 0 cU := g0
        subst g0
        go_simp
        exact hK _ _ rfl (hW.updL 11 _ (by decide) (by intro c hc e; simp only [List.mem_cons, List.not_mem_nil, or_false] at hc; rcases hc with rfl | rfl | rfl | rfl <;> first | (exact absurd e (by decide)) | (rw [h0]; simp)))
      · intro r a w' hf hg hW hr hd K hK
        refine wpOp_of rfl rfl ?_
        refine hf.depE hg hd 0 16 (by kernel_rfl) fun u0 e0 g0 h0 => ?_
        replace g0 : u0 = .pointer (some ⟨nb, 0, none⟩) := g0
        subst g0
        go_simp
        exact hK _ _ rfl (hW.upd 12 _ (by decide) (by decide))
      · intro r a w' hf hg hW hr hd K hK
        refine wpOp_of rfl rfl ?_
        refine hf.depE hg hd 12 28 (by kernel_rfl) fun u0 e0 g0 h0 => ?_
        replace g0 : u0 = .pointer (some ⟨nb, 0, none⟩) := g0
        subst g0
        go_simp
        exact hK _ _ rfl (hW.upd 13 _ (by decide) (by decide))
      · intro r a w' hf hg hW hr hd K hK
        refine wpOp_of rfl rfl ?_
        refine hf.depE hg hd 13 29 (by kernel_rfl) fun u0 e0 g0 h0 => ?_
        replace g0 : u0 = .pointer (some ⟨nb, 5, none⟩) := g0
        subst g0
        refine hf.depE hg hd 6 22 (by kernel_rfl) fun u1 e1 g1 h1 => ?_
        replace g1 : u1 = .slice (some ⟨gO, 0, none⟩) 0 cO := g1
        subst g1
        obtain ⟨old, y0⟩ := hW.old (c := 5) (by decide)
        have y1 := hW.free 5
        go_simp
        exact hK undef _ trivial (hW.putRes (by decide) (by decide) (by intro c hc e; simp only [List.mem_cons, List.not_mem_nil, or_false] at hc; rcases hc with rfl | rfl | rfl | rfl <;> first | (exact absurd e (by decide)) | (rw [h1]; simp)) undef)
      · intro r a w' hf hg hW hr hd K hK
        refine wpOp_of rfl rfl ?_
        refine hf.depE hg hd 1 17 (by kernel_rfl) fun u0 e0 g0 h0 => ?_
        replace g0 : u0 = .pointer (some ⟨nb, 0, none⟩) := g0
        subst g0
        go_simp
        exact hK _ _ rfl (hW.upd 15 _ (by decide) (by decide))
      · intro r a w' hf hg hW hr hd K hK
        refine wpOp_of rfl rfl ?_
        refine hf.depE hg hd 15 30 (by kernel_rfl) fun u0 e0 g0 h0 => ?_
        replace g0 : u0 = .pointer (some ⟨nb, 0, none⟩) := g0
        subst g0
        go_simp
        exact hK _ _ rfl (hW.upd 16 _ (by decide) (by decide))
      · intro r a w' hf hg hW hr hd K hK
        refine wpOp_of rfl rfl ?_
        refine hf.depE hg hd 16 31 (by kernel_rfl) fun u0 e0 g0 h0 => ?_
        replace g0 : u0 = .pointer (some ⟨nb, 8, none⟩) := g0
        subst g0
        refine hf.depE hg hd 11 27 (by kernel_rfl) fun u1 e1 g1 h1 => ?_
        replace g1 : u1 = .slice (some ⟨gU, 0, none⟩) 0 cU := g1
        subst g1
        obtain ⟨old, y0⟩ := hW.old (c := 8) (by decide)
        have y1 := hW.free 8
        go_simp
        exact hK undef _ trivial (((hW.swap (by decide)).putRes (by decide) (by decide) (by intro c hc e; simp only [List.mem_cons, List.not_mem_nil, or_false] at hc; rcases hc with rfl | rfl | rfl | rfl <;> first | (exact absurd e (by decide)) | (rw [h1]; simp)) undef).swap (by decide))
    intro r' w2 hg hW hr'
    simp only [List.length_cons, List.length_nil, Nat.reduceAdd, List.range_succ, List.range_zero, List.nil_append, List.cons_append, List.map_cons, List.map_nil, putAll, Act.put, List.setIfInBounds_toArray, List.set_cons_succ, List.set_cons_zero]
    have n9 := hW.nw
    rw [fRes_fin (hr' 14 (by decide))] at n9
    rw [fRes_fin (hr' 17 (by decide))] at n9
    have k9 := hW.kp
    clear hg hW hr'
    have hN2 : NSt nb P A n ca l S [] W H [] B w2 := ⟨vS, .slice (some ⟨gO, 0, none⟩) 0 cO, vW, vH, .slice (some ⟨gU, 0, none⟩) 0 cU, bv, l0, l1, n9.congr (fun j hj => by match j, hj with | 0, _ => rfl | 1, _ => rfl | 2, _ => rfl | 3, _ => rfl | 4, _ => rfl)⟩
    have HK2 := Lib.hid k9
    have HC := Lib.hid (HST.out w2 k9 hN2)
    simp only [List.length_nil, Int.natCast_zero] at HC
    clear n9 k9 hN2 HN
    go_wp2_with fail
    with_reducible refine HC.out.mono ?_
    rintro e w3 ⟨rfl, hN3, hB3, hk3⟩
    have HK3 := Lib.hid (sn_tr HK2.out hk3)
    clear hk3 HC
    go_wp2_with fail
    refine bodyPost_ret (results_none rfl _ _ _) rfl ?_
    exact ⟨rfl, by rw [HE.out]; exact hN3, by rw [HE.out]; exact hB3, HK3.out⟩
end Go.Proofs.Ytamjhpdgclbfgaa
