/- Chapter 27: Since and the reference's Since: the walks. · Chapter 27: a pipe's place in a list of what has been done (plain). -/
import Derived.Test.YtjbpdimepckmfaaXDlf
import Derived.Test.YtjbpdimepckmfaaXNxtPM
import Derived.Test.YtjbpdimepckmfaaXSmlM
namespace Go.Proofs.Ytjbpdimepckmfaa
open Go.RowKit Go.Kq

/-- What Since says. -/
def sinceE (l : List Wk) (seen : List Int) : Int := if chkL l ≠ 0 then chkL l else if seen.length ≠ 20 ∨ seen.any badN = true then 2 else 0
def sinceL (l : List Wk) (seen : List Int) : List Wk := keepL (seenP seen) l
def sinceV (l : List Wk) (seen : List Int) : List Wk := if sinceE l seen = 0 then sinceL l seen else []
theorem own_nilS {w : World} {base : Nat} : w.ownsRow base 41 11 (.slice none 0 0) ([] : List Wk).length (([] : List Wk).flatMap Wk.cells) := ⟨rfl, .inl ⟨rfl, rfl⟩⟩
set_option maxHeartbeats 2000000 in
theorem Since_any (A : Option Addr) (n ca : Nat) (l : List Wk) (AS : Option Addr) (m cs : Nat) (seen : List Int) (w : World) (hx : RdW w A n l) (hf : Fits l) (hA : A = none → n = 0 ∧ ca = 0) (hs : RdI .i64 w AS m seen) (hm : m ≤ maxLen) :
    Calls Try.prog 31 #[.slice A n ca, .slice AS m cs] w fun e w' => ∃ v, e = .returned (.tuple #[v, .int .i64 (sinceE l seen)]) ∧ w'.ownsRow w.heap.size 41 11 v (sinceV l seen).length ((sinceV l seen).flatMap Wk.cells) ∧ Kp No w w' := by
  unfold maxLen at hm
  have hk0 : Kp No w (w.alloc (.cells #[.slice AS m cs] 52)) := Kp.alloc _ _ _
  have hb0 : (w.alloc (.cells #[.slice AS m cs] 52)).heap[w.heap.size]? = some (.cells #[.slice AS m cs] 52 (0, 0)) := heap_alloc_new _ _
  have HC := Lib.hid (fun w' (k : Kp No w w') => Check_any A n ca l w' (hx.no k) hf)
  have HX := Lib.hid hx
  have HS := Lib.hid hs
  have HA := Lib.hid hA
  have HML := Lib.hid hs.1
  clear hx hf hs hA
  by_cases h1 : chkL l = 0
  rotate_left
  · have q1 : (chkL l != 0) = true := by rw [bne_iff_ne]; exact h1
    have HE := Lib.hid (show sinceE l seen = chkL l from if_pos h1)
    have HV := Lib.hid (show sinceV l seen = [] by unfold sinceV; rw [HE.out, if_neg h1])
    rw [HE.out]
    generalize chkL l = x at HC q1 ⊢
    clear h1 HE
    go_enter Try.func31, Try.ntmps31
    go_wp2_with fail
    generalize w.alloc (.cells #[.slice AS m cs] 52) = w0 at hk0 hb0 ⊢
    with_reducible refine (HC.out w0 hk0).mono ?_
    rintro e w1 ⟨rfl, hk1⟩
    go_wp2_with fail
    refine bodyPost_ret (v := .tuple #[.slice none 0 0, .int .i64 x]) (by simp [results, Try.results31, go_sem]) rfl ⟨.slice none 0 0, rfl, by rw [HV.out]; exact own_nilS, hk0.tr hk1⟩
  have HR := Lib.hid (rec_of h1)
  have HL := Lib.hid HX.out.1
  have hn : n ≤ 400 := by rw [← HL.out]; exact HR.out.len
  have HE0 := Lib.hid (show sinceE l seen = if m ≠ 20 ∨ seen.any badN = true then 2 else 0 by unfold sinceE; rw [if_neg (by rw [h1]; simp), HML.out])
  rw [h1] at HC
  clear h1
  by_cases hm20 : m = 20
  rotate_left
  · have q1 : ((m : Int) != 20) = true := by rw [bne_iff_ne]; omega
    have HE := Lib.hid (show sinceE l seen = 2 by rw [HE0.out, if_pos (.inl hm20)])
    have HV := Lib.hid (show sinceV l seen = [] by unfold sinceV; rw [HE.out]; rfl)
    rw [HE.out]
    clear HE0 HE hm20
    go_enter Try.func31, Try.ntmps31
    go_wp2_with fail
    generalize w.alloc (.cells #[.slice AS m cs] 52) = w0 at hk0 hb0 ⊢
    with_reducible refine (HC.out w0 hk0).mono ?_
    rintro e w1 ⟨rfl, hk1⟩
    have hb1 := hk1.heap hb0 id
    have cb : w1.cell? ⟨w.heap.size, 0, none⟩ = some (.slice AS m cs) := by rw [cell_of_row _ _ _ _ _ _ hb1]; rfl
    clear hb0 hb1
    go_wp2_with fail
    refine bodyPost_ret (v := .tuple #[.slice none 0 0, .int .i64 2]) (by simp [results, Try.results31, go_sem]) rfl ⟨.slice none 0 0, rfl, by rw [HV.out]; exact own_nilS, hk0.tr hk1⟩
  subst hm20
  have HCF := Lib.hid (fun w' (k : Kp No w w') => contains_n AS 20 cs seen w' (HS.out.no k) (by omega))
  cases hbad : seen.any badN with
  | true =>
    have HE := Lib.hid (show sinceE l seen = 2 by rw [HE0.out, if_pos (.inr hbad)])
    have HV := Lib.hid (show sinceV l seen = [] by unfold sinceV; rw [HE.out]; rfl)
    rw [HE.out]
    rw [hbad] at HCF
    clear HE0 HE hbad hm
    go_enter Try.func31, Try.ntmps31
    go_wp2_with fail
    generalize w.alloc (.cells #[.slice AS 20 cs] 52) = w0 at hk0 hb0 ⊢
    with_reducible refine (HC.out w0 hk0).mono ?_
    rintro e w1 ⟨rfl, hk1⟩
    have hb1 := hk1.heap hb0 id
    have cb : w1.cell? ⟨w.heap.size, 0, none⟩ = some (.slice AS 20 cs) := by rw [cell_of_row _ _ _ _ _ _ hb1]; rfl
    clear hb0 hb1
    go_wp2_with fail
    with_reducible refine (HCF.out w1 (hk0.tr hk1)).mono ?_
    rintro e w2 ⟨rfl, rfl⟩
    go_wp2_with fail
    refine bodyPost_ret (v := .tuple #[.slice none 0 0, .int .i64 2]) (by simp [results, Try.results31, go_sem]) rfl ⟨.slice none 0 0, rfl, by rw [HV.out]; exact own_nilS, hk0.tr hk1⟩
  | false =>
    have HE := Lib.hid (show sinceE l seen = 0 by rw [HE0.out, if_neg (by rw [hbad]; simp)])
    have HV := Lib.hid (show sinceV l seen = keepL (seenP seen) l by unfold sinceV; rw [HE.out]; rfl)
    rw [HE.out]
    rw [hbad] at HCF
    clear HE0 HE hbad hm
    go_enter Try.func31, Try.ntmps31
    go_wp2_with fail
    generalize w.alloc (.cells #[.slice AS 20 cs] 52) = w0 at hk0 hb0 ⊢
    with_reducible refine (HC.out w0 hk0).mono ?_
    rintro e w1 ⟨rfl, hk1⟩
    have hb1 := hk1.heap hb0 id
    have cb : w1.cell? ⟨w.heap.size, 0, none⟩ = some (.slice AS 20 cs) := by rw [cell_of_row _ _ _ _ _ _ hb1]; rfl
    have hk01 := hk0.tr hk1
    have HB1 := Lib.hid hb1
    have hbl : w.heap.size < w1.heap.size := (Array.getElem?_eq_some_iff.1 hb1).1
    clear hb0 hb1 hk1 hk0
    go_wp2_with fail
    with_reducible refine (HCF.out w1 hk01).mono ?_
    rintro e w2 ⟨rfl, rfl⟩
    go_wp2_with fail
    with_reducible refine (clone_any A n ca l w2 (HX.out.no hk01) (by omega) HA.out).mono ?_
    rintro e w3 ⟨v3, rfl, ho3, hk3⟩
    have HO3 := Lib.hid ho3
    have hd := delete_w w.heap.size w2.heap.size v3 n l (seenP seen) w3 ho3 (by omega) (fun v hv w' k => by
      have hap : ∀ q, v3.ownBlock = some q → w2.heap.size ≤ q := fun q hq => (own_ge ho3 hq).1
      have hc3 : w'.cell? ⟨w.heap.size, 0, none⟩ = some (.slice AS 20 cs) := by
        have hb3 := hk3.heap HB1.out id
        have hb4 := k.heap hb3 (fun e => by have := hap _ e; omega)
        rw [cell_of_row _ _ _ _ _ _ hb4]; rfl
      have hs4 : RdI .i64 w' AS 20 seen := ((HS.out.no hk01).no hk3).kp k (fun b o hA hb e => by
        subst hA
        have h20 := HML.out
        obtain ⟨b2, o2, h5, h6, _⟩ := (HS.out.no hk01).2 0 _ (List.getElem?_eq_getElem (by omega : 0 < seen.length))
        cases h5
        have := hap _ e
        omega)
      obtain ⟨i, hi⟩ := List.getElem?_of_mem hv
      obtain ⟨h0, h20, _⟩ := HR.out.fits i v hi
      exact seenP_any w.heap.size AS cs seen v w' hc3 hs4 h0 h20)
    have hkd : ∀ w4, Kp (fun k => v3.ownBlock = some k) w3 w4 → Kp No w w4 := fun w4 k => (hk01.tr hk3).trans k fun j hj e => by have := (own_ge ho3 e).1; have := hk01.size; omega
    have HKD := Lib.hid hkd
    clear ho3 hkd hk3 cb
    go_wp2_with fail
    with_reducible refine hd.mono ?_
    rintro e w4 ⟨v4, rfl, ho4, hk4⟩
    obtain ⟨a4, c4, rfl, _, _, _⟩ := own_form ho4
    have HO4 := Lib.hid ho4
    clear hd ho4
    go_wp2_with fail
    refine bodyPost_ret (v := .tuple #[.slice a4 (keepL (seenP seen) l).length c4, .int .i64 0]) (by simp [results, Try.results31, go_sem]) rfl ⟨_, rfl, by rw [HV.out]; exact own_mono HO4.out hk01.size, HKD.out _ hk4⟩
end Go.Proofs.Ytjbpdimepckmfaa

namespace Go.Proofs.Ytjbpdimepckmfaa
open Go.RowKit Go.Kq

def SrtP (s : List Pv) : Prop := s.Pairwise fun a b => ltP a.p b.p = true
/-- The list with the pipe in it: L ahead of it, R behind it. -/
structure PlcR (s : List Pv) (p : Pp) (L : List Pv) (e0 : Pv) (R : List Pv) : Prop where
  is : s = L ++ e0 :: R ∨ (s = L ++ R ∧ e0 = pv0 p)
  pp : e0.p = p
  lo : ∀ u ∈ L, ltP u.p p = true
  hi : SrtP s → ∀ u ∈ R, ltP p u.p = true
theorem plc_found {s : List Pv} {p : Pp} {i : Nat} {u : Pv} (hu : s[i]? = some u) (hp : u.p = p) (hlo : ∀ v ∈ s.take i, ltP v.p p = true) : PlcR s p (s.take i) u (s.drop (i + 1)) ∧ s.take i ++ u :: s.drop (i + 1) = s := by
  obtain ⟨hi, he⟩ := List.getElem?_eq_some_iff.1 hu
  have h1 : s.take i ++ u :: s.drop (i + 1) = s := by rw [← he, List.getElem_cons_drop, List.take_append_drop]
  refine ⟨⟨.inl h1.symm, hp, hlo, fun hs v hv => ?_⟩, h1⟩
  rw [← h1] at hs
  unfold SrtP at hs
  rw [List.pairwise_append, List.pairwise_cons] at hs
  rw [← hp]
  exact hs.2.1.1 v hv
theorem plc_new {s : List Pv} {p : Pp} {i : Nat} (hlo : ∀ v ∈ s.take i, ltP v.p p = true) (hge : ∀ u, s[i]? = some u → ltP u.p p = false ∧ u.p ≠ p) : PlcR s p (s.take i) (pv0 p) (s.drop i) := by
  refine ⟨.inr ⟨(List.take_append_drop i s).symm, rfl⟩, rfl, hlo, fun hs v hv => ?_⟩
  obtain ⟨j, hj⟩ := List.getElem?_of_mem hv
  rw [List.getElem?_drop] at hj
  have hjl := (List.getElem?_eq_some_iff.1 hj).1
  obtain ⟨u, hu⟩ : ∃ u, s[i]? = some u := ⟨_, List.getElem?_eq_getElem (by omega)⟩
  obtain ⟨h1, h2⟩ := hge u hu
  have h3 : ltP p u.p = true := by
    cases h : ltP p u.p with
    | true => rfl
    | false => exact absurd (ltP_total h1 h) h2
  rcases Nat.eq_zero_or_pos j with rfl | hj0
  · rw [Nat.add_zero, hu] at hj
    cases hj
    exact h3
  · have h4 : ltP u.p v.p = true := by
      unfold SrtP at hs
      rw [List.pairwise_iff_getElem] at hs
      obtain ⟨hi2, e1⟩ := List.getElem?_eq_some_iff.1 hu
      obtain ⟨hj2, e2⟩ := List.getElem?_eq_some_iff.1 hj
      have := hs i (i + j) hi2 hj2 (by omega)
      rwa [e1, e2] at this
    exact ltP_trans h3 h4
/-- A work is done to its pipe, in its place. -/
theorem plc_step {ws : List Wk} {s : List Pv} {x : Wk} {p : Pp} {L R : List Pv} {e0 : Pv} (hs : IsSt ws s) (h : PlcR s p L e0 R) (hx : x.pp = p) : IsSt (ws ++ [x]) (L ++ stepP e0 x :: R) := by
  have hS : SrtP s := hs.1
  have hhi := h.hi hS
  have hp : (stepP e0 x).p = p := by rw [stepP_p, h.pp]
  have hmem : ∀ v, v.p ≠ p → (v ∈ s ↔ v ∈ L ∨ v ∈ R) := fun v hv => by
    rcases h.is with e | ⟨e, _⟩
    · rw [e, List.mem_append, List.mem_cons]
      constructor
      · rintro (h1 | h1 | h1)
        · exact .inl h1
        · exact absurd (by rw [h1, h.pp]) hv
        · exact .inr h1
      · rintro (h1 | h1)
        · exact .inl h1
        · exact .inr (.inr h1)
    · rw [e, List.mem_append]
  have he0 : (stOf ws p).getD (pv0 p) = e0 := by
    rcases h.is with e | ⟨e, e1⟩
    · have : e0 ∈ s := by rw [e]; simp
      have := (hs.2 e0).1 this
      rw [h.pp] at this
      rw [this]
      rfl
    · cases ho : stOf ws p with
      | none => rw [e1]; rfl
      | some u =>
        have hup := stOf_p ho
        have : u ∈ s := (hs.2 u).2 (by rw [hup]; exact ho)
        rw [e] at this
        rcases List.mem_append.1 this with h1 | h1
        · have := h.lo u h1
          rw [hup, ltP_irr] at this
          cases this
        · have := hhi u h1
          rw [hup, ltP_irr] at this
          cases this
  have hLp : ∀ u ∈ L, u.p ≠ p := fun u hu e => by have := h.lo u hu; rw [e, ltP_irr] at this; cases this
  have hRp : ∀ u ∈ R, u.p ≠ p := fun u hu e => by have := hhi u hu; rw [e, ltP_irr] at this; cases this
  refine ⟨?_, fun v => ?_⟩
  · have hLR : (L ++ R).Pairwise fun a b => ltP a.p b.p = true := by
      rcases h.is with e | ⟨e, _⟩
      · rw [e] at hS
        exact List.Pairwise.sublist (List.Sublist.append_left (List.sublist_cons_self _ _) _) hS
      · rw [← e]
        exact hS
    rw [List.pairwise_append] at hLR ⊢
    refine ⟨hLR.1, List.pairwise_cons.2 ⟨fun b hb => by rw [hp]; exact hhi b hb, hLR.2.1⟩, fun a ha b hb => ?_⟩
    rcases List.mem_cons.1 hb with rfl | hb
    · rw [hp]
      exact h.lo a ha
    · exact hLR.2.2 a ha b hb
  · rw [stOf_snoc, List.mem_append, List.mem_cons]
    by_cases hv : v.p = p
    · rw [hv, if_pos hx, he0]
      constructor
      · rintro (h1 | h1 | h1)
        · exact absurd hv (hLp v h1)
        · rw [h1]
        · exact absurd hv (hRp v h1)
      · intro h1
        injection h1 with h1
        exact .inr (.inl h1.symm)
    · rw [if_neg (by rw [hx]; exact fun e => hv e.symm), ← hs.2 v, hmem v hv]
      constructor
      · rintro (h1 | h1 | h1)
        · exact .inl h1
        · exact absurd (by rw [h1]; exact hp) hv
        · exact .inr h1
      · rintro (h1 | h1)
        · exact .inl h1
        · exact .inr (.inr h1)
end Go.Proofs.Ytjbpdimepckmfaa
