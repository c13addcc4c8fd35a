/- Chapter 27: the works that make less of what has been cut away (plain). · Chapter 27: Seen and the reference's Seen: the walks. -/
import Derived.Test.YtjbpdimepckmfaaXRst
import Derived.Test.YtjbpdimepckmfaaXChkW
import Derived.Test.YtjbpdimepckmfaaXRch
import Derived.Test.YtjbpdimepckmfaaXRchAM
import Derived.Test.YtjbpdimepckmfaaXMrgP
import Derived.Test.YtjbpdimepckmfaaXLibMakeM
import Derived.Test.YtjbpdimepckmfaaXLibApR
namespace Go.Proofs.Ytjbpdimepckmfaa
open Go.RowKit Go.Kq

def fPv (ws : List Wk) (v : Wk) : Pv := (stOf ws v.pp).getD (pv0 v.pp)
/-- Whether a work makes a field less. -/
def badF (ws : List Wk) (v : Wk) : Bool := decide ((stepP (fPv ws v) v).get v.fd.toNat < (fPv ws v).get v.fd.toNat) && decide (v.fd < 4)
def fstep (s : List Wk × List Int) (x : Nat × Wk) : List Wk × List Int := if x.2.kd = 3 then s else (s.1 ++ [x.2], s.2 ++ if badF s.1 x.2 then [(x.1 : Int)] else [])
def fauS (xs : List (Nat × Wk)) : List Wk × List Int := xs.foldl fstep ([], [])
theorem fauS_snoc (xs : List (Nat × Wk)) (x : Nat × Wk) : fauS (xs ++ [x]) = fstep (fauS xs) x := by
  unfold fauS
  rw [List.foldl_append]
  rfl
def fauV (l : List Wk) : List Int := if chkL l = 0 then (fauS (cntL l)).2 else []
theorem fauS_len (xs : List (Nat × Wk)) : (fauS xs).1.length ≤ xs.length ∧ (fauS xs).2.length ≤ xs.length := by
  refine snoc_ind (P := fun xs => (fauS xs).1.length ≤ xs.length ∧ (fauS xs).2.length ≤ xs.length) ⟨Nat.le_refl _, Nat.le_refl _⟩ (fun l x ih => ?_) xs
  rw [fauS_snoc, List.length_append, List.length_singleton]
  unfold fstep
  split
  · omega
  · refine ⟨?_, ?_⟩
    · rw [List.length_append, List.length_singleton]
      omega
    · rw [List.length_append]
      split
      · rw [List.length_singleton]
        omega
      · rw [List.length_nil]
        omega
theorem get_set (u : Pv) {k : Nat} (hk : k < 8) (x : Int) : (u.set k x).get k = x := by
  match k, hk with
  | 0, _ => rfl | 1, _ => rfl | 2, _ => rfl | 3, _ => rfl | 4, _ => rfl | 5, _ => rfl | 6, _ => rfl | 7, _ => rfl
theorem plc_fPv {ws : List Wk} {s : List Pv} {v : Wk} {L R : List Pv} {e0 : Pv} (hs : IsSt ws s) (h : PlcR s v.pp L e0 R) : fPv ws v = e0 := by
  have hS : SrtP s := hs.1
  have hhi := h.hi hS
  unfold fPv
  rcases h.is with e | ⟨e, e1⟩
  · have h1 : e0 ∈ s := by rw [e]; simp
    have h2 := (hs.2 e0).1 h1
    rw [h.pp] at h2
    rw [h2]
    rfl
  · cases ho : stOf ws v.pp with
    | none => rw [e1]; rfl
    | some u =>
      have hup := stOf_p ho
      have h1 : u ∈ s := (hs.2 u).2 (by rw [hup]; exact ho)
      rw [e] at h1
      rcases List.mem_append.1 h1 with h1 | h1
      · have := h.lo u h1
        rw [hup, ltP_irr] at this
        cases this
      · have := hhi u h1
        rw [hup, ltP_irr] at this
        cases this
theorem fau_skip {l : List Wk} {i : Nat} {v : Wk} (hv : l[i]? = some v) (h : isC l i v = false ∨ v.kd = 3) : fauS (cntU l (i + 1)) = fauS (cntU l i) := by
  rw [cntU_succ hv]
  cases hc : isC l i v
  · simp
  · rcases h with h | h
    · rw [hc] at h
      cases h
    · rw [if_pos rfl, fauS_snoc]
      unfold fstep
      rw [if_pos h]
theorem fau_do {l : List Wk} {i : Nat} {v : Wk} (hv : l[i]? = some v) (h : isC l i v = true) (h3 : v.kd ≠ 3) : fauS (cntU l (i + 1)) = ((fauS (cntU l i)).1 ++ [v], (fauS (cntU l i)).2 ++ if badF (fauS (cntU l i)).1 v then [(i : Int)] else []) := by
  rw [cntU_succ hv, h, if_pos rfl, fauS_snoc]
  unfold fstep
  rw [if_neg h3]
theorem cntU_few {l : List Wk} (i : Nat) : (fauS (cntU l i)).1.length ≤ i ∧ (fauS (cntU l i)).2.length ≤ i := by
  have h1 := fauS_len (cntU l i)
  have h2 := cntU_len l i
  omega
theorem fauV_few (l : List Wk) : (fauV l).length ≤ 400 := by
  unfold fauV
  split
  · rename_i h
    have h1 := (cntU_few (l := l) l.length).2
    have h2 := (rec_of h).len
    unfold cntL
    omega
  · simp
end Go.Proofs.Ytjbpdimepckmfaa

namespace Go.Proofs.Ytjbpdimepckmfaa
open Go.RowKit Go.Kq

theorem info3 : (Try.prog.info? 3).map (fun i => (i.zero, i.size, i.bytes)) = some (some (.int .i64 0), 1, 8) := by kernel_rfl
/-- How many works each worker has. -/
def seenL (l : List Wk) : List Int := (List.range 20).map fun k : Nat => (many l (k : Int) : Int)
def seenV (l : List Wk) : List Int := if chkL l = 0 then seenL l else []
theorem seenL_len (l : List Wk) : (seenL l).length = 20 := by simp [seenL]
theorem seenL_nil : seenL [] = List.replicate 20 0 := by decide
theorem seenL_at {l : List Wk} {q : Nat} (hq : q < 20) : (seenL l)[q]? = some (many l (q : Int) : Int) := by
  unfold seenL
  rw [List.getElem?_map, List.getElem?_range hq]
  rfl
theorem seenL_step {l : List Wk} {k : Nat} {v : Wk} (hv : l[k]? = some v) {q : Nat} (hw : v.wk = (q : Int)) : seenL (l.take (k + 1)) = (seenL (l.take k)).set q ((many (l.take k) (q : Int) : Int) + 1) := by
  have h : l.take (k + 1) = l.take k ++ [v] := by rw [List.take_add_one, hv]; rfl
  apply List.ext_getElem?
  intro j
  rw [List.getElem?_set]
  by_cases hj : j < 20
  · rw [seenL_at hj, seenL_at hj, h, many_snoc, hw, seenL_len]
    by_cases e : q = j
    · subst e
      simp [hj]
    · rw [if_neg (by omega), if_neg e]
      rfl
  · rw [List.getElem?_eq_none (by rw [seenL_len]; omega), List.getElem?_eq_none (by rw [seenL_len]; omega), seenL_len]
    by_cases e : q = j
    · rw [if_pos e, if_neg (by omega)]
    · rw [if_neg e]
def zeros20 : List Value := List.replicate 20 (.int .i64 0)
theorem make_twenty (w : World) : (Instr.makeSlice 52 (.int .i64 20) (.int .i64 20)).run Try.prog w = .ok (.slice (some ⟨w.heap.size, 0, none⟩) 20 20) (w.alloc (.cells zeros20.toArray 3)) := by
  obtain ⟨i0, hi, hz0, hz1, hz2⟩ := info_parts info3
  exact run_make_flat w (fun x : Value => [x]) (.int .i64 0) 52 3 i0 _ 1 8 20 Try.underlying52 hi hz0 hz1 hz2 (by decide) rfl rfl (by omega) (by omega)
set_option maxHeartbeats 1000000 in
theorem Seen_any (A : Option Addr) (n ca : Nat) (l : List Wk) (w : World) (hx : RdW w A n l) (hf : Fits l) :
    Calls Try.prog 29 #[.slice A n ca] w fun e w' => ∃ v, e = .returned (.tuple #[v, .int .i64 (chkL l)]) ∧ w'.ownsRow w.heap.size 3 1 v (seenV l).length ((seenV l).map (Value.int .i64)) ∧ Kp No w w' := by
  have hc := Check_any A n ca l w hx hf
  have HX := Lib.hid hx
  clear hx hf
  by_cases h1 : chkL l = 0
  rotate_left
  · have q1 : (chkL l != 0) = true := by rw [bne_iff_ne]; exact h1
    have HV := Lib.hid (show seenV l = [] from if_neg h1)
    generalize chkL l = x at hc q1 ⊢
    clear h1
    go_enter Try.func29, Try.ntmps29
    go_wp2_with fail
    with_reducible refine hc.mono ?_
    rintro e w1 ⟨rfl, hk1⟩
    go_wp2_with fail
    refine bodyPost_ret (v := .tuple #[.slice none 0 0, .int .i64 x]) (by simp [results, Try.results29, go_sem]) rfl ⟨.slice none 0 0, rfl, by rw [HV.out]; exact ⟨rfl, .inl ⟨rfl, rfl⟩⟩, hk1⟩
  have HR := Lib.hid (rec_of h1)
  have HL := Lib.hid HX.out.1
  have hn : n ≤ 400 := by rw [← HL.out]; exact HR.out.len
  have HV := Lib.hid (show seenV l = seenL l from if_pos h1)
  rw [h1] at hc ⊢
  have hmk := make_twenty
  clear h1
  go_enter Try.func29, Try.ntmps29
  go_wp2_with fail
  with_reducible refine hc.mono ?_
  rintro e w1 ⟨rfl, hk1⟩
  go_wp2_with fail
  obtain ⟨W1, hW1⟩ : ∃ W1, W1 = w1.alloc (.cells zeros20.toArray 3) := ⟨_, rfl⟩
  have hown : W1.ownsRow w.heap.size 3 1 (.slice (some ⟨w1.heap.size, 0, none⟩) 20 20) 20 ((seenL []).map (Value.int .i64)) := by
    rw [hW1, seenL_nil, List.map_replicate]
    exact own_made w1 rfl hk1.size (by unfold maxLen; omega)
  have hk2 : Kp No w W1 := by rw [hW1]; exact hk1.tr (Kp.alloc _ _ _)
  rw [← hW1]
  have hgl : w1.heap.size < W1.heap.size := by rw [hW1]; simp
  obtain ⟨G, hG⟩ : ∃ G, G = w1.heap.size := ⟨_, rfl⟩
  rw [← hG] at hown hgl ⊢
  have hgw : w.heap.size ≤ G := by rw [hG]; exact hk1.size
  have HO := Lib.hid hown
  have HK2 := Lib.hid hk2
  clear hW1 hown hmk hG hk2
  go_loopw [16] (fun vi wr => ∃ k : Nat, k ≤ n ∧ vi = .int .i64 k ∧ wr.ownsRow w.heap.size 3 1 (.slice (some ⟨G, 0, none⟩) 20 20) 20 ((seenL (l.take k)).map (Value.int .i64)) ∧ G < wr.heap.size ∧ Kp No w wr) (fun vi _ => n - (intOf vi).toNat)
  case atStart => exact ⟨0, by omega, rfl, HO.out, hgl, HK2.out⟩
  case round =>
    obtain ⟨k, hk, rfl, how, hgr, hkp⟩ := hrel
    have HOW := Lib.hid how
    clear how
    by_cases hlt : k < n
    · obtain ⟨v, hv⟩ : ∃ v, l[k]? = some v := ⟨_, List.getElem?_eq_getElem (by rw [HL.out]; omega)⟩
      obtain ⟨b, o, rfl, _, c0, c1, c2, c3, c4, c5, c6, c7, c8, c9, c10⟩ := RdW.at_ (HX.out.no hkp) hv
      obtain ⟨h0, h20, _⟩ := HR.out.fits k v hv
      obtain ⟨q, hq⟩ : ∃ q : Nat, v.wk = (q : Int) := ⟨v.wk.toNat, by omega⟩
      have hq20 : q < 20 := by omega
      have HS := Lib.hid (seenL_step hv hq)
      have hcx : wr.cell? ⟨G, q, none⟩ = some (.int .i64 (many (l.take k) (q : Int) : Int)) := own_cell HOW.out (by rw [List.getElem?_map, seenL_at hq20]; rfl)
      have hfx := own_free HOW.out q
      have hmb : many (l.take k) (q : Int) ≤ 1000 := by have := many_le (l.take k) (q : Int); rw [List.length_take] at this; omega
      rw [hq] at c0
      generalize many (l.take k) (q : Int) = m at HS hcx hmb
      have hkn : (k : Int) < (n : Int) := by omega
      have hqi : (q : Int) < 20 := by omega
      clear hv hq h0 h20
      go_wp2
      go_roundw
      case rel =>
        refine ⟨k + 1, by omega, by go_num, ?_, by simp; omega, ?_⟩
        · rw [HS.out, List.map_set]
          exact (own_set HOW.out q _).alloc _
        · exact (hkp.trans (kp_setOne _ _ _ _) fun j hj e => by have e : j = G := e; omega).tr (Kp.alloc _ _ _)
      case measure => simp [intOf]; omega
    · obtain rfl : k = n := by omega
      rw [List.take_of_length_le (by rw [HL.out]; omega)] at HOW
      go_wp2
      refine bodyPost_ret (v := .tuple #[.slice (some ⟨G, 0, none⟩) 20 20, .int .i64 0]) (by simp [results, Try.results29, go_sem]) rfl ⟨_, rfl, by rw [HV.out, seenL_len]; exact HOW.out, hkp⟩
set_option maxHeartbeats 1000000 in
theorem rSeen_any (A : Option Addr) (n ca : Nat) (l : List Wk) (w : World) (hx : RdW w A n l) (hf : Fits l) (hca : n ≤ ca) :
    Calls Try.prog 30 #[.slice A n ca] w fun e w' => ∃ v, e = .returned (.tuple #[v, .int .i64 (chkL l)]) ∧ w'.ownsRow w.heap.size 3 1 v (seenV l).length ((seenV l).map (Value.int .i64)) ∧ Kp No w w' := by
  have hc := rCheck_any A n ca l w hx hf hca
  have HX := Lib.hid hx
  obtain ⟨i0, hi0, hz0, hz1, hz2⟩ := info_parts info3
  clear hx hf
  by_cases h1 : chkL l = 0
  rotate_left
  · have q1 : (chkL l != 0) = true := by rw [bne_iff_ne]; exact h1
    have HV := Lib.hid (show seenV l = [] from if_neg h1)
    generalize chkL l = x at hc q1 ⊢
    clear h1
    go_enter Try.func30, Try.ntmps30
    go_wp2_with fail
    with_reducible refine hc.mono ?_
    rintro e w1 ⟨rfl, hk1⟩
    go_wp2_with fail
    refine bodyPost_ret (v := .tuple #[.slice none 0 0, .int .i64 x]) (by simp [results, Try.results30, go_sem]) rfl ⟨.slice none 0 0, rfl, by rw [HV.out]; exact ⟨rfl, .inl ⟨rfl, rfl⟩⟩, hk1⟩
  have HR := Lib.hid (rec_of h1)
  have HL := Lib.hid HX.out.1
  have hn : n ≤ 400 := by rw [← HL.out]; exact HR.out.len
  have HV := Lib.hid (show seenV l = seenL l from if_pos h1)
  rw [h1] at hc ⊢
  clear h1
  go_enter Try.func30, Try.ntmps30
  go_wp2_with fail
  with_reducible refine hc.mono ?_
  rintro e w1 ⟨rfl, hk1⟩
  go_wp2_with fail
  go_loopw [5, 6] (fun vo vi wr => ∃ k : Nat, k ≤ 20 ∧ vi = .int .i64 k ∧ wr.ownsRow w.heap.size 3 1 vo k (((List.range k).map fun j : Nat => (many l (j : Int) : Int)).map (Value.int .i64)) ∧ Kp No w wr) (fun _ vi _ => 20 - (intOf vi).toNat)
  case atStart => exact ⟨0, by omega, rfl, ⟨rfl, .inl ⟨rfl, rfl⟩⟩, hk1⟩
  case round =>
    obtain ⟨k, hk, rfl, how, hkp⟩ := hrel
    have HOW := Lib.hid how
    obtain ⟨al, cl, rfl, _, _, _⟩ := own_form how
    clear how
    by_cases hlt : k < 20
    · have hlt' : decide ((k : Int) < 20) = true := by rw [decide_eq_true_eq]; omega
      have hmy := rmany_any A n ca l (k : Int) wr (HX.out.no hkp) (by omega)
      have HRS := Lib.hid (show ((List.range (k + 1)).map fun j : Nat => (many l (j : Int) : Int)) = ((List.range k).map fun j : Nat => (many l (j : Int) : Int)) ++ [(many l (k : Int) : Int)] by rw [List.range_succ, List.map_append]; rfl)
      generalize many l (k : Int) = m at hmy HRS
      go_wp2_with fail
      with_reducible refine hmy.mono ?_
      rintro e w' ⟨rfl, rfl⟩
      go_wp2_with (at_builtin; refine stop_in ?_)
      refine stop_out ?_
      refine wpL_append_any rfl _ _ 52 rfl w.heap.size 3 i0 (.int .i64 0) 1 8 Try.underlying52 hi0 hz0 hz1 hz2 rfl (by decide) (.slice al k cl) k _ rfl (HOW.out.alloc (.cells #[.int .i64 m] 3)) (some ⟨w'.heap.size, 0, none⟩) 1 1 [.int .i64 m] rfl rfl (fun h => (by cases h)) (fun ad had => by cases had; exact cell_one_new w' _ _) (ints_oneCell .i64 [(m : Int)]) (by unfold maxLen; omega) (by omega) (by have := hkp.size; simp; omega) ?_
      intro v' w7 hown' hgrow hat
      have hk7 : Kp No w w7 := kp_app hkp HOW.out (Nat.le_refl _) hgrow
      obtain ⟨a7, c7, rfl, _, _, _⟩ := own_form hown'
      have HO7 := Lib.hid hown'
      clear hown' hgrow hat hmy
      go_wp2_with fail
      go_roundw
      case rel => exact ⟨k + 1, by omega, by go_num, by rw [HRS.out, List.map_append]; exact HO7.out, hk7⟩
      case measure => simp [intOf]; omega
    · obtain rfl : k = 20 := by omega
      go_wp2_with fail
      refine bodyPost_ret (v := .tuple #[.slice al 20 cl, .int .i64 0]) (by simp [results, Try.results30, go_sem]) rfl ⟨_, rfl, by rw [HV.out, seenL_len]; exact HOW.out, hkp⟩
end Go.Proofs.Ytjbpdimepckmfaa
