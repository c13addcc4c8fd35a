/- Chapter 15: the law's far. Printed by gen_rdf.py. · Chapter 15: law Least: what both answers say: plain. · Chapter 15: the calls at the example of the document. · Chapter 15: shown. Printed by gen_shn.py. -/
import Derived.Test.YtpkbpeeelpgmcaaGreatXLibYetM
import Derived.Test.YtpkbpeeelpgmcaaGreatXRsB
import Derived.Test.YtpkbpeeelpgmcaaGreatXLprQM
import Derived.Test.YtpkbpeeelpgmcaaGreatXLea
import Derived.Test.YtpkbpeeelpgmcaaGreatXSaf
namespace Go.Proofs.YtpkbpeeelpgmcaaGreat
open Go.RowKit Go.Kq Go.Flow

def FarR (w : World) (e : Ending) (w' : World) : Prop := ∃ b, e = .returned (.bool b) ∧ Kp No w w'
/-- The same with what is known where it is not far. -/
def farB (zn : Int) (zt zc n : Nat) (l : List Sto) : Bool := decide (100 < zt) || decide (100 < zc) || decide (20 < n) || (decide (7 < zn) && decide (zn ≤ 24)) || (decide (20 < zt) && decide (zt ≤ 60)) || l.any fun s => decide (20 < s.tk.length)
def FarZ (zn : Int) (zt zc n : Nat) (l : List Sto) (w : World) (e : Ending) (w' : World) : Prop := ∃ b, e = .returned (.bool b) ∧ b = farB zn zt zc n l ∧ Kp No w w'
theorem farB_no {zn : Int} {zt zc n : Nat} {l : List Sto} (h : farB zn zt zc n l = false) : ¬ (7 < zn ∧ zn ≤ 24) ∧ ¬ (20 < zt ∧ zt ≤ 60) := by
  unfold farB at h
  simp only [Bool.or_eq_false_iff, Bool.and_eq_false_iff, decide_eq_false_iff_not] at h
  omega
set_option maxHeartbeats 8000000 in
set_option maxRecDepth 100000 in
theorem far_z (Z : Nz) (l : List Sto) (vs : List Sv) (A B C : Option Addr) (ca cb n cc : Nat) (w : World) (hS : RdSt w C n vs l) :
    Calls Tryz.prog 5 #[windV Z A B C ca cb n cc] w fun e w' => FarZ Z.n Z.tr.length Z.ch.length n l w e w' := by
  unfold windV
  generalize Z.n = zn
  generalize Z.tr.length = zt
  generalize Z.ch.length = zc
  obtain ⟨w0, hw0⟩ : ∃ w0, (w.alloc (.cells #[.int .i64 zn, .slice A zt ca, .slice B zc cb, .slice C n cc] 28)) = w0 := ⟨_, rfl⟩
  have hk0 : Kp No w w0 := by rw [← hw0]; exact Kp.alloc _ _ _
  have HBX := Lib.hid (show w0.heap[w.heap.size]? = some (.cells #[.int .i64 zn, .slice A zt ca, .slice B zc cb, .slice C n cc] 28 (0, 0)) by rw [← hw0]; exact heap_alloc_new w _)
  have HK := Lib.hid hk0
  have HS := Lib.hid (hS.no hk0)
  have HL := Lib.hid hS.len
  clear hk0 hS
  obtain ⟨p0, p1, p2, p3⟩ := four_at HBX.out
  go_enter Tryz.func5, Tryz.ntmps5
  by_cases h1 : 100 < zt
  · have HFT := Lib.hid (show true = farB zn zt zc n l by unfold farB; simp [h1])
    go_wp2_with fail
    go_ret
    exact ⟨true, rfl, HFT.out, by first | exact HK.out | exact Kp.alloc _ _ _⟩
  by_cases h2 : 100 < zc
  · have HFT := Lib.hid (show true = farB zn zt zc n l by unfold farB; simp [h2])
    go_wp2_with fail
    go_ret
    exact ⟨true, rfl, HFT.out, by first | exact HK.out | exact Kp.alloc _ _ _⟩
  by_cases h3 : 20 < n
  · have HFT := Lib.hid (show true = farB zn zt zc n l by unfold farB; simp [h3])
    go_wp2_with fail
    go_ret
    exact ⟨true, rfl, HFT.out, by first | exact HK.out | exact Kp.alloc _ _ _⟩
  by_cases h4 : 7 < zn ∧ zn ≤ 24
  · obtain ⟨h4, h4'⟩ := h4
    have HFT := Lib.hid (show true = farB zn zt zc n l by unfold farB; simp [h4, h4'])
    go_wp2_with fail
    go_ret
    exact ⟨true, rfl, HFT.out, by first | exact HK.out | exact Kp.alloc _ _ _⟩
  by_cases h5 : 20 < zt ∧ zt ≤ 60
  · obtain ⟨h5, h5'⟩ := h5
    have HFT := Lib.hid (show true = farB zn zt zc n l by unfold farB; simp [h5, h5'])
    by_cases h6 : 7 < zn
    · have h6' : ¬ zn ≤ 24 := fun h => h4 ⟨h6, h⟩
      clear h4
      go_wp2_with fail
      go_ret
      exact ⟨true, rfl, HFT.out, by first | exact HK.out | exact Kp.alloc _ _ _⟩
    · clear h4
      go_wp2_with fail
      go_ret
      exact ⟨true, rfl, HFT.out, by first | exact HK.out | exact Kp.alloc _ _ _⟩
  have key : (¬ 7 < zn ∨ (7 < zn ∧ ¬ zn ≤ 24)) ∧ (¬ 20 < zt ∨ (20 < zt ∧ ¬ zt ≤ 60)) := by omega
  have HFZ := Lib.hid (show (l.any fun s => decide (20 < s.tk.length)) = farB zn zt zc n l by
    unfold farB
    rw [decide_eq_false h1, decide_eq_false h2, decide_eq_false h3]
    have e4 : (decide (7 < zn) && decide (zn ≤ 24)) = false := by simp only [Bool.and_eq_false_iff, decide_eq_false_iff_not]; omega
    have e5 : (decide (20 < zt) && decide (zt ≤ 60)) = false := by simp only [Bool.and_eq_false_iff, decide_eq_false_iff_not]; omega
    rw [e4, e5]
    simp)
  clear h4 h5
  obtain ⟨k1, k2⟩ := key
  rcases k1 with k1 | ⟨k1, k1'⟩ <;> rcases k2 with k2 | ⟨k2, k2'⟩
  all_goals
    go_wp2_with fail
    go_loopw [3] (fun i wr => ∃ k : Nat, k ≤ n ∧ i = .int .i64 (k : Nat) ∧ (l.take k).any (fun s => decide (20 < s.tk.length)) = false ∧ Kp No w0 wr) (fun i _ => n - (intOf i).toNat)
    case atStart => exact ⟨0, by omega, rfl, rfl, Kp.refl _ _⟩
    case round =>
      obtain ⟨k, hk, rfl, hno, hkp⟩ := hrel
      have HNO := Lib.hid hno
      clear hno
      have HKP := Lib.hid hkp
      have BW := Lib.hid (hkp.heap HBX.out id)
      clear p0 p1 p2 p3
      obtain ⟨p0, p1, p2, p3⟩ := four_at BW.out
      by_cases hlt : k < n
      · obtain ⟨s, hs⟩ : ∃ s, l[k]? = some s := ⟨_, List.getElem?_eq_getElem (by rw [HL.out]; exact hlt)⟩
        obtain ⟨v, bC, oC, hv, rfl, hbC, y0, y1, is⟩ := (HS.out.no hkp).at_ hs
        obtain ⟨vch, TA, m, tc⟩ := v
        dsimp only at y0 y1
        have HTK := Lib.hid (show s.tk.length = m from is.2.1.symm)
        have HSL := Lib.hid hs
        clear hs hv is hkp
        by_cases hm : 20 < m
        · go_wp2_with fail
          go_ret
          exact ⟨true, rfl, by
            rw [← HFZ.out]
            symm
            rw [List.any_eq_true]
            exact ⟨s, List.mem_of_getElem? HSL.out, by rw [HTK.out]; exact decide_eq_true hm⟩, HK.out.tr HKP.out⟩
        · go_wp2_with fail
          go_roundw
          case rel => exact ⟨k + 1, by omega, by go_num, by rw [List.take_add_one, HSL.out, List.any_append, HNO.out]; simp [HTK.out]; omega, HKP.out⟩
          case measure => simp [intOf]; omega
      · obtain rfl : k = n := by omega
        clear hkp
        go_wp2_with fail
        go_ret
        exact ⟨false, rfl, by
          rw [← HFZ.out, ← HNO.out, List.take_of_length_le (by rw [HL.out]; exact Nat.le_refl _)], HK.out.tr HKP.out⟩
theorem far_any (Z : Nz) (l : List Sto) (vs : List Sv) (A B C : Option Addr) (ca cb n cc : Nat) (w : World) (hS : RdSt w C n vs l) :
    Calls Tryz.prog 5 #[windV Z A B C ca cb n cc] w fun e w' => FarR w e w' :=
  (far_z Z l vs A B C ca cb n cc w hS).mono fun _ _ ⟨b, h1, _, h3⟩ => ⟨b, h1, h3⟩
end Go.Proofs.YtpkbpeeelpgmcaaGreat

namespace Go.Proofs.YtpkbpeeelpgmcaaGreat
open Go.RowKit Go.Kq Go.Flow

/-- What a search gives: a pair of a slice of combinations and an error. -/
def PrR (base : Nat) (ls : List Cb) (c : Int) (w : World) (u : Value) : Prop := ∃ A n cap, u = .tuple #[.slice A n cap, .int .i64 c] ∧ ∃ L : List Cv, L.map Cv.c = ls ∧ Rd Cv.cells 2 w A n L ∧ n ≤ 1000 ∧ ∀ x ∈ L, CvO w base x
theorem PrR.no {base : Nat} {ls : List Cb} {c : Int} {u : Value} {w w' : World} (h : PrR base ls c w u) (k : Kp No w w') : PrR base ls c w' u := by
  obtain ⟨A, n, cap, h1, L, h2, h3, h4, h5⟩ := h
  exact ⟨A, n, cap, h1, L, h2, h3.no k, h4, fun x hx => (h5 x hx).no k⟩
def lesL (S K : Nat) (p : Cb → Bool) : List Cb := if 200 < (leaC S K p).length then [] else leaC S K p
theorem lea_pr {N : Net} {l : List Sto} {w w' : World} {e : Ending} (h : LeaR N l w e w') : Kp No w w' ∧ ∃ u, e = .returned u ∧ PrR w.heap.size (lesL l.length (keysN l) (starC N l)) (leaE l.length (keysN l) (starC N l)) w' u := by
  obtain ⟨k, v, h1, h2⟩ := h
  refine ⟨k, _, h1, ?_⟩
  rcases h2 with ⟨h3, rfl⟩ | ⟨h3, L, h4, h5, h6⟩
  · refine ⟨none, 0, 0, rfl, [], ?_, Rd.nil _ _, by omega, fun x hx => (by cases hx)⟩
    unfold lesL
    rw [if_pos h3]
    rfl
  · obtain ⟨A, cap, rfl, _⟩ := own_form h5
    refine ⟨A, L.length, cap, rfl, L, ?_, Rd.of_own cv_len (by decide) h5, ?_, h6⟩
    · unfold lesL
      rw [if_neg (by omega), h4]
    · have := congrArg List.length h4
      rw [List.length_map] at this
      omega
theorem bad_pr (base : Nat) (c : Int) (w : World) : PrR base [] c w (.tuple #[.slice none 0 0, .int .i64 c]) := ⟨none, 0, 0, rfl, [], rfl, Rd.nil _ _, by omega, fun x hx => (by cases hx)⟩
theorem CvO.small {w : World} {base S K : Nat} {x : Cv} (h : CvO w base x) (hc : CbOk S K x.c) (hS : S ≤ 8) (hK : K ≤ 8) : x.p ≤ 100000 ∧ x.q ≤ 100000 := by
  have h1 := h.len
  have h2 := up_len hc.s1 hc.s2
  have h3 := up_len hc.k1 hc.k2
  omega
theorem lesL_ok {S K : Nat} {p : Cb → Bool} {c : Cb} (h : c ∈ lesL S K p) : CbOk S K c := by
  unfold lesL at h
  split at h
  · cases h
  · exact (mem_leaC.1 h).1
end Go.Proofs.YtpkbpeeelpgmcaaGreat

namespace Go.Proofs.YtpkbpeeelpgmcaaGreat
open Go.RowKit Go.Kq Go.Flow

theorem windV_ex (A B C : Option Addr) : windV (nz exN) A B C 2 2 3 3 = .agg #[.int .i64 3, .slice A 2 2, .slice B 2 2, .slice C 3 3] := rfl
theorem chk_ex : ChkW (nz exN) exL 0 := .inr ⟨chk_ok exN_ok, by decide⟩
theorem ask_ex {S K : List Int} (h : (risB exL.length S && risB (keysN exL) K) = true) : AskW (nz exN) exL S K 0 := .inr ⟨chk_ex, by rw [h]; rfl⟩
section
variable {A B C P Q : Option Addr} {vs : List Sv} {w : World}
theorem exD (hR : RdNet w A B exN) (hS : RdSt w C 3 vs exL) (hP : RdI .i64 w P 2 [0, 2]) (hQ : RdI .i64 w Q 2 [0, 1]) :
    Calls Tryz.prog 7 #[.agg #[.int .i64 3, .slice A 2 2, .slice B 2 2, .slice C 3 3], .agg #[.slice P 2 2, .slice Q 2 2]] w fun e w' => ∃ G, e = .returned (.tuple #[.slice (some ⟨G, 0, none⟩) 2 2, .int .i64 0]) ∧ RdI .i64 w' (some ⟨G, 0, none⟩) 2 [130, 0] ∧ Kp No w w' := by
  have h := Demand_ok (nz exN) exL vs A B C P Q 2 2 3 3 2 2 2 2 [0, 2] [0, 1] w (rdnz_of hR) hS hP hQ (ask_ex (by decide)) (by decide)
  rw [windV_ex] at h
  refine Calls.mono (show Calls Tryz.prog 7 #[.agg #[.int .i64 3, .slice A 2 2, .slice B 2 2, .slice C 3 3], .agg #[.slice P 2 2, .slice Q 2 2]] w _ from h) ?_
  rintro e w' ⟨G, rfl, ho, k⟩
  refine ⟨G, rfl, ?_, k⟩
  have h2 := RdI.of_own ho
  rw [show dmd (nz exN).ch.length exL [0, 2] [0, 1] = [130, 0] from dmd_ex] at h2
  exact h2
theorem exS1 (hR : RdNet w A B exN) (hS : RdSt w C 3 vs exL) (hP : RdI .i64 w P 2 [0, 2]) (hQ : RdI .i64 w Q 2 [0, 1]) :
    Calls Tryz.prog 9 #[.agg #[.int .i64 3, .slice A 2 2, .slice B 2 2, .slice C 3 3], .agg #[.slice P 2 2, .slice Q 2 2]] w fun e w' => ∃ D c, e = .returned (.tuple #[.bool true, .slice D 2 c, .int .i64 0]) ∧ RdI .i64 w' D 2 [0, 2] ∧ Kp No w w' := by
  have h := Starves_ok exN exN_ok exL vs A B C P Q 2 2 3 3 2 2 2 2 [0, 2] [0, 1] w hR hS hP hQ (ask_ex (by decide))
  rw [windV_ex] at h
  refine Calls.mono (show Calls Tryz.prog 9 #[.agg #[.int .i64 3, .slice A 2 2, .slice B 2 2, .slice C 3 3], .agg #[.slice P 2 2, .slice Q 2 2]] w _ from h) ?_
  rintro e w' ⟨k, ⟨hn, _⟩ | ⟨R, v, hR, _, rfl, ho⟩⟩
  · exact absurd sta_ex1 hn
  · obtain rfl := hR.uniq min_ex
    rw [show mem exR exN.n = [0, 2] from mem_ex] at ho
    obtain ⟨D, c, rfl, _, _, _⟩ := own_form ho
    exact ⟨D, c, rfl, RdI.of_own ho, k⟩
theorem exS2 (hR : RdNet w A B exN) (hS : RdSt w C 3 vs exL) (hP : RdI .i64 w P 2 [0, 2]) (hQ : RdI .i64 w Q 1 [0]) :
    Calls Tryz.prog 9 #[.agg #[.int .i64 3, .slice A 2 2, .slice B 2 2, .slice C 3 3], .agg #[.slice P 2 2, .slice Q 1 1]] w fun e w' => e = .returned (.tuple #[.bool false, .slice none 0 0, .int .i64 0]) ∧ Kp No w w' := by
  have h := Starves_ok exN exN_ok exL vs A B C P Q 2 2 3 3 2 2 1 1 [0, 2] [0] w hR hS hP hQ (ask_ex (by decide))
  rw [windV_ex] at h
  refine Calls.mono (show Calls Tryz.prog 9 #[.agg #[.int .i64 3, .slice A 2 2, .slice B 2 2, .slice C 3 3], .agg #[.slice P 2 2, .slice Q 1 1]] w _ from h) ?_
  rintro e w' ⟨k, ⟨_, rfl⟩ | ⟨R, v, hR, hlt, _, _⟩⟩
  · exact ⟨rfl, k⟩
  · exact absurd ⟨R, hR.1, hlt⟩ sta_ex2
theorem exLe (hR : RdNet w A B exN) (hS : RdSt w C 3 vs exL) :
    Calls Tryz.prog 16 #[.agg #[.int .i64 3, .slice A 2 2, .slice B 2 2, .slice C 3 3]] w fun e w' => ∃ D c, ∃ out : List Cv, e = .returned (.tuple #[.slice D 2 c, .int .i64 0]) ∧ out.map Cv.c = exC ∧ Rd Cv.cells 2 w' D 2 out ∧ (∀ x ∈ out, CvIs w' x ∧ x.p ≤ 100000 ∧ x.q ≤ 100000) ∧ Kp No w w' := by
  have h := Least_ok exN exN_ok exL vs A B C 2 2 3 3 w hR hS chk_ex
  rw [windV_ex] at h
  have hl : leaC exL.length (keysN exL) (starC exN exL) = exC := lea_ex _ fun c => starB_ex c.st c.ky
  refine Calls.mono h ?_
  rintro e w' ⟨k, v, he, hc⟩
  rw [hl] at hc
  have hz : leaE exL.length (keysN exL) (starC exN exL) = 0 := by unfold leaE; rw [hl]; decide
  rw [hz] at he
  rcases hc with ⟨h1, _⟩ | ⟨_, out, ho, hw, hel⟩
  · exact absurd h1 (by decide)
  · have hlen : out.length = 2 := by have := congrArg List.length ho; rw [List.length_map] at this; exact this
    rw [hlen] at hw
    obtain ⟨D, c, rfl, _, _, _⟩ := own_form hw
    refine ⟨D, c, out, he, ho, Rd.of_own cv_len (by omega) hw, fun x hx => ⟨(hel x hx).is, ?_⟩, k⟩
    have hx1 := (hel x hx).len
    have hx2 : x.c ∈ exC := ho ▸ List.mem_map_of_mem hx
    rw [hx1.1, hx1.2]
    have : x.c.st.length ≤ 2 ∧ x.c.ky.length ≤ 2 := by
      rcases List.mem_cons.1 hx2 with e | e
      · rw [e]; decide
      · rw [List.mem_singleton.1 e]; decide
    omega
theorem exSa (s : Nat) (k : Int) (hs : s < 3) (hk : safN (keysN exL) (starB exN exL [s]) = k) (hR : RdNet w A B exN) (hS : RdSt w C 3 vs exL) (hP : RdI .i64 w P 1 [(s : Int)]) :
    Calls Tryz.prog 11 #[.agg #[.int .i64 3, .slice A 2 2, .slice B 2 2, .slice C 3 3], .slice P 1 1] w fun e w' => e = .returned (.tuple #[.int .i64 k, .int .i64 0]) ∧ Kp No w w' := by
  have h := Safe_ok exN exN_ok exL vs A B C P 2 2 3 3 1 1 [s] w hR hS hP (ask_ex (by
    have : s = 0 ∨ s = 1 ∨ s = 2 := by omega
    rcases this with rfl | rfl | rfl <;> decide))
  rw [windV_ex, hk] at h
  exact h
end
end Go.Proofs.YtpkbpeeelpgmcaaGreat

namespace Go.Proofs.YtpkbpeeelpgmcaaGreat
open Go.RowKit Go.Kq Go.Flow

theorem rdi_new {w : World} {e : TypeId} {xs : List Int} {cs : List Value} (hc : xs.map (Value.int .i64) = cs) : RdI .i64 (w.alloc (.cells cs.toArray e)) (some ⟨w.heap.size, 0, none⟩) xs.length xs := rdi_heap hc (heap_alloc_new w _)
set_option maxHeartbeats 16000000 in
set_option maxRecDepth 100000 in
theorem shown_any (w : World) : Calls Tryz.prog 6 #[] w fun e w' => e = .returned (.bool true) ∧ Kp No w w' := by
  go_enter Tryz.func6, Tryz.ntmps6
  go_wp2_with (first | (go_at_call 19; refine stop_in ?_) | fail)
  refine stop_out ?_
  obtain ⟨w0, hw0⟩ : ∃ w0, w.alloc (.cells #[.int .i64 0, .int .i64 1] 3) = w0 := ⟨_, rfl⟩
  have HQ0 := Lib.hid (show RdI .i64 w0 (some ⟨w.heap.size, 0, none⟩) 2 [0, 1] by rw [← hw0]; exact rdi_new (xs := [0, 1]) rfl)
  have K0 := Lib.hid (show Kp No w w0 by rw [← hw0]; exact Kp.alloc _ _ _)
  rw [hw0]
  clear hw0
  obtain ⟨gq, hgq⟩ : ∃ gq, gq = w.heap.size := ⟨_, rfl⟩
  rw [← hgq] at HQ0 ⊢
  clear hgq
  refine (example_any w0).mono ?_
  rintro e w1 ⟨A0, B0, C0, vs0, rfl, hR, hS, k1⟩
  rw [windV_ex]
  have j0 : Kp No w1 (w1.alloc (.cells #[.int .i64 0, .int .i64 2] 3)) := Kp.alloc _ _ _
  have CC := exD (hR.no j0) (hS.no j0) (rdi_new (w := w1) (e := 3) (xs := [0, 2]) rfl) ((HQ0.out.no k1).no j0)
  replace CC := Lib.hid CC
  have KK := Lib.hid ((K0.out.tr k1).tr j0)
  have HQ := Lib.hid ((HQ0.out.no k1).no j0)
  clear hR hS k1 K0 HQ0 j0
  go_wp2_with fail
  with_reducible refine CC.out.mono ?_
  rintro e w3 ⟨G, rfl, hnew, k3⟩
  have K1 := Lib.hid (KK.out.tr k3)
  have HQ1 := Lib.hid (HQ.out.no k3)
  have HD := Lib.hid hnew
  clear CC KK HQ k3 hnew
  go_wp2_with (first | (go_at_call 19; refine stop_in ?_) | fail)
  refine stop_out ?_
  refine (example_any w3).mono ?_
  rintro e w4 ⟨A1, B1, C1, vs1, rfl, hR, hS, k1⟩
  rw [windV_ex]
  have j0 : Kp No w4 (w4.alloc (.cells #[.int .i64 0, .int .i64 2] 3)) := Kp.alloc _ _ _
  have CC := exS1 (hR.no j0) (hS.no j0) (rdi_new (w := w4) (e := 3) (xs := [0, 2]) rfl) ((HQ1.out.no k1).no j0)
  replace CC := Lib.hid CC
  have KK := Lib.hid ((K1.out.tr k1).tr j0)
  have HQ := Lib.hid ((HQ1.out.no k1).no j0)
  have HD1 := Lib.hid ((HD.out.no k1).no j0)
  clear hR hS k1 K1 HQ1 j0 HD
  go_wp2_with fail
  with_reducible refine CC.out.mono ?_
  rintro e w6 ⟨D, cD, rfl, hnew, k3⟩
  have K2 := Lib.hid (KK.out.tr k3)
  have HQ2 := Lib.hid (HQ.out.no k3)
  have HD := Lib.hid (HD1.out.no k3)
  have HL := Lib.hid hnew
  clear CC KK HQ k3 HD1 hnew
  go_wp2_with (first | (go_at_call 19; refine stop_in ?_) | fail)
  refine stop_out ?_
  refine (example_any w6).mono ?_
  rintro e w7 ⟨A2, B2, C2, vs2, rfl, hR, hS, k1⟩
  rw [windV_ex]
  have j0 : Kp No w7 (w7.alloc (.cells #[.int .i64 0, .int .i64 2] 3)) := Kp.alloc _ _ _
  have j1 : Kp No (w7.alloc (.cells #[.int .i64 0, .int .i64 2] 3)) ((w7.alloc (.cells #[.int .i64 0, .int .i64 2] 3)).alloc (.cells #[.int .i64 0] 3)) := Kp.alloc _ _ _
  have CC := exS2 ((hR.no j0).no j1) ((hS.no j0).no j1) ((rdi_new (w := w7) (e := 3) (xs := [0, 2]) rfl).no j1) (rdi_new (w := (w7.alloc (.cells #[.int .i64 0, .int .i64 2] 3))) (e := 3) (xs := [0]) rfl)
  simp only [World.size_alloc] at CC
  replace CC := Lib.hid CC
  have KK := Lib.hid (((K2.out.tr k1).tr j0).tr j1)
  have HQ := Lib.hid (((HQ2.out.no k1).no j0).no j1)
  have HD1 := Lib.hid (((HD.out.no k1).no j0).no j1)
  have HL1 := Lib.hid (((HL.out.no k1).no j0).no j1)
  clear hR hS k1 K2 HQ2 j0 j1 HD HL
  go_wp2_with fail
  with_reducible refine CC.out.mono ?_
  rintro e w9 ⟨rfl, k3⟩
  have K3 := Lib.hid (KK.out.tr k3)
  have HQ3 := Lib.hid (HQ.out.no k3)
  have HD := Lib.hid (HD1.out.no k3)
  have HL := Lib.hid (HL1.out.no k3)
  clear CC KK HQ k3 HD1 HL1
  go_wp2_with (first | (go_at_call 19; refine stop_in ?_) | fail)
  refine stop_out ?_
  refine (example_any w9).mono ?_
  rintro e w10 ⟨A3, B3, C3, vs3, rfl, hR, hS, k1⟩
  rw [windV_ex]
  have CC := exLe hR hS
  replace CC := Lib.hid CC
  have KK := Lib.hid (K3.out.tr k1)
  have HQ := Lib.hid (HQ3.out.no k1)
  have HD1 := Lib.hid (HD.out.no k1)
  have HL1 := Lib.hid (HL.out.no k1)
  clear hR hS k1 K3 HQ3 HD HL
  go_wp2_with fail
  with_reducible refine CC.out.mono ?_
  rintro e w12 ⟨DL, cL, out, rfl, ho, hrd, hel, k3⟩
  have K4 := Lib.hid (KK.out.tr k3)
  have HQ4 := Lib.hid (HQ.out.no k3)
  have HD := Lib.hid (HD1.out.no k3)
  have HL := Lib.hid (HL1.out.no k3)
  have HRD := Lib.hid hrd
  have HEL := Lib.hid hel
  have HO := Lib.hid ho
  clear CC KK HQ k3 HD1 HL1 hrd hel ho
  go_wp2_with (first | (go_at_call 19; refine stop_in ?_) | fail)
  refine stop_out ?_
  refine (example_any w12).mono ?_
  rintro e w13 ⟨A4, B4, C4, vs4, rfl, hR, hS, k1⟩
  rw [windV_ex]
  have j0 : Kp No w13 (w13.alloc (.cells #[.int .i64 1] 3)) := Kp.alloc _ _ _
  have CC := exSa 1 1 (by decide) saf_ex1 (hR.no j0) (hS.no j0) (rdi_new (w := w13) (e := 3) (xs := [1]) rfl)
  replace CC := Lib.hid CC
  have KK := Lib.hid ((K4.out.tr k1).tr j0)
  have HQ := Lib.hid ((HQ4.out.no k1).no j0)
  have HD1 := Lib.hid ((HD.out.no k1).no j0)
  have HL1 := Lib.hid ((HL.out.no k1).no j0)
  have HRD1 := Lib.hid ((HRD.out.no k1).no j0)
  have HEL1 := Lib.hid (fun x hx => And.intro (((HEL.out x hx).1.no k1).no j0) (HEL.out x hx).2)
  clear hR hS k1 K4 HQ4 j0 HD HL HRD HEL
  go_wp2_with fail
  with_reducible refine CC.out.mono ?_
  rintro e w15 ⟨rfl, k3⟩
  have K5 := Lib.hid (KK.out.tr k3)
  have HQ5 := Lib.hid (HQ.out.no k3)
  have HD := Lib.hid (HD1.out.no k3)
  have HL := Lib.hid (HL1.out.no k3)
  have HRD := Lib.hid (HRD1.out.no k3)
  have HEL := Lib.hid (fun x hx => And.intro ((HEL1.out x hx).1.no k3) (HEL1.out x hx).2)
  clear CC KK HQ k3 HD1 HL1 HRD1 HEL1
  go_wp2_with (first | (go_at_call 19; refine stop_in ?_) | fail)
  refine stop_out ?_
  refine (example_any w15).mono ?_
  rintro e w16 ⟨A5, B5, C5, vs5, rfl, hR, hS, k1⟩
  rw [windV_ex]
  have j0 : Kp No w16 (w16.alloc (.cells #[.int .i64 0] 3)) := Kp.alloc _ _ _
  have CC := exSa 0 2 (by decide) saf_ex0 (hR.no j0) (hS.no j0) (rdi_new (w := w16) (e := 3) (xs := [0]) rfl)
  replace CC := Lib.hid CC
  have KK := Lib.hid ((K5.out.tr k1).tr j0)
  have HQ := Lib.hid ((HQ5.out.no k1).no j0)
  have HD1 := Lib.hid ((HD.out.no k1).no j0)
  have HL1 := Lib.hid ((HL.out.no k1).no j0)
  have HRD1 := Lib.hid ((HRD.out.no k1).no j0)
  have HEL1 := Lib.hid (fun x hx => And.intro (((HEL.out x hx).1.no k1).no j0) (HEL.out x hx).2)
  clear hR hS k1 K5 HQ5 j0 HD HL HRD HEL
  go_wp2_with fail
  with_reducible refine CC.out.mono ?_
  rintro e w18 ⟨rfl, k3⟩
  have K6 := Lib.hid (KK.out.tr k3)
  have HQ6 := Lib.hid (HQ.out.no k3)
  have HD := Lib.hid (HD1.out.no k3)
  have HL := Lib.hid (HL1.out.no k3)
  have HRD := Lib.hid (HRD1.out.no k3)
  have HEL := Lib.hid (fun x hx => And.intro ((HEL1.out x hx).1.no k3) (HEL1.out x hx).2)
  clear CC KK HQ k3 HD1 HL1 HRD1 HEL1
  obtain ⟨_, _, e0, _, d0⟩ := HD.out.2 0 130 rfl
  cases e0
  obtain ⟨_, _, e1, _, d1⟩ := HD.out.2 1 0 rfl
  cases e1
  go_wp2_with (first | (go_at_call 15; refine stop_in ?_) | fail)
  refine stop_out ?_
  have js : Kp No w18 (w18.alloc (.cells #[.int .i64 0, .int .i64 2] 3)) := Kp.alloc _ _ _
  have CS := Lib.hid (same_any D (some ⟨w18.heap.size, 0, none⟩) 2 cD 2 2 [0, 2] [0, 2] _ (HL.out.no js) (rdi_new (w := w18) (e := 3) (xs := [0, 2]) rfl) (by omega) (by omega))
  rw [decide_eq_true (rfl : ([0, 2] : List Int) = [0, 2])] at CS
  have KS := Lib.hid (K6.out.tr js)
  have HQ7 := Lib.hid (HQ6.out.no js)
  have HRD1 := Lib.hid (HRD.out.no js)
  have HEL1 := Lib.hid (fun x hx => And.intro ((HEL.out x hx).1.no js) (HEL.out x hx).2)
  clear js d0 d1 HD HL HRD HEL K6 HQ6
  with_reducible refine CS.out.mono ?_
  rintro e w19 ⟨rfl, k3⟩
  have K7 := Lib.hid (KS.out.tr k3)
  have HQ8 := Lib.hid (HQ7.out.no k3)
  have HRD := Lib.hid (HRD1.out.no k3)
  have HEL := Lib.hid (fun x hx => And.intro ((HEL1.out x hx).1.no k3) (HEL1.out x hx).2)
  clear k3 CS KS HQ7 HRD1 HEL1
  go_wp2_with (first | (go_at_call 18; refine stop_in ?_) | fail)
  refine stop_out ?_
  obtain ⟨us, hus⟩ : ∃ us : List Cv, us = [⟨some ⟨w19.heap.size, 0, none⟩, 1, 1, some ⟨gq, 0, none⟩, 2, 2, ⟨[1], [0, 1]⟩⟩, ⟨some ⟨w19.heap.size + 1, 0, none⟩, 2, 2, some ⟨gq, 0, none⟩, 2, 2, ⟨[0, 2], [0, 1]⟩⟩] := ⟨_, rfl⟩
  obtain ⟨Wa, hWa⟩ : ∃ Wa, w19.alloc (.cells #[.int .i64 1] 3) = Wa := ⟨_, rfl⟩
  obtain ⟨Wb, hWb⟩ : ∃ Wb, Wa.alloc (.cells #[.int .i64 0, .int .i64 2] 3) = Wb := ⟨_, rfl⟩
  obtain ⟨Wc, hWc⟩ : ∃ Wc, Wb.alloc (.cells #[.slice (some ⟨w19.heap.size, 0, none⟩) 1 1, .slice (some ⟨gq, 0, none⟩) 2 2, .slice (some ⟨w19.heap.size + 1, 0, none⟩) 2 2, .slice (some ⟨gq, 0, none⟩) 2 2] 30) = Wc := ⟨_, rfl⟩
  have ka : Kp No w19 Wa := by rw [← hWa]; exact Kp.alloc _ _ _
  have kb : Kp No Wa Wb := by rw [← hWb]; exact Kp.alloc _ _ _
  have kc : Kp No Wb Wc := by rw [← hWc]; exact Kp.alloc _ _ _
  have sa : Wa.heap.size = w19.heap.size + 1 := by rw [← hWa]; simp
  have sb : Wb.heap.size = w19.heap.size + 1 + 1 := by rw [← hWb, World.size_alloc, sa]
  have r1 : RdI .i64 Wa (some ⟨w19.heap.size, 0, none⟩) 1 [1] := by rw [← hWa]; exact rdi_new (xs := [1]) rfl
  have r2 : RdI .i64 Wb (some ⟨w19.heap.size + 1, 0, none⟩) 2 [0, 2] := by rw [← hWb, ← sa]; exact rdi_new (xs := [0, 2]) rfl
  have r3 : Rd Cv.cells 2 Wc (some ⟨w19.heap.size + 1 + 1, 0, none⟩) 2 us := by
    rw [← hWc, ← sb, hus]
    exact rd_heap cv_len rfl (heap_alloc_new Wb _)
  have kk := (ka.tr kb).tr kc
  have SM := Lib.hid (Same_any DL (some ⟨w19.heap.size + 1 + 1, 0, none⟩) 2 cL 2 2 out us Wc (HRD.out.no kk) r3 (fun x hx => ⟨(HEL.out x hx).1.no kk, (HEL.out x hx).2⟩) (fun x hx => by
    rw [hus] at hx
    rcases List.mem_cons.1 hx with e | e
    · subst e
      exact ⟨⟨(r1.no kb).no kc, HQ8.out.no kk⟩, by show 1 ≤ 100000; omega, by show 2 ≤ 100000; omega⟩
    · rw [List.mem_singleton.1 e]
      exact ⟨⟨r2.no kc, HQ8.out.no kk⟩, by show 2 ≤ 100000; omega, by show 2 ≤ 100000; omega⟩) (by omega) (by omega))
  rw [decide_eq_true (by rw [HO.out, hus]; rfl : out.map Cv.c = us.map Cv.c)] at SM
  have KE := Lib.hid (K7.out.tr kk)
  rw [hWa, hWb, hWc]
  clear hWa hWb hWc ka kb kc sa sb r1 r2 r3 kk HRD HEL hus K7 HQ8
  with_reducible refine SM.out.mono ?_
  rintro e w20 ⟨rfl, q, rfl⟩
  go_wp2_with fail
  go_ret
  exact ⟨rfl, KE.out.tr (Kp.drewN _ _ _)⟩
end Go.Proofs.YtpkbpeeelpgmcaaGreat
