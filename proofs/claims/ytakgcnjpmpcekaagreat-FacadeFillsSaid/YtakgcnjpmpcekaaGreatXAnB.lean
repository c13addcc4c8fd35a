/- Chapter 24: the program's Mirrored. Printed by gen_anb.py. -/
import Derived.Test.YtakgcnjpmpcekaaGreatXLibHpM
namespace Go.Proofs.YtakgcnjpmpcekaaGreat
open Go.RowKit Go.Kq

def mirE (l : List Fc) (plan : List (List Int)) : Int := if chkF l ≠ 0 then chkF l else plaE l.length plan (-1)
def mirG (l : List Fc) (plan : List (List Int)) : Bool := if mirE l plan = 0 then mirB l plan else false
def mirS (l : List Fc) (plan : List (List Int)) (i : Nat) : Bool := decide (anewN (plan.getD i []) = (anewN (plan.getD (l.length - 1 - i) [])).reverse)
theorem mir_stop {l : List Fc} {plan : List (List Int)} {k : Nat} (hk : k < l.length / 2) (h : mirS l plan k = false) : mirB l plan = false := by
  unfold mirB
  rw [List.all_eq_false]
  exact ⟨k, List.mem_range.2 hk, by simpa [mirS] using h⟩
theorem mir_succ (l : List Fc) (plan : List (List Int)) (k : Nat) : (List.range (k + 1)).all (mirS l plan) = ((List.range k).all (mirS l plan) && mirS l plan k) := by
  rw [List.range_succ, List.all_append]
  simp
theorem cI_inj {a b : List Nat} (h : cI a = cI b) : a = b := by
  have h2 := congrArg (List.map Int.toNat) h
  unfold cI at h2
  rw [List.map_map, List.map_map] at h2
  have e : (Int.toNat ∘ fun i : Nat => (i : Int)) = id := funext fun i => by simp
  rw [e, List.map_id, List.map_id] at h2
  exact h2
/-- A row of the call's own. -/
def RowF (base q : Nat) (S : List Nat) (w : World) (u : Value) : Prop := ∃ g, u = .slice (some ⟨g, 0, none⟩) q q ∧ OwN w base (.slice (some ⟨g, 0, none⟩) q q) S
theorem RowF.no {base q : Nat} {S : List Nat} {w w' : World} {u : Value} (h : RowF base q S w u) (k : Kp No w w') : RowF base q S w' u := by
  obtain ⟨g, h1, h2⟩ := h
  exact ⟨g, h1, own_kp h2 k fun _ _ h => h⟩
set_option maxHeartbeats 8000000 in
set_option maxRecDepth 100000 in
theorem Mirrored_any (g : Nat) (A B : Option Addr) (n ca N cb : Nat) (l : List Fc) (plan : List (List Int)) (w : World) (hA : RdF w A n l) (hB : RdL g w B N plan) (hn : n ≤ 100000) (hN : N ≤ 20) (hb : ∀ S ∈ plan, S.length ≤ 70) :
    Calls Tryz.prog 14 #[.slice A n ca, .slice B N cb] w fun e w' => e = .returned (.tuple #[.bool (mirG l plan), .int .i64 (mirE l plan)]) ∧ Kp No w w' := by
  have CK := Lib.hid (fun w0 (k : Kp No w w0) => Check_any A n ca l w0 (hA.no k) (by omega))
  have PL := Lib.hid (fun w0 (k : Kp No w w0) => planned_any g B A N cb n ca (-1) plan w0 (hB.no k) hN hb)
  have HB := Lib.hid hB
  have HLA := Lib.hid hA.1
  have HLB := Lib.hid hB.1
  have HSB := Lib.hid hb
  have HME := Lib.hid (show mirE l plan = if chkF l ≠ 0 then chkF l else plaE n plan (-1) by unfold mirE; rw [HLA.out])
  have HMG := Lib.hid (show mirG l plan = if mirE l plan = 0 then mirB l plan else false from rfl)
  clear hA hB hb
  by_cases hc : chkF l = 0
  rotate_left
  · have HE := Lib.hid (show mirE l plan = chkF l by rw [HME.out, if_pos hc])
    have HG := Lib.hid (show mirG l plan = false by rw [HMG.out, if_neg (by rw [HE.out]; exact hc)])
    rw [HE.out, HG.out]
    have hne : (chkF l == 0) = false := by simp [hc]
    have hne2 : (chkF l != 0) = true := by simp [hc]
    generalize chkF l = E at *
    clear hc
    go_enter Tryz.func14, Tryz.ntmps14
    go_wp2_with fail
    with_reducible refine (CK.out _ (Kp.refl _ _)).mono ?_
    rintro e w1 ⟨rfl, k1⟩
    go_wp2_with fail
    go_ret2
    exact ⟨rfl, k1⟩
  have HC := Lib.hid hc
  rw [hc] at CK
  by_cases hq : plaE n plan (-1) = 0
  rotate_left
  · have HE := Lib.hid (show mirE l plan = plaE n plan (-1) by rw [HME.out, if_neg (fun h => h hc)])
    have HG := Lib.hid (show mirG l plan = false by rw [HMG.out, if_neg (by rw [HE.out]; exact hq)])
    rw [HE.out, HG.out]
    have hne2 : (plaE n plan (-1) != 0) = true := by simp [hq]
    generalize plaE n plan (-1) = E at *
    clear hc hq
    go_enter Tryz.func14, Tryz.ntmps14
    go_wp2_with fail
    with_reducible refine (CK.out _ (Kp.refl _ _)).mono ?_
    rintro e w1 ⟨rfl, k1⟩
    go_wp2_with fail
    with_reducible refine (PL.out _ k1).mono ?_
    rintro e w2 ⟨rfl, k2⟩
    go_wp2_with fail
    go_ret2
    exact ⟨rfl, k1.tr k2⟩
  rw [hq] at PL
  have HE := Lib.hid (show mirE l plan = 0 by rw [HME.out, if_neg (fun h => h hc), hq])
  have HG := Lib.hid (show mirG l plan = mirB l plan by rw [HMG.out, if_pos HE.out])
  rw [HE.out, HG.out]
  have hNn : N = n := by
    rw [← HLB.out]
    unfold plaE at hq
    split at hq
    · cases hq
    · omega
  have hn12 : n ≤ 12 := by rw [← HLA.out]; exact (chk_ok hc).1
  subst hNn
  have HST := Lib.hid (fun k (hk : k < N / 2) (h : mirS l plan k = false) => mir_stop (l := l) (plan := plan) (k := k) (by rw [HLA.out]; exact hk) h)
  have HAL := Lib.hid (show mirB l plan = (List.range (N / 2)).all (mirS l plan) by
    have e : mirB l plan = (List.range (l.length / 2)).all (mirS l plan) := rfl
    rw [e, HLA.out])
  clear hc hq HME HMG HC HG HE
  generalize mirB l plan = MB at *
  go_enter Tryz.func14, Tryz.ntmps14
  go_wp2_with fail
  with_reducible refine (CK.out _ (Kp.refl _ _)).mono ?_
  rintro e w1 ⟨rfl, k1⟩
  go_wp2_with fail
  with_reducible refine (PL.out _ k1).mono ?_
  rintro e w3 ⟨rfl, k3⟩
  have HK := Lib.hid (k1.tr k3)
  clear k1 k3 CK PL
  obtain ⟨M, hM⟩ : ∃ M, M = N / 2 := ⟨_, rfl⟩
  have hMi : (N : Int) / 2 = (M : Int) := by omega
  have hM6 : M ≤ 6 := by omega
  have HM2 := Lib.hid (show 2 * M ≤ N by omega)
  rw [← hM] at HST HAL
  clear hM
  go_wp2_with fail
  go_loopw [23] (fun i wr => ∃ k : Nat, k ≤ M ∧ i = .int .i64 (k : Nat) ∧ (List.range k).all (mirS l plan) = true ∧ Kp No w wr) (fun i _ => M - (intOf i).toNat)
  case atStart => exact ⟨0, by omega, rfl, rfl, HK.out⟩
  case round =>
    clear HK
    obtain ⟨k, hk, rfl, hno, hkp⟩ := hrel
    have HN := Lib.hid hno
    have HK := Lib.hid hkp
    clear hno hkp
    by_cases hlt : k < M
    · have h2 := HM2.out
      obtain ⟨S, hS⟩ : ∃ S, plan[k]? = some S := ⟨_, List.getElem?_eq_getElem (by rw [HLB.out]; omega)⟩
      obtain ⟨T, hT⟩ : ∃ T, plan[N - 1 - k]? = some T := ⟨_, List.getElem?_eq_getElem (by rw [HLB.out]; omega)⟩
      obtain ⟨b, o, A1, n1, c1, rfl, hb1, hcS, _, r1, _⟩ := (HB.out.no HK.out).2 k S hS
      obtain ⟨b', o', A2, n2, c2, hbo, hb2, hcT, _, r2, _⟩ := (HB.out.no HK.out).2 (N - 1 - k) T hT
      injection hbo with hbo
      injection hbo with e1 e2
      subst e1 e2
      have hS70 := HSB.out S (List.mem_of_getElem? hS)
      have hT70 := HSB.out T (List.mem_of_getElem? hT)
      rw [r1.1] at hS70
      rw [r2.1] at hT70
      have A1C := Lib.hid (fun w0 (k0 : Kp No wr w0) => anew_any A1 n1 c1 S w0 (by omega) (r1.no k0))
      have A2C := Lib.hid (fun w0 (k0 : Kp No wr w0) => anew_any A2 n2 c2 T w0 (by omega) (r2.no k0))
      have HSD := Lib.hid (show mirS l plan k = decide (anewN S = (anewN T).reverse) by
        unfold mirS
        rw [HLA.out, List.getD_eq_getElem?_getD, List.getD_eq_getElem?_getD, hS, hT]
        rfl)
      have HN1 := Lib.hid (show (anewN S).length = n1 by unfold anewN; rw [List.length_map, r1.1])
      have HN2 := Lib.hid (show (anewN T).length = n2 by unfold anewN; rw [List.length_map, r2.1])
      have hbl := hb1.2
      have q1 : IntKind.i64.wrap ((N : Int) - 1) = (N : Int) - 1 := by rw [IntKind.wrap_i64]; omega
      have q2 : IntKind.i64.wrap ((N : Int) - 1 - (k : Int)) = ((N - 1 - k : Nat) : Int) := by rw [IntKind.wrap_i64]; omega
      have q4 : N - 1 - k < N := by omega
      have q5 : k < N := by omega
      clear hS hT r1 r2 hb1 hb2
      go_wp2_with fail
      refine wp_region_each (fun ix uR => match ix with | 0 => uR = .slice (some ⟨b, o, none⟩) N cb | 1 => uR = .int .i64 (k : Nat) | 2 => uR = .pointer (some ⟨b, o + k, none⟩) | 3 => uR = .slice A1 n1 c1 | 5 => uR = .slice (some ⟨b, o, none⟩) N cb | 6 => uR = .slice A N ca | 7 => uR = .int .i64 (N : Nat) | 8 => uR = .int .i64 ((N : Int) - 1) | 9 => uR = .int .i64 (k : Nat) | 10 => uR = .int .i64 (N - 1 - k : Nat) | 11 => uR = .pointer (some ⟨b, o + (N - 1 - k), none⟩) | 12 => uR = .slice A2 n2 c2 | _ => True) (HvP (fun wz => Kp No wr wz) (fun i => i == 4 || i == 14) (fun i => i == 13 || i == 15) (fun ix wz u => (ix = 4 → RowF wr.heap.size n1 (anewN S) wz u) ∧ (ix = 13 → RowF wr.heap.size n2 (anewN T) wz u) ∧ (ix = 14 → RowF wr.heap.size n1 (anewN S) wz u) ∧ (ix = 15 → RowF wr.heap.size n2 (anewN T) wz u) ∧ True)) (by kernel_rfl) (by kernel_rfl) (by kernel_rfl) ?_ ?_ ?_
      · exact HvP.start _ _ _ (Kp.drew _ _)
      · refine ⟨?_, ?_, ?_, ?_, ?_, ?_, ?_, ?_, ?_, ?_, ?_, ?_, ?_, ?_, ?_, ?_, trivial⟩
        · intro r a w' hf hg hW hr hd K hK
          refine wpOp_of rfl rfl ?_
          have e0 : a.tmps.getD 1 undef = .slice (some ⟨b, o, none⟩) N cb := hf.evalFree (by kernel_rfl)
          go_simp
          exact hK _ _ rfl (hW.upd 0 _ rfl rfl ⟨fun e => absurd e (by decide), fun e => absurd e (by decide), fun e => absurd e (by decide), fun e => absurd e (by decide), trivial⟩)
        · intro r a w' hf hg hW hr hd K hK
          refine wpOp_of rfl rfl ?_
          have e0 : a.tmps.getD 7 undef = .int .i64 (k : Nat) := hf.evalFree (by kernel_rfl)
          go_simp
          exact hK _ _ rfl (hW.upd 1 _ rfl rfl ⟨fun e => absurd e (by decide), fun e => absurd e (by decide), fun e => absurd e (by decide), fun e => absurd e (by decide), trivial⟩)
        · intro r a w' hf hg hW hr hd K hK
          refine wpOp_of rfl rfl ?_
          refine hf.depE hg hd 0 26 (by kernel_rfl) fun u0 e0 g0 h0 => ?_
          replace g0 : u0 = .slice (some ⟨b, o, none⟩) N cb := g0
          subst g0
          refine hf.depE hg hd 1 27 (by kernel_rfl) fun u1 e1 g1 h1 => ?_
          replace g1 : u1 = .int .i64 (k : Nat) := g1
          subst g1
          go_simp
          exact hK _ _ rfl (hW.upd 2 _ rfl rfl ⟨fun e => absurd e (by decide), fun e => absurd e (by decide), fun e => absurd e (by decide), fun e => absurd e (by decide), trivial⟩)
        · intro r a w' hf hg hW hr hd K hK
          refine wpOp_of rfl rfl ?_
          refine hf.depE hg hd 2 28 (by kernel_rfl) fun u0 e0 g0 h0 => ?_
          replace g0 : u0 = .pointer (some ⟨b, o + k, none⟩) := g0
          subst g0
          have z0 := hW.m.cell hcS id
          go_simp
          exact hK _ _ rfl (hW.upd 3 _ rfl rfl ⟨fun e => absurd e (by decide), fun e => absurd e (by decide), fun e => absurd e (by decide), fun e => absurd e (by decide), trivial⟩)
        · intro r a w' hf hg hW hr hd K hK
          refine wpOp_of rfl rfl ?_
          refine hf.depE hg hd 3 29 (by kernel_rfl) fun u0 e0 g0 h0 => ?_
          replace g0 : u0 = .slice A1 n1 c1 := g0
          subst g0
          go_simp
          with_reducible refine (A1C.out _ hW.m).mono ?_
          rintro e w'' ⟨gn, rfl, ho, k0⟩
          have hnew : RowF wr.heap.size n1 (anewN S) w'' (.slice (some ⟨gn, 0, none⟩) n1 n1) := ⟨gn, rfl, own_mono ho hW.m.size⟩
          have hgn := (own_ge ho (g := gn) rfl).1
          refine hK _ _ trivial ((hW.call (hW.m.tr k0) (fun ix u h => ⟨fun e => (h.1 e).no k0, fun e => (h.2.1 e).no k0, fun e => (h.2.2.1 e).no k0, fun e => (h.2.2.2.1 e).no k0, trivial⟩)).updG 4 _ ⟨fun _ => hnew, fun e => absurd e (by decide), fun e => absurd e (by decide), fun e => absurd e (by decide), trivial⟩ ?_ ?_ ?_)
          · intro _ j u hj hu gq hgq hx
            have hgq : some gn = some gq := hgq
            injection hgq with hgq
            have hlt : ∀ g3, u.ownBlock = some g3 → g3 < w'.heap.size := by
              have hFj := hW.hv j u hu
              have hj' : j = 13 ∨ j = 15 := by simpa using hj
              rcases hj' with rfl | rfl
              · obtain ⟨go_, rfl, hoo⟩ := hFj.2.1 rfl
                exact fun g3 h3 => (own_ge hoo h3).2
              · obtain ⟨go_, rfl, hoo⟩ := hFj.2.2.2.1 rfl
                exact fun g3 h3 => (own_ge hoo h3).2
            have := hlt gq hx
            omega
          · intro hh; exact absurd hh (by decide)
          · intro h1 h2; exact absurd (h2) (by decide)
        · intro r a w' hf hg hW hr hd K hK
          refine wpOp_of rfl rfl ?_
          have e0 : a.tmps.getD 1 undef = .slice (some ⟨b, o, none⟩) N cb := hf.evalFree (by kernel_rfl)
          go_simp
          exact hK _ _ rfl (hW.upd 5 _ rfl rfl ⟨fun e => absurd e (by decide), fun e => absurd e (by decide), fun e => absurd e (by decide), fun e => absurd e (by decide), trivial⟩)
        · intro r a w' hf hg hW hr hd K hK
          refine wpOp_of rfl rfl ?_
          have e0 : a.tmps.getD 0 undef = .slice A N ca := hf.evalFree (by kernel_rfl)
          go_simp
          exact hK _ _ rfl (hW.upd 6 _ rfl rfl ⟨fun e => absurd e (by decide), fun e => absurd e (by decide), fun e => absurd e (by decide), fun e => absurd e (by decide), trivial⟩)
        · intro r a w' hf hg hW hr hd K hK
          refine wpOp_of rfl rfl ?_
          refine hf.depE hg hd 6 32 (by kernel_rfl) fun u0 e0 g0 h0 => ?_
          replace g0 : u0 = .slice A N ca := g0
          subst g0
          go_simp
          exact hK _ _ rfl (hW.upd 7 _ rfl rfl ⟨fun e => absurd e (by decide), fun e => absurd e (by decide), fun e => absurd e (by decide), fun e => absurd e (by decide), trivial⟩)
        · intro r a w' hf hg hW hr hd K hK
          refine wpOp_of rfl rfl ?_
          refine hf.depE hg hd 7 33 (by kernel_rfl) fun u0 e0 g0 h0 => ?_
          replace g0 : u0 = .int .i64 (N : Nat) := g0
          subst g0
          go_simp
          exact hK _ _ rfl (hW.upd 8 _ rfl rfl ⟨fun e => absurd e (by decide), fun e => absurd e (by decide), fun e => absurd e (by decide), fun e => absurd e (by decide), trivial⟩)
        · intro r a w' hf hg hW hr hd K hK
          refine wpOp_of rfl rfl ?_
          have e0 : a.tmps.getD 7 undef = .int .i64 (k : Nat) := hf.evalFree (by kernel_rfl)
          go_simp
          exact hK _ _ rfl (hW.upd 9 _ rfl rfl ⟨fun e => absurd e (by decide), fun e => absurd e (by decide), fun e => absurd e (by decide), fun e => absurd e (by decide), trivial⟩)
        · intro r a w' hf hg hW hr hd K hK
          refine wpOp_of rfl rfl ?_
          refine hf.depE hg hd 8 34 (by kernel_rfl) fun u0 e0 g0 h0 => ?_
          replace g0 : u0 = .int .i64 ((N : Int) - 1) := g0
          subst g0
          refine hf.depE hg hd 9 35 (by kernel_rfl) fun u1 e1 g1 h1 => ?_
          replace g1 : u1 = .int .i64 (k : Nat) := g1
          subst g1
          go_simp
          exact hK _ _ rfl (hW.upd 10 _ rfl rfl ⟨fun e => absurd e (by decide), fun e => absurd e (by decide), fun e => absurd e (by decide), fun e => absurd e (by decide), trivial⟩)
        · intro r a w' hf hg hW hr hd K hK
          refine wpOp_of rfl rfl ?_
          refine hf.depE hg hd 5 31 (by kernel_rfl) fun u0 e0 g0 h0 => ?_
          replace g0 : u0 = .slice (some ⟨b, o, none⟩) N cb := g0
          subst g0
          refine hf.depE hg hd 10 36 (by kernel_rfl) fun u1 e1 g1 h1 => ?_
          replace g1 : u1 = .int .i64 (N - 1 - k : Nat) := g1
          subst g1
          go_simp
          exact hK _ _ rfl (hW.upd 11 _ rfl rfl ⟨fun e => absurd e (by decide), fun e => absurd e (by decide), fun e => absurd e (by decide), fun e => absurd e (by decide), trivial⟩)
        · intro r a w' hf hg hW hr hd K hK
          refine wpOp_of rfl rfl ?_
          refine hf.depE hg hd 11 37 (by kernel_rfl) fun u0 e0 g0 h0 => ?_
          replace g0 : u0 = .pointer (some ⟨b, o + (N - 1 - k), none⟩) := g0
          subst g0
          have z0 := hW.m.cell hcT id
          go_simp
          exact hK _ _ rfl (hW.upd 12 _ rfl rfl ⟨fun e => absurd e (by decide), fun e => absurd e (by decide), fun e => absurd e (by decide), fun e => absurd e (by decide), trivial⟩)
        · intro r a w' hf hg hW hr hd K hK
          refine wpOp_of rfl rfl ?_
          refine hf.depE hg hd 12 38 (by kernel_rfl) fun u0 e0 g0 h0 => ?_
          replace g0 : u0 = .slice A2 n2 c2 := g0
          subst g0
          go_simp
          with_reducible refine (A2C.out _ hW.m).mono ?_
          rintro e w'' ⟨gn, rfl, ho, k0⟩
          have hnew : RowF wr.heap.size n2 (anewN T) w'' (.slice (some ⟨gn, 0, none⟩) n2 n2) := ⟨gn, rfl, own_mono ho hW.m.size⟩
          have hgn := (own_ge ho (g := gn) rfl).1
          refine hK _ _ trivial ((hW.call (hW.m.tr k0) (fun ix u h => ⟨fun e => (h.1 e).no k0, fun e => (h.2.1 e).no k0, fun e => (h.2.2.1 e).no k0, fun e => (h.2.2.2.1 e).no k0, trivial⟩)).updG 13 _ ⟨fun e => absurd e (by decide), fun _ => hnew, fun e => absurd e (by decide), fun e => absurd e (by decide), trivial⟩ ?_ ?_ ?_)
          · intro hh; exact absurd hh (by decide)
          · intro _ j u hj hu gq hgq hx
            have hx : some gn = some gq := hx
            injection hx with hx
            have hlt : ∀ g3, u.ownBlock = some g3 → g3 < w'.heap.size := by
              have hFj := hW.hv j u hu
              have hj' : j = 4 ∨ j = 14 := by simpa using hj
              rcases hj' with rfl | rfl
              · obtain ⟨go_, rfl, hoo⟩ := hFj.1 rfl
                exact fun g3 h3 => (own_ge hoo h3).2
              · obtain ⟨go_, rfl, hoo⟩ := hFj.2.2.1 rfl
                exact fun g3 h3 => (own_ge hoo h3).2
            have := hlt gq hgq
            omega
          · intro h1 h2; exact absurd (h1) (by decide)
        · intro r a w' hf hg hW hr hd K hK
          refine wpOp_of rfl rfl ?_
          refine hf.depE hg hd 4 30 (by kernel_rfl) fun u0 e0 g0 h0 => ?_
          have f0 := (hW.hv 4 u0 h0).1 rfl
          go_simp
          refine hK _ _ trivial (hW.updG 14 _ ⟨fun e => absurd e (by decide), fun e => absurd e (by decide), fun _ => f0, fun e => absurd e (by decide), trivial⟩ ?_ ?_ ?_)
          · intro _ jj u hj hu gq hgq; exact hW.pr 4 jj _ u rfl hj h0 hu gq hgq
          · intro hh; exact absurd hh (by decide)
          · intro h1 h2; exact absurd (h2) (by decide)
        · intro r a w' hf hg hW hr hd K hK
          refine wpOp_of rfl rfl ?_
          refine hf.depE hg hd 13 39 (by kernel_rfl) fun u0 e0 g0 h0 => ?_
          have f0 := (hW.hv 13 u0 h0).2.1 rfl
          go_simp
          refine hK _ _ trivial (hW.updG 15 _ ⟨fun e => absurd e (by decide), fun e => absurd e (by decide), fun e => absurd e (by decide), fun _ => f0, trivial⟩ ?_ ?_ ?_)
          · intro hh; exact absurd hh (by decide)
          · intro _ jj u hj hu gq hgq; exact hW.pr jj 13 u _ hj rfl hu h0 gq hgq
          · intro h1 h2; exact absurd (h1) (by decide)
      intro r' w5 hg hW hr'
      have hmN := hW.m
      obtain ⟨q14, hq14⟩ : ∃ u, r' 14 = some u := Option.ne_none_iff_exists'.1 (hr' 14 (by decide))
      have hF14 := (hW.hv 14 q14 hq14).2.2.1 rfl
      obtain ⟨q15, hq15⟩ : ∃ u, r' 15 = some u := Option.ne_none_iff_exists'.1 (hr' 15 (by decide))
      have hF15 := (hW.hv 15 q15 hq15).2.2.2.1 rfl
      have hprN := hW.pr 14 15 q14 q15 rfl rfl hq14 hq15
      simp only [List.length_cons, List.length_nil, Nat.reduceAdd, List.range_succ, List.range_zero, List.nil_append, List.cons_append, List.map_cons, List.map_nil, putAll, Act.put, List.setIfInBounds_toArray, List.set_cons_succ, List.set_cons_zero, hq14, hq15, Option.getD_some]
      clear hg hW hr' hq14 hq15
      obtain ⟨g1, rfl, o1⟩ := hF14
      obtain ⟨g2, rfl, o2⟩ := hF15
      have hap : g1 ≠ g2 := fun e => hprN g1 rfl (by rw [e]; rfl)
      have HO1 := Lib.hid o1
      have HO2 := Lib.hid o2
      have HK5 := Lib.hid (HK.out.tr hmN)
      have hl1 : n1 ≤ 100000 := by omega
      have hl2 : n2 ≤ 100000 := by omega
      have REV := Lib.hid (rev_any wr.heap.size (some ⟨g2, 0, none⟩) n2 n2 ((anewN T).map fun i : Nat => (i : Int)) w5 (by rw [List.length_map, HN2.out]) hl2 (ow_in HO2.out))
      have hAP := Lib.hid hap
      clear o1 o2 hap hmN q1 q2 A1C A2C hcS hcT hprN
      go_wp2_with fail
      with_reducible refine REV.out.mono ?_
      rintro e w6 ⟨rfl, ho6, k6⟩
      have hr1 : RdI .i64 w6 (some ⟨g1, 0, none⟩) n1 (cI (anewN S)) := by
        have h := k6.owns (ow_in HO1.out) (fun b hb e => by
          have e1 : some g1 = some b := hb
          have e2 : some g2 = some b := e
          rw [← e1] at e2
          injection e2 with e2
          exact hAP.out e2.symm)
        exact own_rdi h (by rw [cI_len, HN1.out])
      have hr2 : RdI .i64 w6 (some ⟨g2, 0, none⟩) n2 (cI (anewN T).reverse) := by
        have h := own_rdi ho6 (by rw [List.length_reverse, List.length_map, HN2.out])
        unfold cI
        rw [List.map_reverse]
        exact h
      have EQ := Lib.hid (equal_any _ _ n1 n2 n1 n2 _ _ w6 hl1 hl2 hr1 hr2)
      have HDE := Lib.hid (show decide (cI (anewN S) = cI (anewN T).reverse) = mirS l plan k by
        rw [HSD.out, decide_eq_decide]
        constructor
        · exact fun h => cI_inj h
        · intro h
          rw [h])
      rw [HDE.out] at EQ
      have HK6 := Lib.hid (HK5.out.trans k6 fun b hb e => by
        have e2 : some g2 = some b := e
        injection e2 with e2
        have h1 := (own_ge HO2.out (g := g2) rfl).1
        have h3 := HK.out.size
        omega)
      clear hr1 hr2 ho6 k6 REV
      go_wp2_with fail
      with_reducible refine EQ.out.mono ?_
      rintro e w7 ⟨rfl, k7⟩
      cases hms : mirS l plan k
      · have HF := Lib.hid (HST.out k hlt hms)
        clear hms
        go_wp2_with fail
        go_ret2
        exact ⟨by rw [HF.out]; rfl, HK6.out.tr k7⟩
      · have HF := Lib.hid hms
        clear hms
        go_wp2_with fail
        go_roundw
        case rel => exact ⟨k + 1, by omega, by go_num, by rw [mir_succ, HN.out, HF.out]; rfl, HK6.out.tr k7⟩
        case measure => simp [intOf]; omega
    · obtain rfl : k = M := by omega
      have HF := Lib.hid (show MB = true by rw [HAL.out, HN.out])
      go_wp2_with fail
      go_ret2
      exact ⟨by rw [HF.out]; rfl, HK.out⟩
end Go.Proofs.YtakgcnjpmpcekaaGreat
