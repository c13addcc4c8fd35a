/- Chapter 13: the reference's less, ascending: walks. · Chapter 13: the reference's row, known: walks. · Chapter 13: the reference's Check: the walk. -/
import Derived.Test.YtlieijnhaolnhaaGreatXRpdM
import Derived.Test.YtlieijnhaolnhaaGreatXLpaPM
import Derived.Test.YtlieijnhaolnhaaGreatXLibBoxM
namespace Go.Proofs.YtlieijnhaolnhaaGreat
open Go.RowKit Go.Kq

set_option maxHeartbeats 1000000 in
theorem less13_is (a b : Pp) (w : World) : Calls Tryz.prog 88 #[ep a, ep b] w fun e w' => e = .returned (.bool (pltB a b)) ∧ Kp No w w' := by
  obtain ⟨a1, a2⟩ := a
  obtain ⟨b1, b2⟩ := b
  simp only [ep]
  unfold pltB
  go_enter Tryz.func88, Tryz.ntmps88
  go_wp2
  all_goals
    go_ret
    refine ⟨ret_bool ?_, (Kp.alloc _ _ _).tr (Kp.alloc _ _ _)⟩
    simp [*] <;> (intros; omega)
set_option maxHeartbeats 2000000 in
set_option maxRecDepth 100000 in
theorem asc13_is (A : Option Addr) (n cap : Nat) (ps : List Pp) (w : World) (hx : Rd pcells 2 w A n ps) (hn : n ≤ 1000000) :
    Calls Tryz.prog 47 #[.slice A n cap] w fun e w' => e = .returned (.bool (risB ps)) ∧ Kp No w w' := by
  have hl := hx.1
  go_enter Tryz.func47, Tryz.ntmps47
  go_wp2_with fail
  go_loopw [3] (fun i wr => ∃ k : Nat, 1 ≤ k ∧ (k ≤ n ∨ k = 1) ∧ i = .int .i64 k ∧ (∀ (j : Nat) (a b : Pp), j + 1 < k → ps[j]? = some a → ps[j + 1]? = some b → pltB a b = true) ∧ Kp No w wr) (fun i _ => n + 1 - (intOf i).toNat)
  case atStart => exact ⟨1, by omega, by omega, rfl, fun j a b h => by omega, Kp.refl _ _⟩
  case round =>
    obtain ⟨k, hk1, hk, rfl, hz, hkp⟩ := hrel
    have HZ := Lib.hid hz
    have HK := Lib.hid hkp
    clear hz hkp
    by_cases hlt : k < n
    · obtain ⟨a, ha⟩ : ∃ x, ps[k - 1]? = some x := ⟨_, List.getElem?_eq_getElem (by omega)⟩
      obtain ⟨b, hb⟩ : ∃ x, ps[k]? = some x := ⟨_, List.getElem?_eq_getElem (by omega)⟩
      obtain ⟨j, rfl⟩ : ∃ j, k = j + 1 := ⟨k - 1, by omega⟩
      rw [Nat.add_sub_cancel] at ha
      obtain ⟨g, o, rfl, hg, hc⟩ := hx.2 j a ha
      obtain ⟨g', o', he, _, hd⟩ := hx.2 (j + 1) b hb
      cases he
      have c0 := HK.out.cell (hc 0 _ rfl) (fun h => h)
      have c1 := HK.out.cell (hc 1 _ rfl) (fun h => h)
      have d0 := HK.out.cell (hd 0 _ rfl) (fun h => h)
      have d1 := HK.out.cell (hd 1 _ rfl) (fun h => h)
      have HA := Lib.hid (And.intro ha hb)
      clear ha hb hc hd
      obtain ⟨a1, a2⟩ := a
      obtain ⟨b1, b2⟩ := b
      have LE := Lib.hid (fun w0 => less13_is (a1, a2) (b1, b2) w0)
      simp only [ep] at LE
      obtain ⟨pl, hpl⟩ : ∃ x, x = pltB (a1, a2) (b1, b2) := ⟨_, rfl⟩
      rw [← hpl] at LE
      have HPL := Lib.hid hpl
      clear hpl
      simp only [Nat.add_zero] at c0 d0
      have hj0 : (0 : Int) ≤ (j : Int) := by omega
      have hj1 : (0 : Int) ≤ (j : Int) + 1 := by omega
      have hjn : (j : Int) + 1 < (n : Int) := by omega
      have hjm : (j : Int) < (n : Int) := by omega
      have ht : ((j : Int) + 1).toNat = j + 1 := by omega
      have w0 : IntKind.i64.wrap (j : Int) = (j : Int) := by rw [IntKind.wrap_i64]; omega
      have w1 : IntKind.i64.wrap ((j : Int) + 1) = (j : Int) + 1 := by rw [IntKind.wrap_i64]; omega
      have w2 : IntKind.i64.wrap ((j : Int) + 1 + 1) = (j : Int) + 1 + 1 := by rw [IntKind.wrap_i64]; omega
      cases pl
      · have HB := Lib.hid HPL.out.symm
        clear HPL
        go_wp2_with fail
        refine wp_region_still_tail 9 (by kernel_rfl) (by kernel_rfl) ?_
        simp only [List.take_succ_cons, List.take_zero, List.drop_succ_cons, List.drop_zero]
        repeat still_step
        refine wpStill_nil ?_
        change wpList _ _ _ _ _ wr.drew
        go_wp2_with (go_at_call 88; refine (LE.out _).mono ?_; rintro e w' ⟨rfl, kg⟩; have KG := Lib.hid kg; clear kg)
        go_ret
        exact ⟨ret_bool (risB_no ps j _ _ HA.out.1 HA.out.2 HB.out).symm, HK.out.tr ((Kp.drew _ _).tr KG.out)⟩
      · have HB := Lib.hid HPL.out.symm
        clear HPL
        go_wp2_with fail
        refine wp_region_still_tail 9 (by kernel_rfl) (by kernel_rfl) ?_
        simp only [List.take_succ_cons, List.take_zero, List.drop_succ_cons, List.drop_zero]
        repeat still_step
        refine wpStill_nil ?_
        change wpList _ _ _ _ _ wr.drew
        go_wp2_with (go_at_call 88; refine (LE.out _).mono ?_; rintro e w' ⟨rfl, kg⟩; have KG := Lib.hid kg; clear kg)
        go_roundw
        case rel =>
          refine ⟨j + 1 + 1, by omega, by omega, by go_num, fun i a b hi h1 h2 => ?_, HK.out.tr ((Kp.drew _ _).tr KG.out)⟩
          by_cases e : i = j
          · subst e
            have := HA.out
            rw [h1, h2] at this
            obtain ⟨e1, e2⟩ := this
            cases e1
            cases e2
            exact HB.out
          · exact HZ.out i a b (by omega) h1 h2
        case measure => simp [intOf]; omega
    · go_wp2
      go_ret
      refine ⟨ret_bool (risB_yes ps fun i a b h1 h2 => HZ.out i a b ?_ h1 h2).symm, HK.out⟩
      have := (List.getElem?_eq_some_iff.1 h2).1
      omega
end Go.Proofs.YtlieijnhaolnhaaGreat

namespace Go.Proofs.YtlieijnhaolnhaaGreat
open Go.RowKit Go.Kq

def eqPp (x y : Pp) : Bool := decide (x.1 = y.1) && decide (x.2 = y.2)
theorem eqPp_iff (x y : Pp) : eqPp x y = true ↔ x = y := by
  obtain ⟨a, b⟩ := x
  obtain ⟨c, d⟩ := y
  simp [eqPp]
set_option maxRecDepth 100000 in
theorem pp_eql (x y : Pp) (w : World) : Sem.run Tryz.prog (binOp .eql 51 (.agg #[.int .i64 x.1, .int .i64 x.2]) (.agg #[.int .i64 y.1, .int .i64 y.2])) w = .ok (.bool (eqPp x y)) w := by
  have hS : Tryz.prog.underlying 51 = some (.struct (Tryz.prog.fieldsOf 51)) := by kernel_rfl
  have hp : Tryz.prog.stoodInHeld 51 = false := by kernel_rfl
  have u3 := Tryz.underlying3
  rw [run_eql_struct, show (10000 : Nat) = 9999 + 1 from rfl, run_equalIn_agg w 9999 51 _ _ hS hp]
  simp only [Program.fieldsOf, Tryz.underlying51, eqPp]
  go_simp
  by_cases h1 : x.1 = y.1 <;> by_cases h2 : x.2 = y.2 <;> simp [h1, h2]
theorem pp_guard (op : BinOp) (a b : Operand) (xs ys : Array Value) (w : World) : Sem.run Tryz.prog (eqGuard op 51 a b (.agg xs) (.agg ys)) w = .ok () w := run_eqGuard_agg w op 51 a b xs ys (by kernel_rfl)
def RowP (l : List Rw) (p : Pp) (z : Int) : Prop := (z = -1 ∧ ∀ x ∈ l, x.pp ≠ p) ∨ ∃ (k : Nat) (x : Rw), z = (k : Int) ∧ l[k]? = some x ∧ x.pp = p
set_option maxHeartbeats 2000000 in
set_option maxRecDepth 100000 in
theorem row13_is (A : Option Addr) (n ca : Nat) (l : List Rw) (p : Pp) (w : World) (hx : Rd rwC 5 w A n l) (hn : n ≤ 1000000) :
    Calls Tryz.prog 86 #[.slice A n ca, ep p] w fun e w' => (∃ z, e = .returned (.int .i64 z) ∧ RowP l p z) ∧ Kp No w w' := by
  have hl := hx.1
  obtain ⟨p1, p2⟩ := p
  simp only [ep]
  have KA := Lib.hid (Kp.alloc No w (.cells #[.int .i64 p1, .int .i64 p2] 51))
  have HB := Lib.hid (heap_alloc_new w (.cells #[.int .i64 p1, .int .i64 p2] 51))
  have hg := pp_guard
  go_enter Tryz.func86, Tryz.ntmps86
  go_wp2_with fail
  generalize w.alloc (.cells #[.int .i64 p1, .int .i64 p2] 51) = wa at *
  go_loopw [5] (fun i wr => ∃ k : Nat, k ≤ n ∧ i = .int .i64 k ∧ (∀ x ∈ l.take k, x.pp ≠ (p1, p2)) ∧ Kp No wa wr) (fun i _ => n - (intOf i).toNat)
  case atStart => exact ⟨0, by omega, rfl, fun x hx => by simp at hx, Kp.refl _ _⟩
  case round =>
    obtain ⟨k, hk, rfl, hz, hkp⟩ := hrel
    have HZ := Lib.hid hz
    have HK := Lib.hid hkp
    clear hz hkp
    by_cases hlt : k < n
    · obtain ⟨x, hxk⟩ : ∃ x, l[k]? = some x := ⟨_, List.getElem?_eq_getElem (by omega)⟩
      obtain ⟨g, o, rfl, hgl, hc⟩ := hx.2 k x hxk
      have KK := KA.out.tr HK.out
      have c0 := KK.cell (hc 0 _ rfl) id
      have c1 := KK.cell (hc 1 _ rfl) id
      obtain ⟨d0, d1, _, _⟩ := two_cells (HK.out.heap HB.out id)
      simp only [Nat.add_zero] at c0
      have HX := Lib.hid hxk
      have TK := Lib.hid (show l.take (k + 1) = l.take k ++ [x] by rw [List.take_add_one, hxk]; rfl)
      clear hxk hc KK
      obtain ⟨r, nn, b, f, c⟩ := x
      have q1 := pp_eql (r, nn) (p1, p2)
      have hk0 : (0 : Int) ≤ (k : Int) := by omega
      have hkn : (k : Int) < (n : Int) := by omega
      cases he : eqPp (r, nn) (p1, p2)
      · have HE := Lib.hid (show (r, nn) ≠ (p1, p2) from fun e => by rw [(eqPp_iff _ _).2 e] at he; cases he)
        rw [he] at q1
        simp only at q1
        clear he
        go_wp2_with fail
        go_quiet (fail)
        have KW := Lib.hid (HK.out.tr (Kp.drewN No wr nq))
        generalize wr.drewN nq = wq at *
        go_wp2_with fail
        go_round
        case rel =>
          refine ⟨k + 1, by omega, by go_num, fun y hy => ?_, KW.out⟩
          rw [TK.out] at hy
          rcases List.mem_append.1 hy with hy | hy
          · exact HZ.out y hy
          · rw [List.mem_singleton.1 hy]
            exact HE.out
        case measure => simp [intOf] <;> omega
      · have HE := Lib.hid ((eqPp_iff _ _).1 he)
        rw [he] at q1
        simp only at q1
        clear he
        go_wp2_with fail
        go_quiet (fail)
        have KW := Lib.hid (HK.out.tr (Kp.drewN No wr nq))
        generalize wr.drewN nq = wq at *
        go_wp2_with fail
        go_ret
        exact ⟨⟨_, rfl, .inr ⟨k, _, rfl, HX.out, HE.out⟩⟩, KA.out.tr KW.out⟩
    · obtain rfl : k = n := by omega
      have hz := HZ.out
      rw [List.take_of_length_le (by omega)] at hz
      have HZ2 := Lib.hid hz
      clear hz
      go_wp2_with fail
      go_ret
      exact ⟨⟨_, rfl, .inl ⟨rfl, HZ2.out⟩⟩, KA.out.tr HK.out⟩
/-- The error of pipes. -/
def knownE (l : List Rw) (pipes : List Pp) : Int := if risB pipes then (if pipes.any (fun p => !(rowOf l p).isSome) then 4 else 0) else 6
theorem RowP.neg {l : List Rw} {p : Pp} {z : Int} (h : RowP l p z) : (z < 0 ↔ rowOf l p = none) := by
  rcases h with ⟨rfl, h⟩ | ⟨k, x, rfl, hx, hp⟩
  · refine ⟨fun _ => ?_, fun _ => by omega⟩
    unfold rowOf
    rw [List.find?_eq_none]
    intro x hx
    simpa using h x hx
  · refine ⟨fun h => by omega, fun h => absurd hp (rowOf_none h x (List.mem_of_getElem? hx))⟩
set_option maxHeartbeats 2000000 in
set_option maxRecDepth 100000 in
theorem known13_is (A Q : Option Addr) (n ca np cq : Nat) (l : List Rw) (pipes : List Pp) (w : World) (hx : Rd rwC 5 w A n l) (hq : Rd pcells 2 w Q np pipes) (hn : n ≤ 1000000) (hnp : np ≤ 1000000) :
    Calls Tryz.prog 43 #[.slice A n ca, .slice Q np cq] w fun e w' => e = .returned (.int .i64 (knownE l pipes)) ∧ Kp No w w' := by
  have hql := hq.1
  have AS := Lib.hid (fun w0 (hk : Kp No w w0) => asc13_is Q np cq pipes w0 (hq.no hk) hnp)
  have RW := Lib.hid (fun p w0 (hk : Kp No w w0) => row13_is A n ca l p w0 (hx.no hk) hn)
  have HQ := Lib.hid hq
  obtain ⟨z, hz⟩ : ∃ z : Int, knownE l pipes = z := ⟨_, rfl⟩
  rw [hz]
  have HZ := Lib.hid hz
  clear hx hq hz
  cases hr : risB pipes
  · have h6 : z = 6 := by rw [← HZ.out]; unfold knownE; rw [hr]; rfl
    subst h6
    rw [hr] at AS
    clear hr
    go_enter Tryz.func43, Tryz.ntmps43
    go_wp2_with fail
    refine (AS.out _ (Kp.refl _ _)).mono ?_
    rintro _ w1 ⟨rfl, k1⟩
    go_wp2_with fail
    go_ret
    exact ⟨rfl, k1⟩
  · have h4 : z = if pipes.any (fun p => !(rowOf l p).isSome) then 4 else 0 := by rw [← HZ.out]; unfold knownE; rw [hr]; rfl
    rw [hr] at AS
    have HZ4 := Lib.hid h4
    clear hr h4 HZ
    go_enter Tryz.func43, Tryz.ntmps43
    go_wp2_with fail
    refine (AS.out _ (Kp.refl _ _)).mono ?_
    rintro _ w1 ⟨rfl, k1⟩
    have K1 := Lib.hid k1
    clear k1 AS
    go_wp2_with fail
    go_loopw [5] (fun i wr => ∃ k : Nat, k ≤ np ∧ i = .int .i64 k ∧ (∀ p ∈ pipes.take k, (rowOf l p).isSome = true) ∧ Kp No w wr) (fun i _ => np - (intOf i).toNat)
    case atStart => exact ⟨0, by omega, rfl, fun x hx => by simp at hx, K1.out⟩
    case round =>
      obtain ⟨k, hk, rfl, hz, hkp⟩ := hrel
      have HS := Lib.hid hz
      have HK := Lib.hid hkp
      clear hz hkp
      by_cases hlt : k < np
      · obtain ⟨p, hpk⟩ : ∃ x, pipes[k]? = some x := ⟨_, List.getElem?_eq_getElem (by omega)⟩
        obtain ⟨g, o, rfl, hgl, hc⟩ := HQ.out.2 k p hpk
        have c0 := HK.out.cell (hc 0 _ rfl) id
        have c1 := HK.out.cell (hc 1 _ rfl) id
        simp only [Nat.add_zero] at c0
        have HP := Lib.hid hpk
        have TK := Lib.hid (show pipes.take (k + 1) = pipes.take k ++ [p] by rw [List.take_add_one, hpk]; rfl)
        have RP := Lib.hid (RW.out p wr HK.out)
        clear hpk hc
        obtain ⟨p1, p2⟩ := p
        simp only [ep] at RP
        have hk0 : (0 : Int) ≤ (k : Int) := by omega
        have hkn : (k : Int) < (np : Int) := by omega
        go_wp2_with fail
        refine RP.out.mono ?_
        rintro _ w2 ⟨⟨z2, rfl, hz2⟩, k2⟩
        have HN := Lib.hid hz2.neg
        have K2 := Lib.hid (HK.out.tr k2)
        clear hz2 k2 RP
        by_cases hneg : z2 < 0
        · have hr0 := HN.out.1 hneg
          have hz4 : z = 4 := by
            rw [HZ4.out, if_pos]
            exact List.any_eq_true.2 ⟨(p1, p2), List.mem_of_getElem? HP.out, by rw [hr0]; rfl⟩
          subst hz4
          clear hr0
          go_wp2_with fail
          go_ret
          exact ⟨rfl, K2.out⟩
        · have hr0 : (rowOf l (p1, p2)).isSome = true := by
            cases hh : rowOf l (p1, p2) with
            | none => exact absurd (HN.out.2 hh) hneg
            | some x => rfl
          have HR0 := Lib.hid hr0
          clear hr0
          go_wp2_with fail
          go_round
          case rel =>
            refine ⟨k + 1, by omega, by go_num, fun y hy => ?_, K2.out⟩
            rw [TK.out] at hy
            rcases List.mem_append.1 hy with hy | hy
            · exact HS.out y hy
            · rw [List.mem_singleton.1 hy]
              exact HR0.out
          case measure => simp [intOf] <;> omega
      · obtain rfl : k = np := by omega
        have hz := HS.out
        rw [List.take_of_length_le (by omega)] at hz
        have hz0 : z = 0 := by
          rw [HZ4.out, if_neg]
          intro h
          obtain ⟨p, hp, hn⟩ := List.any_eq_true.1 h
          rw [hz p hp] at hn
          cases hn
        subst hz0
        clear hz
        go_wp2_with fail
        go_ret
        exact ⟨rfl, HK.out⟩
end Go.Proofs.YtlieijnhaolnhaaGreat

namespace Go.Proofs.YtlieijnhaolnhaaGreat
open Go.RowKit Go.Kq

theorem rowB_split {x : Rw} (h : rowB x = true) : x.r < 0 ∨ (0 ≤ x.r ∧ 39 < x.r) ∨ ((0 ≤ x.r ∧ x.r ≤ 39) ∧ x.n < 0) ∨ ((0 ≤ x.r ∧ x.r ≤ 39) ∧ 0 ≤ x.n ∧ 139 < x.n) ∨ ((0 ≤ x.r ∧ x.r ≤ 39) ∧ 0 ≤ x.n ∧ x.n ≤ 139) ∧ (toeB x.b x.f = false ∨ (toeB x.b x.f = true ∧ (x.c < 0 ∨ (0 ≤ x.c ∧ 16 ≤ x.c)))) := by
  unfold rowB at h
  cases ht : toeB x.b x.f
  all_goals
    rw [ht] at h
    simp at h
    simp
    omega
theorem rowB_no {x : Rw} (h : rowB x = false) : (0 ≤ x.r ∧ x.r ≤ 39) ∧ (0 ≤ x.n ∧ x.n ≤ 139) ∧ toeB x.b x.f = true ∧ 0 ≤ x.c ∧ x.c < 16 := by
  unfold rowB at h
  cases ht : toeB x.b x.f
  · rw [ht] at h
    simp at h
  · rw [ht] at h
    simp at h
    simp
    omega
theorem five_cells {w : World} {B : Nat} {a b c d e : Value} {t : TypeId} (h : w.heap[B]? = some (.cells #[a, b, c, d, e] t (0, 0))) : w.cell? ⟨B, 0, none⟩ = some a ∧ w.cell? ⟨B, 1, none⟩ = some b ∧ w.cell? ⟨B, 2, none⟩ = some c ∧ w.cell? ⟨B, 3, none⟩ = some d ∧ w.cell? ⟨B, 4, none⟩ = some e :=
  ⟨by rw [cell_of_row w B 0 _ _ _ h]; rfl, by rw [cell_of_row w B 1 _ _ _ h]; rfl, by rw [cell_of_row w B 2 _ _ _ h]; rfl, by rw [cell_of_row w B 3 _ _ _ h]; rfl, by rw [cell_of_row w B 4 _ _ _ h]; rfl⟩
theorem newsPp (w : World) (a b : Value) (t : TypeId) : ∀ j u, [a, b][j]? = some u → (w.alloc (.cells #[a, b] t)).cell? ((⟨w.heap.size, 0, none⟩ : Addr).add j) = some u := by
  intro j u hu
  rw [add_at, Nat.zero_add, cell_of_row _ _ _ _ _ _ (heap_alloc_new w _)]
  simpa using hu
set_option maxHeartbeats 4000000 in
set_option maxRecDepth 100000 in
theorem check13_is (A : Option Addr) (n cap : Nat) (l : List Rw) (w : World) (hx : Rd rwC 5 w A n l) :
    Calls Tryz.prog 17 #[.slice A n cap] w fun e w' => e = .returned (.int .i64 (chkE l)) ∧ Kp No w w' := by
  have hl := hx.1
  by_cases h1 : 2000 < n
  · have hE : chkE l = 3 := by unfold chkE; rw [if_pos (by omega)]
    rw [hE]
    clear hE
    go_enter Tryz.func17, Tryz.ntmps17
    go_wp2
    go_ret
    exact ⟨rfl, Kp.refl _ _⟩
  · obtain ⟨i0, hi, hz0, hz1, hz2⟩ := info_parts infoP
    have hE : chkE l = if l.any rowB then 2 else if risB (l.map Rw.pp) then 0 else 6 := by unfold chkE; rw [if_neg (by omega)]
    obtain ⟨z, hz⟩ : ∃ z : Int, chkE l = z := ⟨_, rfl⟩
    rw [hz]
    have HZ := Lib.hid (hz.symm.trans hE)
    have HX := Lib.hid hx
    have HI := Lib.hid hi
    have hn2 : (n : Int) ≤ 2000 := by omega
    clear hz hE hx hi
    go_enter Tryz.func17, Tryz.ntmps17
    go_wp2_with fail
    go_loopw [3, 4] (fun s i wr => ∃ k : Nat, k ≤ n ∧ i = .int .i64 k ∧ wr.ownsRow w.heap.size 51 2 s k (((l.map Rw.pp).take k).flatMap pcells) ∧ (∀ x ∈ l.take k, rowB x = false) ∧ Kp No w wr) (fun _ i _ => n - (intOf i).toNat)
    case atStart => exact ⟨0, by omega, rfl, ⟨rfl, .inl ⟨rfl, rfl⟩⟩, fun x hx => by simp at hx, Kp.refl _ _⟩
    case round =>
      obtain ⟨k, hk, rfl, hown, hgood, hkp⟩ := hrel
      have HOW := Lib.hid hown
      have HG := Lib.hid hgood
      have HK := Lib.hid hkp
      obtain ⟨av, cv, rfl, _, _, _⟩ := own_form hown
      clear hown hgood hkp
      by_cases hlt : k < n
      · obtain ⟨x, hxk⟩ : ∃ x, l[k]? = some x := ⟨_, List.getElem?_eq_getElem (by omega)⟩
        obtain ⟨b, o, rfl, hb, hc⟩ := HX.out.2 k x hxk
        have c0 := HK.out.cell (hc 0 _ rfl) id
        have c1 := HK.out.cell (hc 1 _ rfl) id
        have c2 := HK.out.cell (hc 2 _ rfl) id
        have c3 := HK.out.cell (hc 3 _ rfl) id
        have c4 := HK.out.cell (hc 4 _ rfl) id
        simp only [Nat.add_zero] at c0
        have HSN := Lib.hid (show (l.map Rw.pp).take (k + 1) = (l.map Rw.pp).take k ++ [x.pp] by rw [List.take_add_one, List.getElem?_map, hxk]; rfl)
        have TK := Lib.hid (show l.take (k + 1) = l.take k ++ [x] by rw [List.take_add_one, hxk]; rfl)
        have HXK := Lib.hid hxk
        have TO := fun w0 => toe13_is x.b x.f w0
        simp only [toeV] at TO
        have hk0 : (0 : Int) ≤ (k : Int) := by omega
        have hkn : (k : Int) < (n : Int) := by omega
        have ka := Kp.alloc No wr (.cells #[.int .i64 x.r, .int .i64 x.n, .int .i64 x.b, .int .i64 x.f, .int .i64 x.c] 53)
        have KA := Lib.hid (HK.out.tr ka)
        have HB5 := Lib.hid (heap_alloc_new wr (.cells #[.int .i64 x.r, .int .i64 x.n, .int .i64 x.b, .int .i64 x.f, .int .i64 x.c] 53))
        have OW := Lib.hid (own_kp HOW.out ka (fun _ _ h => h))
        clear hxk hc ka
        cases hbad : rowB x
        · obtain ⟨a1, a2, a3, a4⟩ := rowB_no hbad
          rw [a3] at TO
          have TO := Lib.hid TO
          have HBD := Lib.hid hbad
          clear hbad a3
          go_wp2_with fail
          refine (TO.out _).mono ?_
          rintro _ w2 ⟨rfl, k2⟩
          have K2 := Lib.hid (KA.out.tr k2)
          obtain ⟨d0, d1, d2, d3, d4⟩ := five_cells (k2.heap HB5.out id)
          have OW2 := Lib.hid (own_kp (own_kp OW.out k2 (fun _ _ h => h)) (Kp.alloc No w2 (.cells #[.int .i64 x.r, .int .i64 x.n] 51)) (fun _ _ h => h))
          have HNW := Lib.hid (newsPp w2 (.int .i64 x.r) (.int .i64 x.n) 51)
          have SZ := Lib.hid (show w.heap.size ≤ w2.heap.size from K2.out.size)
          clear k2 c0 c1 c2 c3 c4
          go_wp2_with (at_builtin; refine stop_in ?_)
          refine stop_out ?_
          refine wpL_append_any rfl _ _ 36 rfl w.heap.size 51 i0 _ 2 16 Tryz.underlying36 HI.out hz0 hz1 hz2 rfl (by decide) (.slice av k cv) k (((l.map Rw.pp).take k).flatMap pcells) rfl OW2.out (some ⟨w2.heap.size, 0, none⟩) 1 1 (pcells x.pp) rfl rfl (fun h => by cases h) (fun ad had j u hu => by cases had; exact HNW.out j u hu) (pcells_one _) (by unfold maxLen; omega) (by omega) (by have := SZ.out; simp; omega) ?_
          intro v' w5 hown' hgrow _
          have hk5 : Kp No w w5 := K2.out.trans ((Kp.alloc (fun g => w.heap.size ≤ g) _ _).tr (Kp.grown hgrow fun g hg _ => (own_ge HOW.out hg).1)) (fun g hg h => absurd h (Nat.not_le.2 hg))
          have HO5 := Lib.hid hown'
          have HK5 := Lib.hid hk5
          clear hown' hgrow hk5 d0 d1 d2 d3 d4
          go_wp2_with fail
          go_round
          case rel =>
            refine ⟨k + 1, by omega, by go_num, by rw [HSN.out, flat_snoc]; exact HO5.out, fun y hy => ?_, HK5.out⟩
            rw [TK.out] at hy
            rcases List.mem_append.1 hy with hy | hy
            · exact HG.out y hy
            · rw [List.mem_singleton.1 hy]
              exact HBD.out
          case measure => simp [intOf] <;> omega
        · have hz2 : z = 2 := by
            rw [HZ.out, if_pos]
            exact List.any_eq_true.2 ⟨x, List.mem_of_getElem? HXK.out, hbad⟩
          subst hz2
          rcases rowB_split hbad with a1 | ⟨a1, a2⟩ | ⟨a1, a2⟩ | ⟨a1, a2, a3⟩ | ⟨⟨a1, a2, a3⟩, ht⟩
          · clear hbad TO
            go_wp2_with fail
            go_ret
            exact ⟨rfl, KA.out⟩
          · clear hbad TO
            go_wp2_with fail
            go_ret
            exact ⟨rfl, KA.out⟩
          · clear hbad TO
            go_wp2_with fail
            go_ret
            exact ⟨rfl, KA.out⟩
          · clear hbad TO
            go_wp2_with fail
            go_ret
            exact ⟨rfl, KA.out⟩
          · rcases ht with ht | ⟨ht, a4⟩
            · rw [ht] at TO
              replace TO := Lib.hid TO
              clear hbad ht
              go_wp2_with fail
              refine (TO.out _).mono ?_
              rintro _ w2 ⟨rfl, k2⟩
              have K2 := Lib.hid (KA.out.tr k2)
              clear k2
              go_wp2_with fail
              go_ret
              exact ⟨rfl, K2.out⟩
            · rw [ht] at TO
              replace TO := Lib.hid TO
              clear hbad ht
              rcases a4 with a4 | ⟨a4, a5⟩
              · go_wp2_with fail
                refine (TO.out _).mono ?_
                rintro _ w2 ⟨rfl, k2⟩
                have K2 := Lib.hid (KA.out.tr k2)
                obtain ⟨d0, d1, d2, d3, d4⟩ := five_cells (k2.heap HB5.out id)
                clear k2
                go_wp2_with fail
                go_ret
                exact ⟨rfl, K2.out⟩
              · go_wp2_with fail
                refine (TO.out _).mono ?_
                rintro _ w2 ⟨rfl, k2⟩
                have K2 := Lib.hid (KA.out.tr k2)
                obtain ⟨d0, d1, d2, d3, d4⟩ := five_cells (k2.heap HB5.out id)
                clear k2
                go_wp2_with fail
                go_ret
                exact ⟨rfl, K2.out⟩
      · obtain rfl : k = n := by omega
        have hf : (l.map Rw.pp).take k = l.map Rw.pp := List.take_of_length_le (by simp; omega)
        have hO := HOW.out
        rw [hf] at hO
        have hg := HG.out
        rw [List.take_of_length_le (by omega)] at hg
        have hr := Rd.of_own pcells_len (by omega) hO
        have AS := asc13_is av k cv (l.map Rw.pp) wr hr (by omega)
        have hany : l.any rowB = false := by
          rw [List.any_eq_false]
          intro x hx
          rw [hg x hx]
          decide
        have hz9 := HZ.out
        rw [hany, if_neg (by decide)] at hz9
        clear hf hO hg hr hany
        cases hr2 : risB (l.map Rw.pp)
        all_goals
          rw [hr2] at AS hz9
          have HZ2 := Lib.hid hz9
          clear hz9 hr2
          replace AS := Lib.hid AS
          go_wp2_with fail
          refine AS.out.mono ?_
          rintro e w3 ⟨rfl, k3⟩
          go_wp2_with fail
          go_ret
          exact ⟨ret_i64 HZ2.out.symm, HK.out.tr k3⟩
end Go.Proofs.YtlieijnhaolnhaaGreat
