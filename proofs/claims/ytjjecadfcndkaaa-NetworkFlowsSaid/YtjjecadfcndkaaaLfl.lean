/- Chapter 14: the walk of NetworkFlows. -/
import Derived.Test.YtjjecadfcndkaaaRsy
import Derived.Test.YtjjecadfcndkaaaFar
namespace Go.Proofs.Ytjjecadfcndkaaa
open Go.RowKit Go.Kq Go.Flow

set_option maxHeartbeats 2000000 in
theorem rsup_bad (Z : Nz) (c : Int) (hc : ChkIs Z c) (hz : c ≠ 0) (A B D : Option Addr) (ca cb dn dc : Nat) (hi : Bool) (w : World) (hR : RdNz w A B Z) :
    Calls Try.prog 19 #[netZ Z A B ca cb, .bool hi, .slice D dn dc] w fun e w' => e = .returned (.tuple #[.slice none 0 0, .slice none 0 0, .int .i64 c]) ∧ Kp No w w' := by
  have H1 := Lib.hid (rdem_bad Z c hc hz A B D ca cb dn dc)
  have d1 : (c != 0) = true := by rw [bne_iff_ne]; exact hz
  have d2 : (c == 0) = false := by rw [beq_eq_false_iff_ne]; exact hz
  clear hc hz
  unfold netZ at H1 ⊢
  go_enter Try.func19, Try.ntmps19
  go_wp2_with fail
  have K0 := Lib.hid (Kp.alloc No w (.cells #[.int .i64 Z.n, .slice A Z.tr.length ca, .slice B Z.ch.length cb] 25))
  refine (H1.out _ (hR.no K0.out)).mono ?_
  rintro e w1 ⟨rfl, hk1⟩
  go_wp2_with fail
  refine bodyPost_ret (v := .tuple #[.slice none 0 0, .slice none 0 0, .int .i64 c]) (by simp [results, Try.results19, go_sem]) rfl ⟨rfl, K0.out.tr hk1⟩
set_option maxHeartbeats 2000000 in
theorem rsup_arg (N : Net) (hN : N.Ok) (A B D : Option Addr) (ca cb dc : Nat) (hi : Bool) (ds : List Int) (w : World) (hR : RdNet w A B N) (hD : RdI .i64 w D ds.length ds) (h20 : ds.length ≤ 1000000) (hb : ¬ (ds.length = N.ch.length ∧ ∀ d ∈ ds, dOk d)) :
    Calls Try.prog 19 #[netV N A B ca cb, .bool hi, .slice D ds.length dc] w fun e w' => e = .returned (.tuple #[.slice none 0 0, .slice none 0 0, .int .i64 2]) ∧ Kp No w w' := by
  have H1 := Lib.hid (fun W hR hD => rdem_arg N hN A B D ca cb dc ds W hR hD h20 hb)
  clear hN hb
  unfold netV at H1 ⊢
  go_enter Try.func19, Try.ntmps19
  go_wp2_with fail
  have K0 := Lib.hid (Kp.alloc No w (.cells #[.int .i64 N.n, .slice A N.tr.length ca, .slice B N.ch.length cb] 25))
  refine (H1.out _ (hR.no K0.out) (hD.no K0.out)).mono ?_
  rintro e w1 ⟨rfl, hk1⟩
  go_wp2_with fail
  refine bodyPost_ret (v := .tuple #[.slice none 0 0, .slice none 0 0, .int .i64 2]) (by simp [results, Try.results19, go_sem]) rfl ⟨rfl, K0.out.tr hk1⟩
/-- What both sides return, alike. -/
def OneSup (F : List Int) (M : List Nat) (c : Int) (w : World) (e : Ending) (w' : World) : Prop :=
  ∃ a ca' b cb', e = .returned (.tuple #[.slice a F.length ca', .slice b M.length cb', .int .i64 c]) ∧ RdI .i64 w' a F.length F ∧ RdI .i64 w' b M.length (M.map Int.ofNat) ∧ Kp No w w'
structure BothS (Z : Nz) (A B D : Option Addr) (ca cb dc : Nat) (hi : Bool) (ds : List Int) (c : Int) (P : List Int → List Nat → Prop) : Prop where
  s1 : ∀ W, RdNz W A B Z → RdI .i64 W D ds.length ds → Calls Try.prog 18 #[netZ Z A B ca cb, .bool hi, .slice D ds.length dc] W fun e w' => ∃ F M, P F M ∧ OneSup F M c W e w'
  s2 : ∀ F M, P F M → ∀ W, RdNz W A B Z → RdI .i64 W D ds.length ds → Calls Try.prog 19 #[netZ Z A B ca cb, .bool hi, .slice D ds.length dc] W fun e w' => OneSup F M c W e w'
  ml : ∀ F M, P F M → F.length ≤ 100 ∧ M.length ≤ 100
theorem one_nil {c : Int} {w w' : World} {e : Ending} (he : e = .returned (.tuple #[.slice none 0 0, .slice none 0 0, .int .i64 c])) (hk : Kp No w w') : OneSup [] [] c w e w' := ⟨none, 0, none, 0, he, RdI.nil _ _, RdI.nil _ _, hk⟩
theorem boths_bad (Z : Nz) (c : Int) (hc : ChkIs Z c) (hz : c ≠ 0) (A B D : Option Addr) (ca cb dc : Nat) (hi : Bool) (ds : List Int) : BothS Z A B D ca cb dc hi ds c (fun F M => F = [] ∧ M = []) where
  s1 := fun W hR _ => (Supply_bad Z c hc hz A B D ca cb ds.length dc hi W hR).mono fun _ _ ⟨h, hk⟩ => ⟨[], [], ⟨rfl, rfl⟩, one_nil h hk⟩
  s2 := fun F M ⟨h1, h2⟩ W hR _ => by
    subst h1 h2
    exact (rsup_bad Z c hc hz A B D ca cb ds.length dc hi W hR).mono fun _ _ ⟨h, hk⟩ => one_nil h hk
  ml := fun F M ⟨h1, h2⟩ => by subst h1 h2; simp
theorem boths_arg (N : Net) (hN : N.Ok) (A B D : Option Addr) (ca cb dc : Nat) (hi : Bool) (ds : List Int) (h20 : ds.length ≤ 1000000) (hb : ¬ (ds.length = N.ch.length ∧ ∀ d ∈ ds, dOk d)) : BothS (nz N) A B D ca cb dc hi ds 2 (fun F M => F = [] ∧ M = []) where
  s1 := fun W hR hD => by
    rw [netZ_nz]
    exact (Supply_arg N hN A B D ca cb ds.length dc hi ds W (rdnet_z hR) hD hb).mono fun _ _ ⟨h, hk⟩ => ⟨[], [], ⟨rfl, rfl⟩, one_nil h hk⟩
  s2 := fun F M ⟨h1, h2⟩ W hR hD => by
    subst h1 h2
    rw [netZ_nz]
    exact (rsup_arg N hN A B D ca cb dc hi ds W (rdnet_z hR) hD h20 hb).mono fun _ _ ⟨h, hk⟩ => one_nil h hk
  ml := fun F M ⟨h1, h2⟩ => by subst h1 h2; simp
theorem boths_ok (N : Net) (hN : N.Ok) (h8 : N.n ≤ 8) (h14 : N.tr.length ≤ 14) (A B D : Option Addr) (ca cb dc : Nat) (hi : Bool) (ds : List Int) (hnil : D = none → ds.length = 0 ∧ dc = 0) (hl : ds.length = N.ch.length) (hd : ∀ d ∈ ds, dOk d) : BothS (nz N) A B D ca cb dc hi ds 0 (fun F M => (N.Least hi ds F ∧ M = []) ∨ (∃ R, Min N.A0 (N.wt hi ds) R ∧ N.wt hi ds R < sumZ ds ∧ F = [] ∧ M = mem R N.n)) where
  s1 := fun W hR hD => by
    rw [netZ_nz]
    refine (supply_all N hN A B D ca cb ds.length dc hi ds W (rdnet_z hR) hD hnil hl hd).mono ?_
    rintro e w' ⟨hk, ⟨F, v, hF, rfl, ho⟩ | ⟨R, v, hRm, hlt, rfl, ho⟩⟩
    · obtain ⟨a, cp, rfl, hI⟩ := own_rdl ho
      exact ⟨F, [], .inl ⟨hF, rfl⟩, a, cp, none, 0, rfl, hI, RdI.nil _ _, hk⟩
    · obtain ⟨a, cp, rfl, hI⟩ := own_rdn ho
      exact ⟨[], mem R N.n, .inr ⟨R, hRm, hlt, rfl, rfl⟩, none, 0, a, cp, rfl, RdI.nil _ _, hI, hk⟩
  s2 := fun F M h W hR hD => by
    rw [netZ_nz]
    rcases h with ⟨hF, hM⟩ | ⟨R, hRm, hlt, hF, hM⟩
    · subst hM
      refine (rsup_yes N hN h8 h14 A B D ca cb dc hi ds F W (rdnet_z hR) hD hl hd hF.1).mono ?_
      rintro e w' ⟨v, F', rfl, hF', ho, hk⟩
      rw [hF'.uniq hF] at ho
      obtain ⟨a, cp, rfl, hI⟩ := own_rdl ho
      exact ⟨a, cp, none, 0, rfl, hI, RdI.nil _ _, hk⟩
    · subst hF hM
      refine (rsup_no N hN h8 h14 A B D ca cb dc hi ds R W (rdnet_z hR) hD hnil hl hd hRm hlt).mono ?_
      rintro e w' ⟨v, rfl, ho, hk⟩
      obtain ⟨a, cp, rfl, hI⟩ := own_rdn ho
      exact ⟨none, 0, a, cp, rfl, RdI.nil _ _, hI, hk⟩
  ml := fun F M h => by
    rcases h with ⟨hF, hM⟩ | ⟨R, _, _, hF, hM⟩
    · have h1 := hF.1.len
      subst hM
      exact ⟨by omega, by simp⟩
    · have h1 := mem_le R N.n
      subst hF hM
      exact ⟨by simp, by omega⟩
set_option maxHeartbeats 4000000 in
set_option maxRecDepth 100000 in
theorem flows_far (Z : Nz) (A B D E : Option Addr) (ca cb dn dc en ec : Nat) (hi : Bool) (x : Int) (w : World) (hf : FarZ Z 7 10 ∨ 20 < dn) :
    Calls Try.prog 4 #[netZ Z A B ca cb, askV2 hi D E dn dc en ec x] w fun e w' => e = .returned (.bool true) ∧ Kp No w w' := by
  have HA := Lib.hid awake_any
  have HF := Lib.hid (far_any Z 7 10 A B ca cb)
  unfold netZ at HF
  unfold netZ askV2
  by_cases hz : FarZ Z 7 10
  · rw [decide_eq_true hz] at HF
    clear hf hz
    go_enter Try.func4, Try.ntmps4
    go_wp2_with fail
    obtain ⟨hk0, b0, b1⟩ := two_box w #[.int .i64 Z.n, .slice A Z.tr.length ca, .slice B Z.ch.length cb] #[.bool hi, .slice D dn dc, .slice E en ec, .int .i64 x] 25 40
    refine (HF.out _).mono ?_
    rintro e w1 ⟨rfl, hk1⟩
    have K1 := Lib.hid (hk0.tr hk1)
    clear hk0 b0 b1 hk1
    go_wp2_with fail
    refine (HA.out _).mono ?_
    rintro e w2 ⟨rfl, hk2⟩
    go_wp2_with fail
    refine bodyPost_ret (v := .bool true) (by simp [results, Try.results4, go_sem]) rfl ⟨rfl, K1.out.tr hk2⟩
  · rw [decide_eq_false hz] at HF
    have hd : (20 : Int) < dn := by
      rcases hf with h | h
      · exact absurd h hz
      · omega
    clear hf hz
    go_enter Try.func4, Try.ntmps4
    go_wp2_with fail
    obtain ⟨hk0, b0, b1⟩ := two_box w #[.int .i64 Z.n, .slice A Z.tr.length ca, .slice B Z.ch.length cb] #[.bool hi, .slice D dn dc, .slice E en ec, .int .i64 x] 25 40
    refine (HF.out _).mono ?_
    rintro e w1 ⟨rfl, hk1⟩
    have K1 := Lib.hid (hk0.tr hk1)
    obtain ⟨y0, y1, y2, y3⟩ := box4' (hk1.heap b1 (fun h => h))
    clear hk0 b0 b1 hk1
    go_wp2_with fail
    refine (HA.out _).mono ?_
    rintro e w2 ⟨rfl, hk2⟩
    go_wp2_with fail
    refine bodyPost_ret (v := .bool true) (by simp [results, Try.results4, go_sem]) rfl ⟨rfl, K1.out.tr hk2⟩
set_option maxHeartbeats 4000000 in
set_option maxRecDepth 100000 in
theorem flows_near (Z : Nz) (A B D E : Option Addr) (ca cb dc en ec : Nat) (hi : Bool) (x : Int) (ds : List Int) (c : Int) (P : List Int → List Nat → Prop) (w : World) (hf : ¬ FarZ Z 7 10) (hd : ds.length ≤ 20) (hR : RdNz w A B Z) (hD : RdI .i64 w D ds.length ds) (hB : BothS Z A B D ca cb dc hi ds c P) :
    Calls Try.prog 4 #[netZ Z A B ca cb, askV2 hi D E ds.length dc en ec x] w fun e w' => e = .returned (.bool true) ∧ Kp No w w' := by
  have HA := Lib.hid awake_any
  have HF := Lib.hid (far_any Z 7 10 A B ca cb)
  rw [decide_eq_false hf] at HF
  have S1 := Lib.hid hB.s1
  have S2 := Lib.hid hB.s2
  have ML := Lib.hid hB.ml
  have HR := Lib.hid hR
  have HD := Lib.hid hD
  have hd2 : (ds.length : Int) ≤ 20 := by omega
  clear hf hR hD hB hd
  unfold netZ at HF S1 S2
  unfold netZ askV2
  go_enter Try.func4, Try.ntmps4
  go_wp2_with fail
  obtain ⟨hk0, b0, b1⟩ := two_box w #[.int .i64 Z.n, .slice A Z.tr.length ca, .slice B Z.ch.length cb] #[.bool hi, .slice D ds.length dc, .slice E en ec, .int .i64 x] 25 40
  refine (HF.out _).mono ?_
  rintro e w1 ⟨rfl, hk1⟩
  have K1 := Lib.hid (hk0.tr hk1)
  have B0 := Lib.hid (hk1.heap b0 (fun h => h))
  have B1 := Lib.hid (hk1.heap b1 (fun h => h))
  clear hk0 b0 b1 hk1
  obtain ⟨x0, x1, x2⟩ := box3 B0.out
  obtain ⟨y0, y1, y2, y3⟩ := box4' B1.out
  go_wp2_with fail
  refine (S1.out _ (HR.out.no K1.out) (HD.out.no K1.out)).mono ?_
  rintro e w2 ⟨F, M, hP, a, ca', b, cb', rfl, hI, hJ, hk2⟩
  have HP := Lib.hid hP
  have K2 := Lib.hid (K1.out.tr hk2)
  have C0 := Lib.hid (hk2.heap B0.out (fun h => h))
  have C1 := Lib.hid (hk2.heap B1.out (fun h => h))
  have I2 := Lib.hid hI
  have J2 := Lib.hid hJ
  obtain ⟨hfl, hml⟩ := ML.out F M hP
  clear hP hI hJ hk2 x0 x1 x2 y0 y1 y2 y3
  obtain ⟨x0, x1, x2⟩ := box3 C0.out
  obtain ⟨y0, y1, y2, y3⟩ := box4' C1.out
  go_wp2_with fail
  refine (S2.out F M HP.out _ (HR.out.no K2.out) (HD.out.no K2.out)).mono ?_
  rintro e w3 ⟨a', cc, b', cd', rfl, hI, hJ, hk3⟩
  have K3 := Lib.hid (K2.out.tr hk3)
  have I3 := Lib.hid (I2.out.no hk3)
  have J3 := Lib.hid (J2.out.no hk3)
  have I3' := Lib.hid hI
  have J3' := Lib.hid hJ
  have HSL := Lib.hid (fun W hx hy => sameL_any a a' F.length F.length ca' cc F F W hx hy (by omega))
  have HSI := Lib.hid (fun W hx hy => sameI_any b b' M.length M.length cb' cd' (M.map Int.ofNat) (M.map Int.ofNat) W hx hy (by omega))
  rw [decide_eq_true rfl] at HSL HSI
  clear hI hJ hk3 x0 x1 x2 y0 y1 y2 y3
  go_wp2_with fail
  refine (HSL.out _ I3.out I3'.out).mono ?_
  rintro e w4 ⟨rfl, hk4⟩
  have HK4 := Lib.hid hk4
  clear hk4
  go_wp2_with fail
  refine (HSI.out _ (J3.out.no HK4.out) (J3'.out.no HK4.out)).mono ?_
  rintro e w5 ⟨rfl, hk5⟩
  have HK5 := Lib.hid (HK4.out.tr hk5)
  clear hk5
  go_wp2_with fail
  refine (HA.out _).mono ?_
  rintro e w6 ⟨rfl, hk6⟩
  go_wp2_with fail
  refine bodyPost_ret (v := .bool true) (by simp [results, Try.results4, go_sem]) rfl ⟨rfl, K3.out.tr (HK5.out.tr hk6)⟩
theorem tflows_any (Z : Nz) (A B D E : Option Addr) (ca cb dn dc en ec : Nat) (hi : Bool) (x : Int) (ds : List Int) (w : World) (hR : RdNz w A B Z) (hD : RdI .i64 w D dn ds) (hnil : D = none → dn = 0 ∧ dc = 0) :
    Calls Try.prog 4 #[netZ Z A B ca cb, askV2 hi D E dn dc en ec x] w fun e w' => e = .returned (.bool true) ∧ Kp No w w' := by
  by_cases hf : FarZ Z 7 10 ∨ 20 < dn
  · exact flows_far Z A B D E ca cb dn dc en ec hi x w hf
  · obtain ⟨hdl, _⟩ := id hD
    subst hdl
    have hz7 : ¬ FarZ Z 7 10 := fun h => hf (.inl h)
    have hd : ds.length ≤ 20 := by omega
    obtain ⟨c, hc⟩ : ∃ c, ChkIs Z c := by
      by_cases h1 : NLong Z
      · exact ⟨3, .inl ⟨h1, rfl⟩⟩
      · by_cases h2 : NBad Z
        · exact ⟨2, .inr (.inl ⟨h1, h2, rfl⟩)⟩
        · exact ⟨0, .inr (.inr ⟨h1, h2, rfl⟩)⟩
    by_cases hz : c = 0
    · subst hz
      obtain ⟨N, hN, rfl⟩ := chk_zero hc
      have h7 : N.n ≤ 7 := by
        have h2 := hN.n2
        by_cases h : N.n ≤ 7
        · exact h
        · exact absurd (.inl ⟨by show (7 : Int) < N.n; omega, by show (N.n : Int) ≤ 24; omega⟩) hz7
      have h10 : N.tr.length ≤ 10 := by
        have h2 := hN.t1
        by_cases h : N.tr.length ≤ 10
        · exact h
        · refine absurd (.inr (.inl ⟨?_, ?_⟩)) hz7
          · show (10 : Int) < ((N.tr.map tkz).length : Nat)
            rw [List.length_map]
            omega
          · show (((N.tr.map tkz).length : Nat) : Int) ≤ 60
            rw [List.length_map]
            omega
      by_cases hds : ds.length = N.ch.length ∧ ∀ d ∈ ds, dOk d
      · exact flows_near (nz N) A B D E ca cb dc en ec hi x ds 0 _ w hz7 hd hR hD (boths_ok N hN (by omega) (by omega) A B D ca cb dc hi ds hnil hds.1 hds.2)
      · exact flows_near (nz N) A B D E ca cb dc en ec hi x ds 2 _ w hz7 hd hR hD (boths_arg N hN A B D ca cb dc hi ds (by omega) hds)
    · exact flows_near Z A B D E ca cb dc en ec hi x ds c _ w hz7 hd hR hD (boths_bad Z c hc hz A B D ca cb dc hi ds)
end Go.Proofs.Ytjjecadfcndkaaa
