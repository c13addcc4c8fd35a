/- Chapter 14: the walk of NetworkTells. -/
import Derived.Test.YtjjecadfcndkaaaStp
import Derived.Test.YtjjecadfcndkaaaRss
import Derived.Test.YtjjecadfcndkaaaFar
namespace Go.Proofs.Ytjjecadfcndkaaa
open Go.RowKit Go.Kq Go.Flow

/-- What both sides return, alike. -/
structure BothT (Z : Nz) (A B D E : Option Addr) (ca cb dc ec : Nat) (hi : Bool) (ds fs : List Int) (x : Int) (r : Bool) (c : Int) (P : Int → Int → Prop) : Prop where
  t1 : ∀ W, RdNz W A B Z → RdI .i64 W D ds.length ds → RdI .i64 W E fs.length fs → Calls Try.prog 25 #[netZ Z A B ca cb, .bool hi, .slice D ds.length dc, .slice E fs.length ec] W fun e w' => e = .returned (.tuple #[.bool r, .int .i64 c]) ∧ Kp No W w'
  t2 : ∀ W, RdNz W A B Z → RdI .i64 W D ds.length ds → RdI .i64 W E fs.length fs → Calls Try.prog 26 #[netZ Z A B ca cb, .bool hi, .slice D ds.length dc, .slice E fs.length ec] W fun e w' => e = .returned (.tuple #[.bool r, .int .i64 c]) ∧ Kp No W w'
  s1 : ∀ W, RdNz W A B Z → RdI .i64 W D ds.length ds → Calls Try.prog 24 #[netZ Z A B ca cb, .bool hi, .slice D ds.length dc, .int .i64 x] W fun e w' => ∃ s k, P s k ∧ e = .returned (.tuple #[.int .i64 s, .int .i64 k]) ∧ Kp No W w'
  s2 : ∀ s k, P s k → ∀ W, RdNz W A B Z → RdI .i64 W D ds.length ds → Calls Try.prog 27 #[netZ Z A B ca cb, .bool hi, .slice D ds.length dc, .int .i64 x] W fun e w' => e = .returned (.tuple #[.int .i64 s, .int .i64 k]) ∧ Kp No W w'
theorem botht_bad (Z : Nz) (c : Int) (hc : ChkIs Z c) (hz : c ≠ 0) (A B D E : Option Addr) (ca cb dc ec : Nat) (hi : Bool) (ds fs : List Int) (x : Int) : BothT Z A B D E ca cb dc ec hi ds fs x false c (fun s k => s = 0 ∧ k = c) where
  t1 := fun W hR _ _ => Steady_bad Z c hc hz A B D E ca cb ds.length dc fs.length ec hi W hR
  t2 := fun W hR _ _ => rste_bad Z c hc hz A B D E ca cb ds.length dc fs.length ec hi W hR
  s1 := fun W hR _ => (Spare_bad Z c hc hz A B D ca cb ds.length dc hi x W hR).mono fun _ _ ⟨h, hk⟩ => ⟨0, c, ⟨rfl, rfl⟩, h, hk⟩
  s2 := fun s k ⟨h1, h2⟩ W hR _ => by
    subst h1 h2
    exact rspa_bad Z _ hc hz A B D ca cb ds.length dc hi x W hR
theorem botht_arg (N : Net) (hN : N.Ok) (A B D E : Option Addr) (ca cb dc ec : Nat) (hi : Bool) (ds fs : List Int) (x : Int) (hnil : D = none → ds.length = 0 ∧ dc = 0) (h20 : ds.length ≤ 1000000) (hb : ¬ (ds.length = N.ch.length ∧ ∀ d ∈ ds, dOk d)) : BothT (nz N) A B D E ca cb dc ec hi ds fs x false 2 (fun s k => s = 0 ∧ k = 2) where
  t1 := fun W hR hD _ => by
    rw [netZ_nz]
    exact Steady_arg N hN A B D E ca cb dc fs.length ec hi ds W (rdnet_z hR) hD hnil (.inl hb)
  t2 := fun W hR hD _ => by
    rw [netZ_nz]
    exact rste_arg N hN A B D E ca cb dc fs.length ec hi ds W (rdnet_z hR) hD h20 (.inl hb)
  s1 := fun W hR hD => by
    rw [netZ_nz]
    exact (Spare_arg N hN A B D ca cb ds.length dc hi ds x W (rdnet_z hR) hD hb).mono fun _ _ ⟨h, hk⟩ => ⟨0, 2, ⟨rfl, rfl⟩, h, hk⟩
  s2 := fun s k ⟨h1, h2⟩ W hR hD => by
    subst h1 h2
    rw [netZ_nz]
    exact rspa_arg N hN A B D ca cb dc hi ds x W (rdnet_z hR) hD h20 hb
theorem spa_ref (N : Net) (hN : N.Ok) (h8 : N.n ≤ 8) (h14 : N.tr.length ≤ 14) (A B D : Option Addr) (ca cb dc : Nat) (hi : Bool) (ds : List Int) (x : Int) (hnil : D = none → ds.length = 0 ∧ dc = 0) (hl : ds.length = N.ch.length) (hd : ∀ d ∈ ds, dOk d) (s k : Int) (h : Spa N hi ds x s k) (W : World) (hR : RdNz W A B (nz N)) (hD : RdI .i64 W D ds.length ds) : Calls Try.prog 27 #[netZ (nz N) A B ca cb, .bool hi, .slice D ds.length dc, .int .i64 x] W fun e w' => e = .returned (.tuple #[.int .i64 s, .int .i64 k]) ∧ Kp No W w' := by
  rw [netZ_nz]
  rcases h with ⟨hx, rfl, rfl⟩ | ⟨hx0, hx1, ⟨rfl, rfl, R, hRm, hlt⟩ | ⟨rfl, hs0, hsp⟩⟩
  · exact rspa_out N hN A B D ca cb dc hi ds x W (rdnet_z hR) hD hl hd hx
  · exact rspa_none N hN h8 h14 A B D ca cb dc hi ds x W (rdnet_z hR) hD hl hd hx0 hx1 fun F hF => by
      have := feas_wt hl hF hRm.1
      omega
  · obtain ⟨xi, rfl⟩ : ∃ xi : Nat, x = xi := ⟨x.toNat, by omega⟩
    exact rspa_some N hN h8 h14 A B D ca cb dc hi ds xi s W (rdnet_z hR) hD hnil hl hd (by omega) hs0 hsp
open Classical in
theorem botht_ok (N : Net) (hN : N.Ok) (h8 : N.n ≤ 8) (h14 : N.tr.length ≤ 14) (A B D E : Option Addr) (ca cb dc ec : Nat) (hi : Bool) (ds fs : List Int) (x : Int) (hnil : D = none → ds.length = 0 ∧ dc = 0) (hl : ds.length = N.ch.length) (hd : ∀ d ∈ ds, dOk d) (hf : fs.length = N.tr.length) : BothT (nz N) A B D E ca cb dc ec hi ds fs x (decide (N.Feas hi ds fs)) 0 (Spa N hi ds x) where
  t1 := fun W hR hD hE => by
    rw [netZ_nz]
    refine (Steady_ok N hN A B D E ca cb dc ec hi ds fs W (rdnet_z hR) hD hE hnil hl hd hf).mono ?_
    rintro e w' ⟨r, rfl, hr, hk⟩
    have : r = decide (N.Feas hi ds fs) := by rw [Bool.eq_iff_iff, decide_eq_true_iff]; exact hr
    exact ⟨by rw [this], hk⟩
  t2 := fun W hR hD hE => by
    rw [netZ_nz]
    refine (rste_ok N hN A B D E ca cb dc ec hi ds fs W (rdnet_z hR) hD hE hl hd hf).mono ?_
    rintro e w' ⟨r, rfl, hr, hk⟩
    have : r = decide (N.Feas hi ds fs) := by rw [Bool.eq_iff_iff, decide_eq_true_iff]; exact hr
    exact ⟨by rw [this], hk⟩
  s1 := fun W hR hD => by
    rw [netZ_nz]
    refine (Spare_ok N hN A B D ca cb ds.length dc hi ds x W (rdnet_z hR) hD hnil hl hd).mono ?_
    rintro e w' ⟨s, c, rfl, hs, hk⟩
    exact ⟨s, c, hs, rfl, hk⟩
  s2 := fun s k h W hR hD => spa_ref N hN h8 h14 A B D ca cb dc hi ds x hnil hl hd s k h W hR hD
theorem botht_len (N : Net) (hN : N.Ok) (h8 : N.n ≤ 8) (h14 : N.tr.length ≤ 14) (A B D E : Option Addr) (ca cb dc ec : Nat) (hi : Bool) (ds fs : List Int) (x : Int) (hnil : D = none → ds.length = 0 ∧ dc = 0) (h20 : ds.length ≤ 1000000) (hl : ds.length = N.ch.length) (hd : ∀ d ∈ ds, dOk d) (hf : fs.length ≠ N.tr.length) : BothT (nz N) A B D E ca cb dc ec hi ds fs x false 2 (Spa N hi ds x) where
  t1 := fun W hR hD _ => by
    rw [netZ_nz]
    exact Steady_arg N hN A B D E ca cb dc fs.length ec hi ds W (rdnet_z hR) hD hnil (.inr (by omega))
  t2 := fun W hR hD _ => by
    rw [netZ_nz]
    exact rste_arg N hN A B D E ca cb dc fs.length ec hi ds W (rdnet_z hR) hD h20 (.inr (by omega))
  s1 := fun W hR hD => by
    rw [netZ_nz]
    refine (Spare_ok N hN A B D ca cb ds.length dc hi ds x W (rdnet_z hR) hD hnil hl hd).mono ?_
    rintro e w' ⟨s, c, rfl, hs, hk⟩
    exact ⟨s, c, hs, rfl, hk⟩
  s2 := fun s k h W hR hD => spa_ref N hN h8 h14 A B D ca cb dc hi ds x hnil hl hd s k h W hR hD
set_option maxHeartbeats 4000000 in
set_option maxRecDepth 100000 in
theorem tells_far (Z : Nz) (A B D E : Option Addr) (ca cb dn dc en ec : Nat) (hi : Bool) (x : Int) (w : World) (hf : FarZ Z 8 14 ∨ 20 < dn ∨ 70 < en) :
    Calls Try.prog 8 #[netZ Z A B ca cb, askV2 hi D E dn dc en ec x] w fun e w' => e = .returned (.bool true) ∧ Kp No w w' := by
  have HA := Lib.hid awake_any
  have HF := Lib.hid (far_any Z 8 14 A B ca cb)
  unfold netZ at HF
  unfold netZ askV2
  have hcase : FarZ Z 8 14 ∨ (¬ FarZ Z 8 14 ∧ (20 : Int) < dn) ∨ (¬ FarZ Z 8 14 ∧ (dn : Int) ≤ 20 ∧ (70 : Int) < en) := by
    by_cases h : FarZ Z 8 14
    · exact .inl h
    · rcases hf with h2 | h2 | h2
      · exact absurd h2 h
      · exact .inr (.inl ⟨h, by omega⟩)
      · by_cases h3 : 20 < dn
        · exact .inr (.inl ⟨h, by omega⟩)
        · exact .inr (.inr ⟨h, by omega, by omega⟩)
  clear hf
  rcases hcase with hz | ⟨hz, hd⟩ | ⟨hz, hd, he⟩
  · rw [decide_eq_true hz] at HF
    clear hz
    go_enter Try.func8, Try.ntmps8
    go_wp2_with fail
    obtain ⟨hk0, b0, b1⟩ := two_box w #[.int .i64 Z.n, .slice A Z.tr.length ca, .slice B Z.ch.length cb] #[.bool hi, .slice D dn dc, .slice E en ec, .int .i64 x] 25 40
    refine (HF.out _).mono ?_
    rintro e w1 ⟨rfl, hk1⟩
    have K1 := Lib.hid (hk0.tr hk1)
    clear hk0 b0 b1 hk1
    go_wp2_with fail
    refine (HA.out _).mono ?_
    rintro e w2 ⟨rfl, hk2⟩
    go_wp2_with fail
    refine bodyPost_ret (v := .bool true) (by simp [results, Try.results8, go_sem]) rfl ⟨rfl, K1.out.tr hk2⟩
  all_goals
    rw [decide_eq_false hz] at HF
    clear hz
    go_enter Try.func8, Try.ntmps8
    go_wp2_with fail
    obtain ⟨hk0, b0, b1⟩ := two_box w #[.int .i64 Z.n, .slice A Z.tr.length ca, .slice B Z.ch.length cb] #[.bool hi, .slice D dn dc, .slice E en ec, .int .i64 x] 25 40
    refine (HF.out _).mono ?_
    rintro e w1 ⟨rfl, hk1⟩
    have K1 := Lib.hid (hk0.tr hk1)
    obtain ⟨y0, y1, y2, y3⟩ := box4' (hk1.heap b1 (fun h => h))
    clear hk0 b0 b1 hk1
    go_wp2_with fail
    refine (HA.out _).mono ?_
    rintro e w2 ⟨rfl, hk2⟩
    go_wp2_with fail
    refine bodyPost_ret (v := .bool true) (by simp [results, Try.results8, go_sem]) rfl ⟨rfl, K1.out.tr hk2⟩
set_option maxHeartbeats 4000000 in
set_option maxRecDepth 100000 in
theorem tells_near (Z : Nz) (A B D E : Option Addr) (ca cb dc ec : Nat) (hi : Bool) (x : Int) (ds fs : List Int) (r : Bool) (c : Int) (P : Int → Int → Prop) (w : World) (hf : ¬ FarZ Z 8 14) (hd : ds.length ≤ 20) (he : fs.length ≤ 70) (hR : RdNz w A B Z) (hD : RdI .i64 w D ds.length ds) (hE : RdI .i64 w E fs.length fs) (hB : BothT Z A B D E ca cb dc ec hi ds fs x r c P) :
    Calls Try.prog 8 #[netZ Z A B ca cb, askV2 hi D E ds.length dc fs.length ec x] w fun e w' => e = .returned (.bool true) ∧ Kp No w w' := by
  have HA := Lib.hid awake_any
  have HF := Lib.hid (far_any Z 8 14 A B ca cb)
  rw [decide_eq_false hf] at HF
  have T1 := Lib.hid hB.t1
  have T2 := Lib.hid hB.t2
  have S1 := Lib.hid hB.s1
  have S2 := Lib.hid hB.s2
  have HR := Lib.hid hR
  have HD := Lib.hid hD
  have HE := Lib.hid hE
  have hd2 : (ds.length : Int) ≤ 20 := by omega
  have he2 : (fs.length : Int) ≤ 70 := by omega
  clear hf hR hD hE hB hd he
  unfold netZ at HF T1 T2 S1 S2
  unfold netZ askV2
  go_enter Try.func8, Try.ntmps8
  go_wp2_with fail
  obtain ⟨hk0, b0, b1⟩ := two_box w #[.int .i64 Z.n, .slice A Z.tr.length ca, .slice B Z.ch.length cb] #[.bool hi, .slice D ds.length dc, .slice E fs.length ec, .int .i64 x] 25 40
  refine (HF.out _).mono ?_
  rintro e w1 ⟨rfl, hk1⟩
  have K1 := Lib.hid (hk0.tr hk1)
  have B0 := Lib.hid (hk1.heap b0 (fun h => h))
  have B1 := Lib.hid (hk1.heap b1 (fun h => h))
  clear hk0 b0 b1 hk1
  obtain ⟨x0, x1, x2⟩ := box3 B0.out
  obtain ⟨y0, y1, y2, y3⟩ := box4' B1.out
  go_wp2_with fail
  refine (T1.out _ (HR.out.no K1.out) (HD.out.no K1.out) (HE.out.no K1.out)).mono ?_
  rintro e w2 ⟨rfl, hk2⟩
  have K2 := Lib.hid (K1.out.tr hk2)
  have C0 := Lib.hid (hk2.heap B0.out (fun h => h))
  have C1 := Lib.hid (hk2.heap B1.out (fun h => h))
  clear hk2 x0 x1 x2 y0 y1 y2 y3
  obtain ⟨x0, x1, x2⟩ := box3 C0.out
  obtain ⟨y0, y1, y2, y3⟩ := box4' C1.out
  go_wp2_with fail
  refine (T2.out _ (HR.out.no K2.out) (HD.out.no K2.out) (HE.out.no K2.out)).mono ?_
  rintro e w3 ⟨rfl, hk3⟩
  have K3 := Lib.hid (K2.out.tr hk3)
  have D0 := Lib.hid (hk3.heap C0.out (fun h => h))
  have D1 := Lib.hid (hk3.heap C1.out (fun h => h))
  clear hk3 x0 x1 x2 y0 y1 y2 y3
  obtain ⟨x0, x1, x2⟩ := box3 D0.out
  obtain ⟨y0, y1, y2, y3⟩ := box4' D1.out
  go_wp2_with fail
  refine (S1.out _ (HR.out.no K3.out) (HD.out.no K3.out)).mono ?_
  rintro e w4 ⟨s, k, hP, rfl, hk4⟩
  have HP := Lib.hid hP
  have K4 := Lib.hid (K3.out.tr hk4)
  have E0 := Lib.hid (hk4.heap D0.out (fun h => h))
  have E1 := Lib.hid (hk4.heap D1.out (fun h => h))
  clear hP hk4 x0 x1 x2 y0 y1 y2 y3
  obtain ⟨x0, x1, x2⟩ := box3 E0.out
  obtain ⟨y0, y1, y2, y3⟩ := box4' E1.out
  go_wp2_with fail
  refine (S2.out s k HP.out _ (HR.out.no K4.out) (HD.out.no K4.out)).mono ?_
  rintro e w5 ⟨rfl, hk5⟩
  have K5 := Lib.hid (K4.out.tr hk5)
  clear hk5 x0 x1 x2 y0 y1 y2 y3
  go_wp2_with fail
  refine (HA.out _).mono ?_
  rintro e w6 ⟨rfl, hk6⟩
  go_wp2_with fail
  refine bodyPost_ret (v := .bool true) (by simp [results, Try.results8, go_sem]) rfl ⟨rfl, K5.out.tr hk6⟩
theorem ttells_any (Z : Nz) (A B D E : Option Addr) (ca cb dn dc en ec : Nat) (hi : Bool) (x : Int) (ds fs : List Int) (w : World) (hR : RdNz w A B Z) (hD : RdI .i64 w D dn ds) (hnil : D = none → dn = 0 ∧ dc = 0) (hE : RdI .i64 w E en fs) :
    Calls Try.prog 8 #[netZ Z A B ca cb, askV2 hi D E dn dc en ec x] w fun e w' => e = .returned (.bool true) ∧ Kp No w w' := by
  by_cases hf : FarZ Z 8 14 ∨ 20 < dn ∨ 70 < en
  · exact tells_far Z A B D E ca cb dn dc en ec hi x w hf
  · obtain ⟨hdl, _⟩ := id hD
    obtain ⟨hel, _⟩ := id hE
    subst hdl hel
    have hz7 : ¬ FarZ Z 8 14 := fun h => hf (.inl h)
    have hd : ds.length ≤ 20 := by omega
    have he : fs.length ≤ 70 := by omega
    obtain ⟨c, hc⟩ : ∃ c, ChkIs Z c := by
      by_cases h1 : NLong Z
      · exact ⟨3, .inl ⟨h1, rfl⟩⟩
      · by_cases h2 : NBad Z
        · exact ⟨2, .inr (.inl ⟨h1, h2, rfl⟩)⟩
        · exact ⟨0, .inr (.inr ⟨h1, h2, rfl⟩)⟩
    by_cases hz : c = 0
    · subst hz
      obtain ⟨N, hN, rfl⟩ := chk_zero hc
      have h8 : N.n ≤ 8 := by
        have h2 := hN.n2
        by_cases h : N.n ≤ 8
        · exact h
        · exact absurd (.inl ⟨by show (8 : Int) < N.n; omega, by show (N.n : Int) ≤ 24; omega⟩) hz7
      have h14 : N.tr.length ≤ 14 := by
        have h2 := hN.t1
        by_cases h : N.tr.length ≤ 14
        · exact h
        · refine absurd (.inr (.inl ⟨?_, ?_⟩)) hz7
          · show (14 : Int) < ((N.tr.map tkz).length : Nat)
            rw [List.length_map]
            omega
          · show (((N.tr.map tkz).length : Nat) : Int) ≤ 60
            rw [List.length_map]
            omega
      by_cases hds : ds.length = N.ch.length ∧ ∀ d ∈ ds, dOk d
      · by_cases hfl : fs.length = N.tr.length
        · exact tells_near (nz N) A B D E ca cb dc ec hi x ds fs _ 0 _ w hz7 hd he hR hD hE (botht_ok N hN h8 h14 A B D E ca cb dc ec hi ds fs x hnil hds.1 hds.2 hfl)
        · exact tells_near (nz N) A B D E ca cb dc ec hi x ds fs _ 2 _ w hz7 hd he hR hD hE (botht_len N hN h8 h14 A B D E ca cb dc ec hi ds fs x hnil (by omega) hds.1 hds.2 hfl)
      · exact tells_near (nz N) A B D E ca cb dc ec hi x ds fs _ 2 _ w hz7 hd he hR hD hE (botht_arg N hN A B D E ca cb dc ec hi ds fs x hnil (by omega) hds)
    · exact tells_near Z A B D E ca cb dc ec hi x ds fs _ c _ w hz7 hd he hR hD hE (botht_bad Z c hc hz A B D E ca cb dc ec hi ds fs x)
end Go.Proofs.Ytjjecadfcndkaaa
