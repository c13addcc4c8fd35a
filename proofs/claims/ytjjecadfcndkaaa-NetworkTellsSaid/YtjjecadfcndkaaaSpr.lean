/- Chapter 14: Supply's errors; the walk of Spare. -/
import Derived.Test.YtjjecadfcndkaaaSpl
namespace Go.Proofs.Ytjjecadfcndkaaa
open Go.RowKit Go.Kq Go.Flow

set_option maxHeartbeats 1000000 in
theorem Supply_bad (Z : Nz) (c : Int) (hc : ChkIs Z c) (hz : c ≠ 0) (A B D : Option Addr) (ca cb dn dc : Nat) (hi : Bool) (w : World) (hR : RdNz w A B Z) :
    Calls Try.prog 18 #[netZ Z A B ca cb, .bool hi, .slice D dn dc] w fun e w' => e = .returned (.tuple #[.slice none 0 0, .slice none 0 0, .int .i64 c]) ∧ Kp No w w' := by
  have H1 := Lib.hid (demands_bad Z c hc hz A B D ca cb dn dc hi)
  have d1 : (c != 0) = true := by rw [bne_iff_ne]; exact hz
  have d2 : (c == 0) = false := by rw [beq_eq_false_iff_ne]; exact hz
  clear hc hz
  unfold netZ at H1 ⊢
  go_enter Try.func18, Try.ntmps18
  go_wp2_with fail
  have K0 := Lib.hid (Kp.alloc No w (.cells #[.int .i64 Z.n, .slice A Z.tr.length ca, .slice B Z.ch.length cb] 25))
  refine (H1.out _ (hR.no K0.out)).mono ?_
  rintro e w1 ⟨rfl, hk1⟩
  go_wp2_with fail
  refine bodyPost_ret (v := .tuple #[.slice none 0 0, .slice none 0 0, .int .i64 c]) (by simp [results, Try.results18, go_sem]) rfl ⟨rfl, K0.out.tr hk1⟩
set_option maxHeartbeats 1000000 in
theorem Supply_arg (N : Net) (hN : N.Ok) (A B D : Option Addr) (ca cb dn dc : Nat) (hi : Bool) (ds : List Int) (w : World) (hR : RdNet w A B N) (hD : RdI .i64 w D dn ds) (hb : ¬ (ds.length = N.ch.length ∧ ∀ d ∈ ds, dOk d)) :
    Calls Try.prog 18 #[netV N A B ca cb, .bool hi, .slice D dn dc] w fun e w' => e = .returned (.tuple #[.slice none 0 0, .slice none 0 0, .int .i64 2]) ∧ Kp No w w' := by
  have H1 := Lib.hid (fun w hR hD => demands_arg N hN A B D ca cb dn dc hi ds w hR hD hb)
  clear hN hb
  unfold netV at H1 ⊢
  go_enter Try.func18, Try.ntmps18
  go_wp2_with fail
  have K0 := Lib.hid (Kp.alloc No w (.cells #[.int .i64 N.n, .slice A N.tr.length ca, .slice B N.ch.length cb] 25))
  refine (H1.out _ (hR.no K0.out) (hD.no K0.out)).mono ?_
  rintro e w1 ⟨rfl, hk1⟩
  go_wp2_with fail
  refine bodyPost_ret (v := .tuple #[.slice none 0 0, .slice none 0 0, .int .i64 2]) (by simp [results, Try.results18, go_sem]) rfl ⟨rfl, K0.out.tr hk1⟩
set_option maxHeartbeats 1000000 in
theorem Spare_bad (Z : Nz) (c : Int) (hc : ChkIs Z c) (hz : c ≠ 0) (A B D : Option Addr) (ca cb dn dc : Nat) (hi : Bool) (x : Int) (w : World) (hR : RdNz w A B Z) :
    Calls Try.prog 24 #[netZ Z A B ca cb, .bool hi, .slice D dn dc, .int .i64 x] w fun e w' => e = .returned (.tuple #[.int .i64 0, .int .i64 c]) ∧ Kp No w w' := by
  have H1 := Lib.hid (demands_bad Z c hc hz A B D ca cb dn dc hi)
  have d1 : (c != 0) = true := by rw [bne_iff_ne]; exact hz
  have d2 : (c == 0) = false := by rw [beq_eq_false_iff_ne]; exact hz
  clear hc hz
  unfold netZ at H1 ⊢
  go_enter Try.func24, Try.ntmps24
  go_wp2_with fail
  have K0 := Lib.hid (Kp.alloc No w (.cells #[.int .i64 Z.n, .slice A Z.tr.length ca, .slice B Z.ch.length cb] 25))
  refine (H1.out _ (hR.no K0.out)).mono ?_
  rintro e w1 ⟨rfl, hk1⟩
  go_wp2_with fail
  refine bodyPost_ret (v := .tuple #[.int .i64 0, .int .i64 c]) (by simp [results, Try.results24, go_sem]) rfl ⟨rfl, K0.out.tr hk1⟩
set_option maxHeartbeats 1000000 in
theorem Spare_arg (N : Net) (hN : N.Ok) (A B D : Option Addr) (ca cb dn dc : Nat) (hi : Bool) (ds : List Int) (x : Int) (w : World) (hR : RdNet w A B N) (hD : RdI .i64 w D dn ds) (hb : ¬ (ds.length = N.ch.length ∧ ∀ d ∈ ds, dOk d)) :
    Calls Try.prog 24 #[netV N A B ca cb, .bool hi, .slice D dn dc, .int .i64 x] w fun e w' => e = .returned (.tuple #[.int .i64 0, .int .i64 2]) ∧ Kp No w w' := by
  have H1 := Lib.hid (fun w hR hD => demands_arg N hN A B D ca cb dn dc hi ds w hR hD hb)
  clear hN hb
  unfold netV at H1 ⊢
  go_enter Try.func24, Try.ntmps24
  go_wp2_with fail
  have K0 := Lib.hid (Kp.alloc No w (.cells #[.int .i64 N.n, .slice A N.tr.length ca, .slice B N.ch.length cb] 25))
  refine (H1.out _ (hR.no K0.out) (hD.no K0.out)).mono ?_
  rintro e w1 ⟨rfl, hk1⟩
  go_wp2_with fail
  refine bodyPost_ret (v := .tuple #[.int .i64 0, .int .i64 2]) (by simp [results, Try.results24, go_sem]) rfl ⟨rfl, K0.out.tr hk1⟩
/-- What Spare returns of demands that are well. -/
def Spa (N : Net) (h : Bool) (ds : List Int) (x s c : Int) : Prop :=
  ((x < 0 ∨ (N.ch.length : Int) ≤ x) ∧ s = 0 ∧ c = 2) ∨
  (0 ≤ x ∧ x < N.ch.length ∧ ((c = 9 ∧ s = 0 ∧ ∃ R, Min N.A0 (N.wt h ds) R ∧ N.wt h ds R < sumZ ds) ∨ (c = 0 ∧ 0 ≤ s ∧ N.Sp h ds x.toNat s)))
set_option maxHeartbeats 8000000 in
set_option maxRecDepth 100000 in
theorem Spare_ok (N : Net) (hN : N.Ok) (A B D : Option Addr) (ca cb dn dc : Nat) (hi : Bool) (ds : List Int) (x : Int) (w : World) (hR : RdNet w A B N) (hD : RdI .i64 w D dn ds) (hnil : D = none → dn = 0 ∧ dc = 0) (hl : ds.length = N.ch.length) (hd : ∀ d ∈ ds, dOk d) :
    Calls Try.prog 24 #[netV N A B ca cb, .bool hi, .slice D dn dc, .int .i64 x] w fun e w' => ∃ s c, e = .returned (.tuple #[.int .i64 s, .int .i64 c]) ∧ Spa N hi ds x s c ∧ Kp No w w' := by
  have ht60 := hN.t1
  have hc16 := hN.c1
  have hn1 := hN.n1
  have hn24 := hN.n2
  have H1 := Lib.hid (fun w hR hD => demands_ok N hN A B D ca cb dn dc hi ds w hR hD hnil hl hd)
  have HN := Lib.hid hN
  have HDO := Lib.hid hd
  have HL := Lib.hid hl
  clear hN hd hnil hl
  unfold netV at H1 ⊢
  go_enter Try.func24, Try.ntmps24
  go_wp2_with fail
  have K0 := Lib.hid (Kp.alloc No w (.cells #[.int .i64 N.n, .slice A N.tr.length ca, .slice B N.ch.length cb] 25))
  refine (H1.out _ (hR.no K0.out) (hD.no K0.out)).mono ?_
  rintro e w1 ⟨b, sl, L, d, rfl, hw, hp, hd0, he, hk1⟩
  obtain ⟨hle, hcl⟩ := dem_end HN.out HL.out HDO.out hp he
  have K1 := Lib.hid (K0.out.tr hk1)
  have B1 := Lib.hid (hk1.heap (heap_alloc_new w (.cells #[.int .i64 N.n, .slice A N.tr.length ca, .slice B N.ch.length cb] 25)) (fun h => h))
  have HW := Lib.hid hw
  have HP := Lib.hid hp
  have HCL := Lib.hid hcl
  have HG := Lib.hid (lay_good HN.out hi ds (fun x hx => by have := HDO.out x hx; unfold dOk at this; omega)).1
  have x1 : w1.cell? ⟨w.heap.size, 1, none⟩ = some (.slice A N.tr.length ca) := by rw [cell_of_row w1 _ 1 _ _ _ B1.out]; rfl
  have x2 : w1.cell? ⟨w.heap.size, 2, none⟩ = some (.slice B N.ch.length cb) := by rw [cell_of_row w1 _ 2 _ _ _ B1.out]; rfl
  clear hw hp he hk1 hcl
  by_cases hx0 : x < 0
  · go_wp2_with fail
    refine bodyPost_ret (v := .tuple #[.int .i64 0, .int .i64 2]) (by simp [results, Try.results24, go_sem]) rfl ⟨_, _, rfl, .inl ⟨.inl hx0, rfl, rfl⟩, K1.out⟩
  · by_cases hx1 : (N.ch.length : Int) ≤ x
    · go_wp2_with fail
      refine bodyPost_ret (v := .tuple #[.int .i64 0, .int .i64 2]) (by simp [results, Try.results24, go_sem]) rfl ⟨_, _, rfl, .inl ⟨.inr hx1, rfl, rfl⟩, K1.out⟩
    · obtain ⟨xi, rfl⟩ : ∃ xi : Nat, x = xi := ⟨x.toNat, by omega⟩
      have hxi : xi < N.ch.length := by omega
      clear hx0 hx1
      by_cases hds : d = sumI ds
      · have hb : (d == sumI ds) = true := by rw [beq_iff_eq]; exact hds
        rw [hb]
        have HDS := Lib.hid (hds.trans (sumIZ ds))
        clear hds hb
        obtain ⟨a, cap, rfl, _, _, _⟩ := own_form HW.out.row
        have hLl : L.length = N.tr.length + N.ch.length := by rw [HP.out.same.len, lay_length HL.out]
        generalize hM : L.length = M at *
        have HM := Lib.hid hM
        have HLL := Lib.hid hLl
        have hM1 : N.tr.length ≤ M := by omega
        have hM2 : M ≤ 100 := by omega
        clear hM hLl
        go_wp2_with fail
        go_loopw [13] (fun i wr => ∃ (j : Nat) (L' : List Pi), N.tr.length ≤ j ∧ j ≤ M ∧ i = .int .i64 j ∧ Web wr (w.heap.size + 1) b N.n (.slice a M cap) L' ∧ L'.map ff = L.map ff ∧ (∀ i p, L'[i]? = some p → (p.st = true ↔ N.tr.length ≤ i ∧ i < j)) ∧ Kp (Row (.slice a M cap)) w1 wr) (fun i _ => M - (intOf i).toNat)
        case atStart =>
          refine ⟨N.tr.length, L, Nat.le_refl _, hM1, rfl, by have := HW.out; simpa using this, rfl, fun i p hpi => ?_, Kp.refl _ _⟩
          have := same_st HP.out.same (lay_st N hi ds) p (List.mem_of_getElem? hpi)
          rw [this]
          simp
        case round =>
          obtain ⟨j, L', hj1, hj2, rfl, hweb, hff, hst, hkp⟩ := hrel
          have HWB := Lib.hid hweb
          have HFF := Lib.hid hff
          have HST := Lib.hid hst
          have hLM := web_len hweb
          have HLM := Lib.hid hLM
          obtain ⟨q0, q1, _, _⟩ := cell_head hweb.head
          clear hweb hff hst hLM
          by_cases hlt : j < M
          · obtain ⟨g, rfl⟩ := web_some HWB.out (by omega)
            obtain ⟨p, hpj⟩ : ∃ p, L'[j]? = some p := ⟨_, List.getElem?_eq_getElem (by have := HLM.out; omega)⟩
            have hrow := HWB.out.row
            rw [HLM.out] at hrow
            obtain ⟨g', hgg, _, _, _, hcs⟩ := own_at c5_len hrow hpj (by decide)
            cases hgg
            have y4 := (hcs 4 _ rfl).1
            have z4 := (hcs 4 _ rfl).2
            have HPJ := Lib.hid hpj
            clear hrow hcs hpj
            go_wp2_with fail
            go_roundw
            case rel => exact ⟨j + 1, L'.set j { p with st := true }, by omega, by omega, by go_num, HWB.out.stop HPJ.out, (ff_set HPJ.out true).trans HFF.out, fun i q hq => by
              have hjl := (List.getElem?_eq_some_iff.1 HPJ.out).1
              by_cases e : j = i
              · subst e
                rw [List.getElem?_set_self hjl] at hq
                cases hq
                simp
                omega
              · rw [List.getElem?_set_ne e] at hq
                rw [HST.out i q hq]
                omega, hkp.tr (Kp.setCell _ _ _ _ fun _ => rfl)⟩
            case measure => simp [intOf]; omega
          · obtain rfl : j = M := by omega
            have HSS := Lib.hid (show ∀ i p, L'[i]? = some p → (p.st = true ↔ N.tr.length ≤ i) from fun i p hpi => by
              rw [HST.out i p hpi]
              have h1 := (List.getElem?_eq_some_iff.1 hpi).1
              have h2 := HLM.out
              omega)
            have hbx : ∀ o v, w1.cell? ⟨w.heap.size, o, none⟩ = some v → wr.cell? ⟨w.heap.size, o, none⟩ = some v := fun o v hv => hkp.cell hv (fun h => by
              have := (own_ge HW.out.row (g := w.heap.size) (by have h2 : Row (.slice a j cap) w.heap.size := h; exact h2)).1
              rw [World.size_alloc] at this
              omega)
            have hx2 := hbx 2 _ x2
            obtain ⟨c, hcx⟩ : ∃ c, N.ch[xi]? = some c := ⟨_, List.getElem?_eq_getElem hxi⟩
            have hkw : Kp No w wr := K1.out.trans hkp fun k hk h => by
              have := (own_ge HW.out.row (g := k) h).1
              rw [World.size_alloc] at this
              omega
            obtain ⟨bb, o, rfl, _, y0⟩ := (hR.no hkw).chest hcx
            obtain ⟨dd, hdx⟩ : ∃ dd, ds[xi]? = some dd := ⟨_, List.getElem?_eq_getElem (by have := HL.out; omega)⟩
            have hck := HN.out.ck c (List.mem_of_getElem? hcx)
            have HCX := Lib.hid hcx
            have HDX := Lib.hid hdx
            have HKW := Lib.hid hkw
            have HGD := Lib.hid (show Good N.n L' from fun q hq => by
              obtain ⟨i, hqi⟩ := List.mem_iff_getElem?.1 hq
              have e1 : L'.map sk = (N.lay hi ds).map sk := (ff_sk HFF.out).trans HP.out.same.sk
              obtain ⟨r, hr, e2, e3, e4⟩ := sk_at e1 hqi
              have := HG.out r (List.mem_of_getElem? hr)
              rw [e2, e3, e4] at this
              exact this)
            have HFT := Lib.hid (ff_fit HFF.out HP.out.fit)
            clear hbx hcx hdx hkw
            go_wp2_with fail
            refine (push_any (w.heap.size + 1) b N.n (.slice a j cap) L' 0 c 120000000000000 wr HWB.out HGD.out HFT.out (by omega) (by omega) (by omega) (by omega) (by have := HLM.out; omega) (by omega)).mono ?_
            rintro e w4 ⟨L2, s, rfl, hw4, hpu4, hs0, hs1, hend, hk4⟩
            have HPD : Pushed (N.lay hi ds) L 0 N.n (sumZ ds) := HDS.out ▸ HP.out
            obtain ⟨hfe, _⟩ := spare_feas HN.out HL.out HPD HFF.out HSS.out hpu4 HCX.out HDX.out
            have hlow : s < 120000000000000 := by
              have h1 := feas_wt (by rw [List.length_set]; exact HL.out) hfe (S := fun v => decide (v = 0)) ⟨by simp, by simp; omega⟩
              rw [sum_set ds xi dd s HDX.out] at h1
              have hA : N.A1 fun v => decide (v = 0) := ⟨⟨by simp, by simp; omega⟩, fun c hc => by have := HN.out.ck c hc; simp; omega⟩
              rw [wt_a1 hA] at h1
              have h2 := HN.out.out_le hi (fun v => decide (v = 0))
              have h3 := (sumI_le ds HDO.out).1
              rw [sumIZ] at h3
              omega
            have hsp : N.Sp hi ds xi s := by
              rcases hend with h | ⟨b2, m2, _, h2, h3⟩
              · omega
              · exact spare_max HN.out HL.out HPD HFF.out HSS.out hpu4 HCX.out HDX.out h2 h3
            have HSP := Lib.hid hsp
            have HK4 := Lib.hid hk4
            clear hw4 hpu4 hend hk4 hfe hsp HPD
            go_wp2_with fail
            refine bodyPost_ret (v := .tuple #[.int .i64 s, .int .i64 0]) (by simp [results, Try.results24, go_sem]) rfl ⟨_, _, rfl, .inr ⟨by omega, by omega, .inr ⟨rfl, hs0, by simpa using HSP.out⟩⟩, ?_⟩
            exact HKW.out.trans HK4.out fun k hk h => by
              have := (own_ge HW.out.row (g := k) h).1
              rw [World.size_alloc] at this
              omega
      · have hb : (d == sumI ds) = false := by rw [beq_eq_false_iff_ne]; exact hds
        rw [hb]
        have hmin : ∃ R, Min N.A0 (N.wt hi ds) R ∧ N.wt hi ds R < sumZ ds := by
          obtain ⟨b2, m2, h1, h2, h3⟩ := HCL.out
          obtain ⟨h4, h5⟩ := push_min HP.out h1 h2 h3
          exact ⟨_, h4, by have := sumIZ ds; omega⟩
        have HMI := Lib.hid hmin
        clear hds hb hmin
        go_wp2_with fail
        refine bodyPost_ret (v := .tuple #[.int .i64 0, .int .i64 9]) (by simp [results, Try.results24, go_sem]) rfl ⟨_, _, rfl, .inr ⟨by omega, by omega, .inl ⟨rfl, rfl, HMI.out⟩⟩, K1.out⟩
end Go.Proofs.Ytjjecadfcndkaaa
