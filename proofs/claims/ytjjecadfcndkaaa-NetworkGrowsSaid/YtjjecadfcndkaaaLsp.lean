/- Chapter 14: the walk of NetworkSpares. -/
import Derived.Test.YtjjecadfcndkaaaAwk
namespace Go.Proofs.Ytjjecadfcndkaaa
open Go.RowKit Go.Kq Go.Flow

theorem sp_no {N : Net} {h : Bool} {ds : List Int} {i : Nat} {s d : Int} (hl : ds.length = N.ch.length) (hd : ds[i]? = some d) (hs : N.Sp h ds i s) {w w' : World} {vf vp : Value} (hS : Sup w w' N h (ds.set i (d + s)) vf vp) : vp = .slice none 0 0 := by
  rcases hS with ⟨F, _, hv, _⟩ | ⟨R, hR, hlt, _⟩
  · exact hv
  · obtain ⟨⟨F, hF⟩, _⟩ := hs d hd
    have := feas_wt (by rw [List.length_set]; exact hl) hF hR.1
    omega
theorem sp_yes {N : Net} (hN : N.Ok) {h : Bool} {ds : List Int} {i : Nat} {s d : Int} (hd : ds[i]? = some d) (hs : N.Sp h ds i s) {w w' : World} {vf vp : Value} (hS : Sup w w' N h (ds.set i (d + s + 1)) vf vp) : ∃ (a : Option Addr) (n cap : Nat), vp = .slice a n cap ∧ 0 < n := by
  rcases hS with ⟨F, hF, _⟩ | ⟨R, hR, _, _, ho⟩
  · obtain ⟨_, hm⟩ := hs d hd
    have := hm (s + 1) F (by rw [← Int.add_assoc]; exact hF.1)
    omega
  · obtain ⟨a, cap, rfl, _, _, _⟩ := own_form ho
    refine ⟨a, _, cap, rfl, List.length_pos_of_mem (a := 0) ?_⟩
    unfold mem
    have := hN.n1
    exact List.mem_filter.2 ⟨List.mem_range.2 (by omega), hR.1.1⟩
def askV (hi : Bool) (D E : Option Addr) (dn dc en ec : Nat) (x : Int) : Value := .agg #[.bool hi, .slice D dn dc, .slice E en ec, .int .i64 x]
set_option maxHeartbeats 2000000 in
theorem spares_long (Z : Nz) (A B D E : Option Addr) (ca cb dn dc en ec : Nat) (hi : Bool) (x : Int) (w : World) (hlong : 70 < Z.tr.length ∨ 20 < Z.ch.length ∨ 20 < dn) :
    Calls Try.prog 7 #[netZ Z A B ca cb, askV hi D E dn dc en ec x] w fun e w' => e = .returned (.bool true) ∧ Kp No w w' := by
  unfold netZ askV
  have HA := Lib.hid awake_any
  by_cases h1 : (70 : Int) < Z.tr.length
  · go_enter Try.func7, Try.ntmps7
    go_wp2_with fail
    refine (HA.out _).mono ?_
    rintro e w1 ⟨rfl, hk1⟩
    go_wp2_with fail
    refine bodyPost_ret (v := .bool true) (by simp [results, Try.results7, go_sem]) rfl ⟨rfl, ?_⟩
    exact ((Kp.alloc No _ _).tr (Kp.alloc No _ _)).tr hk1
  · by_cases h2 : (20 : Int) < Z.ch.length
    · go_enter Try.func7, Try.ntmps7
      go_wp2_with fail
      refine (HA.out _).mono ?_
      rintro e w1 ⟨rfl, hk1⟩
      go_wp2_with fail
      refine bodyPost_ret (v := .bool true) (by simp [results, Try.results7, go_sem]) rfl ⟨rfl, ?_⟩
      exact ((Kp.alloc No _ _).tr (Kp.alloc No _ _)).tr hk1
    · have h3 : (20 : Int) < dn := by omega
      clear hlong
      go_enter Try.func7, Try.ntmps7
      go_wp2_with fail
      refine (HA.out _).mono ?_
      rintro e w1 ⟨rfl, hk1⟩
      go_wp2_with fail
      refine bodyPost_ret (v := .bool true) (by simp [results, Try.results7, go_sem]) rfl ⟨rfl, ?_⟩
      exact ((Kp.alloc No _ _).tr (Kp.alloc No _ _)).tr hk1
set_option maxHeartbeats 2000000 in
theorem spares_err (Z : Nz) (A B D E : Option Addr) (ca cb dn dc en ec : Nat) (hi : Bool) (x c : Int) (w : World) (h1 : (Z.tr.length : Int) ≤ 70) (h2 : (Z.ch.length : Int) ≤ 20) (h3 : (dn : Int) ≤ 20) (hc : c ≠ 0)
    (H : ∀ w', Kp No w w' → Calls Try.prog 24 #[netZ Z A B ca cb, .bool hi, .slice D dn dc, .int .i64 x] w' fun e w'' => e = .returned (.tuple #[.int .i64 0, .int .i64 c]) ∧ Kp No w' w'') :
    Calls Try.prog 7 #[netZ Z A B ca cb, askV hi D E dn dc en ec x] w fun e w' => e = .returned (.bool true) ∧ Kp No w w' := by
  have HA := Lib.hid awake_any
  have HC := Lib.hid H
  have d1 : (c != 0) = true := by rw [bne_iff_ne]; exact hc
  have d2 : (c == 0) = false := by rw [beq_eq_false_iff_ne]; exact hc
  clear H hc
  unfold netZ at HC
  unfold netZ askV
  go_enter Try.func7, Try.ntmps7
  go_wp2_with fail
  refine (HC.out _ ((Kp.alloc No _ _).tr (Kp.alloc No _ _))).mono ?_
  rintro e w1 ⟨rfl, hk1⟩
  have K1 := Lib.hid (((Kp.alloc No w (.cells #[.int .i64 Z.n, .slice A Z.tr.length ca, .slice B Z.ch.length cb] 25)).tr (Kp.alloc No _ _)).tr hk1)
  clear hk1
  go_wp2_with fail
  refine (HA.out _).mono ?_
  rintro e w2 ⟨rfl, hk2⟩
  go_wp2_with fail
  refine bodyPost_ret (v := .bool true) (by simp [results, Try.results7, go_sem]) rfl ⟨rfl, K1.out.tr hk2⟩
theorem two_boxes (w : World) (xs ys : Array Value) (s t : TypeId) : Kp No w ((w.alloc (.cells xs s)).alloc (.cells ys t)) ∧ ((w.alloc (.cells xs s)).alloc (.cells ys t)).heap[w.heap.size]? = some (.cells xs s (0, 0)) ∧ ((w.alloc (.cells xs s)).alloc (.cells ys t)).heap[w.heap.size + 1]? = some (.cells ys t (0, 0)) :=
  ⟨(Kp.alloc No _ _).tr (Kp.alloc No _ _), (Kp.alloc No _ _).heap (heap_alloc_new w (.cells xs s)) (fun h => h), by
    have := heap_alloc_new (w.alloc (.cells xs s)) (.cells ys t)
    simpa using this⟩
theorem box4 {w : World} {b : Nat} {x y z u : Value} {t : TypeId} (h : w.heap[b]? = some (.cells #[x, y, z, u] t (0, 0))) : w.cell? ⟨b, 0, none⟩ = some x ∧ w.cell? ⟨b, 1, none⟩ = some y ∧ w.cell? ⟨b, 2, none⟩ = some z ∧ w.cell? ⟨b, 3, none⟩ = some u :=
  ⟨by rw [cell_of_row w b 0 _ _ _ h]; rfl, by rw [cell_of_row w b 1 _ _ _ h]; rfl, by rw [cell_of_row w b 2 _ _ _ h]; rfl, by rw [cell_of_row w b 3 _ _ _ h]; rfl⟩
attribute [local go_sem ↓] Go.wp_at_zero Go.wp_at_succ
set_option maxHeartbeats 8000000 in
set_option maxRecDepth 100000 in
theorem spares_ok (N : Net) (hN : N.Ok) (A B D E : Option Addr) (ca cb dn dc en ec : Nat) (hi : Bool) (x : Int) (ds : List Int) (w : World) (hR : RdNet w A B N) (hD : RdI .i64 w D dn ds) (hnil : D = none → dn = 0 ∧ dc = 0) (hl : ds.length = N.ch.length) (hd : ∀ d ∈ ds, dOk d) (h3 : (dn : Int) ≤ 20) :
    Calls Try.prog 7 #[netV N A B ca cb, askV hi D E dn dc en ec x] w fun e w' => e = .returned (.bool true) ∧ Kp No w w' := by
  obtain ⟨i0, hi0, hz0, hz1, hz2⟩ := info_parts info2
  have h1 : (N.tr.length : Int) ≤ 70 := by have := hN.t1; omega
  have h2 : (N.ch.length : Int) ≤ 20 := by have := hN.c1; omega
  have hdl := hD.1
  have HA := Lib.hid awake_any
  have HP := Lib.hid (fun W hR hD => Spare_ok N hN A B D ca cb dn dc hi ds x W hR hD hnil hl hd)
  have HS := Lib.hid (fun (g c : Nat) ds' W hR hD hl' hd' => Supply_ok N hN A B (some ⟨g, 0, none⟩) ca cb dn c hi ds' W hR hD (fun h => by cases h) hl' hd')
  have HN := Lib.hid hN
  have HR := Lib.hid hR
  have HD := Lib.hid hD
  have HNIL := Lib.hid hnil
  have HL := Lib.hid hl
  have HO := Lib.hid hd
  clear hN hR hD hnil hl hd
  unfold netV at HP HS
  unfold netV askV
  go_enter Try.func7, Try.ntmps7
  go_wp2_with fail
  obtain ⟨hk0, b0, b1⟩ := two_boxes w #[.int .i64 N.n, .slice A N.tr.length ca, .slice B N.ch.length cb] #[.bool hi, .slice D dn dc, .slice E en ec, .int .i64 x] 25 40
  refine (HP.out _ (HR.out.no hk0) (HD.out.no hk0)).mono ?_
  rintro e w1 ⟨s, c, rfl, hsp, hk1⟩
  have B0 := Lib.hid (hk1.heap b0 (fun h => h))
  have B1 := Lib.hid (hk1.heap b1 (fun h => h))
  have K1 := Lib.hid (hk0.tr hk1)
  clear hk0 b0 b1 hk1
  obtain ⟨x0, x1, x2⟩ := box3 B0.out
  obtain ⟨y0, y1, y2, y3⟩ := box4 B1.out
  have hs1 := (Array.getElem?_eq_some_iff.1 B0.out).1
  have hs2 := (Array.getElem?_eq_some_iff.1 B1.out).1
  rcases hsp with ⟨_, rfl, rfl⟩ | ⟨hx0, hx1, ⟨rfl, rfl, _⟩ | ⟨rfl, hs0, hsp⟩⟩
  · go_wp2_with fail
    refine (HA.out _).mono ?_
    rintro e w2 ⟨rfl, hk2⟩
    go_wp2_with fail
    refine bodyPost_ret (v := .bool true) (by simp [results, Try.results7, go_sem]) rfl ⟨rfl, K1.out.tr hk2⟩
  · go_wp2_with fail
    refine (HA.out _).mono ?_
    rintro e w2 ⟨rfl, hk2⟩
    go_wp2_with fail
    refine bodyPost_ret (v := .bool true) (by simp [results, Try.results7, go_sem]) rfl ⟨rfl, K1.out.tr hk2⟩
  · obtain ⟨xi, rfl⟩ : ∃ xi : Nat, x = xi := ⟨x.toNat, by omega⟩
    obtain ⟨d, hdx⟩ : ∃ d, ds[xi]? = some d := ⟨_, List.getElem?_eq_getElem (by have := HL.out; omega)⟩
    have hdo := HO.out d (List.mem_of_getElem? hdx)
    unfold dOk at hdo
    obtain ⟨hdo1, hdo2⟩ := hdo
    obtain ⟨bd, od, rfl, hbd, yd⟩ := (HD.out.no K1.out).2 xi d hdx
    have hxd : (xi : Int) < dn := by have := HL.out; omega
    have HSP := Lib.hid (show N.Sp hi ds xi s by simpa using hsp)
    have HDX := Lib.hid hdx
    clear hsp hdx
    by_cases hbig : 1000000000000 - d ≤ s
    · go_wp2_with fail
      refine (HA.out _).mono ?_
      rintro e w2 ⟨rfl, hk2⟩
      go_wp2_with fail
      refine bodyPost_ret (v := .bool true) (by simp [results, Try.results7, go_sem]) rfl ⟨rfl, K1.out.tr hk2⟩
    · have hbig2 : s < 1000000000000 - d := by omega
      clear hbig
      go_wp2_with (at_builtin; refine stop_in ?_)
      refine stop_out ?_
      refine wpL_append_any rfl _ _ 38 rfl w1.heap.size 2 i0 (.int .i64 0) 1 8 Try.underlying38 hi0 hz0 hz1 hz2 rfl (by decide) (.slice (some ⟨w1.heap.size, 0, none⟩) 0 0) 0 [] rfl (own_empty (Nat.le_refl _)) (some ⟨bd, od, none⟩) dn dc (ds.map (Value.int .i64)) rfl (by simp; omega) (by simp) (rdi_news ((HD.out.no K1.out).no (Kp.alloc No _ _))) (by simp [Value.oneCell']) (by unfold maxLen; omega) (by omega) (by simp) ?_
      intro v1 w2 ho1 hgr1 hat1
      have hk2 : Kp No w1 w2 := (Kp.refl No w1).trans ((Kp.alloc (fun k => w1.heap.size ≤ k) _ _).tr (Kp.grown hgr1 fun k hk _ => by simp [Value.ownBlock] at hk; omega)) (fun k hk h => absurd h (Nat.not_le.2 hk))
      replace ho1 : w2.ownsRow w1.heap.size 2 1 v1 dn (ds.map (Value.int .i64)) := by simpa using ho1
      obtain ⟨a1, c1, rfl, _, _, hpos⟩ := own_form ho1
      obtain ⟨g, rfl⟩ := hpos (by omega)
      have K2 := Lib.hid (K1.out.tr hk2)
      have B02 := Lib.hid (hk2.heap B0.out (fun h => h))
      have B12 := Lib.hid (hk2.heap B1.out (fun h => h))
      have hgb : w1.heap.size ≤ g := (own_ge ho1 rfl).1
      have hb1s := (Array.getElem?_eq_some_iff.1 B1.out).1
      have yg := own_cell ho1 (j := xi) (u := .int .i64 d) (by rw [List.getElem?_map, HDX.out]; rfl)
      have fg := own_free ho1 xi
      have O1 := Lib.hid ho1
      clear ho1 hgr1 hat1 hpos x0 x1 x2 y0 y1 y2 y3 yd hk2
      obtain ⟨x0, x1, x2⟩ := box3 B02.out
      obtain ⟨y0, y1, y2, y3⟩ := box4 B12.out
      have hsum : IntKind.i64.wrap (d + s) = d + s := IntWalk.i64_in _ (by omega)
      have hxt : (xi : Int).toNat = xi := by omega
      go_wp2_with fail
      go_region
      have KS : Kp (One g) w2 (w2.setCell ⟨g, xi, none⟩ (.int .i64 (d + s))).drew := (kp_setOne _ g xi _).tr (Kp.drew _ _)
      have O3 : (w2.setCell ⟨g, xi, none⟩ (.int .i64 (d + s))).drew.ownsRow w1.heap.size 2 1 (.slice (some ⟨g, 0, none⟩) dn c1) dn ((ds.set xi (d + s)).map (Value.int .i64)) := by
        rw [List.map_set]
        exact (Kp.drew (fun _ => False) _).owns (own_set O1.out xi _) (fun _ _ h => h)
      have hone : ∀ k, k < w1.heap.size → One g k → False := fun k hk e => by have e2 : k = g := e; omega
      have hne0 : ¬ One g w.heap.size := fun e => by have e2 : w.heap.size = g := e; omega
      have hne1 : ¬ One g (w.heap.size + 1) := fun e => by have e2 : w.heap.size + 1 = g := e; omega
      have B03 := KS.heap B02.out hne0
      have B13 := KS.heap B12.out hne1
      have K3 : Kp No w (w2.setCell ⟨g, xi, none⟩ (.int .i64 (d + s))).drew := K2.out.trans KS fun k hk e => hone k (by have := K1.out.size; omega) e
      clear hsum yg fg x0 x1 x2 y0 y1 y2 y3 KS O1 B02 B12
      generalize (w2.setCell ⟨g, xi, none⟩ (.int .i64 (d + s))).drew = w3 at *
      obtain ⟨x0, x1, x2⟩ := box3 B03
      obtain ⟨y0, y1, y2, y3⟩ := box4 B13
      have P3 := Lib.hid O3
      have C0 := Lib.hid B03
      have C1 := Lib.hid B13
      have K3 := Lib.hid K3
      clear O3 B03 B13
      have hlen : ∀ v, (ds.set xi v).length = N.ch.length := fun v => by rw [List.length_set]; exact HL.out
      have hok : ∀ v, dOk v → ∀ u ∈ ds.set xi v, dOk u := fun v hv u hu => by
        rcases List.mem_or_eq_of_mem_set hu with h | h
        · exact HO.out u h
        · exact h ▸ hv
      have HLEN := Lib.hid hlen
      have HOK := Lib.hid hok
      clear hlen hok
      go_wp2_with fail
      refine (HS.out g c1 _ _ (HR.out.no K3.out) (RdI.of_own P3.out) (HLEN.out _) (HOK.out _ ⟨by omega, by omega⟩)).mono ?_
      rintro e w4 ⟨vf, vp, rfl, hsup, hk4⟩
      obtain rfl := sp_no HL.out HDX.out HSP.out hsup
      have O4 := own_kp P3.out hk4 (fun _ _ h => h)
      have D0 := Lib.hid (hk4.heap C0.out (fun h => h))
      have D1 := Lib.hid (hk4.heap C1.out (fun h => h))
      have yg := own_cell O4 (j := xi) (u := .int .i64 (d + s)) (by rw [List.getElem?_map, List.getElem?_set_self (by have := HL.out; omega)]; rfl)
      have fg := own_free O4 xi
      have K4 := Lib.hid (K3.out.tr hk4)
      have P4 := Lib.hid O4
      clear hsup hk4 O4 x0 x1 x2 y0 y1 y2 y3 P3
      obtain ⟨x0, x1, x2⟩ := box3 D0.out
      obtain ⟨y0, y1, y2, y3⟩ := box4 D1.out
      go_wp2_with fail
      have O5 : (w4.setCell ⟨g, xi, none⟩ (.int .i64 (d + s + 1))).ownsRow w1.heap.size 2 1 (.slice (some ⟨g, 0, none⟩) dn c1) dn ((ds.set xi (d + s + 1)).map (Value.int .i64)) := by
        have := own_set P4.out xi (.int .i64 (d + s + 1))
        rw [← List.map_set, List.set_set] at this
        exact this
      have KS := kp_setOne w4 g xi (.int .i64 (d + s + 1))
      have K5 := Lib.hid (K4.out.trans KS fun k hk e => hone k (by have := K1.out.size; omega) e)
      refine (HS.out g c1 _ _ (HR.out.no K5.out) (RdI.of_own O5) (HLEN.out _) (HOK.out _ ⟨by omega, by omega⟩)).mono ?_
      rintro e w6 ⟨vf2, vp2, rfl, hsup, hk6⟩
      obtain ⟨a6, n6, c6, rfl, h6⟩ := sp_yes HN.out HDX.out HSP.out hsup
      have K6 := Lib.hid (K5.out.tr hk6)
      have hn6 : (0 : Int) < n6 := by omega
      clear hsup hk6 KS O5 h6
      go_wp2_with fail
      refine (HA.out _).mono ?_
      rintro e w7 ⟨rfl, hk7⟩
      go_wp2_with fail
      refine bodyPost_ret (v := .bool true) (by simp [results, Try.results7, go_sem]) rfl ⟨rfl, K6.out.tr hk7⟩
theorem chk_ex (Z : Nz) : ∃ c, ChkIs Z c := by
  by_cases h1 : NLong Z
  · exact ⟨3, .inl ⟨h1, rfl⟩⟩
  · by_cases h2 : NBad Z
    · exact ⟨2, .inr (.inl ⟨h1, h2, rfl⟩)⟩
    · exact ⟨0, .inr (.inr ⟨h1, h2, rfl⟩)⟩
theorem tspares_any (Z : Nz) (A B D E : Option Addr) (ca cb dn dc en ec : Nat) (hi : Bool) (x : Int) (ds : List Int) (w : World) (hR : RdNz w A B Z) (hD : RdI .i64 w D dn ds) (hnil : D = none → dn = 0 ∧ dc = 0) :
    Calls Try.prog 7 #[netZ Z A B ca cb, askV hi D E dn dc en ec x] w fun e w' => e = .returned (.bool true) ∧ Kp No w w' := by
  by_cases hlong : 70 < Z.tr.length ∨ 20 < Z.ch.length ∨ 20 < dn
  · exact spares_long Z A B D E ca cb dn dc en ec hi x w hlong
  · obtain ⟨c, hc⟩ := chk_ex Z
    by_cases hz : c = 0
    · subst hz
      obtain ⟨N, hN, rfl⟩ := chk_zero hc
      by_cases hds : ds.length = N.ch.length ∧ ∀ d ∈ ds, dOk d
      · rw [netZ_nz]
        exact spares_ok N hN A B D E ca cb dn dc en ec hi x ds w (rdnet_z hR) hD hnil hds.1 hds.2 (by omega)
      · refine spares_err (nz N) A B D E ca cb dn dc en ec hi x 2 w (by omega) (by omega) (by omega) (by decide) fun W hk => ?_
        rw [netZ_nz]
        exact Spare_arg N hN A B D ca cb dn dc hi ds x W ((rdnet_z hR).no hk) (hD.no hk) hds
    · exact spares_err Z A B D E ca cb dn dc en ec hi x c w (by omega) (by omega) (by omega) hz fun W hk => Spare_bad Z c hc hz A B D ca cb dn dc hi x W (hR.no hk)
end Go.Proofs.Ytjjecadfcndkaaa
