/- Chapter 14: the walk of NetworkGrows. -/
import Derived.Test.YtjjecadfcndkaaaLsp
namespace Go.Proofs.Ytjjecadfcndkaaa
open Go.RowKit Go.Kq Go.Flow

theorem cut_mono {N : Net} (hN : N.Ok) (R : Nat → Bool) : ∀ l : List Tk, (∀ t ∈ l, t ∈ N.tr) → cut R (l.map (tp false)) ≤ cut R (l.map (tp true))
  | [], _ => Int.le_refl _
  | t :: l, h => by
    have ih := cut_mono hN R l fun y hy => h y (by simp [hy])
    have ht := (hN.tk t (h t (by simp))).2.2.2.2.1
    simp only [List.map_cons, cut, tp, Tk.cap] at ih ⊢
    split <;> simp <;> omega
theorem out_mono {N : Net} (hN : N.Ok) (R : Nat → Bool) : N.out false R ≤ N.out true R := cut_mono hN R _ fun _ h => h
theorem wt_mono {N : Net} (hN : N.Ok) (ds : List Int) (R : Nat → Bool) : N.wt false ds R ≤ N.wt true ds R := by
  have := out_mono hN R
  unfold Net.wt
  omega
theorem gr_le {N : Net} (hN : N.Ok) {lo hi : Int} (hl : Gr N false lo) (hh : Gr N true hi) : lo ≤ hi := by
  obtain ⟨R, hR, rfl⟩ := hl
  obtain ⟨S, hS, rfl⟩ := hh
  exact Int.le_trans (hR.2 S hS.1).1 (out_mono hN S)
/-- A proof in hand, or none. -/
def Sm (v : Value) : Prop := ∃ (a : Option Addr) (n c : Nat), v = .slice a n c ∧ 0 < n
theorem sup_or {N : Net} (hN : N.Ok) {h : Bool} {ds : List Int} {w w' : World} {vf vp : Value} (hS : Sup w w' N h ds vf vp) : (∃ F, N.Least h ds F) ∧ vp = .slice none 0 0 ∨ Sm vp := by
  rcases hS with ⟨F, hF, hv, _⟩ | ⟨R, hR, _, _, ho⟩
  · exact .inl ⟨⟨F, hF⟩, hv⟩
  · obtain ⟨a, cap, rfl, _, _, _⟩ := own_form ho
    refine .inr ⟨a, _, cap, rfl, List.length_pos_of_mem (a := 0) ?_⟩
    unfold mem
    have := hN.n1
    exact List.mem_filter.2 ⟨List.mem_range.2 (by omega), hR.1.1⟩
theorem sup_high {N : Net} (hN : N.Ok) {ds : List Int} (hl : ds.length = N.ch.length) {F : List Int} (hF : N.Least false ds F) {w w' : World} {vf vp : Value} (hS : Sup w w' N true ds vf vp) : vp = .slice none 0 0 := by
  rcases hS with ⟨F, _, hv, _⟩ | ⟨R, hR, hlt, _⟩
  · exact hv
  · have := feas_wt hl hF.1 hR.1
    have := wt_mono hN ds R
    omega
def Les (es ds : List Int) : Prop := es.length = ds.length ∧ ∀ (i : Nat) (v u : Int), es[i]? = some v → ds[i]? = some u → 0 ≤ v ∧ v ≤ u
theorem gap_mono (R : Nat → Bool) : ∀ (ch : List Nat) (es ds : List Int), ds.length = ch.length → Les es ds → sumZ es - held R (ch.zip es) ≤ sumZ ds - held R (ch.zip ds)
  | [], es, ds, hl, h => by
    have h1 : ds = [] := List.length_eq_zero_iff.1 hl
    subst h1
    have h2 : es = [] := List.length_eq_zero_iff.1 h.1
    subst h2
    exact Int.le_refl _
  | c :: ch, es, ds, hl, h => by
    match ds, es, hl, h with
    | [], _, hl, _ => simp at hl
    | d :: ds, [], _, h => exact absurd h.1 (by simp)
    | d :: ds, e :: es, hl, h =>
      have ih := gap_mono R ch es ds (by simpa using hl) ⟨by simpa using h.1, fun i v u hv hu => h.2 (i + 1) v u (by simpa using hv) (by simpa using hu)⟩
      have h0 := h.2 0 e d rfl rfl
      simp only [List.zip_cons_cons, sumZ, held]
      split <;> omega
theorem sup_small {N : Net} {es ds : List Int} (hl : ds.length = N.ch.length) (hle : Les es ds) {F : List Int} (hF : N.Least false ds F) {w w' : World} {vf vp : Value} (hS : Sup w w' N false es vf vp) : vp = .slice none 0 0 := by
  rcases hS with ⟨F, _, hv, _⟩ | ⟨R, hR, hlt, _⟩
  · exact hv
  · have h1 := feas_wt hl hF.1 hR.1
    have h2 := gap_mono R N.ch es ds hl hle
    unfold Net.wt at h1 hlt
    omega
theorem les_refl {ds : List Int} (h : ∀ d ∈ ds, dOk d) : Les ds ds := ⟨rfl, fun i v u hv hu => by
  rw [hv] at hu
  cases hu
  exact ⟨(h v (List.mem_of_getElem? hv)).1, Int.le_refl _⟩⟩
theorem les_set {es ds : List Int} {k : Nat} {v x : Int} (h : Les es ds) (hv : es[k]? = some v) (hx : 0 ≤ x ∧ x ≤ v) : Les (es.set k x) ds := by
  refine ⟨by rw [List.length_set]; exact h.1, fun i a u ha hu => ?_⟩
  by_cases e : k = i
  · subst e
    rw [List.getElem?_set_self (List.getElem?_eq_some_iff.1 hv).1] at ha
    cases ha
    have := h.2 k v u hv hu
    omega
  · rw [List.getElem?_set_ne e] at ha
    exact h.2 i a u ha hu
theorem les_ok {es ds : List Int} (h : Les es ds) (hd : ∀ d ∈ ds, dOk d) : ∀ d ∈ es, dOk d := fun d hm => by
  obtain ⟨i, hi⟩ := List.mem_iff_getElem?.1 hm
  have hil := (List.getElem?_eq_some_iff.1 hi).1
  have hu : ds[i]? = some (ds[i]'(by have := h.1; omega)) := List.getElem?_eq_getElem (by have := h.1; omega)
  have h1 := h.2 i d _ hi hu
  have h2 := hd _ (List.mem_of_getElem? hu)
  unfold dOk at h2 ⊢
  omega
structure U16 where
  v : Int
  lo : 0 ≤ v
  hi : v ≤ 65535
def u1 (u : U16) : List Value := [.int .u16 u.v]
set_option maxHeartbeats 2000000 in
theorem grows_long (Z : Nz) (A B D E U : Option Addr) (ca cb dn dc en ec un uc : Nat) (hi : Bool) (x : Int) (w : World) (hlong : 70 < Z.tr.length ∨ 20 < Z.ch.length ∨ 20 < dn) :
    Calls Try.prog 6 #[netZ Z A B ca cb, askV hi D E dn dc en ec x, .slice U un uc] w fun e w' => e = .returned (.bool true) ∧ Kp No w w' := by
  unfold netZ askV
  have HA := Lib.hid awake_any
  by_cases h1 : (70 : Int) < Z.tr.length
  · go_enter Try.func6, Try.ntmps6
    go_wp2_with fail
    refine (HA.out _).mono ?_
    rintro e w1 ⟨rfl, hk1⟩
    go_wp2_with fail
    refine bodyPost_ret (v := .bool true) (by simp [results, Try.results6, go_sem]) rfl ⟨rfl, ?_⟩
    exact ((Kp.alloc No _ _).tr (Kp.alloc No _ _)).tr hk1
  · by_cases h2 : (20 : Int) < Z.ch.length
    · go_enter Try.func6, Try.ntmps6
      go_wp2_with fail
      refine (HA.out _).mono ?_
      rintro e w1 ⟨rfl, hk1⟩
      go_wp2_with fail
      refine bodyPost_ret (v := .bool true) (by simp [results, Try.results6, go_sem]) rfl ⟨rfl, ?_⟩
      exact ((Kp.alloc No _ _).tr (Kp.alloc No _ _)).tr hk1
    · have h3 : (20 : Int) < dn := by omega
      clear hlong
      go_enter Try.func6, Try.ntmps6
      go_wp2_with fail
      refine (HA.out _).mono ?_
      rintro e w1 ⟨rfl, hk1⟩
      go_wp2_with fail
      refine bodyPost_ret (v := .bool true) (by simp [results, Try.results6, go_sem]) rfl ⟨rfl, ?_⟩
      exact ((Kp.alloc No _ _).tr (Kp.alloc No _ _)).tr hk1
set_option maxHeartbeats 4000000 in
set_option maxRecDepth 100000 in
theorem grows_err (Z : Nz) (A B D E U : Option Addr) (ca cb dn dc en ec un uc : Nat) (hi : Bool) (x c ee : Int) (w : World) (h1 : (Z.tr.length : Int) ≤ 70) (h2 : (Z.ch.length : Int) ≤ 20) (h3 : (dn : Int) ≤ 20) (hc : c ≠ 0) (_hee : ee = 0 ∨ ee = c)
    (G : ∀ w', Kp No w w' → Calls Try.prog 11 #[netZ Z A B ca cb] w' fun e w'' => ∃ lo hi : Int, e = .returned (.tuple #[.agg #[.int .i64 lo, .int .i64 hi], .int .i64 ee]) ∧ Kp No w' w'')
    (H : ∀ hh w', Kp No w w' → Calls Try.prog 18 #[netZ Z A B ca cb, .bool hh, .slice D dn dc] w' fun e w'' => e = .returned (.tuple #[.slice none 0 0, .slice none 0 0, .int .i64 c]) ∧ Kp No w' w'') :
    Calls Try.prog 6 #[netZ Z A B ca cb, askV hi D E dn dc en ec x, .slice U un uc] w fun e w' => e = .returned (.bool true) ∧ Kp No w w' := by
  have HA := Lib.hid awake_any
  have HC := Lib.hid H
  have HG := Lib.hid G
  have d1 : (c != 0) = true := by rw [bne_iff_ne]; exact hc
  have d2 : (c == 0) = false := by rw [beq_eq_false_iff_ne]; exact hc
  have d3 : (c == c) = true := by rw [beq_iff_eq]
  have d4 : (ee != 0) = true ∨ (ee != 0) = false := by cases (ee != 0) <;> simp
  clear H G hc
  unfold netZ at HC HG
  unfold netZ askV
  go_enter Try.func6, Try.ntmps6
  go_wp2_with fail
  obtain ⟨hk0, b0, b1⟩ := two_boxes w #[.int .i64 Z.n, .slice A Z.tr.length ca, .slice B Z.ch.length cb] #[.bool hi, .slice D dn dc, .slice E en ec, .int .i64 x] 25 40
  refine (HG.out _ hk0).mono ?_
  rintro e w1 ⟨lo, hi', rfl, hk1⟩
  have B0 := Lib.hid (hk1.heap b0 (fun h => h))
  have B1 := Lib.hid (hk1.heap b1 (fun h => h))
  have K1 := Lib.hid (hk0.tr hk1)
  clear hk0 b0 b1 hk1
  obtain ⟨x0, x1, x2⟩ := box3 B0.out
  obtain ⟨y0, y1, y2, y3⟩ := box4 B1.out
  have hs1 := (Array.getElem?_eq_some_iff.1 B0.out).1
  have hs2 := (Array.getElem?_eq_some_iff.1 B1.out).1
  go_wp2_with fail
  have hkA := Kp.alloc No w1 (.cells #[.int .i64 lo, .int .i64 hi'] 29)
  refine (HC.out false _ (K1.out.tr hkA)).mono ?_
  rintro e w2 ⟨rfl, hk2⟩
  have C0 := Lib.hid (hk2.heap (hkA.heap B0.out (fun h => h)) (fun h => h))
  have C1 := Lib.hid (hk2.heap (hkA.heap B1.out (fun h => h)) (fun h => h))
  have K2 := Lib.hid ((K1.out.tr hkA).tr hk2)
  clear hkA hk2 x0 x1 x2 y0 y1 y2 y3
  obtain ⟨x0, x1, x2⟩ := box3 C0.out
  obtain ⟨y0, y1, y2, y3⟩ := box4 C1.out
  go_wp2_with fail
  refine (HC.out true _ K2.out).mono ?_
  rintro e w3 ⟨rfl, hk3⟩
  have K3 := Lib.hid (K2.out.tr hk3)
  rcases d4 with d4 | d4
  · go_wp2_with fail
    refine (HA.out _).mono ?_
    rintro e w4 ⟨rfl, hk4⟩
    go_wp2_with fail
    refine bodyPost_ret (v := .bool true) (by simp [results, Try.results6, go_sem]) rfl ⟨rfl, K3.out.tr hk4⟩
  · go_wp2_with fail
    refine (HA.out _).mono ?_
    rintro e w4 ⟨rfl, hk4⟩
    go_wp2_with fail
    refine bodyPost_ret (v := .bool true) (by simp [results, Try.results6, go_sem]) rfl ⟨rfl, K3.out.tr hk4⟩
attribute [local go_sem ↓] Go.wp_at_zero Go.wp_at_succ
set_option maxHeartbeats 8000000 in
set_option maxRecDepth 100000 in
theorem grows_ok (N : Net) (hN : N.Ok) (A B D E U : Option Addr) (ca cb dn dc en ec un uc : Nat) (hi : Bool) (x : Int) (ds : List Int) (us : List U16) (w : World) (hR : RdNet w A B N) (hD : RdI .i64 w D dn ds) (hU : Rd u1 1 w U un us) (hnil : D = none → dn = 0 ∧ dc = 0) (hl : ds.length = N.ch.length) (hd : ∀ d ∈ ds, dOk d) (h3 : (dn : Int) ≤ 20) :
    Calls Try.prog 6 #[netV N A B ca cb, askV hi D E dn dc en ec x, .slice U un uc] w fun e w' => e = .returned (.bool true) ∧ Kp No w w' := by
  obtain ⟨i0, hi0, hz0, hz1, hz2⟩ := info_parts info2
  have h1 : (N.tr.length : Int) ≤ 70 := by have := hN.t1; omega
  have h2 : (N.ch.length : Int) ≤ 20 := by have := hN.c1; omega
  have hdl := hD.1
  have hul := hU.1
  have HA := Lib.hid awake_any
  have HG := Lib.hid (fun W hR => Greatest_ok N hN A B ca cb W hR)
  have HS := Lib.hid (fun hh W hR hD => Supply_ok N hN A B D ca cb dn dc hh ds W hR hD hnil hl hd)
  have HT := Lib.hid (fun (g c : Nat) ds' W hR hD hl' hd' => Supply_ok N hN A B (some ⟨g, 0, none⟩) ca cb dn c false ds' W hR hD (fun h => by cases h) hl' hd')
  have HN := Lib.hid hN
  have HR := Lib.hid hR
  have HD := Lib.hid hD
  have HU := Lib.hid hU
  have HNIL := Lib.hid hnil
  have HL := Lib.hid hl
  have HO := Lib.hid hd
  clear hN hR hD hnil hl hd hU
  unfold netV at HG HS HT
  unfold netV askV
  go_enter Try.func6, Try.ntmps6
  go_wp2_with fail
  obtain ⟨hk0, b0, b1⟩ := two_boxes w #[.int .i64 N.n, .slice A N.tr.length ca, .slice B N.ch.length cb] #[.bool hi, .slice D dn dc, .slice E en ec, .int .i64 x] 25 40
  refine (HG.out _ (HR.out.no hk0)).mono ?_
  rintro e w1 ⟨lo, hh, rfl, glo, ghi, hk1⟩
  have hlh := gr_le HN.out glo ghi
  have B0 := Lib.hid (hk1.heap b0 (fun h => h))
  have B1 := Lib.hid (hk1.heap b1 (fun h => h))
  have K1 := Lib.hid (hk0.tr hk1)
  clear hk0 b0 b1 hk1 glo ghi
  obtain ⟨x0, x1, x2⟩ := box3 B0.out
  obtain ⟨y0, y1, y2, y3⟩ := box4 B1.out
  have hs1 := (Array.getElem?_eq_some_iff.1 B0.out).1
  have hs2 := (Array.getElem?_eq_some_iff.1 B1.out).1
  go_wp2_with fail
  have hkA := Kp.alloc No w1 (.cells #[.int .i64 lo, .int .i64 hh] 29)
  have G1 := heap_alloc_new w1 (.cells #[.int .i64 lo, .int .i64 hh] 29)
  refine (HS.out false _ (HR.out.no (K1.out.tr hkA)) (HD.out.no (K1.out.tr hkA))).mono ?_
  rintro e w2 ⟨vf, vp, rfl, hsup, hk2⟩
  have C0 := Lib.hid (hk2.heap (hkA.heap B0.out (fun h => h)) (fun h => h))
  have C1 := Lib.hid (hk2.heap (hkA.heap B1.out (fun h => h)) (fun h => h))
  have G2 := Lib.hid (hk2.heap G1 (fun h => h))
  have K2 := Lib.hid ((K1.out.tr hkA).tr hk2)
  clear hkA hk2 x0 x1 x2 y0 y1 y2 y3 G1
  obtain ⟨x0, x1, x2⟩ := box3 C0.out
  obtain ⟨y0, y1, y2, y3⟩ := box4 C1.out
  go_wp2_with fail
  refine (HS.out true _ (HR.out.no K2.out) (HD.out.no K2.out)).mono ?_
  rintro e w3 ⟨vf2, vq, rfl, hsup2, hk3⟩
  have D0 := Lib.hid (hk3.heap C0.out (fun h => h))
  have D1 := Lib.hid (hk3.heap C1.out (fun h => h))
  have G3 := Lib.hid (hk3.heap G2.out (fun h => h))
  have K3 := Lib.hid (K2.out.tr hk3)
  clear hk3 x0 x1 x2 y0 y1 y2 y3
  obtain ⟨x0, x1, x2⟩ := box3 D0.out
  obtain ⟨y0, y1, y2, y3⟩ := box4 D1.out
  obtain ⟨g0, g1⟩ := box2 G3.out
  have hs1 := (Array.getElem?_eq_some_iff.1 D0.out).1
  have hs2 := (Array.getElem?_eq_some_iff.1 D1.out).1
  rcases sup_or HN.out hsup with ⟨⟨F, hF⟩, rfl⟩ | ⟨pa, pn, pc, rfl, hpn⟩
  · obtain rfl := sup_high HN.out HL.out hF hsup2
    have HF := Lib.hid hF
    clear hsup hsup2 hF
    go_wp2_with (at_builtin; refine stop_in ?_)
    refine stop_out ?_
    refine wpL_append_any rfl _ _ 38 rfl w3.heap.size 2 i0 (.int .i64 0) 1 8 Try.underlying38 hi0 hz0 hz1 hz2 rfl (by decide) (.slice (some ⟨w3.heap.size, 0, none⟩) 0 0) 0 [] rfl (own_empty (Nat.le_refl _)) D dn dc (ds.map (Value.int .i64)) rfl (by simp; omega) HNIL.out (rdi_news ((HD.out.no K3.out).no (Kp.alloc No _ _))) (by simp [Value.oneCell']) (by unfold maxLen; omega) (by omega) (by simp) ?_
    intro v1 w4 ho1 hgr1 hat1
    have hk4 : Kp No w3 w4 := (Kp.refl No w3).trans ((Kp.alloc (fun k => w3.heap.size ≤ k) _ _).tr (Kp.grown hgr1 fun k hk _ => by simp [Value.ownBlock] at hk; omega)) (fun k hk h => absurd h (Nat.not_le.2 hk))
    replace ho1 : w4.ownsRow w3.heap.size 2 1 v1 dn (ds.map (Value.int .i64)) := by simpa using ho1
    obtain ⟨g, c1, rfl⟩ := own_some ho1 (fun e => by subst e; simp [Value.ownBlock] at hat1)
    have hgb : w3.heap.size ≤ g := (own_ge ho1 rfl).1
    have O1 := Lib.hid ho1
    have K4 := Lib.hid (K3.out.tr hk4)
    have E0 := Lib.hid (hk4.heap D0.out (fun h => h))
    have E1 := Lib.hid (hk4.heap D1.out (fun h => h))
    have hw3 := K3.out.size
    have hone : ∀ k, k < w3.heap.size → One g k → False := fun k hk e => by have e2 : k = g := e; omega
    have HONE := Lib.hid hone
    have HLS := Lib.hid (les_refl HO.out)
    clear ho1 hgr1 hat1 hk4 x0 x1 x2 y0 y1 y2 y3 g0 g1 hone
    go_wp2_with fail
    go_loopw [16] (fun i wr => ∃ (k : Nat) (es : List Int), k ≤ dn ∧ i = .int .i64 k ∧ wr.ownsRow w3.heap.size 2 1 (.slice (some ⟨g, 0, none⟩) dn c1) dn (es.map (Value.int .i64)) ∧ Les es ds ∧ Kp (One g) w4 wr) (fun i _ => dn - (intOf i).toNat)
    case atStart => exact ⟨0, ds, by omega, rfl, O1.out, HLS.out, Kp.refl _ _⟩
    case round =>
      obtain ⟨k, es, hk, rfl, hown, hle, hkp⟩ := hrel
      have HOW := Lib.hid hown
      have HLE := Lib.hid hle
      have HKP := Lib.hid hkp
      have HKW := Lib.hid (show Kp No w wr from K4.out.trans hkp fun j hj e => HONE.out j (by omega) e)
      clear hown hle hkp
      by_cases hlt : (k : Int) < dn
      · by_cases hlu : (k : Int) < un
        · obtain ⟨v, hv⟩ : ∃ v, es[k]? = some v := ⟨_, List.getElem?_eq_getElem (by have := HLE.out.1; omega)⟩
          obtain ⟨u, hu⟩ : ∃ u, us[k]? = some u := ⟨_, List.getElem?_eq_getElem (by omega)⟩
          have hvo := les_ok HLE.out HO.out v (List.mem_of_getElem? hv)
          unfold dOk at hvo
          obtain ⟨hv0, hv1⟩ := hvo
          obtain ⟨ub, uo, rfl, hub, huc⟩ := (HU.out.no HKW.out).2 k u hu
          have yu : wr.cell? ⟨ub, uo + k, none⟩ = some (.int .u16 u.v) := by simpa using huc 0 _ rfl
          have yv := own_cell HOW.out (j := k) (u := .int .i64 v) (by rw [List.getElem?_map, hv]; rfl)
          have fv := own_free HOW.out k
          have HV := Lib.hid hv
          have hu0 := u.lo
          have hu1 := u.hi
          clear huc hu hv
          have hw1 : IntKind.i64.wrap u.v = u.v := IntWalk.i64_in _ (by omega)
          have hw2 : IntKind.i64.wrap (v - u.v) = v - u.v := IntWalk.i64_in _ (by omega)
          have hkt : (k : Int).toNat = k := by omega
          go_wp2_with fail
          go_region
          have KS : Kp (One g) wr (wr.setCell ⟨g, k, none⟩ (.int .i64 (if v - u.v < 0 then 0 else v - u.v))).drew := (kp_setOne _ g k _).tr (Kp.drew _ _)
          have O5 : (wr.setCell ⟨g, k, none⟩ (.int .i64 (if v - u.v < 0 then 0 else v - u.v))).drew.ownsRow w3.heap.size 2 1 (.slice (some ⟨g, 0, none⟩) dn c1) dn ((es.set k (if v - u.v < 0 then 0 else v - u.v)).map (Value.int .i64)) := by
            rw [List.map_set]
            exact (Kp.drew (fun _ => False) _).owns (own_set HOW.out k _) (fun _ _ h => h)
          have hb : 0 ≤ (if v - u.v < 0 then 0 else v - u.v) ∧ (if v - u.v < 0 then 0 else v - u.v) ≤ v := by split <;> omega
          clear hw1 hw2 yv yu fv
          generalize (if v - u.v < 0 then 0 else v - u.v) = y at *
          generalize (wr.setCell ⟨g, k, none⟩ (.int .i64 y)).drew = w5 at *
          have KS5 := Lib.hid (HKP.out.tr KS)
          have O55 := Lib.hid O5
          have L5 := Lib.hid (les_set HLE.out HV.out hb)
          clear KS O5 hb
          go_wp2_with fail
          go_roundw
          case rel => exact ⟨k + 1, es.set k y, by omega, by go_num, O55.out, L5.out, KS5.out⟩
          case measure => simp [intOf]; omega
        ·
          obtain ⟨x0, x1, x2⟩ := box3 (HKP.out.heap E0.out (fun e => HONE.out _ (by omega) e))
          obtain ⟨y0, y1, y2, y3⟩ := box4 (HKP.out.heap E1.out (fun e => HONE.out _ (by omega) e))
          go_wp2_with fail
          refine (HT.out g c1 _ _ (HR.out.no HKW.out) (RdI.of_own HOW.out) (by have h1 := HLE.out.1; have h2 := HL.out; omega) (les_ok HLE.out HO.out)).mono ?_
          rintro e w6 ⟨vf3, vr, rfl, hsup3, hk6⟩
          obtain rfl := sup_small HL.out HLE.out HF.out hsup3
          clear hsup3
          go_wp2_with fail
          refine (HA.out _).mono ?_
          rintro e w7 ⟨rfl, hk7⟩
          go_wp2_with fail
          refine bodyPost_ret (v := .bool true) (by simp [results, Try.results6, go_sem]) rfl ⟨rfl, (HKW.out.tr hk6).tr hk7⟩
      ·
        obtain ⟨x0, x1, x2⟩ := box3 (HKP.out.heap E0.out (fun e => HONE.out _ (by omega) e))
        obtain ⟨y0, y1, y2, y3⟩ := box4 (HKP.out.heap E1.out (fun e => HONE.out _ (by omega) e))
        go_wp2_with fail
        refine (HT.out g c1 _ _ (HR.out.no HKW.out) (RdI.of_own HOW.out) (by have h1 := HLE.out.1; have h2 := HL.out; omega) (les_ok HLE.out HO.out)).mono ?_
        rintro e w6 ⟨vf3, vr, rfl, hsup3, hk6⟩
        obtain rfl := sup_small HL.out HLE.out HF.out hsup3
        clear hsup3
        go_wp2_with fail
        refine (HA.out _).mono ?_
        rintro e w7 ⟨rfl, hk7⟩
        go_wp2_with fail
        refine bodyPost_ret (v := .bool true) (by simp [results, Try.results6, go_sem]) rfl ⟨rfl, (HKW.out.tr hk6).tr hk7⟩
  · obtain ⟨qa, qn, qc, rfl⟩ : ∃ (qa : Option Addr) (qn qc : Nat), vq = .slice qa qn qc := by
      rcases sup_or HN.out hsup2 with ⟨_, rfl⟩ | ⟨a, n, c, rfl, _⟩
      · exact ⟨_, _, _, rfl⟩
      · exact ⟨_, _, _, rfl⟩
    have hpn1 : (0 : Int) < pn := by omega
    have hpn2 : ((pn : Int) == 0) = false := by rw [beq_eq_false_iff_ne]; omega
    clear hsup hsup2 hpn
    go_wp2_with (at_builtin; refine stop_in ?_)
    refine stop_out ?_
    refine wpL_append_any rfl _ _ 38 rfl w3.heap.size 2 i0 (.int .i64 0) 1 8 Try.underlying38 hi0 hz0 hz1 hz2 rfl (by decide) (.slice (some ⟨w3.heap.size, 0, none⟩) 0 0) 0 [] rfl (own_empty (Nat.le_refl _)) D dn dc (ds.map (Value.int .i64)) rfl (by simp; omega) HNIL.out (rdi_news ((HD.out.no K3.out).no (Kp.alloc No _ _))) (by simp [Value.oneCell']) (by unfold maxLen; omega) (by omega) (by simp) ?_
    intro v1 w4 ho1 hgr1 hat1
    have hk4 : Kp No w3 w4 := (Kp.refl No w3).trans ((Kp.alloc (fun k => w3.heap.size ≤ k) _ _).tr (Kp.grown hgr1 fun k hk _ => by simp [Value.ownBlock] at hk; omega)) (fun k hk h => absurd h (Nat.not_le.2 hk))
    replace ho1 : w4.ownsRow w3.heap.size 2 1 v1 dn (ds.map (Value.int .i64)) := by simpa using ho1
    obtain ⟨g, c1, rfl⟩ := own_some ho1 (fun e => by subst e; simp [Value.ownBlock] at hat1)
    have hgb : w3.heap.size ≤ g := (own_ge ho1 rfl).1
    have O1 := Lib.hid ho1
    have K4 := Lib.hid (K3.out.tr hk4)
    have E0 := Lib.hid (hk4.heap D0.out (fun h => h))
    have E1 := Lib.hid (hk4.heap D1.out (fun h => h))
    have hw3 := K3.out.size
    have hone : ∀ k, k < w3.heap.size → One g k → False := fun k hk e => by have e2 : k = g := e; omega
    have HONE := Lib.hid hone
    have HLS := Lib.hid (les_refl HO.out)
    clear ho1 hgr1 hat1 hk4 x0 x1 x2 y0 y1 y2 y3 g0 g1 hone
    go_wp2_with fail
    go_loopw [16] (fun i wr => ∃ (k : Nat) (es : List Int), k ≤ dn ∧ i = .int .i64 k ∧ wr.ownsRow w3.heap.size 2 1 (.slice (some ⟨g, 0, none⟩) dn c1) dn (es.map (Value.int .i64)) ∧ Les es ds ∧ Kp (One g) w4 wr) (fun i _ => dn - (intOf i).toNat)
    case atStart => exact ⟨0, ds, by omega, rfl, O1.out, HLS.out, Kp.refl _ _⟩
    case round =>
      obtain ⟨k, es, hk, rfl, hown, hle, hkp⟩ := hrel
      have HOW := Lib.hid hown
      have HLE := Lib.hid hle
      have HKP := Lib.hid hkp
      have HKW := Lib.hid (show Kp No w wr from K4.out.trans hkp fun j hj e => HONE.out j (by omega) e)
      clear hown hle hkp
      by_cases hlt : (k : Int) < dn
      · by_cases hlu : (k : Int) < un
        · obtain ⟨v, hv⟩ : ∃ v, es[k]? = some v := ⟨_, List.getElem?_eq_getElem (by have := HLE.out.1; omega)⟩
          obtain ⟨u, hu⟩ : ∃ u, us[k]? = some u := ⟨_, List.getElem?_eq_getElem (by omega)⟩
          have hvo := les_ok HLE.out HO.out v (List.mem_of_getElem? hv)
          unfold dOk at hvo
          obtain ⟨hv0, hv1⟩ := hvo
          obtain ⟨ub, uo, rfl, hub, huc⟩ := (HU.out.no HKW.out).2 k u hu
          have yu : wr.cell? ⟨ub, uo + k, none⟩ = some (.int .u16 u.v) := by simpa using huc 0 _ rfl
          have yv := own_cell HOW.out (j := k) (u := .int .i64 v) (by rw [List.getElem?_map, hv]; rfl)
          have fv := own_free HOW.out k
          have HV := Lib.hid hv
          have hu0 := u.lo
          have hu1 := u.hi
          clear huc hu hv
          have hw1 : IntKind.i64.wrap u.v = u.v := IntWalk.i64_in _ (by omega)
          have hw2 : IntKind.i64.wrap (v - u.v) = v - u.v := IntWalk.i64_in _ (by omega)
          have hkt : (k : Int).toNat = k := by omega
          go_wp2_with fail
          go_region
          have KS : Kp (One g) wr (wr.setCell ⟨g, k, none⟩ (.int .i64 (if v - u.v < 0 then 0 else v - u.v))).drew := (kp_setOne _ g k _).tr (Kp.drew _ _)
          have O5 : (wr.setCell ⟨g, k, none⟩ (.int .i64 (if v - u.v < 0 then 0 else v - u.v))).drew.ownsRow w3.heap.size 2 1 (.slice (some ⟨g, 0, none⟩) dn c1) dn ((es.set k (if v - u.v < 0 then 0 else v - u.v)).map (Value.int .i64)) := by
            rw [List.map_set]
            exact (Kp.drew (fun _ => False) _).owns (own_set HOW.out k _) (fun _ _ h => h)
          have hb : 0 ≤ (if v - u.v < 0 then 0 else v - u.v) ∧ (if v - u.v < 0 then 0 else v - u.v) ≤ v := by split <;> omega
          clear hw1 hw2 yv yu fv
          generalize (if v - u.v < 0 then 0 else v - u.v) = y at *
          generalize (wr.setCell ⟨g, k, none⟩ (.int .i64 y)).drew = w5 at *
          have KS5 := Lib.hid (HKP.out.tr KS)
          have O55 := Lib.hid O5
          have L5 := Lib.hid (les_set HLE.out HV.out hb)
          clear KS O5 hb
          go_wp2_with fail
          go_roundw
          case rel => exact ⟨k + 1, es.set k y, by omega, by go_num, O55.out, L5.out, KS5.out⟩
          case measure => simp [intOf]; omega
        ·
          obtain ⟨x0, x1, x2⟩ := box3 (HKP.out.heap E0.out (fun e => HONE.out _ (by omega) e))
          obtain ⟨y0, y1, y2, y3⟩ := box4 (HKP.out.heap E1.out (fun e => HONE.out _ (by omega) e))
          go_wp2_with fail
          refine (HT.out g c1 _ _ (HR.out.no HKW.out) (RdI.of_own HOW.out) (by have h1 := HLE.out.1; have h2 := HL.out; omega) (les_ok HLE.out HO.out)).mono ?_
          rintro e w6 ⟨vf3, vr, rfl, hsup3, hk6⟩
          skip
          clear hsup3
          go_wp2_with fail
          refine (HA.out _).mono ?_
          rintro e w7 ⟨rfl, hk7⟩
          go_wp2_with fail
          refine bodyPost_ret (v := .bool true) (by simp [results, Try.results6, go_sem]) rfl ⟨rfl, (HKW.out.tr hk6).tr hk7⟩
      ·
        obtain ⟨x0, x1, x2⟩ := box3 (HKP.out.heap E0.out (fun e => HONE.out _ (by omega) e))
        obtain ⟨y0, y1, y2, y3⟩ := box4 (HKP.out.heap E1.out (fun e => HONE.out _ (by omega) e))
        go_wp2_with fail
        refine (HT.out g c1 _ _ (HR.out.no HKW.out) (RdI.of_own HOW.out) (by have h1 := HLE.out.1; have h2 := HL.out; omega) (les_ok HLE.out HO.out)).mono ?_
        rintro e w6 ⟨vf3, vr, rfl, hsup3, hk6⟩
        skip
        clear hsup3
        go_wp2_with fail
        refine (HA.out _).mono ?_
        rintro e w7 ⟨rfl, hk7⟩
        go_wp2_with fail
        refine bodyPost_ret (v := .bool true) (by simp [results, Try.results6, go_sem]) rfl ⟨rfl, (HKW.out.tr hk6).tr hk7⟩
theorem tgrows_any (Z : Nz) (A B D E U : Option Addr) (ca cb dn dc en ec un uc : Nat) (hi : Bool) (x : Int) (ds : List Int) (us : List U16) (w : World) (hR : RdNz w A B Z) (hD : RdI .i64 w D dn ds) (hU : Rd u1 1 w U un us) (hnil : D = none → dn = 0 ∧ dc = 0) :
    Calls Try.prog 6 #[netZ Z A B ca cb, askV hi D E dn dc en ec x, .slice U un uc] w fun e w' => e = .returned (.bool true) ∧ Kp No w w' := by
  by_cases hlong : 70 < Z.tr.length ∨ 20 < Z.ch.length ∨ 20 < dn
  · exact grows_long Z A B D E U ca cb dn dc en ec un uc hi x w hlong
  · obtain ⟨c, hc⟩ := chk_ex Z
    by_cases hz : c = 0
    · subst hz
      obtain ⟨N, hN, rfl⟩ := chk_zero hc
      by_cases hds : ds.length = N.ch.length ∧ ∀ d ∈ ds, dOk d
      · rw [netZ_nz]
        exact grows_ok N hN A B D E U ca cb dn dc en ec un uc hi x ds us w (rdnet_z hR) hD hU hnil hds.1 hds.2 (by omega)
      · refine grows_err (nz N) A B D E U ca cb dn dc en ec un uc hi x 2 0 w (by omega) (by omega) (by omega) (by decide) (.inl rfl) (fun W hk => ?_) (fun hh W hk => ?_)
        · rw [netZ_nz]
          exact (Greatest_ok N hN A B ca cb W ((rdnet_z hR).no hk)).mono fun e w' ⟨lo, hi, he, _, _, hk'⟩ => ⟨lo, hi, he, hk'⟩
        · rw [netZ_nz]
          exact Supply_arg N hN A B D ca cb dn dc hh ds W ((rdnet_z hR).no hk) (hD.no hk) hds
    · exact grows_err Z A B D E U ca cb dn dc en ec un uc hi x c c w (by omega) (by omega) (by omega) hz (.inr rfl) (fun W hk => (Greatest_bad Z c hc hz A B ca cb W (hR.no hk)).mono fun e w' ⟨he, hk'⟩ => ⟨0, 0, he, hk'⟩) fun hh W hk => Supply_bad Z c hc hz A B D ca cb dn dc hh W (hR.no hk)
end Go.Proofs.Ytjjecadfcndkaaa
