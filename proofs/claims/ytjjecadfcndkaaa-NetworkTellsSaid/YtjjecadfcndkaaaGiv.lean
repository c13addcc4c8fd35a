/- Chapter 14: the walk of the reference's Given. -/
import Derived.Test.YtjjecadfcndkaaaRck
import Derived.Test.YtjjecadfcndkaaaLin
namespace Go.Proofs.Ytjjecadfcndkaaa
open Go.RowKit Go.Kq Go.Flow

/-- A row of sums at the nodes. -/
def ndRow (n : Nat) (nd : Nat → Int) : List Value := (List.range n).map fun v => Value.int .i64 (nd v)
theorem ndRow_len (n : Nat) (nd : Nat → Int) : (ndRow n nd).length = n := by simp [ndRow]
theorem ndRow_at {n v : Nat} (nd : Nat → Int) (hv : v < n) : (ndRow n nd)[v]? = some (.int .i64 (nd v)) := by
  unfold ndRow
  rw [List.getElem?_map, List.getElem?_range hv]
  rfl
theorem ndRow_set (n : Nat) (nd : Nat → Int) (v : Nat) (x : Int) : (ndRow n nd).set v (.int .i64 x) = ndRow n (upd nd v x) := by
  apply List.ext_getElem
  · simp [ndRow]
  · intro i h1 h2
    rw [List.getElem_set]
    by_cases e : v = i
    · subst e
      simp [ndRow, upd]
    · simp [ndRow, upd, e, Ne.symm e]
theorem ndRow_zero (n : Nat) : ndRow n (fun _ => 0) = List.replicate n (Value.int .i64 0) := by
  apply List.ext_getElem
  · simp [ndRow]
  · intro i h1 h2
    simp [ndRow]
theorem own_nds (w : World) (n : Nat) (hn : n ≤ 100000) : (w.alloc (.cells (List.replicate n (Value.int .i64 0)).toArray 2)).ownsRow w.heap.size 2 1 (.slice (some ⟨w.heap.size, 0, none⟩) n n) n (ndRow n fun _ => 0) := by
  rw [ndRow_zero]
  refine ⟨by simp, .inr ⟨_, n, (List.replicate n (Value.int .i64 0)).toArray, rfl, Nat.le_refl _, heap_alloc_new w _, Nat.le_refl _, ?_, ?_, ?_⟩⟩
  · unfold maxLen; omega
  · simp
  · simp
theorem nd_set {w wr : World} {base n g c : Nat} {nd : Nat → Int} {x : Int} (ho : wr.ownsRow base 2 1 (.slice (some ⟨g, 0, none⟩) n n) n (ndRow n nd)) (hk : Kp No w wr) (hg : w.heap.size ≤ g) :
    ((wr.setCell ⟨g, c, none⟩ (.int .i64 x)).drew).ownsRow base 2 1 (.slice (some ⟨g, 0, none⟩) n n) n (ndRow n (upd nd c x)) ∧ Kp No w ((wr.setCell ⟨g, c, none⟩ (.int .i64 x)).drew) := by
  refine ⟨?_, hk.trans ((kp_setOne wr g c _).tr (Kp.drew _ _)) fun k hk e => by have e2 : k = g := e; omega⟩
  rw [← ndRow_set]
  exact (Kp.drew (fun _ => False) _).owns (own_set ho c _) (fun _ _ h => h)
theorem zip_at {α β : Type} {l : List α} {m : List β} {k : Nat} {x : α} {y : β} (hx : l[k]? = some x) (hy : m[k]? = some y) : (l.zip m)[k]? = some (x, y) := List.getElem?_zip_eq_some.2 ⟨hx, hy⟩
theorem asc_ne {l : List Nat} {m : List Int} {k c : Nat} (ha : l.Pairwise (· < ·)) (hc : l[k]? = some c) : ∀ x ∈ (l.zip m).take k, x.1 ≠ c := fun x hx e => by
  obtain ⟨i, hi⟩ := List.mem_iff_getElem?.1 hx
  rw [List.getElem?_take] at hi
  split at hi
  · rename_i hik
    have h1 := (List.getElem?_zip_eq_some.1 hi).1
    obtain ⟨i1, e1⟩ := List.getElem?_eq_some_iff.1 h1
    obtain ⟨i2, e2⟩ := List.getElem?_eq_some_iff.1 hc
    have := List.pairwise_iff_getElem.1 ha i k i1 i2 hik
    omega
  · cases hi
/-- What Given says. -/
def GivR (N : Net) (hi : Bool) (ds fs : List Int) (w : World) (e : Ending) (w' : World) : Prop := ∃ r : Bool, e = .returned (.bool r) ∧ (r = true ↔ N.Feas hi ds fs) ∧ Kp No w w'
theorem book_bd {nd : Nat → Int} {k a b : Nat} {x y : Int} (h : ∀ v, -(1000000000000 * ((k : Int) + 1)) ≤ nd v ∧ nd v ≤ 1000000000000 * ((k : Int) + 1)) (hx : -(1000000000000 * (((k + 1 : Nat) : Int) + 1)) ≤ x ∧ x ≤ 1000000000000 * (((k + 1 : Nat) : Int) + 1)) (hy : -(1000000000000 * (((k + 1 : Nat) : Int) + 1)) ≤ y ∧ y ≤ 1000000000000 * (((k + 1 : Nat) : Int) + 1)) :
    ∀ v, -(1000000000000 * (((k + 1 : Nat) : Int) + 1)) ≤ upd (upd nd a x) b y v ∧ upd (upd nd a x) b y v ≤ 1000000000000 * (((k + 1 : Nat) : Int) + 1) :=
  upd_bd (M := 1000000000000 * (((k + 1 : Nat) : Int) + 1)) (upd_bd (M := 1000000000000 * (((k + 1 : Nat) : Int) + 1)) (fun v => by have := h v; omega) hx) hy
attribute [local go_sem ↓] Go.wp_at_zero Go.wp_at_succ
set_option maxHeartbeats 8000000 in
set_option maxRecDepth 100000 in
theorem given_any (N : Net) (hN : N.Ok) (A B D E : Option Addr) (ca cb dc ec : Nat) (hi : Bool) (ds fs : List Int) (w : World) (hR : RdNet w A B N) (hD : RdI .i64 w D ds.length ds) (hE : RdI .i64 w E fs.length fs) (hl : ds.length = N.ch.length) (hd : ∀ d ∈ ds, dOk d) (hf : fs.length = N.tr.length) :
    Calls Try.prog 43 #[netV N A B ca cb, .bool hi, .slice D ds.length dc, .slice E fs.length ec] w fun e w' => GivR N hi ds fs w e w' := by
  have hn1 := hN.n1
  have hn2 := hN.n2
  have ht1 := hN.t1
  have hc1 := hN.c1
  have hmk := fun W => make_ints (T := 38) (E := 2) Try.underlying38 info2 N.n (N.n : Int) rfl (by omega) W
  have HMK := Lib.hid hmk
  have HN := Lib.hid hN
  have HR := Lib.hid hR
  have HD := Lib.hid hD
  have HE := Lib.hid hE
  have HL := Lib.hid hl
  have HO := Lib.hid hd
  have HF := Lib.hid hf
  have HIFF := Lib.hid (feas_iff hN (h := hi) (ds := ds) hf)
  have hfl : fs.length ≤ 60 := by omega
  clear hN hR hD hE hl hd hf
  unfold netV
  go_enter Try.func43, Try.ntmps43
  go_wp2_with fail
  have B0 := Lib.hid (heap_alloc_new w (.cells #[.int .i64 N.n, .slice A N.tr.length ca, .slice B N.ch.length cb] 25))
  have K0 := Lib.hid (Kp.alloc No w (.cells #[.int .i64 N.n, .slice A N.tr.length ca, .slice B N.ch.length cb] 25))
  have O0 := Lib.hid (own_nds (w.alloc (.cells #[.int .i64 N.n, .slice A N.tr.length ca, .slice B N.ch.length cb] 25)) N.n (by omega))
  have S0 : (w.alloc (.cells #[.int .i64 N.n, .slice A N.tr.length ca, .slice B N.ch.length cb] 25)).heap.size = w.heap.size + 1 := by simp
  have HS0 := Lib.hid S0
  clear S0
  go_loopw [10] (fun i wr => ∃ (k : Nat) (nd : Nat → Int), k ≤ N.ch.length ∧ i = .int .i64 k ∧ (∀ v, 1 ≤ v → nd v = - dem (one v) ((N.ch.zip ds).take k)) ∧ (∀ v, -1000000000000 ≤ nd v ∧ nd v ≤ 1000000000000) ∧ wr.ownsRow (w.heap.size + 1) 2 1 (.slice (some ⟨w.heap.size + 1, 0, none⟩) N.n N.n) N.n (ndRow N.n nd) ∧ Kp No (w.alloc (.cells #[.int .i64 N.n, .slice A N.tr.length ca, .slice B N.ch.length cb] 25)) wr) (fun i _ => N.ch.length - (intOf i).toNat)
  case atStart => exact ⟨0, fun _ => 0, by omega, rfl, fun v _ => by simp [dem], fun v => by show _ ≤ (0 : Int) ∧ (0 : Int) ≤ _; omega, by have := O0.out; rw [HS0.out] at this; exact this, Kp.alloc _ _ _⟩
  case round =>
    obtain ⟨k, nd, hk, rfl, hnd, hbd, hown, hkp⟩ := hrel
    obtain ⟨x0, x1, x2⟩ := box3 (hkp.heap B0.out (fun h => h))
    have hbs := (Array.getElem?_eq_some_iff.1 (hkp.heap B0.out (fun h => h))).1
    have HK := Lib.hid hkp
    have HND := Lib.hid hnd
    have HBD := Lib.hid hbd
    have OW := Lib.hid hown
    clear hkp hnd hbd hown
    by_cases hlt : (k : Int) < N.ch.length
    · obtain ⟨c, hc⟩ : ∃ c, N.ch[k]? = some c := ⟨_, List.getElem?_eq_getElem (by omega)⟩
      obtain ⟨d, hd⟩ : ∃ d, ds[k]? = some d := ⟨_, List.getElem?_eq_getElem (by have := HL.out; omega)⟩
      have hck := HN.out.ck c (List.mem_of_getElem? hc)
      have hdk := HO.out d (List.mem_of_getElem? hd)
      unfold dOk at hdk
      obtain ⟨bB, oB, rfl, hbB, y0⟩ := (HR.out.no (K0.out.tr HK.out)).chest hc
      obtain ⟨bD, oD, rfl, hbD, z0⟩ := (HD.out.no (K0.out.tr HK.out)).2 k d hd
      have yg := own_cell OW.out (ndRow_at nd hck.2)
      have fg := own_free OW.out c
      have HST := Lib.hid (ask_step (nd := nd) (zip_at hc hd) hck.1 (asc_ne HN.out.asc hc) HND.out)
      have HBD2 := Lib.hid (upd_bd (M := 1000000000000) HBD.out (x := d) (c := c) (by omega))
      have hcn : (c : Int) < N.n := by omega
      have hkd : (k : Int) < ds.length := by have := HL.out; omega
      have HW := Lib.hid (nd_set (c := c) (x := d) OW.out HK.out (by rw [HS0.out]; exact Nat.le_refl _))
      clear hc hd
      go_wp2_with fail
      go_region
      generalize (wr.setCell ⟨w.heap.size + 1, c, none⟩ (.int .i64 d)).drew = w3 at *
      obtain ⟨o3, k3⟩ := HW.out
      have O3 := Lib.hid o3
      have K3 := Lib.hid k3
      clear o3 k3
      go_wp2_with fail
      go_roundw
      case rel => exact ⟨k + 1, _, by omega, by go_num, HST.out, HBD2.out, O3.out, K3.out⟩
      case measure => simp [intOf]; omega
    · obtain rfl : k = N.ch.length := by omega
      have hz0 : (N.ch.zip ds).take N.ch.length = N.ch.zip ds := List.take_of_length_le (by simp; omega)
      have HND1 := Lib.hid (show ∀ v, 1 ≤ v → nd v = - dem (one v) (N.ch.zip ds) by have := HND.out; rwa [hz0] at this)
      have K1 := Lib.hid (K0.out.tr HK.out)
      have B1 := Lib.hid (HK.out.heap B0.out (fun h => h))
      have B1K := HK
      clear hz0 HND HK
      go_wp2_with fail
      obtain ⟨wo, rfl⟩ : ∃ wo : World, wo = wr := ⟨_, rfl⟩
      go_loopw [11] (fun i wq => ∃ (k : Nat) (nd : Nat → Int), k ≤ fs.length ∧ i = .int .i64 k ∧ (∀ v, 1 ≤ v → nd v = dv (one v) ((pf hi N.tr fs).take k) - dem (one v) (N.ch.zip ds)) ∧ (∀ v, -(1000000000000 * ((k : Int) + 1)) ≤ nd v ∧ nd v ≤ 1000000000000 * ((k : Int) + 1)) ∧ (∀ (i : Nat) (f : Int) (t : Tk), i < k → fs[i]? = some f → N.tr[i]? = some t → 0 ≤ f ∧ f ≤ t.cap hi) ∧ wq.ownsRow (w.heap.size + 1) 2 1 (.slice (some ⟨w.heap.size + 1, 0, none⟩) N.n N.n) N.n (ndRow N.n nd) ∧ Kp No (w.alloc (.cells #[.int .i64 N.n, .slice A N.tr.length ca, .slice B N.ch.length cb] 25)) wq) (fun i _ => fs.length - (intOf i).toNat)
      case atStart => exact ⟨0, nd, by omega, rfl, fun v hv => by rw [HND1.out v hv]; simp [dv], fun v => by have := HBD.out v; omega, fun i f t h => by omega, OW.out, B1K.out⟩
      case round =>
        clear x0 x1 x2 OW HBD HND1 K1 B1 B1K
        obtain ⟨k, nd, hk, rfl, hnd, hbd, hrng, hown, hkp⟩ := hrel
        obtain ⟨x0, x1, x2⟩ := box3 (hkp.heap B0.out (fun h => h))
        have hbs := (Array.getElem?_eq_some_iff.1 (hkp.heap B0.out (fun h => h))).1
        have HK := Lib.hid hkp
        have HND := Lib.hid hnd
        have HBD := Lib.hid hbd
        have HRG := Lib.hid hrng
        have OW := Lib.hid hown
        clear hkp hnd hbd hrng hown
        by_cases hlt : (k : Int) < fs.length
        · obtain ⟨t, ht⟩ : ∃ t, N.tr[k]? = some t := ⟨_, List.getElem?_eq_getElem (by have := HF.out; omega)⟩
          obtain ⟨f, hf⟩ : ∃ f, fs[k]? = some f := ⟨_, List.getElem?_eq_getElem (by omega)⟩
          have hkt : k < N.tr.length := (List.getElem?_eq_some_iff.1 ht).1
          have htk := HN.out.tk t (List.mem_of_getElem? ht)
          obtain ⟨hc0, hc1'⟩ := HN.out.cap (List.mem_of_getElem? ht) hi
          obtain ⟨bA, oA, rfl, hbA, t0, t1, t2, t3⟩ := (HR.out.no (K0.out.tr HK.out)).trunk ht
          obtain ⟨bE, oE, rfl, hbE0, z00⟩ := HE.out.2 k f hf
          have z0 := (K0.out.tr HK.out).cell z00 (fun h => h)
          have hbE : bE < wr.heap.size := Nat.lt_of_lt_of_le hbE0 (K0.out.tr HK.out).size
          have hGq := (own_ge OW.out rfl).2
          have CAP := Lib.hid (cap_any t hi)
          have HNF := Lib.hid (show ¬ (0 ≤ f ∧ f ≤ t.cap hi) → ¬ N.Feas hi ds fs from fun h1 h2 => h1 ((HIFF.out.1 h2).1 k f t hf ht))
          have HRG2 := Lib.hid (show (0 ≤ f ∧ f ≤ t.cap hi) → ∀ (i : Nat) (f : Int) (t : Tk), i < k + 1 → fs[i]? = some f → N.tr[i]? = some t → 0 ≤ f ∧ f ≤ t.cap hi from fun h i f' t' hi' h1 h2 => by
            by_cases e : i = k
            · subst e
              rw [hf] at h1
              rw [ht] at h2
              cases h1
              cases h2
              exact h
            · exact HRG.out i f' t' (by omega) h1 h2)
          have HBK := Lib.hid (book_step (p := ⟨t.fr, t.to, t.cap hi, f, false⟩) (z := fun v => dem (one v) (N.ch.zip ds)) (pf_at ht hf) htk.2.2.1 HND.out)
          simp only at HBK
          obtain ⟨e1, e2, e3, _⟩ := htk
          have HTR := Lib.hid (show t.fr < N.n ∧ t.to < N.n ∧ t.fr ≠ t.to from ⟨e1, e2, e3⟩)
          have hfr : (t.fr : Int) < N.n := by omega
          have hto : (t.to : Int) < N.n := by omega
          have hnt := HBD.out t.to
          have hnf := HBD.out t.fr
          have hnt1 : -61000000000000 ≤ nd t.to := by omega
          have hnt2 : nd t.to ≤ 61000000000000 := by omega
          have hnf1 : -61000000000000 ≤ nd t.fr := by omega
          have hnf2 : nd t.fr ≤ 61000000000000 := by omega
          clear hnt hnf e1 e2 e3 ht hf
          generalize hcapv : t.cap hi = c at *
          clear hcapv
          by_cases hf0 : f < 0
          · have d1 : decide (f < 0) = true := decide_eq_true hf0
            have HB := Lib.hid (HNF.out (by omega))
            go_wp2_with fail
            go_quiet (fail)
            go_wp2_with fail
            go_ret
            exact ⟨false, rfl, ⟨(fun h => by cases h), fun h => absurd h HB.out⟩, ((K0.out.tr HK.out).tr (Kp.alloc _ _ _)).tr (Kp.drewN _ _ _)⟩
          · have d1 : decide (f < 0) = false := decide_eq_false hf0
            have hf00 : 0 ≤ f := by omega
            clear hf0
            go_wp2_with fail
            go_region_held3 (fun w' => w'.cell? ⟨bE, oE + k, none⟩ = some (.int .i64 f) ∧ w'.cell? ⟨wr.heap.size, 0, none⟩ = some (.int .i64 t.fr) ∧ w'.cell? ⟨wr.heap.size, 1, none⟩ = some (.int .i64 t.to) ∧ w'.cell? ⟨wr.heap.size, 2, none⟩ = some (.int .i64 t.lo) ∧ w'.cell? ⟨wr.heap.size, 3, none⟩ = some (.int .i64 t.hi)) (first | exact ⟨c0, c1, c2, c3, c4⟩ | go_keep)
              ((first | (go_at_call 42; refine (CAP.out _).mono ?_; rintro e w2 ⟨rfl, hk2⟩; have c0 := hk2.cell (a := ⟨bE, oE + k, none⟩) (v := .int .i64 f) (by go_simp) (fun h => h); have c1 := hk2.cell (a := ⟨wr.heap.size, 0, none⟩) (v := .int .i64 t.fr) (by go_simp) (fun h => h); have c2 := hk2.cell (a := ⟨wr.heap.size, 1, none⟩) (v := .int .i64 t.to) (by go_simp) (fun h => h); have c3 := hk2.cell (a := ⟨wr.heap.size, 2, none⟩) (v := .int .i64 t.lo) (by go_simp) (fun h => h); have c4 := hk2.cell (a := ⟨wr.heap.size, 3, none⟩) (v := .int .i64 t.hi) (by go_simp) (fun h => h); have HQ2 := Lib.hid ((Kp.alloc No wr (.cells #[.int .i64 t.fr, .int .i64 t.to, .int .i64 t.lo, .int .i64 t.hi] 66)).tr ((Kp.drew No _).tr hk2)); have hsz := hk2.size; simp at hsz; clear hk2)))
            have HK2 := Lib.hid (HK.out.tr HQ2.out)
            by_cases hfc : c < f
            · have HB := Lib.hid (HNF.out (by omega))
              go_wp2_with fail
              go_ret
              exact ⟨false, rfl, ⟨(fun h => by cases h), fun h => absurd h HB.out⟩, K0.out.tr HK2.out⟩
            · have hfc2 : f ≤ c := by omega
              clear hfc
              have hf12 : f ≤ 1000000000000 := by omega
              have O2 := own_kp OW.out HQ2.out (fun _ _ h => h)
              have yg := own_cell O2 (ndRow_at nd HTR.out.2.1)
              have fg := own_free O2 t.to
              have hsum : IntKind.i64.wrap (nd t.to - f) = nd t.to - f := IntWalk.i64_in _ (by omega)
              have HW := Lib.hid (nd_set (c := t.to) (x := nd t.to - f) O2 HK2.out (by rw [HS0.out]; exact Nat.le_refl _))
              have KS := Lib.hid ((kp_setOne w2 (w.heap.size + 1) t.to (.int .i64 (nd t.to - f))).tr (Kp.drew _ _))
              have hneE : ¬ One (w.heap.size + 1) bE := fun e => by have e2 : bE = w.heap.size + 1 := e; omega
              have hneT : ¬ One (w.heap.size + 1) wr.heap.size := fun e => by have e2 : wr.heap.size = w.heap.size + 1 := e; omega
              clear O2
              go_wp2_with fail
              go_region
              generalize (w2.setCell ⟨w.heap.size + 1, t.to, none⟩ (.int .i64 (nd t.to - f))).drew = w3 at *
              have C0 := KS.out.cell c0 hneE
              have C1 := KS.out.cell c1 hneT
              have C2 := KS.out.cell c2 hneT
              have h3s := KS.out.size
              obtain ⟨o3, k3⟩ := HW.out
              have yf := own_cell o3 (ndRow_at _ HTR.out.1)
              have ff := own_free o3 t.fr
              rw [upd_ne _ _ HTR.out.2.2] at yf
              have hsum2 : IntKind.i64.wrap (nd t.fr + f) = nd t.fr + f := IntWalk.i64_in _ (by omega)
              have HW2 := Lib.hid (nd_set (c := t.fr) (x := nd t.fr + f) o3 k3 (by rw [HS0.out]; exact Nat.le_refl _))
              clear c0 c1 c2 c3 c4 yg fg o3 k3 hsum
              go_wp2_with fail
              go_region
              generalize (w3.setCell ⟨w.heap.size + 1, t.fr, none⟩ (.int .i64 (nd t.fr + f))).drew = w4 at *
              obtain ⟨o4, k4⟩ := HW2.out
              have O4 := Lib.hid o4
              have K4 := Lib.hid k4
              have HBB := Lib.hid (book_bd (a := t.to) (b := t.fr) (x := nd t.to - f) (y := nd t.fr + f) HBD.out (by have := HBD.out t.to; omega) (by have := HBD.out t.fr; omega))
              clear o4 k4 hsum2 yf ff C0 C1 C2
              go_wp2_with fail
              go_roundw
              case rel => exact ⟨k + 1, _, by omega, by go_num, HBK.out, HBB.out, HRG2.out ⟨hf00, hfc2⟩, O4.out, K4.out⟩
              case measure => simp [intOf]; omega
        · obtain rfl : k = fs.length := by omega
          have hz : (pf hi N.tr fs).take fs.length = pf hi N.tr fs := List.take_of_length_le (by simp [pf]; omega)
          have HND1 := Lib.hid (show ∀ v, 1 ≤ v → nd v = dv (one v) (pf hi N.tr fs) - dem (one v) (N.ch.zip ds) by have := HND.out; rwa [hz] at this)
          have HRG1 := Lib.hid (show ∀ (i : Nat) (f : Int) (t : Tk), fs[i]? = some f → N.tr[i]? = some t → 0 ≤ f ∧ f ≤ t.cap hi from fun i f t h1 h2 => HRG.out i f t (List.getElem?_eq_some_iff.1 h1).1 h1 h2)
          have KW := Lib.hid (K0.out.tr HK.out)
          have B2 := Lib.hid (HK.out.heap B0.out (fun h => h))
          clear hz HND HRG HBD HK
          go_wp2_with fail
          obtain ⟨wo2, rfl⟩ : ∃ wo2 : World, wo2 = wr := ⟨_, rfl⟩
          go_loopw [13] (fun i wp => ∃ k : Nat, 1 ≤ k ∧ k ≤ N.n ∧ i = .int .i64 k ∧ (∀ v, 1 ≤ v → v < k → nd v = 0) ∧ Kp No wo2 wp) (fun i _ => N.n - (intOf i).toNat)
          case atStart => exact ⟨1, by omega, hn1, rfl, fun v h1 h2 => by omega, Kp.refl _ _⟩
          case round =>
            clear x0 x1 x2
            obtain ⟨k, hk1, hk2, rfl, hz, hkp⟩ := hrel
            obtain ⟨x0, x1, x2⟩ := box3 (hkp.heap B2.out (fun h => h))
            have hown := own_kp OW.out hkp (fun _ _ h => h)
            have HZ := Lib.hid hz
            have HKP := Lib.hid hkp
            clear hz hkp
            by_cases hlt : (k : Int) < N.n
            · have y := own_cell hown (ndRow_at nd (show k < N.n by omega))
              clear hown
              by_cases h0 : nd k = 0
              · rw [h0] at y
                have HZ2 := Lib.hid (show ∀ v, 1 ≤ v → v < k + 1 → nd v = 0 from fun v h1 h2 => by
                  by_cases e : v = k
                  · rw [e]; exact h0
                  · exact HZ.out v h1 (by omega))
                clear h0
                go_wp2_with fail
                go_roundw
                case rel => exact ⟨k + 1, by omega, by omega, by go_num, HZ2.out, HKP.out⟩
                case measure => simp [intOf]; omega
              · have HB := Lib.hid (show ¬ N.Feas hi ds fs from fun h => h0 (by rw [HND1.out k hk1]; exact (HIFF.out.1 h).2 k hk1 (by omega)))
                generalize nd k = x at *
                have hb1 : (x != 0) = true := by rw [bne_iff_ne]; exact h0
                have hb2 : (x == 0) = false := by rw [beq_eq_false_iff_ne]; exact h0
                clear h0
                go_wp2_with fail
                go_ret
                exact ⟨false, rfl, ⟨(fun h => by cases h), fun h => absurd h HB.out⟩, KW.out.tr HKP.out⟩
            · have HB := Lib.hid (show N.Feas hi ds fs from HIFF.out.2 ⟨HRG1.out, fun v h1 h2 => by rw [← HND1.out v h1]; exact HZ.out v h1 (by omega)⟩)
              go_wp2_with fail
              go_ret
              exact ⟨true, rfl, ⟨fun _ => HB.out, fun _ => rfl⟩, KW.out.tr HKP.out⟩
end Go.Proofs.Ytjjecadfcndkaaa
