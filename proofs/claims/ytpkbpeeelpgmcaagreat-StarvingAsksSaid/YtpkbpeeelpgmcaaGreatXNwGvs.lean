/- Chapter 14: the walk of the reference's gives. -/
import Derived.StillTailTactics
import Derived.Test.YtpkbpeeelpgmcaaGreatXLibQsM
import Derived.Test.YtpkbpeeelpgmcaaGreatXNwGvp
namespace Go.Proofs.YtpkbpeeelpgmcaaGreat
open Go.RowKit Go.Kq Go.Flow

/-- What gives returns. -/
def GvsR (N : Net) (hi : Bool) (ds fs : List Int) (w : World) (e : Ending) (w' : World) : Prop :=
  Kp No w w' ∧ ((∃ G v, N.Feas hi ds (fs ++ G) ∧ e = .returned (.tuple #[v, .bool true]) ∧ w'.ownsRow w.heap.size 2 1 v (fs ++ G).length ((fs ++ G).map (Value.int .i64))) ∨
    (N.No hi ds fs ∧ e = .returned (.tuple #[.slice none 0 0, .bool false])))
theorem nd_setp {w wr : World} {base n g c : Nat} {nd : Nat → Int} {x : Int} (ho : wr.ownsRow base 2 1 (.slice (some ⟨g, 0, none⟩) n n) n (ndRow n nd)) (hk : Kp No w wr) (hg : w.heap.size ≤ g) :
    (wr.setCell ⟨g, c, none⟩ (.int .i64 x)).ownsRow base 2 1 (.slice (some ⟨g, 0, none⟩) n n) n (ndRow n (Flow.upd nd c x)) ∧ Kp No w (wr.setCell ⟨g, c, none⟩ (.int .i64 x)) := by
  refine ⟨?_, hk.trans (kp_setOne wr g c _) fun k hk e => by have e2 : k = g := e; omega⟩
  rw [← ndRow_set]
  exact own_set ho c _
theorem upd_upd (nd : Nat → Int) (v : Nat) (x y : Int) : Flow.upd (Flow.upd nd v x) v y = Flow.upd nd v y := funext fun u => by
  unfold Flow.upd
  split <;> rfl
theorem Flow.upd_self {nd : Nat → Int} {v : Nat} {x : Int} (h : nd v = x) : Flow.upd nd v x = nd := funext fun u => by
  unfold Flow.upd
  split
  · rename_i e
    rw [e, h]
  · rfl
theorem sumTo_split {f g : Nat → Int} : ∀ {n : Nat}, 0 < n → (∀ v, 1 ≤ v → v < n → f v = g v) → g 0 = 0 → sumTo n f = f 0 + sumTo n g
  | 0, h, _, _ => by omega
  | n + 1, _, he, h0 => by
    by_cases hn : n = 0
    · subst hn
      simp [sumTo, h0]
    · have ih := sumTo_split (n := n) (by omega) (fun v h1 h2 => he v h1 (by omega)) h0
      rw [sumTo, sumTo, ih, he n (by omega) (by omega)]
      omega
theorem sumTo_bd {f : Nat → Int} {M : Int} (h : ∀ v, -M ≤ f v ∧ f v ≤ M) : ∀ n : Nat, -(M * n) ≤ sumTo n f ∧ sumTo n f ≤ M * n
  | 0 => by simp [sumTo]
  | n + 1 => by
    have ih := sumTo_bd h n
    have := h n
    have e : M * ((n + 1 : Nat) : Int) = M * (n : Int) + M := by rw [Int.natCast_add, Int.mul_add]; simp
    rw [sumTo, e]
    omega
theorem book_bd2 {nd : Nat → Int} {k a b : Nat} {x y : Int} (h : ∀ v, -(62000000000000 + 1000000000000 * (k : Int)) ≤ nd v ∧ nd v ≤ 62000000000000 + 1000000000000 * (k : Int)) (hx : -(62000000000000 + 1000000000000 * ((k + 1 : Nat) : Int)) ≤ x ∧ x ≤ 62000000000000 + 1000000000000 * ((k + 1 : Nat) : Int)) (hy : -(62000000000000 + 1000000000000 * ((k + 1 : Nat) : Int)) ≤ y ∧ y ≤ 62000000000000 + 1000000000000 * ((k + 1 : Nat) : Int)) :
    ∀ v, -(62000000000000 + 1000000000000 * ((k + 1 : Nat) : Int)) ≤ Flow.upd (Flow.upd nd a x) b y v ∧ Flow.upd (Flow.upd nd a x) b y v ≤ 62000000000000 + 1000000000000 * ((k + 1 : Nat) : Int) :=
  upd_bd (M := 62000000000000 + 1000000000000 * ((k + 1 : Nat) : Int)) (upd_bd (M := 62000000000000 + 1000000000000 * ((k + 1 : Nat) : Int)) (fun v => by have := h v; omega) hx) hy
theorem arcsv_qv {w : World} {base m : Nat} {v : Value} {L : List Pi} (h : Qv w base 127 4 v m (L.flatMap a4)) (hl : L.length = m) : ArcsV w base v m L := by
  rcases h with ⟨rfl, rfl, hx⟩ | ⟨g, o, c, rfl, cur, h1, h2, h3, h4, h5, h6⟩
  · exact .inl ⟨rfl, List.length_eq_zero_iff.1 hl, none, 0, rfl⟩
  · exact .inr ⟨g, o, c, rfl, h1, hl, cur, h2, h6⟩
theorem second_ok {N : Net} (hN : N.Ok) {h : Bool} {first : List Int} {nd : Nat → Int} (hM : ∀ v, -656000000000000 ≤ nd v ∧ nd v ≤ 656000000000000) : ∀ p ∈ N.second h first nd, p.st = false ∧ p.fl = 0 ∧ (p.fr < N.n + 2 ∧ p.to < N.n + 2 ∧ p.fr ≠ p.to) ∧ 0 ≤ p.mo ∧ p.mo ≤ 1152921504606846976 := fun p hp => by
  rcases List.mem_append.1 hp with hp | hp
  · obtain ⟨t, ht, rfl⟩ := List.mem_map.1 hp
    have h1 := hN.tk t (List.mem_of_mem_drop ht)
    have h2 := hN.cap (List.mem_of_mem_drop ht) h
    exact ⟨rfl, rfl, ⟨by show t.fr < _; omega, by show t.to < _; omega, h1.2.2.1⟩, h2.1, by show t.cap h ≤ _; omega⟩
  · obtain ⟨h1, h2, h3, h4, h5, h6, h7, _⟩ := nar_in (M := 656000000000000) hM (Nat.le_refl _) p hp
    exact ⟨h7, h6, ⟨h1, h2, h3⟩, h4, by omega⟩
theorem cut_none {R : Nat → Bool} : ∀ L : List Pi, (∀ p ∈ L, R p.fr = false) → cut R L = 0
  | [], _ => rfl
  | p :: l, h => by rw [cut, cut_none l fun q hq => h q (by simp [hq]), h p (by simp)]; simp
theorem pos_bd {nd : Nat → Int} {M : Int} (h : ∀ v, -M ≤ nd v ∧ nd v ≤ M) : ∀ v : Nat, 0 ≤ posTo nd v ∧ posTo nd v ≤ M * v
  | 0 => by simp [posTo]
  | v + 1 => by
    have ih := pos_bd h v
    have := h v
    have e : M * ((v + 1 : Nat) : Int) = M * (v : Int) + M := by rw [Int.natCast_add, Int.mul_add]; simp
    rw [posTo, e]
    split <;> omega
theorem second_cut {N : Net} (hN : N.Ok) (h8 : N.n ≤ 7) {h : Bool} {first : List Int} {nd : Nat → Int} (hM : ∀ v, -656000000000000 ≤ nd v ∧ nd v ≤ 656000000000000) : cut (fun v => decide (v = N.n)) (N.second h first nd) ≤ 10000000000000000 := by
  rw [Net.second, cut_app, nar_cut (by simp) (by simp), outTo_sum, cut_none _ fun p hp => by
    obtain ⟨t, ht, rfl⟩ := List.mem_map.1 hp
    have := hN.tk t (List.mem_of_mem_drop ht)
    have e : (tp h t).fr = t.fr := rfl
    rw [e]
    simp
    omega]
  have h1 := pos_bd (M := 656000000000000) hM N.n
  have h2 := sumTo_bd (M := 656000000000000) hM N.n
  rw [sumTo_zero N.n (fun u => ind (fun v => decide (v = N.n)) u * nd u) fun v hv => by rw [ind_f (by simp; omega)]; simp]
  omega
theorem flat_drop {α : Type} {f : α → List Value} {s : Nat} (hf : ∀ x, (f x).length = s) : ∀ (l : List α) (k : Nat), (l.flatMap f).drop (k * s) = (l.drop k).flatMap f
  | [], k => by simp
  | x :: l, 0 => by simp
  | x :: l, k + 1 => by
    rw [List.flatMap_cons, List.drop_succ_cons, ← flat_drop hf l k, List.drop_append, List.drop_eq_nil_of_le (by rw [hf, Nat.add_mul]; omega), hf, show (k + 1) * s - s = k * s by rw [Nat.add_mul]; omega]
    rfl
/-- What is left of the arcs behind the first ones. -/
theorem qv_rest {N : Net} {h : Bool} {w : World} {base k cap : Nat} {a : Option Addr} (ho : w.ownsRow base 127 4 (.slice a N.tr.length cap) N.tr.length ((N.tr.map (tp h)).flatMap a4)) (hk : k ≤ N.tr.length) :
    (k = cap → Qv w base 127 4 (.slice a 0 0) 0 (((N.tr.drop k).map (tp h)).flatMap a4)) ∧
    (¬ k = cap → ∃ g, a = some ⟨g, 0, none⟩ ∧ Qv w base 127 4 (.slice (some ⟨g, k * 4, none⟩) (N.tr.length - k) (cap - k)) (N.tr.length - k) (((N.tr.drop k).map (tp h)).flatMap a4)) := by
  have hfm := own_form ho
  obtain ⟨a', c', hv, hnc, _, _⟩ := hfm
  injection hv with e1 e2 e3
  subst e1 e3
  have hfd := flat_drop a4_len (N.tr.map (tp h)) k
  rw [← List.map_drop] at hfd
  rcases ho.2 with ⟨h0, _⟩ | ⟨g, cp, cur, hv2, _⟩
  · injection h0 with e1 e2 e3
    subst e1
    refine ⟨fun hkc => .inl ⟨rfl, rfl, ?_⟩, fun hkc => by omega⟩
    rw [List.drop_eq_nil_of_le (by omega)]
    rfl
  · injection hv2 with e1 e2 e3
    subst e1
    have hq := Qs.of_own ho
    refine ⟨fun hkc => ?_, fun hkc => ⟨g, rfl, ?_⟩⟩
    · rw [List.drop_eq_nil_of_le (by omega)]
      exact .inr ⟨g, 0, 0, rfl, hq.none⟩
    · have := hq.drop hk
      rw [hfd, Nat.zero_add] at this
      exact .inr ⟨g, k * 4, _, rfl, this⟩
attribute [local go_sem ↓] Go.wp_at_zero Go.wp_at_succ
set_option maxHeartbeats 16000000 in
set_option maxRecDepth 100000 in
theorem gives_any (N : Net) (hN : N.Ok) (h8 : N.n ≤ 7) (h14 : N.tr.length ≤ 20) (A B D E : Option Addr) (ca cb dc ec : Nat) (hi : Bool) (ds fs : List Int) (w : World) (hR : RdNet w A B N) (hD : RdI .i64 w D ds.length ds) (hE : RdI .i64 w E fs.length fs) (henil : E = none → fs.length = 0 ∧ ec = 0) (hl : ds.length = N.ch.length) (hd : ∀ d ∈ ds, 0 ≤ d ∧ d ≤ 62000000000000) (hf : fs.length ≤ N.tr.length) (hr : ∀ (i : Nat) (f : Int) (t : Tk), fs[i]? = some f → N.tr[i]? = some t → 0 ≤ f ∧ f ≤ t.cap hi) :
    Calls Tryz.prog 55 #[netV N A B ca cb, .bool hi, .slice D ds.length dc, .slice E fs.length ec] w fun e w' => GvsR N hi ds fs w e w' := by
  have hn1 := hN.n1
  have hc1 := hN.c1
  obtain ⟨i0, hi0, hz0, hz1, hz2⟩ := info_parts info93
  obtain ⟨j0, hj0, jz0, jz1, jz2⟩ := info_parts info2
  have HMK := Lib.hid (fun W => make_ints (T := 33) (E := 2) Tryz.underlying33 info2 N.n (N.n : Int) rfl (by omega) W)
  have HARCS := Lib.hid (fun W hR => arcs_any N hN A B ca cb hi W hR)
  have HN := Lib.hid hN
  have HR := Lib.hid hR
  have HD := Lib.hid hD
  have HE := Lib.hid hE
  have HEN := Lib.hid henil
  have HL := Lib.hid hl
  have HO := Lib.hid hd
  have HF := Lib.hid hr
  clear hN hR hD hE henil hl hd hr
  unfold netV at HARCS
  unfold netV
  have hmk := HMK.out
  go_enter Tryz.func55, Tryz.ntmps55
  go_wp2_with fail
  clear hmk
  have B0 := Lib.hid (heap_alloc_new w (.cells #[.int .i64 N.n, .slice A N.tr.length ca, .slice B N.ch.length cb] 25))
  have K0 := Lib.hid (Kp.alloc No w (.cells #[.int .i64 N.n, .slice A N.tr.length ca, .slice B N.ch.length cb] 25))
  have O0 := Lib.hid (own_nds (w.alloc (.cells #[.int .i64 N.n, .slice A N.tr.length ca, .slice B N.ch.length cb] 25)) N.n (by omega))
  have HS0 := Lib.hid (show (w.alloc (.cells #[.int .i64 N.n, .slice A N.tr.length ca, .slice B N.ch.length cb] 25)).heap.size = w.heap.size + 1 by simp)
  have hneB : ¬ One (w.heap.size + 1) w.heap.size := fun e => by have e2 : w.heap.size = w.heap.size + 1 := e; omega
  go_loopw [11] (fun i wr => ∃ (k : Nat) (nd : Nat → Int), k ≤ N.ch.length ∧ i = .int .i64 k ∧ (∀ v, 1 ≤ v → nd v = - dem (Flow.one v) ((N.ch.zip ds).take k)) ∧ (∀ v, -62000000000000 ≤ nd v ∧ nd v ≤ 62000000000000) ∧ wr.ownsRow (w.heap.size + 1) 2 1 (.slice (some ⟨w.heap.size + 1, 0, none⟩) N.n N.n) N.n (ndRow N.n nd) ∧ Kp No (w.alloc (.cells #[.int .i64 N.n, .slice A N.tr.length ca, .slice B N.ch.length cb] 25)) wr) (fun i _ => N.ch.length - (intOf i).toNat)
  case atStart => exact ⟨0, fun _ => 0, by omega, rfl, fun v _ => by simp [dem], fun v => by show _ ≤ (0 : Int) ∧ (0 : Int) ≤ _; omega, by have := O0.out; rw [HS0.out] at this; exact this, Kp.alloc _ _ _⟩
  case round =>
    obtain ⟨k, nd, hk, rfl, hnd, hbd, hown, hkp⟩ := hrel
    obtain ⟨x0, x1, x2⟩ := box3 (hkp.heap B0.out (fun h => h))
    have hbs := (Array.getElem?_eq_some_iff.1 (hkp.heap B0.out (fun h => h))).1
    have HK := Lib.hid hkp
    have HND := Lib.hid hnd
    have HBD := Lib.hid hbd
    have OW := Lib.hid hown
    clear hkp hnd hbd hown
    by_cases hlt : (k : Int) < N.ch.length
    · obtain ⟨c, hc⟩ : ∃ c, N.ch[k]? = some c := ⟨_, List.getElem?_eq_getElem (by omega)⟩
      obtain ⟨d, hd⟩ : ∃ d, ds[k]? = some d := ⟨_, List.getElem?_eq_getElem (by have := HL.out; omega)⟩
      have hck := HN.out.ck c (List.mem_of_getElem? hc)
      have hdk := HO.out d (List.mem_of_getElem? hd)
      obtain ⟨bB, oB, rfl, hbB, y0⟩ := (HR.out.no (K0.out.tr HK.out)).chest hc
      obtain ⟨bD, oD, rfl, hbD, z0⟩ := (HD.out.no (K0.out.tr HK.out)).2 k d hd
      have yg := own_cell OW.out (ndRow_at nd hck.2)
      have fg := own_free OW.out c
      have HST := Lib.hid (ask_step (nd := nd) (zip_at hc hd) hck.1 (asc_ne HN.out.asc hc) HND.out)
      have HBD2 := Lib.hid (upd_bd (M := 62000000000000) HBD.out (x := d) (c := c) (by omega))
      have hcn : (c : Int) < N.n := by omega
      have hkd : (k : Int) < ds.length := by have := HL.out; omega
      have HW := Lib.hid (nd_set (c := c) (x := d) OW.out HK.out (by rw [HS0.out]; exact Nat.le_refl _))
      clear hc hd
      go_wp2_with fail
      go_still_tail 11, (by kernel_rfl)
      go_wp2_with fail
      generalize (wr.setCell ⟨w.heap.size + 1, c, none⟩ (.int .i64 d)).drew = w3 at *
      obtain ⟨o3, k3⟩ := HW.out
      have O3 := Lib.hid o3
      have K3 := Lib.hid k3
      clear o3 k3
      go_wp2_with fail
      go_roundw
      case rel => exact ⟨k + 1, _, by omega, by go_num, HST.out, HBD2.out, O3.out, K3.out⟩
      case measure => simp [intOf]; omega
    · obtain rfl : k = N.ch.length := by omega
      have hz0 : (N.ch.zip ds).take N.ch.length = N.ch.zip ds := List.take_of_length_le (by simp; omega)
      have HND1 := Lib.hid (show ∀ v, 1 ≤ v → nd v = - dem (Flow.one v) (N.ch.zip ds) by have := HND.out; rwa [hz0] at this)
      have B1K := HK
      clear hz0 HND HK
      go_wp2_with fail
      obtain ⟨wo, rfl⟩ : ∃ wo : World, wo = wr := ⟨_, rfl⟩
      go_loopw [12] (fun i wq => ∃ (k : Nat) (nd : Nat → Int), k ≤ fs.length ∧ i = .int .i64 k ∧ (∀ v, 1 ≤ v → nd v = dv (Flow.one v) ((pf hi N.tr fs).take k) - dem (Flow.one v) (N.ch.zip ds)) ∧ (∀ v, -(62000000000000 + 1000000000000 * (k : Int)) ≤ nd v ∧ nd v ≤ 62000000000000 + 1000000000000 * (k : Int)) ∧ wq.ownsRow (w.heap.size + 1) 2 1 (.slice (some ⟨w.heap.size + 1, 0, none⟩) N.n N.n) N.n (ndRow N.n nd) ∧ Kp No (w.alloc (.cells #[.int .i64 N.n, .slice A N.tr.length ca, .slice B N.ch.length cb] 25)) wq) (fun i _ => fs.length - (intOf i).toNat)
      case atStart => exact ⟨0, nd, by omega, rfl, fun v hv => by rw [HND1.out v hv]; simp [dv], fun v => by have := HBD.out v; omega, OW.out, B1K.out⟩
      case round =>
        clear x0 x1 x2 OW HBD HND1 B1K
        obtain ⟨k, nd, hk, rfl, hnd, hbd, hown, hkp⟩ := hrel
        obtain ⟨x0, x1, x2⟩ := box3 (hkp.heap B0.out (fun h => h))
        have hbs := (Array.getElem?_eq_some_iff.1 (hkp.heap B0.out (fun h => h))).1
        have HK := Lib.hid hkp
        have HND := Lib.hid hnd
        have HBD := Lib.hid hbd
        have OW := Lib.hid hown
        clear hkp hnd hbd hown
        by_cases hlt : (k : Int) < fs.length
        · obtain ⟨t, ht⟩ : ∃ t, N.tr[k]? = some t := ⟨_, List.getElem?_eq_getElem (by omega)⟩
          obtain ⟨f, hf'⟩ : ∃ f, fs[k]? = some f := ⟨_, List.getElem?_eq_getElem (by omega)⟩
          have hkt : k < N.tr.length := by omega
          have htk := HN.out.tk t (List.mem_of_getElem? ht)
          have hcap := HN.out.cap (List.mem_of_getElem? ht) hi
          have hfr0 := HF.out k f t hf' ht
          obtain ⟨bA, oA, rfl, hbA0, t00, t01, _, _⟩ := HR.out.trunk ht
          obtain ⟨bE, oE, rfl, hbE0, z00⟩ := HE.out.2 k f hf'
          have t0 := (K0.out.tr HK.out).cell t00 (fun h => h)
          have t1 := (K0.out.tr HK.out).cell t01 (fun h => h)
          have z0 := (K0.out.tr HK.out).cell z00 (fun h => h)
          have hbA : bA < wr.heap.size := Nat.lt_of_lt_of_le hbA0 (K0.out.tr HK.out).size
          have hbE : bE < wr.heap.size := Nat.lt_of_lt_of_le hbE0 (K0.out.tr HK.out).size
          have HBK := Lib.hid (book_step (p := ⟨t.fr, t.to, t.cap hi, f, false⟩) (z := fun v => dem (Flow.one v) (N.ch.zip ds)) (pf_at ht hf') htk.2.2.1 HND.out)
          simp only at HBK
          obtain ⟨e1, e2, e3, _⟩ := htk
          have HTR := Lib.hid (show t.fr < N.n ∧ t.to < N.n ∧ t.fr ≠ t.to from ⟨e1, e2, e3⟩)
          have hfr : (t.fr : Int) < N.n := by omega
          have hto : (t.to : Int) < N.n := by omega
          have hnt := HBD.out t.to
          have hnf := HBD.out t.fr
          have hnt1 : -82000000000000 ≤ nd t.to := by omega
          have hnt2 : nd t.to ≤ 82000000000000 := by omega
          have hnf1 : -82000000000000 ≤ nd t.fr := by omega
          have hnf2 : nd t.fr ≤ 82000000000000 := by omega
          have hf0 : 0 ≤ f := hfr0.1
          have hf1 : f ≤ 1000000000000 := by omega
          have hneE : ¬ One (w.heap.size + 1) bE := fun e => by have e2 : bE = w.heap.size + 1 := e; omega
          have hneA : ¬ One (w.heap.size + 1) bA := fun e => by have e2 : bA = w.heap.size + 1 := e; omega
          have yg := own_cell OW.out (ndRow_at nd HTR.out.2.1)
          have fg := own_free OW.out t.to
          have HW := Lib.hid (nd_set (c := t.to) (x := nd t.to - f) OW.out HK.out (by rw [HS0.out]; exact Nat.le_refl _))
          have KS := Lib.hid ((kp_setOne wr (w.heap.size + 1) t.to (.int .i64 (nd t.to - f))).tr (Kp.drew _ _))
          clear hnt hnf e1 e2 e3 ht hf' t00 t01 z00 hfr0 hcap
          have hsum : IntKind.i64.wrap (nd t.to - f) = nd t.to - f := IntWalk.i64_in _ (by omega)
          go_wp2_with fail
          go_still_tail 22, (by kernel_rfl)
          go_wp2_with fail
          generalize (wr.setCell ⟨w.heap.size + 1, t.to, none⟩ (.int .i64 (nd t.to - f))).drew = w3 at *
          have C0 := KS.out.cell t0 hneA
          have C1 := KS.out.cell t1 hneA
          have C2 := KS.out.cell z0 hneE
          have D0 := KS.out.cell x0 hneB
          have D1 := KS.out.cell x1 hneB
          have D2 := KS.out.cell x2 hneB
          have h3s := KS.out.size
          obtain ⟨o3, k3⟩ := HW.out
          have yf := own_cell o3 (ndRow_at _ HTR.out.1)
          have ff := own_free o3 t.fr
          rw [Flow.upd_ne _ _ HTR.out.2.2] at yf
          have HW2 := Lib.hid (nd_set (c := t.fr) (x := nd t.fr + f) o3 k3 (by rw [HS0.out]; exact Nat.le_refl _))
          clear yg fg o3 k3 hsum t0 t1 z0 x0 x1 x2
          have hsum2 : IntKind.i64.wrap (nd t.fr + f) = nd t.fr + f := IntWalk.i64_in _ (by omega)
          go_wp2_with fail
          go_still_tail 22, (by kernel_rfl)
          go_wp2_with fail
          generalize (w3.setCell ⟨w.heap.size + 1, t.fr, none⟩ (.int .i64 (nd t.fr + f))).drew = w4 at *
          obtain ⟨o4, k4⟩ := HW2.out
          have O4 := Lib.hid o4
          have K4 := Lib.hid k4
          have HBB := Lib.hid (book_bd2 (a := t.to) (b := t.fr) (x := nd t.to - f) (y := nd t.fr + f) HBD.out (by have := HBD.out t.to; omega) (by have := HBD.out t.fr; omega))
          clear o4 k4 hsum2 yf ff C0 C1 C2 D0 D1 D2
          go_wp2_with fail
          go_roundw
          case rel => exact ⟨k + 1, _, by omega, by go_num, HBK.out, HBB.out, O4.out, K4.out⟩
          case measure => simp [intOf]; omega
        · obtain rfl : k = fs.length := by omega
          have hz : (pf hi N.tr fs).take fs.length = pf hi N.tr fs := List.take_of_length_le (by simp [pf]; omega)
          have HND1 := Lib.hid (show ∀ v, 1 ≤ v → nd v = dv (Flow.one v) (pf hi N.tr fs) - dem (Flow.one v) (N.ch.zip ds) by have := HND.out; rwa [hz] at this)
          have HB76 := Lib.hid (show ∀ v, -82000000000000 ≤ Flow.upd nd 0 0 v ∧ Flow.upd nd 0 0 v ≤ 82000000000000 from upd_bd (M := 82000000000000) (fun v => by have := HBD.out v; omega) (by omega))
          have HND0 := Lib.hid (show ∀ v, 1 ≤ v → Flow.upd nd 0 0 v = N.need hi ds fs (Flow.one v) from fun v hv => by rw [Flow.upd_ne _ _ (by omega), HND1.out v hv]; rfl)
          have HND00 := Lib.hid (upd_at nd 0 0)
          have yg := own_cell OW.out (ndRow_at nd (show 0 < N.n by omega))
          have fg := own_free OW.out 0
          have HW := Lib.hid (nd_setp (c := 0) (x := 0) OW.out HK.out (by rw [HS0.out]; exact Nat.le_refl _))
          have hn0 : (0 : Int) < N.n := by omega
          clear hz HND HBD HND1
          generalize hnd0 : Flow.upd nd 0 0 = nd0 at *
          clear hnd0
          go_wp2_with fail
          generalize wr.setCell ⟨w.heap.size + 1, 0, none⟩ (.int .i64 0) = w5 at *
          have O5 := Lib.hid HW.out.1
          have K5 := Lib.hid HW.out.2
          clear HW yg fg OW HK x0 x1 x2
          go_loopw [13] (fun i wq => ∃ (k : Nat) (x : Int), 1 ≤ k ∧ k ≤ N.n ∧ i = .int .i64 k ∧ x = - sumTo k nd0 ∧ wq.ownsRow (w.heap.size + 1) 2 1 (.slice (some ⟨w.heap.size + 1, 0, none⟩) N.n N.n) N.n (ndRow N.n (Flow.upd nd0 0 x)) ∧ Kp No (w.alloc (.cells #[.int .i64 N.n, .slice A N.tr.length ca, .slice B N.ch.length cb] 25)) wq) (fun i _ => N.n - (intOf i).toNat)
          case atStart => exact ⟨1, 0, by omega, hn1, rfl, by simp [sumTo, HND00.out], by rw [Flow.upd_self HND00.out]; exact O5.out, K5.out⟩
          case round =>
            obtain ⟨k, x, hk1, hk2, rfl, hx, hown, hkp⟩ := hrel
            obtain ⟨x0, x1, x2⟩ := box3 (hkp.heap B0.out (fun h => h))
            have hbs := (Array.getElem?_eq_some_iff.1 (hkp.heap B0.out (fun h => h))).1
            have HX := Lib.hid hx
            have HK := Lib.hid hkp
            have OW := Lib.hid hown
            have hsb := sumTo_bd (M := 82000000000000) HB76.out k
            have hxb : -656000000000000 ≤ x ∧ x ≤ 656000000000000 := by omega
            obtain ⟨hxb0, hxb1⟩ := hxb
            clear hx hkp hown hsb
            by_cases hlt : (k : Int) < N.n
            · have y0 := own_cell OW.out (ndRow_at (Flow.upd nd0 0 x) (show 0 < N.n by omega))
              have yk := own_cell OW.out (ndRow_at (Flow.upd nd0 0 x) (show k < N.n by omega))
              rw [upd_at] at y0
              rw [Flow.upd_ne _ _ (by omega)] at yk
              have f0 := own_free OW.out 0
              have hkb := HB76.out k
              have HSX := Lib.hid (show x - nd0 k = - sumTo (k + 1) nd0 by rw [sumTo, HX.out]; omega)
              generalize nd0 k = y at *
              obtain ⟨hkb0, hkb1⟩ := hkb
              have HW := Lib.hid (nd_set (c := 0) (x := x - y) OW.out HK.out (by rw [HS0.out]; exact Nat.le_refl _))
              rw [upd_upd] at HW
              have hnp : 0 < N.n := by omega
              have hkp1 : (0 : Int) ≤ (k : Int) := by omega
              have hsum : IntKind.i64.wrap (x - y) = x - y := IntWalk.i64_in _ (by omega)
              go_wp2_with fail
              go_still_tail 10, (by kernel_rfl)
              go_wp2_with fail
              generalize (wr.setCell ⟨w.heap.size + 1, 0, none⟩ (.int .i64 (x - y))).drew = w6 at *
              have O6 := Lib.hid HW.out.1
              have K6 := Lib.hid HW.out.2
              clear HW hsum y0 yk f0
              go_roundw
              case rel => exact ⟨k + 1, _, by omega, by omega, by go_num, HSX.out, O6.out, K6.out⟩
              case measure => simp [intOf]; omega
            · obtain rfl : k = N.n := by omega
              have HNDF := Lib.hid (show ∀ v, v < N.n → Flow.upd nd0 0 x v = N.need hi ds fs (Flow.one v) from fun v hv => by
                by_cases e : v = 0
                · subst e
                  rw [upd_at, HX.out]
                  have h1 := need_lin HN.out hi ds fs (fun _ => 1)
                  rw [need_flat] at h1
                  rw [sumTo_congr N.n (fun v => 1 * N.need hi ds fs (Flow.one v)) (fun v => N.need hi ds fs (Flow.one v)) (fun v _ => by omega)] at h1
                  rw [sumTo_split (f := fun v => N.need hi ds fs (Flow.one v)) (g := nd0) (by omega) (fun v h1 _ => (HND0.out v h1).symm) HND00.out] at h1
                  omega
                · rw [Flow.upd_ne _ _ e]
                  exact HND0.out v (by omega))
              have HNDB := Lib.hid (show ∀ v, -656000000000000 ≤ Flow.upd nd0 0 x v ∧ Flow.upd nd0 0 x v ≤ 656000000000000 from upd_bd (M := 656000000000000) (fun v => by have := HB76.out v; omega) (by omega))
              have KW := Lib.hid (K0.out.tr HK.out)
              have B1 := Lib.hid (HK.out.heap B0.out (fun h => h))
              clear HX HND0 HND00 HB76 hxb0 hxb1 O5 K5 HK
              generalize Flow.upd nd0 0 x = nd1 at *
              go_wp2_with fail
              refine (HARCS.out _ (HR.out.no KW.out)).mono ?_
              rintro e w7 ⟨v1, rfl, hown1, hk7⟩
              have K7 := Lib.hid (KW.out.tr hk7)
              have B7 := Lib.hid (hk7.heap B1.out (fun h => h))
              have O7 := Lib.hid (own_kp OW.out hk7 (fun _ _ h => h))
              have hGz := (own_ge OW.out (g := w.heap.size + 1) rfl).2
              obtain ⟨a1, cp1, rfl, hmc, _, hpos⟩ := own_form hown1
              have HO1 := Lib.hid (own_mono hown1 (show w.heap.size + 2 ≤ wr.heap.size by omega))
              clear hown1 hk7 x0 x1 x2 OW
              obtain ⟨x0, x1, x2⟩ := box3 B7.out
              have HCAP := Lib.hid (qv_rest (h := hi) HO1.out hf)
              have hm14 : N.tr.length - fs.length ≤ 20 := by omega
              clear hpos
              by_cases hkc : fs.length = cp1
              case' pos =>
                have HQ7 := Lib.hid (HCAP.out.1 hkc)
                have HMZ := Lib.hid (show N.tr.length - fs.length = 0 by omega)
                subst hkc
                clear hmc
              case' neg =>
                obtain ⟨g1, hg1, hq⟩ := HCAP.out.2 hkc
                subst hg1
                have HQ7 := Lib.hid hq
                clear hq
              all_goals
                clear HCAP
                go_wp2_with fail
                try clear hkc
                go_loopw [14, 16, 17] (fun lv sv iv wr => ∃ (v : Nat) (a : Option Addr) (c : Nat), v ≤ N.n ∧ iv = .int .i64 v ∧ lv = .slice a (N.tr.length - fs.length + (nar N.n nd1 v).length) c ∧ Qv wr (w.heap.size + 2) 127 4 lv (N.tr.length - fs.length + (nar N.n nd1 v).length) (((N.tr.drop fs.length).map (tp hi) ++ nar N.n nd1 v).flatMap a4) ∧ sv = .int .i64 (posTo nd1 v) ∧ Kp (fun k => w.heap.size + 2 ≤ k) w7 wr) (fun _ _ iv _ => N.n - (intOf iv).toNat)
                case atStart =>
                  first
                    | exact ⟨0, a1, 0, by omega, rfl, by simp only [nar, List.length_nil, Nat.add_zero], by simp only [nar, List.length_nil, Nat.add_zero, List.append_nil]; rw [HMZ.out]; exact HQ7.out, rfl, Kp.refl _ _⟩
                    | exact ⟨0, some ⟨g1, fs.length * 4, none⟩, cp1 - fs.length, by omega, rfl, by simp [nar], by simpa [nar, Addr.add] using HQ7.out, rfl, Kp.refl _ _⟩
                case round =>
                  obtain ⟨v, av, cv, hv, rfl, rfl, hq, rfl, hkp⟩ := hrel
                  have HQ := Lib.hid hq
                  have HKP := Lib.hid hkp
                  have hnB : ¬ w.heap.size + 2 ≤ w.heap.size := by omega
                  have hnG : ¬ w.heap.size + 2 ≤ w.heap.size + 1 := by omega
                  have O8 := Lib.hid (own_kp O7.out hkp (fun g hg h => by have e : some (w.heap.size + 1) = some g := hg; injection e with e; omega))
                  obtain ⟨x0, x1, x2⟩ := box3 (hkp.heap B7.out hnB)
                  have hbs := (Array.getElem?_eq_some_iff.1 (hkp.heap B7.out hnB)).1
                  have hwz := hkp.size
                  have hw7 : w.heap.size + 2 ≤ wr.heap.size := by have := (own_ge O8.out (g := w.heap.size + 1) rfl).2; omega
                  have hnl := nar_len N.n nd1 v
                  have hps := pos_bd (M := 656000000000000) HNDB.out v
                  obtain ⟨hp0, hp1⟩ := hps
                  clear hq hkp
                  by_cases hlt : (v : Int) < N.n
                  · have yk := own_cell O8.out (ndRow_at nd1 (show v < N.n by omega))
                    have hxb := HNDB.out v
                    obtain ⟨x, hx0⟩ : ∃ x, x = nd1 v := ⟨_, rfl⟩
                    rw [← hx0] at yk hxb
                    have HX := Lib.hid hx0.symm
                    clear hx0
                    obtain ⟨hxb0, hxb1⟩ := hxb
                    have hv8 : (v : Int) ≤ 7 := by omega
                    generalize hps : posTo nd1 v = ps at *
                    have HPS := Lib.hid hps
                    clear hps
                    by_cases hx : 0 < x
                    · have HNAR := Lib.hid (show nar N.n nd1 (v + 1) = nar N.n nd1 v ++ [(⟨v, (N.n + 1), x, 0, false⟩ : Pi)] by rw [nar, HX.out, if_pos hx])
                      have HPOS := Lib.hid (show posTo nd1 (v + 1) = ps + x by rw [posTo, HPS.out, HX.out, if_pos hx])
                      have hsum : IntKind.i64.wrap ((N.n : Int) + 1) = (N.n : Int) + 1 := IntWalk.i64_in _ (by omega)
                      have h63 : N.tr.length - fs.length + (nar N.n nd1 v).length + 1 ≤ maxLen := by unfold maxLen; omega
                      have hbytes : (N.tr.length - fs.length + (nar N.n nd1 v).length + 1) * 32 ≤ 140737488355328 := by omega
                      go_wp2_with fail
                      go_region_held3 (fun w' => w'.cell? ⟨w.heap.size, 0, none⟩ = some (.int .i64 N.n) ∧ w'.cell? ⟨w.heap.size + 1, v, none⟩ = some (.int .i64 x)) (first | go_keep | (exact ⟨K9w.cell x0 hnB, K9w.cell yk hnG⟩))
                        ((first | (refine stepS_append_qv _ (by rfl) _ _ 124 (by rfl) (w.heap.size + 2) 127 i0 (.agg #[.int .i64 0, .int .i64 0, .int .i64 0, .int .i64 0]) 4 32 Tryz.underlying124 hi0 hz0 hz1 hz2 (by rfl) (by decide) (.slice av (N.tr.length - fs.length + (nar N.n nd1 v).length) cv) (N.tr.length - fs.length + (nar N.n nd1 v).length) (((N.tr.drop fs.length).map (tp hi) ++ nar N.n nd1 v).flatMap a4) (by rfl) (HQ.out.kp ((Kp.drew No wr).tr (Kp.alloc No _ (.cells #[.int .i64 (v : Int), .int .i64 ((N.n : Int) + 1), .int .i64 x, .int .i64 0] 127))) (fun _ _ h => h)) ⟨wr.heap.size, 0, none⟩ 1 (a4 (⟨v, (N.n + 1), x, 0, false⟩ : Pi)) (by rfl) rfl (new4 wr.drew (⟨v, (N.n + 1), x, 0, false⟩ : Pi) _ rfl) (a4_one _) h63 hbytes (by simp; omega) _ rfl _ rfl ?_; intro v9 w9 hq9 hk9; have K9w : Kp (fun k => w.heap.size + 2 ≤ k) wr w9 := (Kp.drew _ _).tr ((Kp.alloc _ _ _).tr hk9))))
                      have K9 := Lib.hid K9w
                      obtain ⟨a9, c9, rfl, _⟩ := hq9.form
                      have Q9 := Lib.hid (show Qv w9 (w.heap.size + 2) 127 4 (.slice a9 (N.tr.length - fs.length + (nar N.n nd1 v).length + 1) c9) (N.tr.length - fs.length + (nar N.n nd1 (v + 1)).length) (((N.tr.drop fs.length).map (tp hi) ++ nar N.n nd1 (v + 1)).flatMap a4) by
                        rw [HNAR.out, List.length_append, ← List.append_assoc, List.flatMap_append (xs := (N.tr.drop fs.length).map (tp hi) ++ nar N.n nd1 v)]
                        simpa [Nat.add_assoc] using hq9)
                      have HLN := Lib.hid (show N.tr.length - fs.length + (nar N.n nd1 (v + 1)).length = N.tr.length - fs.length + (nar N.n nd1 v).length + 1 by rw [HNAR.out, List.length_append]; simp; omega)
                      have yk9 := own_cell (own_kp O8.out K9.out (fun g hg h => by have e : some (w.heap.size + 1) = some g := hg; injection e with e; omega)) (ndRow_at nd1 (show v < N.n by omega))
                      rw [HX.out] at yk9
                      clear hq9 hk9 K9w yk x0 x1 x2 hsum
                      go_wp2_with fail
                      go_roundw
                      case rel => exact ⟨v + 1, a9, c9, by omega, by go_num, by rw [HLN.out], Q9.out, by rw [HPOS.out], HKP.out.tr K9.out⟩
                      case measure => simp [intOf]; omega
                    · by_cases hx : x < 0
                      · have HNAR := Lib.hid (show nar N.n nd1 (v + 1) = nar N.n nd1 v ++ [(⟨N.n, v, (-x), 0, false⟩ : Pi)] by rw [nar, HX.out, if_neg (by omega), if_pos hx])
                        have HPOS := Lib.hid (show posTo nd1 (v + 1) = ps + 0 by rw [posTo, HPS.out, HX.out, if_neg (by omega)])
                        have hsum : IntKind.i64.wrap (-x) = -x := IntWalk.i64_in _ (by omega)
                        have h63 : N.tr.length - fs.length + (nar N.n nd1 v).length + 1 ≤ maxLen := by unfold maxLen; omega
                        have hbytes : (N.tr.length - fs.length + (nar N.n nd1 v).length + 1) * 32 ≤ 140737488355328 := by omega
                        go_wp2_with fail
                        go_region_held3 (fun w' => w'.cell? ⟨w.heap.size, 0, none⟩ = some (.int .i64 N.n) ∧ w'.cell? ⟨w.heap.size + 1, v, none⟩ = some (.int .i64 x)) (first | go_keep | (exact ⟨K9w.cell x0 hnB, K9w.cell yk hnG⟩))
                          ((first | (refine stepS_append_qv _ (by rfl) _ _ 124 (by rfl) (w.heap.size + 2) 127 i0 (.agg #[.int .i64 0, .int .i64 0, .int .i64 0, .int .i64 0]) 4 32 Tryz.underlying124 hi0 hz0 hz1 hz2 (by rfl) (by decide) (.slice av (N.tr.length - fs.length + (nar N.n nd1 v).length) cv) (N.tr.length - fs.length + (nar N.n nd1 v).length) (((N.tr.drop fs.length).map (tp hi) ++ nar N.n nd1 v).flatMap a4) (by rfl) (HQ.out.kp ((Kp.drew No wr).tr (Kp.alloc No _ (.cells #[.int .i64 (N.n : Int), .int .i64 (v : Int), .int .i64 (-x), .int .i64 0] 127))) (fun _ _ h => h)) ⟨wr.heap.size, 0, none⟩ 1 (a4 (⟨N.n, v, (-x), 0, false⟩ : Pi)) (by rfl) rfl (new4 wr.drew (⟨N.n, v, (-x), 0, false⟩ : Pi) _ rfl) (a4_one _) h63 hbytes (by simp; omega) _ rfl _ rfl ?_; intro v9 w9 hq9 hk9; have K9w : Kp (fun k => w.heap.size + 2 ≤ k) wr w9 := (Kp.drew _ _).tr ((Kp.alloc _ _ _).tr hk9))))
                        have K9 := Lib.hid K9w
                        obtain ⟨a9, c9, rfl, _⟩ := hq9.form
                        have Q9 := Lib.hid (show Qv w9 (w.heap.size + 2) 127 4 (.slice a9 (N.tr.length - fs.length + (nar N.n nd1 v).length + 1) c9) (N.tr.length - fs.length + (nar N.n nd1 (v + 1)).length) (((N.tr.drop fs.length).map (tp hi) ++ nar N.n nd1 (v + 1)).flatMap a4) by
                          rw [HNAR.out, List.length_append, ← List.append_assoc, List.flatMap_append (xs := (N.tr.drop fs.length).map (tp hi) ++ nar N.n nd1 v)]
                          simpa [Nat.add_assoc] using hq9)
                        have HLN := Lib.hid (show N.tr.length - fs.length + (nar N.n nd1 (v + 1)).length = N.tr.length - fs.length + (nar N.n nd1 v).length + 1 by rw [HNAR.out, List.length_append]; simp; omega)
                        have yk9 := own_cell (own_kp O8.out K9.out (fun g hg h => by have e : some (w.heap.size + 1) = some g := hg; injection e with e; omega)) (ndRow_at nd1 (show v < N.n by omega))
                        rw [HX.out] at yk9
                        clear hq9 hk9 K9w yk x0 x1 x2 hsum
                        go_wp2_with fail
                        go_roundw
                        case rel => exact ⟨v + 1, a9, c9, by omega, by go_num, by rw [HLN.out], Q9.out, by rw [HPOS.out]; simp, HKP.out.tr K9.out⟩
                        case measure => simp [intOf]; omega
                      · have hx0 : x = 0 := by omega
                        subst hx0
                        have HNAR := Lib.hid (show nar N.n nd1 (v + 1) = nar N.n nd1 v by rw [nar, HX.out]; simp)
                        have HPOS := Lib.hid (show posTo nd1 (v + 1) = ps by rw [posTo, HPS.out, HX.out]; simp)
                        go_wp2_with fail
                        go_roundw
                        case rel => exact ⟨v + 1, av, cv, by omega, by go_num, by rw [HNAR.out], by rw [HNAR.out]; exact HQ.out, by rw [HPOS.out], HKP.out⟩
                        case measure => simp [intOf]; omega
                  · obtain rfl : v = N.n := by omega
                    have HAV := Lib.hid (arcsv_qv HQ.out (by rw [List.length_append]; simp))
                    have HSOK := Lib.hid (second_ok HN.out (h := hi) (first := fs) HNDB.out)
                    have HP := Lib.hid (rpush_all (N.second hi fs nd1) (w.heap.size + 2) (N.tr.length - fs.length + (nar N.n nd1 N.n).length) (N.n + 2) N.n (N.n + 1) (.slice av (N.tr.length - fs.length + (nar N.n nd1 N.n).length) cv) 10000000000000000 wr HAV.out (fun p hp => (HSOK.out p hp).1) (fun p hp => (HSOK.out p hp).2.2.1) (fun p hp => (HSOK.out p hp).2.2.2) (fun p hp => (HSOK.out p hp).2.1) (second_cut HN.out h8 HNDB.out) (by omega) (by omega) (by omega) (by omega) (by omega) (by omega))
                    have KNW := Lib.hid (show Kp No w wr from K7.out.trans HKP.out fun k hk h => by omega)
                    generalize hmm : N.tr.length - fs.length + (nar N.n nd1 N.n).length = m at *
                    have HMM := Lib.hid hmm
                    have hm22 : m ≤ 28 := by omega
                    have hmr : N.tr.length - fs.length ≤ m := by omega
                    generalize hps : posTo nd1 N.n = ps at *
                    have HPS := Lib.hid hps
                    clear hmm hps
                    go_wp2_with fail
                    refine HP.out.mono ?_
                    rintro e w10 ⟨L', d, rfl, hav, hpu, hd0, ⟨b, mm, hlab, hclo, hno⟩, hk10⟩
                    have KN10 := Lib.hid (show Kp No w w10 from KNW.out.trans hk10 fun k hk h => by omega)
                    have HAV10 := Lib.hid hav
                    have hL'm : L'.length = m := by
                      have h1 := hpu.same.len
                      have h2 := HMM.out
                      rw [h1, Net.second, List.length_append]
                      simp
                      omega
                    have HLM := Lib.hid hL'm
                    by_cases hds : d < ps
                    · have HNo := Lib.hid (second_no HN.out HNDF.out hpu (fun p hp => (HSOK.out p hp).1) (fun p hp => (HSOK.out p hp).2.1) hlab hclo hno (by rw [HPS.out]; exact hds))
                      clear hav hpu hlab hclo hno hk10 hL'm
                      go_wp2_with fail
                      refine bodyPost_ret (v := .tuple #[.slice none 0 0, .bool false]) (by simp [results, Tryz.results55, go_sem]) rfl ⟨KN10.out, .inr ⟨HNo.out, rfl⟩⟩
                    · have HYes := Lib.hid (second_yes HN.out hf HF.out (M := 656000000000000) HNDB.out HNDF.out hpu (fun p hp => (HSOK.out p hp).2.1) (by rw [HPS.out]; omega))
                      clear hav hpu hlab hclo hno hk10 hL'm
                      go_wp2_with (at_builtin; refine stop_in ?_)
                      refine stop_out ?_
                      refine wpL_append_any rfl _ _ 33 rfl w10.heap.size 2 j0 (.int .i64 0) 1 8 Tryz.underlying33 hj0 jz0 jz1 jz2 rfl (by decide) (.slice (some ⟨w10.heap.size, 0, none⟩) 0 0) 0 [] rfl (own_empty (Nat.le_refl _)) E fs.length ec (fs.map (Value.int .i64)) rfl (by simp) HEN.out (rdi_news ((HE.out.no KN10.out).no (Kp.alloc No _ _))) (by simp [Value.oneCell']) (by unfold maxLen; omega) (by omega) (by simp) ?_
                      intro v11 w11 ho1 hgr1 hat1
                      have hk11 : Kp No w10 w11 := (Kp.refl No w10).trans ((Kp.alloc (fun k => w10.heap.size ≤ k) _ _).tr (Kp.grown hgr1 fun k hk _ => by simp [Value.ownBlock] at hk; omega)) (fun k hk h => absurd h (Nat.not_le.2 hk))
                      have HO11 := Lib.hid (show w11.ownsRow w10.heap.size 2 1 v11 (fs.length + 0) ((fs ++ fls (L'.take 0)).map (Value.int .i64)) by simpa [fls] using ho1)
                      have HK11 := Lib.hid hk11
                      clear ho1 hgr1 hat1 hk11
                      go_wp2_with fail
                      obtain ⟨wo3, rfl⟩ : ∃ wo3 : World, wo3 = wr := ⟨_, rfl⟩
                      go_loopw [18, 19] (fun ov i wr => ∃ j : Nat, j ≤ N.tr.length - fs.length ∧ i = .int .i64 j ∧ wr.ownsRow w10.heap.size 2 1 ov (fs.length + j) ((fs ++ fls (L'.take j)).map (Value.int .i64)) ∧ Kp No w10 wr) (fun _ i _ => N.tr.length - fs.length - (intOf i).toNat)
                      case atStart => exact ⟨0, by omega, rfl, HO11.out, HK11.out⟩
                      case round =>
                        obtain ⟨j, hj, rfl, hown, hkp⟩ := hrel
                        obtain ⟨ao, co, rfl, _, _, _⟩ := own_form hown
                        have HOO := Lib.hid hown
                        have HKJ := Lib.hid hkp
                        have hw10 := hkp.size
                        clear hown hkp
                        by_cases hjl : (j : Int) < ((N.tr.length - fs.length : Nat) : Int)
                        · first
                            | (exfalso; have := HMZ.out; omega)
                            | (obtain ⟨p, hp⟩ : ∃ p, L'[j]? = some p := ⟨_, List.getElem?_eq_getElem (by have := HLM.out; omega)⟩
                               rcases (HAV10.out.no HKJ.out) with ⟨hm0, _⟩ | ⟨g, o, c, hv, harc⟩
                               · exfalso; omega
                               · injection hv with e1 _ e3
                                 subst e1 e3
                                 have xf := (harc.cell hp (j := 3) rfl).1
                                 have hgz := harc.lt.2
                                 have hjm : (j : Int) < (m : Int) := by omega
                                 have HTK := Lib.hid (show (fs ++ fls (L'.take (j + 1))).map (Value.int .i64) = (fs ++ fls (L'.take j)).map (Value.int .i64) ++ [.int .i64 p.fl] by rw [take_snoc' hp]; simp [fls])
                                 clear harc hp
                                 go_wp2_with (at_builtin; refine stop_in ?_)
                                 refine stop_out ?_
                                 refine wpList_append_own_at _ rfl _ _ 33 rfl w10.heap.size 2 j0 (.int .i64 0) 1 8 Tryz.underlying33 hj0 jz0 jz1 jz2 rfl (by decide) (.slice ao (fs.length + j) co) (fs.length + j) ((fs ++ fls (L'.take j)).map (Value.int .i64)) rfl (own_kp HOO.out (Kp.alloc No _ _) (fun _ _ h => h)) ⟨wr.heap.size, 0, none⟩ 1 1 [.int .i64 p.fl] rfl rfl (one_news wr 2 _) (by simp [Value.oneCell']) (by unfold maxLen; omega) (by omega) (by simp; omega) ?_
                                 intro v' w12 hown' hgrow hnil hat
                                 have O12 := Lib.hid (show w12.ownsRow w10.heap.size 2 1 v' (fs.length + (j + 1)) ((fs ++ fls (L'.take (j + 1))).map (Value.int .i64)) by rw [HTK.out]; exact hown')
                                 have K12 := Lib.hid (HKJ.out.trans ((Kp.alloc (fun k => w10.heap.size ≤ k) _ _).tr (Kp.grown hgrow fun k hk _ => (own_ge HOO.out hk).1)) fun k hk h => absurd h (by omega))
                                 clear hown' hgrow hnil hat xf
                                 go_wp2_with fail
                                 go_roundw
                                 case rel => exact ⟨j + 1, by omega, by go_num, O12.out, K12.out⟩
                                 case measure => simp [intOf]; omega)
                        · have hj0 : (0 : Int) ≤ (j : Int) := by omega
                          have HJE := Lib.hid (show j = N.tr.length - fs.length by omega)
                          have HLEN := Lib.hid (show fs.length + j = (fs ++ fls (L'.take (N.tr.length - fs.length))).length by
                            have h1 := HLM.out
                            have h2 := HJE.out
                            rw [List.length_append, fls, List.length_map, List.length_take]
                            omega)
                          go_wp2_with fail
                          refine bodyPost_ret (v := .tuple #[.slice ao (fs.length + j) co, .bool true]) (by simp [results, Tryz.results55, go_sem]) rfl ⟨KN10.out.tr HKJ.out, .inl ⟨fls (L'.take (N.tr.length - fs.length)), _, HYes.out, rfl, ?_⟩⟩
                          have h1 := HOO.out
                          rw [HLEN.out, HJE.out] at h1
                          rw [HLEN.out]
                          exact own_mono h1 KN10.out.size
end Go.Proofs.YtpkbpeeelpgmcaaGreat
