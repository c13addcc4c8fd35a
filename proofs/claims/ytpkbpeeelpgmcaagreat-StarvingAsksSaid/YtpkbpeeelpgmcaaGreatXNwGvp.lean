/- Whether demands can be met when the first flows are given: plain laws. No program in sight. -/
import Derived.Test.YtpkbpeeelpgmcaaGreatXNwPth0M
namespace Go.Flow

/-- What a node needs. -/
def Net.need (N : Net) (h : Bool) (ds first : List Int) (φ : Nat → Int) : Int := dv φ (pf h N.tr first) - dem φ (N.ch.zip ds)
def nar (n : Nat) (nd : Nat → Int) : Nat → List Pi
  | 0 => []
  | v + 1 => nar n nd v ++ (if 0 < nd v then [⟨v, n + 1, nd v, 0, false⟩] else if nd v < 0 then [⟨n, v, -nd v, 0, false⟩] else [])
def posTo (nd : Nat → Int) : Nat → Int
  | 0 => 0
  | v + 1 => posTo nd v + (if 0 < nd v then nd v else 0)
def outTo (R : Nat → Bool) (nd : Nat → Int) : Nat → Int
  | 0 => 0
  | v + 1 => outTo R nd v + (if R v then 0 else nd v)
theorem nar_in {n : Nat} {nd : Nat → Int} {M : Int} (hM : ∀ v, -M ≤ nd v ∧ nd v ≤ M) : ∀ {v : Nat}, v ≤ n → ∀ p ∈ nar n nd v, p.fr < n + 2 ∧ p.to < n + 2 ∧ p.fr ≠ p.to ∧ 0 ≤ p.mo ∧ p.mo ≤ M ∧ p.fl = 0 ∧ p.st = false ∧ ((p.fr < n ∧ p.to = n + 1) ∨ (p.fr = n ∧ p.to < n))
  | 0, _, p, hp => by simp [nar] at hp
  | v + 1, hv, p, hp => by
    have hm := hM v
    rw [nar] at hp
    rcases List.mem_append.1 hp with hp | hp
    · exact nar_in hM (by omega) p hp
    · split at hp
      · simp at hp
        subst hp
        exact ⟨by show v < _; omega, by show n + 1 < _; omega, by show v ≠ n + 1; omega, by show 0 ≤ nd v; omega, hm.2, rfl, rfl, .inl ⟨by show v < n; omega, rfl⟩⟩
      · split at hp
        · simp at hp
          subst hp
          exact ⟨by show n < _; omega, by show v < _; omega, by show n ≠ v; omega, by show 0 ≤ -nd v; omega, by show -nd v ≤ M; omega, rfl, rfl, .inr ⟨rfl, by show v < n; omega⟩⟩
        · cases hp
theorem nar_len (n : Nat) (nd : Nat → Int) : ∀ v, (nar n nd v).length ≤ v
  | 0 => by simp [nar]
  | v + 1 => by
    have ih := nar_len n nd v
    rw [nar, List.length_append]
    split
    · simp; omega
    · split
      · simp; omega
      · simp; omega
theorem nar_cut {n : Nat} {nd : Nat → Int} {R : Nat → Bool} (h1 : R n = true) (h2 : R (n + 1) = false) : ∀ v : Nat, cut R (nar n nd v) = posTo nd v - outTo R nd v
  | 0 => rfl
  | v + 1 => by
    rw [nar, cut_app, nar_cut h1 h2 v, posTo, outTo]
    by_cases g : 0 < nd v
    · rw [if_pos g, if_pos g]
      cases hR : R v <;> simp [cut, hR, h2] <;> omega
    · rw [if_neg g, if_neg g]
      by_cases g2 : nd v < 0
      · rw [if_pos g2]
        cases hR : R v <;> simp [cut, hR, h1] <;> omega
      · rw [if_neg g2]
        have : nd v = 0 := by omega
        cases hR : R v <;> simp [cut, this] <;> omega
theorem outTo_sum (R : Nat → Bool) (nd : Nat → Int) : ∀ v, outTo R nd v = sumTo v nd - sumTo v (fun u => ind R u * nd u)
  | 0 => rfl
  | v + 1 => by
    rw [outTo, outTo_sum R nd v, sumTo, sumTo]
    cases hR : R v
    · rw [ind_f hR]
      simp
      omega
    · rw [ind_t hR]
      simp
      omega
def mos (L : List Pi) : List Int := L.map Pi.mo
theorem nar_mos (n : Nat) (nd : Nat → Int) : ∀ v, sumZ (mos (nar n nd v)) = 2 * posTo nd v - sumTo v nd
  | 0 => rfl
  | v + 1 => by
    have app : ∀ A B : List Int, sumZ (A ++ B) = sumZ A + sumZ B := by
      intro A B
      induction A with
      | nil => simp [sumZ]
      | cons a A ih => simp only [List.cons_append, sumZ, ih]; omega
    have ih := nar_mos n nd v
    unfold mos at ih ⊢
    rw [nar, List.map_append, app, ih, posTo, sumTo]
    split
    · simp [sumZ]; omega
    · split
      · simp [sumZ]; omega
      · simp [sumZ]; omega
/-- All node arcs filled. -/
def full (L : List Pi) : List Pi := L.map fun p => { p with fl := p.mo }
theorem nar_dv {n : Nat} {nd : Nat → Int} {ψ : Nat → Int} (h1 : ψ n = 0) (h2 : ψ (n + 1) = 0) : ∀ v : Nat, dv ψ (full (nar n nd v)) = sumTo v fun u => ψ u * nd u
  | 0 => rfl
  | v + 1 => by
    have ih := nar_dv (nd := nd) h1 h2 v
    unfold full at ih ⊢
    rw [nar, List.map_append, dv_app, ih, sumTo]
    by_cases g : 0 < nd v
    · rw [if_pos g]
      simp only [List.map_cons, List.map_nil, dv, h2]
      rw [Int.mul_comm (ψ v)]
      simp
    · rw [if_neg g]
      by_cases g2 : nd v < 0
      · rw [if_pos g2]
        simp only [List.map_cons, List.map_nil, dv, h1]
        rw [Int.mul_comm (ψ v)]
        simp [Int.neg_mul_neg]
      · rw [if_neg g2]
        have : nd v = 0 := by omega
        simp [dv, this]
theorem sat_full : ∀ (C : List Pi), (∀ p ∈ C, p.fl ≤ p.mo) → sumZ (fls C) = sumZ (mos C) → ∀ p ∈ C, p.fl = p.mo
  | [], _, _ => fun p hp => by cases hp
  | q :: C, h, hs => by
    have le : ∀ C : List Pi, (∀ p ∈ C, p.fl ≤ p.mo) → sumZ (fls C) ≤ sumZ (mos C) := by
      intro C
      induction C with
      | nil => intro _; exact Int.le_refl _
      | cons p C ih =>
        intro h
        have h1 := h p (by simp)
        have h2 := ih fun r hr => h r (by simp [hr])
        simp only [fls, mos, List.map_cons, sumZ] at h2 ⊢
        omega
    have h1 := h q (by simp)
    have h2 := le C fun r hr => h r (by simp [hr])
    simp only [fls, mos, List.map_cons, sumZ] at hs h2
    have h3 := sat_full C (fun r hr => h r (by simp [hr])) (by simp only [fls, mos]; omega)
    intro p hp
    rcases List.mem_cons.1 hp with rfl | hp
    · omega
    · exact h3 p hp
theorem full_of : ∀ {C K : List Pi}, C.map sk = K.map sk → (∀ p ∈ C, p.fl = p.mo) → ∀ φ, dv φ C = dv φ (full K)
  | [], [], _, _, _ => rfl
  | [], _ :: _, h, _, _ => by simp at h
  | _ :: _, [], h, _, _ => by simp at h
  | p :: C, q :: K, h, hf, φ => by
    simp only [List.map_cons, List.cons.injEq] at h
    obtain ⟨h1, h2⟩ := h
    have ih := full_of h2 (fun r hr => hf r (by simp [hr])) φ
    have e := hf p (by simp)
    unfold sk at h1
    simp only [Prod.mk.injEq] at h1
    simp only [full, List.map_cons, dv] at ih ⊢
    rw [ih, e, h1.1, h1.2.1, h1.2.2]
theorem mos_sk : ∀ {C K : List Pi}, C.map sk = K.map sk → mos C = mos K
  | [], [], _ => rfl
  | [], _ :: _, h => by simp at h
  | _ :: _, [], h => by simp at h
  | p :: C, q :: K, h => by
    simp only [List.map_cons, List.cons.injEq] at h
    obtain ⟨h1, h2⟩ := h
    unfold sk at h1
    simp only [Prod.mk.injEq] at h1
    have ih := mos_sk h2
    simp only [mos, List.map_cons] at ih ⊢
    rw [ih, h1.2.2]
theorem dv_ends {n : Nat} : ∀ C : List Pi, (∀ p ∈ C, (p.fr < n ∧ p.to = n + 1) ∨ (p.fr = n ∧ p.to < n)) → dv (fun v => if v = n then 1 else if v = n + 1 then -1 else 0) C = sumZ (fls C)
  | [], _ => rfl
  | p :: C, h => by
    have ih := dv_ends C fun q hq => h q (by simp [hq])
    rw [dv, ih]
    rcases h p (by simp) with ⟨h1, h2⟩ | ⟨h1, h2⟩
    · rw [if_neg (by omega), if_neg (by omega), h2, if_neg (by omega), if_pos rfl]
      simp [fls, sumZ]
    · rw [h1, if_pos rfl, if_neg (by omega), if_neg (by omega)]
      simp [fls, sumZ]
theorem dv_inner {n : Nat} : ∀ C : List Pi, (∀ p ∈ C, p.fr < n ∧ p.to < n) → dv (fun v => if v = n then 1 else if v = n + 1 then -1 else 0) C = 0
  | [], _ => rfl
  | p :: C, h => by
    have ih := dv_inner C fun q hq => h q (by simp [hq])
    have hp := h p (by simp)
    rw [dv, ih, if_neg (by omega), if_neg (by omega), if_neg (by omega), if_neg (by omega)]
    simp
theorem dv_congr {φ ψ : Nat → Int} {n : Nat} (h : ∀ v, v < n → φ v = ψ v) : ∀ L : List Pi, (∀ p ∈ L, p.fr < n ∧ p.to < n) → dv φ L = dv ψ L
  | [], _ => rfl
  | p :: l, hl => by
    have hp := hl p (by simp)
    rw [dv, dv, dv_congr h l fun q hq => hl q (by simp [hq]), h _ hp.1, h _ hp.2]
theorem dem_congr {φ ψ : Nat → Int} {n : Nat} (hn : 0 < n) (h : ∀ v, v < n → φ v = ψ v) : ∀ l : List (Nat × Int), (∀ x ∈ l, x.1 < n) → dem φ l = dem ψ l
  | [], _ => rfl
  | x :: l, hl => by
    have hp := hl x (by simp)
    rw [dem, dem, dem_congr hn h l fun q hq => hl q (by simp [hq]), h _ hp, h 0 hn]
theorem need_lin {N : Net} (hN : N.Ok) (h : Bool) (ds first : List Int) (φ : Nat → Int) : N.need h ds first φ = sumTo N.n fun v => φ v * N.need h ds first (one v) := by
  unfold Net.need
  rw [dv_lin φ N.n _ (pf_mem hN), dem_lin φ N.n hN.n1 _ fun x hx => (hN.ck x.1 (mem_zip_fst hx)).2]
  rw [sumTo_congr N.n (fun v => φ v * (dv (one v) (pf h N.tr first) - dem (one v) (N.ch.zip ds))) (fun v => φ v * dv (one v) (pf h N.tr first) + (-1) * (φ v * dem (one v) (N.ch.zip ds))) fun v _ => by rw [Int.mul_sub]; omega, sumTo_add, sumTo_mul]
  omega
theorem need_flat {N : Net} (h : Bool) (ds first : List Int) (c : Int) : N.need h ds first (fun _ => c) = 0 := by
  unfold Net.need
  rw [dv_flat, dem_flat]
  rfl
/-- A set that refutes what is to be given. -/
def Net.No (N : Net) (h : Bool) (ds first : List Int) : Prop := ∃ R : Nat → Bool, cut R ((N.tr.drop first.length).map (tp h)) + dv (ind R) (pf h N.tr first) < dem (ind R) (N.ch.zip ds)
/-- The arcs of the second network. -/
def Net.second (N : Net) (h : Bool) (first : List Int) (nd : Nat → Int) : List Pi := (N.tr.drop first.length).map (tp h) ++ nar N.n nd N.n
theorem second_no {N : Net} (hN : N.Ok) {h : Bool} {ds first : List Int} {nd : Nat → Int} (hnd : ∀ v, v < N.n → nd v = N.need h ds first (one v)) {L' : List Pi} {d : Int} {b : Nat → Option Stp} {m : Nat}
    (hp : Pushed (N.second h first nd) L' N.n (N.n + 1) d) (hst : ∀ p ∈ N.second h first nd, p.st = false) (hz : ∀ p ∈ N.second h first nd, p.fl = 0) (_hl : Lab L' N.n b m) (hc : Clo (Rs N.n b) L') (hn : Rs N.n b (N.n + 1) = false) (hd : d < posTo nd N.n) : N.No h ds first := by
  have h0 : Rs N.n b N.n = true := by simp [Rs]
  have h1 := hp.dv (ind (Rs N.n b))
  rw [ind_t h0, ind_f hn] at h1
  have hz0 : dv (ind (Rs N.n b)) (N.second h first nd) = 0 := by
    have key : ∀ L : List Pi, (∀ p ∈ L, p.fl = 0) → dv (ind (Rs N.n b)) L = 0 := by
      intro L
      induction L with
      | nil => intro _; rfl
      | cons p l ih => intro hL; rw [dv, ih fun q hq => hL q (by simp [hq]), hL p (by simp)]; simp
    exact key _ hz
  have h2 := tight (Rs N.n b) L' hp.fit (same_st hp.same hst) hc
  rw [cut_same hp.same, Net.second, cut_app, nar_cut h0 hn, outTo_sum] at h2
  have h3 : sumTo N.n nd = 0 := by
    have := need_lin hN h ds first (fun _ => 1)
    rw [need_flat] at this
    rw [sumTo_congr N.n nd (fun v => 1 * N.need h ds first (one v)) fun v hv => by rw [hnd v hv]; omega]
    exact this.symm
  have h4 : sumTo N.n (fun u => ind (Rs N.n b) u * nd u) = N.need h ds first (ind (Rs N.n b)) := by
    rw [need_lin hN]
    exact sumTo_congr N.n _ _ fun v hv => by rw [hnd v hv]
  refine ⟨Rs N.n b, ?_⟩
  unfold Net.need at h4
  omega
theorem pf_app (h : Bool) : ∀ (tr : List Tk) (first G : List Int), first.length ≤ tr.length → pf h tr (first ++ G) = pf h tr first ++ pf h (tr.drop first.length) G
  | tr, [], G, _ => by simp [pf]
  | [], _ :: _, _, hl => by simp at hl
  | t :: tr, f :: first, G, hl => by
    have ih := pf_app h tr first G (by simpa using hl)
    simp only [pf, List.cons_append, List.zipWith_cons_cons, List.length_cons, List.drop_succ_cons] at ih ⊢
    rw [ih]
theorem second_yes {N : Net} (hN : N.Ok) {h : Bool} {ds first : List Int} (hfl : first.length ≤ N.tr.length) (hr : ∀ (i : Nat) (f : Int) (t : Tk), first[i]? = some f → N.tr[i]? = some t → 0 ≤ f ∧ f ≤ t.cap h) {nd : Nat → Int} {M : Int} (hM : ∀ v, -M ≤ nd v ∧ nd v ≤ M)
    (hnd : ∀ v, v < N.n → nd v = N.need h ds first (one v)) {L' : List Pi} {d : Int} (hp : Pushed (N.second h first nd) L' N.n (N.n + 1) d) (hz : ∀ p ∈ N.second h first nd, p.fl = 0) (hd : posTo nd N.n ≤ d) :
    N.Feas h ds (first ++ fls (L'.take (N.tr.length - first.length))) := by
  have hsk := hp.same.sk
  have hkl : ((N.tr.drop first.length).map (tp h)).length = N.tr.length - first.length := by simp
  have hT : (L'.take (N.tr.length - first.length)).map sk = ((N.tr.drop first.length).map (tp h)).map sk := by
    rw [List.map_take, hsk, ← List.map_take, Net.second, List.take_left' hkl]
  have hC : (L'.drop (N.tr.length - first.length)).map sk = (nar N.n nd N.n).map sk := by
    rw [List.map_drop, hsk, ← List.map_drop, Net.second, List.drop_left' hkl]
  have inn : ∀ p ∈ L'.take (N.tr.length - first.length), p.fr < N.n ∧ p.to < N.n := fun p hpm => by
    obtain ⟨i, hi⟩ := List.mem_iff_getElem?.1 hpm
    obtain ⟨q, hq, e1, e2, _⟩ := sk_at hT hi
    obtain ⟨t, ht, rfl⟩ := List.mem_map.1 (List.mem_of_getElem? hq)
    have := hN.tk t (List.mem_of_mem_drop ht)
    have f1 : t.fr = p.fr := e1
    have f2 : t.to = p.to := e2
    omega
  have ends : ∀ p ∈ L'.drop (N.tr.length - first.length), (p.fr < N.n ∧ p.to = N.n + 1) ∨ (p.fr = N.n ∧ p.to < N.n) := fun p hpm => by
    obtain ⟨i, hi⟩ := List.mem_iff_getElem?.1 hpm
    obtain ⟨q, hq, e1, e2, _⟩ := sk_at hC hi
    have := (nar_in hM (Nat.le_refl _) q (List.mem_of_getElem? hq)).2.2.2.2.2.2.2
    omega
  have zero : ∀ φ, dv φ (N.second h first nd) = 0 := fun φ => by
    have key : ∀ L : List Pi, (∀ p ∈ L, p.fl = 0) → dv φ L = 0 := by
      intro L
      induction L with
      | nil => intro _; rfl
      | cons p l ih => intro hL; rw [dv, ih fun q hq => hL q (by simp [hq]), hL p (by simp)]; simp
    exact key _ hz
  have h3 : sumTo N.n nd = 0 := by
    have := need_lin hN h ds first (fun _ => 1)
    rw [need_flat] at this
    rw [sumTo_congr N.n nd (fun v => 1 * N.need h ds first (one v)) fun v hv => by rw [hnd v hv]; omega]
    exact this.symm
  have hle : ∀ p ∈ L'.drop (N.tr.length - first.length), p.fl ≤ p.mo := fun p hpm => (hp.fit p (List.mem_of_mem_drop hpm)).2
  have hsat : ∀ p ∈ L'.drop (N.tr.length - first.length), p.fl = p.mo := by
    refine sat_full _ hle ?_
    have h1 := hp.dv (fun v => if v = N.n then 1 else if v = N.n + 1 then -1 else 0)
    rw [zero, ← List.take_append_drop (N.tr.length - first.length) L', dv_app, dv_inner _ inn, dv_ends _ ends] at h1
    simp at h1
    have h2 : sumZ (fls (L'.drop (N.tr.length - first.length))) ≤ sumZ (mos (L'.drop (N.tr.length - first.length))) := by
      clear h1 hd
      generalize L'.drop (N.tr.length - first.length) = C at hle
      induction C with
      | nil => exact Int.le_refl _
      | cons p C ih =>
        have h1 := hle p (by simp)
        have h2 := ih fun r hr => hle r (by simp [hr])
        simp only [fls, mos, List.map_cons, sumZ] at h2 ⊢
        omega
    rw [mos_sk hC, nar_mos, h3] at h2 ⊢
    omega
  have hdv : ∀ φ, dv φ (L'.take (N.tr.length - first.length)) = - N.need h ds first φ := fun φ => by
    have hψ : ∀ v, v < N.n → φ v = (fun u => if u < N.n then φ u else 0) v := fun v hv => by simp [hv]
    have h1 := hp.dv (fun u => if u < N.n then φ u else 0)
    rw [zero, ← List.take_append_drop (N.tr.length - first.length) L', dv_app, full_of hC hsat, nar_dv (if_neg (by omega)) (if_neg (by omega))] at h1
    rw [if_neg (by omega), if_neg (by omega)] at h1
    rw [dv_congr hψ _ inn, need_lin hN]
    have h5 : sumTo N.n (fun u => (if u < N.n then φ u else 0) * nd u) = sumTo N.n (fun v => φ v * N.need h ds first (one v)) := sumTo_congr N.n _ _ fun v hv => by rw [if_pos hv, hnd v hv]
    omega
  have hlen : (L'.take (N.tr.length - first.length)).length = N.tr.length - first.length := by
    have := len_sk hT
    simpa using this
  refine ⟨by rw [List.length_append]; unfold fls; rw [List.length_map, hlen]; omega, fun p hpm => ?_, fun φ => ?_⟩
  · rw [pf_app h _ _ _ hfl] at hpm
    rcases List.mem_append.1 hpm with hpm | hpm
    · obtain ⟨i, hi⟩ := List.mem_iff_getElem?.1 hpm
      simp only [pf, List.getElem?_zipWith] at hi
      split at hi
      · rename_i t f ht hf
        cases hi
        exact hr i f t hf ht
      · cases hi
    · exact fit_sk h _ _ hT (fun p hp' => hp.fit p (List.mem_of_mem_take hp')) p hpm
  · rw [pf_app h _ _ _ hfl, dv_app, dv_sk φ h _ _ hT, hdv]
    unfold Net.need
    omega
/-- What is refuted has no flow. -/
theorem No.elim {N : Net} {h : Bool} {ds first G : List Int} (hl : first.length ≤ N.tr.length) (hno : N.No h ds first) (hF : N.Feas h ds (first ++ G)) : False := by
  obtain ⟨R, hR⟩ := hno
  have h1 := hF.dv (ind R)
  rw [pf_app h _ _ _ hl, dv_app] at h1
  have hG : G.length = (N.tr.drop first.length).length := by
    have := hF.len
    rw [List.length_append] at this
    simp
    omega
  have h2 := weak R (pf h (N.tr.drop first.length) G) fun p hp => hF.fit p (by rw [pf_app h _ _ _ hl]; exact List.mem_append_right _ hp)
  rw [cut_sk (pf_sk h _ _ hG)] at h2
  omega
end Go.Flow
