/- The least flow is found trunk by trunk; what can be spared: plain laws. No program in sight. -/
import Derived.Test.YtpkbpeeelpgmcaaGreatXNwBaseM
namespace Go.Flow

def ff (p : Pi) : Nat × Nat × Int × Int := (p.fr, p.to, p.mo, p.fl)
theorem ff_sk : ∀ {L K : List Pi}, L.map ff = K.map ff → L.map sk = K.map sk := fun {L K} h => by
  have := congrArg (List.map fun (x : Nat × Nat × Int × Int) => (x.1, x.2.1, x.2.2.1)) h
  simp only [List.map_map] at this
  exact this
theorem ff_fls : ∀ {L K : List Pi}, L.map ff = K.map ff → fls L = fls K := fun {L K} h => by
  have := congrArg (List.map fun (x : Nat × Nat × Int × Int) => x.2.2.2) h
  simp only [List.map_map] at this
  exact this
theorem ff_dv (φ : Nat → Int) : ∀ {L K : List Pi}, L.map ff = K.map ff → dv φ L = dv φ K
  | [], [], _ => rfl
  | [], _ :: _, h => by simp at h
  | _ :: _, [], h => by simp at h
  | p :: l, q :: k, h => by
    simp only [List.map_cons, List.cons.injEq] at h
    obtain ⟨h1, h2⟩ := h
    unfold ff at h1
    simp only [Prod.mk.injEq] at h1
    rw [dv, dv, ff_dv φ h2, h1.1, h1.2.1, h1.2.2.2]
theorem ff_fit : ∀ {L K : List Pi}, L.map ff = K.map ff → Fit K → Fit L
  | [], _, _, _ => fun p hp => by cases hp
  | _ :: _, [], h, _ => by simp at h
  | p :: l, q :: k, h, hf => by
    simp only [List.map_cons, List.cons.injEq] at h
    obtain ⟨h1, h2⟩ := h
    unfold ff at h1
    simp only [Prod.mk.injEq] at h1
    intro r hr
    rcases List.mem_cons.1 hr with rfl | hr
    · have := hf.cons.1
      rw [h1.2.2.1, h1.2.2.2]
      exact this
    · exact ff_fit h2 hf.cons.2 r hr
theorem ff_set {L : List Pi} {i : Nat} {p : Pi} (hp : L[i]? = some p) (b : Bool) : (L.set i { p with st := b }).map ff = L.map ff := by
  refine List.ext_getElem? fun j => ?_
  rw [List.getElem?_map, List.getElem?_map]
  by_cases e : i = j
  · subst e
    have hlt := (List.getElem?_eq_some_iff.1 hp).1
    rw [List.getElem?_set_self hlt, hp]
    rfl
  · rw [List.getElem?_set_ne e]
theorem dv_set (φ : Nat → Int) : ∀ (L : List Pi) (i : Nat) (p q : Pi), L[i]? = some p → q.fr = p.fr → q.to = p.to → dv φ (L.set i q) = dv φ L + (q.fl - p.fl) * (φ p.fr - φ p.to)
  | [], i, p, q, h, _, _ => by simp at h
  | x :: l, 0, p, q, h, h1, h2 => by
    simp at h
    subst h
    rw [List.set_cons_zero, dv, dv, h1, h2, Int.sub_mul]
    omega
  | x :: l, i + 1, p, q, h, h1, h2 => by
    rw [List.set_cons_succ, dv, dv, dv_set φ l i p q (by simpa using h) h1 h2]
    omega
theorem feas_core {N : Net} {h : Bool} {ds : List Int} {L : List Pi} (hl : ds.length = N.ch.length) (hs : L.map sk = (N.lay h ds).map sk) (hf : Fit L) (hd : ∀ φ, dv φ L = sumZ ds * (φ 0 - φ N.n)) (hc : fls (L.drop N.tr.length) = ds) : N.Feas h ds (fls (L.take N.tr.length)) :=
  SI.feas (k := 0) (L := L.mapIdx fun i p => { p with st := decide (N.tr.length ≤ i) }) hl (by
    have hff : (L.mapIdx fun i p => ({ p with st := decide (N.tr.length ≤ i) } : Pi)).map ff = L.map ff := by
      refine List.ext_getElem? fun j => ?_
      rw [List.getElem?_map, List.getElem?_map, List.getElem?_mapIdx]
      cases L[j]? <;> rfl
    have hff2 : ∀ m, ((L.mapIdx fun i p => ({ p with st := decide (N.tr.length ≤ i) } : Pi)).drop m).map ff = (L.drop m).map ff := fun m => by rw [List.map_drop, hff, ← List.map_drop]
    exact ⟨(ff_sk hff).trans hs, ff_fit hff hf, fun φ => (ff_dv φ hff).trans (hd φ), fun i p hp => by
      rw [List.getElem?_mapIdx] at hp
      obtain ⟨q, _, rfl⟩ := Option.map_eq_some_iff.1 hp
      simp, (ff_fls (hff2 _)).trans hc, fun j G hj => by omega⟩) |> fun h => by
    have hff2 : ((L.mapIdx fun i p => ({ p with st := decide (N.tr.length ≤ i) } : Pi)).take N.tr.length).map ff = (L.take N.tr.length).map ff := by
      rw [List.map_take, List.map_take]
      congr 1
      refine List.ext_getElem? fun j => ?_
      rw [List.getElem?_map, List.getElem?_map, List.getElem?_mapIdx]
      cases L[j]? <;> rfl
    rw [ff_fls hff2] at h
    exact h
theorem SI.start {N : Net} (hN : N.Ok) {h : Bool} {ds : List Int} {L L' : List Pi} (hl : ds.length = N.ch.length) (hp : Pushed (N.lay h ds) L 0 N.n (sumZ ds)) (hff : L'.map ff = L.map ff) (hst : ∀ i p, L'[i]? = some p → (p.st = true ↔ N.tr.length ≤ i)) : SI N h ds 0 L' :=
  ⟨(ff_sk hff).trans hp.same.sk, ff_fit hff hp.fit, fun φ => by rw [ff_dv φ hff, hp.dv, dv_lay]; omega, fun i p hi => by rw [hst i p hi]; simp,
    by
      have : (L'.drop N.tr.length).map ff = (L.drop N.tr.length).map ff := by rw [List.map_drop, hff, ← List.map_drop]
      rw [ff_fls this]
      exact sat_all hN hl hp, fun j G hj => by omega⟩
theorem rest_le (R : Nat → Bool) (h : Bool) : ∀ (tr : List Tk) (C : List Pi) (G : List Int), C.map sk = (tr.map (tp h)).map sk → G.length = tr.length → Fit (pf h tr G) →
    (∀ p ∈ C, (R p.fr = true → p.fl < p.mo → R p.to = true) ∧ (R p.to = true → 0 < p.fl → R p.fr = true)) → dv (ind R) (pf h tr G) ≤ dv (ind R) C
  | [], [], G, _, hl, _, _ => by
    cases G with
    | nil => exact Int.le_refl _
    | cons _ _ => simp at hl
  | [], _ :: _, _, hs, _, _, _ => by simp at hs
  | _ :: _, [], _, hs, _, _, _ => by simp at hs
  | t :: tr, p :: C, G, hs, hl, hf, hc => by
    cases G with
    | nil => simp at hl
    | cons g G =>
      simp only [List.map_cons, List.cons.injEq] at hs
      obtain ⟨h1, h2⟩ := hs
      have ih := rest_le R h tr C G h2 (by simpa using hl) (fun q hq => hf q (by simp only [pf, List.zipWith_cons_cons]; exact List.mem_cons_of_mem _ hq)) fun q hq => hc q (by simp [hq])
      have hg := hf ⟨t.fr, t.to, t.cap h, g, false⟩ (by simp [pf])
      have hp := hc p (by simp)
      unfold sk tp at h1
      simp only [Prod.mk.injEq] at h1
      simp only at hg
      have e : dv (ind R) (pf h (t :: tr) (g :: G)) = g * (ind R p.fr - ind R p.to) + dv (ind R) (pf h tr G) := by
        rw [h1.1, h1.2.1]
        rfl
      rw [e, dv]
      have hm : p.mo = t.cap h := h1.2.2
      cases hr1 : R p.fr <;> cases hr2 : R p.to <;> simp only [hr1, hr2, ind] at hp ⊢ <;> simp at hp ⊢ <;> omega
theorem cmp (R : Nat → Bool) (h : Bool) : ∀ (k : Nat) (tr : List Tk) (T : List Pi) (G : List Int), T.map sk = (tr.map (tp h)).map sk → G.length = tr.length → Fit (pf h tr G) → (∀ i, i < k → G[i]? = (fls T)[i]?) →
    (∀ i p, k < i → T[i]? = some p → (R p.fr = true → p.fl < p.mo → R p.to = true) ∧ (R p.to = true → 0 < p.fl → R p.fr = true)) → ∀ (q : Pi) (g : Int), T[k]? = some q → G[k]? = some g → R q.fr = true → R q.to = false → dv (ind R) (pf h tr G) - dv (ind R) T ≤ g - q.fl
  | 0, t :: tr, p :: T, g' :: G, hs, hl, hf, _, hc, q, g, hq, hg, h1, h2 => by
    simp at hq hg
    subst hq hg
    simp only [List.map_cons, List.cons.injEq] at hs
    obtain ⟨e1, e2⟩ := hs
    have hr := rest_le R h tr T G e2 (by simpa using hl) (fun q hq => hf q (by simp only [pf, List.zipWith_cons_cons]; exact List.mem_cons_of_mem _ hq)) fun u hu => by
      obtain ⟨i, hi⟩ := List.mem_iff_getElem?.1 hu
      exact hc (i + 1) u (by omega) (by simpa using hi)
    unfold sk tp at e1
    simp only [Prod.mk.injEq] at e1
    have e : dv (ind R) (pf h (t :: tr) (g' :: G)) = g' * (ind R p.fr - ind R p.to) + dv (ind R) (pf h tr G) := by
      rw [e1.1, e1.2.1]
      rfl
    rw [e, dv, ind_t h1, ind_f h2]
    omega
  | k + 1, t :: tr, p :: T, g' :: G, hs, hl, hf, he, hc, q, g, hq, hg, h1, h2 => by
    simp only [List.map_cons, List.cons.injEq] at hs
    obtain ⟨e1, e2⟩ := hs
    have ih := cmp R h k tr T G e2 (by simpa using hl) (fun q hq => hf q (by simp only [pf, List.zipWith_cons_cons]; exact List.mem_cons_of_mem _ hq)) (fun i hi => by have := he (i + 1) (by omega); simpa [fls] using this)
      (fun i u hi hu => hc (i + 1) u (by omega) (by simpa using hu)) q g (by simpa using hq) (by simpa using hg) h1 h2
    have h0 := he 0 (by omega)
    simp [fls] at h0
    unfold sk tp at e1
    simp only [Prod.mk.injEq] at e1
    have e : dv (ind R) (pf h (t :: tr) (g' :: G)) = g' * (ind R p.fr - ind R p.to) + dv (ind R) (pf h tr G) := by
      rw [e1.1, e1.2.1]
      rfl
    rw [e, dv, h0]
    omega
  | _, [], [], _, _, _, _, _, _, q, g, hq, _, _, _ => by simp at hq
  | _, [], _ :: _, _, hs, _, _, _, _, _, _, _, _, _, _ => by simp at hs
  | _, _ :: _, [], _, hs, _, _, _, _, _, _, _, _, _, _ => by simp at hs
  | _, _ :: _, _ :: _, [], _, hl, _, _, _, _, _, _, _, _, _ => by simp at hl
theorem fls_get (L : List Pi) (i : Nat) : (fls L)[i]? = L[i]?.map Pi.fl := by simp [fls]
/-- One trunk more is fixed. -/
theorem SI.step {N : Net} {h : Bool} {ds : List Int} {k : Nat} {L L2 : List Pi} {p : Pi} {d : Int} (hl : ds.length = N.ch.length) (hI : SI N h ds k L) (hk : k < N.tr.length) (hp : L[k]? = some p) (hP : Pushed (L.set k { p with st := true }) L2 p.fr p.to d) (hd : 0 ≤ d ∧ d ≤ p.fl)
    (he : d = p.fl ∨ ∃ b m, Lab L2 p.fr b m ∧ Clo (Rs p.fr b) L2 ∧ Rs p.fr b p.to = false) : L2[k]? = some { p with st := true } ∧ SI N h ds (k + 1) (L2.set k { p with st := true, fl := p.fl - d }) := by
  have hkl := (List.getElem?_eq_some_iff.1 hp).1
  have h1k : (L.set k { p with st := true })[k]? = some { p with st := true } := by rw [List.getElem?_set_self hkl]
  obtain ⟨f2, h2k, hf2⟩ := hP.same.at_ k _ h1k
  have hf2' := hf2 rfl
  simp only at hf2'
  subst hf2'
  replace h2k : L2[k]? = some { p with st := true } := h2k
  have h2l : L2.length = L.length := by have := hP.same.len; simpa using this
  -- entries of L2 besides k
  have h2i : ∀ i q, i ≠ k → L[i]? = some q → ∃ f, L2[i]? = some { q with fl := f } ∧ (q.st = true → f = q.fl) := fun i q hik hq => by
    have : (L.set k { p with st := true })[i]? = some q := by rw [List.getElem?_set_ne (Ne.symm hik), hq]
    exact hP.same.at_ i q this
  have hsk2 : L2.map Flow.sk = (N.lay h ds).map Flow.sk := hP.same.sk.trans ((sk_set (q := { p with st := true }) hp rfl).trans hI.sk)
  have hsk3 : (L2.set k { p with st := true, fl := p.fl - d }).map Flow.sk = (N.lay h ds).map Flow.sk := (sk_set (q := { p with st := true, fl := p.fl - d }) h2k rfl).trans hsk2
  have hfit3 : Fit (L2.set k { p with st := true, fl := p.fl - d }) := fun q hq => by
    obtain ⟨i, hi⟩ := List.mem_iff_getElem?.1 hq
    by_cases e : k = i
    · subst e
      rw [List.getElem?_set_self (by omega)] at hi
      cases hi
      have := hP.fit.get h2k
      simp only at this ⊢
      omega
    · rw [List.getElem?_set_ne e] at hi
      exact hP.fit.get hi
  have hdv3 : ∀ φ, Flow.dv φ (L2.set k { p with st := true, fl := p.fl - d }) = sumZ ds * (φ 0 - φ N.n) := fun φ => by
    rw [dv_set φ L2 k { p with st := true } { p with st := true, fl := p.fl - d } h2k rfl rfl, hP.dv, dv_set φ L k p { p with st := true } hp rfl rfl, hI.dv φ]
    have e1 : (p.fl - d - p.fl) * (φ p.fr - φ p.to) = - (d * (φ p.fr - φ p.to)) := by rw [show p.fl - d - p.fl = -d by omega, Int.neg_mul]
    simp only [e1, Int.sub_self, Int.zero_mul]
    omega
  have hget3 : ∀ i q, i ≠ k → L[i]? = some q → q.st = true → (L2.set k { p with st := true, fl := p.fl - d })[i]?.map Pi.fl = some q.fl := fun i q hik hq hst => by
    obtain ⟨f, h3, h4⟩ := h2i i q hik hq
    rw [List.getElem?_set_ne (Ne.symm hik), h3]
    simp [h4 hst]
  have hch3 : fls ((L2.set k { p with st := true, fl := p.fl - d }).drop N.tr.length) = ds := by
    rw [← hI.ch]
    refine List.ext_getElem? fun j => ?_
    rw [fls_get, fls_get, List.getElem?_drop, List.getElem?_drop]
    cases hq : L[N.tr.length + j]? with
    | none =>
      rw [List.getElem?_eq_none (by rw [List.length_set]; have := List.getElem?_eq_none_iff.1 hq; omega)]
    | some q => exact hget3 _ q (by omega) hq ((hI.st _ q hq).2 (.inr (by omega)))
  have hfeas := feas_core hl hsk3 hfit3 hdv3 hch3
  refine ⟨h2k, hsk3, hfit3, hdv3, fun i q hq => ?_, hch3, fun j G hj hG hsame f g hf hg => ?_⟩
  · by_cases e : k = i
    · subst e
      rw [List.getElem?_set_self (by omega)] at hq
      cases hq
      simp
    · rw [List.getElem?_set_ne e] at hq
      have hil := (List.getElem?_eq_some_iff.1 hq).1
      obtain ⟨r, hr⟩ : ∃ r, L[i]? = some r := ⟨_, List.getElem?_eq_getElem (by omega)⟩
      obtain ⟨f, h3, _⟩ := h2i i r (Ne.symm e) hr
      rw [hq] at h3
      cases h3
      have := hI.st i r hr
      show r.st = true ↔ _
      rw [this]
      omega
  · have hpre : ∀ i, i < k → (fls ((L2.set k { p with st := true, fl := p.fl - d }).take N.tr.length))[i]? = (fls (L.take N.tr.length))[i]? := fun i hi => by
      rw [fls_get, fls_get, List.getElem?_take, List.getElem?_take, if_pos (by omega), if_pos (by omega)]
      obtain ⟨r, hr⟩ : ∃ r, L[i]? = some r := ⟨_, List.getElem?_eq_getElem (by omega)⟩
      rw [hget3 i r (by omega) hr ((hI.st i r hr).2 (.inl hi)), hr]
      rfl
    by_cases hjk : j < k
    · rw [hpre j hjk] at hf
      exact hI.lo j G hjk hG (fun i hi => (hsame i hi).trans (hpre i (by omega))) f g hf hg
    · obtain rfl : j = k := by omega
      have hq3 : ((L2.set j { p with st := true, fl := p.fl - d }).take N.tr.length)[j]? = some { p with st := true, fl := p.fl - d } := by
        rw [List.getElem?_take, if_pos hk, List.getElem?_set_self (by omega)]
      rw [fls_get, hq3] at hf
      simp at hf
      rcases he with he | ⟨b, m, _, hclo, hto⟩
      · have hgl := (List.getElem?_eq_some_iff.1 hg).1
        have hpm : (pf h N.tr G)[j]? = some ⟨N.tr[j].fr, N.tr[j].to, N.tr[j].cap h, g, false⟩ := by
          simp only [pf, List.getElem?_zipWith, List.getElem?_eq_getElem hk, hg]
        have := hG.fit.get hpm
        simp only at this
        omega
      · have hfr : Rs p.fr b p.fr = true := by simp [Rs]
        have hc := cmp (Rs p.fr b) h j N.tr _ G (take_sk hsk3) hG.len hG.fit hsame (fun i q hji hq => by
          rw [List.getElem?_take] at hq
          split at hq
          · rename_i him
            rw [List.getElem?_set_ne (by omega)] at hq
            have hil := (List.getElem?_eq_some_iff.1 hq).1
            obtain ⟨r, hr⟩ : ∃ r, L[i]? = some r := ⟨_, List.getElem?_eq_getElem (by omega)⟩
            obtain ⟨f', h3, _⟩ := h2i i r (by omega) hr
            rw [hq] at h3
            have hrs : r.st = false := by
              cases hb : r.st with
              | false => rfl
              | true =>
                have := (hI.st i r hr).1 hb
                omega
            cases h3
            exact hclo _ (List.mem_of_getElem? hq) hrs
          · cases hq) _ g hq3 hg hfr hto
        have e1 := hG.dv (ind (Rs p.fr b))
        have e2 := hfeas.dv (ind (Rs p.fr b))
        rw [dv_sk _ h N.tr _ (take_sk hsk3)] at e2
        simp only at hc
        omega
theorem SI.least {N : Net} {h : Bool} {ds : List Int} {L : List Pi} (hl : ds.length = N.ch.length) (hI : SI N h ds N.tr.length L) : N.Least h ds (fls (L.take N.tr.length)) := by
  refine ⟨hI.feas hl, fun k G hG hs f g hf hg => ?_⟩
  have hk := (List.getElem?_eq_some_iff.1 hg).1
  rw [hG.len] at hk
  exact hI.lo k G hk hG hs f g hf hg

/-! ### what can be spared -/
theorem sum_set : ∀ (ds : List Int) (i : Nat) (d s : Int), ds[i]? = some d → sumZ (ds.set i (d + s)) = sumZ ds + s
  | [], i, d, s, h => by simp at h
  | x :: l, 0, d, s, h => by
    simp at h
    subst h
    simp only [List.set_cons_zero, sumZ]
    omega
  | x :: l, i + 1, d, s, h => by
    have := sum_set l i d s (by simpa using h)
    simp only [List.set_cons_succ, sumZ]
    omega
theorem dem_set (φ : Nat → Int) : ∀ (ch : List Nat) (ds : List Int) (i c : Nat) (d s : Int), ch[i]? = some c → ds[i]? = some d → dem φ (ch.zip (ds.set i (d + s))) = dem φ (ch.zip ds) + s * (φ 0 - φ c)
  | [], _, i, c, d, s, h, _ => by simp at h
  | _ :: _, [], i, c, d, s, _, h => by simp at h
  | c' :: ch, x :: l, 0, c, d, s, h, h2 => by
    simp at h h2
    subst h h2
    simp only [List.set_cons_zero, List.zip_cons_cons, dem, Int.add_mul]
    omega
  | c' :: ch, x :: l, i + 1, c, d, s, h, h2 => by
    have := dem_set φ ch l i c d s (by simpa using h) (by simpa using h2)
    simp only [List.set_cons_succ, List.zip_cons_cons, dem, this]
    omega
/-- The most that one chest can have besides. -/
def Net.Sp (N : Net) (h : Bool) (ds : List Int) (i : Nat) (s : Int) : Prop := ∀ d, ds[i]? = some d → (∃ F, N.Feas h (ds.set i (d + s)) F) ∧ ∀ s' F, N.Feas h (ds.set i (d + s')) F → s' ≤ s
theorem Net.Sp.uniq {N : Net} {h : Bool} {ds : List Int} {i : Nat} {s t d : Int} (hd : ds[i]? = some d) (a : N.Sp h ds i s) (b : N.Sp h ds i t) : s = t := by
  obtain ⟨⟨F, hF⟩, h1⟩ := a d hd
  obtain ⟨⟨G, hG⟩, h2⟩ := b d hd
  have := h1 t G hG
  have := h2 s F hF
  omega
theorem spare_feas {N : Net} (hN : N.Ok) {h : Bool} {ds : List Int} {L L' L2 : List Pi} {i c : Nat} {s d : Int} (hl : ds.length = N.ch.length) (hp : Pushed (N.lay h ds) L 0 N.n (sumZ ds)) (hff : L'.map ff = L.map ff) (hst : ∀ i p, L'[i]? = some p → (p.st = true ↔ N.tr.length ≤ i))
    (hP : Pushed L' L2 0 c s) (hc : N.ch[i]? = some c) (hd : ds[i]? = some d) : N.Feas h (ds.set i (d + s)) (fls (L2.take N.tr.length)) ∧ ∀ φ, dv φ (L2.take N.tr.length) = dem φ (N.ch.zip ds) + s * (φ 0 - φ c) := by
  have hsk2 : L2.map sk = (N.lay h ds).map sk := hP.same.sk.trans ((ff_sk hff).trans hp.same.sk)
  have hch2 : fls (L2.drop N.tr.length) = ds := by
    have h0 : fls (L'.drop N.tr.length) = ds := by
      have : (L'.drop N.tr.length).map ff = (L.drop N.tr.length).map ff := by rw [List.map_drop, hff, ← List.map_drop]
      rw [ff_fls this]
      exact sat_all hN hl hp
    rw [← h0]
    refine List.ext_getElem? fun j => ?_
    rw [fls_get, fls_get, List.getElem?_drop, List.getElem?_drop]
    cases hq : L'[N.tr.length + j]? with
    | none => rw [List.getElem?_eq_none (by have := List.getElem?_eq_none_iff.1 hq; have := hP.same.len; omega)]
    | some q =>
      obtain ⟨f, h3, h4⟩ := hP.same.at_ _ q hq
      rw [h3]
      simp [h4 ((hst _ q hq).2 (by omega))]
  have hdv : ∀ φ, dv φ (L2.take N.tr.length) = dem φ (N.ch.zip ds) + s * (φ 0 - φ c) := fun φ => by
    have h1 := hP.dv φ
    rw [ff_dv φ hff, hp.dv, dv_lay, ← List.take_append_drop N.tr.length L2, dv_app] at h1
    have h2 := dv_chests φ N.n N.ch ds _ hl (drop_sk hsk2) hch2
    omega
  refine ⟨⟨?_, fit_sk h N.tr _ (take_sk hsk2) (fun p hp => hP.fit p (List.mem_of_mem_take hp)), fun φ => ?_⟩, hdv⟩
  · have := len_sk (take_sk hsk2)
    simpa [fls] using this
  · rw [dv_sk φ h N.tr _ (take_sk hsk2), hdv φ, dem_set φ N.ch ds i c d s hc hd]
theorem spare_max {N : Net} (hN : N.Ok) {h : Bool} {ds : List Int} {L L' L2 : List Pi} {i c : Nat} {s d : Int} {b : Nat → Option Stp} (hl : ds.length = N.ch.length) (hp : Pushed (N.lay h ds) L 0 N.n (sumZ ds)) (hff : L'.map ff = L.map ff) (hst : ∀ i p, L'[i]? = some p → (p.st = true ↔ N.tr.length ≤ i))
    (hP : Pushed L' L2 0 c s) (hc : N.ch[i]? = some c) (hd : ds[i]? = some d) (hclo : Clo (Rs 0 b) L2) (hto : Rs 0 b c = false) : N.Sp h ds i s := by
  intro d' hd'
  rw [hd] at hd'
  cases hd'
  obtain ⟨hF, hdv⟩ := spare_feas hN hl hp hff hst hP hc hd
  have hsk2 : L2.map sk = (N.lay h ds).map sk := hP.same.sk.trans ((ff_sk hff).trans hp.same.sk)
  refine ⟨⟨_, hF⟩, fun s' G hG => ?_⟩
  have h0 : Rs 0 b 0 = true := by simp [Rs]
  have h1 := rest_le (Rs 0 b) h N.tr (L2.take N.tr.length) G (take_sk hsk2) hG.len hG.fit fun p hpm => by
    obtain ⟨j, hj⟩ := List.mem_iff_getElem?.1 hpm
    rw [List.getElem?_take] at hj
    split at hj
    · rename_i hjm
      have hil := (List.getElem?_eq_some_iff.1 hj).1
      obtain ⟨r, hr⟩ : ∃ r, L'[j]? = some r := ⟨_, List.getElem?_eq_getElem (by have := hP.same.len; omega)⟩
      obtain ⟨f', h3, _⟩ := hP.same.at_ j r hr
      rw [hj] at h3
      have hrs : r.st = false := by
        cases hb : r.st with
        | false => rfl
        | true =>
          have := (hst j r hr).1 hb
          omega
      cases h3
      exact hclo _ (List.mem_of_getElem? hj) hrs
    · cases hj
  rw [hG.dv, hdv, dem_set _ N.ch ds i c d s' hc hd, ind_t h0, ind_f hto] at h1
  omega
end Go.Flow
