/- Demands, least flows, what can be spared: plain laws. No program in sight. -/
import Derived.Test.YtpkbpeeelpgmcaaGreatXNwNetM
namespace Go.Flow

def sumZ : List Int → Int
  | [] => 0
  | x :: l => x + sumZ l
def sk (p : Pi) : Nat × Nat × Int := (p.fr, p.to, p.mo)
theorem Same.sk {L L' : List Pi} (h : Same L L') : L'.map Flow.sk = L.map Flow.sk := by
  refine List.ext_getElem? fun i => ?_
  rw [List.getElem?_map, List.getElem?_map]
  cases hp : L[i]? with
  | none =>
    have h1 := List.getElem?_eq_none_iff.1 hp
    rw [List.getElem?_eq_none (by have := h.len; omega)]
  | some p =>
    obtain ⟨f, hf, _⟩ := h.at_ i p hp
    rw [hf]
    rfl
theorem sk_set {L : List Pi} {i : Nat} {p q : Pi} (hp : L[i]? = some p) (hq : sk q = sk p) : (L.set i q).map sk = L.map sk := by
  refine List.ext_getElem? fun j => ?_
  rw [List.getElem?_map, List.getElem?_map]
  by_cases e : i = j
  · subst e
    have hlt := (List.getElem?_eq_some_iff.1 hp).1
    rw [List.getElem?_set_self hlt, hp]
    simp [hq]
  · rw [List.getElem?_set_ne e]
theorem sk_at {L K : List Pi} (h : L.map sk = K.map sk) {i : Nat} {p : Pi} (hp : L[i]? = some p) : ∃ q, K[i]? = some q ∧ q.fr = p.fr ∧ q.to = p.to ∧ q.mo = p.mo := by
  have h1 : (L.map sk)[i]? = some (sk p) := by rw [List.getElem?_map, hp]; rfl
  rw [h, List.getElem?_map] at h1
  obtain ⟨q, hq, e⟩ := Option.map_eq_some_iff.1 h1
  unfold sk at e
  simp only [Prod.mk.injEq] at e
  exact ⟨q, hq, e.1, e.2.1, e.2.2⟩
theorem cut_sk {R : Nat → Bool} : ∀ {L K : List Pi}, L.map sk = K.map sk → cut R L = cut R K
  | [], [], _ => rfl
  | [], _ :: _, h => by simp at h
  | _ :: _, [], h => by simp at h
  | p :: l, q :: k, h => by
    simp only [List.map_cons, List.cons.injEq] at h
    obtain ⟨h1, h2⟩ := h
    unfold sk at h1
    simp only [Prod.mk.injEq] at h1
    rw [cut, cut, cut_sk h2, h1.1, h1.2.1, h1.2.2]
theorem len_sk {L K : List Pi} (h : L.map sk = K.map sk) : L.length = K.length := by
  have := congrArg List.length h
  simpa using this
theorem lay_length {N : Net} {h : Bool} {ds : List Int} (hl : ds.length = N.ch.length) : (N.lay h ds).length = N.tr.length + N.ch.length := by
  simp [Net.lay, hl]
theorem lay_trunk {N : Net} {h : Bool} {ds : List Int} {i : Nat} (hi : i < N.tr.length) : (N.lay h ds)[i]? = (N.tr.map (tp h))[i]? := by
  rw [Net.lay, List.getElem?_append_left (by simpa using hi)]
/-- The set of all nodes but the drain. -/
theorem wt_all {N : Net} (hN : N.Ok) (h : Bool) {ds : List Int} (hl : ds.length = N.ch.length) : N.A0 (fun v => decide (v ≠ N.n)) ∧ N.wt h ds (fun v => decide (v ≠ N.n)) = sumZ ds := by
  have hn1 := hN.n1
  refine ⟨⟨by simp; omega, by simp⟩, ?_⟩
  have h1 : N.out h (fun v => decide (v ≠ N.n)) = 0 := by
    have key : ∀ tr : List Tk, (∀ t ∈ tr, t.to ≠ N.n) → cut (fun v => decide (v ≠ N.n)) (tr.map (tp h)) = 0 := by
      intro tr
      induction tr with
      | nil => intro _; rfl
      | cons t l ih =>
        intro ht
        rw [List.map_cons, cut, ih fun u hu => ht u (by simp [hu])]
        have : decide ((tp h t).to ≠ N.n) = true := decide_eq_true (ht t (by simp))
        simp [this]
    exact key _ fun t ht => by have := hN.tk t ht; omega
  have h2 : ∀ (ch : List Nat) (ds : List Int), ds.length = ch.length → (∀ c ∈ ch, c ≠ N.n) → held (fun v => decide (v ≠ N.n)) (ch.zip ds) = sumZ ds := by
    intro ch
    induction ch with
    | nil =>
      intro ds hl _
      cases ds with
      | nil => rfl
      | cons d l => simp at hl
    | cons c l ih =>
      intro ds hl hc
      cases ds with
      | nil => simp at hl
      | cons d m =>
        rw [List.zip_cons_cons, held, ih m (by simpa using hl) (fun x hx => hc x (by simp [hx]))]
        have : decide (c ≠ N.n) = true := decide_eq_true (hc c (by simp))
        simp [this, sumZ]
  rw [Net.wt, h1, h2 N.ch ds hl fun c hc => by have := hN.ck c hc; omega]
  omega
/-- Nothing that is given weighs less than what is asked. -/
theorem dem_ind (R : Nat → Bool) (h0 : R 0 = true) : ∀ (ch : List Nat) (ds : List Int), ds.length = ch.length → dem (ind R) (ch.zip ds) + held R (ch.zip ds) = sumZ ds
  | [], [], _ => rfl
  | [], _ :: _, h => by simp at h
  | _ :: _, [], h => by simp at h
  | c :: ch, d :: ds, h => by
    have ih := dem_ind R h0 ch ds (by simpa using h)
    rw [List.zip_cons_cons, dem, held, sumZ, ind_t h0]
    cases hc : R c
    · rw [ind_f hc]
      simp
      omega
    · rw [ind_t hc]
      simp
      omega
theorem pf_sk (h : Bool) : ∀ (tr : List Tk) (F : List Int), F.length = tr.length → (pf h tr F).map sk = (tr.map (tp h)).map sk
  | [], [], _ => rfl
  | [], _ :: _, hl => by simp at hl
  | _ :: _, [], hl => by simp at hl
  | t :: tr, f :: F, hl => by
    have := pf_sk h tr F (by simpa using hl)
    simp only [pf, List.zipWith_cons_cons, List.map_cons] at this ⊢
    rw [this]
    rfl
theorem feas_wt {N : Net} {h : Bool} {ds F : List Int} (hl : ds.length = N.ch.length) (hF : N.Feas h ds F) {S : Nat → Bool} (hS : N.A0 S) : sumZ ds ≤ N.wt h ds S := by
  have h1 := weak S _ hF.fit
  rw [hF.dv, cut_sk (pf_sk h N.tr F hF.len)] at h1
  have h2 := dem_ind S hS.1 N.ch ds hl
  show _ ≤ cut S _ + _
  omega
/-- Flows in pipes, and their numbers. -/
def fls (L : List Pi) : List Int := L.map Pi.fl
theorem dv_sk (φ : Nat → Int) (h : Bool) : ∀ (tr : List Tk) (T : List Pi), T.map sk = (tr.map (tp h)).map sk → dv φ (pf h tr (fls T)) = dv φ T
  | [], [], _ => rfl
  | [], _ :: _, hl => by simp at hl
  | _ :: _, [], hl => by simp at hl
  | t :: tr, p :: T, hl => by
    simp only [List.map_cons, List.cons.injEq] at hl
    obtain ⟨h1, h2⟩ := hl
    have := dv_sk φ h tr T h2
    unfold sk tp at h1
    simp only [Prod.mk.injEq] at h1
    simp only [pf, fls, List.map_cons, List.zipWith_cons_cons, dv] at this ⊢
    rw [this, h1.1, h1.2.1]
theorem fit_sk (h : Bool) : ∀ (tr : List Tk) (T : List Pi), T.map sk = (tr.map (tp h)).map sk → Fit T → Fit (pf h tr (fls T))
  | [], [], _, _ => fun p hp => by cases hp
  | [], _ :: _, hl, _ => by simp at hl
  | _ :: _, [], hl, _ => by simp at hl
  | t :: tr, p :: T, hl, hf => by
    simp only [List.map_cons, List.cons.injEq] at hl
    obtain ⟨h1, h2⟩ := hl
    unfold sk tp at h1
    simp only [Prod.mk.injEq] at h1
    intro q hq
    simp only [pf, fls, List.map_cons, List.zipWith_cons_cons] at hq
    rcases List.mem_cons.1 hq with rfl | hq
    · have := hf.cons.1
      show 0 ≤ p.fl ∧ p.fl ≤ t.cap h
      rw [h1.2.2] at this
      exact this
    · exact fit_sk h tr T h2 hf.cons.2 q hq
theorem dv_chests (φ : Nat → Int) (n : Nat) : ∀ (ch : List Nat) (ds : List Int) (C : List Pi), ds.length = ch.length → C.map sk = ((ch.zip ds).map (cp n)).map sk → fls C = ds → dv φ C = sumZ ds * (φ 0 - φ n) - dem φ (ch.zip ds)
  | [], [], [], _, _, _ => by simp [dv, sumZ, dem]
  | [], _ :: _, _, h, _, _ => by simp at h
  | _ :: _, [], _, h, _, _ => by simp at h
  | [], [], _ :: _, _, h, _ => by simp at h
  | _ :: _, _ :: _, [], _, h, _ => by simp at h
  | c :: ch, d :: ds, p :: C, hl, hs, hf => by
    simp only [List.zip_cons_cons, List.map_cons, List.cons.injEq] at hs
    simp only [fls, List.map_cons, List.cons.injEq] at hf
    have ih := dv_chests φ n ch ds C (by simpa using hl) hs.2 hf.2
    have h1 := hs.1
    unfold sk cp at h1
    simp only [Prod.mk.injEq] at h1
    rw [List.zip_cons_cons, dv, dem, sumZ, ih, hf.1, h1.1, h1.2.1, Int.add_mul]
    have e : d * (φ c - φ n) = d * (φ 0 - φ n) - d * (φ 0 - φ c) := by rw [← Int.mul_sub]; congr 1; omega
    rw [e]
    show _ = _ - (d * (φ 0 - φ c) + _)
    omega
/-- The state while the least flow is sought: the first k trunks are fixed, and the chests. -/
structure SI (N : Net) (h : Bool) (ds : List Int) (k : Nat) (L : List Pi) : Prop where
  sk : L.map Flow.sk = (N.lay h ds).map Flow.sk
  fit : Fit L
  dv : ∀ φ, dv φ L = sumZ ds * (φ 0 - φ N.n)
  st : ∀ i p, L[i]? = some p → (p.st = true ↔ i < k ∨ N.tr.length ≤ i)
  ch : fls (L.drop N.tr.length) = ds
  lo : ∀ (j : Nat) (G : List Int), j < k → N.Feas h ds G → (∀ i, i < j → G[i]? = (fls (L.take N.tr.length))[i]?) → ∀ f g : Int, (fls (L.take N.tr.length))[j]? = some f → G[j]? = some g → f ≤ g
theorem take_sk {N : Net} {h : Bool} {ds : List Int} {L : List Pi} (hs : L.map sk = (N.lay h ds).map sk) : (L.take N.tr.length).map sk = (N.tr.map (tp h)).map sk := by
  rw [List.map_take, hs, ← List.map_take, Net.lay, List.take_left' (by simp)]
theorem drop_sk {N : Net} {h : Bool} {ds : List Int} {L : List Pi} (hs : L.map sk = (N.lay h ds).map sk) : (L.drop N.tr.length).map sk = ((N.ch.zip ds).map (cp N.n)).map sk := by
  rw [List.map_drop, hs, ← List.map_drop, Net.lay, List.drop_left' (by simp)]
theorem SI.feas {N : Net} {h : Bool} {ds : List Int} {k : Nat} {L : List Pi} (hl : ds.length = N.ch.length) (hI : SI N h ds k L) : N.Feas h ds (fls (L.take N.tr.length)) := by
  have hs := take_sk hI.sk
  refine ⟨?_, fit_sk h N.tr _ hs (fun p hp => hI.fit p (List.mem_of_mem_take hp)), fun φ => ?_⟩
  · have := len_sk hs
    simpa [fls] using this
  · rw [dv_sk φ h N.tr _ hs]
    have h1 := hI.dv φ
    rw [← List.take_append_drop N.tr.length L, dv_app] at h1
    have h2 := dv_chests φ N.n N.ch ds _ hl (drop_sk hI.sk) hI.ch
    omega
/-- When the chests are all given what they ask, all is in the first flow. -/
theorem sat_eq : ∀ (C : List Pi) (ds : List Int), C.length = ds.length → (∀ (i : Nat) (p : Pi) (d : Int), C[i]? = some p → ds[i]? = some d → p.fl ≤ d) → sumZ (fls C) = sumZ ds → fls C = ds
  | [], [], _, _, _ => rfl
  | [], _ :: _, h, _, _ => by simp at h
  | _ :: _, [], h, _, _ => by simp at h
  | p :: C, d :: ds, hl, hle, hs => by
    have h0 := hle 0 p d rfl rfl
    have key : ∀ (C : List Pi) (ds : List Int), C.length = ds.length → (∀ (i : Nat) (p : Pi) (d : Int), C[i]? = some p → ds[i]? = some d → p.fl ≤ d) → sumZ (fls C) ≤ sumZ ds := by
      intro C
      induction C with
      | nil =>
        intro ds hl _
        cases ds with
        | nil => exact Int.le_refl _
        | cons _ _ => simp at hl
      | cons q C ih =>
        intro ds hl hle
        cases ds with
        | nil => simp at hl
        | cons e ds =>
          have h1 := hle 0 q e rfl rfl
          have h2 := ih ds (by simpa using hl) fun i p d hp hd => hle (i + 1) p d (by simpa using hp) (by simpa using hd)
          simp only [fls, List.map_cons, sumZ] at h2 ⊢
          omega
    have hle' : ∀ (i : Nat) (p : Pi) (d : Int), C[i]? = some p → ds[i]? = some d → p.fl ≤ d := fun i p d hp hd => hle (i + 1) p d (by simpa using hp) (by simpa using hd)
    have h1 := key C ds (by simpa using hl) hle'
    simp only [fls, List.map_cons, sumZ] at hs h1 ⊢
    have e : p.fl = d := by omega
    have := sat_eq C ds (by simpa using hl) hle' (by simp only [fls]; omega)
    simp only [fls] at this
    rw [e, this]
theorem dv_into {n : Nat} : ∀ (C : List Pi), (∀ p ∈ C, p.fr ≠ n ∧ p.to = n) → dv (ind fun v => decide (v ≠ n)) C = sumZ (fls C)
  | [], _ => rfl
  | p :: C, h => by
    have ih := dv_into C fun q hq => h q (by simp [hq])
    have hp := h p (by simp)
    have h1 : ind (fun v => decide (v ≠ n)) p.fr = 1 := ind_t (by simp [hp.1])
    have h2 : ind (fun v => decide (v ≠ n)) p.to = 0 := ind_f (by simp [hp.2])
    rw [dv, ih, h1, h2]
    simp [fls, sumZ]
theorem dv_within {n : Nat} : ∀ (T : List Pi), (∀ p ∈ T, p.fr ≠ n ∧ p.to ≠ n) → dv (ind fun v => decide (v ≠ n)) T = 0
  | [], _ => rfl
  | p :: T, h => by
    have ih := dv_within T fun q hq => h q (by simp [hq])
    have hp := h p (by simp)
    have h1 : ind (fun v => decide (v ≠ n)) p.fr = 1 := ind_t (by simp [hp.1])
    have h2 : ind (fun v => decide (v ≠ n)) p.to = 1 := ind_t (by simp [hp.2])
    rw [dv, ih, h1, h2]
    simp
theorem sat_all {N : Net} (hN : N.Ok) {h : Bool} {ds : List Int} {L : List Pi} (hl : ds.length = N.ch.length) (hp : Pushed (N.lay h ds) L 0 N.n (sumZ ds)) : fls (L.drop N.tr.length) = ds := by
  have hs := hp.same.sk
  have h1 := hp.dv (ind fun v => decide (v ≠ N.n))
  rw [dv_lay, ind_t (by have := hN.n1; simp; omega), ind_f (by simp), ← List.take_append_drop N.tr.length L, dv_app] at h1
  have hT : dv (ind fun v => decide (v ≠ N.n)) (L.take N.tr.length) = 0 := dv_within _ fun p hpm => by
    obtain ⟨i, hi⟩ := List.mem_iff_getElem?.1 hpm
    obtain ⟨q, hq, e1, e2, _⟩ := sk_at (take_sk hs) hi
    obtain ⟨t, ht, rfl⟩ := List.mem_map.1 (List.mem_of_getElem? hq)
    have := hN.tk t ht
    have f1 : t.fr = p.fr := e1
    have f2 : t.to = p.to := e2
    omega
  have hC : ∀ (i : Nat) p, (L.drop N.tr.length)[i]? = some p → ∃ x, (N.ch.zip ds)[i]? = some x ∧ p.fr = x.1 ∧ p.to = N.n ∧ p.mo = x.2 := fun i p hi => by
    obtain ⟨q, hq, e1, e2, e3⟩ := sk_at (drop_sk hs) hi
    rw [List.getElem?_map] at hq
    obtain ⟨x, hx, rfl⟩ := Option.map_eq_some_iff.1 hq
    exact ⟨x, hx, e1.symm, e2.symm, e3.symm⟩
  have hC2 := dv_into (n := N.n) (L.drop N.tr.length) fun p hpm => by
    obtain ⟨i, hi⟩ := List.mem_iff_getElem?.1 hpm
    obtain ⟨x, hx, e1, e2, _⟩ := hC i p hi
    have := hN.ck x.1 (mem_zip_fst (List.mem_of_getElem? hx))
    exact ⟨by omega, e2⟩
  refine sat_eq _ _ ?_ (fun i p d hi hd => ?_) (by omega)
  · have := len_sk (drop_sk hs)
    rw [this]
    simp [hl]
  · obtain ⟨x, hx, _, _, e3⟩ := hC i p hi
    have hz := (List.getElem?_zip_eq_some.1 hx).2
    rw [hd] at hz
    cases hz
    have := hp.fit p (List.mem_of_mem_drop (List.mem_of_getElem? hi))
    omega
end Go.Flow
