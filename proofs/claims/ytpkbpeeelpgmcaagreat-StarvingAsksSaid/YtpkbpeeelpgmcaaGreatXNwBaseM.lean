/- Demands, least flows, what can be spared: plain laws. No program in sight. · A queue: a slice of the call's own that begins anywhere in its block. No program in sight. · Chapter 14: pipes and webs in memory; walks of link and drain. -/
import Derived.Maps.AppendAt
import Derived.ArgAppend
import Derived.Test.YtpkbpeeelpgmcaaGreatProg
import Derived.KernelRfl
import Derived.Test.YtpkbpeeelpgmcaaGreatXNwNetM
import Derived.Test.YtpkbpeeelpgmcaaGreatXLibRowM
namespace Go.Flow

def sumZ : List Int → Int
  | [] => 0
  | x :: l => x + sumZ l
def sk (p : Pi) : Nat × Nat × Int := (p.fr, p.to, p.mo)
theorem Same.sk {L L' : List Pi} (h : Same L L') : L'.map Flow.sk = L.map Flow.sk := by
  refine List.ext_getElem? fun i => ?_
  rw [List.getElem?_map, List.getElem?_map]
  cases hp : L[i]? with
  | none =>
    have h1 := List.getElem?_eq_none_iff.1 hp
    rw [List.getElem?_eq_none (by have := h.len; omega)]
  | some p =>
    obtain ⟨f, hf, _⟩ := h.at_ i p hp
    rw [hf]
    rfl
theorem sk_set {L : List Pi} {i : Nat} {p q : Pi} (hp : L[i]? = some p) (hq : sk q = sk p) : (L.set i q).map sk = L.map sk := by
  refine List.ext_getElem? fun j => ?_
  rw [List.getElem?_map, List.getElem?_map]
  by_cases e : i = j
  · subst e
    have hlt := (List.getElem?_eq_some_iff.1 hp).1
    rw [List.getElem?_set_self hlt, hp]
    simp [hq]
  · rw [List.getElem?_set_ne e]
theorem sk_at {L K : List Pi} (h : L.map sk = K.map sk) {i : Nat} {p : Pi} (hp : L[i]? = some p) : ∃ q, K[i]? = some q ∧ q.fr = p.fr ∧ q.to = p.to ∧ q.mo = p.mo := by
  have h1 : (L.map sk)[i]? = some (sk p) := by rw [List.getElem?_map, hp]; rfl
  rw [h, List.getElem?_map] at h1
  obtain ⟨q, hq, e⟩ := Option.map_eq_some_iff.1 h1
  unfold sk at e
  simp only [Prod.mk.injEq] at e
  exact ⟨q, hq, e.1, e.2.1, e.2.2⟩
theorem cut_sk {R : Nat → Bool} : ∀ {L K : List Pi}, L.map sk = K.map sk → cut R L = cut R K
  | [], [], _ => rfl
  | [], _ :: _, h => by simp at h
  | _ :: _, [], h => by simp at h
  | p :: l, q :: k, h => by
    simp only [List.map_cons, List.cons.injEq] at h
    obtain ⟨h1, h2⟩ := h
    unfold sk at h1
    simp only [Prod.mk.injEq] at h1
    rw [cut, cut, cut_sk h2, h1.1, h1.2.1, h1.2.2]
theorem len_sk {L K : List Pi} (h : L.map sk = K.map sk) : L.length = K.length := by
  have := congrArg List.length h
  simpa using this
theorem lay_length {N : Net} {h : Bool} {ds : List Int} (hl : ds.length = N.ch.length) : (N.lay h ds).length = N.tr.length + N.ch.length := by
  simp [Net.lay, hl]
theorem lay_trunk {N : Net} {h : Bool} {ds : List Int} {i : Nat} (hi : i < N.tr.length) : (N.lay h ds)[i]? = (N.tr.map (tp h))[i]? := by
  rw [Net.lay, List.getElem?_append_left (by simpa using hi)]
/-- The set of all nodes but the drain. -/
theorem wt_all {N : Net} (hN : N.Ok) (h : Bool) {ds : List Int} (hl : ds.length = N.ch.length) : N.A0 (fun v => decide (v ≠ N.n)) ∧ N.wt h ds (fun v => decide (v ≠ N.n)) = sumZ ds := by
  have hn1 := hN.n1
  refine ⟨⟨by simp; omega, by simp⟩, ?_⟩
  have h1 : N.out h (fun v => decide (v ≠ N.n)) = 0 := by
    have key : ∀ tr : List Tk, (∀ t ∈ tr, t.to ≠ N.n) → cut (fun v => decide (v ≠ N.n)) (tr.map (tp h)) = 0 := by
      intro tr
      induction tr with
      | nil => intro _; rfl
      | cons t l ih =>
        intro ht
        rw [List.map_cons, cut, ih fun u hu => ht u (by simp [hu])]
        have : decide ((tp h t).to ≠ N.n) = true := decide_eq_true (ht t (by simp))
        simp [this]
    exact key _ fun t ht => by have := hN.tk t ht; omega
  have h2 : ∀ (ch : List Nat) (ds : List Int), ds.length = ch.length → (∀ c ∈ ch, c ≠ N.n) → held (fun v => decide (v ≠ N.n)) (ch.zip ds) = sumZ ds := by
    intro ch
    induction ch with
    | nil =>
      intro ds hl _
      cases ds with
      | nil => rfl
      | cons d l => simp at hl
    | cons c l ih =>
      intro ds hl hc
      cases ds with
      | nil => simp at hl
      | cons d m =>
        rw [List.zip_cons_cons, held, ih m (by simpa using hl) (fun x hx => hc x (by simp [hx]))]
        have : decide (c ≠ N.n) = true := decide_eq_true (hc c (by simp))
        simp [this, sumZ]
  rw [Net.wt, h1, h2 N.ch ds hl fun c hc => by have := hN.ck c hc; omega]
  omega
/-- Nothing that is given weighs less than what is asked. -/
theorem dem_ind (R : Nat → Bool) (h0 : R 0 = true) : ∀ (ch : List Nat) (ds : List Int), ds.length = ch.length → dem (ind R) (ch.zip ds) + held R (ch.zip ds) = sumZ ds
  | [], [], _ => rfl
  | [], _ :: _, h => by simp at h
  | _ :: _, [], h => by simp at h
  | c :: ch, d :: ds, h => by
    have ih := dem_ind R h0 ch ds (by simpa using h)
    rw [List.zip_cons_cons, dem, held, sumZ, ind_t h0]
    cases hc : R c
    · rw [ind_f hc]
      simp
      omega
    · rw [ind_t hc]
      simp
      omega
theorem pf_sk (h : Bool) : ∀ (tr : List Tk) (F : List Int), F.length = tr.length → (pf h tr F).map sk = (tr.map (tp h)).map sk
  | [], [], _ => rfl
  | [], _ :: _, hl => by simp at hl
  | _ :: _, [], hl => by simp at hl
  | t :: tr, f :: F, hl => by
    have := pf_sk h tr F (by simpa using hl)
    simp only [pf, List.zipWith_cons_cons, List.map_cons] at this ⊢
    rw [this]
    rfl
theorem feas_wt {N : Net} {h : Bool} {ds F : List Int} (hl : ds.length = N.ch.length) (hF : N.Feas h ds F) {S : Nat → Bool} (hS : N.A0 S) : sumZ ds ≤ N.wt h ds S := by
  have h1 := weak S _ hF.fit
  rw [hF.dv, cut_sk (pf_sk h N.tr F hF.len)] at h1
  have h2 := dem_ind S hS.1 N.ch ds hl
  show _ ≤ cut S _ + _
  omega
/-- Flows in pipes, and their numbers. -/
def fls (L : List Pi) : List Int := L.map Pi.fl
theorem dv_sk (φ : Nat → Int) (h : Bool) : ∀ (tr : List Tk) (T : List Pi), T.map sk = (tr.map (tp h)).map sk → dv φ (pf h tr (fls T)) = dv φ T
  | [], [], _ => rfl
  | [], _ :: _, hl => by simp at hl
  | _ :: _, [], hl => by simp at hl
  | t :: tr, p :: T, hl => by
    simp only [List.map_cons, List.cons.injEq] at hl
    obtain ⟨h1, h2⟩ := hl
    have := dv_sk φ h tr T h2
    unfold sk tp at h1
    simp only [Prod.mk.injEq] at h1
    simp only [pf, fls, List.map_cons, List.zipWith_cons_cons, dv] at this ⊢
    rw [this, h1.1, h1.2.1]
theorem fit_sk (h : Bool) : ∀ (tr : List Tk) (T : List Pi), T.map sk = (tr.map (tp h)).map sk → Fit T → Fit (pf h tr (fls T))
  | [], [], _, _ => fun p hp => by cases hp
  | [], _ :: _, hl, _ => by simp at hl
  | _ :: _, [], hl, _ => by simp at hl
  | t :: tr, p :: T, hl, hf => by
    simp only [List.map_cons, List.cons.injEq] at hl
    obtain ⟨h1, h2⟩ := hl
    unfold sk tp at h1
    simp only [Prod.mk.injEq] at h1
    intro q hq
    simp only [pf, fls, List.map_cons, List.zipWith_cons_cons] at hq
    rcases List.mem_cons.1 hq with rfl | hq
    · have := hf.cons.1
      show 0 ≤ p.fl ∧ p.fl ≤ t.cap h
      rw [h1.2.2] at this
      exact this
    · exact fit_sk h tr T h2 hf.cons.2 q hq
theorem dv_chests (φ : Nat → Int) (n : Nat) : ∀ (ch : List Nat) (ds : List Int) (C : List Pi), ds.length = ch.length → C.map sk = ((ch.zip ds).map (cp n)).map sk → fls C = ds → dv φ C = sumZ ds * (φ 0 - φ n) - dem φ (ch.zip ds)
  | [], [], [], _, _, _ => by simp [dv, sumZ, dem]
  | [], _ :: _, _, h, _, _ => by simp at h
  | _ :: _, [], _, h, _, _ => by simp at h
  | [], [], _ :: _, _, h, _ => by simp at h
  | _ :: _, _ :: _, [], _, h, _ => by simp at h
  | c :: ch, d :: ds, p :: C, hl, hs, hf => by
    simp only [List.zip_cons_cons, List.map_cons, List.cons.injEq] at hs
    simp only [fls, List.map_cons, List.cons.injEq] at hf
    have ih := dv_chests φ n ch ds C (by simpa using hl) hs.2 hf.2
    have h1 := hs.1
    unfold sk cp at h1
    simp only [Prod.mk.injEq] at h1
    rw [List.zip_cons_cons, dv, dem, sumZ, ih, hf.1, h1.1, h1.2.1, Int.add_mul]
    have e : d * (φ c - φ n) = d * (φ 0 - φ n) - d * (φ 0 - φ c) := by rw [← Int.mul_sub]; congr 1; omega
    rw [e]
    show _ = _ - (d * (φ 0 - φ c) + _)
    omega
/-- The state while the least flow is sought: the first k trunks are fixed, and the chests. -/
structure SI (N : Net) (h : Bool) (ds : List Int) (k : Nat) (L : List Pi) : Prop where
  sk : L.map Flow.sk = (N.lay h ds).map Flow.sk
  fit : Fit L
  dv : ∀ φ, dv φ L = sumZ ds * (φ 0 - φ N.n)
  st : ∀ i p, L[i]? = some p → (p.st = true ↔ i < k ∨ N.tr.length ≤ i)
  ch : fls (L.drop N.tr.length) = ds
  lo : ∀ (j : Nat) (G : List Int), j < k → N.Feas h ds G → (∀ i, i < j → G[i]? = (fls (L.take N.tr.length))[i]?) → ∀ f g : Int, (fls (L.take N.tr.length))[j]? = some f → G[j]? = some g → f ≤ g
theorem take_sk {N : Net} {h : Bool} {ds : List Int} {L : List Pi} (hs : L.map sk = (N.lay h ds).map sk) : (L.take N.tr.length).map sk = (N.tr.map (tp h)).map sk := by
  rw [List.map_take, hs, ← List.map_take, Net.lay, List.take_left' (by simp)]
theorem drop_sk {N : Net} {h : Bool} {ds : List Int} {L : List Pi} (hs : L.map sk = (N.lay h ds).map sk) : (L.drop N.tr.length).map sk = ((N.ch.zip ds).map (cp N.n)).map sk := by
  rw [List.map_drop, hs, ← List.map_drop, Net.lay, List.drop_left' (by simp)]
theorem SI.feas {N : Net} {h : Bool} {ds : List Int} {k : Nat} {L : List Pi} (hl : ds.length = N.ch.length) (hI : SI N h ds k L) : N.Feas h ds (fls (L.take N.tr.length)) := by
  have hs := take_sk hI.sk
  refine ⟨?_, fit_sk h N.tr _ hs (fun p hp => hI.fit p (List.mem_of_mem_take hp)), fun φ => ?_⟩
  · have := len_sk hs
    simpa [fls] using this
  · rw [dv_sk φ h N.tr _ hs]
    have h1 := hI.dv φ
    rw [← List.take_append_drop N.tr.length L, dv_app] at h1
    have h2 := dv_chests φ N.n N.ch ds _ hl (drop_sk hI.sk) hI.ch
    omega
/-- When the chests are all given what they ask, all is in the first flow. -/
theorem sat_eq : ∀ (C : List Pi) (ds : List Int), C.length = ds.length → (∀ (i : Nat) (p : Pi) (d : Int), C[i]? = some p → ds[i]? = some d → p.fl ≤ d) → sumZ (fls C) = sumZ ds → fls C = ds
  | [], [], _, _, _ => rfl
  | [], _ :: _, h, _, _ => by simp at h
  | _ :: _, [], h, _, _ => by simp at h
  | p :: C, d :: ds, hl, hle, hs => by
    have h0 := hle 0 p d rfl rfl
    have key : ∀ (C : List Pi) (ds : List Int), C.length = ds.length → (∀ (i : Nat) (p : Pi) (d : Int), C[i]? = some p → ds[i]? = some d → p.fl ≤ d) → sumZ (fls C) ≤ sumZ ds := by
      intro C
      induction C with
      | nil =>
        intro ds hl _
        cases ds with
        | nil => exact Int.le_refl _
        | cons _ _ => simp at hl
      | cons q C ih =>
        intro ds hl hle
        cases ds with
        | nil => simp at hl
        | cons e ds =>
          have h1 := hle 0 q e rfl rfl
          have h2 := ih ds (by simpa using hl) fun i p d hp hd => hle (i + 1) p d (by simpa using hp) (by simpa using hd)
          simp only [fls, List.map_cons, sumZ] at h2 ⊢
          omega
    have hle' : ∀ (i : Nat) (p : Pi) (d : Int), C[i]? = some p → ds[i]? = some d → p.fl ≤ d := fun i p d hp hd => hle (i + 1) p d (by simpa using hp) (by simpa using hd)
    have h1 := key C ds (by simpa using hl) hle'
    simp only [fls, List.map_cons, sumZ] at hs h1 ⊢
    have e : p.fl = d := by omega
    have := sat_eq C ds (by simpa using hl) hle' (by simp only [fls]; omega)
    simp only [fls] at this
    rw [e, this]
theorem dv_into {n : Nat} : ∀ (C : List Pi), (∀ p ∈ C, p.fr ≠ n ∧ p.to = n) → dv (ind fun v => decide (v ≠ n)) C = sumZ (fls C)
  | [], _ => rfl
  | p :: C, h => by
    have ih := dv_into C fun q hq => h q (by simp [hq])
    have hp := h p (by simp)
    have h1 : ind (fun v => decide (v ≠ n)) p.fr = 1 := ind_t (by simp [hp.1])
    have h2 : ind (fun v => decide (v ≠ n)) p.to = 0 := ind_f (by simp [hp.2])
    rw [dv, ih, h1, h2]
    simp [fls, sumZ]
theorem dv_within {n : Nat} : ∀ (T : List Pi), (∀ p ∈ T, p.fr ≠ n ∧ p.to ≠ n) → dv (ind fun v => decide (v ≠ n)) T = 0
  | [], _ => rfl
  | p :: T, h => by
    have ih := dv_within T fun q hq => h q (by simp [hq])
    have hp := h p (by simp)
    have h1 : ind (fun v => decide (v ≠ n)) p.fr = 1 := ind_t (by simp [hp.1])
    have h2 : ind (fun v => decide (v ≠ n)) p.to = 1 := ind_t (by simp [hp.2])
    rw [dv, ih, h1, h2]
    simp
theorem sat_all {N : Net} (hN : N.Ok) {h : Bool} {ds : List Int} {L : List Pi} (hl : ds.length = N.ch.length) (hp : Pushed (N.lay h ds) L 0 N.n (sumZ ds)) : fls (L.drop N.tr.length) = ds := by
  have hs := hp.same.sk
  have h1 := hp.dv (ind fun v => decide (v ≠ N.n))
  rw [dv_lay, ind_t (by have := hN.n1; simp; omega), ind_f (by simp), ← List.take_append_drop N.tr.length L, dv_app] at h1
  have hT : dv (ind fun v => decide (v ≠ N.n)) (L.take N.tr.length) = 0 := dv_within _ fun p hpm => by
    obtain ⟨i, hi⟩ := List.mem_iff_getElem?.1 hpm
    obtain ⟨q, hq, e1, e2, _⟩ := sk_at (take_sk hs) hi
    obtain ⟨t, ht, rfl⟩ := List.mem_map.1 (List.mem_of_getElem? hq)
    have := hN.tk t ht
    have f1 : t.fr = p.fr := e1
    have f2 : t.to = p.to := e2
    omega
  have hC : ∀ (i : Nat) p, (L.drop N.tr.length)[i]? = some p → ∃ x, (N.ch.zip ds)[i]? = some x ∧ p.fr = x.1 ∧ p.to = N.n ∧ p.mo = x.2 := fun i p hi => by
    obtain ⟨q, hq, e1, e2, e3⟩ := sk_at (drop_sk hs) hi
    rw [List.getElem?_map] at hq
    obtain ⟨x, hx, rfl⟩ := Option.map_eq_some_iff.1 hq
    exact ⟨x, hx, e1.symm, e2.symm, e3.symm⟩
  have hC2 := dv_into (n := N.n) (L.drop N.tr.length) fun p hpm => by
    obtain ⟨i, hi⟩ := List.mem_iff_getElem?.1 hpm
    obtain ⟨x, hx, e1, e2, _⟩ := hC i p hi
    have := hN.ck x.1 (mem_zip_fst (List.mem_of_getElem? hx))
    exact ⟨by omega, e2⟩
  refine sat_eq _ _ ?_ (fun i p d hi hd => ?_) (by omega)
  · have := len_sk (drop_sk hs)
    rw [this]
    simp [hl]
  · obtain ⟨x, hx, _, _, e3⟩ := hC i p hi
    have hz := (List.getElem?_zip_eq_some.1 hx).2
    rw [hd] at hz
    cases hz
    have := hp.fit p (List.mem_of_mem_drop (List.mem_of_getElem? hi))
    omega
end Go.Flow

namespace Go.Kq
open Go.RowKit

def Qu (w : World) (base : Nat) (e : TypeId) (g off cap : Nat) (xs : List Value) : Prop :=
  ∃ cur, base ≤ g ∧ w.heap[g]? = some (.cells cur e (0, 0)) ∧ xs.length ≤ cap ∧ cap ≤ maxLen ∧ off + cap ≤ cur.size ∧ ∀ j u, xs[j]? = some u → cur[off + j]? = some u
theorem Qu.kp {S : Nat → Prop} {w w' : World} {base g off cap : Nat} {e : TypeId} {xs : List Value} (h : Qu w base e g off cap xs) (hk : Kp S w w') (hS : ¬ S g) : Qu w' base e g off cap xs := by
  obtain ⟨cur, h1, h2, h3⟩ := h
  exact ⟨cur, h1, hk.heap h2 hS, h3⟩
theorem Qu.lt {w : World} {base g off cap : Nat} {e : TypeId} {xs : List Value} (h : Qu w base e g off cap xs) : base ≤ g ∧ g < w.heap.size := by
  obtain ⟨cur, h1, h2, h3⟩ := h
  exact ⟨h1, (Array.getElem?_eq_some_iff.1 h2).1⟩
theorem Qu.cell {w : World} {base g off cap : Nat} {e : TypeId} {xs : List Value} (h : Qu w base e g off cap xs) {j : Nat} {u : Value} (hj : xs[j]? = some u) : w.cell? ⟨g, off + j, none⟩ = some u := by
  obtain ⟨cur, h1, h2, h3, h4, h5, h6⟩ := h
  rw [cell_of_row w g _ cur e (0, 0) h2]
  exact h6 j u hj
theorem Qu.tail {w : World} {base g off cap : Nat} {e : TypeId} {x : Value} {xs : List Value} (h : Qu w base e g off cap (x :: xs)) : Qu w base e g (off + 1) (cap - 1) xs := by
  obtain ⟨cur, h1, h2, h3, h4, h5, h6⟩ := h
  simp at h3
  refine ⟨cur, h1, h2, by omega, by omega, by omega, fun j u hj => ?_⟩
  rw [show off + 1 + j = off + (j + 1) by omega]
  exact h6 (j + 1) u (by simpa using hj)
theorem Qu.last {w : World} {base g off : Nat} {e : TypeId} {x : Value} {xs : List Value} (h : Qu w base e g off 1 (x :: xs)) : xs = [] ∧ Qu w base e g off 0 [] := by
  obtain ⟨cur, h1, h2, h3, h4, h5, h6⟩ := h
  simp at h3
  exact ⟨h3, cur, h1, h2, by simp, by omega, by omega, fun j u hj => by simp at hj⟩
theorem qu_new (w : World) (base : Nat) (e : TypeId) (x : Value) (hb : base ≤ w.heap.size) : Qu (w.alloc (.cells #[x] e)) base e w.heap.size 0 1 [x] :=
  ⟨#[x], hb, heap_alloc_new w _, by simp, by unfold maxLen; omega, by simp, fun j u hj => by
    match j, hj with
    | 0, hj => simpa using hj⟩
theorem own_qu {w : World} {base n : Nat} {e : TypeId} {v : Value} {xs : List Value} (h : w.ownsRow base e 1 v n xs) (hn : 0 < n) : ∃ g cap, v = .slice (some ⟨g, 0, none⟩) n cap ∧ Qu w base e g 0 cap xs := by
  obtain ⟨hl, ⟨rfl, h0⟩ | ⟨g, cap, cur, rfl, hb, hg, hnc, hcm, hcs, ht⟩⟩ := h
  · omega
  · refine ⟨g, cap, rfl, cur, hb, hg, by omega, hcm, by omega, fun j u hj => ?_⟩
    rw [← ht, List.getElem?_take] at hj
    split at hj
    · rw [Nat.zero_add]
      simpa using hj
    · cases hj

section
variable {P : Program} (w : World)
theorem run_append_qu (base : Nat) (t ty e : TypeId) (i : TypeInfo) (z : Value) (bytes : Nat) (ht : P.underlying t = some (.slice e)) (hi : P.info? e = some i) (hz : i.zero = some z)
    (hsize : i.size = 1) (hby : i.bytes = bytes) (hzs : z.cells.size = 1) (g off cap : Nat) (xs : List Value) (hq : Qu w base e g off cap xs)
    (a : Addr) (c : Nat) (x : Value) (hx : w.cell? a = some x) (h1 : x.oneCell' = true) (h63 : xs.length + 1 ≤ maxLen) (hbytes : (xs.length + 1) * bytes ≤ 140737488355328) (hbase : base ≤ w.heap.size) :
    ∃ g' off' cap' w', (Builtin.append_ #[t, t] ty #[.slice (some ⟨g, off, none⟩) xs.length cap, .slice (some a) 1 c]).run P w = .ok (.slice (some ⟨g', off', none⟩) (xs.length + 1) cap') w' ∧ Qu w' base e g' off' cap' (xs ++ [x]) ∧ w.grownBy w' (some g) := by
  have hnews : ∀ j u, [x][j]? = some u → w.cell? (a.add j) = some u := fun j u hj => by
    match j, hj with
    | 0, hj =>
      simp at hj
      subst hj
      have : a.add 0 = a := by
        obtain ⟨b, o, s⟩ := a
        unfold Addr.add
        split <;> simp_all
      rw [this]
      exact hx
  have hone : ∀ u ∈ [x], u.oneCell' = true := fun u hu => by
    simp at hu
    subst hu
    exact h1
  obtain ⟨cur, q1, q2, q3, q4, q5, q6⟩ := hq
  by_cases hroom : xs.length + 1 ≤ cap
  · have hc : ∀ j, j < [x].length → (w.cell? ⟨g, off + xs.length * i.size + j, none⟩).isSome = true := fun j hj => by
      simp at hj
      subst hj
      rw [cell_of_row w g _ cur e (0, 0) q2, hsize]
      simp
      omega
    have hf : ∀ j, j < [x].length → w.frozen? ⟨g, off + xs.length * i.size + j, none⟩ = false := fun j _ => by simp [World.frozen?, q2]
    have hr := run_append_room_cells (P := P) w t ty e i ht hi g off xs.length cap a 1 c [x] (by simp [hsize]) hnews hone hroom hc hf
    refine ⟨g, off, cap, _, hr, ⟨cur.setIfInBounds (off + xs.length) x, q1, ?_, by simpa using hroom, q4, by simpa using q5, fun j u hj => ?_⟩, ?_⟩
    · simp only [World.setCells, hsize, Nat.mul_one, World.setCell, Array.getElem?_modify, q2]
      simp
    · rw [List.getElem?_append] at hj
      split at hj
      · rename_i hlt
        rw [Array.getElem?_setIfInBounds_ne (by omega)]
        exact q6 j u hj
      · rename_i hge
        have hj0 : j - xs.length = 0 := by
          have := (List.getElem?_eq_some_iff.1 hj).1
          simp at this
          omega
        rw [hj0] at hj
        simp at hj
        subst hj
        have : j = xs.length := by omega
        subst this
        rw [Array.getElem?_setIfInBounds_self_of_lt (by omega)]
    · refine ⟨rfl, rfl, rfl, by simp [World.setCells], fun k hk hne => ?_⟩
      have : g ≠ k := fun e => hne (by rw [e])
      simp [World.setCells, World.setCell, Array.getElem?_modify, this]
  · obtain ⟨v', w', hr, hown, hgr⟩ := run_append_arg_grows (P := P) w t ty e i z 1 bytes ht hi hz hsize hby hzs (by decide) ⟨g, off, none⟩ xs.length cap xs (by simp) (fun j u hj => by
      have : (⟨g, off, none⟩ : Addr).add j = ⟨g, off + j, none⟩ := by unfold Addr.add; split <;> simp_all
      rw [this, cell_of_row w g _ cur e (0, 0) q2]
      exact q6 j u hj) a 1 c [x] (by simp) hnews (by omega) h63 hbytes
    obtain ⟨g', cap', rfl, hq⟩ := own_qu hown (by omega)
    obtain ⟨cur', r1, r2⟩ := hq
    exact ⟨g', 0, cap', w', hr, ⟨cur', by omega, r2⟩, ⟨hgr.os, hgr.tape, hgr.output, hgr.size, fun k hk _ => hgr.block k hk (by simp)⟩⟩

theorem wpL_append_qu {ops : Array Oper} {rest : List Oper} {o : Oper} {a : Act} {Q : Exit → Act → World → Prop} (hgd : o.guard = none) (s x : Operand) (t : TypeId)
    (ho : o.op = .call { callee := .builtin .append, args := #[s, x], argTypes := #[t, t] })
    (base : Nat) (e : TypeId) (i : TypeInfo) (z : Value) (bytes : Nat) (ht : P.underlying t = some (.slice e)) (hi : P.info? e = some i) (hz : i.zero = some z)
    (hsize : i.size = 1) (hby : i.bytes = bytes) (hzs : z.cells.size = 1) (g off n cap : Nat) (xs : List Value) (hq : Qu w base e g off cap xs) (hn : xs.length = n) (hs : a.eval s = .slice (some ⟨g, off, none⟩) n cap)
    (ad : Addr) (c : Nat) (u : Value) (hx : a.eval x = .slice (some ad) 1 c) (hu : w.cell? ad = some u) (h1 : u.oneCell' = true) (h63 : n + 1 ≤ maxLen) (hbytes : (n + 1) * bytes ≤ 140737488355328) (hbase : base ≤ w.heap.size)
    (h : ∀ g' off' cap' w', Qu w' base e g' off' cap' (xs ++ [u]) → w.grownBy w' (some g) → wpList P ops Q rest (a.put o.dst (.slice (some ⟨g', off', none⟩) (n + 1) cap')) w') :
    wpList P ops Q (o :: rest) a w := by
  subst hn
  refine wpList_plain hgd fun K hK => ?_
  obtain ⟨g', off', cap', w', hr, h2, h3⟩ := run_append_qu (P := P) w base t o.type e i z bytes ht hi hz hsize hby hzs g off cap xs hq ad c u hu h1 h63 hbytes hbase
  unfold Oper.wp execOp
  simp only [ho, resolve, invoke, builtin, Sem.run_bind, Sem.run_pure, Result.andThen_ok, List.map_toArray, List.map_cons, List.map_nil, hs, hx, hr]
  exact hK _ _ (h g' off' cap' w' h2 h3)
end
end Go.Kq

namespace Go.Proofs.YtpkbpeeelpgmcaaGreat
open Go.RowKit Go.Kq Go.Flow

def c5 (p : Pi) : List Value := [.int .i64 p.fr, .int .i64 p.to, .int .i64 p.mo, .int .i64 p.fl, .bool p.st]
theorem c5_len (p : Pi) : (c5 p).length = 5 := rfl
theorem info76 : (Tryz.prog.info? 98).map (fun i => (i.zero, i.size, i.bytes)) = some (some (.agg #[.int .i64 0, .int .i64 0, .int .i64 0, .int .i64 0, .bool false]), 5, 40) := by kernel_rfl
theorem info3 : (Tryz.prog.info? 3).map (fun i => (i.zero, i.size, i.bytes)) = some (some (.int .i64 0), 1, 8) := by kernel_rfl
/-- A web of pipes. -/
structure Web (w : World) (base B V : Nat) (sl : Value) (L : List Pi) : Prop where
  ge : base ≤ B
  head : w.heap[B]? = some (.cells #[.int .i64 V, sl] 96 (0, 0))
  row : w.ownsRow base 98 5 sl L.length (L.flatMap c5)
theorem Web.kp {S : Nat → Prop} {w w' : World} {base B V : Nat} {sl : Value} {L : List Pi} (h : Web w base B V sl L) (hk : Kp S w w') (hB : ¬ S B) (hS : ∀ g, sl.ownBlock = some g → ¬ S g) : Web w' base B V sl L :=
  ⟨h.ge, hk.heap h.head hB, hk.owns h.row hS⟩
theorem Web.no {w w' : World} {base B V : Nat} {sl : Value} {L : List Pi} (h : Web w base B V sl L) (hk : Kp No w w') : Web w' base B V sl L := h.kp hk (fun h => h) fun _ _ h => h
theorem Web.lt {w : World} {base B V : Nat} {sl : Value} {L : List Pi} (h : Web w base B V sl L) : B < w.heap.size := (Array.getElem?_eq_some_iff.1 h.head).1
theorem new5 (w : World) (p : Pi) : ∀ j u, (c5 p)[j]? = some u → (w.alloc (.cells #[.int .i64 p.fr, .int .i64 p.to, .int .i64 p.mo, .int .i64 p.fl, .bool p.st] 98)).cell? ((⟨w.heap.size, 0, none⟩ : Addr).add j) = some u := by
  intro j u hj
  unfold c5 at hj
  rw [add_at, Nat.zero_add]
  match j, hj with
  | 0, hj => simp at hj; subst hj; go_simp
  | 1, hj => simp at hj; subst hj; go_simp
  | 2, hj => simp at hj; subst hj; go_simp
  | 3, hj => simp at hj; subst hj; go_simp
  | 4, hj => simp at hj; subst hj; go_simp
theorem c5_one (p : Pi) : ∀ u ∈ c5 p, u.oneCell' = true := by
  intro u hu
  simp only [c5, List.mem_cons, List.not_mem_nil, or_false] at hu
  rcases hu with rfl | rfl | rfl | rfl | rfl <;> rfl
theorem cell_head {w : World} {B : Nat} {a b : Value} {t : TypeId} (h : w.heap[B]? = some (.cells #[a, b] t (0, 0))) : w.cell? ⟨B, 0, none⟩ = some a ∧ w.cell? ⟨B, 1, none⟩ = some b ∧ w.frozen? ⟨B, 0, none⟩ = false ∧ w.frozen? ⟨B, 1, none⟩ = false := by
  refine ⟨?_, ?_, ?_, ?_⟩
  · rw [cell_of_row w B 0 _ _ _ h]; rfl
  · rw [cell_of_row w B 1 _ _ _ h]; rfl
  · simp [World.frozen?, h]
  · simp [World.frozen?, h]

theorem head_set {w : World} {B : Nat} {a b u : Value} {t : TypeId} (h : w.heap[B]? = some (.cells #[a, b] t (0, 0))) : (w.setCell ⟨B, 1, none⟩ u).heap[B]? = some (.cells #[a, u] t (0, 0)) := by
  simp [World.setCell, Array.getElem?_modify, h]
theorem drain_any (base B V : Nat) (sl : Value) (L : List Pi) (w : World) (h : Web w base B V sl L) :
    Calls Tryz.prog 106 #[.pointer (some ⟨B, 0, none⟩)] w fun e w' => e = .returned (.int .i64 V) ∧ w = w' := by
  obtain ⟨h0, _, _, _⟩ := cell_head h.head
  go_enter Tryz.func106, Tryz.ntmps106
  go_wp2
  go_ret
  exact ⟨rfl, rfl⟩

set_option maxHeartbeats 1000000 in
theorem link_any (base B V : Nat) (sl : Value) (L : List Pi) (f t : Nat) (m : Int) (w : World) (h : Web w base B V sl L) (hl : L.length ≤ 100) (hbase : base ≤ w.heap.size) :
    Calls Tryz.prog 105 #[.pointer (some ⟨B, 0, none⟩), .int .i64 f, .int .i64 t, .int .i64 m] w fun e w' => (∃ v, e = .returned v) ∧ ∃ sl', Web w' base B V sl' (L ++ [⟨f, t, m, 0, false⟩]) ∧ Kp (fun k => base ≤ k) w w' := by
  obtain ⟨i0, hi0, hz0, hz1, hz2⟩ := info_parts info76
  obtain ⟨h0, h1, f0, f1⟩ := cell_head h.head
  obtain ⟨a, cap, rfl, hcap, hcm, hnn⟩ := own_form h.row
  have HW := Lib.hid h
  clear h hnn
  go_enter Tryz.func105, Tryz.ntmps105
  go_wp2_with (at_builtin; refine stop_in ?_)
  refine stop_out ?_
  refine wpList_append_own_at _ rfl _ _ 94 rfl base 98 i0 (.agg #[.int .i64 0, .int .i64 0, .int .i64 0, .int .i64 0, .bool false]) 5 40 Tryz.underlying94 hi0 hz0 hz1 hz2 rfl (by decide) (.slice a L.length cap) L.length (L.flatMap c5) rfl (HW.out.row.alloc _) ⟨w.heap.size, 0, none⟩ 1 1 (c5 ⟨f, t, m, 0, false⟩) rfl rfl (new5 w ⟨f, t, m, 0, false⟩) (c5_one _) (by unfold maxLen; omega) (by omega) (by simp; omega) ?_
  intro v' w1 hown' hgrow hnil hat
  have hb1 : some B ≠ (Value.slice a L.length cap).ownBlock := fun e => own_other HW.out.row HW.out.head (by decide) e.symm
  have hk1 : Kp (fun k => (Value.slice a L.length cap).ownBlock = some k) w w1 := (Kp.alloc _ _ _).tr (Kp.grown hgrow fun k h _ => h)
  have hhead := hk1.heap HW.out.head (fun e => hb1 e.symm)
  obtain ⟨g0, g1, g2, g3⟩ := cell_head hhead
  rw [← flat_snoc] at hown'
  have hne : v'.ownBlock ≠ some B := own_other hown' hhead (by decide)
  obtain ⟨a', cap', rfl, _, _, _⟩ := own_form hown'
  have HO := Lib.hid hown'
  have HH := Lib.hid hhead
  have HK := Lib.hid hk1
  have HN := Lib.hid hne
  clear hown' hgrow hnil hat hhead hk1 hb1 hne
  go_wp2_with fail
  go_end0
  have hlen : (L ++ [(⟨f, t, m, 0, false⟩ : Pi)]).length = L.length + 1 := by simp
  refine ⟨⟨_, rfl⟩, _, ⟨HW.out.ge, head_set HH.out, ?_⟩, ?_⟩
  · rw [hlen]
    exact (Kp.setCell (fun k => k = B) w1 ⟨B, 1, none⟩ _ fun _ => rfl).owns HO.out fun g hg e => HN.out (by rw [← e]; exact hg)
  · refine ((HK.out.mono fun k _ h => (own_ge HW.out.row h).1).tr (Kp.setCell _ _ _ _ fun _ => HW.out.ge))
end Go.Proofs.YtpkbpeeelpgmcaaGreat
