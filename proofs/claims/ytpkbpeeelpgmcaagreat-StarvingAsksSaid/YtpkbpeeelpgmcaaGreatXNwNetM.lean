/- Labels of a search by levels: plain laws. No program in sight. · Networks with chests: what a greatest flow says of sets and demands: plain laws. No program in sight. -/
import Derived.Test.YtpkbpeeelpgmcaaGreatXNwFlow
namespace Go.Flow

/-- Labels with ranks below n. -/
def Lab (L : List Pi) (fr : Nat) (b : Nat → Option Stp) (n : Nat) : Prop :=
  ∃ r : Nat → Nat, (∀ v, b v ≠ none → r v < n) ∧ ∀ v s, b v = some s → v ≠ fr ∧ ∃ u, Rch L s v u ∧ (u = fr ∨ (b u ≠ none ∧ r u < r v))
theorem Lab.start (L : List Pi) (fr n : Nat) : Lab L fr (fun _ => none) n := ⟨fun _ => 0, fun v h => absurd rfl h, fun v s h => by cases h⟩
def put (b : Nat → Option Stp) (v : Nat) (s : Stp) : Nat → Option Stp := fun x => if x = v then some s else b x
theorem put_at (b : Nat → Option Stp) (v : Nat) (s : Stp) : put b v s v = some s := by simp [put]
theorem put_ne (b : Nat → Option Stp) {v x : Nat} (s : Stp) (h : x ≠ v) : put b v s x = b x := by simp [put, h]
theorem Lab.add {L : List Pi} {fr n v u : Nat} {b : Nat → Option Stp} {s : Stp} (h : Lab L fr b n) (hv : v ≠ fr) (hn : b v = none) (hR : Rch L s v u) (hu : u = fr ∨ b u ≠ none) : Lab L fr (put b v s) (n + 1) := by
  obtain ⟨r, h1, h2⟩ := h
  refine ⟨fun x => if x = v then n else r x, fun x hx => ?_, fun x t hx => ?_⟩
  · by_cases e : x = v
    · simp [e]
    · rw [put_ne b s e] at hx
      have := h1 x hx
      simp [e]
      omega
  · by_cases e : x = v
    · subst e
      rw [put_at] at hx
      cases hx
      refine ⟨hv, u, hR, hu.imp id fun hu => ?_⟩
      have hne : u ≠ x := fun e => hu (e ▸ hn)
      exact ⟨by rw [put_ne b s hne]; exact hu, by simp [hne]; exact h1 u hu⟩
    · rw [put_ne b s e] at hx
      obtain ⟨g1, y, g2, g3⟩ := h2 x t hx
      refine ⟨g1, y, g2, g3.imp id fun g3 => ?_⟩
      have hne : y ≠ v := fun e => g3.1 (e ▸ hn)
      exact ⟨by rw [put_ne b s hne]; exact g3.1, by simp [hne, e]; exact g3.2⟩
theorem Lab.way {L : List Pi} {fr n v : Nat} {b : Nat → Option Stp} (h : Lab L fr b n) (hv : v = fr ∨ b v ≠ none) : ∃ l, Way L b fr v l ∧ Dist l := by
  obtain ⟨r, _, h2⟩ := h
  obtain ⟨l, h3, h4, _⟩ := way_of_rank r h2 (r v + 1) v (by omega) hv
  exact ⟨l, h3, h4⟩
theorem way_min {L : List Pi} {fr : Nat} {b : Nat → Option Stp} {S : Nat → Bool} (hS : Clo S L) (hf : S fr = true) {v : Nat} {l : List Stp} (h : Way L b fr v l) : S v = true := by
  induction h with
  | nil => exact hf
  | cons _ _ hR _ ih =>
    obtain ⟨p, hp, hst, h1, h2, h3⟩ := hR
    have hc := hS p (List.mem_of_getElem? hp) hst
    rename_i s l _ _ _
    unfold Stp.dst Stp.src Stp.res at *
    cases hw : s.fw <;> simp only [hw, if_true, if_false, Bool.false_eq_true] at h1 h2 h3
    · rw [← h1]
      exact hc.2 (by rw [h2]; exact ih) h3
    · rw [← h1]
      exact hc.1 (by rw [h2]; exact ih) (by omega)
theorem Lab.min {L : List Pi} {fr n : Nat} {b : Nat → Option Stp} (h : Lab L fr b n) {S : Nat → Bool} (hS : Clo S L) (hf : S fr = true) (v : Nat) (hv : v = fr ∨ b v ≠ none) : S v = true := by
  obtain ⟨l, h1, _⟩ := h.way hv
  exact way_min hS hf h1
/-- The nodes that are reached. -/
def Rs (fr : Nat) (b : Nat → Option Stp) : Nat → Bool := fun v => decide (v = fr) || (b v).isSome
theorem rs_iff {fr : Nat} {b : Nat → Option Stp} {v : Nat} : Rs fr b v = true ↔ v = fr ∨ b v ≠ none := by
  unfold Rs
  cases b v <;> simp
theorem rs_put {fr v : Nat} {b : Nat → Option Stp} {s : Stp} {x : Nat} : Rs fr (put b v s) x = true ↔ x = v ∨ Rs fr b x = true := by
  rw [rs_iff, rs_iff]
  by_cases e : x = v
  · subst e
    simp [put_at]
  · rw [put_ne b s e]
    simp [e]
/-- The first k pipes lead nowhere new from a node. -/
def Dn (L : List Pi) (R : Nat → Bool) (a k : Nat) : Prop := ∀ j p, j < k → L[j]? = some p → p.st = false → (p.fr = a → p.fl < p.mo → R p.to = true) ∧ (p.to = a → 0 < p.fl → R p.fr = true)
theorem Dn.mono {L : List Pi} {R R' : Nat → Bool} {a k : Nat} (h : Dn L R a k) (hR : ∀ v, R v = true → R' v = true) : Dn L R' a k := fun j p hj hp hs =>
  ⟨fun h1 h2 => hR _ ((h j p hj hp hs).1 h1 h2), fun h1 h2 => hR _ ((h j p hj hp hs).2 h1 h2)⟩
theorem Dn.zero (L : List Pi) (R : Nat → Bool) (a : Nat) : Dn L R a 0 := fun j _ hj => absurd hj (Nat.not_lt_zero j)
theorem Dn.succ {L : List Pi} {R : Nat → Bool} {a k : Nat} {p : Pi} (h : Dn L R a k) (hp : L[k]? = some p) (hn : p.st = false → (p.fr = a → p.fl < p.mo → R p.to = true) ∧ (p.to = a → 0 < p.fl → R p.fr = true)) : Dn L R a (k + 1) := fun j q hj hq hs => by
  by_cases e : j = k
  · subst e
    rw [hp] at hq
    cases hq
    exact hn hs
  · exact h j q (by omega) hq hs
theorem clo_of {L : List Pi} {R : Nat → Bool} (h : ∀ v, R v = true → Dn L R v L.length) : Clo R L := fun p hp hs => by
  obtain ⟨j, hj⟩ := List.mem_iff_getElem?.1 hp
  have hlt := (List.getElem?_eq_some_iff.1 hj).1
  exact ⟨fun h1 h2 => (h _ h1 j p hlt hj hs).1 rfl h2, fun h1 h2 => (h _ h1 j p hlt hj hs).2 rfl h2⟩
/-- How many nodes below n have no label. -/
def free (b : Nat → Option Stp) : Nat → Nat
  | 0 => 0
  | n + 1 => free b n + if (b n).isNone then 1 else 0
theorem free_le (b : Nat → Option Stp) : ∀ n, free b n ≤ n
  | 0 => Nat.le_refl _
  | n + 1 => by
    have := free_le b n
    unfold free
    split <;> omega
theorem free_put {b : Nat → Option Stp} {v : Nat} {s : Stp} (hn : b v = none) : ∀ n, free (put b v s) n + (if v < n then 1 else 0) = free b n
  | 0 => rfl
  | n + 1 => by
    have ih := free_put (s := s) hn n
    unfold free
    by_cases e : n = v
    · subst e
      rw [put_at, hn]
      simp at ih ⊢
      omega
    · rw [put_ne b s e]
      by_cases h : v < n
      · rw [if_pos h] at ih
        rw [if_pos (show v < n + 1 by omega)]
        omega
      · rw [if_neg h] at ih
        rw [if_neg (show ¬ v < n + 1 by omega)]
        omega
end Go.Flow

namespace Go.Flow

structure Tk where
  fr : Nat
  to : Nat
  lo : Int
  hi : Int
def Tk.cap (h : Bool) (t : Tk) : Int := if h then t.hi else t.lo
def tp (h : Bool) (t : Tk) : Pi := ⟨t.fr, t.to, t.cap h, 0, false⟩
structure Net where
  n : Nat
  tr : List Tk
  ch : List Nat
structure Net.Ok (N : Net) : Prop where
  n1 : 1 ≤ N.n
  n2 : N.n ≤ 24
  t1 : N.tr.length ≤ 60
  c1 : N.ch.length ≤ 16
  tk : ∀ t ∈ N.tr, t.fr < N.n ∧ t.to < N.n ∧ t.fr ≠ t.to ∧ 0 ≤ t.lo ∧ t.lo ≤ t.hi ∧ t.hi ≤ 1000000000000
  ck : ∀ c ∈ N.ch, 1 ≤ c ∧ c < N.n
  asc : N.ch.Pairwise (· < ·)
theorem Net.Ok.cap {N : Net} (h : N.Ok) {t : Tk} (ht : t ∈ N.tr) (b : Bool) : 0 ≤ t.cap b ∧ t.cap b ≤ 1000000000000 := by
  have := h.tk t ht
  unfold Tk.cap
  split <;> omega
/-- The outgoing capacity of a set. -/
def Net.out (N : Net) (h : Bool) (R : Nat → Bool) : Int := cut R (N.tr.map (tp h))
def cp (n : Nat) (x : Nat × Int) : Pi := ⟨x.1, n, x.2, 0, false⟩
/-- The pipes of a network, those of the chests behind them. -/
def Net.lay (N : Net) (h : Bool) (ds : List Int) : List Pi := N.tr.map (tp h) ++ (N.ch.zip ds).map (cp N.n)
def held (R : Nat → Bool) : List (Nat × Int) → Int
  | [] => 0
  | x :: l => (if R x.1 then x.2 else 0) + held R l
/-- The weight of a set for demands. -/
def Net.wt (N : Net) (h : Bool) (ds : List Int) (R : Nat → Bool) : Int := N.out h R + held R (N.ch.zip ds)
theorem cut_chests {R : Nat → Bool} {n : Nat} (hn : R n = false) : ∀ l : List (Nat × Int), cut R (l.map (cp n)) = held R l
  | [] => rfl
  | x :: l => by
    simp only [List.map_cons, cut, held, cut_chests hn l, cp, hn]
    cases R x.1 <;> simp
theorem Net.cut_lay (N : Net) (h : Bool) (ds : List Int) {R : Nat → Bool} (hn : R N.n = false) : cut R (N.lay h ds) = N.wt h ds R := by
  rw [Net.lay, cut_app, cut_chests hn]
  rfl
theorem cut_same {R : Nat → Bool} : ∀ {L L' : List Pi}, Same L L' → cut R L' = cut R L
  | [], [], _ => rfl
  | [], q :: l, h => by have := h.len; simp at this
  | p :: l, [], h => by have := h.len; simp at this
  | p :: l, q :: l', h => by
    obtain ⟨f, h1, _⟩ := h.at_ 0 p rfl
    simp at h1
    have hs : Same l l' := ⟨by simpa using h.len, fun i p hp => by
      obtain ⟨f, h1, h2⟩ := h.at_ (i + 1) p (by simpa using hp)
      exact ⟨f, by simpa using h1, h2⟩⟩
    rw [cut, cut, cut_same hs, h1]
theorem same_st {L L' : List Pi} (h : Same L L') (hs : ∀ p ∈ L, p.st = false) : ∀ p ∈ L', p.st = false := fun q hq => by
  obtain ⟨i, hi⟩ := List.mem_iff_getElem?.1 hq
  have hlt := (List.getElem?_eq_some_iff.1 hi).1
  obtain ⟨p, hp⟩ : ∃ p, L[i]? = some p := ⟨_, List.getElem?_eq_getElem (by have := h.len; omega)⟩
  obtain ⟨f, h1, _⟩ := h.at_ i p hp
  rw [hi] at h1
  cases h1
  exact hs p (List.mem_of_getElem? hp)
theorem lay_st (N : Net) (h : Bool) (ds : List Int) : ∀ p ∈ N.lay h ds, p.st = false := fun p hp => by
  rcases List.mem_append.1 hp with hp | hp
  · obtain ⟨t, _, rfl⟩ := List.mem_map.1 hp
    rfl
  · obtain ⟨t, _, rfl⟩ := List.mem_map.1 hp
    rfl
theorem dv_lay (φ : Nat → Int) (N : Net) (h : Bool) (ds : List Int) : dv φ (N.lay h ds) = 0 := by
  have key : ∀ L : List Pi, (∀ p ∈ L, p.fl = 0) → dv φ L = 0 := by
    intro L
    induction L with
    | nil => intro _; rfl
    | cons p l ih =>
      intro hL
      rw [dv, ih fun q hq => hL q (by simp [hq]), hL p (by simp)]
      simp
  refine key _ fun p hp => ?_
  rcases List.mem_append.1 hp with hp | hp
  · obtain ⟨t, _, rfl⟩ := List.mem_map.1 hp
    rfl
  · obtain ⟨t, _, rfl⟩ := List.mem_map.1 hp
    rfl
/-- A set with the blower, without the drain. -/
def Net.A0 (N : Net) (R : Nat → Bool) : Prop := R 0 = true ∧ R N.n = false
def Net.A1 (N : Net) (R : Nat → Bool) : Prop := N.A0 R ∧ ∀ c ∈ N.ch, R c = false
/-- The least set of least weight. -/
def Min (A : (Nat → Bool) → Prop) (W : (Nat → Bool) → Int) (R : Nat → Bool) : Prop := A R ∧ ∀ S, A S → W R ≤ W S ∧ (W S = W R → ∀ v, R v = true → S v = true)
theorem Min.uniq {A : (Nat → Bool) → Prop} {W : (Nat → Bool) → Int} {R R' : Nat → Bool} (h : Min A W R) (h' : Min A W R') : R = R' := funext fun v => by
  have h1 := h.2 R' h'.1
  have h2 := h'.2 R h.1
  have e : W R = W R' := by omega
  have i1 := h1.2 e.symm v
  have i2 := h2.2 e v
  cases hr : R v <;> cases hr' : R' v <;> simp [hr, hr'] at i1 i2 ⊢
theorem Min.same {A : (Nat → Bool) → Prop} {W : (Nat → Bool) → Int} {R R' : Nat → Bool} (h : Min A W R) (h' : Min A W R') : W R = W R' := by
  have h1 := h.2 R' h'.1
  have h2 := h'.2 R h.1
  omega
/-- What a push from the blower to the drain says. -/
theorem push_le {N : Net} {h : Bool} {ds : List Int} {L : List Pi} {d : Int} (hp : Pushed (N.lay h ds) L 0 N.n d) {S : Nat → Bool} (hS : N.A0 S) : d ≤ N.wt h ds S := by
  have h1 := hp.dv (ind S)
  rw [dv_lay, ind_t hS.1, ind_f hS.2] at h1
  have h2 := weak S L hp.fit
  rw [cut_same hp.same, N.cut_lay h ds hS.2] at h2
  omega
theorem push_eq {N : Net} {h : Bool} {ds : List Int} {L : List Pi} {d : Int} (hp : Pushed (N.lay h ds) L 0 N.n d) {R : Nat → Bool} (hR : N.A0 R) (hc : Clo R L) : d = N.wt h ds R := by
  have h1 := hp.dv (ind R)
  rw [dv_lay, ind_t hR.1, ind_f hR.2] at h1
  have h2 := tight R L hp.fit (same_st hp.same (lay_st N h ds)) hc
  rw [cut_same hp.same, N.cut_lay h ds hR.2] at h2
  omega
theorem push_clo {N : Net} {h : Bool} {ds : List Int} {L : List Pi} {d : Int} (hp : Pushed (N.lay h ds) L 0 N.n d) {S : Nat → Bool} (hS : N.A0 S) (he : N.wt h ds S = d) : Clo S L := by
  have h1 := hp.dv (ind S)
  rw [dv_lay, ind_t hS.1, ind_f hS.2] at h1
  refine tight_clo S L hp.fit ?_
  rw [cut_same hp.same, N.cut_lay h ds hS.2]
  omega
/-- The set that is reached when nothing more flows is the least one of least weight. -/
theorem push_min {N : Net} {h : Bool} {ds : List Int} {L : List Pi} {d : Int} {b : Nat → Option Stp} {m : Nat} (hp : Pushed (N.lay h ds) L 0 N.n d) (hl : Lab L 0 b m) (hc : Clo (Rs 0 b) L) (hn : Rs 0 b N.n = false) :
    Min N.A0 (N.wt h ds) (Rs 0 b) ∧ N.wt h ds (Rs 0 b) = d := by
  have hA : N.A0 (Rs 0 b) := ⟨by simp [Rs], hn⟩
  have he := push_eq hp hA hc
  refine ⟨⟨hA, fun S hS => ⟨by have := push_le hp hS; omega, fun e v hv => ?_⟩⟩, he.symm⟩
  exact hl.min (push_clo hp hS (by omega)) hS.1 v (rs_iff.1 hv)
theorem cut_le {R : Nat → Bool} {M : Int} (hM : 0 ≤ M) : ∀ L : List Pi, (∀ p ∈ L, p.mo ≤ M) → cut R L ≤ M * L.length
  | [], _ => by simp [cut]
  | p :: l, h => by
    have ih := cut_le (R := R) hM l fun q hq => h q (by simp [hq])
    have := h p (by simp)
    have e : M * ((p :: l).length : Nat) = M * (l.length : Nat) + M := by simp [Int.mul_add]
    rw [e, cut]
    split <;> omega
theorem Net.Ok.out_le {N : Net} (hN : N.Ok) (h : Bool) (R : Nat → Bool) : N.out h R ≤ 60000000000000 := by
  have h1 := cut_le (R := R) (M := 1000000000000) (by omega) (N.tr.map (tp h)) fun p hp => by
    obtain ⟨t, ht, rfl⟩ := List.mem_map.1 hp
    exact (hN.cap ht h).2
  have h2 := hN.t1
  rw [List.length_map] at h1
  unfold Net.out
  omega
theorem cut_ge {R : Nat → Bool} : ∀ L : List Pi, (∀ p ∈ L, 0 ≤ p.mo) → 0 ≤ cut R L
  | [], _ => by simp [cut]
  | p :: l, h => by
    have ih := cut_ge (R := R) l fun q hq => h q (by simp [hq])
    have := h p (by simp)
    rw [cut]
    split <;> omega
theorem Net.Ok.out_ge {N : Net} (hN : N.Ok) (h : Bool) (R : Nat → Bool) : 0 ≤ N.out h R := cut_ge _ fun p hp => by
  obtain ⟨t, ht, rfl⟩ := List.mem_map.1 hp
  exact (hN.cap ht h).1
theorem held_none {R : Nat → Bool} : ∀ l : List (Nat × Int), (∀ x ∈ l, R x.1 = false) → held R l = 0
  | [], _ => rfl
  | x :: l, h => by rw [held, held_none l fun y hy => h y (by simp [hy]), h x (by simp)]; simp
theorem mem_zip_fst {α β : Type} : ∀ {l : List α} {k : List β} {x : α × β}, x ∈ l.zip k → x.1 ∈ l
  | [], _, _, h => by simp at h
  | _ :: _, [], _, h => by simp at h
  | a :: l, b :: k, x, h => by
    rcases List.mem_cons.1 h with rfl | h
    · simp
    · simp [mem_zip_fst h]
theorem wt_a1 {N : Net} {h : Bool} {ds : List Int} {S : Nat → Bool} (hS : N.A1 S) : N.wt h ds S = N.out h S := by
  rw [Net.wt, held_none _ fun x hx => hS.2 x.1 (mem_zip_fst hx)]
  omega
/-- Every pipe into the drain bears at most what flows. -/
theorem into_le {n : Nat} : ∀ L : List Pi, Fit L → (∀ p ∈ L, p.fr ≠ n) → 0 ≤ dv (ind fun v => decide (v ≠ n)) L ∧ ∀ p ∈ L, p.to = n → p.fl ≤ dv (ind fun v => decide (v ≠ n)) L
  | [], _, _ => ⟨Int.le_refl _, fun p hp => by cases hp⟩
  | q :: l, hf, hn => by
    obtain ⟨i1, i2⟩ := into_le l hf.cons.2 fun p hp => hn p (by simp [hp])
    have h0 := hf.cons.1
    have h1 : ind (fun v => decide (v ≠ n)) q.fr = 1 := ind_t (by simp [hn q (by simp)])
    rw [dv, h1]
    by_cases h2 : q.to = n
    · have h3 : ind (fun v => decide (v ≠ n)) q.to = 0 := ind_f (by simp [h2])
      rw [h3]
      refine ⟨by omega, fun p hp hpn => ?_⟩
      rcases List.mem_cons.1 hp with rfl | hp
      · omega
      · have := i2 p hp hpn
        omega
    · have h3 : ind (fun v => decide (v ≠ n)) q.to = 1 := ind_t (by simp [h2])
      rw [h3]
      refine ⟨by omega, fun p hp hpn => ?_⟩
      rcases List.mem_cons.1 hp with rfl | hp
      · exact absurd hpn h2
      · have := i2 p hp hpn
        omega
theorem lay_fr {N : Net} (hN : N.Ok) (h : Bool) (ds : List Int) : ∀ p ∈ N.lay h ds, p.fr ≠ N.n := fun p hp => by
  rcases List.mem_append.1 hp with hp | hp
  · obtain ⟨t, ht, rfl⟩ := List.mem_map.1 hp
    have := hN.tk t ht
    show t.fr ≠ N.n
    omega
  · obtain ⟨x, hx, rfl⟩ := List.mem_map.1 hp
    have := hN.ck x.1 (mem_zip_fst hx)
    show x.1 ≠ N.n
    omega
theorem same_fr {L L' : List Pi} {n : Nat} (h : Same L L') (hs : ∀ p ∈ L, p.fr ≠ n) : ∀ p ∈ L', p.fr ≠ n := fun q hq => by
  obtain ⟨i, hi⟩ := List.mem_iff_getElem?.1 hq
  have hlt := (List.getElem?_eq_some_iff.1 hi).1
  obtain ⟨p, hp⟩ : ∃ p, L[i]? = some p := ⟨_, List.getElem?_eq_getElem (by have := h.len; omega)⟩
  obtain ⟨f, h1, _⟩ := h.at_ i p hp
  rw [hi] at h1
  cases h1
  exact hs p (List.mem_of_getElem? hp)
theorem zip_rep {α : Type} (M : Int) : ∀ l : List α, l.zip (List.replicate l.length M) = l.map fun x => (x, M)
  | [] => rfl
  | x :: l => by
    rw [List.length_cons, List.replicate_succ, List.zip_cons_cons, zip_rep M l, List.map_cons]
/-- The greatest supply: chests without a limit. -/
theorem push_free {N : Net} (hN : N.Ok) {h : Bool} {M : Int} (hM : 60000000000000 < M) {L : List Pi} {d : Int} {b : Nat → Option Stp} {m : Nat} (hp : Pushed (N.lay h (List.replicate N.ch.length M)) L 0 N.n d) (hl : Lab L 0 b m) (hc : Clo (Rs 0 b) L) (hn : Rs 0 b N.n = false) :
    Min N.A1 (N.out h) (Rs 0 b) ∧ N.out h (Rs 0 b) = d := by
  obtain ⟨h1, h2⟩ := push_min hp hl hc hn
  have hd : d ≤ 60000000000000 := by
    have hA : N.A1 fun v => decide (v = 0) := ⟨⟨by simp, by have := hN.n1; simp; omega⟩, fun c hc => by have := hN.ck c hc; simp; omega⟩
    have := push_le hp hA.1
    rw [wt_a1 hA] at this
    exact Int.le_trans this (hN.out_le h _)
  have hdd : dv (ind fun v => decide (v ≠ N.n)) L = d := by
    have := hp.dv (ind fun v => decide (v ≠ N.n))
    rw [dv_lay, ind_t (by have := hN.n1; simp; omega), ind_f (by simp)] at this
    omega
  have hchest : ∀ c ∈ N.ch, Rs 0 b c = false := fun c hcm => by
    have hmem : cp N.n (c, M) ∈ N.lay h (List.replicate N.ch.length M) := by
      refine List.mem_append.2 (.inr (List.mem_map.2 ⟨(c, M), ?_, rfl⟩))
      rw [zip_rep]
      exact List.mem_map.2 ⟨c, hcm, rfl⟩
    obtain ⟨i, hi⟩ := List.mem_iff_getElem?.1 hmem
    obtain ⟨f, hf, _⟩ := hp.same.at_ i _ hi
    have hq := List.mem_of_getElem? hf
    have hin := (into_le L hp.fit (same_fr hp.same (lay_fr hN h _))).2 _ hq rfl
    rw [hdd] at hin
    have hfm : f < M := by
      have : f ≤ d := hin
      omega
    cases hr : Rs 0 b c with
    | false => rfl
    | true =>
      have := (hc _ hq rfl).1 hr hfm
      have h3 : Rs 0 b N.n = true := this
      rw [hn] at h3
      cases h3
  have hA : N.A1 (Rs 0 b) := ⟨h1.1, hchest⟩
  rw [wt_a1 hA] at h2
  refine ⟨⟨hA, fun S hS => ?_⟩, h2⟩
  have := h1.2 S hS.1
  rw [wt_a1 hA, wt_a1 hS] at this
  exact this

/-! ### flows that give demands -/
def dem (φ : Nat → Int) : List (Nat × Int) → Int
  | [] => 0
  | x :: l => x.2 * (φ 0 - φ x.1) + dem φ l
def pf (h : Bool) (tr : List Tk) (F : List Int) : List Pi := tr.zipWith (fun t f => ⟨t.fr, t.to, t.cap h, f, false⟩) F
structure Net.Feas (N : Net) (h : Bool) (ds F : List Int) : Prop where
  len : F.length = N.tr.length
  fit : Fit (pf h N.tr F)
  dv : ∀ φ, dv φ (pf h N.tr F) = dem φ (N.ch.zip ds)
/-- The least flow. -/
def Net.Least (N : Net) (h : Bool) (ds F : List Int) : Prop := N.Feas h ds F ∧ ∀ (k : Nat) (G : List Int), N.Feas h ds G → (∀ i, i < k → G[i]? = F[i]?) → ∀ f g : Int, F[k]? = some f → G[k]? = some g → f ≤ g
theorem Net.Least.uniq {N : Net} {h : Bool} {ds F G : List Int} (hF : N.Least h ds F) (hG : N.Least h ds G) : F = G := by
  have key : ∀ k : Nat, ∀ i, i < k → F[i]? = G[i]? := by
    intro k
    induction k with
    | zero => intro i hi; omega
    | succ k ih =>
      intro i hi
      by_cases e : i = k
      · subst e
        have l1 := hF.1.len
        have l2 := hG.1.len
        cases hf : F[i]? with
        | none =>
          rw [List.getElem?_eq_none_iff] at hf
          rw [List.getElem?_eq_none (by omega)]
        | some f =>
          have hlt := (List.getElem?_eq_some_iff.1 hf).1
          obtain ⟨g, hg⟩ : ∃ g, G[i]? = some g := ⟨_, List.getElem?_eq_getElem (by omega)⟩
          have h1 := hF.2 i G hG.1 (fun j hj => (ih j hj).symm) f g hf hg
          have h2 := hG.2 i F hF.1 ih g f hg hf
          rw [hg]
          congr 1
          omega
      · exact ih i (by omega)
  refine List.ext_getElem? fun i => key (i + 1) i (by omega)
end Go.Flow
