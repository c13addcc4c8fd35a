/- Flows in networks of pipes: plain laws. No program in sight. -/
import Derived.Test.YtpkbpeeelpgmcaaGreatProg
namespace Go.Flow

structure Pi where
  fr : Nat
  to : Nat
  mo : Int
  fl : Int
  st : Bool
/-- What leaves along a potential. -/
def dv (φ : Nat → Int) : List Pi → Int
  | [] => 0
  | p :: l => p.fl * (φ p.fr - φ p.to) + dv φ l
def ind (R : Nat → Bool) (v : Nat) : Int := if R v then 1 else 0
/-- The outgoing capacity. -/
def cut (R : Nat → Bool) : List Pi → Int
  | [] => 0
  | p :: l => (if R p.fr && !R p.to then p.mo else 0) + cut R l
def Fit (L : List Pi) : Prop := ∀ p ∈ L, 0 ≤ p.fl ∧ p.fl ≤ p.mo
/-- No way leads out of the set. -/
def Clo (R : Nat → Bool) (L : List Pi) : Prop := ∀ p ∈ L, p.st = false → (R p.fr = true → p.fl < p.mo → R p.to = true) ∧ (R p.to = true → 0 < p.fl → R p.fr = true)

theorem dv_app (φ : Nat → Int) : ∀ A B : List Pi, dv φ (A ++ B) = dv φ A + dv φ B
  | [], B => by simp [dv]
  | p :: A, B => by
    simp only [List.cons_append, dv, dv_app φ A B]
    omega
theorem cut_app (R : Nat → Bool) : ∀ A B : List Pi, cut R (A ++ B) = cut R A + cut R B
  | [], B => by simp [cut]
  | p :: A, B => by
    simp only [List.cons_append, cut, cut_app R A B]
    omega
theorem Fit.cons {p : Pi} {l : List Pi} (h : Fit (p :: l)) : (0 ≤ p.fl ∧ p.fl ≤ p.mo) ∧ Fit l := ⟨h p (by simp), fun q hq => h q (by simp [hq])⟩
theorem ind_t {R : Nat → Bool} {v : Nat} (h : R v = true) : ind R v = 1 := by simp [ind, h]
theorem ind_f {R : Nat → Bool} {v : Nat} (h : R v = false) : ind R v = 0 := by simp [ind, h]
/-- What crosses one pipe. -/
theorem cross (R : Nat → Bool) (p : Pi) : p.fl * (ind R p.fr - ind R p.to) = (if R p.fr && !R p.to then p.fl else 0) - (if R p.to && !R p.fr then p.fl else 0) := by
  cases h1 : R p.fr <;> cases h2 : R p.to <;> simp [ind, h1, h2]
theorem weak (R : Nat → Bool) : ∀ L, Fit L → dv (ind R) L ≤ cut R L
  | [], _ => Int.le_refl _
  | p :: l, h => by
    have ih := weak R l h.cons.2
    have hp := h.cons.1
    simp only [dv, cut, cross]
    cases h1 : R p.fr <;> cases h2 : R p.to <;> simp <;> omega
theorem tight (R : Nat → Bool) : ∀ L, Fit L → (∀ p ∈ L, p.st = false) → Clo R L → dv (ind R) L = cut R L
  | [], _, _, _ => rfl
  | p :: l, h, hs, hc => by
    have ih := tight R l h.cons.2 (fun q hq => hs q (by simp [hq])) (fun q hq => hc q (by simp [hq]))
    have hp := h.cons.1
    have h3 := hc p (by simp) (hs p (by simp))
    simp only [dv, cut, cross]
    cases h1 : R p.fr <;> cases h2 : R p.to <;> simp [h1, h2] at h3 ⊢ <;> omega
theorem tight_clo (R : Nat → Bool) : ∀ L, Fit L → dv (ind R) L = cut R L → Clo R L
  | [], _, _ => fun p hp => by cases hp
  | p :: l, h, he => by
    have hw := weak R l h.cons.2
    have hp := h.cons.1
    simp only [dv, cut, cross] at he
    intro q hq hst
    rcases List.mem_cons.1 hq with rfl | hq
    · cases h1 : R q.fr <;> cases h2 : R q.to <;> simp [h1, h2] at he ⊢ <;> omega
    · refine tight_clo R l h.cons.2 ?_ q hq hst
      cases h1 : R p.fr <;> cases h2 : R p.to <;> simp [h1, h2] at he <;> omega

/-! ### ways -/
structure Stp where
  j : Nat
  fw : Bool
def Stp.src (s : Stp) (p : Pi) : Nat := if s.fw then p.fr else p.to
def Stp.dst (s : Stp) (p : Pi) : Nat := if s.fw then p.to else p.fr
def Stp.res (s : Stp) (p : Pi) : Int := if s.fw then p.mo - p.fl else p.fl
/-- A step by which a node is reached. -/
def Rch (L : List Pi) (s : Stp) (v : Nat) (u : Nat) : Prop := ∃ p, L[s.j]? = some p ∧ p.st = false ∧ s.dst p = v ∧ s.src p = u ∧ 0 < s.res p
/-- A way from a node back to the first one, as the labels say. -/
inductive Way (L : List Pi) (b : Nat → Option Stp) (fr : Nat) : Nat → List Stp → Prop
  | nil : Way L b fr fr []
  | cons {v u : Nat} {s : Stp} {l : List Stp} : v ≠ fr → b v = some s → Rch L s v u → Way L b fr u l → Way L b fr v (s :: l)
def Dist (l : List Stp) : Prop := l.Pairwise fun s t => s.j ≠ t.j
theorem way_of_rank {L : List Pi} {b : Nat → Option Stp} {fr : Nat} (r : Nat → Nat) (hr : ∀ v s, b v = some s → v ≠ fr ∧ ∃ u, Rch L s v u ∧ (u = fr ∨ (b u ≠ none ∧ r u < r v))) :
    ∀ (n : Nat) (v : Nat), r v < n → (v = fr ∨ b v ≠ none) → ∃ l, Way L b fr v l ∧ Dist l ∧ ∀ s ∈ l, ∃ x y, b x = some s ∧ Rch L s x y ∧ (x = v ∨ (v ≠ fr ∧ r x < r v)) ∧ (y = fr ∨ (b y ≠ none ∧ r y < r x))
  | 0, v, h, _ => by omega
  | n + 1, v, h, hv => by
    by_cases hf : v = fr
    · subst hf
      exact ⟨[], .nil, List.Pairwise.nil, fun s hs => by cases hs⟩
    · obtain ⟨s, hs⟩ : ∃ s, b v = some s := by
        cases hb : b v with
        | none => rcases hv with hv | hv; exact absurd hv hf; exact absurd hb hv
        | some s => exact ⟨s, rfl⟩
      obtain ⟨_, u, hR, hu⟩ := hr v s hs
      have hu2 : u = fr ∨ b u ≠ none := hu.imp id fun h => h.1
      rcases hu with rfl | ⟨hu, hlt⟩
      · refine ⟨[s], .cons hf hs hR .nil, List.pairwise_singleton _ _, fun t ht => ?_⟩
        simp at ht
        subst ht
        exact ⟨v, u, hs, hR, .inl rfl, .inl rfl⟩
      · obtain ⟨l, h1, h2, h3⟩ := way_of_rank r hr n u (by omega) hu2
        refine ⟨s :: l, .cons hf hs hR h1, List.pairwise_cons.2 ⟨fun t ht e => ?_, h2⟩, fun t ht => ?_⟩
        · obtain ⟨x, y, hx, hX, hxu, hy⟩ := h3 t ht
          have hxv : r x < r v := by
            rcases hxu with rfl | ⟨_, hxu⟩
            · exact hlt
            · omega
          obtain ⟨p, hp1, _, hp3, hp4, _⟩ := hR
          obtain ⟨q, hq1, _, hq3, hq4, _⟩ := hX
          rw [← e, hp1] at hq1
          cases hq1
          have hx0 := (hr x t hx).1
          have hu0 : u ≠ fr := by
            obtain ⟨s', hs'⟩ : ∃ s', b u = some s' := by
              cases hb : b u with
              | none => exact absurd hb hu
              | some s' => exact ⟨s', rfl⟩
            exact (hr u s' hs').1
          unfold Stp.dst Stp.src at *
          cases hsf : s.fw <;> cases htf : t.fw <;> simp only [hsf, htf, if_true, if_false, Bool.false_eq_true] at hp3 hp4 hq3 hq4
          · have : r v = r x := by rw [← hp3, ← hq3]
            omega
          · rcases hy with hy | ⟨_, hy⟩
            · rw [← hq4, hp3] at hy
              exact hf hy
            · rw [← hq4, hp3] at hy
              omega
          · rcases hy with hy | ⟨_, hy⟩
            · rw [← hq4, hp3] at hy
              exact hf hy
            · rw [← hq4, hp3] at hy
              omega
          · have : r v = r x := by rw [← hp3, ← hq3]
            omega
        · rcases List.mem_cons.1 ht with rfl | ht
          · exact ⟨v, u, hs, hR, .inl rfl, .inr ⟨hu, hlt⟩⟩
          · obtain ⟨x, y, hx, hX, hxu, hy⟩ := h3 t ht
            refine ⟨x, y, hx, hX, .inr ⟨hf, ?_⟩, hy⟩
            rcases hxu with rfl | ⟨_, hxu⟩
            · exact hlt
            · omega
/-- A way's pipe is laid with so much more. -/
def bump (n : Int) (s : Stp) (L : List Pi) : List Pi := L.modify s.j fun p => { p with fl := if s.fw then p.fl + n else p.fl - n }
def aug (n : Int) : List Stp → List Pi → List Pi
  | [], L => L
  | s :: l, L => aug n l (bump n s L)
theorem bump_len (n : Int) (s : Stp) (L : List Pi) : (bump n s L).length = L.length := by simp [bump]
theorem aug_len (n : Int) : ∀ (l : List Stp) (L : List Pi), (aug n l L).length = L.length
  | [], _ => rfl
  | s :: l, L => by rw [aug, aug_len n l, bump_len]
theorem bump_ne {n : Int} {s : Stp} {L : List Pi} {i : Nat} (h : s.j ≠ i) : (bump n s L)[i]? = L[i]? := by
  rw [bump, List.getElem?_modify]
  cases L[i]? <;> simp [h]
theorem bump_at {n : Int} {s : Stp} {L : List Pi} {p : Pi} (h : L[s.j]? = some p) : (bump n s L)[s.j]? = some { p with fl := if s.fw then p.fl + n else p.fl - n } := by
  rw [bump, List.getElem?_modify, h]
  simp
theorem aug_ne {n : Int} {i : Nat} : ∀ (l : List Stp) (L : List Pi), (∀ s ∈ l, s.j ≠ i) → (aug n l L)[i]? = L[i]?
  | [], _, _ => rfl
  | s :: l, L, h => by rw [aug, aug_ne l _ fun t ht => h t (by simp [ht]), bump_ne (h s (by simp))]
theorem dv_bump (φ : Nat → Int) (n : Int) : ∀ (L : List Pi) (s : Stp) (p : Pi), L[s.j]? = some p → dv φ (bump n s L) = dv φ L + n * (φ (s.src p) - φ (s.dst p))
  | [], s, p, h => by simp at h
  | q :: L, ⟨0, fw⟩, p, h => by
    simp at h
    subst h
    cases fw <;> simp only [bump, List.modify_zero_cons, dv, Stp.src, Stp.dst, if_true, if_false, Bool.false_eq_true]
    · rw [Int.sub_mul, show n * (φ q.to - φ q.fr) = -(n * (φ q.fr - φ q.to)) by rw [← Int.mul_neg, Int.neg_sub]]
      omega
    · rw [Int.add_mul]
      omega
  | q :: L, ⟨j + 1, fw⟩, p, h => by
    have := dv_bump φ n L ⟨j, fw⟩ p (by simpa using h)
    simp only [bump, List.modify_succ_cons, dv] at this ⊢
    rw [this]
    show _ = _ + n * (φ (Stp.src ⟨j, fw⟩ p) - φ (Stp.dst ⟨j, fw⟩ p))
    omega
theorem Way.congr {L L' : List Pi} {b : Nat → Option Stp} {fr : Nat} {v : Nat} {l : List Stp} (h : Way L b fr v l) (hc : ∀ s ∈ l, L'[s.j]? = L[s.j]?) : Way L' b fr v l := by
  induction h with
  | nil => exact .nil
  | cons hv hb hR _ ih =>
    obtain ⟨p, hp, rest⟩ := hR
    exact .cons hv hb ⟨p, (hc _ (by simp)).trans hp, rest⟩ (ih fun s hs => hc s (by simp [hs]))
theorem Way.dv {L : List Pi} {b : Nat → Option Stp} {fr : Nat} (φ : Nat → Int) (n : Int) {v : Nat} {l : List Stp} (h : Way L b fr v l) (hd : Dist l) : Flow.dv φ (aug n l L) = Flow.dv φ L + n * (φ fr - φ v) := by
  induction l generalizing L v with
  | nil =>
    cases h
    simp [aug]
  | cons s l ih =>
    cases h with
    | cons hv hb hR hw =>
      obtain ⟨p, hp, hst, h1, h2, h3⟩ := hR
      have hd' := List.pairwise_cons.1 hd
      have := ih (hw.congr (L' := bump n s L) fun t ht => bump_ne (hd'.1 t ht)) hd'.2
      rw [aug, this, dv_bump φ n L s p hp, h1, h2]
      have e : n * (φ fr - φ v) = n * (φ fr - φ ‹Nat›) + n * (φ ‹Nat› - φ v) := by rw [← Int.mul_add]; congr 1; omega
      rw [e]
      omega
/-- The skeleton stays, and what is stopped. -/
structure Same (L L' : List Pi) : Prop where
  len : L'.length = L.length
  at_ : ∀ (i : Nat) (p : Pi), L[i]? = some p → ∃ f : Int, L'[i]? = some { p with fl := f } ∧ (p.st = true → f = p.fl)
theorem Same.refl (L : List Pi) : Same L L := ⟨rfl, fun _ p h => ⟨p.fl, h, fun _ => rfl⟩⟩
theorem Same.trans {A B C : List Pi} (h : Same A B) (k : Same B C) : Same A C :=
  ⟨k.len.trans h.len, fun i p hp => by
    obtain ⟨f, h1, h2⟩ := h.at_ i p hp
    obtain ⟨g, k1, k2⟩ := k.at_ i _ h1
    exact ⟨g, k1, fun hs => (k2 hs).trans (h2 hs)⟩⟩
theorem Same.bump {L : List Pi} {n : Int} {s : Stp} (h : ∀ p, L[s.j]? = some p → p.st = false) : Same L (bump n s L) :=
  ⟨bump_len n s L, fun i p hp => by
    by_cases e : s.j = i
    · subst e
      exact ⟨_, bump_at hp, fun hs => by rw [h p hp] at hs; cases hs⟩
    · exact ⟨p.fl, by rw [bump_ne e, hp], fun _ => rfl⟩⟩
theorem Same.aug {b : Nat → Option Stp} {fr : Nat} {n : Int} {l : List Stp} {v : Nat} {L : List Pi} (h : Way L b fr v l) (hd : Dist l) : Same L (aug n l L) := by
  induction l generalizing L v with
  | nil => exact Same.refl L
  | cons s l ih =>
    cases h with
    | cons hv hb hR hw =>
      obtain ⟨p, hp, hst, _⟩ := hR
      have hd' := List.pairwise_cons.1 hd
      exact (Same.bump fun q hq => by rw [hp] at hq; cases hq; exact hst).trans (ih (hw.congr fun t ht => bump_ne (hd'.1 t ht)) hd'.2)
/-- The least that is left on a way. -/
def leastOf (L : List Pi) : List Stp → Int → Int
  | [], m => m
  | s :: l, m => leastOf L l (match L[s.j]? with | some p => min m (s.res p) | none => m)
theorem leastOf_le (L : List Pi) : ∀ (l : List Stp) (m : Int), leastOf L l m ≤ m ∧ ∀ s ∈ l, ∀ p, L[s.j]? = some p → leastOf L l m ≤ s.res p
  | [], m => ⟨Int.le_refl _, fun s hs => by cases hs⟩
  | s :: l, m => by
    have ih := leastOf_le L l (match L[s.j]? with | some p => min m (s.res p) | none => m)
    rw [leastOf]
    have h1 : (match L[s.j]? with | some p => min m (s.res p) | none => m) ≤ m := by
      split
      · exact Int.min_le_left _ _
      · exact Int.le_refl _
    refine ⟨Int.le_trans ih.1 h1, fun t ht p hp => ?_⟩
    rcases List.mem_cons.1 ht with rfl | ht
    · rw [hp] at ih ⊢
      exact Int.le_trans ih.1 (Int.min_le_right _ _)
    · exact ih.2 t ht p hp
theorem leastOf_pos {L : List Pi} {b : Nat → Option Stp} {fr : Nat} {v : Nat} {l : List Stp} (h : Way L b fr v l) : ∀ m, 0 < m → 0 < leastOf L l m := by
  induction h with
  | nil => exact fun m hm => hm
  | cons hv hb hR _ ih =>
    intro m hm
    obtain ⟨p, hp, _, _, _, h3⟩ := hR
    rw [leastOf, hp]
    exact ih _ (by show 0 < min m _; rw [Int.lt_min]; exact ⟨hm, h3⟩)
theorem Fit.get {L : List Pi} (h : Fit L) {i : Nat} {p : Pi} (hp : L[i]? = some p) : 0 ≤ p.fl ∧ p.fl ≤ p.mo := h p (List.mem_of_getElem? hp)
theorem Fit.bump {L : List Pi} {n : Int} {s : Stp} (h : Fit L) (hn : 0 ≤ n) (hs : ∀ p, L[s.j]? = some p → n ≤ s.res p) : Fit (bump n s L) := by
  intro q hq
  obtain ⟨i, hi⟩ := List.mem_iff_getElem?.1 hq
  by_cases e : s.j = i
  · subst e
    cases hp : L[s.j]? with
    | none =>
      have h1 := (List.getElem?_eq_some_iff.1 hi).1
      rw [bump_len] at h1
      rw [List.getElem?_eq_none_iff] at hp
      omega
    | some p =>
      rw [bump_at hp] at hi
      cases hi
      have h1 := h.get hp
      have h2 := hs p hp
      unfold Stp.res at h2
      cases hf : s.fw <;> simp [hf] at h2 ⊢ <;> omega
  · rw [bump_ne e] at hi
    exact h.get hi
theorem Fit.aug {b : Nat → Option Stp} {fr : Nat} {n : Int} (hn : 0 ≤ n) {l : List Stp} {v : Nat} {L : List Pi} (hf : Fit L) (h : Way L b fr v l) (hd : Dist l) (hl : ∀ s ∈ l, ∀ p, L[s.j]? = some p → n ≤ s.res p) : Fit (aug n l L) := by
  induction l generalizing L v with
  | nil => exact hf
  | cons s l ih =>
    cases h with
    | cons hv hb hR hw =>
      have hd' := List.pairwise_cons.1 hd
      refine ih (hf.bump hn (hl s (by simp))) (hw.congr fun t ht => bump_ne (hd'.1 t ht)) hd'.2 fun t ht p hp => ?_
      rw [bump_ne (hd'.1 t ht)] at hp
      exact hl t (by simp [ht]) p hp
theorem aug_zero : ∀ (l : List Stp) (L : List Pi), aug 0 l L = L
  | [], _ => rfl
  | s :: l, L => by
    have e : bump 0 s L = L := by
      refine List.ext_getElem? fun i => ?_
      by_cases e : s.j = i
      · subst e
        cases hp : L[s.j]? with
        | none =>
          rw [List.getElem?_eq_none_iff] at hp ⊢
          rw [bump_len]
          exact hp
        | some p =>
          rw [bump_at hp]
          obtain ⟨fr, to, mo, fl, st⟩ := p
          cases s.fw <;> simp
      · exact bump_ne e
    rw [aug, e, aug_zero l L]
/-- What a push comes to. -/
structure Pushed (L L' : List Pi) (s t : Nat) (d : Int) : Prop where
  same : Same L L'
  fit : Fit L'
  dv : ∀ φ, Flow.dv φ L' = Flow.dv φ L + d * (φ s - φ t)
theorem Pushed.refl {L : List Pi} (h : Fit L) (s t : Nat) : Pushed L L s t 0 := ⟨Same.refl L, h, fun φ => by simp⟩
theorem Pushed.trans {A B C : List Pi} {s t : Nat} {d e : Int} (h : Pushed A B s t d) (k : Pushed B C s t e) : Pushed A C s t (d + e) :=
  ⟨h.same.trans k.same, k.fit, fun φ => by rw [k.dv, h.dv, Int.add_mul]; omega⟩
theorem Pushed.way {L : List Pi} {b : Nat → Option Stp} {s t : Nat} {l : List Stp} {n : Int} (hf : Fit L) (h : Way L b s t l) (hd : Dist l) (hn : 0 ≤ n) (hl : ∀ s ∈ l, ∀ p, L[s.j]? = some p → n ≤ s.res p) : Pushed L (aug n l L) s t n :=
  ⟨Same.aug h hd, hf.aug hn h hd hl, fun φ => h.dv φ n hd⟩
end Go.Flow
