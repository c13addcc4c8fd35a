/- Chapter 14: what the reference's path keeps. -/
import Derived.Test.YtjjecadfcndkaaaGiv
namespace Go.Proofs.Ytjjecadfcndkaaa
open Go.RowKit Go.Kq Go.Flow

def a4 (p : Pi) : List Value := [.int .i64 p.fr, .int .i64 p.to, .int .i64 p.mo, .int .i64 p.fl]
theorem a4_len (p : Pi) : (a4 p).length = 4 := rfl
theorem rd_arc {w : World} {A : Option Addr} {n : Nat} {l : List Pi} (h : Rd a4 4 w A n l) {k : Nat} {p : Pi} (hp : l[k]? = some p) :
    ∃ b o, A = some ⟨b, o, none⟩ ∧ b < w.heap.size ∧ w.cell? ⟨b, o + k * 4, none⟩ = some (.int .i64 p.fr) ∧ w.cell? ⟨b, o + k * 4 + 1, none⟩ = some (.int .i64 p.to) ∧ w.cell? ⟨b, o + k * 4 + 2, none⟩ = some (.int .i64 p.mo) ∧ w.cell? ⟨b, o + k * 4 + 3, none⟩ = some (.int .i64 p.fl) := by
  obtain ⟨b, o, hA, hb, hc⟩ := h.2 k p hp
  have x0 := hc 0 _ rfl
  rw [Nat.add_zero] at x0
  exact ⟨b, o, hA, hb, x0, hc 1 _ rfl, hc 2 _ rfl, hc 3 _ rfl⟩
/-- How the reference writes a step. -/
def cd : Option Stp → Int
  | none => 0
  | some s => if s.fw then (s.j : Int) else -1 - (s.j : Int)
def cdV (s : Stp) : Value := .int .i64 (cd (some s))
def tRow (n : Nat) (R : Nat → Bool) : List Value := (List.range n).map fun v => Value.bool (R v)
def updT (R : Nat → Bool) (v : Nat) (b : Bool) : Nat → Bool := fun u => if u = v then b else R u
theorem tRow_at {n v : Nat} (R : Nat → Bool) (hv : v < n) : (tRow n R)[v]? = some (.bool (R v)) := by
  unfold tRow
  rw [List.getElem?_map, List.getElem?_range hv]
  rfl
theorem tRow_set (n : Nat) (R : Nat → Bool) (v : Nat) (b : Bool) : (tRow n R).set v (.bool b) = tRow n (updT R v b) := by
  apply List.ext_getElem
  · simp [tRow]
  · intro i h1 h2
    rw [List.getElem_set]
    by_cases e : v = i
    · subst e
      simp [tRow, updT]
    · simp [tRow, updT, e, Ne.symm e]
theorem own_zero (w : World) (E : TypeId) (z : Value) (n base : Nat) (hn : n ≤ 100000) (hb : base ≤ w.heap.size) : (w.alloc (.cells (List.replicate n z).toArray E)).ownsRow base E 1 (.slice (some ⟨w.heap.size, 0, none⟩) n n) n (List.replicate n z) := by
  refine ⟨by simp, .inr ⟨_, n, (List.replicate n z).toArray, rfl, hb, heap_alloc_new w _, Nat.le_refl _, ?_, ?_, ?_⟩⟩
  · unfold maxLen; omega
  · simp
  · simp
theorem tRow_none (n : Nat) : tRow n (fun _ => false) = List.replicate n (Value.bool false) := by
  apply List.ext_getElem
  · simp [tRow]
  · intro i h1 h2
    simp [tRow]
theorem updT_rs (fr : Nat) : updT (fun _ => false) fr true = Rs fr (fun _ => none) := funext fun v => by
  unfold updT Rs
  by_cases e : v = fr <;> simp [e]
theorem updT_put (fr : Nat) (b : Nat → Option Stp) (v : Nat) (s : Stp) : updT (Rs fr b) v true = Rs fr (Flow.put b v s) := funext fun u => by
  unfold updT
  by_cases e : u = v
  · subst e
    simp [Rs, put_at]
  · simp [Rs, e, put_ne b s e]
theorem upd_put (b : Nat → Option Stp) (v : Nat) (s : Stp) : upd (fun u => cd (b u)) v (cd (some s)) = fun u => cd (Flow.put b v s u) := funext fun u => by
  by_cases e : u = v
  · subst e
    rw [upd_at, put_at]
  · rw [upd_ne _ _ e, put_ne b s e]
def Two (H : Nat) : Nat → Prop := fun k => k = H ∨ k = H + 1
/-- What holds while the levels are gone through. -/
structure PI (w wr : World) (H n fr : Nat) (L : List Pi) (b : Nat → Option Stp) (xs : List Nat) (q : Value) : Prop where
  by_ : wr.ownsRow H 3 1 (.slice (some ⟨H, 0, none⟩) n n) n (ndRow n fun v => cd (b v))
  kn : wr.ownsRow H 4 1 (.slice (some ⟨H + 1, 0, none⟩) n n) n (tRow n (Rs fr b))
  re : wr.ownsRow (H + 1 + 1) 3 1 q xs.length (xs.map natV)
  lab : Lab L fr b xs.length
  le : ∀ v, b v ≠ none → v < n
  al : ∀ v, Rs fr b v = true → v ∈ xs
  xl : ∀ x ∈ xs, x < n ∧ Rs fr b x = true
  ct : xs.length + free b n = n + 1
  kp : Kp No w wr
theorem PI.same {w wr w2 : World} {H n fr : Nat} {L : List Pi} {b : Nat → Option Stp} {xs : List Nat} {q : Value} (h : PI w wr H n fr L b xs q) (hk : Kp No wr w2) : PI w w2 H n fr L b xs q :=
  ⟨own_kp h.by_ hk (fun _ _ h => h), own_kp h.kn hk (fun _ _ h => h), own_kp h.re hk (fun _ _ h => h), h.lab, h.le, h.al, h.xl, h.ct, h.kp.tr hk⟩
theorem free_none : ∀ n, free (fun _ => none) n = n
  | 0 => rfl
  | n + 1 => by simp [free, free_none n]
theorem PI.start {w wr : World} {H n fr : Nat} {L : List Pi} {q : Value} (h1 : wr.ownsRow H 3 1 (.slice (some ⟨H, 0, none⟩) n n) n (List.replicate n (.int .i64 0))) (h2 : wr.ownsRow H 4 1 (.slice (some ⟨H + 1, 0, none⟩) n n) n (tRow n (updT (fun _ => false) fr true))) (h3 : wr.ownsRow (H + 1 + 1) 3 1 q 1 [natV fr]) (hf : fr < n) (hk : Kp No w wr) : PI w wr H n fr L (fun _ => none) [fr] q :=
  ⟨by rw [← ndRow_zero] at h1; exact h1, by rw [updT_rs] at h2; exact h2, h3, Lab.start L fr 1, fun v h => absurd rfl h, fun v h => by
    rcases rs_iff.1 h with rfl | h
    · simp
    · exact absurd rfl h, fun x hx => by
    simp at hx
    subst hx
    exact ⟨hf, by simp [Rs]⟩, by rw [free_none]; simp; omega, hk⟩
theorem PI.sets {w wr : World} {H n fr : Nat} {L : List Pi} {b : Nat → Option Stp} {xs : List Nat} {q : Value} (h : PI w wr H n fr L b xs q) (v : Nat) (s : Stp) {c : Int} (hc : c = cd (some s)) :
    ((wr.setCell ⟨H + 1, v, none⟩ (.bool true)).setCell ⟨H, v, none⟩ (.int .i64 c)).ownsRow H 3 1 (.slice (some ⟨H, 0, none⟩) n n) n (ndRow n fun u => cd (Flow.put b v s u)) ∧
    ((wr.setCell ⟨H + 1, v, none⟩ (.bool true)).setCell ⟨H, v, none⟩ (.int .i64 c)).ownsRow H 4 1 (.slice (some ⟨H + 1, 0, none⟩) n n) n (tRow n (Rs fr (Flow.put b v s))) ∧
    ((wr.setCell ⟨H + 1, v, none⟩ (.bool true)).setCell ⟨H, v, none⟩ (.int .i64 c)).ownsRow (H + 1 + 1) 3 1 q xs.length (xs.map natV) ∧
    Kp (Two H) wr ((wr.setCell ⟨H + 1, v, none⟩ (.bool true)).setCell ⟨H, v, none⟩ (.int .i64 c)) := by
  subst hc
  have k1 := kp_setOne wr (H + 1) v (.bool true)
  have k2 := kp_setOne (wr.setCell ⟨H + 1, v, none⟩ (.bool true)) H v (.int .i64 (cd (some s)))
  have b1 := own_kp h.by_ k1 (fun g hg e => by have e2 : g = H + 1 := e; have : some H = some g := hg; injection this; omega)
  have b2 := own_set b1 v (.int .i64 (cd (some s)))
  rw [ndRow_set, upd_put] at b2
  have c1 := own_set h.kn v (.bool true)
  rw [tRow_set, updT_put fr b v s] at c1
  have c2 := own_kp c1 k2 (fun g hg e => by have e2 : g = H := e; have : some (H + 1) = some g := hg; injection this; omega)
  have hre : ∀ g, q.ownBlock = some g → H + 1 + 1 ≤ g := fun g hg => (own_ge h.re hg).1
  have d1 := own_kp h.re k1 (fun g hg e => by have e2 : g = H + 1 := e; have := hre g hg; omega)
  have d2 := own_kp d1 k2 (fun g hg e => by have e2 : g = H := e; have := hre g hg; omega)
  exact ⟨b2, c2, d2, (k1.mono fun k _ e => .inr e).tr (k2.mono fun k _ e => .inl e)⟩
theorem PI.step {w wr W3 w4 : World} {H n fr : Nat} {L : List Pi} {b : Nat → Option Stp} {xs : List Nat} {q q' : Value} {s : Stp} {v x : Nat} (h : PI w wr H n fr L b xs q) (hH : w.heap.size = H)
    (hby : W3.ownsRow H 3 1 (.slice (some ⟨H, 0, none⟩) n n) n (ndRow n fun u => cd (Flow.put b v s u))) (hkn : W3.ownsRow H 4 1 (.slice (some ⟨H + 1, 0, none⟩) n n) n (tRow n (Rs fr (Flow.put b v s)))) (hK : Kp (Two H) wr W3)
    (ho : w4.ownsRow (H + 1 + 1) 3 1 q' (xs.length + 1) (xs.map natV ++ [.int .i64 (v : Int)])) (hg : W3.grownBy w4 q.ownBlock) (hR : Rch L s v x) (hx : Rs fr b x = true) (hv : v < n) (hn : Rs fr b v = false) : PI w w4 H n fr L (Flow.put b v s) (xs ++ [v]) q' := by
  have hre : ∀ g, q.ownBlock = some g → H + 1 + 1 ≤ g := fun g hg => (own_ge h.re hg).1
  have k4 : Kp (fun k => q.ownBlock = some k) W3 w4 := Kp.grown hg fun k e _ => e
  have hbn : b v = none := by
    cases hb : b v with
    | none => rfl
    | some t =>
      have h2 : Rs fr b v = true := rs_iff.2 (.inr (by rw [hb]; simp))
      rw [hn] at h2
      cases h2
  have hvf : v ≠ fr := fun e => by rw [rs_iff.2 (.inl e)] at hn; cases hn
  refine ⟨own_kp hby k4 (fun g hg e => ?_), own_kp hkn k4 (fun g hg e => ?_), ?_, ?_, fun u hu => ?_, fun u hu => ?_, fun y hy => ?_, ?_, ?_⟩
  · have : some H = some g := hg
    have := hre g e
    injections
    omega
  · have : some (H + 1) = some g := hg
    have := hre g e
    injections
    omega
  · rw [List.length_append, List.map_append]
    exact ho
  · rw [List.length_append]
    exact h.lab.add hvf hbn hR (rs_iff.1 hx)
  · by_cases e : u = v
    · omega
    · rw [put_ne b s e] at hu
      exact h.le u hu
  · rcases rs_put.1 hu with rfl | hu
    · simp
    · simp [h.al u hu]
  · rcases List.mem_append.1 hy with hy | hy
    · exact ⟨(h.xl y hy).1, rs_put.2 (.inr (h.xl y hy).2)⟩
    · simp at hy
      subst hy
      exact ⟨hv, rs_put.2 (.inl rfl)⟩
  · have h1 := free_put (s := s) hbn n
    rw [if_pos hv] at h1
    have := h.ct
    rw [List.length_append, List.length_singleton]
    omega
  · refine (h.kp.trans hK fun k hk e => ?_).trans k4 fun k hk e => ?_
    · rcases e with e | e <;> omega
    · have := hre k e
      omega
/-- What is known when a node is put in. -/
theorem PI.pre {w wr wd : World} {H n fr : Nat} {L : List Pi} {b : Nat → Option Stp} {xs : List Nat} {q u : Value} (h : PI w wr H n fr L b xs q) (hk : Kp No wr wd) (v : Nat) (s : Stp) {c : Int} (hc : c = cd (some s)) :
    (((wd.setCell ⟨H + 1, v, none⟩ (.bool true)).setCell ⟨H, v, none⟩ (.int .i64 c)).alloc (.cells #[u] 3)).ownsRow (H + 1 + 1) 3 1 q xs.length (xs.map natV) :=
  own_kp ((h.same hk).sets v s hc).2.2.1 (Kp.alloc No _ _) (fun _ _ h => h)
theorem PI.put {w wr wd w4 : World} {H n fr : Nat} {L : List Pi} {b : Nat → Option Stp} {xs : List Nat} {q q' : Value} {s : Stp} {v x : Nat} {c : Int} {o : Option Nat} (hg : (((wd.setCell ⟨H + 1, v, none⟩ (.bool true)).setCell ⟨H, v, none⟩ (.int .i64 c)).alloc (.cells #[.int .i64 (v : Int)] 3)).grownBy w4 o) (h : PI w wr H n fr L b xs q) (hk : Kp No wr wd) (hoq : o = q.ownBlock) (hc : c = cd (some s)) (hH : w.heap.size = H)
    (ho : w4.ownsRow (H + 1 + 1) 3 1 q' (xs.length + 1) (xs.map natV ++ [.int .i64 (v : Int)])) (hR : Rch L s v x) (hx : Rs fr b x = true) (hv : v < n) (hn : Rs fr b v = false) : PI w w4 H n fr L (Flow.put b v s) (xs ++ [v]) q' := by
  subst hoq
  obtain ⟨h1, h2, _, h4⟩ := (h.same hk).sets v s hc
  exact PI.step (h.same hk) hH (own_kp h1 (Kp.alloc No _ _) (fun _ _ h => h)) (own_kp h2 (Kp.alloc No _ _) (fun _ _ h => h)) (h4.tr (Kp.alloc _ _ _)) ho hg hR hx hv hn
theorem own_posn {w : World} {base n : Nat} {e : TypeId} {size : Nat} {v : Value} {xs : List Value} (h : w.ownsRow base e size v n xs) (hn : 0 < n) : ∃ g cap, v = .slice (some ⟨g, 0, none⟩) n cap := by
  obtain ⟨a, cap, rfl, _, _, hp⟩ := own_form h
  obtain ⟨g, rfl⟩ := hp hn
  exact ⟨g, cap, rfl⟩
theorem way_len {L : List Pi} {b : Nat → Option Stp} {fr m : Nat} (h : Lab L fr b m) {v : Nat} {l : List Stp} (hw : Flow.Way L b fr v l) : l.length ≤ m := by
  obtain ⟨r, h1, h2⟩ := h
  have key : ∀ {v : Nat} {l : List Stp}, Flow.Way L b fr v l → (v = fr ∧ l = []) ∨ (b v ≠ none ∧ l.length ≤ r v + 1) := by
    intro v l hw
    induction hw with
    | nil => exact .inl ⟨rfl, rfl⟩
    | @cons v u s l hv hb hR hw ih =>
      refine .inr ⟨by rw [hb]; simp, ?_⟩
      obtain ⟨_, u', hR', hu'⟩ := h2 v s hb
      have e : u' = u := by
        obtain ⟨p, hp, _, _, hs, _⟩ := hR
        obtain ⟨p', hp', _, _, hs', _⟩ := hR'
        rw [hp] at hp'
        cases hp'
        rw [← hs, ← hs']
      subst e
      rw [List.length_cons]
      rcases ih with ⟨_, rfl⟩ | ⟨hb2, ih⟩
      · simp
      · rcases hu' with rfl | ⟨_, hlt⟩
        · cases hw with
          | nil => simp
          | cons hne _ _ _ => exact absurd rfl hne
        · omega
  rcases key hw with ⟨_, rfl⟩ | ⟨hb, hl⟩
  · simp
  · have := h1 v hb
    omega
/-- What path returns. -/
def PathR (w : World) (L : List Pi) (n fr to : Nat) (e : Ending) (w' : World) : Prop :=
  Kp No w w' ∧ ((∃ b l v, Flow.Way L b fr to l ∧ Dist l ∧ l.length ≤ n + 1 ∧ e = .returned (.tuple #[v, .bool true]) ∧ w'.ownsRow w.heap.size 3 1 v l.length (l.map cdV)) ∨
    (∃ b m, Lab L fr b m ∧ Clo (Rs fr b) L ∧ Rs fr b to = false ∧ e = .returned (.tuple #[.slice none 0 0, .bool false])))
end Go.Proofs.Ytjjecadfcndkaaa
