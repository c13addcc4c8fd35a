/- Demands that are met node by node: plain laws. No program in sight. · Chapter 14: the walk of the reference's Given. · Chapter 14: what the reference's path keeps. -/
import Derived.Test.YtpkbpeeelpgmcaaGreatXNwSup2
import Derived.Test.YtpkbpeeelpgmcaaGreatXNwRckM
namespace Go.Flow

def one (v u : Nat) : Int := if u = v then 1 else 0
def sumTo : Nat → (Nat → Int) → Int
  | 0, _ => 0
  | n + 1, f => sumTo n f + f n
theorem sumTo_zero : ∀ (n : Nat) (f : Nat → Int), (∀ v, v < n → f v = 0) → sumTo n f = 0
  | 0, _, _ => rfl
  | n + 1, f, h => by rw [sumTo, sumTo_zero n f fun v hv => h v (by omega), h n (by omega)]; rfl
theorem sumTo_congr : ∀ (n : Nat) (f g : Nat → Int), (∀ v, v < n → f v = g v) → sumTo n f = sumTo n g
  | 0, _, _, _ => rfl
  | n + 1, f, g, h => by rw [sumTo, sumTo, sumTo_congr n f g fun v hv => h v (by omega), h n (by omega)]
theorem sumTo_add (f g : Nat → Int) : ∀ n : Nat, sumTo n (fun v => f v + g v) = sumTo n f + sumTo n g
  | 0 => rfl
  | n + 1 => by simp only [sumTo, sumTo_add f g n]; omega
theorem sumTo_mul (c : Int) (f : Nat → Int) : ∀ n : Nat, sumTo n (fun v => c * f v) = c * sumTo n f
  | 0 => by simp [sumTo]
  | n + 1 => by simp only [sumTo, sumTo_mul c f n, Int.mul_add]
theorem sumTo_one (φ : Nat → Int) {u : Nat} : ∀ {n : Nat}, u < n → sumTo n (fun v => φ v * one v u) = φ u
  | 0, h => by omega
  | n + 1, h => by
    rw [sumTo]
    by_cases e : u = n
    · subst e
      rw [sumTo_zero u _ fun v hv => by simp [one, show u ≠ v by omega]]
      simp [one]
    · rw [sumTo_one φ (n := n) (by omega)]
      simp [one, e]
theorem dv_lin (φ : Nat → Int) (n : Nat) : ∀ L : List Pi, (∀ p ∈ L, p.fr < n ∧ p.to < n) → dv φ L = sumTo n fun v => φ v * dv (one v) L
  | [], _ => by
    rw [sumTo_zero n _ fun v _ => by simp [dv]]
    rfl
  | p :: l, h => by
    have ih := dv_lin φ n l fun q hq => h q (by simp [hq])
    have hp := h p (by simp)
    rw [dv, ih, sumTo_congr n (fun v => φ v * dv (one v) (p :: l)) (fun v => (p.fl * (φ v * one v p.fr) + (-p.fl) * (φ v * one v p.to)) + φ v * dv (one v) l) fun v _ => by
      simp only [dv, Int.mul_add, Int.mul_sub, Int.neg_mul]
      rw [Int.mul_left_comm, Int.mul_left_comm (φ v) p.fl]
      omega, sumTo_add, sumTo_add, sumTo_mul, sumTo_mul, sumTo_one φ hp.1, sumTo_one φ hp.2, Int.neg_mul, Int.mul_sub]
    omega
theorem dem_lin (φ : Nat → Int) (n : Nat) (hn : 0 < n) : ∀ l : List (Nat × Int), (∀ x ∈ l, x.1 < n) → dem φ l = sumTo n fun v => φ v * dem (one v) l
  | [], _ => by
    rw [sumTo_zero n _ fun v _ => by simp [dem]]
    rfl
  | x :: l, h => by
    have ih := dem_lin φ n hn l fun q hq => h q (by simp [hq])
    have hp := h x (by simp)
    rw [dem, ih, sumTo_congr n (fun v => φ v * dem (one v) (x :: l)) (fun v => (x.2 * (φ v * one v 0) + (-x.2) * (φ v * one v x.1)) + φ v * dem (one v) l) fun v _ => by
      simp only [dem, Int.mul_add, Int.mul_sub, Int.neg_mul]
      rw [Int.mul_left_comm, Int.mul_left_comm (φ v) x.2]
      omega, sumTo_add, sumTo_add, sumTo_mul, sumTo_mul, sumTo_one φ hn, sumTo_one φ hp, Int.neg_mul, Int.mul_sub]
    omega
theorem dv_flat (c : Int) : ∀ L : List Pi, dv (fun _ => c) L = 0
  | [] => rfl
  | p :: l => by rw [dv, dv_flat c l]; simp
theorem dem_flat (c : Int) : ∀ l : List (Nat × Int), dem (fun _ => c) l = 0
  | [] => rfl
  | x :: l => by rw [dem, dem_flat c l]; simp
theorem sumTo_last {f g : Nat → Int} : ∀ {n : Nat}, 0 < n → (∀ v, 1 ≤ v → v < n → f v = g v) → sumTo n f = sumTo n g → f 0 = g 0
  | 0, h, _, _ => by omega
  | n + 1, _, he, hs => by
    by_cases hn : n = 0
    · subst hn
      simpa [sumTo] using hs
    · rw [sumTo, sumTo, he n (by omega) (by omega)] at hs
      exact sumTo_last (n := n) (by omega) (fun v h1 h2 => he v h1 (by omega)) (by omega)
/-- What is met at every node but one is met along every potential. -/
theorem lin_all {n : Nat} (hn : 0 < n) {L : List Pi} {l : List (Nat × Int)} (hL : ∀ p ∈ L, p.fr < n ∧ p.to < n) (hl : ∀ x ∈ l, x.1 < n) (h : ∀ v, 1 ≤ v → v < n → dv (one v) L = dem (one v) l) (φ : Nat → Int) : dv φ L = dem φ l := by
  have h0 : dv (one 0) L = dem (one 0) l := by
    refine sumTo_last (f := fun v => dv (one v) L) (g := fun v => dem (one v) l) hn h ?_
    have h1 := dv_lin (fun _ => 1) n L hL
    have h2 := dem_lin (fun _ => 1) n hn l hl
    rw [dv_flat] at h1
    rw [dem_flat] at h2
    simp only [Int.one_mul] at h1 h2
    omega
  rw [dv_lin φ n L hL, dem_lin φ n hn l hl]
  refine sumTo_congr n _ _ fun v hv => ?_
  by_cases e : v = 0
  · subst e
    rw [h0]
  · rw [h v (by omega) hv]
theorem pf_mem {N : Net} (hN : N.Ok) {h : Bool} {F : List Int} : ∀ p ∈ pf h N.tr F, p.fr < N.n ∧ p.to < N.n := fun p hp => by
  obtain ⟨i, hi⟩ := List.mem_iff_getElem?.1 hp
  simp only [pf, List.getElem?_zipWith] at hi
  split at hi
  · rename_i t f ht hf
    cases hi
    have := hN.tk t (List.mem_of_getElem? ht)
    exact ⟨this.1, this.2.1⟩
  · cases hi
theorem pf_at {N : Net} {h : Bool} {F : List Int} {k : Nat} {t : Tk} {f : Int} (ht : N.tr[k]? = some t) (hf : F[k]? = some f) : (pf h N.tr F)[k]? = some ⟨t.fr, t.to, t.cap h, f, false⟩ := by
  simp only [pf, List.getElem?_zipWith, ht, hf]
theorem feas_iff {N : Net} (hN : N.Ok) {h : Bool} {ds F : List Int} (hF : F.length = N.tr.length) :
    N.Feas h ds F ↔ (∀ (i : Nat) (f : Int) (t : Tk), F[i]? = some f → N.tr[i]? = some t → 0 ≤ f ∧ f ≤ t.cap h) ∧ ∀ v, 1 ≤ v → v < N.n → dv (one v) (pf h N.tr F) - dem (one v) (N.ch.zip ds) = 0 := by
  constructor
  · intro hf
    refine ⟨fun i f t h1 h2 => hf.fit.get (pf_at h2 h1), fun v _ _ => ?_⟩
    rw [hf.dv]
    omega
  · rintro ⟨h1, h2⟩
    refine ⟨hF, fun p hp => ?_, lin_all hN.n1 (pf_mem hN) (fun x hx => (hN.ck x.1 (mem_zip_fst hx)).2) fun v a b => by have := h2 v a b; omega⟩
    obtain ⟨i, hi⟩ := List.mem_iff_getElem?.1 hp
    have hi0 := hi
    simp only [pf, List.getElem?_zipWith] at hi
    split at hi
    · rename_i t f ht hf
      cases hi
      exact h1 i f t hf ht
    · cases hi

/-! ### sums kept at the nodes -/
def upd (nd : Nat → Int) (v : Nat) (x : Int) : Nat → Int := fun u => if u = v then x else nd u
theorem upd_at (nd : Nat → Int) (v : Nat) (x : Int) : upd nd v x v = x := by simp [upd]
theorem upd_ne (nd : Nat → Int) {v u : Nat} (x : Int) (h : u ≠ v) : upd nd v x u = nd u := by simp [upd, h]
theorem dem_app (φ : Nat → Int) : ∀ l k : List (Nat × Int), dem φ (l ++ k) = dem φ l + dem φ k
  | [], k => by simp [dem]
  | x :: l, k => by
    simp only [List.cons_append, dem, dem_app φ l k]
    omega
theorem dem_one_none {v : Nat} (hv : 1 ≤ v) : ∀ l : List (Nat × Int), (∀ x ∈ l, x.1 ≠ v) → dem (one v) l = 0
  | [], _ => rfl
  | x :: l, h => by
    rw [dem, dem_one_none hv l fun y hy => h y (by simp [hy])]
    simp [one, h x (by simp), show (0 : Nat) ≠ v by omega]
/-- A chest is asked. -/
theorem ask_step {l : List (Nat × Int)} {k c : Nat} {d : Int} {nd : Nat → Int} (hx : l[k]? = some (c, d)) (hc : 1 ≤ c) (hne : ∀ x ∈ l.take k, x.1 ≠ c) (h : ∀ v, 1 ≤ v → nd v = - dem (one v) (l.take k)) : ∀ v, 1 ≤ v → upd nd c d v = - dem (one v) (l.take (k + 1)) := fun v hv => by
  rw [List.take_add_one, hx]
  simp only [Option.toList, dem_app, dem]
  by_cases e : v = c
  · subst e
    rw [upd_at, dem_one_none hv _ hne]
    simp [one, show (0 : Nat) ≠ v by omega]
  · rw [upd_ne _ _ e, h v hv]
    simp [one, show (0 : Nat) ≠ v by omega, show c ≠ v by omega]
/-- A trunk's flow is booked. -/
theorem book_step {P : List Pi} {k : Nat} {p : Pi} {z : Nat → Int} {nd : Nat → Int} (hp : P[k]? = some p) (hne : p.fr ≠ p.to) (h : ∀ v, 1 ≤ v → nd v = dv (one v) (P.take k) - z v) : ∀ v, 1 ≤ v → upd (upd nd p.to (nd p.to - p.fl)) p.fr (nd p.fr + p.fl) v = dv (one v) (P.take (k + 1)) - z v := fun v hv => by
  rw [List.take_add_one, hp]
  simp only [Option.toList, dv_app, dv]
  by_cases e : v = p.fr
  · subst e
    rw [upd_at, h _ hv]
    simp [one, Ne.symm hne]
    omega
  · rw [upd_ne _ _ e]
    by_cases e2 : v = p.to
    · subst e2
      rw [upd_at, h _ hv]
      simp [one, hne]
      omega
    · rw [upd_ne _ _ e2, h v hv]
      simp [one, Ne.symm e, Ne.symm e2]
theorem upd_bd {nd : Nat → Int} {M x : Int} {c : Nat} (h : ∀ v, -M ≤ nd v ∧ nd v ≤ M) (hx : -M ≤ x ∧ x ≤ M) : ∀ v, -M ≤ upd nd c x v ∧ upd nd c x v ≤ M := fun v => by
  unfold upd
  split
  · exact hx
  · exact h v
end Go.Flow

namespace Go.Proofs.YtpkbpeeelpgmcaaGreat
open Go.RowKit Go.Kq Go.Flow

/-- A row of sums at the nodes. -/
def ndRow (n : Nat) (nd : Nat → Int) : List Value := (List.range n).map fun v => Value.int .i64 (nd v)
theorem ndRow_len (n : Nat) (nd : Nat → Int) : (ndRow n nd).length = n := by simp [ndRow]
theorem ndRow_at {n v : Nat} (nd : Nat → Int) (hv : v < n) : (ndRow n nd)[v]? = some (.int .i64 (nd v)) := by
  unfold ndRow
  rw [List.getElem?_map, List.getElem?_range hv]
  rfl
theorem ndRow_set (n : Nat) (nd : Nat → Int) (v : Nat) (x : Int) : (ndRow n nd).set v (.int .i64 x) = ndRow n (upd nd v x) := by
  apply List.ext_getElem
  · simp [ndRow]
  · intro i h1 h2
    rw [List.getElem_set]
    by_cases e : v = i
    · subst e
      simp [ndRow, upd]
    · simp [ndRow, upd, e, Ne.symm e]
theorem ndRow_zero (n : Nat) : ndRow n (fun _ => 0) = List.replicate n (Value.int .i64 0) := by
  apply List.ext_getElem
  · simp [ndRow]
  · intro i h1 h2
    simp [ndRow]
theorem own_nds (w : World) (n : Nat) (hn : n ≤ 100000) : (w.alloc (.cells (List.replicate n (Value.int .i64 0)).toArray 2)).ownsRow w.heap.size 2 1 (.slice (some ⟨w.heap.size, 0, none⟩) n n) n (ndRow n fun _ => 0) := by
  rw [ndRow_zero]
  refine ⟨by simp, .inr ⟨_, n, (List.replicate n (Value.int .i64 0)).toArray, rfl, Nat.le_refl _, heap_alloc_new w _, Nat.le_refl _, ?_, ?_, ?_⟩⟩
  · unfold maxLen; omega
  · simp
  · simp
theorem nd_set {w wr : World} {base n g c : Nat} {nd : Nat → Int} {x : Int} (ho : wr.ownsRow base 2 1 (.slice (some ⟨g, 0, none⟩) n n) n (ndRow n nd)) (hk : Kp No w wr) (hg : w.heap.size ≤ g) :
    ((wr.setCell ⟨g, c, none⟩ (.int .i64 x)).drew).ownsRow base 2 1 (.slice (some ⟨g, 0, none⟩) n n) n (ndRow n (upd nd c x)) ∧ Kp No w ((wr.setCell ⟨g, c, none⟩ (.int .i64 x)).drew) := by
  refine ⟨?_, hk.trans ((kp_setOne wr g c _).tr (Kp.drew _ _)) fun k hk e => by have e2 : k = g := e; omega⟩
  rw [← ndRow_set]
  exact (Kp.drew (fun _ => False) _).owns (own_set ho c _) (fun _ _ h => h)
theorem zip_at {α β : Type} {l : List α} {m : List β} {k : Nat} {x : α} {y : β} (hx : l[k]? = some x) (hy : m[k]? = some y) : (l.zip m)[k]? = some (x, y) := List.getElem?_zip_eq_some.2 ⟨hx, hy⟩
theorem asc_ne {l : List Nat} {m : List Int} {k c : Nat} (ha : l.Pairwise (· < ·)) (hc : l[k]? = some c) : ∀ x ∈ (l.zip m).take k, x.1 ≠ c := fun x hx e => by
  obtain ⟨i, hi⟩ := List.mem_iff_getElem?.1 hx
  rw [List.getElem?_take] at hi
  split at hi
  · rename_i hik
    have h1 := (List.getElem?_zip_eq_some.1 hi).1
    obtain ⟨i1, e1⟩ := List.getElem?_eq_some_iff.1 h1
    obtain ⟨i2, e2⟩ := List.getElem?_eq_some_iff.1 hc
    have := List.pairwise_iff_getElem.1 ha i k i1 i2 hik
    omega
  · cases hi
/-- What Given says. -/
def GivR (N : Net) (hi : Bool) (ds fs : List Int) (w : World) (e : Ending) (w' : World) : Prop := ∃ r : Bool, e = .returned (.bool r) ∧ (r = true ↔ N.Feas hi ds fs) ∧ Kp No w w'
theorem book_bd {nd : Nat → Int} {k a b : Nat} {x y : Int} (h : ∀ v, -(1000000000000 * ((k : Int) + 1)) ≤ nd v ∧ nd v ≤ 1000000000000 * ((k : Int) + 1)) (hx : -(1000000000000 * (((k + 1 : Nat) : Int) + 1)) ≤ x ∧ x ≤ 1000000000000 * (((k + 1 : Nat) : Int) + 1)) (hy : -(1000000000000 * (((k + 1 : Nat) : Int) + 1)) ≤ y ∧ y ≤ 1000000000000 * (((k + 1 : Nat) : Int) + 1)) :
    ∀ v, -(1000000000000 * (((k + 1 : Nat) : Int) + 1)) ≤ upd (upd nd a x) b y v ∧ upd (upd nd a x) b y v ≤ 1000000000000 * (((k + 1 : Nat) : Int) + 1) :=
  upd_bd (M := 1000000000000 * (((k + 1 : Nat) : Int) + 1)) (upd_bd (M := 1000000000000 * (((k + 1 : Nat) : Int) + 1)) (fun v => by have := h v; omega) hx) hy
end Go.Proofs.YtpkbpeeelpgmcaaGreat

namespace Go.Proofs.YtpkbpeeelpgmcaaGreat
open Go.RowKit Go.Kq Go.Flow

def a4 (p : Pi) : List Value := [.int .i64 p.fr, .int .i64 p.to, .int .i64 p.mo, .int .i64 p.fl]
theorem a4_len (p : Pi) : (a4 p).length = 4 := rfl
theorem rd_arc {w : World} {A : Option Addr} {n : Nat} {l : List Pi} (h : Rd a4 4 w A n l) {k : Nat} {p : Pi} (hp : l[k]? = some p) :
    ∃ b o, A = some ⟨b, o, none⟩ ∧ b < w.heap.size ∧ w.cell? ⟨b, o + k * 4, none⟩ = some (.int .i64 p.fr) ∧ w.cell? ⟨b, o + k * 4 + 1, none⟩ = some (.int .i64 p.to) ∧ w.cell? ⟨b, o + k * 4 + 2, none⟩ = some (.int .i64 p.mo) ∧ w.cell? ⟨b, o + k * 4 + 3, none⟩ = some (.int .i64 p.fl) := by
  obtain ⟨b, o, hA, hb, hc⟩ := h.2 k p hp
  have x0 := hc 0 _ rfl
  rw [Nat.add_zero] at x0
  exact ⟨b, o, hA, hb, x0, hc 1 _ rfl, hc 2 _ rfl, hc 3 _ rfl⟩
/-- How the reference writes a step. -/
def cd : Option Stp → Int
  | none => 0
  | some s => if s.fw then (s.j : Int) else -1 - (s.j : Int)
def cdV (s : Stp) : Value := .int .i64 (cd (some s))
def tRow (n : Nat) (R : Nat → Bool) : List Value := (List.range n).map fun v => Value.bool (R v)
def updT (R : Nat → Bool) (v : Nat) (b : Bool) : Nat → Bool := fun u => if u = v then b else R u
theorem tRow_at {n v : Nat} (R : Nat → Bool) (hv : v < n) : (tRow n R)[v]? = some (.bool (R v)) := by
  unfold tRow
  rw [List.getElem?_map, List.getElem?_range hv]
  rfl
theorem tRow_set (n : Nat) (R : Nat → Bool) (v : Nat) (b : Bool) : (tRow n R).set v (.bool b) = tRow n (updT R v b) := by
  apply List.ext_getElem
  · simp [tRow]
  · intro i h1 h2
    rw [List.getElem_set]
    by_cases e : v = i
    · subst e
      simp [tRow, updT]
    · simp [tRow, updT, e, Ne.symm e]
theorem own_zero (w : World) (E : TypeId) (z : Value) (n base : Nat) (hn : n ≤ 100000) (hb : base ≤ w.heap.size) : (w.alloc (.cells (List.replicate n z).toArray E)).ownsRow base E 1 (.slice (some ⟨w.heap.size, 0, none⟩) n n) n (List.replicate n z) := by
  refine ⟨by simp, .inr ⟨_, n, (List.replicate n z).toArray, rfl, hb, heap_alloc_new w _, Nat.le_refl _, ?_, ?_, ?_⟩⟩
  · unfold maxLen; omega
  · simp
  · simp
theorem tRow_none (n : Nat) : tRow n (fun _ => false) = List.replicate n (Value.bool false) := by
  apply List.ext_getElem
  · simp [tRow]
  · intro i h1 h2
    simp [tRow]
theorem updT_rs (fr : Nat) : updT (fun _ => false) fr true = Rs fr (fun _ => none) := funext fun v => by
  unfold updT Rs
  by_cases e : v = fr <;> simp [e]
theorem updT_put (fr : Nat) (b : Nat → Option Stp) (v : Nat) (s : Stp) : updT (Rs fr b) v true = Rs fr (Flow.put b v s) := funext fun u => by
  unfold updT
  by_cases e : u = v
  · subst e
    simp [Rs, put_at]
  · simp [Rs, e, put_ne b s e]
theorem upd_put (b : Nat → Option Stp) (v : Nat) (s : Stp) : upd (fun u => cd (b u)) v (cd (some s)) = fun u => cd (Flow.put b v s u) := funext fun u => by
  by_cases e : u = v
  · subst e
    rw [upd_at, put_at]
  · rw [upd_ne _ _ e, put_ne b s e]
def Two (H : Nat) : Nat → Prop := fun k => k = H ∨ k = H + 1
/-- What holds while the levels are gone through. -/
structure PI (w wr : World) (H n fr : Nat) (L : List Pi) (b : Nat → Option Stp) (xs : List Nat) (q : Value) : Prop where
  by_ : wr.ownsRow H 3 1 (.slice (some ⟨H, 0, none⟩) n n) n (ndRow n fun v => cd (b v))
  kn : wr.ownsRow H 4 1 (.slice (some ⟨H + 1, 0, none⟩) n n) n (tRow n (Rs fr b))
  re : wr.ownsRow (H + 1 + 1) 3 1 q xs.length (xs.map natV)
  lab : Lab L fr b xs.length
  le : ∀ v, b v ≠ none → v < n
  al : ∀ v, Rs fr b v = true → v ∈ xs
  xl : ∀ x ∈ xs, x < n ∧ Rs fr b x = true
  ct : xs.length + free b n = n + 1
  kp : Kp No w wr
theorem PI.same {w wr w2 : World} {H n fr : Nat} {L : List Pi} {b : Nat → Option Stp} {xs : List Nat} {q : Value} (h : PI w wr H n fr L b xs q) (hk : Kp No wr w2) : PI w w2 H n fr L b xs q :=
  ⟨own_kp h.by_ hk (fun _ _ h => h), own_kp h.kn hk (fun _ _ h => h), own_kp h.re hk (fun _ _ h => h), h.lab, h.le, h.al, h.xl, h.ct, h.kp.tr hk⟩
theorem free_none : ∀ n, free (fun _ => none) n = n
  | 0 => rfl
  | n + 1 => by simp [free, free_none n]
theorem PI.start {w wr : World} {H n fr : Nat} {L : List Pi} {q : Value} (h1 : wr.ownsRow H 3 1 (.slice (some ⟨H, 0, none⟩) n n) n (List.replicate n (.int .i64 0))) (h2 : wr.ownsRow H 4 1 (.slice (some ⟨H + 1, 0, none⟩) n n) n (tRow n (updT (fun _ => false) fr true))) (h3 : wr.ownsRow (H + 1 + 1) 3 1 q 1 [natV fr]) (hf : fr < n) (hk : Kp No w wr) : PI w wr H n fr L (fun _ => none) [fr] q :=
  ⟨by rw [← ndRow_zero] at h1; exact h1, by rw [updT_rs] at h2; exact h2, h3, Lab.start L fr 1, fun v h => absurd rfl h, fun v h => by
    rcases rs_iff.1 h with rfl | h
    · simp
    · exact absurd rfl h, fun x hx => by
    simp at hx
    subst hx
    exact ⟨hf, by simp [Rs]⟩, by rw [free_none]; simp; omega, hk⟩
theorem PI.sets {w wr : World} {H n fr : Nat} {L : List Pi} {b : Nat → Option Stp} {xs : List Nat} {q : Value} (h : PI w wr H n fr L b xs q) (v : Nat) (s : Stp) {c : Int} (hc : c = cd (some s)) :
    ((wr.setCell ⟨H + 1, v, none⟩ (.bool true)).setCell ⟨H, v, none⟩ (.int .i64 c)).ownsRow H 3 1 (.slice (some ⟨H, 0, none⟩) n n) n (ndRow n fun u => cd (Flow.put b v s u)) ∧
    ((wr.setCell ⟨H + 1, v, none⟩ (.bool true)).setCell ⟨H, v, none⟩ (.int .i64 c)).ownsRow H 4 1 (.slice (some ⟨H + 1, 0, none⟩) n n) n (tRow n (Rs fr (Flow.put b v s))) ∧
    ((wr.setCell ⟨H + 1, v, none⟩ (.bool true)).setCell ⟨H, v, none⟩ (.int .i64 c)).ownsRow (H + 1 + 1) 3 1 q xs.length (xs.map natV) ∧
    Kp (Two H) wr ((wr.setCell ⟨H + 1, v, none⟩ (.bool true)).setCell ⟨H, v, none⟩ (.int .i64 c)) := by
  subst hc
  have k1 := kp_setOne wr (H + 1) v (.bool true)
  have k2 := kp_setOne (wr.setCell ⟨H + 1, v, none⟩ (.bool true)) H v (.int .i64 (cd (some s)))
  have b1 := own_kp h.by_ k1 (fun g hg e => by have e2 : g = H + 1 := e; have : some H = some g := hg; injection this; omega)
  have b2 := own_set b1 v (.int .i64 (cd (some s)))
  rw [ndRow_set, upd_put] at b2
  have c1 := own_set h.kn v (.bool true)
  rw [tRow_set, updT_put fr b v s] at c1
  have c2 := own_kp c1 k2 (fun g hg e => by have e2 : g = H := e; have : some (H + 1) = some g := hg; injection this; omega)
  have hre : ∀ g, q.ownBlock = some g → H + 1 + 1 ≤ g := fun g hg => (own_ge h.re hg).1
  have d1 := own_kp h.re k1 (fun g hg e => by have e2 : g = H + 1 := e; have := hre g hg; omega)
  have d2 := own_kp d1 k2 (fun g hg e => by have e2 : g = H := e; have := hre g hg; omega)
  exact ⟨b2, c2, d2, (k1.mono fun k _ e => .inr e).tr (k2.mono fun k _ e => .inl e)⟩
theorem PI.step {w wr W3 w4 : World} {H n fr : Nat} {L : List Pi} {b : Nat → Option Stp} {xs : List Nat} {q q' : Value} {s : Stp} {v x : Nat} (h : PI w wr H n fr L b xs q) (hH : w.heap.size = H)
    (hby : W3.ownsRow H 3 1 (.slice (some ⟨H, 0, none⟩) n n) n (ndRow n fun u => cd (Flow.put b v s u))) (hkn : W3.ownsRow H 4 1 (.slice (some ⟨H + 1, 0, none⟩) n n) n (tRow n (Rs fr (Flow.put b v s)))) (hK : Kp (Two H) wr W3)
    (ho : w4.ownsRow (H + 1 + 1) 3 1 q' (xs.length + 1) (xs.map natV ++ [.int .i64 (v : Int)])) (hg : W3.grownBy w4 q.ownBlock) (hR : Rch L s v x) (hx : Rs fr b x = true) (hv : v < n) (hn : Rs fr b v = false) : PI w w4 H n fr L (Flow.put b v s) (xs ++ [v]) q' := by
  have hre : ∀ g, q.ownBlock = some g → H + 1 + 1 ≤ g := fun g hg => (own_ge h.re hg).1
  have k4 : Kp (fun k => q.ownBlock = some k) W3 w4 := Kp.grown hg fun k e _ => e
  have hbn : b v = none := by
    cases hb : b v with
    | none => rfl
    | some t =>
      have h2 : Rs fr b v = true := rs_iff.2 (.inr (by rw [hb]; simp))
      rw [hn] at h2
      cases h2
  have hvf : v ≠ fr := fun e => by rw [rs_iff.2 (.inl e)] at hn; cases hn
  refine ⟨own_kp hby k4 (fun g hg e => ?_), own_kp hkn k4 (fun g hg e => ?_), ?_, ?_, fun u hu => ?_, fun u hu => ?_, fun y hy => ?_, ?_, ?_⟩
  · have : some H = some g := hg
    have := hre g e
    injections
    omega
  · have : some (H + 1) = some g := hg
    have := hre g e
    injections
    omega
  · rw [List.length_append, List.map_append]
    exact ho
  · rw [List.length_append]
    exact h.lab.add hvf hbn hR (rs_iff.1 hx)
  · by_cases e : u = v
    · omega
    · rw [put_ne b s e] at hu
      exact h.le u hu
  · rcases rs_put.1 hu with rfl | hu
    · simp
    · simp [h.al u hu]
  · rcases List.mem_append.1 hy with hy | hy
    · exact ⟨(h.xl y hy).1, rs_put.2 (.inr (h.xl y hy).2)⟩
    · simp at hy
      subst hy
      exact ⟨hv, rs_put.2 (.inl rfl)⟩
  · have h1 := free_put (s := s) hbn n
    rw [if_pos hv] at h1
    have := h.ct
    rw [List.length_append, List.length_singleton]
    omega
  · refine (h.kp.trans hK fun k hk e => ?_).trans k4 fun k hk e => ?_
    · rcases e with e | e <;> omega
    · have := hre k e
      omega
/-- What is known when a node is put in. -/
theorem PI.pre {w wr wd : World} {H n fr : Nat} {L : List Pi} {b : Nat → Option Stp} {xs : List Nat} {q u : Value} (h : PI w wr H n fr L b xs q) (hk : Kp No wr wd) (v : Nat) (s : Stp) {c : Int} (hc : c = cd (some s)) :
    (((wd.setCell ⟨H + 1, v, none⟩ (.bool true)).setCell ⟨H, v, none⟩ (.int .i64 c)).alloc (.cells #[u] 3)).ownsRow (H + 1 + 1) 3 1 q xs.length (xs.map natV) :=
  own_kp ((h.same hk).sets v s hc).2.2.1 (Kp.alloc No _ _) (fun _ _ h => h)
theorem PI.put {w wr wd w4 : World} {H n fr : Nat} {L : List Pi} {b : Nat → Option Stp} {xs : List Nat} {q q' : Value} {s : Stp} {v x : Nat} {c : Int} {o : Option Nat} (hg : (((wd.setCell ⟨H + 1, v, none⟩ (.bool true)).setCell ⟨H, v, none⟩ (.int .i64 c)).alloc (.cells #[.int .i64 (v : Int)] 3)).grownBy w4 o) (h : PI w wr H n fr L b xs q) (hk : Kp No wr wd) (hoq : o = q.ownBlock) (hc : c = cd (some s)) (hH : w.heap.size = H)
    (ho : w4.ownsRow (H + 1 + 1) 3 1 q' (xs.length + 1) (xs.map natV ++ [.int .i64 (v : Int)])) (hR : Rch L s v x) (hx : Rs fr b x = true) (hv : v < n) (hn : Rs fr b v = false) : PI w w4 H n fr L (Flow.put b v s) (xs ++ [v]) q' := by
  subst hoq
  obtain ⟨h1, h2, _, h4⟩ := (h.same hk).sets v s hc
  exact PI.step (h.same hk) hH (own_kp h1 (Kp.alloc No _ _) (fun _ _ h => h)) (own_kp h2 (Kp.alloc No _ _) (fun _ _ h => h)) (h4.tr (Kp.alloc _ _ _)) ho hg hR hx hv hn
theorem own_posn {w : World} {base n : Nat} {e : TypeId} {size : Nat} {v : Value} {xs : List Value} (h : w.ownsRow base e size v n xs) (hn : 0 < n) : ∃ g cap, v = .slice (some ⟨g, 0, none⟩) n cap := by
  obtain ⟨a, cap, rfl, _, _, hp⟩ := own_form h
  obtain ⟨g, rfl⟩ := hp hn
  exact ⟨g, cap, rfl⟩
theorem way_len {L : List Pi} {b : Nat → Option Stp} {fr m : Nat} (h : Lab L fr b m) {v : Nat} {l : List Stp} (hw : Flow.Way L b fr v l) : l.length ≤ m := by
  obtain ⟨r, h1, h2⟩ := h
  have key : ∀ {v : Nat} {l : List Stp}, Flow.Way L b fr v l → (v = fr ∧ l = []) ∨ (b v ≠ none ∧ l.length ≤ r v + 1) := by
    intro v l hw
    induction hw with
    | nil => exact .inl ⟨rfl, rfl⟩
    | @cons v u s l hv hb hR hw ih =>
      refine .inr ⟨by rw [hb]; simp, ?_⟩
      obtain ⟨_, u', hR', hu'⟩ := h2 v s hb
      have e : u' = u := by
        obtain ⟨p, hp, _, _, hs, _⟩ := hR
        obtain ⟨p', hp', _, _, hs', _⟩ := hR'
        rw [hp] at hp'
        cases hp'
        rw [← hs, ← hs']
      subst e
      rw [List.length_cons]
      rcases ih with ⟨_, rfl⟩ | ⟨hb2, ih⟩
      · simp
      · rcases hu' with rfl | ⟨_, hlt⟩
        · cases hw with
          | nil => simp
          | cons hne _ _ _ => exact absurd rfl hne
        · omega
  rcases key hw with ⟨_, rfl⟩ | ⟨hb, hl⟩
  · simp
  · have := h1 v hb
    omega
/-- What path returns. -/
def PathR (w : World) (L : List Pi) (n fr to : Nat) (e : Ending) (w' : World) : Prop :=
  Kp No w w' ∧ ((∃ b l v, Flow.Way L b fr to l ∧ Dist l ∧ l.length ≤ n + 1 ∧ e = .returned (.tuple #[v, .bool true]) ∧ w'.ownsRow w.heap.size 3 1 v l.length (l.map cdV)) ∨
    (∃ b m, Lab L fr b m ∧ Clo (Rs fr b) L ∧ Rs fr b to = false ∧ e = .returned (.tuple #[.slice none 0 0, .bool false])))
end Go.Proofs.YtpkbpeeelpgmcaaGreat
