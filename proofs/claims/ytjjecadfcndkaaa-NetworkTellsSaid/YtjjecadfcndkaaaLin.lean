/- Demands that are met node by node: plain laws. No program in sight. -/
import Derived.Test.YtjjecadfcndkaaaSup2
namespace Go.Flow

def one (v u : Nat) : Int := if u = v then 1 else 0
def sumTo : Nat → (Nat → Int) → Int
  | 0, _ => 0
  | n + 1, f => sumTo n f + f n
theorem sumTo_zero : ∀ (n : Nat) (f : Nat → Int), (∀ v, v < n → f v = 0) → sumTo n f = 0
  | 0, _, _ => rfl
  | n + 1, f, h => by rw [sumTo, sumTo_zero n f fun v hv => h v (by omega), h n (by omega)]; rfl
theorem sumTo_congr : ∀ (n : Nat) (f g : Nat → Int), (∀ v, v < n → f v = g v) → sumTo n f = sumTo n g
  | 0, _, _, _ => rfl
  | n + 1, f, g, h => by rw [sumTo, sumTo, sumTo_congr n f g fun v hv => h v (by omega), h n (by omega)]
theorem sumTo_add (f g : Nat → Int) : ∀ n : Nat, sumTo n (fun v => f v + g v) = sumTo n f + sumTo n g
  | 0 => rfl
  | n + 1 => by simp only [sumTo, sumTo_add f g n]; omega
theorem sumTo_mul (c : Int) (f : Nat → Int) : ∀ n : Nat, sumTo n (fun v => c * f v) = c * sumTo n f
  | 0 => by simp [sumTo]
  | n + 1 => by simp only [sumTo, sumTo_mul c f n, Int.mul_add]
theorem sumTo_one (φ : Nat → Int) {u : Nat} : ∀ {n : Nat}, u < n → sumTo n (fun v => φ v * one v u) = φ u
  | 0, h => by omega
  | n + 1, h => by
    rw [sumTo]
    by_cases e : u = n
    · subst e
      rw [sumTo_zero u _ fun v hv => by simp [one, show u ≠ v by omega]]
      simp [one]
    · rw [sumTo_one φ (n := n) (by omega)]
      simp [one, e]
theorem dv_lin (φ : Nat → Int) (n : Nat) : ∀ L : List Pi, (∀ p ∈ L, p.fr < n ∧ p.to < n) → dv φ L = sumTo n fun v => φ v * dv (one v) L
  | [], _ => by
    rw [sumTo_zero n _ fun v _ => by simp [dv]]
    rfl
  | p :: l, h => by
    have ih := dv_lin φ n l fun q hq => h q (by simp [hq])
    have hp := h p (by simp)
    rw [dv, ih, sumTo_congr n (fun v => φ v * dv (one v) (p :: l)) (fun v => (p.fl * (φ v * one v p.fr) + (-p.fl) * (φ v * one v p.to)) + φ v * dv (one v) l) fun v _ => by
      simp only [dv, Int.mul_add, Int.mul_sub, Int.neg_mul]
      rw [Int.mul_left_comm, Int.mul_left_comm (φ v) p.fl]
      omega, sumTo_add, sumTo_add, sumTo_mul, sumTo_mul, sumTo_one φ hp.1, sumTo_one φ hp.2, Int.neg_mul, Int.mul_sub]
    omega
theorem dem_lin (φ : Nat → Int) (n : Nat) (hn : 0 < n) : ∀ l : List (Nat × Int), (∀ x ∈ l, x.1 < n) → dem φ l = sumTo n fun v => φ v * dem (one v) l
  | [], _ => by
    rw [sumTo_zero n _ fun v _ => by simp [dem]]
    rfl
  | x :: l, h => by
    have ih := dem_lin φ n hn l fun q hq => h q (by simp [hq])
    have hp := h x (by simp)
    rw [dem, ih, sumTo_congr n (fun v => φ v * dem (one v) (x :: l)) (fun v => (x.2 * (φ v * one v 0) + (-x.2) * (φ v * one v x.1)) + φ v * dem (one v) l) fun v _ => by
      simp only [dem, Int.mul_add, Int.mul_sub, Int.neg_mul]
      rw [Int.mul_left_comm, Int.mul_left_comm (φ v) x.2]
      omega, sumTo_add, sumTo_add, sumTo_mul, sumTo_mul, sumTo_one φ hn, sumTo_one φ hp, Int.neg_mul, Int.mul_sub]
    omega
theorem dv_flat (c : Int) : ∀ L : List Pi, dv (fun _ => c) L = 0
  | [] => rfl
  | p :: l => by rw [dv, dv_flat c l]; simp
theorem dem_flat (c : Int) : ∀ l : List (Nat × Int), dem (fun _ => c) l = 0
  | [] => rfl
  | x :: l => by rw [dem, dem_flat c l]; simp
theorem sumTo_last {f g : Nat → Int} : ∀ {n : Nat}, 0 < n → (∀ v, 1 ≤ v → v < n → f v = g v) → sumTo n f = sumTo n g → f 0 = g 0
  | 0, h, _, _ => by omega
  | n + 1, _, he, hs => by
    by_cases hn : n = 0
    · subst hn
      simpa [sumTo] using hs
    · rw [sumTo, sumTo, he n (by omega) (by omega)] at hs
      exact sumTo_last (n := n) (by omega) (fun v h1 h2 => he v h1 (by omega)) (by omega)
/-- What is met at every node but one is met along every potential. -/
theorem lin_all {n : Nat} (hn : 0 < n) {L : List Pi} {l : List (Nat × Int)} (hL : ∀ p ∈ L, p.fr < n ∧ p.to < n) (hl : ∀ x ∈ l, x.1 < n) (h : ∀ v, 1 ≤ v → v < n → dv (one v) L = dem (one v) l) (φ : Nat → Int) : dv φ L = dem φ l := by
  have h0 : dv (one 0) L = dem (one 0) l := by
    refine sumTo_last (f := fun v => dv (one v) L) (g := fun v => dem (one v) l) hn h ?_
    have h1 := dv_lin (fun _ => 1) n L hL
    have h2 := dem_lin (fun _ => 1) n hn l hl
    rw [dv_flat] at h1
    rw [dem_flat] at h2
    simp only [Int.one_mul] at h1 h2
    omega
  rw [dv_lin φ n L hL, dem_lin φ n hn l hl]
  refine sumTo_congr n _ _ fun v hv => ?_
  by_cases e : v = 0
  · subst e
    rw [h0]
  · rw [h v (by omega) hv]
theorem pf_mem {N : Net} (hN : N.Ok) {h : Bool} {F : List Int} : ∀ p ∈ pf h N.tr F, p.fr < N.n ∧ p.to < N.n := fun p hp => by
  obtain ⟨i, hi⟩ := List.mem_iff_getElem?.1 hp
  simp only [pf, List.getElem?_zipWith] at hi
  split at hi
  · rename_i t f ht hf
    cases hi
    have := hN.tk t (List.mem_of_getElem? ht)
    exact ⟨this.1, this.2.1⟩
  · cases hi
theorem pf_at {N : Net} {h : Bool} {F : List Int} {k : Nat} {t : Tk} {f : Int} (ht : N.tr[k]? = some t) (hf : F[k]? = some f) : (pf h N.tr F)[k]? = some ⟨t.fr, t.to, t.cap h, f, false⟩ := by
  simp only [pf, List.getElem?_zipWith, ht, hf]
theorem feas_iff {N : Net} (hN : N.Ok) {h : Bool} {ds F : List Int} (hF : F.length = N.tr.length) :
    N.Feas h ds F ↔ (∀ (i : Nat) (f : Int) (t : Tk), F[i]? = some f → N.tr[i]? = some t → 0 ≤ f ∧ f ≤ t.cap h) ∧ ∀ v, 1 ≤ v → v < N.n → dv (one v) (pf h N.tr F) - dem (one v) (N.ch.zip ds) = 0 := by
  constructor
  · intro hf
    refine ⟨fun i f t h1 h2 => hf.fit.get (pf_at h2 h1), fun v _ _ => ?_⟩
    rw [hf.dv]
    omega
  · rintro ⟨h1, h2⟩
    refine ⟨hF, fun p hp => ?_, lin_all hN.n1 (pf_mem hN) (fun x hx => (hN.ck x.1 (mem_zip_fst hx)).2) fun v a b => by have := h2 v a b; omega⟩
    obtain ⟨i, hi⟩ := List.mem_iff_getElem?.1 hp
    have hi0 := hi
    simp only [pf, List.getElem?_zipWith] at hi
    split at hi
    · rename_i t f ht hf
      cases hi
      exact h1 i f t hf ht
    · cases hi

/-! ### sums kept at the nodes -/
def upd (nd : Nat → Int) (v : Nat) (x : Int) : Nat → Int := fun u => if u = v then x else nd u
theorem upd_at (nd : Nat → Int) (v : Nat) (x : Int) : upd nd v x v = x := by simp [upd]
theorem upd_ne (nd : Nat → Int) {v u : Nat} (x : Int) (h : u ≠ v) : upd nd v x u = nd u := by simp [upd, h]
theorem dem_app (φ : Nat → Int) : ∀ l k : List (Nat × Int), dem φ (l ++ k) = dem φ l + dem φ k
  | [], k => by simp [dem]
  | x :: l, k => by
    simp only [List.cons_append, dem, dem_app φ l k]
    omega
theorem dem_one_none {v : Nat} (hv : 1 ≤ v) : ∀ l : List (Nat × Int), (∀ x ∈ l, x.1 ≠ v) → dem (one v) l = 0
  | [], _ => rfl
  | x :: l, h => by
    rw [dem, dem_one_none hv l fun y hy => h y (by simp [hy])]
    simp [one, h x (by simp), show (0 : Nat) ≠ v by omega]
/-- A chest is asked. -/
theorem ask_step {l : List (Nat × Int)} {k c : Nat} {d : Int} {nd : Nat → Int} (hx : l[k]? = some (c, d)) (hc : 1 ≤ c) (hne : ∀ x ∈ l.take k, x.1 ≠ c) (h : ∀ v, 1 ≤ v → nd v = - dem (one v) (l.take k)) : ∀ v, 1 ≤ v → upd nd c d v = - dem (one v) (l.take (k + 1)) := fun v hv => by
  rw [List.take_add_one, hx]
  simp only [Option.toList, dem_app, dem]
  by_cases e : v = c
  · subst e
    rw [upd_at, dem_one_none hv _ hne]
    simp [one, show (0 : Nat) ≠ v by omega]
  · rw [upd_ne _ _ e, h v hv]
    simp [one, show (0 : Nat) ≠ v by omega, show c ≠ v by omega]
/-- A trunk's flow is booked. -/
theorem book_step {P : List Pi} {k : Nat} {p : Pi} {z : Nat → Int} {nd : Nat → Int} (hp : P[k]? = some p) (hne : p.fr ≠ p.to) (h : ∀ v, 1 ≤ v → nd v = dv (one v) (P.take k) - z v) : ∀ v, 1 ≤ v → upd (upd nd p.to (nd p.to - p.fl)) p.fr (nd p.fr + p.fl) v = dv (one v) (P.take (k + 1)) - z v := fun v hv => by
  rw [List.take_add_one, hp]
  simp only [Option.toList, dv_app, dv]
  by_cases e : v = p.fr
  · subst e
    rw [upd_at, h _ hv]
    simp [one, Ne.symm hne]
    omega
  · rw [upd_ne _ _ e]
    by_cases e2 : v = p.to
    · subst e2
      rw [upd_at, h _ hv]
      simp [one, hne]
      omega
    · rw [upd_ne _ _ e2, h v hv]
      simp [one, Ne.symm e, Ne.symm e2]
theorem upd_bd {nd : Nat → Int} {M x : Int} {c : Nat} (h : ∀ v, -M ≤ nd v ∧ nd v ≤ M) (hx : -M ≤ x ∧ x ≤ M) : ∀ v, -M ≤ upd nd c x v ∧ upd nd c x v ≤ M := fun v => by
  unfold upd
  split
  · exact hx
  · exact h v
end Go.Flow
