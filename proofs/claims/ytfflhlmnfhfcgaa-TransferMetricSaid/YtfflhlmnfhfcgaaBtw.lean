/- Chapter 33: 'between' makes the balance of two lists. -/
import Derived.Test.YtfflhlmnfhfcgaaAdd
namespace Go.Proofs.Ytfflhlmnfhfcgaa
open Go.RowKit Go.Kq

theorem addAll_bd (t M : Int) (ht : -1 ≤ t ∧ t ≤ 1) : ∀ (vs : List Vc) (E : List (Key × Int)) (k : Nat), (∀ v ∈ vs, 0 ≤ v.q ∧ v.q ≤ 100) → (∀ j, -(M + 100 * k) ≤ bal E j ∧ bal E j ≤ M + 100 * k) →
    ∀ j, -(M + 100 * (k + vs.length : Nat)) ≤ bal (addAll t E vs) j ∧ bal (addAll t E vs) j ≤ M + 100 * (k + vs.length : Nat)
  | [], E, k, _, h => by simpa [addAll] using h
  | v :: vs, E, k, hq, h => by
    have h1 := hq v (by simp)
    have htq : -100 ≤ t * v.q ∧ t * v.q ≤ 100 := by
      have : t = -1 ∨ t = 0 ∨ t = 1 := by omega
      rcases this with rfl | rfl | rfl <;> omega
    have := addAll_bd t M ht vs (addV t E v) (k + 1) (fun u hu => hq u (by simp [hu])) (fun j => bal_addV t E v j (h j) (h v.key) htq)
    intro j
    have := this j
    simp only [List.length_cons, addAll, List.foldl_cons] at this ⊢
    rw [show k + (vs.length + 1) = k + 1 + vs.length by omega]
    exact this
def Sane (vs : List Vc) : Prop := ∀ v ∈ vs, 0 ≤ v.q ∧ v.q ≤ 100
def btw (xs ys : List Vc) : List (Key × Int) := addAll (-1) (addAll 1 [] xs) ys
theorem btw_bd {xs ys : List Vc} (hx : Sane xs) (hy : Sane ys) (j : Key) : -(100 * (xs.length + ys.length : Nat)) ≤ bal (btw xs ys) j ∧ bal (btw xs ys) j ≤ 100 * (xs.length + ys.length : Nat) := by
  have h1 := addAll_bd 1 0 (by omega) xs [] 0 hx (fun j => by simp [bal, get1])
  have h2 := addAll_bd (-1) 0 (by omega) ys (addAll 1 [] xs) xs.length hy (fun j => by have := h1 j; simpa using this) j
  simpa [btw] using h2

set_option maxHeartbeats 400000 in
theorem between_any (A B : Option Addr) (n m ca cb : Nat) (xs ys : List Vc) (w : World) (hx : RdV w A n xs) (hy : RdV w B m ys) (hn : n ≤ 100) (hm : m ≤ 100) (sx : Sane xs) (sy : Sane ys) :
    Calls Try.prog 34 #[.slice A n ca, .slice B m cb] w fun e w' => ∃ g, e = .returned (.map (some g)) ∧ w.heap.size ≤ g ∧ MapAt w' g ek (Value.int .i64) (btw xs ys) ∧ Kp No w w' := by
  have hmm := @run_makeMap Try.prog
  have hxl := hx.1
  have hyl := hy.1
  subst hxl hyl
  have b1 := addAll_bd 1 0 (by omega) xs [] 0 sx (fun j => by simp [bal, get1])
  have B1 := Lib.hid b1
  clear b1
  go_enter Try.func34, Try.ntmps34
  go_wp2_with fail
  refine (add_any w.heap.size _ ca 1 0 A xs [] _ (MapAt.made w ek _) (hx.no (Kp.alloc _ _ _)) (by omega) (by omega) sx (by omega) (fun j => by simp [bal, get1])).mono ?_
  rintro e w1 ⟨rfl, hm1, hk1⟩
  go_wp2_with fail
  refine (add_any w.heap.size _ cb (-1) (100 * xs.length) B ys _ _ hm1 ((hy.no (Kp.alloc _ _ _)).map (MapAt.made w ek (Value.int .i64)) hk1) (by omega) (by omega) sy (by omega) (fun j => by have := B1.out j; simp at this ⊢; omega)).mono ?_
  rintro e w2 ⟨rfl, hm2, hk2⟩
  go_wp2_with fail
  go_ret
  exact ⟨_, rfl, Nat.le_refl _, hm2, (Kp.alloc No w _).trans (hk1.tr hk2) (fun k hk h => absurd h (by unfold Kq.One; omega))⟩
end Go.Proofs.Ytfflhlmnfhfcgaa
