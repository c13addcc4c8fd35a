/- Chapter 09: the reference's Groups: the walk. -/
import Derived.Test.YtamjhpdgclbfgaaXNtA
namespace Go.Proofs.Ytamjhpdgclbfgaa
open Go.RowKit Go.Kq

theorem grpR_mem : ∀ (i : Nat) (T : List Nat), T ∈ grpR i → T.length = i ∧ cntF T ≤ i
  | 0, T, h => by
    simp [grpR] at h
    subst h
    exact ⟨rfl, Nat.le_refl _⟩
  | i + 1, T, h => by
    simp only [grpR, List.mem_flatMap, List.mem_map, List.mem_range] at h
    obtain ⟨L, hL, g, hg, rfl⟩ := h
    obtain ⟨h1, h2⟩ := grpR_mem i L hL
    exact ⟨by simp [h1], by rw [cntF_snoc]; omega⟩
def nxt (M : List (List Nat)) : List (List Nat) := M.flatMap fun T => (List.range (cntF T + 1)).map fun g => T ++ [g]
theorem nxt_len {i : Nat} : ∀ {M : List (List Nat)}, (∀ T ∈ M, cntF T ≤ i) → (nxt M).length ≤ M.length * (i + 1)
  | [], _ => by simp [nxt]
  | T :: M, h => by
    have e : nxt (T :: M) = ((List.range (cntF T + 1)).map fun g => T ++ [g]) ++ nxt M := rfl
    have h1 := h T (by simp)
    have h2 := nxt_len (i := i) (M := M) fun U hU => h U (by simp [hU])
    rw [e, List.length_append, List.length_map, List.length_range, List.length_cons, Nat.add_mul]
    omega
theorem grpR_len : ∀ i, i ≤ 7 → (grpR i).length ≤ 8 ^ i
  | 0, _ => by simp [grpR]
  | i + 1, h => by
    have h1 := grpR_len i (by omega)
    have h2 := nxt_len (i := i) (M := grpR i) fun T hT => (grpR_mem i T hT).2
    have h3 := Nat.mul_le_mul h1 (show i + 1 ≤ 8 by omega)
    rw [Nat.pow_succ]
    exact Nat.le_trans h2 h3
theorem nxt_snoc {M : List (List Nat)} {k : Nat} {T : List Nat} (h : M[k]? = some T) : nxt (M.take (k + 1)) = nxt (M.take k) ++ (List.range (cntF T + 1)).map fun g => T ++ [g] := by
  unfold nxt
  rw [List.take_add_one, h, List.flatMap_append]
  simp
/-- An element of a row of lists. -/
def LEl (g : Nat) (w : World) (v u : Value) (S : List Nat) : Prop := ∃ A n c, u = .slice A n c ∧ (A = none → n = 0 ∧ c = 0) ∧ RdI .i64 w A n (S.map Int.ofNat) ∧ ∀ b o, A = some ⟨b, o, none⟩ → g ≤ b ∧ b < w.heap.size ∧ v.ownBlock ≠ some b
def RowL (base : Nat) (w : World) (v : Value) (Ls : List (List Nat)) : Prop := ∃ us : List Value, us.length = Ls.length ∧ w.ownsRow base 57 1 v Ls.length us ∧ ∀ (i : Nat) u S, us[i]? = some u → Ls[i]? = some S → LEl base w v u S
/-- A slice of lists that is read alone; its blocks are g or behind. -/
def RdL (g : Nat) (w : World) (A : Option Addr) (n : Nat) (Ls : List (List Nat)) : Prop := Ls.length = n ∧ ∀ (i : Nat) S, Ls[i]? = some S → ∃ b o A' n' c', A = some ⟨b, o, none⟩ ∧ (g ≤ b ∧ b < w.heap.size) ∧ w.cell? ⟨b, o + i, none⟩ = some (.slice A' n' c') ∧ (A' = none → n' = 0 ∧ c' = 0) ∧ RdI .i64 w A' n' (S.map Int.ofNat) ∧ ∀ b o, A' = some ⟨b, o, none⟩ → g ≤ b ∧ b < w.heap.size
theorem RdL.kp {T : Nat → Prop} {g : Nat} {w w' : World} {A : Option Addr} {n : Nat} {Ls : List (List Nat)} (h : RdL g w A n Ls) (k : Kp T w w') (hT : ∀ b, g ≤ b → b < w.heap.size → ¬ T b) : RdL g w' A n Ls := ⟨h.1, fun i S hS => by
  obtain ⟨b, o, A', n', c', h1, h2, h3, h4, h5, h6⟩ := h.2 i S hS
  exact ⟨b, o, A', n', c', h1, ⟨h2.1, Nat.lt_of_lt_of_le h2.2 k.size⟩, k.cell h3 (hT b h2.1 h2.2), h4, h5.kp k (fun b o e hb => hT b (h6 b o e).1 hb), fun b o e => ⟨(h6 b o e).1, Nat.lt_of_lt_of_le (h6 b o e).2 k.size⟩⟩⟩
theorem RdL.no {g : Nat} {w w' : World} {A : Option Addr} {n : Nat} {Ls : List (List Nat)} (h : RdL g w A n Ls) (k : Kp No w w') : RdL g w' A n Ls := h.kp k fun _ _ _ h => h
theorem RdL.mono {g g' : Nat} {w : World} {A : Option Addr} {n : Nat} {Ls : List (List Nat)} (h : RdL g w A n Ls) (k : g' ≤ g) : RdL g' w A n Ls := ⟨h.1, fun i S hS => by
  obtain ⟨b, o, A', n', c', h1, h2, h3, h4, h5, h6⟩ := h.2 i S hS
  exact ⟨b, o, A', n', c', h1, ⟨Nat.le_trans k h2.1, h2.2⟩, h3, h4, h5, fun b o e => ⟨Nat.le_trans k (h6 b o e).1, (h6 b o e).2⟩⟩⟩
theorem RowL.nil (base : Nat) (w : World) : RowL base w (.slice none 0 0) [] := ⟨[], rfl, World.ownsRow_nil w _ _ _, fun i u S h => by simp at h⟩
theorem LEl.no {g : Nat} {w w' : World} {v u : Value} {S : List Nat} (h : LEl g w v u S) (k : Kp No w w') : LEl g w' v u S := by
  obtain ⟨A, n, c, h1, h2, h3, h4⟩ := h
  exact ⟨A, n, c, h1, h2, h3.no k, fun b o e => ⟨(h4 b o e).1, Nat.lt_of_lt_of_le (h4 b o e).2.1 k.size, (h4 b o e).2.2⟩⟩
theorem RowL.no {base : Nat} {w w' : World} {v : Value} {Ls : List (List Nat)} (h : RowL base w v Ls) (k : Kp No w w') : RowL base w' v Ls := by
  obtain ⟨us, h1, h2, h3⟩ := h
  exact ⟨us, h1, own_kp h2 k (fun _ _ h => h), fun i u S hu hS => (h3 i u S hu hS).no k⟩
theorem RowL.form {base : Nat} {w : World} {v : Value} {Ls : List (List Nat)} (h : RowL base w v Ls) : ∃ a c, v = .slice a Ls.length c := by
  obtain ⟨us, h1, h2, h3⟩ := h
  obtain ⟨a, c, h4, _⟩ := own_form h2
  exact ⟨a, c, h4⟩
theorem RowL.rd {base : Nat} {w : World} {A : Option Addr} {n c : Nat} {Ls : List (List Nat)} (h : RowL base w (.slice A n c) Ls) : RdL base w A n Ls := by
  obtain ⟨us, h1, h2, h3⟩ := h
  obtain ⟨a, c', h4, _, _, h6⟩ := own_form h2
  injection h4 with e1 e2 e3
  subst e1 e2 e3
  refine ⟨rfl, fun i S hS => ?_⟩
  have hi := (List.getElem?_eq_some_iff.1 hS).1
  obtain ⟨g, rfl⟩ := h6 (by omega)
  obtain ⟨u, hu⟩ : ∃ u, us[i]? = some u := ⟨_, List.getElem?_eq_getElem (by omega)⟩
  obtain ⟨A', n', c', rfl, q1, q2, q3⟩ := h3 i u S hu hS
  exact ⟨g, 0, A', n', c', rfl, own_ge h2 (g := g) rfl, by rw [Nat.zero_add]; exact own_cell h2 hu, q1, q2, fun b o e => ⟨(q3 b o e).1, (q3 b o e).2.1⟩⟩
/-- One list more behind a row of lists; the list's row is the last thing that was laid. -/
theorem RowL.snoc {base : Nat} {w1 w5 : World} {v v' : Value} {Ls : List (List Nat)} {S : List Nat} {B m n c : Nat} {A : Option Addr} (hB : base ≤ B) (hm : Ls.length = m) (hn : A = none → n = 0 ∧ c = 0) (hr : RdI .i64 w1 A n (S.map Int.ofNat)) (hA : ∀ b o, A = some ⟨b, o, none⟩ → B ≤ b ∧ b < w1.heap.size) (hv : ∀ b, v.ownBlock = some b → b < B)
    (hgrow : w1.grownBy w5 v.ownBlock) (hat : v'.ownBlock = v.ownBlock ∨ v'.ownBlock = some w1.heap.size) (us : List Value) (h1 : us.length = Ls.length) (h3 : ∀ (i : Nat) u S, us[i]? = some u → Ls[i]? = some S → LEl base w1 v u S)
    (hown : w5.ownsRow base 57 1 v' (m + 1) (us ++ [.slice A n c])) : RowL base w5 v' (Ls ++ [S]) := by
  subst hm
  have hk : Kp (fun k => v.ownBlock = some k) w1 w5 := Kp.grown hgrow fun k hk _ => hk
  have turn : ∀ b, b < w1.heap.size → v.ownBlock ≠ some b → v'.ownBlock ≠ some b := fun b h1 h2 e => by
    rcases hat with hat | hat
    · exact h2 (hat ▸ e)
    · rw [hat] at e
      injection e with e
      omega
  refine ⟨us ++ [.slice A n c], by simp [h1], by simpa using hown, fun i u T hu hT => ?_⟩
  rcases Nat.lt_or_ge i us.length with hi | hi
  · rw [List.getElem?_append_left hi] at hu
    rw [List.getElem?_append_left (by omega)] at hT
    obtain ⟨A', n', c', e1, e2, e3, e4⟩ := h3 i u T hu hT
    exact ⟨A', n', c', e1, e2, e3.kp hk (fun b o e _ => (e4 b o e).2.2), fun b o e => ⟨(e4 b o e).1, Nat.lt_of_lt_of_le (e4 b o e).2.1 hk.size, turn b (e4 b o e).2.1 (e4 b o e).2.2⟩⟩
  · rw [List.getElem?_append_right hi] at hu
    rw [List.getElem?_append_right (by omega)] at hT
    have h0 : i - us.length = 0 := by
      rcases Nat.eq_zero_or_pos (i - us.length) with h | h
      · exact h
      · rw [List.getElem?_eq_none (by simp; omega)] at hu
        cases hu
    rw [h0] at hu
    rw [← h1, h0] at hT
    simp at hu hT
    subst hu hT
    have fresh : ∀ b o, A = some ⟨b, o, none⟩ → v.ownBlock ≠ some b := fun b o e h => by
      have := (hA b o e).1
      have := hv b h
      omega
    exact ⟨A, n, c, rfl, hn, hr.kp hk (fun b o e _ h => fresh b o e h), fun b o e => ⟨Nat.le_trans hB (hA b o e).1, Nat.lt_of_lt_of_le (hA b o e).2 hk.size, turn b (hA b o e).2 (fresh b o e)⟩⟩
theorem infoIn : (Try.prog.info? 3).map (fun i => (i.zero, i.size, i.bytes)) = some (some (.int .i64 0), 1, 8) := by kernel_rfl
theorem infoSl : (Try.prog.info? 57).map (fun i => (i.zero, i.size, i.bytes)) = some (some (.slice none 0 0), 1, 24) := by kernel_rfl
end Go.Proofs.Ytamjhpdgclbfgaa
