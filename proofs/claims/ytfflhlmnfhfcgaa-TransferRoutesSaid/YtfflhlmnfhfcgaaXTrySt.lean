/- Chapter 33: the closure that tries all choices. -/
import Derived.WalkSmall
import Derived.Test.YtfflhlmnfhfcgaaXCost
import Derived.Test.YtfflhlmnfhfcgaaXOpnM
namespace Go.Proofs.Ytfflhlmnfhfcgaa
open Go.RowKit Go.Kq

def subsAt (n most : Nat) : Nat → List Nat → Nat → List (List Nat)
  | 0, _, _ => []
  | k + 1, L, i => if i < n ∧ L.length < most then (L ++ [i]) :: (subsAt n most k (L ++ [i]) (i + 1) ++ subsAt n most k L (i + 1)) else []
def better (C : List Nat → Int) (s : List Nat × Int) (L : List Nat) : List Nat × Int := if C L < s.2 ∨ (C L = s.2 ∧ L.length < s.1.length) then (L, C L) else s
theorem subs_step {n m j : Nat} {L : List Nat} (h : j < n) (hm : L.length < m) : subsAt n m (n - j) L j = (L ++ [j]) :: (subsAt n m (n - (j + 1)) (L ++ [j]) (j + 1) ++ subsAt n m (n - (j + 1)) L (j + 1)) := by
  rw [show n - j = (n - (j + 1)) + 1 by omega]
  conv => lhs; unfold subsAt
  rw [if_pos ⟨h, hm⟩]
theorem subs_stop {n m k j : Nat} {L : List Nat} (h : ¬ (j < n ∧ L.length < m)) : subsAt n m k L j = [] := by
  cases k with
  | zero => rfl
  | succ k => unfold subsAt; rw [if_neg h]
theorem fold_step {n m j : Nat} {L : List Nat} {Cf : List Nat → Int} {s s1 s3 r0 : List Nat × Int} (h : j < n) (hm : L.length < m) (hF : (subsAt n m (n - j) L j).foldl (better Cf) s = r0) (hb : better Cf s (L ++ [j]) = s1)
    (h8 : (subsAt n m (n - n) (L ++ [j]) n).foldl (better Cf) s3 = (subsAt n m (n - (j + 1)) (L ++ [j]) (j + 1)).foldl (better Cf) s1) : (subsAt n m (n - (j + 1)) L (j + 1)).foldl (better Cf) s3 = r0 := by
  rw [subs_step h hm, List.foldl_cons, List.foldl_append, hb, ← h8, Nat.sub_self] at hF
  exact hF
def natV (i : Nat) : Value := .int .i64 i
/-- The blocks of what the closure captures, and of the rows that it makes. -/
structure St (B b D C n ca : Nat) (A : Option Addr) (ys : List Vc) (most : Int) (L : List Nat) (E : List (Key × Int)) (least : Int) (out : List Nat) (w : World) : Prop where
  size : C + 5 ≤ w.heap.size
  hav : w.heap[B]? = some (.cells #[.slice A n ca] 22 (0, 0))
  mst : w.heap[B + 1]? = some (.cells #[.int .i64 most] 3 (0, 0))
  bl : w.heap[D]? = some (.cells #[.map (some b)] 64 (0, 0))
  lst : w.heap[C + 1]? = some (.cells #[.int .i64 least] 2 (0, 0))
  rows : ∃ v o, w.heap[C + 2]? = some (.cells #[v] 23 (0, 0)) ∧ w.ownsRow (C + 5) 3 1 v L.length (L.map natV) ∧ w.heap[C + 3]? = some (.cells #[o] 23 (0, 0)) ∧ w.ownsRow (C + 5) 3 1 o out.length (out.map natV) ∧ ∀ g, v.ownBlock = some g → o.ownBlock ≠ some g
  tr : w.heap[C + 4]? = some (.cells #[.func (.func 51) #[] #[.pointer (some ⟨B, 0, none⟩), .pointer (some ⟨C + 2, 0, none⟩), .pointer (some ⟨B + 1, 0, none⟩), .pointer (some ⟨D, 0, none⟩), .pointer (some ⟨C + 1, 0, none⟩), .pointer (some ⟨C + 3, 0, none⟩), .pointer (some ⟨C + 4, 0, none⟩)]] 88 (0, 0))
  map : MapAt w b ek (Value.int .i64) E
  rd : RdV w A n ys
  ab : ys ≠ [] → ∀ bA oA, A = some ⟨bA, oA, none⟩ → bA < B
/-- What may turn. -/
def Tu (b C : Nat) : Nat → Prop := fun k => k = b ∨ k = C + 1 ∨ k = C + 2 ∨ k = C + 3 ∨ C + 5 ≤ k

theorem RdV.kp2 {w w' : World} {A : Option Addr} {n : Nat} {vs : List Vc} {S : Nat → Prop} (h : RdV w A n vs) (hk : Kp S w w') (hS : vs ≠ [] → ∀ b o, A = some ⟨b, o, none⟩ → ¬ S b) : RdV w' A n vs := by
  refine ⟨h.1, fun i v hv => ?_⟩
  obtain ⟨b, o, hA, hb, h0, h1, h2, h3⟩ := h.2 i v hv
  have hb' := hS (fun e => by rw [e] at hv; simp at hv) b o hA
  exact ⟨b, o, hA, Nat.lt_of_lt_of_le hb hk.size, hk.cell h0 hb', hk.cell h1 hb', hk.cell h2 hb', hk.cell h3 hb'⟩
theorem own_form {w : World} {base n : Nat} {e : TypeId} {size : Nat} {v : Value} {xs : List Value} (h : w.ownsRow base e size v n xs) : ∃ a cap, v = .slice a n cap ∧ n ≤ cap ∧ cap ≤ maxLen ∧ (0 < n → ∃ g, a = some ⟨g, 0, none⟩) := by
  rcases h.2 with ⟨rfl, rfl⟩ | ⟨g, cap, _, rfl, _, _, h1, h2, _⟩
  · exact ⟨none, 0, rfl, by omega, by omega, fun h => by omega⟩
  · exact ⟨_, cap, rfl, h1, h2, fun _ => ⟨g, rfl⟩⟩
theorem rdv_one (w : World) (v : Vc) : RdV (w.alloc (.cells #[.int .i64 v.d, .int .i64 v.p, .int .i64 v.f, .int .i64 v.q] 38)) (some ⟨w.heap.size, 0, none⟩) 1 [v] := by
  refine ⟨rfl, fun i u hu => ?_⟩
  match i, hu with
  | 0, hu =>
    simp at hu
    subst hu
    refine ⟨_, _, rfl, by simp, ?_, ?_, ?_, ?_⟩ <;> go_simp

/-- What is left of the profile when the voices of a list are taken. -/
def tk (g0 : Key → Int) (ys : List Vc) : List Nat → Key → Int
  | [], k => g0 k
  | i :: L, k => tk g0 ys L k - (match ys[i]? with | some v => if v.key = k then v.q else 0 | none => 0)
theorem tk_snoc (g0 : Key → Int) (ys : List Vc) (i : Nat) (v : Vc) (hv : ys[i]? = some v) (k : Key) : ∀ L : List Nat, tk g0 ys (L ++ [i]) k = tk g0 ys L k - (if v.key = k then v.q else 0)
  | [] => by simp [tk, hv]
  | j :: L => by
    have := tk_snoc g0 ys i v hv k L
    simp only [List.cons_append, tk, this]
    omega
theorem bal_addV_eq (t : Int) (E : List (Key × Int)) (v : Vc) (k : Key) : bal (addV t E v) k = bal E k + (if v.key = k then t * v.q else 0) := by
  unfold addV
  rw [bal_ins]
  split
  · rename_i h
    rw [h]
  · omega
theorem keys_addV (t : Int) (E : List (Key × Int)) (v : Vc) (U : List Key) (hv : v.key ∈ U) (hE : ∀ k ∈ keys E, k ∈ U) : ∀ k ∈ keys (addV t E v), k ∈ U := by
  intro k hk
  rcases (mem_keys_ins v.key _ E k).1 hk with h | h
  · rw [h]; exact hv
  · exact hE k h

/-- What the proof is told of the costs. -/
structure Costs (g0 : Key → Int) (ys : List Vc) (U : List Key) (Cf : List Nat → Int) : Prop where
  sane : Sane ys
  few : U.length ≤ 1000
  inU : ∀ v ∈ ys, v.key ∈ U
  bd : ∀ (L : List Nat) k, L.length ≤ 15 → -80000 ≤ tk g0 ys L k ∧ tk g0 ys L k ≤ 80000
  cost : ∀ (E : List (Key × Int)) (L : List Nat) (c : Int), (keys E).Nodup → (∀ k, bal E k = tk g0 ys L k) → (∀ k ∈ keys E, k ∈ U) → IsCost E c → c = Cf L

structure Inv (B b D C n ca : Nat) (A : Option Addr) (ys : List Vc) (most : Int) (g0 : Key → Int) (U : List Key) (Cf : List Nat → Int) (L : List Nat) (r0 : List Nat × Int) (w0 : World) (j : Nat) (w : World) : Prop where
  ex : ∃ (E : List (Key × Int)) (least : Int) (out : List Nat), St B b D C n ca A ys most L E least out w ∧ (∀ k, bal E k = tk g0 ys L k) ∧ (∀ k ∈ keys E, k ∈ U) ∧ (subsAt n most.toNat (n - j) L j).foldl (better Cf) (out, least) = r0 ∧ out.length ≤ 14
  kp : Kp (Tu b C) w0 w


section
variable {B b D C n ca : Nat} {A : Option Addr} {ys : List Vc} {most : Int} {L : List Nat} {E E' : List (Key × Int)} {least : Int} {out : List Nat} {w w' : World}
theorem own_ge {base m : Nat} {e : TypeId} {size : Nat} {v : Value} {xs : List Value} (h : w.ownsRow base e size v m xs) {g : Nat} (hg : v.ownBlock = some g) : base ≤ g ∧ g < w.heap.size := by
  rcases h.2 with ⟨rfl, _⟩ | ⟨g', cap, cur, rfl, hb, hh, _⟩
  · cases hg
  · simp [Value.ownBlock] at hg
    subst hg
    exact ⟨hb, (Array.getElem?_eq_some_iff.1 hh).1⟩
/-- Only the balance has turned. -/
theorem St.bal (h : St B b D C n ca A ys most L E least out w) (hB : B + 1 < b) (hC : b < D ∧ D ≤ C) (hk : Kp (Kq.One b) w w') (hm : MapAt w' b ek (Value.int .i64) E') : St B b D C n ca A ys most L E' least out w' := by
  obtain ⟨v, o, r1, r2, r3, r4, r5⟩ := h.rows
  have ne : ∀ k, k ≠ b → ¬ Kq.One b k := fun k hk e => hk e
  refine ⟨Nat.le_trans h.size hk.size, hk.heap h.hav (ne _ (by omega)), hk.heap h.mst (ne _ (by omega)), hk.heap h.bl (ne _ (by omega)), hk.heap h.lst (ne _ (by omega)),
    ⟨v, o, hk.heap r1 (ne _ (by omega)), hk.owns r2 fun g hg => ne _ (by have := (own_ge r2 hg).1; omega), hk.heap r3 (ne _ (by omega)), hk.owns r4 fun g hg => ne _ (by have := (own_ge r4 hg).1; omega), r5⟩, hk.heap h.tr (ne _ (by omega)), hm, h.rd.map h.map hk, h.ab⟩
theorem St.no (h : St B b D C n ca A ys most L E least out w) (hB : B + 1 < b) (hC : b < D ∧ D ≤ C) (hk : Kp No w w') : St B b D C n ca A ys most L E least out w' :=
  h.bal hB hC (hk.of_no) (h.map.kept (hk.toGrownNo none) (by simp))
theorem one_ne {b : Nat} {u v : Value} {t : TypeId} (_h : w.heap[b]? = some (.cells #[u] t (0, 0))) {k : Nat} {o : Obj} (hk : w.heap[k]? = some o) (hne : k ≠ b) : (w.setCell ⟨b, 0, none⟩ v).heap[k]? = some o := by
  rw [← hk]
  exact Below.heap_setCell w ⟨b, 0, none⟩ v k hne
/-- The blocks of the captured variables that are no rows: what else is written leaves them. -/
theorem St.write {S : Nat → Prop} {L' out' : List Nat} {least' : Int} (h : St B b D C n ca A ys most L E least out w) (hB : B + 1 < b) (hC : b < D ∧ D ≤ C) (hk : Kp S w w') (hS : ∀ k, S k → k = C + 1 ∨ k = C + 2 ∨ k = C + 3 ∨ C + 5 ≤ k)
    (hl : w'.heap[C + 1]? = some (.cells #[.int .i64 least'] 2 (0, 0)))
    (hr : ∃ v o, w'.heap[C + 2]? = some (.cells #[v] 23 (0, 0)) ∧ w'.ownsRow (C + 5) 3 1 v L'.length (L'.map natV) ∧ w'.heap[C + 3]? = some (.cells #[o] 23 (0, 0)) ∧ w'.ownsRow (C + 5) 3 1 o out'.length (out'.map natV) ∧ ∀ g, v.ownBlock = some g → o.ownBlock ≠ some g) : St B b D C n ca A ys most L' E least' out' w' := by
  have ne : ∀ k, k ≤ C ∨ k = C + 4 → ¬ S k := fun k hk e => by have := hS k e; omega
  exact ⟨Nat.le_trans h.size hk.size, hk.heap h.hav (ne _ (by omega)), hk.heap h.mst (ne _ (by omega)), hk.heap h.bl (ne _ (by omega)), hl, hr, hk.heap h.tr (ne _ (by omega)), h.map.of_block (hk.block _ h.map.lt (ne _ (by omega))), h.rd.kp2 hk fun hne bA oA e hs => by have := h.ab hne bA oA e; have := hS bA hs; omega, h.ab⟩
/-- A number is laid onto the list. -/
theorem St.push {j : Nat} {al : Option Addr} {cl : Nat} {o : Value} {w3 : World} {v' : Value} {ob : Obj} (h : St B b D C n ca A ys most L E least out w) (hB : B + 1 < b) (hC : b < D ∧ D ≤ C)
    (r1 : w.heap[C + 2]? = some (.cells #[.slice al L.length cl] 23 (0, 0))) (r2 : w.ownsRow (C + 5) 3 1 (.slice al L.length cl) L.length (L.map natV)) (r3 : w.heap[C + 3]? = some (.cells #[o] 23 (0, 0)))
    (r4 : w.ownsRow (C + 5) 3 1 o out.length (out.map natV)) (r5 : ∀ g, (Value.slice al L.length cl).ownBlock = some g → o.ownBlock ≠ some g)
    (hown : w3.ownsRow (C + 5) 3 1 v' (L.length + 1) (L.map natV ++ [.int .i64 j])) (hg : (w.alloc ob).grownBy w3 (Value.slice al L.length cl).ownBlock) (hat : v'.ownBlock = (Value.slice al L.length cl).ownBlock ∨ v'.ownBlock = some (w.alloc ob).heap.size) :
    St B b D C n ca A ys most (L ++ [j]) E least out (w3.setCell ⟨C + 2, 0, none⟩ v') ∧ Kp (Tu b C) w (w3.setCell ⟨C + 2, 0, none⟩ v') := by
  have hk1 : Kp (fun k => C + 5 ≤ k) w w3 := (Kp.alloc _ w ob).tr (Kp.grown hg fun k hk _ => (own_ge r2 hk).1)
  have hk2 : Kp (fun k => k = C + 2 ∨ C + 5 ≤ k) w (w3.setCell ⟨C + 2, 0, none⟩ v') := (hk1.mono fun k _ h => .inr h).tr (Kp.setCell _ _ _ _ fun _ => .inl rfl)
  have e2 := hk1.heap r1 (by omega)
  have e3 := hk1.heap r3 (by omega)
  have eo : w3.ownsRow (C + 5) 3 1 o out.length (out.map natV) := (r4.alloc _).kept hg (by
    cases ho : o.ownBlock with
    | none => exact .inl rfl
    | some g => exact .inr fun e => r5 g e.symm ho)
  · refine ⟨h.write hB hC hk2 (fun k hk => by omega) (one_ne e2 (hk1.heap h.lst (by omega)) (by omega)) ⟨v', o, one_setCell e2, ?_, one_ne e2 e3 (by omega), ?_, fun g hg ho => ?_⟩, hk2.mono fun k _ hk => ?_⟩
    · rw [List.length_append, List.map_append]
      exact ownsRow_setCell_other hown (fun e => by have := (own_ge hown e).1; simp at this) _
    · exact ownsRow_setCell_other eo (fun e => by have := (own_ge eo e).1; simp at this) _
    · rcases hat with hat | hat
      · exact r5 g (hat ▸ hg) ho
      · have := (own_ge r4 ho).2
        rw [hg] at hat
        cases hat
        simp at this
        omega
    · unfold Tu
      omega
/-- What the walk reads behind the append. -/
theorem push_cells (hC : b < D ∧ D ≤ C) {al : Option Addr} {cl : Nat} {w3 : World} {ob : Obj} (h : St B b D C n ca A ys most L E least out w)
    (r1 : w.heap[C + 2]? = some (.cells #[.slice al L.length cl] 23 (0, 0))) (r2 : w.ownsRow (C + 5) 3 1 (.slice al L.length cl) L.length (L.map natV))
    (hg : (w.alloc ob).grownBy w3 (Value.slice al L.length cl).ownBlock) :
    w3.cell? ⟨C + 2, 0, none⟩ = some (.slice al L.length cl) ∧ w3.frozen? ⟨C + 2, 0, none⟩ = false ∧ w3.cell? ⟨D, 0, none⟩ = some (.map (some b)) := by
  have hk1 : Kp (fun k => C + 5 ≤ k) w w3 := (Kp.alloc _ w ob).tr (Kp.grown hg fun k hk _ => (own_ge r2 hk).1)
  have e2 := hk1.heap r1 (by omega)
  exact ⟨cell_of_one e2, free_of_one e2, cell_of_one (hk1.heap h.bl (by omega))⟩
theorem own_mono {base base' m : Nat} {e : TypeId} {size : Nat} {v : Value} {xs : List Value} (h : w.ownsRow base e size v m xs) (hb : base' ≤ base) : w.ownsRow base' e size v m xs := by
  obtain ⟨h1, h2⟩ := h
  rcases h2 with h2 | ⟨g, cap, cur, hv, hg, rest⟩
  · exact ⟨h1, .inl h2⟩
  · exact ⟨h1, .inr ⟨g, cap, cur, hv, by omega, rest⟩⟩
/-- A better choice is kept. -/
theorem St.take {c : Int} {v2 : Value} {B1 : Nat} (h : St B b D C n ca A ys most L E least out w) (hB : B + 1 < b) (hC : b < D ∧ D ≤ C) (hB1 : C + 5 ≤ B1) (hnew : ∀ g, C + 5 ≤ g → (∃ v, w.heap[C + 2]? = some (.cells #[v] 23 (0, 0)) ∧ v.ownBlock = some g) → g < B1)
    (hown : w.ownsRow B1 3 1 v2 L.length (L.map natV)) :
    St B b D C n ca A ys most L E c L ((w.setCell ⟨C + 1, 0, none⟩ (.int .i64 c)).setCell ⟨C + 3, 0, none⟩ v2) ∧ Kp (Tu b C) w ((w.setCell ⟨C + 1, 0, none⟩ (.int .i64 c)).setCell ⟨C + 3, 0, none⟩ v2) := by
  obtain ⟨v, o, r1, r2, r3, r4, r5⟩ := h.rows
  have hk : Kp (fun k => k = C + 1 ∨ k = C + 3) w ((w.setCell ⟨C + 1, 0, none⟩ (.int .i64 c)).setCell ⟨C + 3, 0, none⟩ v2) :=
    (Kp.setCell _ _ _ _ fun _ => .inl rfl).tr (Kp.setCell _ _ _ _ fun _ => .inr rfl)
  have keepOwn : ∀ (v : Value) (m : Nat) (xs : List Value), w.ownsRow (C + 5) 3 1 v m xs → ((w.setCell ⟨C + 1, 0, none⟩ (.int .i64 c)).setCell ⟨C + 3, 0, none⟩ v2).ownsRow (C + 5) 3 1 v m xs := fun v m xs hv =>
    hk.owns hv fun g hg => by have := (own_ge hv hg).1; omega
  have f1 : (w.setCell ⟨C + 1, 0, none⟩ (.int .i64 c)).heap[C + 1]? = some (.cells #[.int .i64 c] 2 (0, 0)) := one_setCell h.lst
  have f2 := one_ne (v := .int .i64 c) h.lst r1 (by omega)
  have f3 := one_ne (v := .int .i64 c) h.lst r3 (by omega)
  have g1 := one_ne (v := v2) f3 f1 (by omega)
  have g2 := one_ne (v := v2) f3 f2 (by omega)
  have g3 := one_setCell (u := v2) f3
  refine ⟨h.write hB hC hk (fun k hk => by omega) g1 ⟨v, v2, g2, keepOwn _ _ _ r2, g3, keepOwn _ _ _ (own_mono hown hB1), fun g hg hg2 => ?_⟩, hk.mono fun k _ hk => by unfold Tu; omega⟩
  have h1 := hnew g (own_ge r2 hg).1 ⟨v, r1, hg⟩
  have h2 := (own_ge hown hg2).1
  omega
/-- The last number is taken off the list. -/
theorem St.pop {j : Nat} {al : Option Addr} {cl : Nat} {o : Value} (h : St B b D C n ca A ys most (L ++ [j]) E least out w) (hB : B + 1 < b) (hC : b < D ∧ D ≤ C)
    (r1 : w.heap[C + 2]? = some (.cells #[.slice al (L.length + 1) cl] 23 (0, 0))) (r2 : w.ownsRow (C + 5) 3 1 (.slice al (L.length + 1) cl) (L.length + 1) ((L ++ [j]).map natV)) (r3 : w.heap[C + 3]? = some (.cells #[o] 23 (0, 0)))
    (r4 : w.ownsRow (C + 5) 3 1 o out.length (out.map natV)) (r5 : ∀ g, (Value.slice al (L.length + 1) cl).ownBlock = some g → o.ownBlock ≠ some g) :
    St B b D C n ca A ys most L E least out (w.setCell ⟨C + 2, 0, none⟩ (.slice al L.length cl)) ∧ Kp (Tu b C) w (w.setCell ⟨C + 2, 0, none⟩ (.slice al L.length cl)) := by
  have hk : Kp (fun k => k = C + 2) w (w.setCell ⟨C + 2, 0, none⟩ (.slice al L.length cl)) := Kp.setCell _ _ _ _ fun _ => rfl
  have hp : w.ownsRow (C + 5) 3 1 (.slice al L.length cl) L.length (L.map natV) := by
    rcases r2.2 with ⟨h0, _⟩ | ⟨g, cap, cur, hv, rest⟩
    · cases h0
    · cases hv
      rw [List.map_append] at r2
      exact Go.ownsRow_pop (by simp) r2
  refine ⟨h.write hB hC hk (fun k hk => by omega) (one_ne r1 h.lst (by omega)) ⟨_, o, one_setCell r1, hk.owns hp fun g hg => by have := (own_ge hp hg).1; omega, one_ne r1 r3 (by omega), hk.owns r4 fun g hg => by have := (own_ge r4 hg).1; omega, fun g hg => r5 g (by cases al <;> exact hg)⟩, hk.mono fun k _ hk => by unfold Tu; omega⟩
end

end Go.Proofs.Ytfflhlmnfhfcgaa
