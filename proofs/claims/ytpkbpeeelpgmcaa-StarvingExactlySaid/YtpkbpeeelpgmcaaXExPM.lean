/- Chapter 15: Least: what the loops over the subsets build. · Chapter 15: the example of the document: plain. -/
import Derived.KernelRfl
import Derived.Test.YtpkbpeeelpgmcaaXCmBM
import Derived.Test.YtpkbpeeelpgmcaaXSaf
namespace Go.Proofs.Ytpkbpeeelpgmcaa
open Go.RowKit Go.Kq Go.Flow

/-- A combination whose rows are its own. -/
structure CvO (w : World) (base : Nat) (x : Cv) : Prop where
  a : w.ownsRow base 3 1 (.slice x.P x.p x.cp) x.p ((x.c.st.map Int.ofNat).map (Value.int .i64))
  b : w.ownsRow base 3 1 (.slice x.Q x.q x.cq) x.q ((x.c.ky.map Int.ofNat).map (Value.int .i64))
theorem CvO.is {w : World} {base : Nat} {x : Cv} (h : CvO w base x) : CvIs w x := ⟨RdI.of_own h.a, RdI.of_own h.b⟩
theorem CvO.no {w w' : World} {base : Nat} {x : Cv} (h : CvO w base x) (k : Kp No w w') : CvO w' base x := ⟨own_kp h.a k fun _ _ e => e, own_kp h.b k fun _ _ e => e⟩
theorem CvO.put {w : World} {base : Nat} {x : Cv} (h : CvO w base x) {l : Nat} {o : Obj} (o' : Obj) (hl : w.heap[l]? = some o) (ho : o.isCells = false) : CvO (w.putObj l o') base x := ⟨ownsRow_putObj h.a _ hl ho, ownsRow_putObj h.b _ hl ho⟩
theorem CvO.mono {w : World} {base b : Nat} {x : Cv} (h : CvO w base x) (hb : b ≤ base) : CvO w b x := ⟨own_mono h.a hb, own_mono h.b hb⟩
theorem row_cells {W : World} {base n : Nat} {e : TypeId} {size : Nat} {V : Value} {xs : List Value} (h : W.ownsRow base e size V n xs) {g : Nat} (hg : V.ownBlock = some g) : ∃ cs, W.heap[g]? = some (.cells cs e (0, 0)) := by
  rcases h.2 with ⟨rfl, _⟩ | ⟨g', cap, cur, rfl, _, hgb, _⟩
  · cases hg
  · cases hg
    exact ⟨_, hgb⟩
theorem CvO.kp {S : Nat → Prop} {w w' : World} {base : Nat} {x : Cv} (h : CvO w base x) (k : Kp S w w') (hS : ∀ (b : Nat) (cs : Array Value), w.heap[b]? = some (.cells cs 3 (0, 0)) → ¬ S b) : CvO w' base x :=
  ⟨own_kp h.a k fun g hg => by obtain ⟨cs, hc⟩ := row_cells h.a hg; exact hS _ _ hc, own_kp h.b k fun g hg => by obtain ⟨cs, hc⟩ := row_cells h.b hg; exact hS _ _ hc⟩
/-- Combinations so far: t whole rows of sets of stops, u sets of keys of the next. -/
def allP (S K t u : Nat) : List Cb := ((List.range t).flatMap fun s => (List.range (2 ^ K)).map fun k => ⟨numB s S, numB k K⟩) ++ (List.range u).map fun k => ⟨numB t S, numB k K⟩
theorem allP_succ (S K t u : Nat) : allP S K t (u + 1) = allP S K t u ++ [⟨numB t S, numB u K⟩] := by
  unfold allP
  rw [List.range_succ, List.map_append, List.append_assoc]
  rfl
theorem allP_row (S K t : Nat) : allP S K t (2 ^ K) = allP S K (t + 1) 0 := by
  unfold allP
  rw [List.range_succ, List.flatMap_append]
  simp
theorem allP_all (S K : Nat) : allP S K (2 ^ S) 0 = allC S K := by
  unfold allP allC
  simp
/-- The box of all, its row, and its elements. -/
structure AllI (g : Nat) (w5 W : World) (L : List Cv) : Prop where
  box : ∃ v, Boxed W g 33 v ∧ W.ownsRow w5.heap.size 30 2 v L.length (L.flatMap Cv.cells)
  el : ∀ x ∈ L, CvO W w5.heap.size x
  kp : Kp (Kq.One g) w5 W
theorem AllI.no {g : Nat} {w5 W W' : World} {L : List Cv} (h : AllI g w5 W L) (k : Kp No W W') : AllI g w5 W' L := by
  obtain ⟨⟨v, hb, ho⟩, he, hk⟩ := h
  exact ⟨⟨v, k.heap hb id, own_kp ho k fun _ _ e => e⟩, fun x hx => (he x hx).no k, hk.no k⟩
theorem AllI.put {g : Nat} {w5 W : World} {L : List Cv} (h : AllI g w5 W L) (hg : g < w5.heap.size) {l : Nat} {o : Obj} (o' : Obj) (hle : w5.heap.size ≤ l) (hl : W.heap[l]? = some o) (ho : o.isCells = false) : AllI g w5 (W.putObj l o') L := by
  obtain ⟨⟨v, hb, hw⟩, he, hk⟩ := h
  refine ⟨⟨v, ?_, ownsRow_putObj hw _ hl ho⟩, fun x hx => (he x hx).put _ hl ho, kp_putObj hk hle _⟩
  exact ((grownBy_putObj' W l o').block g hb.lt (fun e => by injection e with e; omega)).trans hb
/-- One more. -/
theorem AllI.push {g : Nat} {w5 W W1 : World} {L : List Cv} {v v' : Value} {x : Cv} {tmp : Obj} (hk5 : Kp (Kq.One g) w5 W) (hg : g < w5.heap.size) (he : ∀ y ∈ L, CvO W w5.heap.size y) (hb : Boxed W g 33 v) (ho : W.ownsRow w5.heap.size 30 2 v L.length (L.flatMap Cv.cells)) (hx : CvO W w5.heap.size x)
    (hown' : W1.ownsRow w5.heap.size 30 2 v' (L.length + 1) (L.flatMap Cv.cells ++ x.cells)) (hgrow : (W.alloc tmp).grownBy W1 v.ownBlock) :
    AllI g w5 (W1.setCell ⟨g, 0, none⟩ v') (L ++ [x]) ∧ Boxed W1 g 33 v ∧ KeepsFrom w5.heap.size W (W1.setCell ⟨g, 0, none⟩ v') ∧
      ∀ (b : Nat) (cs : Array Value) (e : TypeId) (mm : Nat × Nat), W.heap[b]? = some (.cells cs e mm) → e ≠ 30 → e ≠ 33 → (W1.setCell ⟨g, 0, none⟩ v').heap[b]? = some (.cells cs e mm) := by
  have hv1 : Boxed W1 g 33 v := (hb.alloc tmp).kept hgrow (hb.not_row (by decide) ho)
  have hkk : Kp (fun k => v.ownBlock = some k ∨ k = g) W (W1.setCell ⟨g, 0, none⟩ v') := ((Kp.alloc _ _ _).tr (Kp.grown hgrow fun _ hg _ => .inl hg)).tr (Kp.setCell _ _ _ _ fun _ => .inr rfl)
  have hty : ∀ (b : Nat) (cs : Array Value) (e : TypeId) (mm : Nat × Nat), W.heap[b]? = some (.cells cs e mm) → e ≠ 30 → e ≠ 33 → ¬ (v.ownBlock = some b ∨ b = g) := fun b cs e mm hbb h1 h2 h => by
    rcases h with h | h
    · obtain ⟨cs2, hcs⟩ := row_cells ho h
      rw [hbb] at hcs
      injection hcs with hcs
      injection hcs with _ h6
      exact h1 h6
    · have h6 : W.heap[g]? = some (.cells #[v] 33 (0, 0)) := hb
      rw [← h, hbb] at h6
      injection h6 with h6
      injection h6 with _ h7
      exact h2 h7
  refine ⟨⟨⟨v', hv1.set v', ?_⟩, ?_, ?_⟩, hv1, ⟨hkk.size, ?_⟩, fun b cs e mm h h1 h2 => hkk.heap h (hty b cs e mm h h1 h2)⟩
  · rw [List.length_append, List.flatMap_append]
    simp only [List.length_cons, List.length_nil, Nat.zero_add, List.flatMap_cons, List.flatMap_nil, List.append_nil]
    exact hown'.kept (grownBy_setCell' W1 g v') (.inr (hv1.not_row (by decide) hown').symm)
  · intro y hy
    have hyo : CvO W w5.heap.size y := by
      rcases List.mem_append.1 hy with h | h
      · exact he y h
      · rw [List.mem_singleton.1 h]; exact hx
    exact hyo.kp hkk fun b cs h => hty b cs _ _ h (by decide) (by decide)
  · refine hk5.trans hkk fun k hk h => ?_
    rcases h with h | h
    · have := own_ge ho h
      omega
    · exact h
  · intro k o hB hk hc
    refine hkk.heap hk fun h => ?_
    rcases h with h | h
    · obtain ⟨cs2, hcs⟩ := row_cells ho h
      rw [hk] at hcs
      cases hcs
      cases hc
    · omega
theorem heap_putObj {W : World} {b l : Nat} {cs : Array Value} {e : TypeId} {mm : Nat × Nat} {o : Obj} (h : W.heap[b]? = some (.cells cs e mm)) (o' : Obj) (hl : W.heap[l]? = some o) (ho : o.isCells = false) : (W.putObj l o').heap[b]? = some (.cells cs e mm) := by
  have hne : b ≠ l := fun e => by subst e; rw [h] at hl; cases hl; cases ho
  exact (World.putObj_heap_other hne).trans h
theorem KeepsFrom.up {B B' : Nat} {W W' : World} (h : KeepsFrom B W W') (hb : B ≤ B') : KeepsFrom B' W W' := ⟨h.size, fun k o hk h1 h2 => h.same k o (by omega) h1 h2⟩
theorem KeepsFrom.put {B : Nat} {W W' : World} (h : KeepsFrom B W W') {l : Nat} (hl : W.heap.size ≤ l) (o' : Obj) : KeepsFrom B W (W'.putObj l o') :=
  ⟨by have := h.size; have := (grownBy_putObj' W' l o').size; omega, fun k o hk h1 h2 => by
    have hlt := (Array.getElem?_eq_some_iff.1 h1).1
    exact (World.putObj_heap_other (by omega)).trans (h.same k o hk h1 h2)⟩
theorem allP_len (S K t u : Nat) : (allP S K t u).length = t * 2 ^ K + u := by
  unfold allP
  rw [List.length_append, List.length_flatMap]
  simp only [List.length_map, List.length_range]
  congr 1
  rw [List.map_const', List.length_range, List.sum_replicate_nat]
theorem allP_bd {S K t u : Nat} (hS : S ≤ 8) (hK : K ≤ 8) (ht : t ≤ 2 ^ S) (hu : u ≤ 2 ^ K) : (allP S K t u).length ≤ 70000 := by
  rw [allP_len]
  have h1 : 2 ^ S ≤ 256 := Nat.pow_le_pow_right (by omega) hS
  have h2 : 2 ^ K ≤ 256 := Nat.pow_le_pow_right (by omega) hK
  have := Nat.mul_le_mul (Nat.le_trans ht h1) h2
  omega
theorem infoC : (Try.prog.info? 30).map (fun i => (i.zero, i.size, i.bytes)) = some (some (.agg #[.slice none 0 0, .slice none 0 0]), 2, 48) := by kernel_rfl
end Go.Proofs.Ytpkbpeeelpgmcaa

namespace Go.Proofs.Ytpkbpeeelpgmcaa
open Go.Flow

def exN : Net := ⟨3, [⟨0, 1, 100, 120⟩, ⟨0, 2, 50, 60⟩], [1, 2]⟩
def exL : List Sto := [⟨0, [30, 40]⟩, ⟨1, [30, 30]⟩, ⟨0, [50, 10]⟩]
theorem exN_ok : exN.Ok where
  n1 := by decide
  n2 := by decide
  t1 := by decide
  c1 := by decide
  tk := by
    intro t ht
    simp [exN] at ht
    rcases ht with rfl | rfl <;> simp [exN]
  ck := by
    intro c hc
    simp [exN] at hc
    rcases hc with rfl | rfl <;> simp [exN]
  asc := by decide
theorem wt_ex (d0 d1 : Int) (R : Nat → Bool) (h0 : R 0 = true) : exN.wt false [d0, d1] R = (if R 1 then 0 else 100) + (if R 2 then 0 else 50) + ((if R 1 then d0 else 0) + (if R 2 then d1 else 0)) := by
  cases h1 : R 1 <;> cases h2 : R 2 <;> simp [Net.wt, Net.out, exN, cut, held, tp, Tk.cap, h0, h1, h2]
theorem stv_ex (d0 d1 : Int) : Stv exN [d0, d1] ↔ 150 < d0 + d1 ∨ 50 < d1 ∨ 100 < d0 := by
  unfold Stv
  constructor
  · rintro ⟨R, ⟨h0, _⟩, h⟩
    rw [wt_ex d0 d1 R h0] at h
    simp only [sumZ] at h
    cases h1 : R 1 <;> cases h2 : R 2 <;> rw [h1, h2] at h <;> simp at h <;> omega
  · rintro (h | h | h)
    · refine ⟨fun v => v == 0, ⟨rfl, rfl⟩, ?_⟩
      rw [wt_ex d0 d1 _ rfl]
      simp [sumZ]
      omega
    · refine ⟨fun v => v == 0 || v == 1, ⟨rfl, rfl⟩, ?_⟩
      rw [wt_ex d0 d1 _ rfl]
      simp [sumZ]
      omega
    · refine ⟨fun v => v == 0 || v == 2, ⟨rfl, rfl⟩, ?_⟩
      rw [wt_ex d0 d1 _ rfl]
      simp [sumZ]
      omega
def exB (ss ks : List Nat) : Bool := decide (150 < (dmd 2 exL ss ks).getD 0 0 + (dmd 2 exL ss ks).getD 1 0) || (decide (50 < (dmd 2 exL ss ks).getD 1 0) || decide (100 < (dmd 2 exL ss ks).getD 0 0))
theorem two_list {ds : List Int} (h : ds.length = 2) : ds = [ds.getD 0 0, ds.getD 1 0] := by
  match ds, h with
  | [a, b], _ => rfl
theorem starB_ex (ss ks : List Nat) : starB exN exL ss ks = exB ss ks := by
  rw [Bool.eq_iff_iff, starB_iff]
  have h := two_list (dmd_len 2 exL ss ks)
  rw [show exN.ch.length = 2 from rfl, h, stv_ex]
  unfold exB
  simp only [Bool.or_eq_true, decide_eq_true_eq]
theorem dmd_ex : dmd 2 exL [0, 2] [0, 1] = [130, 0] := by decide
theorem sta_ex1 : Stv exN (dmd exN.ch.length exL [0, 2] [0, 1]) := starB_iff.1 (by rw [starB_ex]; decide)
theorem sta_ex2 : ¬ Stv exN (dmd exN.ch.length exL [0, 2] [0]) := fun h => by
  have := starB_iff.2 h
  rw [starB_ex] at this
  exact absurd this (by decide)
def exR (v : Nat) : Bool := v == 0 || v == 2
theorem min_ex : Min exN.A0 (exN.wt false (dmd exN.ch.length exL [0, 2] [0, 1])) exR := by
  rw [show exN.ch.length = 2 from rfl, dmd_ex]
  refine ⟨⟨rfl, rfl⟩, fun S hS => ?_⟩
  rw [wt_ex 130 0 exR rfl, wt_ex 130 0 S hS.1]
  have e1 : exR 1 = false := rfl
  have e2 : exR 2 = true := rfl
  rw [e1, e2]
  cases h1 : S 1 <;> cases h2 : S 2 <;> simp
  intro v hv
  simp [exR] at hv
  rcases hv with rfl | rfl
  · exact hS.1
  · exact h2
theorem mem_ex : mem exR 3 = [0, 2] := by decide
theorem saf_ex1 : safN (keysN exL) (starB exN exL [1]) = 1 := by
  rw [show starB exN exL [1] = exB [1] from funext fun ks => starB_ex [1] ks]
  decide
theorem saf_ex0 : safN (keysN exL) (starB exN exL [0]) = 2 := by
  rw [show starB exN exL [0] = exB [0] from funext fun ks => starB_ex [0] ks]
  decide
def exC : List Cb := [⟨[1], [0, 1]⟩, ⟨[0, 2], [0, 1]⟩]
theorem lea_ex (p : Cb → Bool) (hp : ∀ c, p c = exB c.st c.ky) : leaC 3 2 p = exC := by
  obtain rfl : p = fun c => exB c.st c.ky := funext hp
  refine upC_ext (leaC_up _ _ _) (by unfold UpC exC; decide) fun x => ?_
  have h : (allC 3 2).filter (minB 3 2 fun c => exB c.st c.ky) = exC := by decide +kernel
  rw [mem_leaC, ← mem_allC, ← h, List.mem_filter]
end Go.Proofs.Ytpkbpeeelpgmcaa
