/- Chapter 09: Judge: plain; the reference's overlap. -/
import Derived.Test.YtamjhpdgclbfgaaXRfB
namespace Go.Proofs.Ytamjhpdgclbfgaa
open Go.RowKit Go.Kq

/-- A spot that does not lie on the plate. -/
def badS (P : Pt) (n : Int) (c : Ct) (s : Spo) : Bool := decide (s.p < 0) || decide (n ≤ s.p) || decide (s.s < 0) || decide (n ≤ s.s) || outB s.x 0 (P.w - c.w) || outB s.y 0 (P.h - c.h)
/-- Do two cuts, made larger by the kerf, overlap? -/
def lapB (K : Int) (a b : Ct) (x y : Spo) : Bool := (x.p == y.p) && decide (x.x < y.x + b.w + K) && decide (y.x < x.x + a.w + K) && decide (x.y < y.y + b.h + K) && decide (y.y < x.y + a.h + K)
def lapI (K : Int) (L : List (Ct × Spo)) (i : Nat) : Bool := match L[i]? with
  | none => false
  | some q => (L.take i).any fun r => lapB K q.1 r.1 q.2 r.2
def judV (P : Pt) (l : List Ct) (at_ : List Spo) : Int :=
  if jchk P l 200 ≠ 0 then jchk P l 200 else if at_.length ≠ l.length then 2 else if (l.zip at_).any fun q => badS P l.length q.1 q.2 then 2
  else if (List.range l.length).any (lapI P.k (l.zip at_)) then 8 else 0
theorem badS_no {P : Pt} {n : Int} {c : Ct} {s : Spo} (h : badS P n c s = false) : (0 ≤ s.x ∧ s.x ≤ P.w - c.w) ∧ 0 ≤ s.y ∧ s.y ≤ P.h - c.h := by
  unfold badS at h
  simp only [Bool.or_eq_false_iff] at h
  obtain ⟨⟨_, h1⟩, h2⟩ := h
  unfold outB at h1 h2
  simp only [Bool.or_eq_false_iff, decide_eq_false_iff_not] at h1 h2
  omega
theorem ju_zip_at {α β : Type} : ∀ {l : List α} {m : List β} {k : Nat} {a : α} {b : β}, l[k]? = some a → m[k]? = some b → (l.zip m)[k]? = some (a, b)
  | [], _, _, _, _, h, _ => by simp at h
  | _ :: _, [], _, _, _, _, h => by simp at h
  | a :: l, b :: m, 0, _, _, h, h2 => by simp at h h2; subst h; subst h2; rfl
  | a :: l, b :: m, k + 1, _, _, h, h2 => by
    simp only [List.zip_cons_cons, List.getElem?_cons_succ]
    exact ju_zip_at (by simpa using h) (by simpa using h2)
theorem rdc_here {w : World} {b n k : Nat} {o : Nat} {l : List Ct} {c : Ct} (h : RdC w (some ⟨b, o, none⟩) n l) (hv : l[k]? = some c) : w.cell? ⟨b, o + k * 2, none⟩ = some (.int .i64 c.w) ∧ w.cell? ⟨b, o + k * 2 + 1, none⟩ = some (.int .i64 c.h) := by
  obtain ⟨b', o', e, _, hc⟩ := h.2 k c hv
  simp at e
  obtain ⟨rfl, rfl⟩ := e
  exact ⟨hc 0 _ rfl, hc 1 _ rfl⟩
theorem rds_here {w : World} {b n k : Nat} {o : Nat} {l : List Spo} {s : Spo} (h : RdS w (some ⟨b, o, none⟩) n l) (hv : l[k]? = some s) : w.cell? ⟨b, o + k * 4, none⟩ = some (.int .i64 s.p) ∧ w.cell? ⟨b, o + k * 4 + 1, none⟩ = some (.int .i64 s.s) ∧ w.cell? ⟨b, o + k * 4 + 2, none⟩ = some (.int .i64 s.x) ∧ w.cell? ⟨b, o + k * 4 + 3, none⟩ = some (.int .i64 s.y) := by
  obtain ⟨b', o', e, _, hc⟩ := h.2 k s hv
  simp at e
  obtain ⟨rfl, rfl⟩ := e
  exact ⟨hc 0 _ rfl, hc 1 _ rfl, hc 2 _ rfl, hc 3 _ rfl⟩
theorem range_any_succ (p : Nat → Bool) (k : Nat) : (List.range (k + 1)).any p = ((List.range k).any p || p k) := by
  rw [List.range_succ]
  simp
theorem range_any_at {p : Nat → Bool} {n k : Nat} (h : k < n) (hp : p k = true) : (List.range n).any p = true := List.any_eq_true.2 ⟨k, List.mem_range.2 h, hp⟩
/-- The reasons why a spot is bad, in the order in which they are asked. -/
def cB (P : Pt) (n : Int) (c : Ct) (s : Spo) : List Bool := [decide (s.p < 0), decide (n ≤ s.p), decide (s.s < 0), decide (n ≤ s.s), decide (s.x < 0), decide (P.w - c.w < s.x), decide (s.y < 0), decide (P.h - c.h < s.y)]
theorem badS_c (P : Pt) (n : Int) (c : Ct) (s : Spo) : badS P n c s = (cB P n c s).any id := by
  unfold badS cB outB
  simp [Bool.or_assoc]
theorem lapB_no {K : Int} {a b : Ct} {x y : Spo} (h : x.p ≠ y.p ∨ y.x + b.w + K ≤ x.x ∨ x.x + a.w + K ≤ y.x ∨ y.y + b.h + K ≤ x.y ∨ x.y + a.h + K ≤ y.y) : lapB K a b x y = false := by
  unfold lapB
  rcases h with h | h | h | h | h
  · rw [beq_eq_false_iff_ne.2 h]; rfl
  all_goals
    rw [decide_eq_false (Int.not_lt.2 h)]
    simp
theorem lapB_yes {K : Int} {a b : Ct} {x y : Spo} (h0 : x.p = y.p) (h1 : x.x < y.x + b.w + K) (h2 : y.x < x.x + a.w + K) (h3 : x.y < y.y + b.h + K) (h4 : y.y < x.y + a.h + K) : lapB K a b x y = true := by
  unfold lapB
  rw [h0, decide_eq_true h1, decide_eq_true h2, decide_eq_true h3, decide_eq_true h4]
  simp
set_option maxHeartbeats 4000000 in
theorem overlap_any (K : Int) (a b : Ct) (x y : Spo) (w : World) (hk : 0 ≤ K ∧ K ≤ 50000) (ha : (1 ≤ a.w ∧ a.w ≤ 20000000) ∧ 1 ≤ a.h ∧ a.h ≤ 20000000) (hb : (1 ≤ b.w ∧ b.w ≤ 20000000) ∧ 1 ≤ b.h ∧ b.h ≤ 20000000) (hx : (0 ≤ x.x ∧ x.x ≤ 20000000) ∧ 0 ≤ x.y ∧ x.y ≤ 20000000) (hy : (0 ≤ y.x ∧ y.x ≤ 20000000) ∧ 0 ≤ y.y ∧ y.y ≤ 20000000) :
    Calls Try.prog 53 #[.int .i64 K, a.val, b.val, x.val, y.val] w fun e w' => e = .returned (.bool (lapB K a b x y)) ∧ Kp No w w' := by
  unfold Ct.val Spo.val
  obtain ⟨aw, ah⟩ := a
  obtain ⟨bw, bh⟩ := b
  obtain ⟨xp, xs, xx, xy⟩ := x
  obtain ⟨yp, ys, yx, yy⟩ := y
  simp only at ha hb hx hy ⊢
  obtain ⟨w1, hw1⟩ : ∃ w1, w.alloc (.cells #[.int .i64 aw, .int .i64 ah] 35) = w1 := ⟨_, rfl⟩
  have k1 : Kp No w w1 := by rw [← hw1]; exact Kp.alloc _ _ _
  obtain ⟨g1, hg1⟩ : ∃ g, w.heap.size = g := ⟨_, rfl⟩
  have A1 : w1.heap[g1]? = some (.cells #[.int .i64 aw, .int .i64 ah] 35 (0, 0)) := by rw [← hw1, ← hg1]; exact heap_alloc_new _ _
  obtain ⟨w2, hw2⟩ : ∃ w2, w1.alloc (.cells #[.int .i64 bw, .int .i64 bh] 35) = w2 := ⟨_, rfl⟩
  have k2 : Kp No w1 w2 := by rw [← hw2]; exact Kp.alloc _ _ _
  obtain ⟨g2, hg2⟩ : ∃ g, w1.heap.size = g := ⟨_, rfl⟩
  have A2 : w2.heap[g2]? = some (.cells #[.int .i64 bw, .int .i64 bh] 35 (0, 0)) := by rw [← hw2, ← hg2]; exact heap_alloc_new _ _
  obtain ⟨w3, hw3⟩ : ∃ w3, w2.alloc (.cells #[.int .i64 xp, .int .i64 xs, .int .i64 xx, .int .i64 xy] 52) = w3 := ⟨_, rfl⟩
  have k3 : Kp No w2 w3 := by rw [← hw3]; exact Kp.alloc _ _ _
  obtain ⟨g3, hg3⟩ : ∃ g, w2.heap.size = g := ⟨_, rfl⟩
  have A3 : w3.heap[g3]? = some (.cells #[.int .i64 xp, .int .i64 xs, .int .i64 xx, .int .i64 xy] 52 (0, 0)) := by rw [← hw3, ← hg3]; exact heap_alloc_new _ _
  obtain ⟨w4, hw4⟩ : ∃ w4, w3.alloc (.cells #[.int .i64 yp, .int .i64 ys, .int .i64 yx, .int .i64 yy] 52) = w4 := ⟨_, rfl⟩
  have k4 : Kp No w3 w4 := by rw [← hw4]; exact Kp.alloc _ _ _
  obtain ⟨g4, hg4⟩ : ∃ g, w3.heap.size = g := ⟨_, rfl⟩
  have A4 : w4.heap[g4]? = some (.cells #[.int .i64 yp, .int .i64 ys, .int .i64 yx, .int .i64 yy] 52 (0, 0)) := by rw [← hw4, ← hg4]; exact heap_alloc_new _ _
  have H1 := k4.heap (k3.heap (k2.heap A1 id) id) id
  have H2 := k4.heap (k3.heap A2 id) id
  have H3 := k4.heap A3 id
  have KK := Lib.hid (((k1.tr k2).tr k3).tr k4)
  have a0 : w4.cell? ⟨g1, 0, none⟩ = some (.int .i64 aw) := by rw [cell_of_row _ _ _ _ _ _ H1]; rfl
  have a1 : w4.cell? ⟨g1, 1, none⟩ = some (.int .i64 ah) := by rw [cell_of_row _ _ _ _ _ _ H1]; rfl
  have b0 : w4.cell? ⟨g2, 0, none⟩ = some (.int .i64 bw) := by rw [cell_of_row _ _ _ _ _ _ H2]; rfl
  have b1 : w4.cell? ⟨g2, 1, none⟩ = some (.int .i64 bh) := by rw [cell_of_row _ _ _ _ _ _ H2]; rfl
  have x0 : w4.cell? ⟨g3, 0, none⟩ = some (.int .i64 xp) := by rw [cell_of_row _ _ _ _ _ _ H3]; rfl
  have x2 : w4.cell? ⟨g3, 2, none⟩ = some (.int .i64 xx) := by rw [cell_of_row _ _ _ _ _ _ H3]; rfl
  have x3 : w4.cell? ⟨g3, 3, none⟩ = some (.int .i64 xy) := by rw [cell_of_row _ _ _ _ _ _ H3]; rfl
  have y0 : w4.cell? ⟨g4, 0, none⟩ = some (.int .i64 yp) := by rw [cell_of_row _ _ _ _ _ _ A4]; rfl
  have y2 : w4.cell? ⟨g4, 2, none⟩ = some (.int .i64 yx) := by rw [cell_of_row _ _ _ _ _ _ A4]; rfl
  have y3 : w4.cell? ⟨g4, 3, none⟩ = some (.int .i64 yy) := by rw [cell_of_row _ _ _ _ _ _ A4]; rfl
  clear k1 k2 k3 k4 A1 A2 A3 A4 H1 H2 H3
  have LN := Lib.hid (@lapB_no K ⟨aw, ah⟩ ⟨bw, bh⟩ ⟨xp, xs, xx, xy⟩ ⟨yp, ys, yx, yy⟩)
  have LY := Lib.hid (@lapB_yes K ⟨aw, ah⟩ ⟨bw, bh⟩ ⟨xp, xs, xx, xy⟩ ⟨yp, ys, yx, yy⟩)
  obtain ⟨v, hv⟩ : ∃ v, lapB K ⟨aw, ah⟩ ⟨bw, bh⟩ ⟨xp, xs, xx, xy⟩ ⟨yp, ys, yx, yy⟩ = v := ⟨_, rfl⟩
  simp only [hv] at LN LY
  rw [hv]
  clear hv
  go_enter Try.func53, Try.ntmps53
  by_cases h0 : xp = yp
  rotate_left
  · obtain rfl : v = false := LN.out (.inl h0)
    go_wp2_with fail
    go_ret
    exact ⟨rfl, KK.out⟩
  subst h0
  by_cases h1 : xx < yx + bw + K
  rotate_left
  · obtain rfl : v = false := LN.out (.inr (.inl (by omega)))
    go_wp2_with fail
    go_ret
    exact ⟨rfl, KK.out⟩
  by_cases h2 : yx < xx + aw + K
  rotate_left
  · obtain rfl : v = false := LN.out (.inr (.inr (.inl (by omega))))
    go_wp2_with fail
    go_ret
    exact ⟨rfl, KK.out⟩
  by_cases h3 : xy < yy + bh + K
  rotate_left
  · obtain rfl : v = false := LN.out (.inr (.inr (.inr (.inl (by omega)))))
    go_wp2_with fail
    go_ret
    exact ⟨rfl, KK.out⟩
  by_cases h4 : yy < xy + ah + K
  rotate_left
  · obtain rfl : v = false := LN.out (.inr (.inr (.inr (.inr (by omega)))))
    go_wp2_with fail
    go_ret
    exact ⟨rfl, KK.out⟩
  obtain rfl : v = true := LY.out rfl h1 h2 h3 h4
  go_wp2_with fail
  go_ret
  exact ⟨rfl, KK.out⟩
end Go.Proofs.Ytamjhpdgclbfgaa
