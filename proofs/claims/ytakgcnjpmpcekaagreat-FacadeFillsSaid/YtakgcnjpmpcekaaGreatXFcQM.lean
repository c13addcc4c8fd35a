/- Chapter 24: fields, orders, gaps: plain. · Chapter 24: how pipes are divided: plain. -/
import Derived.KernelRfl
namespace Go.Proofs.YtakgcnjpmpcekaaGreat

structure Fc where
  (w k : Int)
deriving DecidableEq, Inhabited
def oB (n a b : Int) : Bool := decide (n < a) || decide (b < n)
def badF (f : Fc) : Bool := oB f.w 1 10000000 || decide (f.k < 1) || decide (4 < f.k)
def mirK (k : Int) : Int := if k = 1 then 2 else if k = 2 then 1 else k
def formB (l : List Fc) (i : Nat) : Bool := decide ((l.getD (l.length - 1 - i) default).w = (l.getD i default).w) && decide ((l.getD (l.length - 1 - i) default).k = mirK (l.getD i default).k)
/-- What is wrong with a front. -/
def chkF (l : List Fc) : Int := if 12 < l.length then 3 else if l.any badF then 2 else if (List.range l.length).all (formB l) then 0 else 6
def evs (n : Nat) : List Nat := (List.range n).filter fun i => i % 2 == 0
def ods (n : Nat) : List Nat := (List.range n).filter fun i => i % 2 == 1
/-- How pipes stand. -/
def ordN (n : Nat) (k : Int) : List Nat := if k = 1 then List.range n else if k = 2 then (List.range n).reverse else if k = 4 then evs n ++ (ods n).reverse else (ods n).reverse ++ evs n
def staN (n : Nat) (k : Int) (right : Bool) : List Nat := if right && (decide (k = 3) || decide (k = 4)) then (ordN n k).reverse else ordN n k
theorem evs_succ (n : Nat) : evs (n + 1) = if n % 2 = 0 then evs n ++ [n] else evs n := by
  unfold evs
  rw [List.range_succ, List.filter_append]
  by_cases h : n % 2 = 0
  · simp [h]
  · have : n % 2 = 1 := by omega
    simp [this]
theorem ods_succ (n : Nat) : ods (n + 1) = if n % 2 = 0 then ods n else ods n ++ [n] := by
  unfold ods
  rw [List.range_succ, List.filter_append]
  by_cases h : n % 2 = 0
  · simp [h]
  · have : n % 2 = 1 := by omega
    simp [this]
/-- As the program sets them: from both ends. -/
def stepN (n : Nat) (k : Int) (q : List Nat × List Nat) (i : Nat) : List Nat × List Nat :=
  if k = 1 then (q.1 ++ [i], q.2) else if k = 2 then (q.1, i :: q.2) else if k = 4 then (if i % 2 = 0 then (q.1 ++ [i], q.2) else (q.1, i :: q.2))
  else if (n - 1 - i) % 2 = 0 then (q.1, (n - 1 - i) :: q.2) else (q.1 ++ [n - 1 - i], q.2)
def setN (n : Nat) (k : Int) (i : Nat) : List Nat × List Nat := (List.range i).foldl (stepN n k) ([], [])
theorem setN_succ (n : Nat) (k : Int) (i : Nat) : setN n k (i + 1) = stepN n k (setN n k i) i := by
  unfold setN
  rw [List.range_succ, List.foldl_append]
  rfl
theorem setN_len (n : Nat) (k : Int) : ∀ i, (setN n k i).1.length + (setN n k i).2.length = i
  | 0 => rfl
  | i + 1 => by
    have h := setN_len n k i
    rw [setN_succ]
    unfold stepN
    split
    · simp; omega
    · split
      · simp; omega
      · split
        · split <;> simp <;> omega
        · split <;> simp <;> omega
theorem filt_cons (p : Nat → Bool) (a m : Nat) : (List.range' a (m + 1)).filter p = (if p a then [a] else []) ++ (List.range' (a + 1) m).filter p := by
  rw [List.range'_succ, List.filter_cons]
  split <;> rfl
theorem setN_at (n : Nat) (k : Int) : ∀ i, i ≤ n → setN n k i = if k = 1 then (List.range i, []) else if k = 2 then ([], (List.range i).reverse) else if k = 4 then (evs i, (ods i).reverse) else (((List.range' (n - i) i).filter fun i => i % 2 == 1).reverse, (List.range' (n - i) i).filter fun i => i % 2 == 0)
  | 0, _ => by
    unfold setN
    split
    · rfl
    · split
      · rfl
      · split
        · rfl
        · rfl
  | i + 1, h => by
    rw [setN_succ, setN_at n k i (by omega)]
    unfold stepN
    by_cases h1 : k = 1
    · simp only [h1, if_true, List.range_succ]
    · simp only [h1, if_false]
      by_cases h2 : k = 2
      · simp only [h2, if_true, List.range_succ]
        simp
      · simp only [h2, if_false]
        by_cases h4 : k = 4
        · simp only [h4, if_true]
          rw [evs_succ, ods_succ]
          split <;> simp
        · simp only [h4, if_false]
          have e : n - i = n - (i + 1) + 1 := by omega
          have e2 : n - 1 - i = n - (i + 1) := by omega
          rw [filt_cons, filt_cons, e, e2]
          by_cases hp : (n - (i + 1)) % 2 = 0
          · simp [hp]
          · have : (n - (i + 1)) % 2 = 1 := by omega
            simp [this]
theorem setN_end (n : Nat) (k : Int) : (setN n k n).1 ++ (setN n k n).2 = ordN n k := by
  rw [setN_at n k n (Nat.le_refl _)]
  unfold ordN evs ods
  split
  · simp
  · split
    · simp
    · split
      · rfl
      · rw [Nat.sub_self, ← List.range_eq_range']
/-- As the document sets them. -/
def refN (k : Int) (q : List Nat) (i : Nat) : List Nat := if k = 2 ∨ (k = 3 ∧ i % 2 = 1) then i :: q else q ++ [i]
theorem refN_at (k : Int) (h3 : k = 1 ∨ k = 2 ∨ k = 3) : ∀ n, (List.range n).foldl (refN k) [] = ordN n k
  | 0 => by rcases h3 with rfl | rfl | rfl <;> rfl
  | n + 1 => by
    rw [List.range_succ, List.foldl_append, refN_at k h3 n]
    simp only [List.foldl_cons, List.foldl_nil]
    unfold refN ordN
    rcases h3 with rfl | rfl | rfl
    · simp [List.range_succ]
    · simp [List.range_succ]
    · rw [evs_succ, ods_succ]
      by_cases hp : n % 2 = 0
      · simp [hp]
      · have : n % 2 = 1 := by omega
        simp [this]
theorem ordN_len (n : Nat) (k : Int) : (ordN n k).length = n := by
  rw [← setN_end, List.length_append]
  exact setN_len n k n
/-- How wide the gaps of a field are; below 0: there is no room. -/
def gapN (w : Int) (rs : List Int) : Int := if w - 2 * rs.sum < 0 then -1 else (w - 2 * rs.sum) / (rs.length + 1)
def pipE (r : List Int) : Int := if 60 < r.length then 3 else if (List.range r.length).any (fun i => oB (r.getD i 0) 1 1000000 || (decide (0 < i) && decide (r.getD (i - 1) 0 < r.getD i 0))) then 2 else 0
end Go.Proofs.YtakgcnjpmpcekaaGreat

namespace Go.Proofs.YtakgcnjpmpcekaaGreat

/-- The left field of group k (of the middle, and of pairs from there on). -/
def lefN (L k : Nat) : Nat := (L + 1) / 2 - 1 - k
def sizN (L k : Nat) : Nat := if lefN L k = L - 1 - lefN L k then 1 else 2
/-- The radii of one side of a group. -/
def selN (r : List Int) (at_ s n side : Nat) : List Int := (List.range n).map fun i => r.getD (at_ + s * i + side) 0
def sgpN (l : List Fc) (r : List Int) (k at_ n side : Nat) : Int := gapN (l.getD (lefN l.length k) default).w (selN r at_ (sizN l.length k) n side)
/-- The greatest gap of a group; none: too narrow. -/
def ggpN (l : List Fc) (r : List Int) (least : Int) (k at_ n : Nat) : Int × Bool :=
  if (List.range (sizN l.length k)).all fun s => decide (least ≤ sgpN l r k at_ n s) then ((List.range (sizN l.length k)).foldl (fun m s => max m (sgpN l r k at_ n s)) 0, true) else (0, false)
def chN (g rest c : Int × Bool) : Int × Bool := if g.2 && rest.2 && (!c.2 || decide (max g.1 rest.1 < c.1)) then (max g.1 rest.1, true) else c
/-- The best division of the last j groups, from a pipe on. -/
def bstN (l : List Fc) (r : List Int) (least : Int) : Nat → Nat → Int × Bool
  | 0, at_ => (0, decide (at_ = r.length))
  | j + 1, at_ =>
    let k := (l.length + 1) / 2 - (j + 1)
    (List.range ((r.length - at_) / sizN l.length k)).foldl (fun c m => chN (ggpN l r least k at_ (m + 1)) (bstN l r least j (at_ + sizN l.length k * (m + 1))) c) (0, false)
/-- The number of a group: the least with which no gap is greater than v. -/
def okN (l : List Fc) (r : List Int) (least v : Int) (j at_ n : Nat) : Bool :=
  let k := (l.length + 1) / 2 - (j + 1)
  let g := ggpN l r least k at_ n
  let rest := bstN l r least j (at_ + sizN l.length k * n)
  g.2 && rest.2 && decide (max g.1 rest.1 ≤ v)
def fstN (p : Nat → Bool) : Nat → Nat → Nat
  | 0, n => n
  | f + 1, n => if p n then n else fstN p f (n + 1)
def numN (l : List Fc) (r : List Int) (least v : Int) (j at_ : Nat) : Nat := fstN (okN l r least v j at_) (r.length + 1) 1
/-- The pipes of each field. -/
def putN (l : List Fc) (k at_ n : Nat) (out : List (List Nat)) : List (List Nat) :=
  let s := sizN l.length k
  let lf := lefN l.length k
  let rt := l.length - 1 - lf
  let o1 := out.set lf (out.getD lf [] ++ (staN n (l.getD lf default).k false).map fun i => at_ + s * i)
  if s = 1 then o1 else o1.set rt (o1.getD rt [] ++ (staN n (l.getD rt default).k true).map fun i => at_ + s * i + 1)
def stdN (l : List Fc) (r : List Int) (least v : Int) : Nat → Nat → List (List Nat) → List (List Nat)
  | 0, _, out => out
  | j + 1, at_, out =>
    let k := (l.length + 1) / 2 - (j + 1)
    let n := numN l r least v j at_
    stdN l r least v j (at_ + sizN l.length k * n) (putN l k at_ n out)
def plnE (l : List Fc) (r : List Int) (least : Int) : Int := if chkF l ≠ 0 then chkF l else if pipE r ≠ 0 then pipE r else if oB least 0 10000000 then 2 else if (bstN l r least ((l.length + 1) / 2) 0).2 then 0 else 4
def plnL (l : List Fc) (r : List Int) (least : Int) : List (List Nat) := if plnE l r least = 0 then stdN l r least (bstN l r least ((l.length + 1) / 2) 0).1 ((l.length + 1) / 2) 0 (List.replicate l.length []) else []
/-- The document's front. -/
def exF : List Fc := [⟨50, 1⟩, ⟨30, 3⟩, ⟨50, 2⟩]
def exR : List Int := [10, 9, 8, 8, 7, 6, 5]
theorem ex_planE : plnE exF exR 0 = 0 := by kernel_rfl
theorem ex_planL : plnL exF exR 0 = [[1, 3, 5], [0], [6, 4, 2]] := by kernel_rfl
end Go.Proofs.YtakgcnjpmpcekaaGreat
