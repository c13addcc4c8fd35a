/- Chapter 09: the reference's falling: the row of all cuts in order. · Chapter 09: the reference's Quick while it runs: its rows. · Chapter 09: the reference's Groups: the walk. -/
import Derived.Test.YtamjhpdgclbfgaaXSsAM
import Derived.Test.YtamjhpdgclbfgaaXSpfM
import Derived.Test.YtamjhpdgclbfgaaXCspM
import Derived.Test.YtamjhpdgclbfgaaXBodM
import Derived.Test.YtamjhpdgclbfgaaXLibHwM
namespace Go.Proofs.Ytamjhpdgclbfgaa
open Go.RowKit Go.Kq

end Go.Proofs.Ytamjhpdgclbfgaa

namespace Go.Proofs.Ytamjhpdgclbfgaa
open Go.RowKit Go.Kq

def shC (K : Int) (s : Spo) : List Value := [.int .i64 s.p, .int .i64 s.y, .int .i64 (s.x - K)]
theorem shC_len (K : Int) : ∀ s, (shC K s).length = 3 := fun _ => rfl
def tpC (K : Int) (x : Int) : Value := .int .i64 (x - K)
structure QRo (w1 : World) (base go n : Nat) (v10 : Value) (ord : List Nat) (K : Int) (q : Qs) (v8 v9 : Value) (w : World) : Prop where
  kp : Kp No w1 w
  sh : w.ownsRow base 84 3 v8 q.sh.length (q.sh.flatMap (shC K))
  tp : w.ownsRow base 2 1 v9 q.tp.length (q.tp.map (tpC K))
  out : w.ownsRow base 52 4 (.slice (some ⟨go, 0, none⟩) n n) n (q.out.flatMap Spo.cells)
  ord : w.ownsRow base 3 1 v10 n (ord.map natI)
section
variable {w1 w w' : World} {base go n : Nat} {v10 : Value} {ord : List Nat} {K : Int} {q : Qs} {v8 v9 : Value}
theorem QRo.no (h : QRo w1 base go n v10 ord K q v8 v9 w) (k : Kp No w w') : QRo w1 base go n v10 ord K q v8 v9 w' :=
  ⟨h.kp.tr k, k.owns h.sh fun _ _ e => e, k.owns h.tp fun _ _ e => e, k.owns h.out fun _ _ e => e, k.owns h.ord fun _ _ e => e⟩
theorem QRo.appTp (h : QRo w1 base go n v10 ord K q v8 v9 w) (hb : w1.heap.size ≤ base) {v' : Value} {tp : List Int} (ho : w'.ownsRow base 2 1 v' tp.length (tp.map (tpC K))) (hg : w.grownBy w' v9.ownBlock) : QRo w1 base go n v10 ord K { q with tp := tp } v8 v' w' := by
  have hk : Kp (fun g => v9.ownBlock = some g) w w' := Kp.grown hg fun _ hk _ => hk
  exact ⟨kp_own h.kp hb h.tp hk fun _ s => s, hk.owns h.sh fun g hg s => own_apart h.tp h.sh (by decide) s hg, ho, hk.owns h.out fun g hg s => own_apart h.tp h.out (by decide) s hg, hk.owns h.ord fun g hg s => own_apart h.tp h.ord (by decide) s hg⟩
theorem QRo.appSh (h : QRo w1 base go n v10 ord K q v8 v9 w) (hb : w1.heap.size ≤ base) {v' : Value} {sh : List Spo} (ho : w'.ownsRow base 84 3 v' sh.length (sh.flatMap (shC K))) (hg : w.grownBy w' v8.ownBlock) : QRo w1 base go n v10 ord K { q with sh := sh } v' v9 w' := by
  have hk : Kp (fun g => v8.ownBlock = some g) w w' := Kp.grown hg fun _ hk _ => hk
  exact ⟨kp_own h.kp hb h.sh hk fun _ s => s, ho, hk.owns h.tp fun g hg s => own_apart h.sh h.tp (by decide) s hg, hk.owns h.out fun g hg s => own_apart h.sh h.out (by decide) s hg, hk.owns h.ord fun g hg s => own_apart h.sh h.ord (by decide) s hg⟩
theorem QRo.setTp {gt c : Nat} (h : QRo w1 base go n v10 ord K q v8 (.slice (some ⟨gt, 0, none⟩) q.tp.length c) w) (hb : w1.heap.size ≤ base) (k : Nat) {x : Int} {u : Int} (hu : u = x - K) : QRo w1 base go n v10 ord K { q with tp := q.tp.set k x } v8 (.slice (some ⟨gt, 0, none⟩) q.tp.length c) (w.setCell ⟨gt, k, none⟩ (.int .i64 u)) := by
  subst hu
  have hk : Kp (One gt) w (w.setCell ⟨gt, k, none⟩ (.int .i64 (x - K))) := kp_setOne _ _ _ _
  have hS : ∀ g, One gt g → Value.ownBlock (.slice (some ⟨gt, 0, none⟩) q.tp.length c) = some g := fun g e => by have e : g = gt := e; subst e; rfl
  refine ⟨kp_own h.kp hb h.tp hk hS, hk.owns h.sh fun g hg s => own_apart h.tp h.sh (by decide) (hS g s) hg, ?_, hk.owns h.out fun g hg s => own_apart h.tp h.out (by decide) (hS g s) hg, hk.owns h.ord fun g hg s => own_apart h.tp h.ord (by decide) (hS g s) hg⟩
  have := own_set h.tp k (tpC K x)
  rw [← List.map_set] at this
  show (w.setCell ⟨gt, k, none⟩ (tpC K x)).ownsRow base 2 1 _ (q.tp.set k x).length _
  rw [List.length_set]
  exact this
theorem QRo.setSh {gs c : Nat} (h : QRo w1 base go n v10 ord K q (.slice (some ⟨gs, 0, none⟩) q.sh.length c) v9 w) (hb : w1.heap.size ≤ base) {k : Nat} {s : Spo} (hs : q.sh[k]? = some s) {x u : Int} (hu : u = x - K) : QRo w1 base go n v10 ord K { q with sh := q.sh.set k { s with x := x } } (.slice (some ⟨gs, 0, none⟩) q.sh.length c) v9 (w.setCell ⟨gs, k * 3 + 2, none⟩ (.int .i64 u)) := by
  subst hu
  have hk : Kp (One gs) w (w.setCell ⟨gs, k * 3 + 2, none⟩ (.int .i64 (x - K))) := kp_setOne _ _ _ _
  have hS : ∀ g, One gs g → Value.ownBlock (.slice (some ⟨gs, 0, none⟩) q.sh.length c) = some g := fun g e => by have e : g = gs := e; subst e; rfl
  refine ⟨kp_own h.kp hb h.sh hk hS, ?_, hk.owns h.tp fun g hg s => own_apart h.sh h.tp (by decide) (hS g s) hg, hk.owns h.out fun g hg s => own_apart h.sh h.out (by decide) (hS g s) hg, hk.owns h.ord fun g hg s => own_apart h.sh h.ord (by decide) (hS g s) hg⟩
  have := own_set h.sh (k * 3 + 2) (.int .i64 (x - K))
  rw [flat_set (shC_len K) q.sh k s { s with x := x } 2 _ hs (by decide) rfl] at this
  simpa using this
theorem QRo.setOut (h : QRo w1 base go n v10 ord K q v8 v9 w) (hb : w1.heap.size ≤ base) {i : Nat} {s : Spo} (hs : q.out[i]? = some s) (t : Spo) :
    QRo w1 base go n v10 ord K { q with out := q.out.set i t } v8 v9 ((((w.setCell ⟨go, i * 4, none⟩ (.int .i64 t.p)).setCell ⟨go, i * 4 + 1, none⟩ (.int .i64 t.s)).setCell ⟨go, i * 4 + 2, none⟩ (.int .i64 t.x)).setCell ⟨go, i * 4 + 3, none⟩ (.int .i64 t.y)) := by
  have hk : Kp (One go) w ((((w.setCell ⟨go, i * 4, none⟩ (.int .i64 t.p)).setCell ⟨go, i * 4 + 1, none⟩ (.int .i64 t.s)).setCell ⟨go, i * 4 + 2, none⟩ (.int .i64 t.x)).setCell ⟨go, i * 4 + 3, none⟩ (.int .i64 t.y)) := (((kp_setOne _ _ _ _).tr (kp_setOne _ _ _ _)).tr (kp_setOne _ _ _ _)).tr (kp_setOne _ _ _ _)
  have hS : ∀ g, One go g → Value.ownBlock (.slice (some ⟨go, 0, none⟩) n n) = some g := fun g e => by have e : g = go := e; subst e; rfl
  exact ⟨kp_own h.kp hb h.out hk hS, hk.owns h.sh fun g hg s => own_apart h.out h.sh (by decide) (hS g s) hg, hk.owns h.tp fun g hg s => own_apart h.out h.tp (by decide) (hS g s) hg, own_put4 h.out hs t, hk.owns h.ord fun g hg s => own_apart h.out h.ord (by decide) (hS g s) hg⟩
end
/-- A shelf's number is its place. -/
def IdxS (q : Qs) : Prop := ∀ (j : Nat) (s : Spo), q.sh[j]? = some s → s.s = ((j : Nat) : Int)
theorem IdxS.new {P : Pt} {c : Ct} {q : Qs} (h : IdxS q) : IdxS (qNew P c q) := fun j s hj => by
  simp only [qNew] at hj
  rw [List.getElem?_append] at hj
  split at hj
  · exact h j s hj
  · rename_i hn
    obtain ⟨hl, he⟩ := List.getElem?_eq_some_iff.1 hj
    simp at hl
    have e : j = q.sh.length := by omega
    subst e
    simp at he
    rw [← he]
theorem IdxS.put {P : Pt} {c : Ct} {i k : Nat} {q : Qs} {s : Spo} (h : IdxS q) (hs : q.sh[k]? = some s) : IdxS (qPut P c i k q) := fun j t hj => by
  have e : q.sh.getD k default = s := getD_of hs
  simp only [qPut, e] at hj
  rw [List.getElem?_set] at hj
  split at hj
  · rename_i hk
    split at hj
    · cases hj
      rw [← hk]
      exact h k s hs
    · cases hj
  · exact h j t hj
def quiE (P : Pt) (l : List Ct) : Int := if jchk P l 200 = 0 then fitV P l else jchk P l 200
def quiL (P : Pt) (l : List Ct) : List Spo := if quiE P l = 0 then quickF P l else []
end Go.Proofs.Ytamjhpdgclbfgaa

namespace Go.Proofs.Ytamjhpdgclbfgaa
open Go.RowKit Go.Kq

end Go.Proofs.Ytamjhpdgclbfgaa
