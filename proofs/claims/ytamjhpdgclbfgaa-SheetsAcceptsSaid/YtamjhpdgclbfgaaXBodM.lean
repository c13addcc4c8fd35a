/- Chapter 09: Quick while it runs: its rows. · Chapter 09: Body, Weight, large. -/
import Derived.Test.YtamjhpdgclbfgaaXSpyM
import Derived.Test.YtamjhpdgclbfgaaXCspM
import Derived.Test.YtamjhpdgclbfgaaXNwB
import Derived.Test.YtamjhpdgclbfgaaXLibBitM
namespace Go.Proofs.Ytamjhpdgclbfgaa
open Go.RowKit Go.Kq

structure QWo (w1 : World) (base go gor n : Nat) (ord : List Nat) (q : Qs) (v11 v12 : Value) (w : World) : Prop where
  kp : Kp No w1 w
  sh : w.ownsRow base 52 4 v11 q.sh.length (q.sh.flatMap Spo.cells)
  tp : w.ownsRow base 2 1 v12 q.tp.length (q.tp.map i64V)
  out : w.ownsRow base 52 4 (.slice (some ⟨go, 0, none⟩) n n) n (q.out.flatMap Spo.cells)
  ord : w.ownsRow base 3 1 (.slice (some ⟨gor, 0, none⟩) n n) n (ord.map natI)
  ap : v11.ownBlock ≠ some go
section
variable {w1 w w' : World} {base go gor n : Nat} {ord : List Nat} {q : Qs} {v11 v12 : Value}
theorem QWo.no (h : QWo w1 base go gor n ord q v11 v12 w) (k : Kp No w w') : QWo w1 base go gor n ord q v11 v12 w' :=
  ⟨h.kp.tr k, k.owns h.sh fun _ _ e => e, k.owns h.tp fun _ _ e => e, k.owns h.out fun _ _ e => e, k.owns h.ord fun _ _ e => e, h.ap⟩
theorem kp_own {e size m : Nat} {v : Value} {xs : List Value} (hk : Kp No w1 w) (hb : w1.heap.size ≤ base) (ho : w.ownsRow base e size v m xs) {S : Nat → Prop} (k : Kp S w w') (hS : ∀ g, S g → v.ownBlock = some g) : Kp No w1 w' :=
  hk.trans k fun g hg s => by have := (own_ge ho (hS g s)).1; omega
theorem QWo.appTp (h : QWo w1 base go gor n ord q v11 v12 w) (hb : w1.heap.size ≤ base) {v' : Value} {tp : List Int} (ho : w'.ownsRow base 2 1 v' tp.length (tp.map i64V)) (hg : w.grownBy w' v12.ownBlock) : QWo w1 base go gor n ord { q with tp := tp } v11 v' w' := by
  have hk : Kp (fun g => v12.ownBlock = some g) w w' := Kp.grown hg fun _ hk _ => hk
  exact ⟨kp_own h.kp hb h.tp hk fun _ s => s, hk.owns h.sh fun g hg s => own_apart h.tp h.sh (by decide) s hg, ho, hk.owns h.out fun g hg s => own_apart h.tp h.out (by decide) s hg, hk.owns h.ord fun g hg s => own_apart h.tp h.ord (by decide) s hg, h.ap⟩
theorem QWo.appSh (h : QWo w1 base go gor n ord q v11 v12 w) (hb : w1.heap.size ≤ base) {v' : Value} {sh : List Spo} (ho : w'.ownsRow base 52 4 v' sh.length (sh.flatMap Spo.cells)) (hg : w.grownBy w' v11.ownBlock) (hat : v'.ownBlock = v11.ownBlock ∨ v'.ownBlock = some w.heap.size) : QWo w1 base go gor n ord { q with sh := sh } v' v12 w' := by
  have hk : Kp (fun g => v11.ownBlock = some g) w w' := Kp.grown hg fun _ hk _ => hk
  refine ⟨kp_own h.kp hb h.sh hk fun _ s => s, ho, hk.owns h.tp fun g hg s => own_apart h.sh h.tp (by decide) s hg, hk.owns h.out fun g hg s => ?_, hk.owns h.ord fun g hg s => own_apart h.sh h.ord (by decide) s hg, ?_⟩
  · cases hg
    exact h.ap s
  · rcases hat with e | e
    · rw [e]
      exact h.ap
    · rw [e]
      intro e2
      cases e2
      exact absurd (own_ge h.out (g := w.heap.size) rfl).2 (Nat.lt_irrefl _)
theorem QWo.setTp {gt c : Nat} (h : QWo w1 base go gor n ord q v11 (.slice (some ⟨gt, 0, none⟩) q.tp.length c) w) (hb : w1.heap.size ≤ base) (k : Nat) (x : Int) : QWo w1 base go gor n ord { q with tp := q.tp.set k x } v11 (.slice (some ⟨gt, 0, none⟩) q.tp.length c) (w.setCell ⟨gt, k, none⟩ (.int .i64 x)) := by
  have hk : Kp (One gt) w (w.setCell ⟨gt, k, none⟩ (.int .i64 x)) := kp_setOne _ _ _ _
  have hS : ∀ g, One gt g → Value.ownBlock (.slice (some ⟨gt, 0, none⟩) q.tp.length c) = some g := fun g e => by have e : g = gt := e; subst e; rfl
  refine ⟨kp_own h.kp hb h.tp hk hS, hk.owns h.sh fun g hg s => own_apart h.tp h.sh (by decide) (hS g s) hg, ?_, hk.owns h.out fun g hg s => own_apart h.tp h.out (by decide) (hS g s) hg, hk.owns h.ord fun g hg s => own_apart h.tp h.ord (by decide) (hS g s) hg, h.ap⟩
  have := own_set h.tp k (i64V x)
  rw [← List.map_set] at this
  show (w.setCell ⟨gt, k, none⟩ (i64V x)).ownsRow base 2 1 _ (q.tp.set k x).length _
  rw [List.length_set]
  exact this
theorem QWo.setSh {gs c : Nat} (h : QWo w1 base go gor n ord q (.slice (some ⟨gs, 0, none⟩) q.sh.length c) v12 w) (hb : w1.heap.size ≤ base) {k : Nat} {s : Spo} (hs : q.sh[k]? = some s) (x : Int) : QWo w1 base go gor n ord { q with sh := q.sh.set k { s with x := x } } (.slice (some ⟨gs, 0, none⟩) q.sh.length c) v12 (w.setCell ⟨gs, k * 4 + 2, none⟩ (.int .i64 x)) := by
  have hk : Kp (One gs) w (w.setCell ⟨gs, k * 4 + 2, none⟩ (.int .i64 x)) := kp_setOne _ _ _ _
  have hS : ∀ g, One gs g → Value.ownBlock (.slice (some ⟨gs, 0, none⟩) q.sh.length c) = some g := fun g e => by have e : g = gs := e; subst e; rfl
  refine ⟨kp_own h.kp hb h.sh hk hS, ?_, hk.owns h.tp fun g hg s => own_apart h.sh h.tp (by decide) (hS g s) hg, hk.owns h.out fun g hg s => ?_, hk.owns h.ord fun g hg s => own_apart h.sh h.ord (by decide) (hS g s) hg, h.ap⟩
  · have := own_set h.sh (k * 4 + 2) (.int .i64 x)
    rw [flat_set spo_len q.sh k s { s with x := x } 2 _ hs (by decide) rfl] at this
    simpa using this
  · have e : g = gs := s
    subst e
    cases hg
    exact h.ap rfl
theorem own_put4 {e m c g : Nat} {vs : List Spo} (h : w.ownsRow base e 4 (.slice (some ⟨g, 0, none⟩) m c) m (vs.flatMap Spo.cells)) {i : Nat} {s : Spo} (hs : vs[i]? = some s) (t : Spo) :
    ((((w.setCell ⟨g, i * 4, none⟩ (.int .i64 t.p)).setCell ⟨g, i * 4 + 1, none⟩ (.int .i64 t.s)).setCell ⟨g, i * 4 + 2, none⟩ (.int .i64 t.x)).setCell ⟨g, i * 4 + 3, none⟩ (.int .i64 t.y)).ownsRow base e 4 (.slice (some ⟨g, 0, none⟩) m c) m ((vs.set i t).flatMap Spo.cells) := by
  have hlt := (List.getElem?_eq_some_iff.1 hs).1
  have h0 := own_set h (i * 4) (.int .i64 t.p)
  have e0 := flat_set spo_len vs i s { s with p := t.p } 0 (.int .i64 t.p) hs (by decide) rfl
  rw [Nat.add_zero] at e0
  rw [e0] at h0
  have h1 := own_set h0 (i * 4 + 1) (.int .i64 t.s)
  rw [flat_set spo_len _ i { s with p := t.p } { s with p := t.p, s := t.s } 1 _ (by rw [List.getElem?_set_self hlt]) (by decide) rfl, List.set_set] at h1
  have h2 := own_set h1 (i * 4 + 2) (.int .i64 t.x)
  rw [flat_set spo_len _ i { s with p := t.p, s := t.s } { s with p := t.p, s := t.s, x := t.x } 2 _ (by rw [List.getElem?_set_self hlt]) (by decide) rfl, List.set_set] at h2
  have h3 := own_set h2 (i * 4 + 3) (.int .i64 t.y)
  rw [flat_set spo_len _ i { s with p := t.p, s := t.s, x := t.x } t 3 _ (by rw [List.getElem?_set_self hlt]) (by decide) rfl, List.set_set] at h3
  exact h3
theorem QWo.setOut (h : QWo w1 base go gor n ord q v11 v12 w) (hb : w1.heap.size ≤ base) {i : Nat} {s : Spo} (hs : q.out[i]? = some s) (t : Spo) :
    QWo w1 base go gor n ord { q with out := q.out.set i t } v11 v12 ((((w.setCell ⟨go, i * 4, none⟩ (.int .i64 t.p)).setCell ⟨go, i * 4 + 1, none⟩ (.int .i64 t.s)).setCell ⟨go, i * 4 + 2, none⟩ (.int .i64 t.x)).setCell ⟨go, i * 4 + 3, none⟩ (.int .i64 t.y)) := by
  have hk : Kp (One go) w ((((w.setCell ⟨go, i * 4, none⟩ (.int .i64 t.p)).setCell ⟨go, i * 4 + 1, none⟩ (.int .i64 t.s)).setCell ⟨go, i * 4 + 2, none⟩ (.int .i64 t.x)).setCell ⟨go, i * 4 + 3, none⟩ (.int .i64 t.y)) := (((kp_setOne _ _ _ _).tr (kp_setOne _ _ _ _)).tr (kp_setOne _ _ _ _)).tr (kp_setOne _ _ _ _)
  have hS : ∀ g, One go g → Value.ownBlock (.slice (some ⟨go, 0, none⟩) n n) = some g := fun g e => by have e : g = go := e; subst e; rfl
  refine ⟨kp_own h.kp hb h.out hk hS, hk.owns h.sh fun g hg s => ?_, hk.owns h.tp fun g hg s => own_apart h.out h.tp (by decide) (hS g s) hg, own_put4 h.out hs t, hk.owns h.ord fun g hg s => own_apart h.out h.ord (by decide) (hS g s) hg, h.ap⟩
  have e : g = go := s
  subst e
  exact h.ap hg
end
/-- What holds of the lists behind k cuts. -/
structure QOk (n k : Nat) (q : Qs) : Prop where
  ol : q.out.length = n
  sl : q.sh.length ≤ k
  tl : q.tp.length ≤ k
  sx : ∀ s ∈ q.sh, 0 ≤ s.x ∧ s.x ≤ k * 20050000
  tx : ∀ t ∈ q.tp, 0 ≤ t ∧ t ≤ k * 20050000
theorem QOk.new {P : Pt} {c : Ct} {n k : Nat} {q : Qs} (h : QOk n k q) (hc : 0 ≤ c.h ∧ c.h ≤ 20000000) (hK : 0 ≤ P.k ∧ P.k ≤ 50000) : QOk n (k + 1) (qNew P c q) := by
  have hcast : ((k + 1 : Nat) : Int) * 20050000 = (k : Int) * 20050000 + 20050000 := by omega
  have htp : ∀ t ∈ (if firstI (fun y => decide (y + c.h ≤ P.h)) q.tp = q.tp.length then q.tp ++ [0] else q.tp), 0 ≤ t ∧ t ≤ k * 20050000 := fun t ht => by
    split at ht
    · rcases List.mem_append.1 ht with ht | ht
      · exact h.tx t ht
      · simp at ht
        omega
    · exact h.tx t ht
  refine ⟨h.ol, ?_, ?_, fun s hs => ?_, fun t ht => ?_⟩
  · simp only [qNew, List.length_append, List.length_singleton]
    have := h.sl
    omega
  · simp only [qNew, List.length_set]
    have := h.tl
    split <;> simp <;> omega
  · simp only [qNew, List.mem_append, List.mem_singleton] at hs
    rcases hs with hs | rfl
    · have := h.sx s hs
      omega
    · show 0 ≤ (0 : Int) ∧ (0 : Int) ≤ _
      omega
  · simp only [qNew] at ht
    rcases List.mem_or_eq_of_mem_set ht with ht | rfl
    · have := htp t ht
      omega
    · have := bdL_at (M := k * 20050000) htp (by omega) (firstI (fun y => decide (y + c.h ≤ P.h)) q.tp)
      omega
theorem QOk.up {n k : Nat} {q : Qs} (h : QOk n k q) : QOk n (k + 1) q :=
  ⟨h.ol, by have := h.sl; omega, by have := h.tl; omega, fun s hs => by have := h.sx s hs; omega, fun s hs => by have := h.tx s hs; omega⟩
theorem QOk.put {P : Pt} {c : Ct} {n k i ki : Nat} {q : Qs} {s : Spo} (h : QOk n (k + 1) q) (hs : q.sh[ki]? = some s) (hx : 0 ≤ s.x ∧ s.x ≤ k * 20050000) (hc : 0 ≤ c.w ∧ c.w ≤ 20000000) (hK : 0 ≤ P.k ∧ P.k ≤ 50000) : QOk n (k + 1) (qPut P c i ki q) := by
  have hcast : ((k + 1 : Nat) : Int) * 20050000 = (k : Int) * 20050000 + 20050000 := by omega
  have e : q.sh.getD ki default = s := getD_of hs
  refine ⟨by simp only [qPut, List.length_set]; exact h.ol, by simp only [qPut, List.length_set]; exact h.sl, h.tl, fun t ht => ?_, h.tx⟩
  simp only [qPut, e] at ht
  rcases List.mem_or_eq_of_mem_set ht with ht | rfl
  · exact h.sx t ht
  · show 0 ≤ s.x + (c.w + P.k) ∧ s.x + (c.w + P.k) ≤ _
    omega
def quickG (P : Pt) (l : List Ct) (ord : List Nat) : Qs := ord.foldl (qStep P l) ⟨[], [], List.replicate l.length default⟩
theorem quickG_take {P : Pt} {l : List Ct} {ord : List Nat} {k i : Nat} (h : ord[k]? = some i) : quickG P l (ord.take (k + 1)) = qStep P l (quickG P l (ord.take k)) i := by
  unfold quickG
  rw [List.take_add_one, h, List.foldl_append]
  rfl
theorem infoI : (Try.prog.info? 3).map (fun i => (i.zero, i.size, i.bytes)) = some (some (.int .i64 0), 1, 8) := by kernel_rfl
def zN (m : Nat) : Array Value := ((List.replicate m (0 : Nat)).map natI).toArray
theorem make_n (m : Nat) (hm : m ≤ 100000) (w : World) : (Instr.makeSlice 57 (.int .i64 (m : Nat)) (.int .i64 (m : Nat))).run Try.prog w = .ok (.slice (some ⟨w.heap.size, 0, none⟩) m m) (w.alloc (.cells (zN m) 3)) := by
  obtain ⟨i0, hi, hz0, hz1, hz2⟩ := info_parts infoI
  have := run_make_flat w (fun x : Nat => [natI x]) 0 _ _ i0 _ 1 8 m Try.underlying57 hi hz0 hz1 hz2 (by decide) rfl rfl (by omega) (by omega)
  rwa [flat_one] at this
def zSp (m : Nat) : Array Value := ((List.replicate m (default : Spo)).flatMap Spo.cells).toArray
theorem make_s (m : Nat) (hm : m ≤ 100000) (w : World) : (Instr.makeSlice 26 (.int .i64 (m : Nat)) (.int .i64 (m : Nat))).run Try.prog w = .ok (.slice (some ⟨w.heap.size, 0, none⟩) m m) (w.alloc (.cells (zSp m) 52)) := by
  obtain ⟨i0, hi, hz0, hz1, hz2⟩ := info_parts infoSp
  exact run_make_flat w Spo.cells default _ _ i0 _ 4 32 m Try.underlying26 hi hz0 hz1 hz2 (by decide) rfl rfl (by omega) (by omega)
end Go.Proofs.Ytamjhpdgclbfgaa

namespace Go.Proofs.Ytamjhpdgclbfgaa
open Go.RowKit Go.Kq

theorem ck_one (n : Int) (h : -4611686018427387904 ≤ n) (h2 : n ≤ 4611686018427387904) : ckE [(n, n)] = 0 := by
  have f : fits n = true := by unfold fits M62; simp; omega
  unfold ckE
  rw [if_pos (by intro x hx; simp at hx; subst hx; exact ⟨f, f⟩), if_pos (by intro x hx; simp at hx; subst hx; exact Int.le_refl _)]
theorem outB_no {n a b : Int} (h : outB n a b = false) : a ≤ n ∧ n ≤ b := by
  unfold outB at h
  simp at h
  omega
/-- pi times a number from 0 on, rounded up, or down. -/
def piU (n : Int) : Int := rnd true (n * 3141592653589793239) 1000000000000000000
def piD (n : Int) : Int := rnd false (n * 3141592653589793238) 1000000000000000000
theorem pi_span {a b : Int} (h0 : 0 ≤ a) (h1 : a ≤ b) (h2 : b ≤ 1000000000000000000) : spanV 1000000000000000000 (a * 3141592653589793238) [a * 3141592653589793239, b * 3141592653589793238, b * 3141592653589793239] = (piD a, piU b, 0) ∧ 0 ≤ piD a ∧ piD a ≤ piU b ∧ 3 * a ≤ piD a ∧ piU b ≤ 4 * b := by
  have e1 : minL (a * 3141592653589793238) [a * 3141592653589793239, b * 3141592653589793238, b * 3141592653589793239] = a * 3141592653589793238 := by
    simp only [minL]
    omega
  have e2 : maxL (a * 3141592653589793238) [a * 3141592653589793239, b * 3141592653589793238, b * 3141592653589793239] = b * 3141592653589793239 := by
    simp only [maxL]
    omega
  have d : piD a = (a * 3141592653589793238) / 1000000000000000000 := rfl
  have u : piU b = -((-(b * 3141592653589793239)) / 1000000000000000000) := rfl
  have hd : 0 ≤ piD a ∧ piD a ≤ piU b ∧ 3 * a ≤ piD a ∧ piU b ≤ 4 * b := by rw [d, u]; omega
  refine ⟨?_, hd⟩
  unfold spanV
  rw [e1, e2]
  have f1 : fits (rnd false (a * 3141592653589793238) 1000000000000000000) = true := by
    change fits (piD a) = true
    unfold fits M62
    simp
    omega
  have f2 : fits (rnd true (b * 3141592653589793239) 1000000000000000000) = true := by
    change fits (piU b) = true
    unfold fits M62
    simp
    omega
  rw [f1, f2]
  rfl
def bodyE (d l s : Int) : Bool := outB d 1000 1000000 || outB l 1000 12000000 || outB s 0 20000
def bodyV (d l s : Int) : Ct × Int := if bodyE d l s then (⟨0, 0⟩, 2) else (⟨piU d + s, l⟩, 0)
set_option maxHeartbeats 4000000 in
theorem Body_any (d l s : Int) (w : World) : Calls Try.prog 14 #[.int .i64 d, .int .i64 l, .int .i64 s] w fun e w' => e = .returned (.tuple #[(bodyV d l s).1.val, .int .i64 (bodyV d l s).2]) ∧ Kp No w w' := by
  have O1 := Lib.hid (fun w0 => outside_any d 1000 1000000 w0)
  have O2 := Lib.hid (fun w0 => outside_any l 1000 12000000 w0)
  have O3 := Lib.hid (fun w0 => outside_any s 0 20000 w0)
  have HV := Lib.hid (show bodyV d l s = if bodyE d l s then (⟨0, 0⟩, 2) else (⟨piU d + s, l⟩, 0) from rfl)
  have HB : bodyE d l s = (outB d 1000 1000000 || outB l 1000 12000000 || outB s 0 20000) := rfl
  have hq1 : outB d 1000 1000000 = false → 1000 ≤ d ∧ d ≤ 1000000 := outB_no
  have hq3 : outB s 0 20000 = false → 0 ≤ s ∧ s ≤ 20000 := outB_no
  generalize bodyE d l s = be at *
  generalize outB d 1000 1000000 = q1 at *
  generalize outB l 1000 12000000 = q2 at *
  generalize outB s 0 20000 = q3 at *
  have HK0 := Lib.hid (show Kp No w (w.alloc (.cells #[.int .i64 0, .int .i64 0] 35)) from Kp.alloc _ _ _)
  have p0 : (w.alloc (.cells #[.int .i64 0, .int .i64 0] 35)).cell? ⟨w.heap.size, 0, none⟩ = some (.int .i64 0) := by go_simp
  have p1 : (w.alloc (.cells #[.int .i64 0, .int .i64 0] 35)).cell? ⟨w.heap.size, 1, none⟩ = some (.int .i64 0) := by go_simp
  rw [HV.out]
  clear HV
  cases q1
  rotate_left
  · obtain rfl : be = true := by rw [HB]; rfl
    rw [if_pos rfl]
    clear HB hq1 hq3
    go_enter Try.func14, Try.ntmps14
    go_wp2_with fail
    with_reducible refine (O1.out _).mono ?_
    rintro e w1 ⟨rfl, hw⟩
    subst hw
    go_wp2_with fail
    exact bodyPost_ret (v := .tuple #[.agg #[.int .i64 0, .int .i64 0], .int .i64 2]) (by simp [results, Try.results14, go_sem, p0, p1]) rfl ⟨rfl, HK0.out⟩
  cases q2
  rotate_left
  · obtain rfl : be = true := by rw [HB]; rfl
    rw [if_pos rfl]
    clear HB hq1 hq3
    go_enter Try.func14, Try.ntmps14
    go_wp2_with fail
    with_reducible refine (O1.out _).mono ?_
    rintro e w1 ⟨rfl, hw⟩
    subst hw
    go_wp2_with fail
    with_reducible refine (O2.out _).mono ?_
    rintro e w1 ⟨rfl, hw⟩
    subst hw
    go_wp2_with fail
    exact bodyPost_ret (v := .tuple #[.agg #[.int .i64 0, .int .i64 0], .int .i64 2]) (by simp [results, Try.results14, go_sem, p0, p1]) rfl ⟨rfl, HK0.out⟩
  cases q3
  rotate_left
  · obtain rfl : be = true := by rw [HB]; rfl
    rw [if_pos rfl]
    clear HB hq1 hq3
    go_enter Try.func14, Try.ntmps14
    go_wp2_with fail
    with_reducible refine (O1.out _).mono ?_
    rintro e w1 ⟨rfl, hw⟩
    subst hw
    go_wp2_with fail
    with_reducible refine (O2.out _).mono ?_
    rintro e w1 ⟨rfl, hw⟩
    subst hw
    go_wp2_with fail
    with_reducible refine (O3.out _).mono ?_
    rintro e w1 ⟨rfl, hw⟩
    subst hw
    go_wp2_with fail
    exact bodyPost_ret (v := .tuple #[.agg #[.int .i64 0, .int .i64 0], .int .i64 2]) (by simp [results, Try.results14, go_sem, p0, p1]) rfl ⟨rfl, HK0.out⟩
  obtain rfl : be = false := by rw [HB]; rfl
  rw [if_neg (by decide)]
  have b1 := hq1 rfl
  have b3 := hq3 rfl
  obtain ⟨e1, e2, e3, e4, e5⟩ := pi_span (a := d) (b := d) (by omega) (Int.le_refl _) (by omega)
  have P1 := Lib.hid (fun w0 => pi_ok d d w0 (ck_one d (by omega) (by omega)))
  rw [e1] at P1
  have HU := Lib.hid (show 0 ≤ piU d ∧ piU d ≤ 4000000 from by omega)
  generalize piU d = U at *
  generalize piD d = D at *
  have hU := HU.out
  simp only [ieV, ivV] at P1
  have ON := Lib.hid (fun w0 => one_any d w0)
  simp only [ivV] at ON
  clear e1 e2 e3 e4 e5 HB hq1 hq3 HU
  go_enter Try.func14, Try.ntmps14
  go_wp2_with fail
  with_reducible refine (O1.out _).mono ?_
  rintro e w1 ⟨rfl, hw⟩
  subst hw
  go_wp2_with fail
  with_reducible refine (O2.out _).mono ?_
  rintro e w1 ⟨rfl, hw⟩
  subst hw
  go_wp2_with fail
  with_reducible refine (O3.out _).mono ?_
  rintro e w1 ⟨rfl, hw⟩
  subst hw
  go_wp2_with fail
  with_reducible refine (ON.out _).mono ?_
  rintro e w1 ⟨rfl, k1⟩
  go_wp2_with fail
  with_reducible refine (P1.out _).mono ?_
  rintro e w2 ⟨rfl, k2⟩
  have k02 := k1.tr k2
  have HK2 := Lib.hid (HK0.out.tr k02)
  have g2 := k02.heap (heap_alloc_new w (.cells #[.int .i64 0, .int .i64 0] 35)) id
  obtain ⟨g0, g1, z0, z1⟩ := two_cells g2
  have hs : w.heap.size < w2.heap.size := World.block_lt_of_cell? _ _ g0
  clear k1 k2 p0 p1 g2
  go_wp2_with fail
  have f0 : (((w2.setCell ⟨w.heap.size, 0, none⟩ (.int .i64 (U + s))).setCell ⟨w.heap.size, 1, none⟩ (.int .i64 l)).alloc (.cells #[.int .i64 D, .int .i64 U] 40)).cell? ⟨w.heap.size, 0, none⟩ = some (.int .i64 (U + s)) := by go_simp
  have f1 : (((w2.setCell ⟨w.heap.size, 0, none⟩ (.int .i64 (U + s))).setCell ⟨w.heap.size, 1, none⟩ (.int .i64 l)).alloc (.cells #[.int .i64 D, .int .i64 U] 40)).cell? ⟨w.heap.size, 1, none⟩ = some (.int .i64 l) := by go_simp
  have hk3 : Kp No w (((w2.setCell ⟨w.heap.size, 0, none⟩ (.int .i64 (U + s))).setCell ⟨w.heap.size, 1, none⟩ (.int .i64 l)).alloc (.cells #[.int .i64 D, .int .i64 U] 40)) := (kp_set2 HK2.out (Nat.le_refl _)).tr (Kp.alloc _ _ _)
  generalize (((w2.setCell ⟨w.heap.size, 0, none⟩ (.int .i64 (U + s))).setCell ⟨w.heap.size, 1, none⟩ (.int .i64 l)).alloc (.cells #[.int .i64 D, .int .i64 U] 40)) = w3 at f0 f1 hk3 ⊢
  exact bodyPost_ret (v := .tuple #[.agg #[.int .i64 (U + s), .int .i64 l], .int .i64 0]) (by simp [results, Try.results14, go_sem, f0, f1]) rfl ⟨rfl, hk3⟩
end Go.Proofs.Ytamjhpdgclbfgaa
