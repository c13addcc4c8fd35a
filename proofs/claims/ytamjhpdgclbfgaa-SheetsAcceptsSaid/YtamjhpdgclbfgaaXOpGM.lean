/- Chapter 09: the theorem of the chapter: the walk. · Chapter 09: how a plate, cuts and spots that came in are read. -/
import Derived.ProofKit
import Derived.OpenShut
import Derived.Deep.Slices
import Derived.Deep.Fields
import Derived.ChangeSame
import Derived.Test.YtamjhpdgclbfgaaXAcWM
import Derived.Test.YtamjhpdgclbfgaaXJuPM
import Derived.Test.YtamjhpdgclbfgaaXLibHvM
namespace Go.Proofs.Ytamjhpdgclbfgaa
open Go.RowKit Go.Kq

set_option maxHeartbeats 8000000 in
set_option maxRecDepth 100000 in
theorem taccepts_any (P : Pt) (A : Option Addr) (n ca : Nat) (l : List Ct) (w : World) (hx : RdC w A n l) (hA : ∀ a, A = some a → a.block < w.heap.size) :
    Calls Try.prog 7 #[P.val, .slice A n ca] w fun e w' => e = .returned (.bool true) ∧ Kp No w w' := by
  have hk0 : Kp No w (w.alloc (.cells #[.int .i64 P.w, .int .i64 P.h, .int .i64 P.k] 23)) := Kp.alloc _ _ _
  have hbx : (w.alloc (.cells #[.int .i64 P.w, .int .i64 P.h, .int .i64 P.k] 23)).heap[w.heap.size]? = some (.cells #[.int .i64 P.w, .int .i64 P.h, .int .i64 P.k] 23 (0, 0)) := heap_alloc_new _ _
  obtain ⟨gP, hgP⟩ : ∃ g, w.heap.size = g := ⟨_, rfl⟩
  rw [hgP] at hbx
  obtain ⟨p0, p1, p2⟩ := three_cellsP hbx
  obtain ⟨w0, hw0⟩ : ∃ w0, (w.alloc (.cells #[.int .i64 P.w, .int .i64 P.h, .int .i64 P.k] 23)) = w0 := ⟨_, rfl⟩
  rw [hw0] at hk0 p0 p1 p2
  have HK0 := Lib.hid hk0
  by_cases hbigl : 40 < n
  · have h5 : (40 : Int) < n := by omega
    clear hx hA hbx
    unfold Pt.val
    go_enter Try.func7, Try.ntmps7
    go_wp2_with fail
    with_reducible refine (awake_any _).mono ?_
    rintro e w1 ⟨rfl, k1⟩
    have K1 := Lib.hid (HK0.out.tr k1)
    clear k1
    go_wp2_with fail
    go_ret
    exact ⟨rfl, K1.out⟩
  have h5 : (n : Int) ≤ 40 := by omega
  have hln := hx.1
  have HX := Lib.hid (hx.no hk0)
  have HQ := Lib.hid (Quick_all P A n ca l w0 (hx.no hk0) (by omega) (fun b o e => Nat.lt_of_lt_of_le (hA _ e) hk0.size))
  by_cases he : quiE P l = 0
  rotate_left
  · have hl : quiL P l = [] := by
      unfold quiL
      rw [if_neg he]
    rw [hl] at HQ
    generalize quiE P l = qe at *
    have hqn : (qe == 0) = false := beq_eq_false_iff_ne.2 he
    have hqn2 : (qe != 0) = true := bne_iff_ne.2 he
    unfold Pt.val at *
    clear hx hA hbx hk0 hl HX
    go_enter Try.func7, Try.ntmps7
    go_wp2_with fail
    clear hw0 hgP
    with_reducible refine HQ.out.mono ?_
    rintro e w1 ⟨A1, m1, c1, rfl, hs1, _, _, k1⟩
    obtain rfl : m1 = 0 := hs1.1.symm
    have K1 := Lib.hid (HK0.out.tr k1)
    clear hs1 k1 HQ HK0
    go_wp2_with fail
    with_reducible refine (awake_any _).mono ?_
    rintro e w2 ⟨rfl, k2⟩
    have K2 := Lib.hid (K1.out.tr k2)
    clear k2
    go_wp2_with fail
    go_ret
    exact ⟨rfl, K2.out⟩
  have hj : jchk P l 200 = 0 := by
    by_cases h : jchk P l 200 = 0
    · exact h
    · unfold quiE at he
      rw [if_neg h] at he
      exact absurd he h
  have hb : l.any (bigC P) = false := by
    have he2 := he
    unfold quiE at he2
    rw [if_pos hj] at he2
    unfold fitV at he2
    cases hb : l.any (bigC P) with
    | false => rfl
    | true => rw [hb] at he2; simp at he2
  have hl : quiL P l = quickF P l := by
    unfold quiL
    rw [if_pos he]
  obtain ⟨q1, q2, q3, q4, q5⟩ := quick_law hj hb
  obtain ⟨n1, n2, n3, n4, n5, n6⟩ := nest_law hj hb
  have hJO := job_ok hj
  have hne : nesE P l = if (8 : Int) < n then 3 else 0 := by
    unfold nesE
    rw [jchk_8 hj, hln, hb]
    by_cases h8 : (8 : Int) < n
    · rw [if_pos h8, if_neg (by decide)]
    · rw [if_neg h8, if_pos rfl]
      rfl
  have hl2 : (lstV P l).2 = 0 := by
    unfold lstV
    rw [if_pos hj]
  have HNE := Lib.hid (fun (h8 : n ≤ 8) => show nesL P l = nestF P l by
    have h0 : nesE P l = 0 := by rw [hne, if_neg (by omega)]
    unfold nesL
    rw [if_pos h0])
  have HLE := Lib.hid (fun w1 (k : Kp No w0 w1) => Least_any P A n ca l w1 ((hx.no hk0).no k) (by omega))
  have HNC := Lib.hid (fun w1 (k : Kp No w0 w1) => Nest_cap P A n ca l w1 ((hx.no hk0).no k) (by omega) (fun b o e => Nat.lt_of_lt_of_le (Nat.lt_of_lt_of_le (hA _ e) hk0.size) k.size))
  have HQA := Lib.hid (fun A1 c1 w1 (k : Kp No w0 w1) (hs : RdS w1 A1 n (quickF P l)) => apart_any P A A1 n ca c1 l (quickF P l) w1 ((hx.no hk0).no k) hs (by omega) hJO q1)
  have HNA := Lib.hid (fun A1 c1 w1 (k : Kp No w0 w1) (hs : RdS w1 A1 n (nestF P l)) => apart_any P A A1 n ca c1 l (nestF P l) w1 ((hx.no hk0).no k) hs (by omega) hJO n1)
  have HQJ := Lib.hid (fun A1 c1 w1 (k : Kp No w0 w1) (hs : RdS w1 A1 n (quickF P l)) (hc : n ≤ c1) => Judge_any P A A1 n n ca c1 l (quickF P l) w1 ((hx.no hk0).no k) hs (by omega) (by omega) hc)
  have HNJ := Lib.hid (fun A1 c1 w1 (k : Kp No w0 w1) (hs : RdS w1 A1 n (nestF P l)) (hc : n ≤ c1) => Judge_any P A A1 n n ca c1 l (nestF P l) w1 ((hx.no hk0).no k) hs (by omega) (by omega) hc)
  have HQP := Lib.hid (fun A1 c1 w1 (hs : RdS w1 A1 n (quickF P l)) => plates_any A1 n c1 (quickF P l) w1 hs (by omega) (fun s h => by have := q5 s h; omega))
  have HNP := Lib.hid (fun A1 c1 w1 (hs : RdS w1 A1 n (nestF P l)) => plates_any A1 n c1 (nestF P l) w1 hs (by omega) (fun s h => by have := n6 s h; omega))
  rw [hl, he] at HQ
  rw [q2] at HQJ
  rw [n2] at HNJ
  simp only [hl2] at HLE
  rw [hne] at HNC
  have HLQ := Lib.hid (show (quickF P l).length = n by rw [q4, hln])
  have HLN := Lib.hid (show (nestF P l).length = n by rw [n5, hln])
  generalize (lstV P l).1 = lv at *
  generalize plF (quickF P l) = pq at *
  generalize plF (nestF P l) = pn at *
  unfold Pt.val at *
  have q3' : decide (pq < lv) = false := decide_eq_false (by omega)
  clear hx hA hbx hk0 he hl hj hb q1 q2 q4 q5 n1 n2 n5 n6 hJO hl2 HX
  go_enter Try.func7, Try.ntmps7
  go_wp2_with fail
  clear hw0 hgP
  with_reducible refine HQ.out.mono ?_
  rintro e w1 ⟨A1, m1, c1, rfl, hs1, _, hc1, k1⟩
  obtain rfl : m1 = n := by have := hs1.1; rw [HLQ.out] at this; exact this.symm
  have HS := Lib.hid hs1
  have K := Lib.hid k1
  replace p0 := k1.cell p0 id
  replace p1 := k1.cell p1 id
  replace p2 := k1.cell p2 id
  clear hs1 k1 HQ
  go_wp2_with fail
  with_reducible refine (HLE.out w1 K.out).mono ?_
  rintro e w2 ⟨rfl, k⟩
  replace HS := Lib.hid (HS.out.no k)
  replace K := Lib.hid (K.out.tr k)
  replace p0 := k.cell p0 id
  replace p1 := k.cell p1 id
  replace p2 := k.cell p2 id
  clear k HLE
  go_wp2_with fail
  with_reducible refine (HQA.out A1 c1 w2 K.out HS.out).mono ?_
  rintro e w3 ⟨rfl, k⟩
  replace HS := Lib.hid (HS.out.no k)
  replace K := Lib.hid (K.out.tr k)
  replace p0 := k.cell p0 id
  replace p1 := k.cell p1 id
  replace p2 := k.cell p2 id
  clear k HQA
  go_wp2_with fail
  with_reducible refine (HQJ.out A1 c1 w3 K.out HS.out hc1).mono ?_
  rintro e w4 ⟨rfl, k⟩
  replace HS := Lib.hid (HS.out.no k)
  replace K := Lib.hid (K.out.tr k)
  replace p0 := k.cell p0 id
  replace p1 := k.cell p1 id
  replace p2 := k.cell p2 id
  clear k HQJ
  go_wp2_with fail
  with_reducible refine (HQP.out A1 c1 w4 HS.out).mono ?_
  rintro e w5 ⟨rfl, hw5⟩
  subst hw5
  go_wp2_with fail
  with_reducible refine (HNC.out w5 K.out).mono ?_
  rintro e w6 ⟨A2, m2, c2, rfl, hs2, _, hc2, k⟩
  replace HS := Lib.hid (HS.out.no k)
  replace K := Lib.hid (K.out.tr k)
  have HS2 := Lib.hid hs2
  replace p0 := k.cell p0 id
  replace p1 := k.cell p1 id
  replace p2 := k.cell p2 id
  clear k HNC hs2
  by_cases h8 : (8 : Int) < m1
  · rw [if_pos h8]
    go_wp2_with fail
    with_reducible refine (awake_any _).mono ?_
    rintro e w7 ⟨rfl, k⟩
    have K2 := Lib.hid (HK0.out.tr (K.out.tr k))
    clear k
    go_wp2_with fail
    go_ret
    exact ⟨rfl, K2.out⟩
  · rw [if_neg h8]
    have h8' : (m1 : Int) ≤ 8 := by omega
    have hs3 := HS2.out
    rw [HNE.out (by omega)] at hs3
    obtain rfl : m2 = m1 := by have := hs3.1; rw [HLN.out] at this; exact this.symm
    replace HS2 := Lib.hid hs3
    clear hs3 h8
    go_wp2_with fail
    with_reducible refine (HNA.out A2 c2 w6 K.out HS2.out).mono ?_
    rintro e w7 ⟨rfl, k⟩
    replace HS := Lib.hid (HS.out.no k)
    replace HS2 := Lib.hid (HS2.out.no k)
    replace K := Lib.hid (K.out.tr k)
    replace p0 := k.cell p0 id
    replace p1 := k.cell p1 id
    replace p2 := k.cell p2 id
    clear k HNA
    go_wp2_with fail
    with_reducible refine (HNJ.out A2 c2 w7 K.out HS2.out hc2).mono ?_
    rintro e w8 ⟨rfl, k⟩
    replace HS := Lib.hid (HS.out.no k)
    replace HS2 := Lib.hid (HS2.out.no k)
    replace K := Lib.hid (K.out.tr k)
    clear k HNJ p0 p1 p2
    go_wp2_with fail
    with_reducible refine (HNP.out A2 c2 w8 HS2.out).mono ?_
    rintro e w9 ⟨rfl, hw9⟩
    subst hw9
    go_wp2_with fail
    with_reducible refine (HNP.out A2 c2 w9 HS2.out).mono ?_
    rintro e wa ⟨rfl, hwa⟩
    subst hwa
    go_wp2_with fail
    with_reducible refine (HQP.out A1 c1 wa HS.out).mono ?_
    rintro e wb ⟨rfl, hwb⟩
    subst hwb
    go_wp2_with fail
    with_reducible refine (awake_any _).mono ?_
    rintro e wd ⟨rfl, k⟩
    have K2 := Lib.hid (HK0.out.tr (K.out.tr k))
    clear k
    go_wp2_with fail
    go_ret
    exact ⟨rfl, K2.out⟩
end Go.Proofs.Ytamjhpdgclbfgaa

namespace Go.Proofs.Ytamjhpdgclbfgaa
open Go.ChangeShapes Go.WideShapes Go.RowKit Go.Deep Go.Kq

theorem choose_list {α : Type} {P : Nat → α → Prop} : ∀ n : Nat, (∀ i, i < n → ∃ a, P i a) → ∃ l : List α, l.length = n ∧ ∀ i a, l[i]? = some a → P i a
  | 0, _ => ⟨[], rfl, fun i a h => by simp at h⟩
  | n + 1, h => by
    obtain ⟨l, hl, hp⟩ := choose_list n fun i hi => h i (by omega)
    obtain ⟨a, ha⟩ := h n (by omega)
    refine ⟨l ++ [a], by simp [hl], fun i b hb => ?_⟩
    rcases Nat.lt_trichotomy i n with h1 | h1 | h1
    · rw [List.getElem?_append_left (by omega)] at hb
      exact hp i b hb
    · subst h1
      rw [List.getElem?_append_right (by omega), hl] at hb
      simp at hb
      exact hb ▸ ha
    · rw [List.getElem?_eq_none (by simp; omega)] at hb
      cases hb
section
variable {H : Type} {enc : TypeId × Value → H} {W : World} {base : Nat} {spare : Nat → Bool} {held : Bool}
theorem one_long {fuel : Nat} {v : Value} {y : DataW H × List MemPlace} (h : DataW.trod enc Try.prog W base spare held fuel 2 [v] = some y) : ∃ x : Int, v = .int .i64 x := by
  obtain ⟨x, h1, _⟩ := DataW.trod_int Try.underlying2 h
  simp at h1
  exact ⟨x, h1⟩
theorem cLong : Try.prog.cellsOf 2 = 1 := by kernel_rfl
theorem cCut : Try.prog.cellsOf 35 = 2 := by kernel_rfl
theorem cPlate : Try.prog.cellsOf 23 = 3 := by kernel_rfl
theorem fld {t : TypeId} {fs : Array Field} {fuel : Nat} {cs : List Value} {y : DataW H × List MemPlace} (ht : Try.prog.underlying t = some (.struct fs)) (h : DataW.trod enc Try.prog W base spare held fuel t cs = some y) (i : Nat) (f : Field) (o k : Nat) (e : TypeId) (hf : fs[i]? = some f) (ho : f.offset = o) (he : f.type = e) (hk : Try.prog.cellsOf e = k) :
    ∃ n y, DataW.trod enc Try.prog W base spare held n e ((cs.drop o).take k) = some y := by
  obtain ⟨xs, n, _, _, _, hl, hx⟩ := DataW.trod_struct ht h
  have g := hx i f hf
  have hi := (Array.getElem?_eq_some_iff.1 hf).1
  rw [ho, he, hk, List.getElem?_eq_getElem (by omega)] at g
  exact ⟨n, _, g⟩
set_option maxRecDepth 100000 in
theorem cut_cells {cs : List Value} {n : Nat} {y : DataW H × List MemPlace} (h : DataW.trod enc Try.prog W base spare held n 35 cs = some y) : ∃ t : Ct, cs = t.cells := by
  obtain ⟨_, _, _, _, hlen, _, _⟩ := DataW.trod_struct Try.underlying35 h
  rw [cCut] at hlen
  match cs, hlen with
  | [a0, a1], _ =>
    obtain ⟨n0, y0, h0⟩ := fld Try.underlying35 h 0 _ 0 1 2 rfl rfl rfl cLong
    obtain ⟨n1, y1, h1⟩ := fld Try.underlying35 h 1 _ 1 1 2 rfl rfl rfl cLong
    obtain ⟨a, rfl⟩ := one_long (by simpa using h0)
    obtain ⟨b, rfl⟩ := one_long (by simpa using h1)
    exact ⟨⟨a, b⟩, rfl⟩
theorem open_rd {α : Type} (f : α → List Value) (s : Nat) (hs : 0 < s) (_hfl : ∀ x, (f x).length = s) {t e : TypeId} (ht : Try.prog.underlying t = some (.slice e)) (ce : Try.prog.cellsOf e = s)
    (he : ∀ (fuel : Nat) (cs : List Value) (y : DataW H × List MemPlace), DataW.trod enc Try.prog W base (fun _ => true) held fuel e cs = some y → ∃ x, cs = f x)
    {fuel : Nat} {a : Option Addr} {len cap : Nat} {y : DataW H × List MemPlace} (h : DataW.trod enc Try.prog W base (fun _ => true) held fuel t [.slice a len cap] = some y) : (∃ xs, Rd f s W a len xs) ∧ len ≤ cap := by
  rcases open_slice ht h with ⟨hcs, _⟩ | ⟨x, l, c, m, n, D, Pl, hcs, hb, hl, hm, hmm, _, hi⟩
  · simp at hcs
    obtain ⟨rfl, rfl, rfl⟩ := hcs
    exact ⟨⟨[], rfl, fun i v h => by simp at h⟩, Nat.le_refl _⟩
  · simp at hcs
    obtain ⟨rfl, rfl, rfl⟩ := hcs
    refine ⟨?_, hl⟩
    simp at hmm
    subst hmm
    rw [ce] at hi
    by_cases hz : len = 0
    · subst hz
      exact ⟨[], rfl, fun i v h => by simp at h⟩
    obtain ⟨b0, o0, sp⟩ := x
    have hsp : sp = none := by
      obtain ⟨cs', hc, ht⟩ := hi 0 (by omega)
      obtain ⟨_, hln, hat⟩ := World.cells?_some hc
      have e0 := hat 0 (by omega)
      rw [List.getElem?_eq_getElem (by omega)] at e0
      simpa [Addr.add] using World.cell?_spot e0
    subst hsp
    obtain ⟨vs, hvl, hvs⟩ := choose_list (P := fun i (v : α) => b0 < W.heap.size ∧ ∀ j u, (f v)[j]? = some u → W.cell? ⟨b0, o0 + i * s + j, none⟩ = some u) len (fun i hil => by
      obtain ⟨cs', hc, ht⟩ := hi i (by omega)
      obtain ⟨v, rfl⟩ := he _ _ _ ht
      obtain ⟨_, hln, hat⟩ := World.cells?_some hc
      refine ⟨v, ?_, fun j u hj => ?_⟩
      · have e0 := hat 0 (by omega)
        rw [List.getElem?_eq_getElem (by omega)] at e0
        simp only [Addr.add_lit, Nat.add_zero] at e0
        exact World.block_lt_of_cell? W _ e0
      · have hjl := (List.getElem?_eq_some_iff.1 hj).1
        have e0 := hat j (by omega)
        simp only [Addr.add_lit] at e0
        rw [e0, hj])
    exact ⟨vs, hvl, fun i v hv => ⟨b0, o0, rfl, (hvs i v hv).1, (hvs i v hv).2⟩⟩
/-- Cuts that came in. -/
theorem open_cuts {a : Option Addr} {len cap : Nat} {d : DataW H} {p : List MemPlace} (h : DataW.Trod enc Try.prog W base (fun _ => true) held 24 (.slice a len cap) d p) : ∃ l : List Ct, RdC W a len l ∧ len ≤ cap := by
  obtain ⟨fuel, hf⟩ := h
  obtain ⟨⟨ts, hts⟩, hc⟩ := open_rd Ct.cells 2 (by omega) (fun _ => rfl) Try.underlying24 cCut (fun fuel cs y h => cut_cells h) (by simpa [Value.cells] using hf)
  exact ⟨ts, hts, hc⟩
set_option maxRecDepth 100000 in
/-- A plate that came in. -/
theorem open_plate {v : Value} {d : DataW H} {p : List MemPlace} {r : Reach} {b0 : Nat} (hv : Value.okWide Try.prog W r b0 23 v) (h : DataW.Trod enc Try.prog W base (fun _ => true) held 23 v d p) : ∃ x : Pt, v = x.val := by
  obtain ⟨cs, rfl, hsz⟩ := okWide_struct Try.underlying23 hv
  rw [cPlate] at hsz
  obtain ⟨fuel, hf⟩ := h
  obtain ⟨l⟩ := cs
  match l, hsz with
  | [a0, a1, a2], _ =>
    obtain ⟨n0, y0, h0⟩ := fld Try.underlying23 hf 0 _ 0 1 2 rfl rfl rfl cLong
    obtain ⟨n1, y1, h1⟩ := fld Try.underlying23 hf 1 _ 1 1 2 rfl rfl rfl cLong
    obtain ⟨n2, y2, h2⟩ := fld Try.underlying23 hf 2 _ 2 1 2 rfl rfl rfl cLong
    simp [Value.cells] at h0 h1 h2
    obtain ⟨x, rfl⟩ := one_long h0
    obtain ⟨y, rfl⟩ := one_long h1
    obtain ⟨z, rfl⟩ := one_long h2
    exact ⟨⟨x, y, z⟩, rfl⟩
end
end Go.Proofs.Ytamjhpdgclbfgaa
