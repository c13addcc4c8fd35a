/- Chapter 09: the reference's heights and used: the walks. Printed by gen_ntd.py. -/
import Derived.Test.YtamjhpdgclbfgaaXNtCM
namespace Go.Proofs.Ytamjhpdgclbfgaa
open Go.RowKit Go.Kq

/-- Two rows of numbers that are turned. -/
structure H2 (w3 : World) (base g1 g2 M : Nat) (q : List Int × List Int) (wr : World) : Prop where
  a : wr.ownsRow base 2 1 (.slice (some ⟨g1, 0, none⟩) M M) M (q.1.map i64V)
  b : wr.ownsRow base 2 1 (.slice (some ⟨g2, 0, none⟩) M M) M (q.2.map i64V)
  k : Kp (fun b => b = g1 ∨ b = g2) w3 wr
  n : g1 ≠ g2
theorem rown_at {wr : World} {base g M j : Nat} {xs : List Int} {x : Int} (h : wr.ownsRow base 2 1 (.slice (some ⟨g, 0, none⟩) M M) M (xs.map i64V)) (hx : xs[j]? = some x) : wr.cell? ⟨g, j, none⟩ = some (.int .i64 x) ∧ wr.frozen? ⟨g, j, none⟩ = false := by
  refine ⟨own_cell h (by rw [List.getElem?_map, hx]; rfl), ?_⟩
  exact own_free h j
theorem row_set {wr : World} {base g M : Nat} {xs : List Int} (h : wr.ownsRow base 2 1 (.slice (some ⟨g, 0, none⟩) M M) M (xs.map i64V)) (j : Nat) (x : Int) : ((wr.setCell ⟨g, j, none⟩ (.int .i64 x)).drew).ownsRow base 2 1 (.slice (some ⟨g, 0, none⟩) M M) M ((xs.set j x).map i64V) ∧ Kp (Kq.One g) wr ((wr.setCell ⟨g, j, none⟩ (.int .i64 x)).drew) := by
  refine ⟨?_, (kp_setOne wr g j _).tr (Kp.drew _ _)⟩
  rw [List.map_set]
  exact (Kp.drew (fun _ => False) _).owns (own_set h j _) (fun _ _ h => h)
theorem H2.set1 {w3 wr : World} {base g1 g2 M : Nat} {q : List Int × List Int} (h : H2 w3 base g1 g2 M q wr) (j : Nat) (x : Int) : H2 w3 base g1 g2 M (q.1.set j x, q.2) ((wr.setCell ⟨g1, j, none⟩ (.int .i64 x)).drew) := by
  obtain ⟨h1, h2⟩ := row_set h.a j x
  have hn := h.n
  exact ⟨h1, own_kp h.b h2 (fun g hg e => by have e : g = g1 := e; have hg : some g2 = some g := hg; injection hg with hg; omega), h.k.tr (h2.mono fun b _ e => .inl e), h.n⟩
theorem H2.set2 {w3 wr : World} {base g1 g2 M : Nat} {q : List Int × List Int} (h : H2 w3 base g1 g2 M q wr) (j : Nat) (x : Int) : H2 w3 base g1 g2 M (q.1, q.2.set j x) ((wr.setCell ⟨g2, j, none⟩ (.int .i64 x)).drew) := by
  obtain ⟨h1, h2⟩ := row_set h.b j x
  have hn := h.n
  exact ⟨own_kp h.a h2 (fun g hg e => by have e : g = g2 := e; have hg : some g1 = some g := hg; injection hg with hg; omega), h1, h.k.tr (h2.mono fun b _ e => .inr e), h.n⟩
theorem H2.no {w3 wr w' : World} {base g1 g2 M : Nat} {q : List Int × List Int} (h : H2 w3 base g1 g2 M q wr) (k : Kp No wr w') : H2 w3 base g1 g2 M q w' := ⟨own_kp h.a k (fun _ _ h => h), own_kp h.b k (fun _ _ h => h), h.k.tr (k.mono fun _ _ h => False.elim h), h.n⟩
theorem H2.cell {w3 wr : World} {base g1 g2 M b o : Nat} {q : List Int × List Int} {v : Value} (h : H2 w3 base g1 g2 M q wr) (hc : w3.cell? ⟨b, o, none⟩ = some v) (h1 : b < g1) (h2 : b < g2) : wr.cell? ⟨b, o, none⟩ = some v := h.k.cell hc (fun e => by have e : b = g1 ∨ b = g2 := e; omega)
structure H1 (w3 : World) (base g1 M : Nat) (q : List Int) (wr : World) : Prop where
  a : wr.ownsRow base 2 1 (.slice (some ⟨g1, 0, none⟩) M M) M (q.map i64V)
  k : Kp (Kq.One g1) w3 wr
theorem H1.set {w3 wr : World} {base g1 M : Nat} {q : List Int} (h : H1 w3 base g1 M q wr) (j : Nat) (x : Int) : H1 w3 base g1 M (q.set j x) ((wr.setCell ⟨g1, j, none⟩ (.int .i64 x)).drew) := by
  obtain ⟨h1, h2⟩ := row_set h.a j x
  exact ⟨h1, h.k.tr h2⟩
theorem H1.cell {w3 wr : World} {base g1 M b o : Nat} {q : List Int} {v : Value} (h : H1 w3 base g1 M q wr) (hc : w3.cell? ⟨b, o, none⟩ = some v) (h1 : b ≠ g1) : wr.cell? ⟨b, o, none⟩ = some v := h.k.cell hc (fun e => by have e : b = g1 := e; omega)
theorem getD_at {q : List Int} {j : Nat} (h : j < q.length) : q[j]? = some (q.getD j 0) := by
  rw [List.getD_eq_getElem?_getD, List.getElem?_eq_getElem h]
  rfl
def hfold (K : Int) (S : List Nat) (l : List Ct) (k : Nat) : List Int × List Int := ((S.zip l).take k).foldl (hstep K) (List.replicate (cntF S) 0, List.replicate (cntF S) 0)
theorem hfold_succ {K : Int} {S : List Nat} {l : List Ct} {k s : Nat} {c : Ct} (hs : S[k]? = some s) (hc : l[k]? = some c) : hfold K S l (k + 1) = hstep K (hfold K S l k) (s, c) := by
  unfold hfold
  have hz : (S.zip l)[k]? = some (s, c) := List.getElem?_zip_eq_some.2 ⟨hs, hc⟩
  rw [List.take_add_one, hz, List.foldl_append]
  rfl
theorem hfold_all {K : Int} {S : List Nat} {l : List Ct} {k : Nat} (h : S.length ≤ k) : hfold K S l k = (S.zip l).foldl (hstep K) (List.replicate (cntF S) 0, List.replicate (cntF S) 0) := by
  unfold hfold
  rw [List.take_of_length_le (by simp; omega)]
theorem hstep_len (K : Int) (q : List Int × List Int) (x : Nat × Ct) : (hstep K q x).1.length = q.1.length ∧ (hstep K q x).2.length = q.2.length := by simp [hstep]
theorem getD_bd {q : List Int} {j : Nat} {M : Int} (h : ∀ x ∈ q, 0 ≤ x ∧ x ≤ M) (hM : 0 ≤ M) : 0 ≤ q.getD j 0 ∧ q.getD j 0 ≤ M := by
  rcases Nat.lt_or_ge j q.length with hj | hj
  · exact h _ (mem_getD hj)
  · rw [List.getD_eq_getElem?_getD, List.getElem?_eq_none hj]
    exact ⟨Int.le_refl _, hM⟩
theorem hstep_bd {K : Int} {q : List Int × List Int} {s k : Nat} {c : Ct} (hK : 0 ≤ K ∧ K ≤ 50000) (hc : 0 ≤ c.w ∧ c.w ≤ 20000000 ∧ 0 ≤ c.h ∧ c.h ≤ 20000000) (h1 : ∀ x ∈ q.1, 0 ≤ x ∧ x ≤ 20000000) (h2 : ∀ x ∈ q.2, 0 ≤ x ∧ x ≤ 20050000 * (k : Int)) : (∀ x ∈ (hstep K q (s, c)).1, 0 ≤ x ∧ x ≤ 20000000) ∧ ∀ x ∈ (hstep K q (s, c)).2, 0 ≤ x ∧ x ≤ 20050000 * ((k + 1 : Nat) : Int) := by
  have b1 := getD_bd (j := s) h1 (by omega)
  have b2 := getD_bd (j := s) h2 (by omega)
  constructor
  · intro x hx
    rcases List.mem_or_eq_of_mem_set hx with hx | rfl
    · exact h1 x hx
    · simp only
      omega
  · intro x hx
    rcases List.mem_or_eq_of_mem_set hx with hx | rfl
    · have := h2 x hx
      omega
    · simp only
      split <;> omega
theorem rep_bd {m : Nat} {M : Int} (hM : 0 ≤ M) : ∀ x ∈ List.replicate m (0 : Int), 0 ≤ x ∧ x ≤ M := fun x hx => by
  rw [List.eq_of_mem_replicate hx]
  exact ⟨Int.le_refl _, hM⟩
theorem fits_no {M : Int} {q : List Int} {k : Nat} {x : Int} (h : q[k]? = some x) (hx : M < x) : fitsM M q = false := by
  unfold fitsM
  rw [List.all_eq_false]
  exact ⟨x, List.mem_of_getElem? h, by simpa using hx⟩
theorem fits_all {M : Int} {q : List Int} (h : ∀ j x, j < q.length → q[j]? = some x → x ≤ M) : fitsM M q = true := by
  unfold fitsM
  rw [List.all_eq_true]
  intro x hx
  obtain ⟨j, hj⟩ := List.mem_iff_getElem?.1 hx
  simpa using h j x (List.getElem?_eq_some_iff.1 hj).1 hj
/-- What heights and used return. -/
def OptR (w : World) (r : Option (List Int)) (e : Ending) (w' : World) : Prop := match r with
  | none => e = .returned (.tuple #[.slice none 0 0, .bool false])
  | some H => ∃ A m c, e = .returned (.tuple #[.slice A m c, .bool true]) ∧ RdI .i64 w' A m H ∧ ∀ b o, A = some ⟨b, o, none⟩ → w.heap.size ≤ b
structure CtOk (l : List Ct) (K : Int) : Prop where
  c : ∀ c ∈ l, 0 ≤ c.w ∧ c.w ≤ 20000000 ∧ 0 ≤ c.h ∧ c.h ≤ 20000000
  k : 0 ≤ K ∧ K ≤ 50000
set_option maxHeartbeats 16000000 in
set_option maxRecDepth 100000 in
theorem heights_any (P : Pt) (A : Option Addr) (n ca : Nat) (l : List Ct) (AS : Option Addr) (cs : Nat) (S : List Nat) (w : World) (hx : RdC w A n l) (hS : RdI .i64 w AS n (S.map Int.ofNat)) (hn : n ≤ 8) (hok : CtOk l P.k) (hM : cntF S ≤ 8) :
    Calls Try.prog 61 #[P.val, .slice A n ca, .slice AS n cs] w fun e w' => OptR w (hgtV P l S) e w' ∧ Kp No w w' := by
  obtain ⟨M, hMM⟩ : ∃ M, cntF S = M := ⟨_, rfl⟩
  have hlt : ∀ s ∈ S, s < M := fun s hs => by rw [← hMM]; exact cntF_lt s hs
  have HLT := Lib.hid hlt
  have hk0 : Kp No w (w.alloc (.cells #[.int .i64 P.w, .int .i64 P.h, .int .i64 P.k] 23)) := Kp.alloc _ _ _
  have hbx : (w.alloc (.cells #[.int .i64 P.w, .int .i64 P.h, .int .i64 P.k] 23)).heap[w.heap.size]? = some (.cells #[.int .i64 P.w, .int .i64 P.h, .int .i64 P.k] 23 (0, 0)) := heap_alloc_new _ _
  have hCN := count_any AS n cs S (w.alloc (.cells #[.int .i64 P.w, .int .i64 P.h, .int .i64 P.k] 23)) (hS.no hk0) (by omega) (fun s hs => by have := hlt s hs; omega)
  rw [hMM] at hCN hM
  have HSL := Lib.hid (nat_len hS)
  have HX := Lib.hid (hx.no hk0)
  have HL := Lib.hid hx.1
  have HSR := Lib.hid (hS.no hk0)
  have HOK := Lib.hid hok
  have HCN := Lib.hid hCN
  have HV := Lib.hid (show hgtV P l S = if fitsM P.w (hfold P.k S l n).2 then some (hfold P.k S l n).1 else none by rw [hfold_all (by rw [HSL.out]; exact Nat.le_refl _)]; rfl)
  have hmk := fun W => make_l M (by omega) W
  have HS0 := Lib.hid (show hfold P.k S l 0 = (List.replicate M 0, List.replicate M 0) by unfold hfold; rw [hMM]; rfl)
  unfold Pt.val
  obtain ⟨g0, hg0⟩ : ∃ g0, g0 = w.heap.size := ⟨_, rfl⟩
  rw [← hg0] at hbx
  have HBX := Lib.hid hbx
  have HK0 := Lib.hid hk0
  clear hx hS hok hCN hbx hlt hMM
  go_enter Try.func61, Try.ntmps61
  go_wp2_with fail
  have hz0 : (w.alloc (.cells #[.int .i64 P.w, .int .i64 P.h, .int .i64 P.k] 23)).heap.size = g0 + 1 := by rw [hg0]; simp
  rw [← hg0]
  generalize (w.alloc (.cells #[.int .i64 P.w, .int .i64 P.h, .int .i64 P.k] 23)) = w0 at *
  have HG0 := Lib.hid hg0
  clear hg0
  with_reducible refine HCN.out.mono ?_
  rintro e w1 ⟨rfl, hw1⟩
  subst hw1
  clear HCN
  go_wp2_with fail
  have A1 := own_zero (base := g0) (g := w1.heap.size) (by omega) (show M ≤ 100000 by omega) (heap_alloc_new w1 (.cells (zL M) 2))
  have B1 := own_zero (base := g0) (g := (w1.alloc (.cells (zL M) 2)).heap.size) (by simp; omega) (show M ≤ 100000 by omega) (heap_alloc_new (w1.alloc (.cells (zL M) 2)) (.cells (zL M) 2))
  have K3 := Lib.hid ((Kp.alloc No w1 (.cells (zL M) 2)).tr (Kp.alloc No (w1.alloc (.cells (zL M) 2)) (.cells (zL M) 2)))
  have A3 := A1.alloc (.cells (zL M) 2)
  have hz1 : (w1.alloc (.cells (zL M) 2)).heap.size = w1.heap.size + 1 := by simp
  obtain ⟨g1, hg1⟩ : ∃ g1, g1 = g0 + 1 := ⟨_, rfl⟩
  obtain ⟨g2, hg2⟩ : ∃ g2, g2 = g1 + 1 := ⟨_, rfl⟩
  rw [hz0, ← hg1] at A3
  rw [hz1, hz0, ← hg1, ← hg2] at B1
  rw [← hg1, ← hg2]
  have hg12 : g1 < g2 := by omega
  have hg01 : g0 < g1 := by omega
  have HG := Lib.hid (show g1 = w1.heap.size ∧ g2 = w1.heap.size + 1 from ⟨by omega, by omega⟩)
  have hw3s : ((w1.alloc (.cells (zL M) 2)).alloc (.cells (zL M) 2)).heap.size = g2 + 1 := by simp; omega
  have HI0 := Lib.hid (show H2 ((w1.alloc (.cells (zL M) 2)).alloc (.cells (zL M) 2)) g0 g1 g2 M (hfold P.k S l 0) ((w1.alloc (.cells (zL M) 2)).alloc (.cells (zL M) 2)) from by rw [HS0.out]; exact ⟨A3, B1, Kp.refl _ _, by omega⟩)
  clear A1 B1 A3 hz1 hg1 hg2 hmk hz0
  generalize ((w1.alloc (.cells (zL M) 2)).alloc (.cells (zL M) 2)) = w3 at *
  have HRW := Lib.hid (show ∀ b, b < w1.heap.size → b < g1 ∧ b < g2 from fun b hb => by have := HG.out; omega)
  go_loopw [10] (fun i wr => ∃ k : Nat, k ≤ n ∧ i = .int .i64 k ∧ H2 w3 g0 g1 g2 M (hfold P.k S l k) wr ∧ ((∀ x ∈ (hfold P.k S l k).1, 0 ≤ x ∧ x ≤ 20000000) ∧ (∀ x ∈ (hfold P.k S l k).2, 0 ≤ x ∧ x ≤ 20050000 * (k : Int)))) (fun i _ => n - (intOf i).toNat)
  case atStart => exact ⟨0, by omega, rfl, HI0.out, by rw [HS0.out]; exact ⟨rep_bd (by omega), rep_bd (by omega)⟩⟩
  case round =>
    obtain ⟨k, hk, rfl, hq, hbd⟩ := hrel
    have HQ := Lib.hid hq
    have HBD0 := Lib.hid hbd
    have hb2 := (K3.out.heap HBX.out id)
    have q2 : wr.cell? ⟨g0, 2, none⟩ = some (.int .i64 P.k) := HQ.out.cell (by rw [cell_of_row _ _ _ _ _ _ hb2]; rfl) (by omega) (by omega)
    clear hq hbd hb2 HI0
    by_cases hkn : k < n
    · obtain ⟨c, hc⟩ : ∃ c, l[k]? = some c := ⟨_, List.getElem?_eq_getElem (by rw [HL.out]; exact hkn)⟩
      obtain ⟨s, hs⟩ : ∃ s, S[k]? = some s := ⟨_, List.getElem?_eq_getElem (by rw [HSL.out]; exact hkn)⟩
      have hkn' : (k : Int) < n := by omega
      have hsM := HLT.out s (List.mem_of_getElem? hs)
      have hsM' : (s : Int) < M := by omega
      have hck := HOK.out.c c (List.mem_of_getElem? hc)
      have hKK := HOK.out.k
      obtain ⟨b, o, rfl, hb, hcc⟩ := HX.out.2 k c hc
      obtain ⟨b', o', rfl, hb', hcs⟩ := HSR.out.2 k _ (nat_at hs)
      have CT := Lib.hid (show w3.cell? ⟨b, o + k * 2, none⟩ = some (.int .i64 c.w) ∧ w3.cell? ⟨b, o + k * 2 + 1, none⟩ = some (.int .i64 c.h) ∧ w3.cell? ⟨b', o' + k, none⟩ = some (.int .i64 s) ∧ b < g1 ∧ b < g2 from ⟨K3.out.cell (hcc 0 _ rfl) id, K3.out.cell (hcc 1 _ rfl) id, K3.out.cell hcs id, HRW.out b hb⟩)
      have HSU := Lib.hid (hfold_succ (K := P.k) hs hc)
      have HBD := Lib.hid (hstep_bd (s := s) hKK hck HBD0.out.1 HBD0.out.2)
      obtain ⟨⟨qa, qb⟩, hqq⟩ : ∃ q, hfold P.k S l k = q := ⟨_, rfl⟩
      rw [hqq] at HQ HSU HBD HBD0
      have hla : qa.length = M := by have := HQ.out.a.1; simpa using this
      have hlb : qb.length = M := by have := HQ.out.b.1; simpa using this
      obtain ⟨x1, hx1⟩ : ∃ x, qa.getD s 0 = x := ⟨_, rfl⟩
      obtain ⟨x2, hx2⟩ : ∃ x, qb.getD s 0 = x := ⟨_, rfl⟩
      have X1 := Lib.hid (show qa[s]? = some x1 by rw [← hx1]; exact getD_at (by omega))
      have X2 := Lib.hid (show qb[s]? = some x2 by rw [← hx2]; exact getD_at (by omega))
      have bx1 := HBD0.out.1 x1 (List.mem_of_getElem? X1.out)
      have bx2 := HBD0.out.2 x2 (List.mem_of_getElem? X2.out)
      have hss := HQ.out.cell CT.out.2.2.1 (HRW.out b' hb').1 (HRW.out b' hb').2
      obtain ⟨yh, fh⟩ := rown_at HQ.out.a (j := s) (x := x1) X1.out
      have HST := Lib.hid (show hstep P.k (qa, qb) (s, c) = (qa.set s (max x1 c.h), qb.set s ((if 0 < x1 then x2 + P.k else x2) + c.w)) by simp only [hstep]; rw [hx1, hx2])
      clear hc hs hb hb' hcc hcs hqq hx1 hx2 HBD0
      have hk8 : k ≤ 8 := by omega
      by_cases hp : 0 < x1
      · rw [if_pos hp] at HST
        obtain ⟨yw, fw⟩ := rown_at HQ.out.b (j := s) (x := x2) X2.out
        have HQ7 := Lib.hid (HQ.out.set2 s (x2 + P.k))
        have hsk : IntKind.i64.wrap (x2 + P.k) = x2 + P.k := by rw [IntKind.wrap_i64]; omega
        go_wp2_with fail
        go_region
        generalize (wr.setCell ⟨g2, s, none⟩ (.int .i64 (x2 + P.k))).drew = w7 at *
        clear yw fw hsk yh fh hss q2 HQ
        have HQ8 := Lib.hid (HQ7.out.set2 s ((x2 + P.k) + c.w))
        have c0 := HQ7.out.cell CT.out.1 CT.out.2.2.2.1 CT.out.2.2.2.2
        have c1 := HQ7.out.cell CT.out.2.1 CT.out.2.2.2.1 CT.out.2.2.2.2
        obtain ⟨yw, fw⟩ := rown_at HQ7.out.b (j := s) (x := (x2 + P.k)) (by simp only; rw [List.getElem?_set_self (by omega)])
        have hsw : IntKind.i64.wrap ((x2 + P.k) + c.w) = (x2 + P.k) + c.w := by rw [IntKind.wrap_i64]; omega
        go_wp2_with fail
        go_region
        generalize (w7.setCell ⟨g2, s, none⟩ (.int .i64 ((x2 + P.k) + c.w))).drew = w8 at *
        clear yw fw hsw c0 c1
        have HQ9 := Lib.hid (HQ8.out.set1 s (max x1 c.h))
        have c1 := HQ8.out.cell CT.out.2.1 CT.out.2.2.2.1 CT.out.2.2.2.2
        obtain ⟨yh, fh⟩ := rown_at HQ8.out.a (j := s) (x := x1) X1.out
        go_wp2_with fail
        go_region
        (try rw [show (if x1 < c.h then c.h else x1) = max x1 c.h by split <;> omega])
        generalize (w8.setCell ⟨g1, s, none⟩ (.int .i64 (max x1 c.h))).drew = w9 at *
        clear yh fh c1
        go_wp2_with fail
        go_roundw
        case rel => exact ⟨k + 1, by omega, by go_num, by rw [HSU.out]; exact (by rw [HST.out]; have := HQ9.out; simp only [List.set_set] at this; exact this), by rw [HSU.out]; exact HBD.out⟩
        case measure => simp [intOf]; omega
      · rw [if_neg hp] at HST
        have hp' : x1 ≤ 0 := by omega
        have HQ7 := HQ
        clear q2
        have HQ8 := Lib.hid (HQ7.out.set2 s (x2 + c.w))
        have c0 := HQ7.out.cell CT.out.1 CT.out.2.2.2.1 CT.out.2.2.2.2
        have c1 := HQ7.out.cell CT.out.2.1 CT.out.2.2.2.1 CT.out.2.2.2.2
        obtain ⟨yw, fw⟩ := rown_at HQ7.out.b (j := s) (x := x2) X2.out
        have hsw : IntKind.i64.wrap (x2 + c.w) = x2 + c.w := by rw [IntKind.wrap_i64]; omega
        go_wp2_with fail
        go_region
        generalize (wr.setCell ⟨g2, s, none⟩ (.int .i64 (x2 + c.w))).drew = w8 at *
        clear yw fw hsw c0 c1
        have HQ9 := Lib.hid (HQ8.out.set1 s (max x1 c.h))
        have c1 := HQ8.out.cell CT.out.2.1 CT.out.2.2.2.1 CT.out.2.2.2.2
        obtain ⟨yh, fh⟩ := rown_at HQ8.out.a (j := s) (x := x1) X1.out
        go_wp2_with fail
        go_region
        (try rw [show (if x1 < c.h then c.h else x1) = max x1 c.h by split <;> omega])
        generalize (w8.setCell ⟨g1, s, none⟩ (.int .i64 (max x1 c.h))).drew = w9 at *
        clear yh fh c1
        go_wp2_with fail
        go_roundw
        case rel => exact ⟨k + 1, by omega, by go_num, by rw [HSU.out]; exact (by rw [HST.out]; exact HQ9.out), by rw [HSU.out]; exact HBD.out⟩
        case measure => simp [intOf]; omega
    · obtain rfl : k = n := by omega
      have HQF := Lib.hid (HV.out)
      have KW := Lib.hid (show ∀ wz, Kp (fun b => b = g1 ∨ b = g2) w3 wz → Kp No w wz from fun wz kz => (HK0.out.tr K3.out).trans kz fun b hb e => by
        have e : b = g1 ∨ b = g2 := e
        have := HG.out
        have := HG0.out
        omega)
      obtain ⟨⟨qa, qb⟩, hqq⟩ : ∃ q, hfold P.k S l k = q := ⟨_, rfl⟩
      rw [hqq] at HQ HV
      have hlb : qb.length = M := by have := HQ.out.b.1; simpa using this
      clear HBD0 HQF q2
      obtain ⟨wo, rfl⟩ : ∃ wo : World, wo = wr := ⟨_, rfl⟩
      go_wp2_with fail
      go_loopw [12] (fun i wr => ∃ j : Nat, j ≤ M ∧ i = .int .i64 j ∧ (∀ j' x, j' < j → qb[j']? = some x → x ≤ P.w) ∧ H2 w3 g0 g1 g2 M (qa, qb) wr) (fun i _ => M - (intOf i).toNat)
      case atStart => exact ⟨0, by omega, rfl, fun j' x h => by omega, HQ.out⟩
      case round =>
        obtain ⟨j, hj, rfl, hall, hq2⟩ := hrel
        have HA := Lib.hid hall
        have HQ2 := Lib.hid hq2
        have hb2 := (K3.out.heap HBX.out id)
        have q0 : wr.cell? ⟨g0, 0, none⟩ = some (.int .i64 P.w) := HQ2.out.cell (by rw [cell_of_row _ _ _ _ _ _ hb2]; rfl) (by omega) (by omega)
        clear hall hq2 hb2
        by_cases hjM : j < M
        · obtain ⟨x, hx⟩ : ∃ x, qb[j]? = some x := ⟨_, List.getElem?_eq_getElem (by omega)⟩
          have hjM' : (j : Int) < M := by omega
          obtain ⟨yw, fw⟩ := rown_at HQ2.out.b (j := j) (x := x) hx
          have HX2 := Lib.hid hx
          clear hx
          by_cases hgt : P.w < x
          · have HN := Lib.hid (show hgtV P l S = none by rw [HV.out, fits_no HX2.out hgt]; rfl)
            go_wp2_with fail
            go_quiet (fail)
            go_wp2_with fail
            exact bodyPost_ret (v := .tuple #[.slice none 0 0, .bool false]) (by simp [results, Try.results61, go_sem]) rfl ⟨by rw [HN.out]; exact rfl, KW.out _ (HQ2.out.no (Kp.drewN _ _ _)).k⟩
          · have hle : x ≤ P.w := by omega
            go_wp2_with fail
            go_quiet (fail)
            go_wp2_with fail
            go_roundw
            case rel => exact ⟨j + 1, by omega, by go_num, fun j' y hj' hy => by
              by_cases e : j' = j
              · subst e
                rw [HX2.out] at hy
                cases hy
                exact hle
              · exact HA.out j' y (by omega) hy, HQ2.out.no (Kp.drewN _ _ _)⟩
            case measure => simp [intOf]; omega
        · obtain rfl : j = M := by omega
          have HN := Lib.hid (show hgtV P l S = some qa by rw [HV.out, fits_all fun j' x hj' hx => HA.out j' x (by omega) hx]; rfl)
          go_wp2_with fail
          exact bodyPost_ret (v := .tuple #[.slice (some ⟨g1, 0, none⟩) j j, .bool true]) (by simp [results, Try.results61, go_sem]) rfl ⟨by rw [HN.out]; exact ⟨_, _, _, rfl, RdI.of_own HQ2.out.a, fun b o e => by cases e; have := HG.out; have := HG0.out; omega⟩, KW.out _ HQ2.out.k⟩
end Go.Proofs.Ytamjhpdgclbfgaa
