/- Chapter 15: Demand. Printed by gen_dmd.py. · Chapter 15: how wind systems and combinations that came in are read. · Chapter 15: how a uint8 that came in is read. -/
import Derived.ProofKit
import Derived.OpenShut
import Derived.Deep.Slices
import Derived.Deep.Fields
import Derived.ChangeSame
import Derived.Test.YtpkbpeeelpgmcaaXWdD
import Derived.Test.YtpkbpeeelpgmcaaXLibMakeM
namespace Go.Proofs.Ytpkbpeeelpgmcaa
open Go.RowKit Go.Kq Go.Flow

theorem chk_total (Z : Nz) : ∃ c, ChkIs Z c := by
  by_cases h1 : NLong Z
  · exact ⟨3, .inl ⟨h1, rfl⟩⟩
  · by_cases h2 : NBad Z
    · exact ⟨2, .inr (.inl ⟨h1, h2, rfl⟩)⟩
    · exact ⟨0, .inr (.inr ⟨h1, h2, rfl⟩)⟩
theorem chkW_total (Z : Nz) (l : List Sto) : ∃ c, ChkW Z l c := by
  obtain ⟨c, hc⟩ := chk_total Z
  by_cases h : c = 0
  · subst h
    exact ⟨_, .inr ⟨hc, rfl⟩⟩
  · exact ⟨c, .inl ⟨hc, h⟩⟩
theorem ask_total (Z : Nz) (l : List Sto) (S K : List Int) : ∃ c, AskW Z l S K c := by
  obtain ⟨c, hc⟩ := chkW_total Z l
  by_cases h : c = 0
  · subst h
    exact ⟨_, .inr ⟨hc, rfl⟩⟩
  · exact ⟨c, .inl ⟨hc, h⟩⟩
theorem chkW_zero {Z : Nz} {l : List Sto} (h : ChkW Z l 0) : ChkIs Z 0 ∧ StoOk Z.ch.length l := by
  rcases h with ⟨_, h⟩ | ⟨h1, h⟩
  · exact absurd rfl h
  · exact ⟨h1, stE_ok h.symm⟩
theorem ask_zero {Z : Nz} {l : List Sto} {S K : List Int} (h : AskW Z l S K 0) : ChkW Z l 0 ∧ risB l.length S = true ∧ risB (keysN l) K = true := by
  rcases h with ⟨_, h⟩ | ⟨h1, h⟩
  · exact absurd rfl h
  · split at h
    · rename_i hh
      simp only [Bool.and_eq_true] at hh
      exact ⟨h1, hh⟩
    · omega
/-- Combinations as lists of indices. -/
theorem ask_nat {Z : Nz} {l : List Sto} {S K : List Int} (h : AskW Z l S K 0) : ∃ ss ks : List Nat, S = ss.map Int.ofNat ∧ K = ks.map Int.ofNat := by
  obtain ⟨_, h2, h3⟩ := ask_zero h
  obtain ⟨ss, e1, _⟩ := ris_nat h2
  obtain ⟨ks, e2, _⟩ := ris_nat h3
  exact ⟨ss, ks, e1, e2⟩
theorem map_nat_inj : ∀ {a b : List Nat}, a.map Int.ofNat = b.map Int.ofNat → a = b
  | [], [], _ => rfl
  | [], _ :: _, h => by simp at h
  | _ :: _, [], h => by simp at h
  | x :: a, y :: b, h => by
    simp only [List.map_cons, List.cons.injEq, Int.ofNat_eq_natCast] at h
    rw [show x = y by omega, map_nat_inj h.2]
theorem ask_cb {Z : Nz} {l : List Sto} {ss ks : List Nat} (h : AskW Z l (ss.map Int.ofNat) (ks.map Int.ofNat) 0) : CbOk l.length (keysN l) ⟨ss, ks⟩ := by
  obtain ⟨_, h2, h3⟩ := ask_zero h
  obtain ⟨a, e1, a1, a2⟩ := ris_nat h2
  obtain ⟨b, e2, b1, b2⟩ := ris_nat h3
  rw [map_nat_inj e1, map_nat_inj e2]
  exact ⟨a1, a2, b1, b2⟩
theorem cb_ask {Z : Nz} {l : List Sto} (hc : ChkW Z l 0) {c : Cb} (h : CbOk l.length (keysN l) c) : AskW Z l (c.st.map Int.ofNat) (c.ky.map Int.ofNat) 0 := by
  refine .inr ⟨hc, ?_⟩
  rw [nat_ris h.s1 h.s2, nat_ris h.k1 h.k2]
  rfl
theorem ask_ok {Z : Nz} {l : List Sto} {ss ks : List Nat} (h : AskW Z l (ss.map Int.ofNat) (ks.map Int.ofNat) 0) : StoOk Z.ch.length l ∧ ss.Pairwise (· < ·) ∧ (∀ x ∈ ss, x < l.length) ∧ ss.length ≤ 8 ∧ ks.Pairwise (· < ·) ∧ (∀ x ∈ ks, x < keysN l) ∧ ks.length ≤ 8 := by
  have hok := (chkW_zero (ask_zero h).1).2
  have hcb := ask_cb h
  have h1 := up_len hcb.s1 hcb.s2
  have h2 := up_len hcb.k1 hcb.k2
  have h3 := hok.l8
  have h4 := hok.k8
  exact ⟨hok, hcb.s1, hcb.s2, by dsimp only at h1; omega, hcb.k1, hcb.k2, by dsimp only at h2; omega⟩
theorem asked_is (Z : Nz) (l : List Sto) (vs : List Sv) (A B C P Q : Option Addr) (ca cb n cc p cp q cq : Nat) (S K : List Int) (c : Int) (w : World) (hR : RdNz w A B Z) (hS : RdSt w C n vs l) (hP : RdI .i64 w P p S) (hQ : RdI .i64 w Q q K) (hp : p ≤ 9223372036854775807) (hq : q ≤ 9223372036854775807) (hc : AskW Z l S K c) :
    Calls Try.prog 32 #[windV Z A B C ca cb n cc, comboV P p cp Q q cq] w fun e w' => e = .returned (.int .i64 c) ∧ Kp No w w' := by
  refine (asked_any Z l vs A B C P Q ca cb n cc p cp q cq S K w hR hS hP hQ hp hq).mono ?_
  rintro e w' ⟨d, rfl, hd, k⟩
  rw [hd.uniq hc]
  exact ⟨rfl, k⟩
set_option maxHeartbeats 4000000 in
set_option maxRecDepth 100000 in
theorem Demand_bad (Z : Nz) (l : List Sto) (vs : List Sv) (A B C P Q : Option Addr) (ca cb n cc p cp q cq : Nat) (S K : List Int) (c : Int) (w : World) (hR : RdNz w A B Z) (hS : RdSt w C n vs l) (hP : RdI .i64 w P p S) (hQ : RdI .i64 w Q q K) (hp : p ≤ 9223372036854775807) (hq : q ≤ 9223372036854775807) (hc : AskW Z l S K c) (hz : c ≠ 0) :
    Calls Try.prog 13 #[windV Z A B C ca cb n cc, comboV P p cp Q q cq] w fun e w' => e = .returned (.tuple #[.slice none 0 0, .int .i64 c]) ∧ Kp No w w' := by
  obtain ⟨g, hg⟩ : ∃ g, g = w.heap.size := ⟨_, rfl⟩
  obtain ⟨w0, hw0⟩ : ∃ w0, (w.alloc (.cells #[.int .i64 Z.n, .slice A Z.tr.length ca, .slice B Z.ch.length cb, .slice C n cc] 28)).alloc (.cells #[.slice P p cp, .slice Q q cq] 30) = w0 := ⟨_, rfl⟩
  have hk0 : Kp No w w0 := by rw [← hw0]; exact (Kp.alloc _ _ _).tr (Kp.alloc _ _ _)
  have HBX := Lib.hid (show w0.heap[g]? = some (.cells #[.int .i64 Z.n, .slice A Z.tr.length ca, .slice B Z.ch.length cb, .slice C n cc] 28 (0, 0)) by rw [← hw0, hg]; exact (Kp.alloc No _ _).heap (heap_alloc_new w _) id)
  have HBC := Lib.hid (show w0.heap[g + 1]? = some (.cells #[.slice P p cp, .slice Q q cq] 30 (0, 0)) by
    rw [← hw0, hg]
    have := heap_alloc_new (w.alloc (.cells #[.int .i64 Z.n, .slice A Z.tr.length ca, .slice B Z.ch.length cb, .slice C n cc] 28)) (.cells #[.slice P p cp, .slice Q q cq] 30)
    simpa using this)
  have HK := Lib.hid hk0
  have AK := asked_is Z l vs A B C P Q ca cb n cc p cp q cq S K c w0 (hR.no hk0) (hS.no hk0) (hP.no hk0) (hQ.no hk0) hp hq hc
  unfold windV comboV at AK ⊢
  replace AK := Lib.hid AK
  clear hk0 hR hS hP hQ hc
  obtain ⟨p0, p1, p2, p3⟩ := four_at HBX.out
  obtain ⟨q0, q1, _, _⟩ := cell_head HBC.out
  subst hg
  have d1 : (c != 0) = true := by rw [bne_iff_ne]; exact hz
  clear hz
  go_enter Try.func13, Try.ntmps13
  go_wp2_with fail
  with_reducible refine AK.out.mono ?_
  rintro e w1 ⟨rfl, k1⟩
  go_wp2_with fail
  exact bodyPost_ret (v := .tuple #[.slice none 0 0, .int .i64 c]) (by simp [results, Try.results13, go_sem]) rfl ⟨rfl, HK.out.tr k1⟩
set_option maxHeartbeats 4000000 in
set_option maxRecDepth 100000 in
theorem Demand_ok (Z : Nz) (l : List Sto) (vs : List Sv) (A B C P Q : Option Addr) (ca cb n cc p cp q cq : Nat) (ss ks : List Nat) (w : World) (hR : RdNz w A B Z) (hS : RdSt w C n vs l) (hP : RdI .i64 w P p (ss.map Int.ofNat)) (hQ : RdI .i64 w Q q (ks.map Int.ofNat)) (hc : AskW Z l (ss.map Int.ofNat) (ks.map Int.ofNat) 0) (hn : Z.ch.length ≤ 1000) :
    Calls Try.prog 13 #[windV Z A B C ca cb n cc, comboV P p cp Q q cq] w fun e w' => ∃ G, e = .returned (.tuple #[.slice (some ⟨G, 0, none⟩) Z.ch.length Z.ch.length, .int .i64 0]) ∧ w'.ownsRow w.heap.size 2 1 (.slice (some ⟨G, 0, none⟩) Z.ch.length Z.ch.length) Z.ch.length ((dmd Z.ch.length l ss ks).map (Value.int .i64)) ∧ Kp No w w' := by
  obtain ⟨g, hg⟩ : ∃ g, g = w.heap.size := ⟨_, rfl⟩
  obtain ⟨w0, hw0⟩ : ∃ w0, (w.alloc (.cells #[.int .i64 Z.n, .slice A Z.tr.length ca, .slice B Z.ch.length cb, .slice C n cc] 28)).alloc (.cells #[.slice P p cp, .slice Q q cq] 30) = w0 := ⟨_, rfl⟩
  have hk0 : Kp No w w0 := by rw [← hw0]; exact (Kp.alloc _ _ _).tr (Kp.alloc _ _ _)
  have HBX := Lib.hid (show w0.heap[g]? = some (.cells #[.int .i64 Z.n, .slice A Z.tr.length ca, .slice B Z.ch.length cb, .slice C n cc] 28 (0, 0)) by rw [← hw0, hg]; exact (Kp.alloc No _ _).heap (heap_alloc_new w _) id)
  have HBC := Lib.hid (show w0.heap[g + 1]? = some (.cells #[.slice P p cp, .slice Q q cq] 30 (0, 0)) by
    rw [← hw0, hg]
    have := heap_alloc_new (w.alloc (.cells #[.int .i64 Z.n, .slice A Z.tr.length ca, .slice B Z.ch.length cb, .slice C n cc] 28)) (.cells #[.slice P p cp, .slice Q q cq] 30)
    simpa using this)
  have HK := Lib.hid hk0
  obtain ⟨hok, s1, s2, s3, k1, k2, k3⟩ := ask_ok hc
  have hpl : ss.length = p := by have := hP.1; simpa using this
  have hql : ks.length = q := by have := hQ.1; simpa using this
  have hl := hS.len
  have AK := asked_is Z l vs A B C P Q ca cb n cc p cp q cq _ _ 0 w0 (hR.no hk0) (hS.no hk0) (hP.no hk0) (hQ.no hk0) (by omega) (by omega) hc
  have DM := fun W (k : Kp No w0 W) => demand_any Z l vs A B C P Q ca cb n cc p cp q cq ss ks W hok hn ((hS.no hk0).no k) ((hP.no hk0).no k) ((hQ.no hk0).no k) (by rw [← hl]; exact s2) k2 s3 k3
  unfold windV comboV at AK DM ⊢
  unfold DmR at DM
  replace AK := Lib.hid AK
  replace DM := Lib.hid DM
  clear hk0 hR hS hP hQ hc hok s1 s2 s3 k1 k2 k3 hpl hql hl
  obtain ⟨p0, p1, p2, p3⟩ := four_at HBX.out
  obtain ⟨q0, q1, _, _⟩ := cell_head HBC.out
  subst hg
  go_enter Try.func13, Try.ntmps13
  go_wp2_with fail
  with_reducible refine AK.out.mono ?_
  rintro e w1 ⟨rfl, k1⟩
  have K1 := Lib.hid k1
  have B1 := Lib.hid (k1.heap HBX.out id)
  have C1 := Lib.hid (k1.heap HBC.out id)
  clear p0 p1 p2 p3 q0 q1 k1
  obtain ⟨p0, p1, p2, p3⟩ := four_at B1.out
  obtain ⟨q0, q1, _, _⟩ := cell_head C1.out
  go_wp2_with fail
  with_reducible refine (DM.out _ K1.out).mono ?_
  rintro e w2 ⟨G, rfl, ho, k2⟩
  have HO := Lib.hid ho
  have K2 := Lib.hid (HK.out.tr (K1.out.tr k2))
  have HZ := Lib.hid (HK.out.tr K1.out).size
  clear ho k2
  go_wp2_with fail
  exact bodyPost_ret (v := .tuple #[.slice (some ⟨G, 0, none⟩) Z.ch.length Z.ch.length, .int .i64 0]) (by simp [results, Try.results13, go_sem]) rfl ⟨G, rfl, own_mono HO.out HZ.out, K2.out⟩
end Go.Proofs.Ytpkbpeeelpgmcaa

namespace Go.Proofs.Ytpkbpeeelpgmcaa
open Go.ChangeShapes Go.WideShapes Go.RowKit Go.Deep Go.Kq

theorem choose_list {α : Type} {P : Nat → α → Prop} : ∀ n : Nat, (∀ i, i < n → ∃ a, P i a) → ∃ l : List α, l.length = n ∧ ∀ i a, l[i]? = some a → P i a
  | 0, _ => ⟨[], rfl, fun i a h => by simp at h⟩
  | n + 1, h => by
    obtain ⟨l, hl, hp⟩ := choose_list n fun i hi => h i (by omega)
    obtain ⟨a, ha⟩ := h n (by omega)
    refine ⟨l ++ [a], by simp [hl], fun i b hb => ?_⟩
    rcases Nat.lt_trichotomy i n with h1 | h1 | h1
    · rw [List.getElem?_append_left (by omega)] at hb
      exact hp i b hb
    · subst h1
      rw [List.getElem?_append_right (by omega), hl] at hb
      simp at hb
      exact hb ▸ ha
    · rw [List.getElem?_eq_none (by simp; omega)] at hb
      cases hb
section
variable {H : Type} {enc : TypeId × Value → H} {W : World} {base : Nat} {spare : Nat → Bool} {held : Bool}
theorem one_int3 {fuel : Nat} {v : Value} {y : DataW H × List MemPlace} (h : DataW.trod enc Try.prog W base spare held fuel 3 [v] = some y) : ∃ x : Int, v = .int .i64 x := by
  obtain ⟨x, h1, _⟩ := DataW.trod_int Try.underlying3 h
  simp at h1
  exact ⟨x, h1⟩
theorem one_int2 {fuel : Nat} {v : Value} {y : DataW H × List MemPlace} (h : DataW.trod enc Try.prog W base spare held fuel 2 [v] = some y) : ∃ x : Int, v = .int .i64 x := by
  obtain ⟨x, h1, _⟩ := DataW.trod_int Try.underlying2 h
  simp at h1
  exact ⟨x, h1⟩
theorem one_bool {fuel : Nat} {v : Value} {y : DataW H × List MemPlace} (h : DataW.trod enc Try.prog W base spare held fuel 4 [v] = some y) : ∃ x : Bool, v = .bool x := by
  obtain ⟨x, h1, _⟩ := DataW.trod_bool Try.underlying4 h
  simp at h1
  exact ⟨x, h1⟩
theorem c29 : Try.prog.cellsOf 75 = 2 := by kernel_rfl
theorem c66 : Try.prog.cellsOf 77 = 4 := by kernel_rfl
theorem c3 : Try.prog.cellsOf 3 = 1 := by kernel_rfl
theorem c2 : Try.prog.cellsOf 2 = 1 := by kernel_rfl
theorem c25 : Try.prog.cellsOf 25 = 3 := by kernel_rfl
theorem c22 : Try.prog.cellsOf 22 = 1 := by kernel_rfl
theorem c23 : Try.prog.cellsOf 23 = 1 := by kernel_rfl
theorem c38 : Try.prog.cellsOf 43 = 1 := by kernel_rfl
theorem c4b : Try.prog.cellsOf 4 = 1 := by kernel_rfl
theorem fld {t : TypeId} {fs : Array Field} {fuel : Nat} {cs : List Value} {y : DataW H × List MemPlace} (ht : Try.prog.underlying t = some (.struct fs)) (h : DataW.trod enc Try.prog W base spare held fuel t cs = some y) (i : Nat) (f : Field) (o k : Nat) (e : TypeId) (hf : fs[i]? = some f) (ho : f.offset = o) (he : f.type = e) (hk : Try.prog.cellsOf e = k) :
    ∃ n y, DataW.trod enc Try.prog W base spare held n e ((cs.drop o).take k) = some y := by
  obtain ⟨xs, n, _, _, _, hl, hx⟩ := DataW.trod_struct ht h
  have g := hx i f hf
  have hi := (Array.getElem?_eq_some_iff.1 hf).1
  rw [ho, he, hk, List.getElem?_eq_getElem (by omega)] at g
  exact ⟨n, _, g⟩
set_option maxRecDepth 100000 in
theorem trunk_cells {cs : List Value} {n : Nat} {y : DataW H × List MemPlace} (h : DataW.trod enc Try.prog W base spare held n 77 cs = some y) : ∃ t : Tz, cs = z4 t := by
  obtain ⟨_, _, _, _, hlen, _, _⟩ := DataW.trod_struct Try.underlying77 h
  rw [c66] at hlen
  match cs, hlen with
  | [a0, a1, a2, a3], _ =>
    obtain ⟨n0, y0, h0⟩ := fld Try.underlying77 h 0 _ 0 1 3 rfl rfl rfl c3
    obtain ⟨n1, y1, h1⟩ := fld Try.underlying77 h 1 _ 1 1 3 rfl rfl rfl c3
    obtain ⟨n2, y2, h2⟩ := fld Try.underlying77 h 2 _ 2 2 75 rfl rfl rfl c29
    obtain ⟨n3, y3, h3⟩ := fld Try.underlying75 h2 0 _ 0 1 2 rfl rfl rfl c2
    obtain ⟨n4, y4, h4⟩ := fld Try.underlying75 h2 1 _ 1 1 2 rfl rfl rfl c2
    obtain ⟨f, rfl⟩ := one_int3 (by simpa using h0)
    obtain ⟨t, rfl⟩ := one_int3 (by simpa using h1)
    obtain ⟨l, rfl⟩ := one_int2 (by simpa using h3)
    obtain ⟨u, rfl⟩ := one_int2 (by simpa using h4)
    exact ⟨⟨f, t, l, u⟩, rfl⟩
theorem open_rd {α : Type} (f : α → List Value) (s : Nat) (hs : 0 < s) (_hfl : ∀ x, (f x).length = s) {t e : TypeId} (ht : Try.prog.underlying t = some (.slice e)) (ce : Try.prog.cellsOf e = s)
    (he : ∀ (fuel : Nat) (cs : List Value) (y : DataW H × List MemPlace), DataW.trod enc Try.prog W base (fun _ => true) held fuel e cs = some y → ∃ x, cs = f x)
    {fuel : Nat} {a : Option Addr} {len cap : Nat} {y : DataW H × List MemPlace} (h : DataW.trod enc Try.prog W base (fun _ => true) held fuel t [.slice a len cap] = some y) : (∃ xs, Rd f s W a len xs) ∧ (a = none → len = 0 ∧ cap = 0) ∧ len ≤ maxLen := by
  rcases open_slice ht h with ⟨hcs, _⟩ | ⟨x, l, c, m, n, D, Pl, hcs, hb, hl, hm, hmm, _, hi⟩
  · simp at hcs
    obtain ⟨rfl, rfl, rfl⟩ := hcs
    exact ⟨⟨[], rfl, fun i v h => by simp at h⟩, fun _ => ⟨rfl, rfl⟩, by unfold maxLen; omega⟩
  · simp at hcs
    obtain ⟨rfl, rfl, rfl⟩ := hcs
    refine ⟨?_, (fun h => by cases h), by omega⟩
    simp at hmm
    subst hmm
    rw [ce] at hi
    by_cases hz : len = 0
    · subst hz
      exact ⟨[], rfl, fun i v h => by simp at h⟩
    obtain ⟨b0, o0, sp⟩ := x
    have hsp : sp = none := by
      obtain ⟨cs', hc, ht⟩ := hi 0 (by omega)
      obtain ⟨_, hln, hat⟩ := World.cells?_some hc
      have e0 := hat 0 (by omega)
      rw [List.getElem?_eq_getElem (by omega)] at e0
      simpa [Addr.add] using World.cell?_spot e0
    subst hsp
    obtain ⟨vs, hvl, hvs⟩ := choose_list (P := fun i (v : α) => b0 < W.heap.size ∧ ∀ j u, (f v)[j]? = some u → W.cell? ⟨b0, o0 + i * s + j, none⟩ = some u) len (fun i hil => by
      obtain ⟨cs', hc, ht⟩ := hi i (by omega)
      obtain ⟨v, rfl⟩ := he _ _ _ ht
      obtain ⟨_, hln, hat⟩ := World.cells?_some hc
      refine ⟨v, ?_, fun j u hj => ?_⟩
      · have e0 := hat 0 (by omega)
        rw [List.getElem?_eq_getElem (by omega)] at e0
        simp only [Addr.add_lit, Nat.add_zero] at e0
        exact World.block_lt_of_cell? W _ e0
      · have hjl := (List.getElem?_eq_some_iff.1 hj).1
        have e0 := hat j (by omega)
        simp only [Addr.add_lit] at e0
        rw [e0, hj])
    exact ⟨vs, hvl, fun i v hv => ⟨b0, o0, rfl, (hvs i v hv).1, (hvs i v hv).2⟩⟩
theorem one_cell {e : TypeId} (_h1 : Try.prog.cellsOf e = 1) {fuel : Nat} {cs : List Value} {y : DataW H × List MemPlace} (k : IntKind) (he : Try.prog.underlying e = some (.int k)) (h : DataW.trod enc Try.prog W base spare held fuel e cs = some y) : ∃ x : Int, cs = [.int k x] := by
  obtain ⟨x, h1, _⟩ := DataW.trod_int he h
  exact ⟨x, h1⟩
theorem rdI_of {k : IntKind} {a : Option Addr} {n : Nat} {xs : List Int} (h : Rd (fun x : Int => [Value.int k x]) 1 W a n xs) : RdI k W a n xs := by
  refine ⟨h.1, fun i x hx => ?_⟩
  obtain ⟨b, o, hA, hb, hc⟩ := h.2 i x hx
  exact ⟨b, o, hA, hb, by simpa using hc 0 _ rfl⟩
theorem open_ints {t e : TypeId} (k : IntKind) (ht : Try.prog.underlying t = some (.slice e)) (he : Try.prog.underlying e = some (.int k)) (ce : Try.prog.cellsOf e = 1) {fuel : Nat} {a : Option Addr} {len cap : Nat} {y : DataW H × List MemPlace}
    (h : DataW.trod enc Try.prog W base (fun _ => true) held fuel t [.slice a len cap] = some y) : (∃ xs, RdI k W a len xs) ∧ (a = none → len = 0 ∧ cap = 0) ∧ len ≤ maxLen := by
  obtain ⟨⟨xs, hx⟩, hn⟩ := open_rd (fun x : Int => [Value.int k x]) 1 (by omega) (fun _ => rfl) ht ce (fun fuel cs y h => one_cell ce k he h) h
  exact ⟨⟨xs, rdI_of hx⟩, hn⟩
theorem one_slice {t e : TypeId} (ht : Try.prog.underlying t = some (.slice e)) {fuel : Nat} {v : Value} {y : DataW H × List MemPlace} (h : DataW.trod enc Try.prog W base spare held fuel t [v] = some y) : ∃ a n c, v = .slice a n c := by
  rcases open_slice ht h with ⟨hcs, _⟩ | ⟨x, l, c, m, n, D, Pl, hcs, _⟩
  · simp at hcs; exact ⟨_, _, _, hcs⟩
  · simp at hcs; exact ⟨_, _, _, hcs⟩
theorem cWind : Try.prog.cellsOf 28 = 4 := by kernel_rfl
theorem cCombo : Try.prog.cellsOf 30 = 2 := by kernel_rfl
theorem cStop : Try.prog.cellsOf 53 = 2 := by kernel_rfl
theorem cStops : Try.prog.cellsOf 26 = 1 := by kernel_rfl
abbrev Sx (W : World) := { x : Sv × Sto // SvIs W x.1 x.2 }
set_option maxRecDepth 100000 in
theorem stop_cells {cs : List Value} {n : Nat} {y : DataW H × List MemPlace} (h : DataW.trod enc Try.prog W base (fun _ => true) held n 53 cs = some y) : ∃ x : Sx W, cs = x.1.1.cells := by
  obtain ⟨_, _, _, _, hlen, _, _⟩ := DataW.trod_struct Try.underlying53 h
  rw [cStop] at hlen
  match cs, hlen with
  | [a0, a1], _ =>
    obtain ⟨n0, y0, h0⟩ := fld Try.underlying53 h 0 _ 0 1 3 rfl rfl rfl c3
    obtain ⟨n1, y1, h1⟩ := fld Try.underlying53 h 1 _ 1 1 43 rfl rfl rfl c38
    simp at h0 h1
    obtain ⟨ch, rfl⟩ := one_int3 h0
    obtain ⟨A, la, ca, rfl⟩ := one_slice Try.underlying43 h1
    obtain ⟨⟨xs, hxs⟩, _⟩ := open_ints .i64 Try.underlying43 Try.underlying2 c2 h1
    exact ⟨⟨(⟨ch, A, la, ca⟩, ⟨ch, xs⟩), rfl, hxs.1.symm, hxs⟩, rfl⟩
theorem rdst_of {W : World} {C : Option Addr} {n : Nat} {xs : List (Sx W)} (h : Rd (fun x : Sx W => x.1.1.cells) 2 W C n xs) : RdSt W C n (xs.map fun x => x.1.1) (xs.map fun x => x.1.2) := by
  refine ⟨⟨by rw [List.length_map]; exact h.1, fun i v hv => ?_⟩, by rw [List.length_map]; exact h.1, fun i v s hv hs => ?_⟩
  · rw [List.getElem?_map] at hv
    obtain ⟨x, hx, rfl⟩ := Option.map_eq_some_iff.1 hv
    exact h.2 i x hx
  · rw [List.getElem?_map] at hv hs
    obtain ⟨x, hx, rfl⟩ := Option.map_eq_some_iff.1 hv
    obtain ⟨x', hx', rfl⟩ := Option.map_eq_some_iff.1 hs
    rw [hx] at hx'
    cases hx'
    exact x.2
set_option maxRecDepth 100000 in
/-- A system that came in. -/
theorem open_wind {v : Value} {d : DataW H} {p : List MemPlace} {r : Reach} {b0 : Nat} (hv : Value.okWide Try.prog W r b0 28 v) (h : DataW.Trod enc Try.prog W base (fun _ => true) held 28 v d p) : ∃ (Z : Nz) (A B C : Option Addr) (ca cb n cc : Nat) (vs : List Sv) (l : List Sto), v = windV Z A B C ca cb n cc ∧ RdNz W A B Z ∧ RdSt W C n vs l := by
  obtain ⟨cs, rfl, hsz⟩ := okWide_struct Try.underlying28 hv
  rw [cWind] at hsz
  obtain ⟨fuel, hf⟩ := h
  obtain ⟨l⟩ := cs
  match l, hsz with
  | [a0, a1, a2, a3], _ =>
    obtain ⟨nn, yn, hn⟩ := fld Try.underlying28 hf 0 _ 0 3 25 rfl rfl rfl c25
    obtain ⟨ns, ys, hs⟩ := fld Try.underlying28 hf 1 _ 3 1 26 rfl rfl rfl cStops
    simp [Value.cells] at hn hs
    obtain ⟨n0, y0, h0⟩ := fld Try.underlying25 hn 0 _ 0 1 3 rfl rfl rfl c3
    obtain ⟨n1, y1, h1⟩ := fld Try.underlying25 hn 1 _ 1 1 22 rfl rfl rfl c22
    obtain ⟨n2, y2, h2⟩ := fld Try.underlying25 hn 2 _ 2 1 23 rfl rfl rfl c23
    simp at h0 h1 h2
    obtain ⟨n, rfl⟩ := one_int3 h0
    obtain ⟨A, la, ca, rfl⟩ := one_slice Try.underlying22 h1
    obtain ⟨B, lb, cb, rfl⟩ := one_slice Try.underlying23 h2
    obtain ⟨C, lc, cc, rfl⟩ := one_slice Try.underlying26 hs
    obtain ⟨⟨ts, hts⟩, _⟩ := open_rd z4 4 (by omega) (fun _ => rfl) Try.underlying22 c66 (fun fuel cs y h => trunk_cells h) h1
    obtain ⟨⟨xs, hxs⟩, _⟩ := open_ints .i64 Try.underlying23 Try.underlying3 c3 h2
    obtain ⟨⟨ss, hss⟩, _⟩ := open_rd (fun x : Sx W => x.1.1.cells) 2 (by omega) (fun _ => rfl) Try.underlying26 cStop (fun fuel cs y h => stop_cells h) hs
    obtain ⟨rfl, _⟩ := id hts
    obtain ⟨rfl, _⟩ := id hxs
    exact ⟨⟨n, ts, xs⟩, A, B, C, ca, cb, lc, cc, _, _, rfl, ⟨hts, hxs⟩, rdst_of hss⟩
set_option maxRecDepth 100000 in
/-- A combination that came in. -/
theorem open_combo {v : Value} {d : DataW H} {p : List MemPlace} {r : Reach} {b0 : Nat} (hv : Value.okWide Try.prog W r b0 30 v) (h : DataW.Trod enc Try.prog W base (fun _ => true) held 30 v d p) : ∃ (P : Option Addr) (m cp : Nat) (Q : Option Addr) (q cq : Nat) (S K : List Int), v = comboV P m cp Q q cq ∧ RdI .i64 W P m S ∧ RdI .i64 W Q q K ∧ m ≤ maxLen ∧ q ≤ maxLen ∧ (P = none → m = 0 ∧ cp = 0) ∧ (Q = none → q = 0 ∧ cq = 0) := by
  obtain ⟨cs, rfl, hsz⟩ := okWide_struct Try.underlying30 hv
  rw [cCombo] at hsz
  obtain ⟨fuel, hf⟩ := h
  obtain ⟨l⟩ := cs
  match l, hsz with
  | [a0, a1], _ =>
    obtain ⟨n0, y0, h0⟩ := fld Try.underlying30 hf 0 _ 0 1 23 rfl rfl rfl c23
    obtain ⟨n1, y1, h1⟩ := fld Try.underlying30 hf 1 _ 1 1 23 rfl rfl rfl c23
    simp [Value.cells] at h0 h1
    obtain ⟨A, la, ca, rfl⟩ := one_slice Try.underlying23 h0
    obtain ⟨B, lb, cb, rfl⟩ := one_slice Try.underlying23 h1
    obtain ⟨⟨xs, hxs⟩, hx1, hx2⟩ := open_ints .i64 Try.underlying23 Try.underlying3 c3 h0
    obtain ⟨⟨ks, hks⟩, hk1, hk2⟩ := open_ints .i64 Try.underlying23 Try.underlying3 c3 h1
    exact ⟨A, la, ca, B, lb, cb, xs, ks, rfl, hxs, hks, hx2, hk2, hx1, hk1⟩
end
end Go.Proofs.Ytpkbpeeelpgmcaa

namespace Go.Proofs.Ytpkbpeeelpgmcaa
open Go.ChangeShapes Go.WideShapes Go.RowKit Go.Deep Go.Kq

section
variable {H : Type} {enc : TypeId × Value → H} {W : World} {base : Nat} {spare : Nat → Bool} {held : Bool}
theorem open_u8 {n : Int} {d : DataW H} {p : List MemPlace} (h : DataW.Trod enc Try.prog W base spare held 5 (.int .u8 n) d p) : 0 ≤ n ∧ n < 256 := by
  obtain ⟨fuel, hf⟩ := h
  obtain ⟨m, hc, _, hw⟩ := DataW.trod_int Try.underlying5 hf
  simp [Value.cells] at hc
  subst hc
  have hb := bounds_u8 hw
  omega
end
end Go.Proofs.Ytpkbpeeelpgmcaa
