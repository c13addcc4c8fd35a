/- One number more behind a row of the call's own; a row of numbers behind another one. · spans: Scale. -/
import Derived.Deep.RegionHeld3
import Derived.Test.YtakgcnjpmpcekaaXLibMakeM
import Derived.Test.YtakgcnjpmpcekaaXLibApR
import Derived.Test.YtakgcnjpmpcekaaXSpn
namespace Go.Proofs.Ytakgcnjpmpcekaa
open Go.RowKit Go.Kq

theorem infoI64 : (Try.prog.info? 2).map (fun i => (i.zero, i.size, i.bytes)) = some (some (.int .i64 0), 1, 8) := by kernel_rfl
theorem infoI0 : (Try.prog.info? 3).map (fun i => (i.zero, i.size, i.bytes)) = some (some (.int .i64 0), 1, 8) := by kernel_rfl
abbrev OwL (w : World) (base : Nat) (v : Value) (zs : List Int) : Prop := w.ownsRow base 2 1 v zs.length (zs.map (Value.int .i64))
section
variable {w wr w0 : World} {ops : Array Oper} {rest : List Oper} {o : Oper} {a : Act} {Q : Exit → Act → World → Prop}
set_option maxRecDepth 10000 in
theorem push_gen {t e : TypeId} {i0 : TypeInfo} (ht : Try.prog.underlying t = some (.slice e)) (hi : Try.prog.info? e = some i0) (hz0 : i0.zero = some (.int .i64 0)) (hz1 : i0.size = 1) (hz2 : i0.bytes = 8)
    (hgd : o.guard = none) (s x : Operand) (ho : o.op = .call { callee := .builtin .append, args := #[s, x], argTypes := #[t, t] }) (base : Nat) (A : Option Addr) (n cap : Nat) (zs : List Int) (y : Int)
    (hw : w = wr.alloc (.cells #[.int .i64 y] e)) (hs : a.eval s = .slice A n cap) (hx : a.eval x = .slice (some ⟨wr.heap.size, 0, none⟩) 1 1) (hl : zs.length = n) (hown : wr.ownsRow base e 1 (.slice A n cap) zs.length (zs.map (Value.int .i64))) (hn : n ≤ 1000000) (hk : Kp No w0 wr) (hb : w0.heap.size ≤ base) (hb2 : base ≤ wr.heap.size)
    (h : ∀ g c w', w'.ownsRow base e 1 (.slice (some ⟨g, 0, none⟩) (n + 1) c) (zs ++ [y]).length ((zs ++ [y]).map (Value.int .i64)) → Kp No w0 w' → Kp (fun b => A = some ⟨b, 0, none⟩) wr w' ∧ (A = some ⟨g, 0, none⟩ ∨ wr.heap.size ≤ g) → wpList Try.prog ops Q rest (a.put o.dst (.slice (some ⟨g, 0, none⟩) (n + 1) c)) w') :
    wpList Try.prog ops Q (o :: rest) a w := by
  subst hw hl
  refine wpL_append_any hgd s x t ho base e i0 (.int .i64 0) 1 8 ht hi hz0 hz1 hz2 rfl (by decide) (.slice A zs.length cap) zs.length (zs.map (Value.int .i64)) hs (hown.alloc _) (some ⟨wr.heap.size, 0, none⟩) 1 1 [.int .i64 y] hx rfl (fun h => by cases h) (fun ad had j u hu => by cases had; exact new_cells wr [.int .i64 y] (by unfold maxLen; simp) j u hu) (fun u hu => by simp at hu; subst hu; rfl) (by unfold maxLen; omega) (by omega) (by simp; omega) ?_
  intro v' w' ho' hg hat
  obtain ⟨a', c', rfl, _, _, hf⟩ := own_form ho'
  obtain ⟨g, rfl⟩ := hf (by omega)
  refine h g c' w' ?_ (kp_app hk hown hb hg) ⟨?_, ?_⟩
  · have e1 : (zs ++ [y]).length = zs.length + 1 := by simp
    have e2 : (zs ++ [y]).map (Value.int .i64) = zs.map (Value.int .i64) ++ [.int .i64 y] := by simp
    rw [e1, e2]
    exact ho'
  · refine (Kp.alloc _ _ _).tr (Kp.grown hg fun k hk _ => ?_)
    obtain ⟨a'', c'', hv, _, _, hf2⟩ := own_form hown
    injection hv with e1 _ _
    subst e1
    rcases Nat.eq_zero_or_pos zs.length with h0 | h0
    · rcases hown.2 with ⟨hv, _⟩ | ⟨g2, _, _, hv, _⟩
      · rw [hv] at hk; cases hk
      · injection hv with e1 _ _
        subst e1
        injection hk with hk
        subst hk
        rfl
    · obtain ⟨g2, rfl⟩ := hf2 h0
      injection hk with hk
      subst hk
      rfl
  · rcases hat with hat | hat
    · left
      rcases hown.2 with ⟨hv, _⟩ | ⟨g2, _, _, hv, _⟩
      · rw [hv] at hat; cases hat
      · injection hv with e1 _ _
        subst e1
        injection hat with hat
        have hat : g = g2 := hat
        rw [hat]
    · right
      injection hat with hat
      have hat : g = (wr.alloc (.cells #[.int .i64 y] e)).heap.size := hat
      rw [World.size_alloc] at hat
      omega
theorem push_int (hgd : o.guard = none) (s x : Operand) (ho : o.op = .call { callee := .builtin .append, args := #[s, x], argTypes := #[22, 22] }) (base : Nat) (A : Option Addr) (n cap : Nat) (zs : List Int) (y : Int)
    (hw : w = wr.alloc (.cells #[.int .i64 y] 3)) (hs : a.eval s = .slice A n cap) (hx : a.eval x = .slice (some ⟨wr.heap.size, 0, none⟩) 1 1) (hl : zs.length = n) (hown : OwI wr base (.slice A n cap) zs) (hn : n ≤ 1000000) (hk : Kp No w0 wr) (hb : w0.heap.size ≤ base) (hb2 : base ≤ wr.heap.size)
    (h : ∀ g c w', OwI w' base (.slice (some ⟨g, 0, none⟩) (n + 1) c) (zs ++ [y]) → Kp No w0 w' → Kp (fun b => A = some ⟨b, 0, none⟩) wr w' ∧ (A = some ⟨g, 0, none⟩ ∨ wr.heap.size ≤ g) → wpList Try.prog ops Q rest (a.put o.dst (.slice (some ⟨g, 0, none⟩) (n + 1) c)) w') :
    wpList Try.prog ops Q (o :: rest) a w := by
  obtain ⟨i0, hi, hz0, hz1, hz2⟩ := info_parts infoI0
  exact push_gen Try.underlying22 hi hz0 hz1 hz2 hgd s x ho base A n cap zs y hw hs hx hl hown hn hk hb hb2 h
theorem push_long (hgd : o.guard = none) (s x : Operand) (ho : o.op = .call { callee := .builtin .append, args := #[s, x], argTypes := #[30, 30] }) (base : Nat) (A : Option Addr) (n cap : Nat) (zs : List Int) (y : Int)
    (hw : w = wr.alloc (.cells #[.int .i64 y] 2)) (hs : a.eval s = .slice A n cap) (hx : a.eval x = .slice (some ⟨wr.heap.size, 0, none⟩) 1 1) (hl : zs.length = n) (hown : OwL wr base (.slice A n cap) zs) (hn : n ≤ 1000000) (hk : Kp No w0 wr) (hb : w0.heap.size ≤ base) (hb2 : base ≤ wr.heap.size)
    (h : ∀ g c w', OwL w' base (.slice (some ⟨g, 0, none⟩) (n + 1) c) (zs ++ [y]) → Kp No w0 w' → Kp (fun b => A = some ⟨b, 0, none⟩) wr w' ∧ (A = some ⟨g, 0, none⟩ ∨ wr.heap.size ≤ g) → wpList Try.prog ops Q rest (a.put o.dst (.slice (some ⟨g, 0, none⟩) (n + 1) c)) w') :
    wpList Try.prog ops Q (o :: rest) a w := by
  obtain ⟨i0, hi, hz0, hz1, hz2⟩ := info_parts infoI64
  exact push_gen Try.underlying30 hi hz0 hz1 hz2 hgd s x ho base A n cap zs y hw hs hx hl hown hn hk hb hb2 h
set_option maxRecDepth 10000 in
/-- A whole row behind another one, whose block may be new. -/
theorem push_all (hgd : o.guard = none) (s x : Operand) (ho : o.op = .call { callee := .builtin .append, args := #[s, x], argTypes := #[22, 22] }) (base : Nat) (A B : Option Addr) (n cap m c : Nat) (zs ys : List Int)
    (hs : a.eval s = .slice A n cap) (hx : a.eval x = .slice B m c) (hl : zs.length = n) (hm : ys.length = m) (hown : OwI w base (.slice A n cap) zs) (hnil : B = none → m = 0 ∧ c = 0) (hy : RdI .i64 w B m ys) (hn : n ≤ 1000000) (hm2 : m ≤ 1000000) (hk : Kp No w0 w) (hb : w0.heap.size ≤ base) (hb2 : base ≤ w.heap.size)
    (h : ∀ A' c' w', OwI w' base (.slice A' (n + m) c') (zs ++ ys) → Kp No w0 w' → wpList Try.prog ops Q rest (a.put o.dst (.slice A' (n + m) c')) w') :
    wpList Try.prog ops Q (o :: rest) a w := by
  subst hl hm
  obtain ⟨i0, hi, hz0, hz1, hz2⟩ := info_parts infoI0
  refine wpL_append_any hgd s x 22 ho base 3 i0 (.int .i64 0) 1 8 Try.underlying22 hi hz0 hz1 hz2 rfl (by decide) (.slice A zs.length cap) zs.length (zs.map (Value.int .i64)) hs hown B ys.length c (ys.map (Value.int .i64)) hx (by simp) hnil (fun ad had j u hu => by
    subst had
    have hj := (List.getElem?_eq_some_iff.1 hu).1
    rw [List.length_map] at hj
    obtain ⟨b, o, hA, _, hc⟩ := hy.2 j _ (List.getElem?_eq_getElem hj)
    injection hA with hA
    subst hA
    rw [add_at, hc]
    rw [List.getElem?_map, List.getElem?_eq_getElem hj] at hu
    exact hu) (fun u hu => by obtain ⟨y, _, rfl⟩ := List.mem_map.1 hu; rfl) (by unfold maxLen; omega) (by omega) hb2 ?_
  intro v' w' ho' hg _
  obtain ⟨a', c', rfl, _, _, hf⟩ := own_form ho'
  refine h a' c' w' ?_ (kp_app0 hk hown hb hg)
  have e1 : (zs ++ ys).length = zs.length + ys.length := List.length_append
  have e2 : (zs ++ ys).map (Value.int .i64) = zs.map (Value.int .i64) ++ ys.map (Value.int .i64) := List.map_append
  unfold OwI
  rw [e1, e2]
  exact ho'
end
end Go.Proofs.Ytakgcnjpmpcekaa

namespace Go.Proofs.Ytakgcnjpmpcekaa
open Go.RowKit Go.Kq

theorem ck1_cells (w0 : World) (g : Nat) (lo hi : Int) (h0 : w0.cell? ⟨g, 0, none⟩ = some (.int .i64 lo)) (h1 : w0.cell? ⟨g, 1, none⟩ = some (.int .i64 hi)) : ∀ (k : Nat) (x : Int × Int), [(lo, hi)][k]? = some x → w0.cell? ⟨g, 0 + k * 2, none⟩ = some (.int .i64 x.1) ∧ w0.cell? ⟨g, 0 + k * 2 + 1, none⟩ = some (.int .i64 x.2) := by
  intro k x hx
  match k, hx with
  | 0, hx => simp at hx; subst hx; exact ⟨h0, h1⟩
  | k + 1, hx => simp at hx
theorem span_two (den : Nat) (x y : Int) (g : Nat) (w : World) (hd : 0 < den) (hd2 : den < 18446744073709551616)
    (h : w.cell? ⟨g, 0, none⟩ = some (.bool (lgP x).1) ∧ w.cell? ⟨g, 1, none⟩ = some (.int .u64 (lgP x).2.1) ∧ w.cell? ⟨g, 2, none⟩ = some (.int .u64 (lgP x).2.2))
    (h' : w.cell? ⟨g, 3, none⟩ = some (.bool (lgP y).1) ∧ w.cell? ⟨g, 4, none⟩ = some (.int .u64 (lgP y).2.1) ∧ w.cell? ⟨g, 5, none⟩ = some (.int .u64 (lgP y).2.2)) :
    Calls Try.prog 73 #[.int .u64 (den : Nat), .slice (some ⟨g, 0, none⟩) 2 2] w fun e w' => e = .returned (ieV (spanV den x [y])) ∧ Kp No w w' := by
  refine span_any den x [y] g 0 1 2 w hd hd2 rfl (by omega) (by omega) (by omega) (by omega) ?_
  intro k v hx
  match k, hx with
  | 0, hx => simp at hx; subst hx; exact ⟨h.1, h.2.1, h.2.2⟩
  | 1, hx => simp at hx; subst hx; exact ⟨h'.1, h'.2.1, h'.2.2⟩
  | k + 2, hx => simp at hx
set_option maxHeartbeats 4000000 in

theorem scale_ok (lo hi num : Int) (den : Nat) (w : World) (hck : ckE [(lo, hi)] = 0) (hd : 0 < den) (hdf : fits (den : Int) = true) (hnf : fits num = true) :
    Calls Try.prog 59 #[ivV lo hi, .int .i64 num, .int .i64 (den : Nat)] w fun e w' => e = .returned (ieV (spanV (den : Int) (lo * num) [hi * num])) ∧ Kp No w w' := by
  have hbd := ck_fits hck (lo, hi) (by simp)
  have l1 := fits_bounds hbd.1
  have l2 := fits_bounds hbd.2
  have l3 := fits_bounds hnf
  have l4 := fits_bounds hdf
  simp only at l1 l2 l3 l4
  have HCK := Lib.hid (fun g w0 hc => check_any [(lo, hi)] g 0 1 1 w0 rfl (by omega) hc)
  rw [hck] at HCK
  have hwd : IntKind.u64.wrap (den : Int) = (den : Int) := by rw [IntKind.wrap_u64]; omega
  have T1 := Lib.hid (fun w0 => times_any lo num w0 (by omega) (by omega) (by omega) (by omega))
  have T2 := Lib.hid (fun w0 => times_any hi num w0 (by omega) (by omega) (by omega) (by omega))
  have SP := Lib.hid (fun g w0 h h' => span_two den (lo * num) (hi * num) g w0 hd (by omega) h h')
  generalize spanV (den : Int) (lo * num) [hi * num] = sv at *
  simp only [lgV_p] at T1 T2
  generalize lgP (lo * num) = p1 at *
  generalize lgP (hi * num) = p2 at *
  obtain ⟨p11, p12, p13⟩ := p1
  obtain ⟨p21, p22, p23⟩ := p2
  simp only [p3V] at T1 T2 SP
  have HN1 := Lib.hid (number_any (den : Int))
  have HN2 := Lib.hid (number_any num)
  rw [hdf] at HN1
  rw [hnf] at HN2
  have hd1 : ¬ (den : Int) < 1 := by omega
  clear hbd l1 l2 l3 l4 hck hdf hnf
  obtain ⟨v1, v2, v3⟩ := sv
  simp only [ieV, ivV] at SP ⊢
  go_enter Try.func59, Try.ntmps59
  go_wp2_with fail
  refine (HCK.out _ _ (ck1_cells _ _ _ _ (by go_simp) (by go_simp))).mono ?_
  rintro e w1 ⟨rfl, hk⟩
  have q0 := hk.heap (((Kp.alloc No _ _).tr (Kp.alloc No _ _)).heap (at_new (n := w.heap.size) rfl) id) id
  have q1 := hk.heap ((Kp.alloc No _ _).heap (at_new (n := w.heap.size + 1) (by simp)) id) id
  obtain ⟨c0, c1, _, _⟩ := two_cells q0
  obtain ⟨r0, r1, z0, z1⟩ := two_cells q1
  have KP := ((Kp.alloc No w _).tr ((Kp.alloc No _ _).tr (Kp.alloc No _ _))).tr hk
  go_wp2_with fail
  refine (HN1.out _).mono ?_
  rintro e w2 ⟨rfl, hw2⟩
  subst hw2
  go_wp2_with fail
  refine (HN2.out _).mono ?_
  rintro e w2 ⟨rfl, hw2⟩
  subst hw2
  go_wp2_with fail
  go_region_held3 (fun w' => w'.cell? ⟨w.heap.size, 0, none⟩ = some (.int .i64 lo) ∧ w'.cell? ⟨w.heap.size, 1, none⟩ = some (.int .i64 hi)) (first | exact ⟨c0, c1⟩ | go_keep)
    ((first | (go_at_call 74; with_reducible refine (T1.out _).mono ?_; rintro e w3 ⟨rfl, k3⟩; have L3 := Lib.hid ((Kp.drew No _).tr k3); have c0 := L3.out.cell c0 (fun h => h); have c1 := L3.out.cell c1 (fun h => h); clear k3) | (go_at_call 74; with_reducible refine (T2.out _).mono ?_; rintro e w4 ⟨rfl, k4⟩; have L4 := Lib.hid (L3.out.tr k4); have c0 := k4.cell c0 (fun h => h); have c1 := k4.cell c1 (fun h => h); clear k4) | (go_at_call 73; refine (SP.out _ _ ⟨by go_simp, by go_simp, by go_simp⟩ ⟨by go_simp, by go_simp, by go_simp⟩).mono ?_; rintro e w5 ⟨rfl, k5⟩; have L5 := Lib.hid (L4.out.tr ((Kp.alloc No _ _).tr k5)); have c0 := k5.cell (a := ⟨w.heap.size, 0, none⟩) (v := .int .i64 lo) (by go_simp) (fun h => h); have c1 := k5.cell (a := ⟨w.heap.size, 1, none⟩) (v := .int .i64 hi) (by go_simp) (fun h => h); have z0 := (L5.out.frozen (World.block_lt_of_cell? _ _ r0) id).trans z0; have z1 := (L5.out.frozen (World.block_lt_of_cell? _ _ r1) id).trans z1; have r0 := L5.out.cell r0 id; have r1 := L5.out.cell r1 id; clear k5)))
  go_wp2_with fail
  exact bodyPost_ret (v := .tuple #[.agg #[.int .i64 v1, .int .i64 v2], .int .i64 v3]) (by simp [results, Try.results59, go_sem, r0, r1]) rfl ⟨rfl, kp_set2 (KP.tr L5.out) (by omega)⟩
end Go.Proofs.Ytakgcnjpmpcekaa
