/- Chapter 14: the walk of within, for a set that a proof gave. -/
import Derived.Test.YtjjecadfcndkaaaOut
namespace Go.Proofs.Ytjjecadfcndkaaa
open Go.RowKit Go.Kq Go.Flow

theorem infoB : (Try.prog.info? 4).map (fun i => (i.zero, i.size, i.bytes)) = some (some (.bool false), 1, 1) := by kernel_rfl
theorem make_bools (n : Nat) (hn : n ≤ 100000) (w : World) :
    (Instr.makeSlice 45 (.int .i64 n) (.int .i64 n)).run Try.prog w = .ok (.slice (some ⟨w.heap.size, 0, none⟩) n n) (w.alloc (.cells (List.replicate n (Value.bool false)).toArray 4)) := by
  obtain ⟨i0, hi0, hz0, hz1, hz2⟩ := info_parts infoB
  have h := run_make (P := Try.prog) w 45 4 i0 _ Try.underlying45 hi0 hz0 .i64 .i64 n n (by omega) (by omega) (by rw [hz2]; omega) (by omega)
  rw [h, hz1, Nat.mul_one, show (n : Int).toNat = n by omega]
  simp only [Value.cells]
  rw [made_one]
/-- The row of a set's first members. -/
def rowOf (n : Nat) (M : List Nat) : List Bool := (List.range n).map fun v => decide (v ∈ M)
theorem rowOf_nil (n : Nat) : rowOf n [] = List.replicate n false := by
  apply List.ext_getElem
  · simp [rowOf]
  · intro i h1 h2
    simp [rowOf]
theorem rowOf_snoc (n : Nat) (M : List Nat) (c : Nat) : rowOf n (M ++ [c]) = (rowOf n M).set c true := by
  apply List.ext_getElem
  · simp [rowOf]
  · intro i h1 h2
    rw [List.getElem_set]
    by_cases e : c = i
    · subst e
      simp [rowOf]
    · simp [rowOf, e, Ne.symm e]
theorem rowOf_mem {n : Nat} (R : Nat → Bool) {v : Nat} (hv : v < n) : ofRow (rowOf n (mem R n)) v = R v := by
  unfold ofRow rowOf
  rw [List.getD_eq_getElem?_getD, List.getElem?_map, List.getElem?_range hv]
  have : v ∈ mem R n ↔ R v = true := by
    unfold mem
    rw [List.mem_filter, List.mem_range]
    simp [hv]
  cases hr : R v <;> simp [this, hr]
theorem mem_asc (R : Nat → Bool) (n : Nat) : (mem R n).Pairwise (· < ·) := List.Pairwise.filter _ List.pairwise_lt_range
theorem own_bools (w : World) (n : Nat) (hn : n ≤ 100000) : (w.alloc (.cells (List.replicate n (Value.bool false)).toArray 4)).ownsRow w.heap.size 4 1 (.slice (some ⟨w.heap.size, 0, none⟩) n n) n ((rowOf n []).map Value.bool) := by
  rw [rowOf_nil, List.map_replicate]
  refine ⟨by simp, .inr ⟨_, n, (List.replicate n (Value.bool false)).toArray, rfl, Nat.le_refl _, heap_alloc_new w _, Nat.le_refl _, ?_, ?_, ?_⟩⟩
  · unfold maxLen; omega
  · simp
  · simp
theorem nat_at {w : World} {A : Option Addr} {M : List Nat} {m : Nat} (h : RdI .i64 w A m (M.map Int.ofNat)) {k c : Nat} (hc : M[k]? = some c) : ∃ b o, A = some ⟨b, o, none⟩ ∧ b < w.heap.size ∧ w.cell? ⟨b, o + k, none⟩ = some (.int .i64 (c : Int)) :=
  h.2 k c (by rw [List.getElem?_map, hc]; rfl)
theorem step_row {w wr : World} {n c nq k : Nat} {M : List Nat} (hc : M[k]? = some c) (ho : wr.ownsRow w.heap.size 4 1 (.slice (some ⟨w.heap.size, 0, none⟩) n n) n ((rowOf n (M.take k)).map Value.bool)) (hk : Kp No w wr) :
    ((wr.drewN nq).setCell ⟨w.heap.size, c, none⟩ (.bool true)).ownsRow w.heap.size 4 1 (.slice (some ⟨w.heap.size, 0, none⟩) n n) n ((rowOf n (M.take (k + 1))).map Value.bool) ∧ Kp No w ((wr.drewN nq).setCell ⟨w.heap.size, c, none⟩ (.bool true)) := by
  refine ⟨?_, hk.trans ((Kp.drewN (One w.heap.size) wr nq).tr (kp_setOne _ w.heap.size c _)) fun k hk e => by have e2 : k = w.heap.size := e; omega⟩
  have e : M.take (k + 1) = M.take k ++ [c] := by rw [List.take_add_one, hc]; rfl
  rw [e, rowOf_snoc, List.map_set]
  exact own_set ((Kp.drewN (fun _ => False) wr nq).owns ho (fun _ _ h => h)) c _
set_option maxHeartbeats 4000000 in
set_option maxRecDepth 100000 in
theorem within_any (n : Nat) (hn : 1 ≤ n ∧ n ≤ 24) (M : List Nat) (hM : ∀ c ∈ M, c < n) (hasc : M.Pairwise (· < ·)) (h0 : M[0]? = some 0) (hlen : M.length ≤ 24) (A : Option Addr) (ac : Nat) (w : World) (hA : RdI .i64 w A M.length (M.map Int.ofNat)) :
    Calls Try.prog 21 #[.int .i64 n, .slice A M.length ac] w fun e w' => ∃ g, e = .returned (.tuple #[.slice (some ⟨g, 0, none⟩) n n, .bool true]) ∧ w'.ownsRow w.heap.size 4 1 (.slice (some ⟨g, 0, none⟩) n n) n ((rowOf n M).map Value.bool) ∧ Kp No w w' := by
  obtain ⟨hn1, hn2⟩ := hn
  have hmk := make_bools n (by omega)
  have hMl : (0 : Int) < M.length := by have := (List.getElem?_eq_some_iff.1 h0).1; omega
  have HA := Lib.hid hA
  have HM := Lib.hid hM
  have HS := Lib.hid hasc
  have H0 := Lib.hid h0
  have O0 := Lib.hid (own_bools w n (by omega))
  clear hA hM hasc h0
  go_enter Try.func21, Try.ntmps21
  go_wp2_with fail
  go_loopw [7] (fun i wr => ∃ k : Nat, k ≤ M.length ∧ i = .int .i64 k ∧ wr.ownsRow w.heap.size 4 1 (.slice (some ⟨w.heap.size, 0, none⟩) n n) n ((rowOf n (M.take k)).map Value.bool) ∧ Kp No w wr) (fun i _ => M.length - (intOf i).toNat)
  case atStart => exact ⟨0, by omega, rfl, O0.out, Kp.alloc _ _ _⟩
  case round =>
    obtain ⟨k, hk, rfl, hown, hkp⟩ := hrel
    have OW := Lib.hid hown
    have HK := Lib.hid hkp
    clear hown hkp
    by_cases hlt : (k : Int) < M.length
    · obtain ⟨c, hc⟩ : ∃ c, M[k]? = some c := ⟨_, List.getElem?_eq_getElem (by omega)⟩
      obtain ⟨b, o, rfl, hb, y0⟩ := nat_at (HA.out.no HK.out) hc
      have hcn : (c : Int) < n := by have := HM.out c (List.mem_of_getElem? hc); omega
      have HC := Lib.hid hc
      have fv := own_free OW.out c
      obtain ⟨bv, yv⟩ : ∃ bv, wr.cell? ⟨w.heap.size, c, none⟩ = some (.bool bv) := ⟨_, own_cell OW.out (j := c) (u := .bool (decide (c ∈ M.take k))) (by rw [rowOf, List.map_map, List.getElem?_map, List.getElem?_range (by omega)]; rfl)⟩
      clear hc
      by_cases hk0 : k = 0
      · subst hk0
        have y00 : wr.cell? ⟨b, o, none⟩ = some (.int .i64 (c : Int)) := by simpa using y0
        have hng : decide ((c : Int) < 0) = false := decide_eq_false (by omega)
        have hnn : decide ((n : Int) ≤ c) = false := decide_eq_false (by omega)
        have hnN : decide (n ≤ c) = false := decide_eq_false (by omega)
        go_wp2_with fail
        go_quiet (fail)
        go_wp2_with fail
        go_roundw
        case rel => exact ⟨1, by omega, rfl, (step_row HC.out OW.out HK.out).1, (step_row HC.out OW.out HK.out).2⟩
        case measure => simp [intOf]; omega
      · obtain ⟨j, rfl⟩ : ∃ j, k = j + 1 := ⟨k - 1, by omega⟩
        obtain ⟨p, hp⟩ : ∃ p, M[j]? = some p := ⟨_, List.getElem?_eq_getElem (by omega)⟩
        obtain ⟨b', o', e', hb', y1⟩ := nat_at (HA.out.no HK.out) hp
        cases e'
        have hpc : (p : Int) < c := by
          have h1 := List.getElem?_eq_some_iff.1 hp
          have h2 := List.getElem?_eq_some_iff.1 HC.out
          obtain ⟨i1, rfl⟩ := h1
          obtain ⟨i2, rfl⟩ := h2
          have := List.pairwise_iff_getElem.1 HS.out j (j + 1) i1 i2 (by omega)
          omega
        have hkj : (0 : Int) < (j : Int) + 1 := by omega
        have hw1 : IntKind.i64.wrap ((j : Int) + 1 - 1) = j := by rw [IntWalk.i64_in _ (by omega)]; omega
        have hng : decide ((c : Int) < 0) = false := decide_eq_false (by omega)
        have hnn : decide ((n : Int) ≤ c) = false := decide_eq_false (by omega)
        have hnN : decide (n ≤ c) = false := decide_eq_false (by omega)
        have hpp : decide ((c : Int) ≤ p) = false := decide_eq_false (by omega)
        have hpN : decide (c ≤ p) = false := decide_eq_false (by omega)
        have hjt : ((j : Int) + 1).toNat = j + 1 := by omega
        have hj0 : (0 : Int) ≤ (j : Int) + 1 := by omega
        have hj1 : (j : Int) + 1 < M.length := by omega
        clear hp
        go_wp2_with fail
        go_quiet (fail)
        go_wp2_with fail
        go_roundw
        case rel => exact ⟨j + 1 + 1, by omega, by go_num, (step_row HC.out OW.out HK.out).1, (step_row HC.out OW.out HK.out).2⟩
        case measure => simp [intOf]; omega
    · obtain rfl : k = M.length := by omega
      obtain ⟨b, o, rfl, hb, y0⟩ := nat_at (HA.out.no HK.out) H0.out
      have y00 : wr.cell? ⟨b, o, none⟩ = some (.int .i64 (0 : Int)) := by simpa using y0
      have hM1 : 0 < M.length := by omega
      have hM2 : decide (0 < M.length) = true := decide_eq_true hM1
      go_wp2_with fail
      go_quiet (fail)
      go_wp2_with fail
      refine bodyPost_ret (v := .tuple #[.slice (some ⟨w.heap.size, 0, none⟩) n n, .bool true]) (by simp [results, Try.results21, go_sem]) rfl ⟨_, rfl, (Kp.drewN (fun _ => False) _ _).owns (by have := OW.out; rwa [List.take_length] at this) (fun _ _ h => h), HK.out.tr (Kp.drewN _ _ _)⟩
theorem cut_congr {R S : Nat → Bool} (h : Bool) : ∀ l : List Tk, (∀ t ∈ l, R t.fr = S t.fr ∧ R t.to = S t.to) → cut R (l.map (tp h)) = cut S (l.map (tp h))
  | [], _ => rfl
  | t :: l, e => by
    have ih := cut_congr h l fun y hy => e y (by simp [hy])
    obtain ⟨e1, e2⟩ := e t (by simp)
    simp only [List.map_cons, cut, tp, e1, e2] at ih ⊢
    rw [ih]
theorem out_congr {N : Net} (hN : N.Ok) (h : Bool) {R S : Nat → Bool} (e : ∀ v, v < N.n → R v = S v) : N.out h R = N.out h S :=
  cut_congr h _ fun t ht => ⟨e _ (hN.tk t ht).1, e _ (hN.tk t ht).2.1⟩
theorem out_row {N : Net} (hN : N.Ok) (h : Bool) (R : Nat → Bool) : N.out h (ofRow (rowOf N.n (mem R N.n))) = N.out h R :=
  out_congr hN h fun _ hv => rowOf_mem R hv
theorem rd_own_bools {w : World} {base n cap : Nat} {A : Option Addr} {bs : List Bool} (h : w.ownsRow base 4 1 (.slice A n cap) n (bs.map Value.bool)) : Rd b1 1 w A n bs := by
  refine Rd.of_own (base := base) (e := 4) (cap := cap) (fun _ => rfl) (by omega) ?_
  have e : bs.flatMap b1 = bs.map Value.bool := by
    clear h
    induction bs with
    | nil => rfl
    | cons b l ih => simp [b1, ih]
  rw [e]
  exact h
end Go.Proofs.Ytjjecadfcndkaaa
