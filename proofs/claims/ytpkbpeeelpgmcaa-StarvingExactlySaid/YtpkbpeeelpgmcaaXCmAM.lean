/- Chapter 15: subsets: the iterator that is handed out. · cmp.Compare of integers, cmp.Or: contracts. · Chapter 15: within, the search's test; the order of combinations. -/
import Derived.Test.YtpkbpeeelpgmcaaProg
import Derived.KernelRfl
import Derived.StillTailTactics
import Derived.Shelf.Slices.Empties
import Derived.Sort.Grow
import Derived.Test.YtpkbpeeelpgmcaaXSubRM
import Derived.Test.YtpkbpeeelpgmcaaXLibRowM
import Derived.Test.YtpkbpeeelpgmcaaXNwBitM
namespace Go.Proofs.Ytpkbpeeelpgmcaa
open Go.RowKit Go.Kq Go.Flow

theorem subsets_any (m : Nat) (w : World) : Calls Try.prog 22 #[.int .i64 (m : Nat)] w fun e w' => ∃ Bx, e = .returned (.func (.func 44) #[] #[.pointer (some ⟨Bx, 0, none⟩)]) ∧ w.heap.size ≤ Bx ∧ w'.cell? ⟨Bx, 0, none⟩ = some (.int .i64 (m : Nat)) ∧ Kp No w w' ∧ w'.heap[Bx]? = some (.cells #[.int .i64 (m : Nat)] 3 (0, 0)) := by
  go_enter Try.func22, Try.ntmps22
  go_wp2_with fail
  go_ret
  exact ⟨_, rfl, Nat.le_refl _, by rw [cell_of_row _ _ _ _ _ _ (heap_alloc_new w (.cells #[.int .i64 (m : Nat)] 3))]; rfl, Kp.alloc _ _ _, heap_alloc_new w _⟩
/-- A system is starved by a combination. -/
noncomputable def starB (N : Net) (l : List Sto) (ss ks : List Nat) : Bool := @decide (Stv N (dmd N.ch.length l ss ks)) (Classical.propDecidable _)
theorem starB_iff {N : Net} {l : List Sto} {ss ks : List Nat} : starB N l ss ks = true ↔ Stv N (dmd N.ch.length l ss ks) := by
  unfold starB
  exact @decide_eq_true_iff _ (Classical.propDecidable _)
theorem kp_putObj {S : Nat → Prop} {w W : World} (h : Kp S w W) {l : Nat} (hl : w.heap.size ≤ l) (o : Obj) : Kp S w (W.putObj l o) :=
  ⟨h.os, h.tape, h.output, by have := (grownBy_putObj' W l o).size; have := h.size; omega, fun k hk hS => by
    have h1 := h.block k hk hS
    have h2 := (grownBy_putObj' W l o).block k (by have := h.size; omega) (fun e => by injection e with e; omega)
    rw [h2, h1]⟩
theorem cell_putObj {W : World} {b : Nat} {o : Nat} {v : Value} (h : W.cell? ⟨b, o, none⟩ = some v) {l : Nat} (hl : b ≠ l) (ob : Obj) : (W.putObj l ob).cell? ⟨b, o, none⟩ = some v := by
  have h2 := (grownBy_putObj' W l ob).block b (World.block_lt_of_cell? W _ h) (fun e => by injection e with e; exact hl e)
  exact (World.cell?_of_block h2).trans h
/-- A demand's row, as a call gives it. -/
def DmF (nc : Nat) (ds : List Int) (W : World) (u : Value) : Prop := ∃ G, u = .slice (some ⟨G, 0, none⟩) nc nc ∧ RdI .i64 W (some ⟨G, 0, none⟩) nc ds
theorem DmF.no {nc : Nat} {ds : List Int} {W W' : World} {u : Value} (h : DmF nc ds W u) (k : Kp No W W') : DmF nc ds W' u := by
  obtain ⟨G, h1, h2⟩ := h
  exact ⟨G, h1, h2.no k⟩
end Go.Proofs.Ytpkbpeeelpgmcaa

namespace Go.Proofs.Ytpkbpeeelpgmcaa
open Go.RowKit Go.Kq

def cmpI (x y : Int) : Int := if x < y then -1 else if y < x then 1 else 0
def orL : List Int → Int
  | [] => 0
  | x :: l => if x = 0 then orL l else x
theorem isNaNI (x : Int) (w : World) : Calls Try.prog 100 #[.int .i64 x] w fun e w' => e = .returned (.bool false) ∧ w' = w := by
  go_enter Try.func100, Try.ntmps100
  go_wp2
  go_ret
  exact ⟨ret_bool (by simp), rfl⟩
set_option maxHeartbeats 1000000 in
theorem cmpI_any (x y : Int) (w : World) : Calls Try.prog 75 #[.int .i64 x, .int .i64 y] w fun e w' => e = .returned (.int .i64 (cmpI x y)) ∧ w' = w := by
  go_enter Try.func75, Try.ntmps75
  go_wp2_with (go_at_call 100; refine (isNaNI _ _).mono ?_; rintro e w' ⟨rfl, rfl⟩)
  all_goals
    go_ret
    refine ⟨ret_i64 ?_, rfl⟩
    unfold cmpI
    (repeat' split) <;> first | rfl | (exfalso; omega)
end Go.Proofs.Ytpkbpeeelpgmcaa

namespace Go.Proofs.Ytpkbpeeelpgmcaa
open Go.RowKit Go.Kq Go.Flow

/-- A combination in memory. -/
structure Cv where
  P : Option Addr
  p : Nat
  cp : Nat
  Q : Option Addr
  q : Nat
  cq : Nat
  c : Cb
instance : Inhabited Cv := ⟨⟨none, 0, 0, none, 0, 0, default⟩⟩
def Cv.cells (v : Cv) : List Value := [.slice v.P v.p v.cp, .slice v.Q v.q v.cq]
def Cv.val (v : Cv) : Value := .agg #[.slice v.P v.p v.cp, .slice v.Q v.q v.cq]
def CvIs (w : World) (v : Cv) : Prop := RdI .i64 w v.P v.p (v.c.st.map Int.ofNat) ∧ RdI .i64 w v.Q v.q (v.c.ky.map Int.ofNat)
theorem CvIs.no {w w' : World} {v : Cv} (h : CvIs w v) (k : Kp No w w') : CvIs w' v := ⟨h.1.no k, h.2.no k⟩
theorem cv_len (v : Cv) : v.cells.length = 2 := rfl
theorem cv_one (v : Cv) : ∀ u ∈ v.cells, u.oneCell' = true := by
  intro u hu
  simp [Cv.cells] at hu
  rcases hu with rfl | rfl <;> rfl
theorem srch_any (A : Option Addr) (n c : Nat) (zs : List Int) (x : Int) (w : World) (hn : n ≤ 100000) (hx : RdI .i64 w A n zs) (hs : zs.Pairwise (· ≤ ·)) :
    Calls Try.prog 49 #[.slice A n c, .int .i64 x] w fun e w' => (∃ i : Int, e = .returned (.tuple #[.int .i64 i, .bool (zs.contains x)])) ∧ Kp No w w' := by
  by_cases h0 : 0 < n
  · refine (search_any A n c zs x w hn h0 hx hs).mono ?_
    rintro e w' ⟨he, q, rfl⟩
    exact ⟨⟨_, he⟩, Kp.drewN _ _ _⟩
  · obtain rfl : n = 0 := by omega
    have hz : zs = [] := List.length_eq_zero_iff.1 hx.1
    subst hz
    refine Calls.mono (show Calls Try.prog 49 _ _ _ from Any.slices_BinarySearch_int_empty srchI A c x w) ?_
    rintro e w' ⟨he, rfl⟩
    exact ⟨⟨0, he⟩, Kp.refl _ _⟩
theorem con_nat (ys : List Nat) (x : Nat) : (ys.map Int.ofNat).contains (x : Int) = decide (x ∈ ys) := by
  rw [Bool.eq_iff_iff, List.contains_iff_mem, decide_eq_true_eq]
  constructor
  · intro h
    obtain ⟨y, hy, e⟩ := List.mem_map.1 h
    have : y = x := by simp at e; omega
    exact this ▸ hy
  · intro h
    exact List.mem_map.2 ⟨x, h, rfl⟩
def inL (xs ys : List Nat) : Bool := xs.all fun x => decide (x ∈ ys)
theorem all_take_one {α : Type} (p : α → Bool) (xs : List α) (k : Nat) (x : α) (h : xs[k]? = some x) : (xs.take (k + 1)).all p = ((xs.take k).all p && p x) := by
  rw [List.take_add_one, h]
  simp [List.all_append]
theorem map_at {xs : List Nat} {k : Nat} {x : Nat} (h : xs[k]? = some x) : (xs.map Int.ofNat)[k]? = some (x : Int) := by rw [List.getElem?_map, h]; rfl
set_option maxHeartbeats 2000000 in
set_option maxRecDepth 100000 in
theorem within_any (A B : Option Addr) (n c m d : Nat) (xs ys : List Nat) (w : World) (hR : RdI .i64 w A n (xs.map Int.ofNat)) (hS : RdI .i64 w B m (ys.map Int.ofNat)) (hn : n ≤ 100000) (hm : m ≤ 100000) (hup : ys.Pairwise (· < ·)) :
    Calls Try.prog 27 #[.slice A n c, .slice B m d] w fun e w' => e = .returned (.bool (inL xs ys)) ∧ Kp No w w' := by
  have hl : xs.length = n := by have := hR.1; simpa using this
  have HR := Lib.hid hR
  have hle : (ys.map Int.ofNat).Pairwise (· ≤ ·) := List.pairwise_map.2 (hup.imp fun {a b} h => by simp; omega)
  have HB := Lib.hid (fun (x : Nat) W (k : Kp No w W) => srch_any B m d (ys.map Int.ofNat) x W hm (hS.no k) hle)
  have HL := Lib.hid hl
  clear hR hS hl hle hup
  go_enter Try.func27, Try.ntmps27
  go_wp2_with fail
  go_loopw [11] (fun i wr => ∃ k : Nat, k ≤ n ∧ i = .int .i64 (k : Nat) ∧ (xs.take k).all (fun x => decide (x ∈ ys)) = true ∧ Kp No w wr) (fun i _ => n - (intOf i).toNat)
  case atStart => exact ⟨0, by omega, rfl, rfl, Kp.refl _ _⟩
  case round =>
    obtain ⟨k, hk, rfl, hno, hkp⟩ := hrel
    have HN := Lib.hid hno
    have HK := Lib.hid hkp
    have HRR := Lib.hid (HR.out.no hkp)
    clear hno hkp
    by_cases hlt : k < n
    · obtain ⟨y, hy⟩ : ∃ y, xs[k]? = some y := ⟨_, List.getElem?_eq_getElem (by rw [HL.out]; exact hlt)⟩
      obtain ⟨b, o, rfl, hb, hc⟩ := HRR.out.2 k _ (map_at hy)
      have HT := Lib.hid (all_take_one (fun x => decide (x ∈ ys)) xs k y hy)
      have HM := Lib.hid (List.mem_of_getElem? hy)
      have SR := Lib.hid (HB.out y wr HK.out)
      rw [con_nat] at SR
      clear hy
      cases hq : decide (y ∈ ys) with
      | true =>
        rw [hq] at SR HT
        clear hq
        go_wp2_with fail
        with_reducible refine SR.out.mono ?_
        rintro e w1 ⟨⟨i, rfl⟩, k1⟩
        go_wp2_with fail
        go_roundw
        case rel => exact ⟨k + 1, by omega, by go_num, by rw [HT.out, HN.out]; rfl, HK.out.tr k1⟩
        case measure => simp [intOf]; omega
      | false =>
        rw [hq] at SR
        have HE := Lib.hid (show inL xs ys = false by
          unfold inL
          rw [← Bool.not_eq_true, List.all_eq_true]
          exact fun h => by have := h y HM.out; rw [hq] at this; cases this)
        clear hq
        go_wp2_with fail
        with_reducible refine SR.out.mono ?_
        rintro e w1 ⟨⟨i, rfl⟩, k1⟩
        go_wp2_with fail
        go_ret
        exact ⟨by rw [HE.out]; rfl, HK.out.tr k1⟩
    · obtain rfl : k = n := by omega
      have HE := Lib.hid (show inL xs ys = true by
        have h := HN.out
        rwa [List.take_of_length_le (by rw [HL.out]; exact Nat.le_refl _)] at h)
      go_wp2_with fail
      go_ret
      exact ⟨by rw [HE.out]; rfl, HK.out⟩
/-! ### the order -/
theorem cmpL_at {a b : List Nat} {i x y : Nat} (ha : a[i]? = some x) (hb : b[i]? = some y) : cmpL (a.drop i) (b.drop i) = if x < y then -1 else if y < x then 1 else cmpL (a.drop (i + 1)) (b.drop (i + 1)) := by
  have h1 := (List.getElem?_eq_some_iff.1 ha)
  have h2 := (List.getElem?_eq_some_iff.1 hb)
  obtain ⟨l1, rfl⟩ := h1
  obtain ⟨l2, rfl⟩ := h2
  rw [List.drop_eq_getElem_cons l1, List.drop_eq_getElem_cons l2]
  rfl
theorem cmpL_right {a b : List Nat} {i x : Nat} (ha : a[i]? = some x) (hb : b.length ≤ i) : cmpL (a.drop i) (b.drop i) = 1 := by
  obtain ⟨l1, rfl⟩ := List.getElem?_eq_some_iff.1 ha
  rw [List.drop_eq_getElem_cons l1, List.drop_eq_nil_of_le hb]
  rfl
theorem cmpL_left {a b : List Nat} {i : Nat} (ha : a.length ≤ i) : cmpL (a.drop i) (b.drop i) = if i < b.length then -1 else 0 := by
  rw [List.drop_eq_nil_of_le ha]
  split
  · rename_i h
    rw [List.drop_eq_getElem_cons h]
    rfl
  · rename_i h
    rw [List.drop_eq_nil_of_le (by omega)]
    rfl
set_option maxHeartbeats 2000000 in
set_option maxRecDepth 100000 in
theorem lcmp_any (A B : Option Addr) (n c m d : Nat) (xs ys : List Nat) (w : World) (hR : RdI .i64 w A n (xs.map Int.ofNat)) (hS : RdI .i64 w B m (ys.map Int.ofNat)) (hn : n ≤ 100000) (hm : m ≤ 100000) :
    Calls Try.prog 47 #[.slice A n c, .slice B m d] w fun e w' => e = .returned (.int .i64 (cmpL xs ys)) ∧ w' = w := by
  have hl : xs.length = n := by have := hR.1; simpa using this
  have hl2 : ys.length = m := by have := hS.1; simpa using this
  have HR := Lib.hid hR
  have HS := Lib.hid hS
  have HL := Lib.hid hl
  have HL2 := Lib.hid hl2
  clear hR hS hl hl2
  go_enter Try.func47, Try.ntmps47
  go_wp2_with fail
  go_loop [11] (fun i => ∃ k : Nat, k ≤ n ∧ k ≤ m ∧ i = .int .i64 (k : Nat) ∧ cmpL (xs.drop k) (ys.drop k) = cmpL xs ys) (fun i => n - (intOf i).toNat)
  case atStart => exact ⟨0, by omega, by omega, rfl, rfl⟩
  case round =>
    obtain ⟨k, hk, hkm, rfl, hno⟩ := hrel
    have HN := Lib.hid hno
    clear hno
    by_cases hlt : k < n
    · obtain ⟨x, hx⟩ : ∃ y, xs[k]? = some y := ⟨_, List.getElem?_eq_getElem (by rw [HL.out]; exact hlt)⟩
      obtain ⟨b, o, rfl, hb, hc⟩ := HR.out.2 k _ (map_at hx)
      by_cases hlm : k < m
      · obtain ⟨y, hy⟩ : ∃ y, ys[k]? = some y := ⟨_, List.getElem?_eq_getElem (by rw [HL2.out]; exact hlm)⟩
        obtain ⟨b2, o2, rfl, hb2, hc2⟩ := HS.out.2 k _ (map_at hy)
        have HT := Lib.hid (cmpL_at hx hy)
        have CI := Lib.hid (cmpI_any (x : Int) (y : Int) w)
        have CE : ∃ v, cmpI (x : Int) (y : Int) = v := ⟨_, rfl⟩
        obtain ⟨v, hv⟩ := CE
        rw [hv] at CI
        have HV := Lib.hid hv
        clear hx hy hv
        by_cases h0 : v = 0
        · have hxy : cmpL (xs.drop k) (ys.drop k) = cmpL (xs.drop (k + 1)) (ys.drop (k + 1)) := by
            have h := HV.out
            rw [h0] at h
            unfold cmpI at h
            rw [HT.out]
            split at h
            · omega
            · split at h
              · omega
              · rw [if_neg (by omega), if_neg (by omega)]
          have HX := Lib.hid hxy
          clear hxy
          subst h0
          go_wp2_with (go_at_call 75; refine CI.out.mono ?_; rintro e w' ⟨rfl, rfl⟩)
          go_round
          case rel => exact ⟨k + 1, by omega, by omega, by go_num, by rw [← HX.out, HN.out]⟩
          case measure => simp [intOf]; omega
        · have hxy : cmpL xs ys = v := by
            have h := HV.out
            unfold cmpI at h
            rw [← HN.out, HT.out, ← h]
            rcases Nat.lt_trichotomy x y with h1 | h1 | h1
            · rw [if_pos h1, if_pos (by omega)]
            · rw [if_neg (by omega), if_neg (by omega)] at h
              exact absurd h.symm h0
            · rw [if_neg (by omega), if_pos h1, if_neg (by omega), if_pos (by omega)]
          have HX := Lib.hid hxy
          have d0 : (v != 0) = true := by rw [bne_iff_ne]; exact h0
          clear hxy h0
          go_wp2_with (go_at_call 75; refine CI.out.mono ?_; rintro e w' ⟨rfl, rfl⟩)
          go_ret
          exact ⟨by rw [HX.out]; rfl, rfl⟩
      · have hxy : cmpL xs ys = 1 := by rw [← HN.out]; exact cmpL_right hx (by rw [HL2.out]; omega)
        have HX := Lib.hid hxy
        obtain rfl : k = m := by omega
        clear hx hxy
        go_wp2_with fail
        go_ret
        exact ⟨by rw [HX.out]; rfl, rfl⟩
    · obtain rfl : k = n := by omega
      have hxy : cmpL xs ys = if k < m then -1 else 0 := by rw [← HN.out, cmpL_left (by rw [HL.out]; exact Nat.le_refl _), HL2.out]
      have HX := Lib.hid hxy
      clear hxy
      by_cases hlm : k < m
      · rw [if_pos hlm] at HX
        go_wp2_with fail
        go_ret
        exact ⟨by rw [HX.out]; rfl, rfl⟩
      · rw [if_neg hlm] at HX
        obtain rfl : k = m := by omega
        go_wp2_with fail
        go_ret
        exact ⟨by rw [HX.out]; rfl, rfl⟩
end Go.Proofs.Ytpkbpeeelpgmcaa
