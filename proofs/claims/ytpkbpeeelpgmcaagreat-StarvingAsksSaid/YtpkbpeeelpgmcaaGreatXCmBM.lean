/- Chapter 15: subsets: the iterator that is handed out. · cmp.Compare of integers, cmp.Or: contracts. · Chapter 15: within, the search's test; the order of combinations. · Chapter 15: slices.ContainsFunc over combinations. Printed by gen_cc.py. · Chapter 15: compare; the search's closure; Clone. -/
import Derived.Test.YtpkbpeeelpgmcaaGreatProg
import Derived.KernelRfl
import Derived.StillTailTactics
import Derived.Shelf.Slices.Empties
import Derived.Sort.Grow
import Derived.Test.YtpkbpeeelpgmcaaGreatXSubRM
import Derived.Test.YtpkbpeeelpgmcaaGreatXLibRowM
import Derived.Test.YtpkbpeeelpgmcaaGreatXNwBitM
namespace Go.Proofs.YtpkbpeeelpgmcaaGreat
open Go.RowKit Go.Kq Go.Flow

theorem subsets_any (m : Nat) (w : World) : Calls Tryz.prog 29 #[.int .i64 (m : Nat)] w fun e w' => ∃ Bx, e = .returned (.func (.func 57) #[] #[.pointer (some ⟨Bx, 0, none⟩)]) ∧ w.heap.size ≤ Bx ∧ w'.cell? ⟨Bx, 0, none⟩ = some (.int .i64 (m : Nat)) ∧ Kp No w w' ∧ w'.heap[Bx]? = some (.cells #[.int .i64 (m : Nat)] 3 (0, 0)) := by
  go_enter Tryz.func29, Tryz.ntmps29
  go_wp2_with fail
  go_ret
  exact ⟨_, rfl, Nat.le_refl _, by rw [cell_of_row _ _ _ _ _ _ (heap_alloc_new w (.cells #[.int .i64 (m : Nat)] 3))]; rfl, Kp.alloc _ _ _, heap_alloc_new w _⟩
/-- A system is starved by a combination. -/
noncomputable def starB (N : Net) (l : List Sto) (ss ks : List Nat) : Bool := @decide (Stv N (dmd N.ch.length l ss ks)) (Classical.propDecidable _)
theorem starB_iff {N : Net} {l : List Sto} {ss ks : List Nat} : starB N l ss ks = true ↔ Stv N (dmd N.ch.length l ss ks) := by
  unfold starB
  exact @decide_eq_true_iff _ (Classical.propDecidable _)
theorem kp_putObj {S : Nat → Prop} {w W : World} (h : Kp S w W) {l : Nat} (hl : w.heap.size ≤ l) (o : Obj) : Kp S w (W.putObj l o) :=
  ⟨h.os, h.tape, h.output, by have := (grownBy_putObj' W l o).size; have := h.size; omega, fun k hk hS => by
    have h1 := h.block k hk hS
    have h2 := (grownBy_putObj' W l o).block k (by have := h.size; omega) (fun e => by injection e with e; omega)
    rw [h2, h1]⟩
theorem cell_putObj {W : World} {b : Nat} {o : Nat} {v : Value} (h : W.cell? ⟨b, o, none⟩ = some v) {l : Nat} (hl : b ≠ l) (ob : Obj) : (W.putObj l ob).cell? ⟨b, o, none⟩ = some v := by
  have h2 := (grownBy_putObj' W l ob).block b (World.block_lt_of_cell? W _ h) (fun e => by injection e with e; exact hl e)
  exact (World.cell?_of_block h2).trans h
/-- A demand's row, as a call gives it. -/
def DmF (nc : Nat) (ds : List Int) (W : World) (u : Value) : Prop := ∃ G, u = .slice (some ⟨G, 0, none⟩) nc nc ∧ RdI .i64 W (some ⟨G, 0, none⟩) nc ds
theorem DmF.no {nc : Nat} {ds : List Int} {W W' : World} {u : Value} (h : DmF nc ds W u) (k : Kp No W W') : DmF nc ds W' u := by
  obtain ⟨G, h1, h2⟩ := h
  exact ⟨G, h1, h2.no k⟩
end Go.Proofs.YtpkbpeeelpgmcaaGreat

namespace Go.Proofs.YtpkbpeeelpgmcaaGreat
open Go.RowKit Go.Kq

def cmpI (x y : Int) : Int := if x < y then -1 else if y < x then 1 else 0
def orL : List Int → Int
  | [] => 0
  | x :: l => if x = 0 then orL l else x
theorem isNaNI (x : Int) (w : World) : Calls Tryz.prog 115 #[.int .i64 x] w fun e w' => e = .returned (.bool false) ∧ w' = w := by
  go_enter Tryz.func115, Tryz.ntmps115
  go_wp2
  go_ret
  exact ⟨ret_bool (by simp), rfl⟩
set_option maxHeartbeats 1000000 in
theorem cmpI_any (x y : Int) (w : World) : Calls Tryz.prog 93 #[.int .i64 x, .int .i64 y] w fun e w' => e = .returned (.int .i64 (cmpI x y)) ∧ w' = w := by
  go_enter Tryz.func93, Tryz.ntmps93
  go_wp2_with (go_at_call 115; refine (isNaNI _ _).mono ?_; rintro e w' ⟨rfl, rfl⟩)
  all_goals
    go_ret
    refine ⟨ret_i64 ?_, rfl⟩
    unfold cmpI
    (repeat' split) <;> first | rfl | (exfalso; omega)
end Go.Proofs.YtpkbpeeelpgmcaaGreat

namespace Go.Proofs.YtpkbpeeelpgmcaaGreat
open Go.RowKit Go.Kq Go.Flow

/-- A combination in memory. -/
structure Cv where
  P : Option Addr
  p : Nat
  cp : Nat
  Q : Option Addr
  q : Nat
  cq : Nat
  c : Cb
instance : Inhabited Cv := ⟨⟨none, 0, 0, none, 0, 0, default⟩⟩
def Cv.cells (v : Cv) : List Value := [.slice v.P v.p v.cp, .slice v.Q v.q v.cq]
def Cv.val (v : Cv) : Value := .agg #[.slice v.P v.p v.cp, .slice v.Q v.q v.cq]
def CvIs (w : World) (v : Cv) : Prop := RdI .i64 w v.P v.p (v.c.st.map Int.ofNat) ∧ RdI .i64 w v.Q v.q (v.c.ky.map Int.ofNat)
theorem CvIs.no {w w' : World} {v : Cv} (h : CvIs w v) (k : Kp No w w') : CvIs w' v := ⟨h.1.no k, h.2.no k⟩
theorem cv_len (v : Cv) : v.cells.length = 2 := rfl
theorem cv_one (v : Cv) : ∀ u ∈ v.cells, u.oneCell' = true := by
  intro u hu
  simp [Cv.cells] at hu
  rcases hu with rfl | rfl <;> rfl
theorem srch_any (A : Option Addr) (n c : Nat) (zs : List Int) (x : Int) (w : World) (hn : n ≤ 100000) (hx : RdI .i64 w A n zs) (hs : zs.Pairwise (· ≤ ·)) :
    Calls Tryz.prog 69 #[.slice A n c, .int .i64 x] w fun e w' => (∃ i : Int, e = .returned (.tuple #[.int .i64 i, .bool (zs.contains x)])) ∧ Kp No w w' := by
  by_cases h0 : 0 < n
  · refine (search_any A n c zs x w hn h0 hx hs).mono ?_
    rintro e w' ⟨he, q, rfl⟩
    exact ⟨⟨_, he⟩, Kp.drewN _ _ _⟩
  · obtain rfl : n = 0 := by omega
    have hz : zs = [] := List.length_eq_zero_iff.1 hx.1
    subst hz
    refine Calls.mono (show Calls Tryz.prog 69 _ _ _ from Any.slices_BinarySearch_int_empty srchI A c x w) ?_
    rintro e w' ⟨he, rfl⟩
    exact ⟨⟨0, he⟩, Kp.refl _ _⟩
theorem con_nat (ys : List Nat) (x : Nat) : (ys.map Int.ofNat).contains (x : Int) = decide (x ∈ ys) := by
  rw [Bool.eq_iff_iff, List.contains_iff_mem, decide_eq_true_eq]
  constructor
  · intro h
    obtain ⟨y, hy, e⟩ := List.mem_map.1 h
    have : y = x := by simp at e; omega
    exact this ▸ hy
  · intro h
    exact List.mem_map.2 ⟨x, h, rfl⟩
def inL (xs ys : List Nat) : Bool := xs.all fun x => decide (x ∈ ys)
theorem all_take_one {α : Type} (p : α → Bool) (xs : List α) (k : Nat) (x : α) (h : xs[k]? = some x) : (xs.take (k + 1)).all p = ((xs.take k).all p && p x) := by
  rw [List.take_add_one, h]
  simp [List.all_append]
theorem map_at {xs : List Nat} {k : Nat} {x : Nat} (h : xs[k]? = some x) : (xs.map Int.ofNat)[k]? = some (x : Int) := by rw [List.getElem?_map, h]; rfl
set_option maxHeartbeats 2000000 in
set_option maxRecDepth 100000 in
theorem within_any (A B : Option Addr) (n c m d : Nat) (xs ys : List Nat) (w : World) (hR : RdI .i64 w A n (xs.map Int.ofNat)) (hS : RdI .i64 w B m (ys.map Int.ofNat)) (hn : n ≤ 100000) (hm : m ≤ 100000) (hup : ys.Pairwise (· < ·)) :
    Calls Tryz.prog 41 #[.slice A n c, .slice B m d] w fun e w' => e = .returned (.bool (inL xs ys)) ∧ Kp No w w' := by
  have hl : xs.length = n := by have := hR.1; simpa using this
  have HR := Lib.hid hR
  have hle : (ys.map Int.ofNat).Pairwise (· ≤ ·) := List.pairwise_map.2 (hup.imp fun {a b} h => by simp; omega)
  have HB := Lib.hid (fun (x : Nat) W (k : Kp No w W) => srch_any B m d (ys.map Int.ofNat) x W hm (hS.no k) hle)
  have HL := Lib.hid hl
  clear hR hS hl hle hup
  go_enter Tryz.func41, Tryz.ntmps41
  go_wp2_with fail
  go_loopw [11] (fun i wr => ∃ k : Nat, k ≤ n ∧ i = .int .i64 (k : Nat) ∧ (xs.take k).all (fun x => decide (x ∈ ys)) = true ∧ Kp No w wr) (fun i _ => n - (intOf i).toNat)
  case atStart => exact ⟨0, by omega, rfl, rfl, Kp.refl _ _⟩
  case round =>
    obtain ⟨k, hk, rfl, hno, hkp⟩ := hrel
    have HN := Lib.hid hno
    have HK := Lib.hid hkp
    have HRR := Lib.hid (HR.out.no hkp)
    clear hno hkp
    by_cases hlt : k < n
    · obtain ⟨y, hy⟩ : ∃ y, xs[k]? = some y := ⟨_, List.getElem?_eq_getElem (by rw [HL.out]; exact hlt)⟩
      obtain ⟨b, o, rfl, hb, hc⟩ := HRR.out.2 k _ (map_at hy)
      have HT := Lib.hid (all_take_one (fun x => decide (x ∈ ys)) xs k y hy)
      have HM := Lib.hid (List.mem_of_getElem? hy)
      have SR := Lib.hid (HB.out y wr HK.out)
      rw [con_nat] at SR
      clear hy
      cases hq : decide (y ∈ ys) with
      | true =>
        rw [hq] at SR HT
        clear hq
        go_wp2_with fail
        with_reducible refine SR.out.mono ?_
        rintro e w1 ⟨⟨i, rfl⟩, k1⟩
        go_wp2_with fail
        go_roundw
        case rel => exact ⟨k + 1, by omega, by go_num, by rw [HT.out, HN.out]; rfl, HK.out.tr k1⟩
        case measure => simp [intOf]; omega
      | false =>
        rw [hq] at SR
        have HE := Lib.hid (show inL xs ys = false by
          unfold inL
          rw [← Bool.not_eq_true, List.all_eq_true]
          exact fun h => by have := h y HM.out; rw [hq] at this; cases this)
        clear hq
        go_wp2_with fail
        with_reducible refine SR.out.mono ?_
        rintro e w1 ⟨⟨i, rfl⟩, k1⟩
        go_wp2_with fail
        go_ret
        exact ⟨by rw [HE.out]; rfl, HK.out.tr k1⟩
    · obtain rfl : k = n := by omega
      have HE := Lib.hid (show inL xs ys = true by
        have h := HN.out
        rwa [List.take_of_length_le (by rw [HL.out]; exact Nat.le_refl _)] at h)
      go_wp2_with fail
      go_ret
      exact ⟨by rw [HE.out]; rfl, HK.out⟩
/-! ### the order -/
theorem cmpL_at {a b : List Nat} {i x y : Nat} (ha : a[i]? = some x) (hb : b[i]? = some y) : cmpL (a.drop i) (b.drop i) = if x < y then -1 else if y < x then 1 else cmpL (a.drop (i + 1)) (b.drop (i + 1)) := by
  have h1 := (List.getElem?_eq_some_iff.1 ha)
  have h2 := (List.getElem?_eq_some_iff.1 hb)
  obtain ⟨l1, rfl⟩ := h1
  obtain ⟨l2, rfl⟩ := h2
  rw [List.drop_eq_getElem_cons l1, List.drop_eq_getElem_cons l2]
  rfl
theorem cmpL_right {a b : List Nat} {i x : Nat} (ha : a[i]? = some x) (hb : b.length ≤ i) : cmpL (a.drop i) (b.drop i) = 1 := by
  obtain ⟨l1, rfl⟩ := List.getElem?_eq_some_iff.1 ha
  rw [List.drop_eq_getElem_cons l1, List.drop_eq_nil_of_le hb]
  rfl
theorem cmpL_left {a b : List Nat} {i : Nat} (ha : a.length ≤ i) : cmpL (a.drop i) (b.drop i) = if i < b.length then -1 else 0 := by
  rw [List.drop_eq_nil_of_le ha]
  split
  · rename_i h
    rw [List.drop_eq_getElem_cons h]
    rfl
  · rename_i h
    rw [List.drop_eq_nil_of_le (by omega)]
    rfl
set_option maxHeartbeats 2000000 in
set_option maxRecDepth 100000 in
theorem lcmp_any (A B : Option Addr) (n c m d : Nat) (xs ys : List Nat) (w : World) (hR : RdI .i64 w A n (xs.map Int.ofNat)) (hS : RdI .i64 w B m (ys.map Int.ofNat)) (hn : n ≤ 100000) (hm : m ≤ 100000) :
    Calls Tryz.prog 67 #[.slice A n c, .slice B m d] w fun e w' => e = .returned (.int .i64 (cmpL xs ys)) ∧ w' = w := by
  have hl : xs.length = n := by have := hR.1; simpa using this
  have hl2 : ys.length = m := by have := hS.1; simpa using this
  have HR := Lib.hid hR
  have HS := Lib.hid hS
  have HL := Lib.hid hl
  have HL2 := Lib.hid hl2
  clear hR hS hl hl2
  go_enter Tryz.func67, Tryz.ntmps67
  go_wp2_with fail
  go_loop [11] (fun i => ∃ k : Nat, k ≤ n ∧ k ≤ m ∧ i = .int .i64 (k : Nat) ∧ cmpL (xs.drop k) (ys.drop k) = cmpL xs ys) (fun i => n - (intOf i).toNat)
  case atStart => exact ⟨0, by omega, by omega, rfl, rfl⟩
  case round =>
    obtain ⟨k, hk, hkm, rfl, hno⟩ := hrel
    have HN := Lib.hid hno
    clear hno
    by_cases hlt : k < n
    · obtain ⟨x, hx⟩ : ∃ y, xs[k]? = some y := ⟨_, List.getElem?_eq_getElem (by rw [HL.out]; exact hlt)⟩
      obtain ⟨b, o, rfl, hb, hc⟩ := HR.out.2 k _ (map_at hx)
      by_cases hlm : k < m
      · obtain ⟨y, hy⟩ : ∃ y, ys[k]? = some y := ⟨_, List.getElem?_eq_getElem (by rw [HL2.out]; exact hlm)⟩
        obtain ⟨b2, o2, rfl, hb2, hc2⟩ := HS.out.2 k _ (map_at hy)
        have HT := Lib.hid (cmpL_at hx hy)
        have CI := Lib.hid (cmpI_any (x : Int) (y : Int) w)
        have CE : ∃ v, cmpI (x : Int) (y : Int) = v := ⟨_, rfl⟩
        obtain ⟨v, hv⟩ := CE
        rw [hv] at CI
        have HV := Lib.hid hv
        clear hx hy hv
        by_cases h0 : v = 0
        · have hxy : cmpL (xs.drop k) (ys.drop k) = cmpL (xs.drop (k + 1)) (ys.drop (k + 1)) := by
            have h := HV.out
            rw [h0] at h
            unfold cmpI at h
            rw [HT.out]
            split at h
            · omega
            · split at h
              · omega
              · rw [if_neg (by omega), if_neg (by omega)]
          have HX := Lib.hid hxy
          clear hxy
          subst h0
          go_wp2_with (go_at_call 93; refine CI.out.mono ?_; rintro e w' ⟨rfl, rfl⟩)
          go_round
          case rel => exact ⟨k + 1, by omega, by omega, by go_num, by rw [← HX.out, HN.out]⟩
          case measure => simp [intOf]; omega
        · have hxy : cmpL xs ys = v := by
            have h := HV.out
            unfold cmpI at h
            rw [← HN.out, HT.out, ← h]
            rcases Nat.lt_trichotomy x y with h1 | h1 | h1
            · rw [if_pos h1, if_pos (by omega)]
            · rw [if_neg (by omega), if_neg (by omega)] at h
              exact absurd h.symm h0
            · rw [if_neg (by omega), if_pos h1, if_neg (by omega), if_pos (by omega)]
          have HX := Lib.hid hxy
          have d0 : (v != 0) = true := by rw [bne_iff_ne]; exact h0
          clear hxy h0
          go_wp2_with (go_at_call 93; refine CI.out.mono ?_; rintro e w' ⟨rfl, rfl⟩)
          go_ret
          exact ⟨by rw [HX.out]; rfl, rfl⟩
      · have hxy : cmpL xs ys = 1 := by rw [← HN.out]; exact cmpL_right hx (by rw [HL2.out]; omega)
        have HX := Lib.hid hxy
        obtain rfl : k = m := by omega
        clear hx hxy
        go_wp2_with fail
        go_ret
        exact ⟨by rw [HX.out]; rfl, rfl⟩
    · obtain rfl : k = n := by omega
      have hxy : cmpL xs ys = if k < m then -1 else 0 := by rw [← HN.out, cmpL_left (by rw [HL.out]; exact Nat.le_refl _), HL2.out]
      have HX := Lib.hid hxy
      clear hxy
      by_cases hlm : k < m
      · rw [if_pos hlm] at HX
        go_wp2_with fail
        go_ret
        exact ⟨by rw [HX.out]; rfl, rfl⟩
      · rw [if_neg hlm] at HX
        obtain rfl : k = m := by omega
        go_wp2_with fail
        go_ret
        exact ⟨by rw [HX.out]; rfl, rfl⟩
end Go.Proofs.YtpkbpeeelpgmcaaGreat

namespace Go.Proofs.YtpkbpeeelpgmcaaGreat
open Go.RowKit Go.Kq

set_option maxHeartbeats 1000000 in
theorem index_cvs {gc : Nat} (A : Option Addr) (n cap : Nat) (vs : List Cv) (p : Cv → Bool) (w : World) (h : Rd Cv.cells 2 w A n vs) (hn : n ≤ 100000000) (hf : ∀ v w', v ∈ vs → Kp No w w' → Calls Tryz.prog 40 #[Cv.val v, .pointer (some ⟨gc, 0, none⟩)] w' fun e w'' => e = .returned (.bool (p v)) ∧ Kp No w' w'') :
    Calls Tryz.prog 68 #[.slice A n cap, .func (.func 40) #[] #[.pointer (some ⟨gc, 0, none⟩)]] w fun e w' => e = .returned (.int .i64 (ixI p vs)) ∧ Kp No w w' := by
  have HF := Lib.hid hf
  clear hf
  go_enter Tryz.func68, Tryz.ntmps68
  go_wp2_with fail
  go_loopw [8] (fun i wr => ∃ k : Nat, k ≤ n ∧ i = .int .i64 k ∧ (vs.take k).any p = false ∧ Kp No w wr) (fun i _ => n - (intOf i).toNat)
  case atStart => exact ⟨0, by omega, rfl, by simp, Kp.refl _ _⟩
  case round =>
    obtain ⟨k, hk, rfl, hno, hkp⟩ := hrel
    by_cases hlt : k < n
    · obtain ⟨v, hv⟩ : ∃ v, vs[k]? = some v := ⟨_, List.getElem?_eq_getElem (by rw [h.1]; exact hlt)⟩
      obtain ⟨b, o, rfl, hb, hc⟩ := h.2 k v hv
      have c0 := hkp.cell (hc 0 _ rfl) (fun h => h)
      have c1 := hkp.cell (hc 1 _ rfl) (fun h => h)
      simp only [Nat.add_zero] at c0
      have Ht := Lib.hid (any_take_one p vs k v hv)
      have Hno := Lib.hid hno
      have Hv := Lib.hid hv
      have HC := Lib.hid (HF.out v _ (List.mem_of_getElem? hv) hkp)
      have HK := Lib.hid hkp
      clear hno hv hc hkp
      cases hbad : p v
      · rw [hbad] at HC
        have HB := Lib.hid hbad
        clear hbad
        simp only [Cv.val] at HC
        go_wp2_with (go_at_call 40; refine HC.out.mono ?_; rintro e w' ⟨rfl, hkp'⟩)
        go_roundw
        case rel => exact ⟨k + 1, by omega, by go_num, by rw [Ht.out, Hno.out, HB.out]; rfl, HK.out.tr hkp'⟩
        case measure => simp [intOf]; omega
      · rw [hbad] at HC
        have HB := Lib.hid hbad
        clear hbad
        simp only [Cv.val] at HC
        go_wp2_with (go_at_call 40; refine HC.out.mono ?_; rintro e w' ⟨rfl, hkp'⟩)
        go_ret
        exact ⟨by rw [ixI_at Hno.out Hv.out HB.out]; rfl, HK.out.tr hkp'⟩
    · have HK := Lib.hid hkp
      have Hno := Lib.hid hno
      clear hkp hno
      go_wp2
      go_ret
      refine ⟨?_, HK.out⟩
      have hno := Hno.out
      rw [List.take_of_length_le (by rw [h.1]; omega)] at hno
      rw [ixI_none hno]
      rfl
set_option maxHeartbeats 1000000 in
theorem contains_cvs {gc : Nat} (A : Option Addr) (n cap : Nat) (vs : List Cv) (p : Cv → Bool) (w : World) (h : Rd Cv.cells 2 w A n vs) (hn : n ≤ 100000000) (hf : ∀ v w', v ∈ vs → Kp No w w' → Calls Tryz.prog 40 #[Cv.val v, .pointer (some ⟨gc, 0, none⟩)] w' fun e w'' => e = .returned (.bool (p v)) ∧ Kp No w' w'') :
    Calls Tryz.prog 39 #[.slice A n cap, .func (.func 40) #[] #[.pointer (some ⟨gc, 0, none⟩)]] w fun e w' => e = .returned (.bool (vs.any p)) ∧ Kp No w w' := by
  have HI := Lib.hid (index_cvs A n cap vs p w h hn hf)
  have HA := Lib.hid (ixI_any p vs)
  clear hf
  generalize ixI p vs = i at HI HA
  go_enter Tryz.func39, Tryz.ntmps39
  go_wp2_with (go_at_call 68; refine HI.out.mono ?_; rintro e w' ⟨rfl, hkp⟩)
  go_ret
  exact ⟨by first | rfl | exact ret_bool HA.out, hkp⟩
end Go.Proofs.YtpkbpeeelpgmcaaGreat

namespace Go.Proofs.YtpkbpeeelpgmcaaGreat
open Go.RowKit Go.Kq Go.Flow

theorem own_none {w : World} {base e size n c k : Nat} {xs : List Value} (h : w.ownsRow base e size (.slice none n c) k xs) : n = 0 ∧ c = 0 := by
  rcases h.2 with ⟨h0, _⟩ | ⟨g, cap, cur, hv, _⟩
  · cases h0
    exact ⟨rfl, rfl⟩
  · cases hv
theorem grow_two (w : World) (o o' : Obj) : ∃ q os, ((w.alloc o).alloc o') = Sort.grow (w.drewN q) os := ⟨0, _, by rw [Sort.alloc_eq_grow, Sort.alloc_eq_grow, Sort.grow_grow]; rfl⟩
set_option maxHeartbeats 4000000 in
set_option maxRecDepth 100000 in
theorem compare_any (a b : Cv) (w : World) (ha : CvIs w a) (hb : CvIs w b) (h1 : a.p ≤ 100000) (h2 : a.q ≤ 100000) (h3 : b.p ≤ 100000) (h4 : b.q ≤ 100000) :
    Calls Tryz.prog 38 #[a.val, b.val] w fun e w' => e = .returned (.int .i64 (cmpC a.c b.c)) ∧ ∃ q os, w' = Sort.grow (w.drewN q) os := by
  obtain ⟨P, p, cp, Q, q, cq, ⟨xs, xk⟩⟩ := a
  obtain ⟨P', p', cp', Q', q', cq', ⟨ys, yk⟩⟩ := b
  simp only [Cv.val, CvIs] at *
  have l1 : xs.length = p := by have := ha.1.1; simpa using this
  have l2 : xk.length = q := by have := ha.2.1; simpa using this
  have l3 : ys.length = p' := by have := hb.1.1; simpa using this
  have l4 : yk.length = q' := by have := hb.2.1; simpa using this
  have HC := Lib.hid (show cmpC ⟨xs, xk⟩ ⟨ys, yk⟩ = if (p : Int) + q - p' - q' ≠ 0 then (p : Int) + q - p' - q' else if cmpL xs ys ≠ 0 then cmpL xs ys else cmpL xk yk by rw [← l1, ← l2, ← l3, ← l4]; rfl)
  have HG := Lib.hid (grow_two w (.cells #[.slice P p cp, .slice Q q cq] 30) (.cells #[.slice P' p' cp', .slice Q' q' cq'] 30))
  obtain ⟨w1, hw1⟩ : ∃ w1, (w.alloc (.cells #[.slice P p cp, .slice Q q cq] 30)).alloc (.cells #[.slice P' p' cp', .slice Q' q' cq'] 30) = w1 := ⟨_, rfl⟩
  have k1 : Kp No w w1 := by rw [← hw1]; exact (Kp.alloc _ _ _).tr (Kp.alloc _ _ _)
  have hx : w1.heap[w.heap.size]? = some (.cells #[.slice P p cp, .slice Q q cq] 30 (0, 0)) := by rw [← hw1]; exact (Kp.alloc No _ _).heap (heap_alloc_new w _) id
  have hy : w1.heap[w.heap.size + 1]? = some (.cells #[.slice P' p' cp', .slice Q' q' cq'] 30 (0, 0)) := by
    rw [← hw1]
    have := heap_alloc_new (w.alloc (.cells #[.slice P p cp, .slice Q q cq] 30)) (.cells #[.slice P' p' cp', .slice Q' q' cq'] 30)
    simpa using this
  obtain ⟨x0, x1, _, _⟩ := cell_head hx
  obtain ⟨y0, y1, _, _⟩ := cell_head hy
  have CS := Lib.hid (lcmp_any P P' p cp p' cp' xs ys w1 (ha.1.no k1) (hb.1.no k1) h1 h3)
  have CK := Lib.hid (lcmp_any Q Q' q cq q' cq' xk yk w1 (ha.2.no k1) (hb.2.no k1) h2 h4)
  rw [hw1] at HG
  clear k1 hx hy ha hb l1 l2 l3 l4
  go_enter Tryz.func38, Tryz.ntmps38
  by_cases hn : (p : Int) + q - p' - q' = 0
  rotate_left
  · have d0 : ((p : Int) + q - p' - q' != 0) = true := by rw [bne_iff_ne]; exact hn
    have HE := Lib.hid (show cmpC ⟨xs, xk⟩ ⟨ys, yk⟩ = (p : Int) + q - p' - q' by rw [HC.out, if_pos hn])
    clear hn
    go_wp2_with fail
    go_ret
    exact ⟨by rw [HE.out]; rfl, HG.out⟩
  · have HE := Lib.hid (show cmpC ⟨xs, xk⟩ ⟨ys, yk⟩ = if cmpL xs ys ≠ 0 then cmpL xs ys else cmpL xk yk by rw [HC.out, if_neg (fun h => h hn)])
    have d0 : ((p : Int) + q - p' - q' != 0) = false := by rw [bne_eq_false_iff_eq]; exact hn
    clear hn
    by_cases hm : cmpL xs ys = 0
    rotate_left
    · have HF := Lib.hid (show cmpC ⟨xs, xk⟩ ⟨ys, yk⟩ = cmpL xs ys by rw [HE.out, if_pos hm])
      generalize cmpL xs ys = v at *
      have d1 : (v != 0) = true := by rw [bne_iff_ne]; exact hm
      clear hm
      go_wp2_with fail
      with_reducible refine CS.out.mono ?_
      rintro e w2 ⟨rfl, rfl⟩
      go_wp2_with fail
      go_ret
      exact ⟨by rw [HF.out]; rfl, HG.out⟩
    · have HF := Lib.hid (show cmpC ⟨xs, xk⟩ ⟨ys, yk⟩ = cmpL xk yk by rw [HE.out, if_neg (fun h => h hm)])
      rw [hm] at CS
      clear hm
      go_wp2_with fail
      with_reducible refine CS.out.mono ?_
      rintro e w2 ⟨rfl, rfl⟩
      go_wp2_with fail
      with_reducible refine CK.out.mono ?_
      rintro e w3 ⟨rfl, rfl⟩
      go_wp2_with fail
      go_ret
      exact ⟨by rw [HF.out]; rfl, HG.out⟩
/-! ### the search's test -/
set_option maxHeartbeats 4000000 in
set_option maxRecDepth 100000 in
theorem test_any (gc : Nat) (v y : Cv) (w : World) (hv : CvIs w v) (hy : CvIs w y) (hb : w.heap[gc]? = some (.cells y.cells.toArray 30 (0, 0))) (h1 : v.p ≤ 100000) (h2 : v.q ≤ 100000) (h3 : y.p ≤ 100000) (h4 : y.q ≤ 100000) (u1 : y.c.st.Pairwise (· < ·)) (u2 : y.c.ky.Pairwise (· < ·)) :
    Calls Tryz.prog 40 #[v.val, .pointer (some ⟨gc, 0, none⟩)] w fun e w' => e = .returned (.bool (v.c.inB y.c)) ∧ Kp No w w' := by
  obtain ⟨P, p, cp, Q, q, cq, ⟨xs, xk⟩⟩ := v
  obtain ⟨P', p', cp', Q', q', cq', ⟨ys, yk⟩⟩ := y
  simp only [Cv.val, CvIs, Cv.cells] at *
  have HE := Lib.hid (show Cb.inB ⟨xs, xk⟩ ⟨ys, yk⟩ = (inL xs ys && inL xk yk) from rfl)
  obtain ⟨w1, hw1⟩ : ∃ w1, w.alloc (.cells #[.slice P p cp, .slice Q q cq] 30) = w1 := ⟨_, rfl⟩
  have k1 : Kp No w w1 := by rw [← hw1]; exact Kp.alloc _ _ _
  have hx : w1.heap[w.heap.size]? = some (.cells #[.slice P p cp, .slice Q q cq] 30 (0, 0)) := by rw [← hw1]; exact heap_alloc_new w _
  have HX := Lib.hid hx
  have HY := Lib.hid (k1.heap hb id)
  obtain ⟨x0, x1, _, _⟩ := cell_head hx
  obtain ⟨y0, y1, _, _⟩ := cell_head HY.out
  have WS := Lib.hid (fun W (k : Kp No w1 W) => within_any P P' p cp p' cp' xs ys W ((hv.1.no k1).no k) ((hy.1.no k1).no k) h1 h3 u1)
  have WK := Lib.hid (fun W (k : Kp No w1 W) => within_any Q Q' q cq q' cq' xk yk W ((hv.2.no k1).no k) ((hy.2.no k1).no k) h2 h4 u2)
  have K1 := Lib.hid k1
  clear k1 hx hv hy hb u1 u2
  go_enter Tryz.func40, Tryz.ntmps40
  cases hq : inL xs ys with
  | false =>
    rw [hq] at HE WS
    have S0 := Lib.hid (WS.out _ (Kp.refl No w1))
    clear hq
    go_wp2_with fail
    with_reducible refine S0.out.mono ?_
    rintro e w2 ⟨rfl, k2⟩
    go_wp2_with fail
    go_ret
    exact ⟨by rw [HE.out]; rfl, K1.out.tr k2⟩
  | true =>
    rw [hq] at HE WS
    have S0 := Lib.hid (WS.out _ (Kp.refl No w1))
    clear hq
    go_wp2_with fail
    with_reducible refine S0.out.mono ?_
    rintro e w2 ⟨rfl, k2⟩
    have K2 := Lib.hid (WK.out _ k2)
    have KK := Lib.hid (K1.out.tr k2)
    have HX2 := k2.heap HX.out id
    have HY2 := k2.heap HY.out id
    clear x0 x1 y0 y1 k2
    obtain ⟨x0, x1, _, _⟩ := cell_head HX2
    obtain ⟨y0, y1, _, _⟩ := cell_head HY2
    clear HX2 HY2
    go_wp2_with fail
    with_reducible refine K2.out.mono ?_
    rintro e w3 ⟨rfl, k3⟩
    go_wp2_with fail
    go_ret
    exact ⟨by rw [HE.out]; rfl, KK.out.tr k3⟩
/-! ### Clone -/
set_option maxHeartbeats 1000000 in
theorem clone_any (A : Option Addr) (n ca : Nat) (l : List Int) (w : World) (h : RdI .i64 w A n l) (hn : n ≤ 100000) (hA : A = none → n = 0 ∧ ca = 0) :
    Calls Tryz.prog 42 #[.slice A n ca] w fun e w' => ∃ D d, e = .returned (.slice D n d) ∧ OwI w' w.heap.size (.slice D n d) l ∧ (D = none → n = 0 ∧ d = 0) ∧ Kp No w w' := by
  obtain ⟨i0, hi0, hz0, hz1, hz2⟩ := info_parts infoI0
  have hl := h.1
  have qT : ∀ (w : World) (a : Option Addr) (n c n' c' : Nat), (binOp .eql 23 (.slice a n c) (.slice none n' c')).run Tryz.prog w = .ok (.bool a.isNone) w := fun w a n c n' c' => Lib.run_eql_slice_nil w _ _ a n c n' c' Tryz.underlying23
  cases A with
  | none =>
    obtain ⟨rfl, rfl⟩ := hA rfl
    have hl0 := List.length_eq_zero_iff.1 hl
    subst hl0
    clear hl h
    go_enter Tryz.func42, Tryz.ntmps42
    go_wp2
    go_ret
    exact ⟨none, 0, rfl, ⟨rfl, .inl ⟨rfl, rfl⟩⟩, by simp, Kp.refl _ _⟩
  | some ad =>
    have hy := h.no (Kp.alloc No w (.cells #[] 3))
    have HL := Lib.hid hl
    go_enter Tryz.func42, Tryz.ntmps42
    go_wp2_with (at_builtin; refine stop_in ?_)
    refine stop_out ?_
    refine push_all rfl _ _ rfl w.heap.size (some ⟨w.heap.size, 0, none⟩) (some ad) 0 0 n ca [] l rfl rfl rfl HL.out (own_empty (Nat.le_refl _)) (fun h => by cases h) hy (by omega) (by omega) (Kp.alloc No w _) (Nat.le_refl _) (by simp) ?_
    intro D d w' hown hk
    rw [Nat.zero_add]
    go_wp2_with fail
    go_ret
    rw [Nat.zero_add, List.nil_append] at hown
    exact ⟨D, d, rfl, hown, fun e => by subst e; exact own_none hown, hk⟩
end Go.Proofs.YtpkbpeeelpgmcaaGreat
