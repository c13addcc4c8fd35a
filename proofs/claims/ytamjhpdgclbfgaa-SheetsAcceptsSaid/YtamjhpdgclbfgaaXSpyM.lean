/- Chapter 09: slices.SortFunc of at most 12 indices by the order of cuts: the walk. · Chapter 09: slices.IndexFunc at Quick's closures, whose contracts speak of the row's own elements. Printed by gen_cf.py. · Chapter 09: the closures of Quick. · spans: Pi. Printed by gen_spy.py. -/
import Derived.Shelf.SlSortCmp.Xorshift
import Derived.Test.YtamjhpdgclbfgaaXSpsM
import Derived.Test.YtamjhpdgclbfgaaXLibHvM
import Derived.Test.YtamjhpdgclbfgaaXLibBitM
namespace Go.Proofs.Ytamjhpdgclbfgaa
open Go.RowKit Go.Kq Go.Sort Go.Shelf

set_option maxHeartbeats 4000000 in
set_option maxRecDepth 100000 in
theorem pdq_any (P : Pt) (A : Option Addr) (n ca : Nat) (l : List Ct) (g cap m base : Nat) (d : List Nat) (lim : Int) (w : World) (hx : RdC w A n l) (hA : ∀ b o, A = some ⟨b, o, none⟩ → b < base) (ho : w.ownsRow base 3 1 (.slice (some ⟨g, 0, none⟩) m cap) m (d.map natI)) (hm : m ≤ 12) (hd : ∀ v ∈ d, v < n) :
    Calls Try.prog 64 #[.slice (some ⟨g, 0, none⟩) m cap, .int .i64 0, .int .i64 (m : Nat), .int .i64 lim, befV P A n ca] w fun e w' => e = .returned (.tuple #[]) ∧ w'.ownsRow base 3 1 (.slice (some ⟨g, 0, none⟩) m cap) m ((insAt (befF l) d (m - 1)).map natI) ∧ Kp (One g) w w' := by
  have HI := Lib.hid (ins_any P A n ca l g cap m base d w hx hA ho hm hd)
  simp only [befV, jobV] at HI ⊢
  have hm2 : (m : Int) ≤ 12 := by omega
  clear hx hA ho hd
  go_enter Try.func64, Try.ntmps64
  go_wp2_with fail
  refine wp_loop_rounds 1 ?_
  rw [rounds_succ]
  go_wp2_with fail
  with_reducible refine HI.out.mono ?_
  rintro e w' ⟨rfl, h1, h2⟩
  have H1 := Lib.hid h1
  have H2 := Lib.hid h2
  clear h1 h2 HI
  go_wp2_with fail
  (try simp only [Exit.inBlock, Exit.then])
  refine bodyPost_ret (results_none rfl _ _ _) rfl ?_
  exact ⟨rfl, H1.out, H2.out⟩
theorem blen_any (m : Nat) (hm : m ≤ 1000) (w : World) : Calls Try.prog 65 #[.int .u64 (m : Int)] w fun e w' => e = .returned (.int .i64 (Lib.bitLen m : Nat)) ∧ w' = w := by
  have h := Any.bits_Len (SlLaysF0.n15.bits (P := Try.prog) (ρ := sortFI_ren) { sortFI with }) (m : Int) w (by omega) (by omega)
  rwa [Int.toNat_natCast] at h
set_option maxHeartbeats 4000000 in
set_option maxRecDepth 100000 in
theorem sort_any (P : Pt) (A : Option Addr) (n ca : Nat) (l : List Ct) (g cap m base : Nat) (d : List Nat) (w : World) (hx : RdC w A n l) (hA : ∀ b o, A = some ⟨b, o, none⟩ → b < base) (ho : w.ownsRow base 3 1 (.slice (some ⟨g, 0, none⟩) m cap) m (d.map natI)) (hm : m ≤ 12) (hd : ∀ v ∈ d, v < n) :
    Calls Try.prog 36 #[.slice (some ⟨g, 0, none⟩) m cap, befV P A n ca] w fun e w' => e = .returned (.tuple #[]) ∧ w'.ownsRow base 3 1 (.slice (some ⟨g, 0, none⟩) m cap) m ((insAt (befF l) d (m - 1)).map natI) ∧ Kp (One g) w w' := by
  have HI := Lib.hid (fun lim => pdq_any P A n ca l g cap m base d lim w hx hA ho hm hd)
  have HL := Lib.hid (blen_any m (by omega) w)
  have hw : IntKind.u64.wrap (m : Int) = m := by simp [IntKind.wrap, IntKind.bits, IntKind.signed]; omega
  simp only [befV, jobV] at HI ⊢
  clear hx hA ho hd
  go_enter Try.func36, Try.ntmps36
  go_wp2_with fail
  with_reducible refine HL.out.mono ?_
  rintro e w1 ⟨rfl, h⟩
  subst h
  go_wp2_with fail
  with_reducible refine (HI.out _).mono ?_
  rintro e w2 ⟨rfl, h1, h2⟩
  have H1 := Lib.hid h1
  have H2 := Lib.hid h2
  clear h1 h2 HI HL
  go_wp2_with fail
  go_end0
  exact ⟨rfl, H1.out, H2.out⟩
end Go.Proofs.Ytamjhpdgclbfgaa

namespace Go.Proofs.Ytamjhpdgclbfgaa
open Go.RowKit Go.Kq

set_option maxHeartbeats 1000000 in
theorem index_roomM {cv cu : Value} (A : Option Addr) (n cap : Nat) (vs : List Spo) (p : Spo → Bool) (w : World) (h : Rd Spo.cells 4 w A n vs) (hn : n ≤ 100000000) (hf : ∀ v w', v ∈ vs → Kp No w w' → Calls Try.prog 38 #[Spo.val v, cv, cu] w' fun e w'' => e = .returned (.bool (p v)) ∧ Kp No w' w'') :
    Calls Try.prog 39 #[.slice A n cap, .func (.func 38) #[] #[cv, cu]] w fun e w' => e = .returned (.int .i64 (ixI p vs)) ∧ Kp No w w' := by
  have HF := Lib.hid hf
  clear hf
  go_enter Try.func39, Try.ntmps39
  go_wp2_with fail
  go_loopw [8] (fun i wr => ∃ k : Nat, k ≤ n ∧ i = .int .i64 k ∧ (vs.take k).any p = false ∧ Kp No w wr) (fun i _ => n - (intOf i).toNat)
  case atStart => exact ⟨0, by omega, rfl, by simp, Kp.refl _ _⟩
  case round =>
    obtain ⟨k, hk, rfl, hno, hkp⟩ := hrel
    by_cases hlt : k < n
    · obtain ⟨v, hv⟩ : ∃ v, vs[k]? = some v := ⟨_, List.getElem?_eq_getElem (by rw [h.1]; exact hlt)⟩
      obtain ⟨b, o, rfl, hb, hc⟩ := h.2 k v hv
      have c0 := hkp.cell (hc 0 _ rfl) (fun h => h)
      have c1 := hkp.cell (hc 1 _ rfl) (fun h => h)
      have c2 := hkp.cell (hc 2 _ rfl) (fun h => h)
      have c3 := hkp.cell (hc 3 _ rfl) (fun h => h)
      simp only [Nat.add_zero] at c0
      have Ht := Lib.hid (any_take_succ p vs k v hv)
      have Hno := Lib.hid hno
      have Hv := Lib.hid hv
      have HC := Lib.hid (HF.out v _ (List.mem_of_getElem? hv) hkp)
      have HK := Lib.hid hkp
      clear hno hv hc hkp
      cases hbad : p v
      · rw [hbad] at HC
        have HB := Lib.hid hbad
        clear hbad
        simp only [Spo.val] at HC
        go_wp2_with (go_at_call 38; refine HC.out.mono ?_; rintro e w' ⟨rfl, hkp'⟩)
        go_roundw
        case rel => exact ⟨k + 1, by omega, by go_num, by rw [Ht.out, Hno.out, HB.out]; rfl, HK.out.tr hkp'⟩
        case measure => simp [intOf]; omega
      · rw [hbad] at HC
        have HB := Lib.hid hbad
        clear hbad
        simp only [Spo.val] at HC
        go_wp2_with (go_at_call 38; refine HC.out.mono ?_; rintro e w' ⟨rfl, hkp'⟩)
        go_ret
        exact ⟨by rw [ixI_at Hno.out Hv.out HB.out]; rfl, HK.out.tr hkp'⟩
    · have HK := Lib.hid hkp
      have Hno := Lib.hid hno
      clear hkp hno
      go_wp2
      go_ret
      refine ⟨?_, HK.out⟩
      have hno := Hno.out
      rw [List.take_of_length_le (by rw [h.1]; omega)] at hno
      rw [ixI_none hno]
      rfl
set_option maxHeartbeats 1000000 in
theorem index_topM {cv cu : Value} (A : Option Addr) (n cap : Nat) (vs : List Int) (p : Int → Bool) (w : World) (h : RdI .i64 w A n vs) (hn : n ≤ 100000000) (hf : ∀ v w', v ∈ vs → Kp No w w' → Calls Try.prog 41 #[i64V v, cv, cu] w' fun e w'' => e = .returned (.bool (p v)) ∧ Kp No w' w'') :
    Calls Try.prog 40 #[.slice A n cap, .func (.func 41) #[] #[cv, cu]] w fun e w' => e = .returned (.int .i64 (ixI p vs)) ∧ Kp No w w' := by
  have HF := Lib.hid hf
  clear hf
  go_enter Try.func40, Try.ntmps40
  go_wp2_with fail
  go_loopw [8] (fun i wr => ∃ k : Nat, k ≤ n ∧ i = .int .i64 k ∧ (vs.take k).any p = false ∧ Kp No w wr) (fun i _ => n - (intOf i).toNat)
  case atStart => exact ⟨0, by omega, rfl, by simp, Kp.refl _ _⟩
  case round =>
    obtain ⟨k, hk, rfl, hno, hkp⟩ := hrel
    by_cases hlt : k < n
    · obtain ⟨v, hv⟩ : ∃ v, vs[k]? = some v := ⟨_, List.getElem?_eq_getElem (by rw [h.1]; exact hlt)⟩
      obtain ⟨b, o, rfl, hb, hc⟩ := h.2 k v hv
      have c0 := hkp.cell hc (fun h => h)
      have Ht := Lib.hid (any_take_succ p vs k v hv)
      have Hno := Lib.hid hno
      have Hv := Lib.hid hv
      have HC := Lib.hid (HF.out v _ (List.mem_of_getElem? hv) hkp)
      have HK := Lib.hid hkp
      clear hno hv hc hkp
      cases hbad : p v
      · rw [hbad] at HC
        have HB := Lib.hid hbad
        clear hbad
        simp only [i64V] at HC
        go_wp2_with (go_at_call 41; refine HC.out.mono ?_; rintro e w' ⟨rfl, hkp'⟩)
        go_roundw
        case rel => exact ⟨k + 1, by omega, by go_num, by rw [Ht.out, Hno.out, HB.out]; rfl, HK.out.tr hkp'⟩
        case measure => simp [intOf]; omega
      · rw [hbad] at HC
        have HB := Lib.hid hbad
        clear hbad
        simp only [i64V] at HC
        go_wp2_with (go_at_call 41; refine HC.out.mono ?_; rintro e w' ⟨rfl, hkp'⟩)
        go_ret
        exact ⟨by rw [ixI_at Hno.out Hv.out HB.out]; rfl, HK.out.tr hkp'⟩
    · have HK := Lib.hid hkp
      have Hno := Lib.hid hno
      clear hkp hno
      go_wp2
      go_ret
      refine ⟨?_, HK.out⟩
      have hno := Hno.out
      rw [List.take_of_length_le (by rw [h.1]; omega)] at hno
      rw [ixI_none hno]
      rfl
end Go.Proofs.Ytamjhpdgclbfgaa

namespace Go.Proofs.Ytamjhpdgclbfgaa
open Go.RowKit Go.Kq

def roomB (P : Pt) (c : Ct) (s : Spo) : Bool := decide (s.x + c.w ≤ P.w)
def topB (P : Pt) (c : Ct) (y : Int) : Bool := decide (y + c.h ≤ P.h)
set_option maxHeartbeats 2000000 in
theorem room_any (P : Pt) (c : Ct) (s : Spo) (gc gp : Nat) (w : World) (hc : w.heap[gc]? = some (.cells #[.int .i64 c.w, .int .i64 c.h] 35 (0, 0))) (hp : w.heap[gp]? = some (.cells #[.int .i64 P.w, .int .i64 P.h, .int .i64 P.k] 23 (0, 0))) (h1 : 0 ≤ s.x ∧ s.x ≤ 1000000000) (h2 : 0 ≤ c.w ∧ c.w ≤ 1000000000) :
    Calls Try.prog 38 #[s.val, .pointer (some ⟨gc, 0, none⟩), .pointer (some ⟨gp, 0, none⟩)] w fun e w' => e = .returned (.bool (roomB P c s)) ∧ Kp No w w' := by
  have g1 : gc < w.heap.size := (Array.getElem?_eq_some_iff.1 hc).1
  have g2 : gp < w.heap.size := (Array.getElem?_eq_some_iff.1 hp).1
  have b0 : w.cell? ⟨gc, 0, none⟩ = some (.int .i64 c.w) := by rw [cell_of_row _ _ _ _ _ _ hc]; rfl
  have d0 : w.cell? ⟨gp, 0, none⟩ = some (.int .i64 P.w) := by rw [cell_of_row _ _ _ _ _ _ hp]; rfl
  clear hc hp
  unfold roomB Spo.val
  have hk0 : Kp No w (w.alloc (.cells #[.int .i64 s.p, .int .i64 s.s, .int .i64 s.x, .int .i64 s.y] 52)) := Kp.alloc _ _ _
  go_enter Try.func38, Try.ntmps38
  go_wp2_with fail
  go_ret
  exact ⟨rfl, hk0⟩
set_option maxHeartbeats 2000000 in
theorem top_any (P : Pt) (c : Ct) (y : Int) (gc gp : Nat) (w : World) (hc : w.heap[gc]? = some (.cells #[.int .i64 c.w, .int .i64 c.h] 35 (0, 0))) (hp : w.heap[gp]? = some (.cells #[.int .i64 P.w, .int .i64 P.h, .int .i64 P.k] 23 (0, 0))) (h1 : 0 ≤ y ∧ y ≤ 1000000000) (h2 : 0 ≤ c.h ∧ c.h ≤ 1000000000) :
    Calls Try.prog 41 #[.int .i64 y, .pointer (some ⟨gc, 0, none⟩), .pointer (some ⟨gp, 0, none⟩)] w fun e w' => e = .returned (.bool (topB P c y)) ∧ Kp No w w' := by
  have b1 : w.cell? ⟨gc, 1, none⟩ = some (.int .i64 c.h) := by rw [cell_of_row _ _ _ _ _ _ hc]; rfl
  have d1 : w.cell? ⟨gp, 1, none⟩ = some (.int .i64 P.h) := by rw [cell_of_row _ _ _ _ _ _ hp]; rfl
  clear hc hp
  unfold topB
  go_enter Try.func41, Try.ntmps41
  go_wp2_with fail
  go_ret
  exact ⟨rfl, Kp.refl _ _⟩
end Go.Proofs.Ytamjhpdgclbfgaa

namespace Go.Proofs.Ytamjhpdgclbfgaa
open Go.RowKit Go.Kq

theorem span_four (den : Nat) (x y z t : Int) (g : Nat) (w : World) (hd : 0 < den) (hd2 : den < 18446744073709551616) (h0 : w.cell? ⟨g, 0, none⟩ = some (.bool (lgP x).1) ∧ w.cell? ⟨g, 1, none⟩ = some (.int .u64 (lgP x).2.1) ∧ w.cell? ⟨g, 2, none⟩ = some (.int .u64 (lgP x).2.2)) (h1 : w.cell? ⟨g, 3, none⟩ = some (.bool (lgP y).1) ∧ w.cell? ⟨g, 4, none⟩ = some (.int .u64 (lgP y).2.1) ∧ w.cell? ⟨g, 5, none⟩ = some (.int .u64 (lgP y).2.2)) (h2 : w.cell? ⟨g, 6, none⟩ = some (.bool (lgP z).1) ∧ w.cell? ⟨g, 7, none⟩ = some (.int .u64 (lgP z).2.1) ∧ w.cell? ⟨g, 8, none⟩ = some (.int .u64 (lgP z).2.2)) (h3 : w.cell? ⟨g, 9, none⟩ = some (.bool (lgP t).1) ∧ w.cell? ⟨g, 10, none⟩ = some (.int .u64 (lgP t).2.1) ∧ w.cell? ⟨g, 11, none⟩ = some (.int .u64 (lgP t).2.2)) :
    Calls Try.prog 71 #[.int .u64 (den : Nat), .slice (some ⟨g, 0, none⟩) 4 4] w fun e w' => e = .returned (ieV (spanV den x [y, z, t])) ∧ Kp No w w' := by
  refine span_any den x [y, z, t] g 0 3 4 w hd hd2 rfl (by omega) (by omega) (by omega) (by omega) ?_
  intro k v hx
  match k, hx with
  | 0, hx => simp at hx; subst hx; exact ⟨h0.1, h0.2.1, h0.2.2⟩
  | 1, hx => simp at hx; subst hx; exact ⟨h1.1, h1.2.1, h1.2.2⟩
  | 2, hx => simp at hx; subst hx; exact ⟨h2.1, h2.2.1, h2.2.2⟩
  | 3, hx => simp at hx; subst hx; exact ⟨h3.1, h3.2.1, h3.2.2⟩
  | k + 4, hx => simp at hx
theorem setTwo {w : World} {B : Nat} {a b : Value} {t : TypeId} (x y : Value) (h : w.heap[B]? = some (.cells #[a, b] t (0, 0))) : ((w.setCell ⟨B, 0, none⟩ x).setCell ⟨B, 1, none⟩ y).heap[B]? = some (.cells #[x, y] t (0, 0)) := by
  simp [World.setCell, Array.getElem?_modify, h]
theorem kpTwo (w : World) (g : Nat) (x y : Value) : Kp (Kq.One g) w ((w.setCell ⟨g, 0, none⟩ x).setCell ⟨g, 1, none⟩ y) := (Kp.setCell (Kq.One g) w ⟨g, 0, none⟩ x (fun _ => rfl)).tr (Kp.setCell (Kq.One g) _ ⟨g, 1, none⟩ y (fun _ => rfl))
/-- A new row of four products. -/
def New4 (base : Nat) (w : World) (u : Value) (cs : Array Value) : Prop := ∃ g, u = .slice (some ⟨g, 0, none⟩) 4 4 ∧ base ≤ g ∧ w.heap[g]? = some (.cells cs 117 (0, 0))
theorem New4.no {base : Nat} {w w' : World} {u : Value} {cs : Array Value} (h : New4 base w u cs) (k : Kp No w w') : New4 base w' u cs := by
  obtain ⟨g, rfl, h1, h2⟩ := h
  exact ⟨g, rfl, h1, k.heap h2 id⟩
theorem New4.kpS {B : Nat} {w w' : World} {u : Value} {cs : Array Value} (h : New4 (B + 1) w u cs) (k : Kp (Kq.One B) w w') : New4 (B + 1) w' u cs := by
  obtain ⟨g, rfl, h1, h2⟩ := h
  exact ⟨g, rfl, h1, k.heap h2 (fun e => by unfold Kq.One at e; omega)⟩
theorem New4.made {base : Nat} (w : World) (cs : Array Value) (h : base ≤ w.heap.size) : New4 base (w.alloc (.cells cs 117)) (.slice (some ⟨w.heap.size, 0, none⟩) 4 4) cs :=
  ⟨_, rfl, h, at_new rfl⟩
theorem span_four_at (den : Nat) (x y z t : Int) (g : Nat) (w : World) (hd : 0 < den) (hd2 : den < 18446744073709551616) (hh : w.heap[g]? = some (.cells #[.bool (lgP x).1, .int .u64 (lgP x).2.1, .int .u64 (lgP x).2.2, .bool (lgP y).1, .int .u64 (lgP y).2.1, .int .u64 (lgP y).2.2, .bool (lgP z).1, .int .u64 (lgP z).2.1, .int .u64 (lgP z).2.2, .bool (lgP t).1, .int .u64 (lgP t).2.1, .int .u64 (lgP t).2.2] 117 (0, 0))) :
    Calls Try.prog 71 #[.int .u64 (den : Nat), .slice (some ⟨g, 0, none⟩) 4 4] w fun e w' => e = .returned (ieV (spanV den x [y, z, t])) ∧ Kp No w w' := by
  have hc : ∀ j v, (#[.bool (lgP x).1, .int .u64 (lgP x).2.1, .int .u64 (lgP x).2.2, .bool (lgP y).1, .int .u64 (lgP y).2.1, .int .u64 (lgP y).2.2, .bool (lgP z).1, .int .u64 (lgP z).2.1, .int .u64 (lgP z).2.2, .bool (lgP t).1, .int .u64 (lgP t).2.1, .int .u64 (lgP t).2.2] : Array Value)[j]? = some v → w.cell? ⟨g, j, none⟩ = some v := fun j v hv => by rw [cell_of_row _ _ _ _ _ _ hh, hv]
  exact span_four den x y z t g w hd hd2 ⟨hc 0 _ rfl, hc 1 _ rfl, hc 2 _ rfl⟩ ⟨hc 3 _ rfl, hc 4 _ rfl, hc 5 _ rfl⟩ ⟨hc 6 _ rfl, hc 7 _ rfl, hc 8 _ rfl⟩ ⟨hc 9 _ rfl, hc 10 _ rfl, hc 11 _ rfl⟩
set_option maxHeartbeats 8000000 in
set_option maxRecDepth 100000 in
theorem pi_ok (lo hi : Int) (w : World) (hck : ckE [(lo, hi)] = 0) :
    Calls Try.prog 44 #[ivV lo hi] w fun e w' => e = .returned (ieV (spanV 1000000000000000000 (lo * 3141592653589793238) [lo * 3141592653589793239, hi * 3141592653589793238, hi * 3141592653589793239])) ∧ Kp No w w' := by
  have hbd := ck_fits hck (lo, hi) (by simp)
  have l1 := fits_bounds hbd.1
  have l2 := fits_bounds hbd.2
  simp only at l1 l2
  have HCK := Lib.hid (fun g w0 hc => check_any [(lo, hi)] g 0 1 1 w0 rfl (by omega) hc)
  rw [hck] at HCK
  have T1 := Lib.hid (fun w0 => times_any lo 3141592653589793238 w0 (by omega) (by omega) (by omega) (by omega))
  have T2 := Lib.hid (fun w0 => times_any lo 3141592653589793239 w0 (by omega) (by omega) (by omega) (by omega))
  have T3 := Lib.hid (fun w0 => times_any hi 3141592653589793238 w0 (by omega) (by omega) (by omega) (by omega))
  have T4 := Lib.hid (fun w0 => times_any hi 3141592653589793239 w0 (by omega) (by omega) (by omega) (by omega))
  have SP := Lib.hid (fun g w0 hh => span_four_at 1000000000000000000 (lo * 3141592653589793238) (lo * 3141592653589793239) (hi * 3141592653589793238) (hi * 3141592653589793239) g w0 (by omega) (by omega) hh)
  have hd0 : ((1000000000000000000 : Nat) : Int) = 1000000000000000000 := rfl
  rw [hd0] at SP
  generalize spanV 1000000000000000000 (lo * 3141592653589793238) [lo * 3141592653589793239, hi * 3141592653589793238, hi * 3141592653589793239] = sv at *
  simp only [lgV_p] at T1 T2 T3 T4
  generalize lgP (lo * 3141592653589793238) = p1 at *
  generalize lgP (lo * 3141592653589793239) = p2 at *
  generalize lgP (hi * 3141592653589793238) = p3 at *
  generalize lgP (hi * 3141592653589793239) = p4 at *
  obtain ⟨p11, p12, p13⟩ := p1
  obtain ⟨p21, p22, p23⟩ := p2
  obtain ⟨p31, p32, p33⟩ := p3
  obtain ⟨p41, p42, p43⟩ := p4
  simp only [p3V] at T1 T2 T3 T4 SP
  clear hbd l1 l2 hck hd0
  obtain ⟨v1, v2, v3⟩ := sv
  simp only [ieV, ivV] at SP ⊢
  go_enter Try.func44, Try.ntmps44
  go_wp2_with fail
  refine (HCK.out _ _ (ck1_cells _ _ _ _ (by go_simp) (by go_simp))).mono ?_
  rintro e w1 ⟨rfl, hk⟩
  have q0 := hk.heap (((Kp.alloc No _ _).tr (Kp.alloc No _ _)).heap (at_new (n := w.heap.size) rfl) id) id
  have q1 := hk.heap ((Kp.alloc No _ _).heap (at_new (n := w.heap.size + 1) (by simp)) id) id
  obtain ⟨c0, c1, _, _⟩ := two_cells q0
  obtain ⟨r0, r1, z0, z1⟩ := two_cells q1
  have KP := ((Kp.alloc No w _).tr ((Kp.alloc No _ _).tr (Kp.alloc No _ _))).tr hk
  have nA := Lib.hid (show ¬ Kq.One (w.heap.size + 1) w.heap.size by unfold Kq.One; omega)
  have SB := Lib.hid (show w.heap.size + 1 + 1 ≤ w1.heap.size by have := (Array.getElem?_eq_some_iff.1 q1).1; omega)
  have HB := Lib.hid q1
  have HKP := Lib.hid KP
  clear q0 q1 r0 r1 z0 z1 hk KP
  go_wp2_with fail
  have FS : Stab (fun ix wz u => (ix = 12 → New4 (w.heap.size + 1 + 1) wz u #[.bool p11, .int .u64 p12, .int .u64 p13, .bool p21, .int .u64 p22, .int .u64 p23, .bool p31, .int .u64 p32, .int .u64 p33, .bool p41, .int .u64 p42, .int .u64 p43]) ∧ True) := fun ix u wz wz' kz h => ⟨fun e => New4.no (h.1 e) kz, trivial⟩
  have FB : ∀ (ix : Nat) (u : Value) (wz wz' : World), Kp (Kq.One (w.heap.size + 1)) wz wz' → ((fun ix wz u => (ix = 12 → New4 (w.heap.size + 1 + 1) wz u #[.bool p11, .int .u64 p12, .int .u64 p13, .bool p21, .int .u64 p22, .int .u64 p23, .bool p31, .int .u64 p32, .int .u64 p33, .bool p41, .int .u64 p42, .int .u64 p43]) ∧ True : Nat → World → Value → Prop) ix wz u) → ((fun ix wz u => (ix = 12 → New4 (w.heap.size + 1 + 1) wz u #[.bool p11, .int .u64 p12, .int .u64 p13, .bool p21, .int .u64 p22, .int .u64 p23, .bool p31, .int .u64 p32, .int .u64 p33, .bool p41, .int .u64 p42, .int .u64 p43]) ∧ True : Nat → World → Value → Prop) ix wz' u) := fun ix u wz wz' kz h => ⟨fun e => New4.kpS (h.1 e) kz, trivial⟩
  replace FS := Lib.hid FS
  replace FB := Lib.hid FB
  refine wp_region_each (fun ix uR => match ix with | 0 => uR = .pointer (some ⟨w.heap.size, 0, none⟩) | 1 => uR = .int .i64 lo | 2 => uR = .agg #[.bool p11, .int .u64 p12, .int .u64 p13] | 3 => uR = .pointer (some ⟨w.heap.size, 0, none⟩) | 4 => uR = .int .i64 lo | 5 => uR = .agg #[.bool p21, .int .u64 p22, .int .u64 p23] | 6 => uR = .pointer (some ⟨w.heap.size, 1, none⟩) | 7 => uR = .int .i64 hi | 8 => uR = .agg #[.bool p31, .int .u64 p32, .int .u64 p33] | 9 => uR = .pointer (some ⟨w.heap.size, 1, none⟩) | 10 => uR = .int .i64 hi | 11 => uR = .agg #[.bool p41, .int .u64 p42, .int .u64 p43] | 13 => uR = .tuple #[.agg #[.int .i64 v1, .int .i64 v2], .int .i64 v3] | 14 => uR = .agg #[.int .i64 v1, .int .i64 v2] | 15 => uR = .int .i64 v3 | 17 => uR = .int .i64 v3 | _ => True) (HvS w1 (w.heap.size + 1) 40 #[.int .i64 0, .int .i64 0] 16 14 (fun ix wz u => (ix = 12 → New4 (w.heap.size + 1 + 1) wz u #[.bool p11, .int .u64 p12, .int .u64 p13, .bool p21, .int .u64 p22, .int .u64 p23, .bool p31, .int .u64 p32, .int .u64 p33, .bool p41, .int .u64 p42, .int .u64 p43]) ∧ True)) (by kernel_rfl) (by kernel_rfl) (by kernel_rfl) ?_ ?_ ?_
  · exact HvS.start HB.out
  · refine ⟨?_, ?_, ?_, ?_, ?_, ?_, ?_, ?_, ?_, ?_, ?_, ?_, ?_, ?_, ?_, ?_, ?_, ?_, trivial⟩
    · intro r a w' hf hg hW hr hd K hK
      refine wpOp_of rfl rfl ?_
      have e0 : a.tmps.getD 1 undef = .pointer (some ⟨w.heap.size, 0, none⟩) := hf.evalFree (by kernel_rfl)
      go_simp
      exact hK _ _ rfl (hW.upd 0 _ hr (by decide) ⟨fun e => absurd e (by decide), trivial⟩)
    · intro r a w' hf hg hW hr hd K hK
      refine wpOp_of rfl rfl ?_
      refine hf.depE hg hd 0 12 (by kernel_rfl) fun u0 e0 g0 h0 => ?_
      replace g0 : u0 = .pointer (some ⟨w.heap.size, 0, none⟩) := g0
      subst g0
      have z0 := hW.kp.cell c0 nA.out
      go_simp
      exact hK _ _ rfl (hW.upd 1 _ hr (by decide) ⟨fun e => absurd e (by decide), trivial⟩)
    · intro r a w' hf hg hW hr hd K hK
      refine wpOp_of rfl rfl ?_
      refine hf.depE hg hd 1 13 (by kernel_rfl) fun u0 e0 g0 h0 => ?_
      replace g0 : u0 = .int .i64 lo := g0
      subst g0
      go_simp
      with_reducible refine (T1.out _).mono ?_
      rintro e w'' ⟨rfl, k⟩
      exact hK _ _ rfl ((hW.call FS.out k).upd 2 _ hr (by decide) ⟨fun e => absurd e (by decide), trivial⟩)
    · intro r a w' hf hg hW hr hd K hK
      refine wpOp_of rfl rfl ?_
      have e0 : a.tmps.getD 1 undef = .pointer (some ⟨w.heap.size, 0, none⟩) := hf.evalFree (by kernel_rfl)
      go_simp
      exact hK _ _ rfl (hW.upd 3 _ hr (by decide) ⟨fun e => absurd e (by decide), trivial⟩)
    · intro r a w' hf hg hW hr hd K hK
      refine wpOp_of rfl rfl ?_
      refine hf.depE hg hd 3 15 (by kernel_rfl) fun u0 e0 g0 h0 => ?_
      replace g0 : u0 = .pointer (some ⟨w.heap.size, 0, none⟩) := g0
      subst g0
      have z0 := hW.kp.cell c0 nA.out
      go_simp
      exact hK _ _ rfl (hW.upd 4 _ hr (by decide) ⟨fun e => absurd e (by decide), trivial⟩)
    · intro r a w' hf hg hW hr hd K hK
      refine wpOp_of rfl rfl ?_
      refine hf.depE hg hd 4 16 (by kernel_rfl) fun u0 e0 g0 h0 => ?_
      replace g0 : u0 = .int .i64 lo := g0
      subst g0
      go_simp
      with_reducible refine (T2.out _).mono ?_
      rintro e w'' ⟨rfl, k⟩
      exact hK _ _ rfl ((hW.call FS.out k).upd 5 _ hr (by decide) ⟨fun e => absurd e (by decide), trivial⟩)
    · intro r a w' hf hg hW hr hd K hK
      refine wpOp_of rfl rfl ?_
      have e0 : a.tmps.getD 1 undef = .pointer (some ⟨w.heap.size, 0, none⟩) := hf.evalFree (by kernel_rfl)
      go_simp
      exact hK _ _ rfl (hW.upd 6 _ hr (by decide) ⟨fun e => absurd e (by decide), trivial⟩)
    · intro r a w' hf hg hW hr hd K hK
      refine wpOp_of rfl rfl ?_
      refine hf.depE hg hd 6 18 (by kernel_rfl) fun u0 e0 g0 h0 => ?_
      replace g0 : u0 = .pointer (some ⟨w.heap.size, 1, none⟩) := g0
      subst g0
      have z0 := hW.kp.cell c1 nA.out
      go_simp
      exact hK _ _ rfl (hW.upd 7 _ hr (by decide) ⟨fun e => absurd e (by decide), trivial⟩)
    · intro r a w' hf hg hW hr hd K hK
      refine wpOp_of rfl rfl ?_
      refine hf.depE hg hd 7 19 (by kernel_rfl) fun u0 e0 g0 h0 => ?_
      replace g0 : u0 = .int .i64 hi := g0
      subst g0
      go_simp
      with_reducible refine (T3.out _).mono ?_
      rintro e w'' ⟨rfl, k⟩
      exact hK _ _ rfl ((hW.call FS.out k).upd 8 _ hr (by decide) ⟨fun e => absurd e (by decide), trivial⟩)
    · intro r a w' hf hg hW hr hd K hK
      refine wpOp_of rfl rfl ?_
      have e0 : a.tmps.getD 1 undef = .pointer (some ⟨w.heap.size, 0, none⟩) := hf.evalFree (by kernel_rfl)
      go_simp
      exact hK _ _ rfl (hW.upd 9 _ hr (by decide) ⟨fun e => absurd e (by decide), trivial⟩)
    · intro r a w' hf hg hW hr hd K hK
      refine wpOp_of rfl rfl ?_
      refine hf.depE hg hd 9 21 (by kernel_rfl) fun u0 e0 g0 h0 => ?_
      replace g0 : u0 = .pointer (some ⟨w.heap.size, 1, none⟩) := g0
      subst g0
      have z0 := hW.kp.cell c1 nA.out
      go_simp
      exact hK _ _ rfl (hW.upd 10 _ hr (by decide) ⟨fun e => absurd e (by decide), trivial⟩)
    · intro r a w' hf hg hW hr hd K hK
      refine wpOp_of rfl rfl ?_
      refine hf.depE hg hd 10 22 (by kernel_rfl) fun u0 e0 g0 h0 => ?_
      replace g0 : u0 = .int .i64 hi := g0
      subst g0
      go_simp
      with_reducible refine (T4.out _).mono ?_
      rintro e w'' ⟨rfl, k⟩
      exact hK _ _ rfl ((hW.call FS.out k).upd 11 _ hr (by decide) ⟨fun e => absurd e (by decide), trivial⟩)
    · intro r a w' hf hg hW hr hd K hK
      refine wpOp_of rfl rfl ?_
      refine hf.depE hg hd 2 14 (by kernel_rfl) fun u0 e0 g0 h0 => ?_
      replace g0 : u0 = .agg #[.bool p11, .int .u64 p12, .int .u64 p13] := g0
      subst g0
      have e0' := get_of_getD e0
      refine hf.depE hg hd 5 17 (by kernel_rfl) fun u1 e1 g1 h1 => ?_
      replace g1 : u1 = .agg #[.bool p21, .int .u64 p22, .int .u64 p23] := g1
      subst g1
      have e1' := get_of_getD e1
      refine hf.depE hg hd 8 20 (by kernel_rfl) fun u2 e2 g2 h2 => ?_
      replace g2 : u2 = .agg #[.bool p31, .int .u64 p32, .int .u64 p33] := g2
      subst g2
      have e2' := get_of_getD e2
      refine hf.depE hg hd 11 23 (by kernel_rfl) fun u3 e3 g3 h3 => ?_
      replace g3 : u3 = .agg #[.bool p41, .int .u64 p42, .int .u64 p43] := g3
      subst g3
      have e3' := get_of_getD e3
      go_simp
      exact hK _ _ trivial ((hW.call FS.out (Kp.alloc _ _ _)).upd 12 _ hr (by decide) ⟨fun _ => New4.made _ _ (Nat.le_trans SB.out hW.kp.size), trivial⟩)
    · intro r a w' hf hg hW hr hd K hK
      refine wpOp_of rfl rfl ?_
      refine hf.depE hg hd 12 24 (by kernel_rfl) fun u0 e0 g0 h0 => ?_
      have f0 := (hW.hv 12 u0 h0).1 rfl
      obtain ⟨g, rfl, hg, hh⟩ := f0
      go_simp
      with_reducible refine (SP.out _ _ hh).mono ?_
      rintro e w'' ⟨rfl, k⟩
      exact hK _ _ rfl ((hW.call FS.out k).upd 13 _ hr (by decide) ⟨fun e => absurd e (by decide), trivial⟩)
    · intro r a w' hf hg hW hr hd K hK
      refine wpOp_of rfl rfl ?_
      refine hf.depE hg hd 13 25 (by kernel_rfl) fun u0 e0 g0 h0 => ?_
      replace g0 : u0 = .tuple #[.agg #[.int .i64 v1, .int .i64 v2], .int .i64 v3] := g0
      subst g0
      go_simp
      exact hK _ _ rfl (hW.upd 14 _ hr (by decide) ⟨fun e => absurd e (by decide), trivial⟩)
    · intro r a w' hf hg hW hr hd K hK
      refine wpOp_of rfl rfl ?_
      refine hf.depE hg hd 13 25 (by kernel_rfl) fun u0 e0 g0 h0 => ?_
      replace g0 : u0 = .tuple #[.agg #[.int .i64 v1, .int .i64 v2], .int .i64 v3] := g0
      subst g0
      go_simp
      exact hK _ _ rfl (hW.upd 15 _ hr (by decide) ⟨fun e => absurd e (by decide), trivial⟩)
    · intro r a w' hf hg hW hr hd K hK
      refine wpOp_of rfl rfl ?_
      have e0 : a.tmps.getD 2 undef = .pointer (some ⟨w.heap.size + 1, 0, none⟩) := hf.evalFree (by kernel_rfl)
      refine hf.depE hg hd 14 26 (by kernel_rfl) fun u1 e1 g1 h1 => ?_
      replace g1 : u1 = .agg #[.int .i64 v1, .int .i64 v2] := g1
      subst g1
      obtain ⟨x0, x1, y0, y1⟩ := two_cells (hW.b0 hr)
      go_simp
      exact hK undef _ trivial (hW.store FB.out (by decide) h1 (kpTwo _ _ _ _) (setTwo _ _ (hW.b0 hr)) _ ⟨fun e => absurd e (by decide), trivial⟩)
    · intro r a w' hf hg hW hr hd K hK
      refine wpOp_of rfl rfl ?_
      refine hf.depE hg hd 15 27 (by kernel_rfl) fun u0 e0 g0 h0 => ?_
      replace g0 : u0 = .int .i64 v3 := g0
      subst g0
      go_simp
      exact hK _ _ rfl (hW.upd 17 _ hr (by decide) ⟨fun e => absurd e (by decide), trivial⟩)
  intro r' w2 hg hW hr'
  have hkN := hW.kp
  obtain ⟨q14, hq14⟩ : ∃ u, r' 14 = some u := Option.ne_none_iff_exists'.1 (hr' 14 (by decide))
  have hk14 := hg 14 q14 hq14
  replace hk14 : q14 = .agg #[.int .i64 v1, .int .i64 v2] := hk14
  subst hk14
  obtain ⟨q17, hq17⟩ : ∃ u, r' 17 = some u := Option.ne_none_iff_exists'.1 (hr' 17 (by decide))
  have hk17 := hg 17 q17 hq17
  replace hk17 : q17 = .int .i64 v3 := hk17
  subst hk17
  obtain ⟨cs, hcs, hB⟩ := hW.b1 (hr' 16 (by decide))
  simp only [List.length_cons, List.length_nil, Nat.reduceAdd, List.range_succ, List.range_zero, List.nil_append, List.cons_append, List.map_cons, List.map_nil, putAll, Act.put, List.setIfInBounds_toArray, List.set_cons_succ, List.set_cons_zero, hq14, hq17, Option.getD_some]
  clear hg hW hr' FS FB hq17
  rw [hq14] at hcs
  cases hcs
  obtain ⟨r0, r1, _, _⟩ := two_cells hB
  go_wp2_with fail
  exact bodyPost_ret (v := .tuple #[.agg #[.int .i64 v1, .int .i64 v2], .int .i64 v3]) (by simp [results, Try.results44, go_sem, r0, r1]) rfl ⟨rfl, HKP.out.trans hkN (fun k hk e => by unfold Kq.One at e; omega)⟩
end Go.Proofs.Ytamjhpdgclbfgaa
