/- Chapter 09: slices.SortFunc of at most 12 indices by the order of cuts: the walk. · Chapter 09: slices.IndexFunc at Quick's closures, whose contracts speak of the row's own elements. Printed by gen_cf.py. · Chapter 09: the closures of Quick. -/
import Derived.Shelf.SlSortCmp.Xorshift
import Derived.Test.YtamjhpdgclbfgaaXInsW
import Derived.Test.YtamjhpdgclbfgaaXSpaM
import Derived.Test.YtamjhpdgclbfgaaXLibBitM
namespace Go.Proofs.Ytamjhpdgclbfgaa
open Go.RowKit Go.Kq Go.Sort Go.Shelf

set_option maxHeartbeats 4000000 in
set_option maxRecDepth 100000 in
theorem pdq_any (P : Pt) (A : Option Addr) (n ca : Nat) (l : List Ct) (g cap m base : Nat) (d : List Nat) (lim : Int) (w : World) (hx : RdC w A n l) (hA : ∀ b o, A = some ⟨b, o, none⟩ → b < base) (ho : w.ownsRow base 3 1 (.slice (some ⟨g, 0, none⟩) m cap) m (d.map natI)) (hm : m ≤ 12) (hd : ∀ v ∈ d, v < n) :
    Calls Try.prog 64 #[.slice (some ⟨g, 0, none⟩) m cap, .int .i64 0, .int .i64 (m : Nat), .int .i64 lim, befV P A n ca] w fun e w' => e = .returned (.tuple #[]) ∧ w'.ownsRow base 3 1 (.slice (some ⟨g, 0, none⟩) m cap) m ((insAt (befF l) d (m - 1)).map natI) ∧ Kp (One g) w w' := by
  have HI := Lib.hid (ins_any P A n ca l g cap m base d w hx hA ho hm hd)
  simp only [befV, jobV] at HI ⊢
  have hm2 : (m : Int) ≤ 12 := by omega
  clear hx hA ho hd
  go_enter Try.func64, Try.ntmps64
  go_wp2_with fail
  refine wp_loop_rounds 1 ?_
  rw [rounds_succ]
  go_wp2_with fail
  with_reducible refine HI.out.mono ?_
  rintro e w' ⟨rfl, h1, h2⟩
  have H1 := Lib.hid h1
  have H2 := Lib.hid h2
  clear h1 h2 HI
  go_wp2_with fail
  (try simp only [Exit.inBlock, Exit.then])
  refine bodyPost_ret (results_none rfl _ _ _) rfl ?_
  exact ⟨rfl, H1.out, H2.out⟩
theorem blen_any (m : Nat) (hm : m ≤ 1000) (w : World) : Calls Try.prog 65 #[.int .u64 (m : Int)] w fun e w' => e = .returned (.int .i64 (Lib.bitLen m : Nat)) ∧ w' = w := by
  have h := Any.bits_Len (SlLaysF0.n15.bits (P := Try.prog) (ρ := sortFI_ren) { sortFI with }) (m : Int) w (by omega) (by omega)
  rwa [Int.toNat_natCast] at h
set_option maxHeartbeats 4000000 in
set_option maxRecDepth 100000 in
theorem sort_any (P : Pt) (A : Option Addr) (n ca : Nat) (l : List Ct) (g cap m base : Nat) (d : List Nat) (w : World) (hx : RdC w A n l) (hA : ∀ b o, A = some ⟨b, o, none⟩ → b < base) (ho : w.ownsRow base 3 1 (.slice (some ⟨g, 0, none⟩) m cap) m (d.map natI)) (hm : m ≤ 12) (hd : ∀ v ∈ d, v < n) :
    Calls Try.prog 36 #[.slice (some ⟨g, 0, none⟩) m cap, befV P A n ca] w fun e w' => e = .returned (.tuple #[]) ∧ w'.ownsRow base 3 1 (.slice (some ⟨g, 0, none⟩) m cap) m ((insAt (befF l) d (m - 1)).map natI) ∧ Kp (One g) w w' := by
  have HI := Lib.hid (fun lim => pdq_any P A n ca l g cap m base d lim w hx hA ho hm hd)
  have HL := Lib.hid (blen_any m (by omega) w)
  have hw : IntKind.u64.wrap (m : Int) = m := by simp [IntKind.wrap, IntKind.bits, IntKind.signed]; omega
  simp only [befV, jobV] at HI ⊢
  clear hx hA ho hd
  go_enter Try.func36, Try.ntmps36
  go_wp2_with fail
  with_reducible refine HL.out.mono ?_
  rintro e w1 ⟨rfl, h⟩
  subst h
  go_wp2_with fail
  with_reducible refine (HI.out _).mono ?_
  rintro e w2 ⟨rfl, h1, h2⟩
  have H1 := Lib.hid h1
  have H2 := Lib.hid h2
  clear h1 h2 HI HL
  go_wp2_with fail
  go_end0
  exact ⟨rfl, H1.out, H2.out⟩
end Go.Proofs.Ytamjhpdgclbfgaa

namespace Go.Proofs.Ytamjhpdgclbfgaa
open Go.RowKit Go.Kq

set_option maxHeartbeats 1000000 in
theorem index_roomM {cv cu : Value} (A : Option Addr) (n cap : Nat) (vs : List Spo) (p : Spo → Bool) (w : World) (h : Rd Spo.cells 4 w A n vs) (hn : n ≤ 100000000) (hf : ∀ v w', v ∈ vs → Kp No w w' → Calls Try.prog 38 #[Spo.val v, cv, cu] w' fun e w'' => e = .returned (.bool (p v)) ∧ Kp No w' w'') :
    Calls Try.prog 39 #[.slice A n cap, .func (.func 38) #[] #[cv, cu]] w fun e w' => e = .returned (.int .i64 (ixI p vs)) ∧ Kp No w w' := by
  have HF := Lib.hid hf
  clear hf
  go_enter Try.func39, Try.ntmps39
  go_wp2_with fail
  go_loopw [8] (fun i wr => ∃ k : Nat, k ≤ n ∧ i = .int .i64 k ∧ (vs.take k).any p = false ∧ Kp No w wr) (fun i _ => n - (intOf i).toNat)
  case atStart => exact ⟨0, by omega, rfl, by simp, Kp.refl _ _⟩
  case round =>
    obtain ⟨k, hk, rfl, hno, hkp⟩ := hrel
    by_cases hlt : k < n
    · obtain ⟨v, hv⟩ : ∃ v, vs[k]? = some v := ⟨_, List.getElem?_eq_getElem (by rw [h.1]; exact hlt)⟩
      obtain ⟨b, o, rfl, hb, hc⟩ := h.2 k v hv
      have c0 := hkp.cell (hc 0 _ rfl) (fun h => h)
      have c1 := hkp.cell (hc 1 _ rfl) (fun h => h)
      have c2 := hkp.cell (hc 2 _ rfl) (fun h => h)
      have c3 := hkp.cell (hc 3 _ rfl) (fun h => h)
      simp only [Nat.add_zero] at c0
      have Ht := Lib.hid (any_take_succ p vs k v hv)
      have Hno := Lib.hid hno
      have Hv := Lib.hid hv
      have HC := Lib.hid (HF.out v _ (List.mem_of_getElem? hv) hkp)
      have HK := Lib.hid hkp
      clear hno hv hc hkp
      cases hbad : p v
      · rw [hbad] at HC
        have HB := Lib.hid hbad
        clear hbad
        simp only [Spo.val] at HC
        go_wp2_with (go_at_call 38; refine HC.out.mono ?_; rintro e w' ⟨rfl, hkp'⟩)
        go_roundw
        case rel => exact ⟨k + 1, by omega, by go_num, by rw [Ht.out, Hno.out, HB.out]; rfl, HK.out.tr hkp'⟩
        case measure => simp [intOf]; omega
      · rw [hbad] at HC
        have HB := Lib.hid hbad
        clear hbad
        simp only [Spo.val] at HC
        go_wp2_with (go_at_call 38; refine HC.out.mono ?_; rintro e w' ⟨rfl, hkp'⟩)
        go_ret
        exact ⟨by rw [ixI_at Hno.out Hv.out HB.out]; rfl, HK.out.tr hkp'⟩
    · have HK := Lib.hid hkp
      have Hno := Lib.hid hno
      clear hkp hno
      go_wp2
      go_ret
      refine ⟨?_, HK.out⟩
      have hno := Hno.out
      rw [List.take_of_length_le (by rw [h.1]; omega)] at hno
      rw [ixI_none hno]
      rfl
set_option maxHeartbeats 1000000 in
theorem index_topM {cv cu : Value} (A : Option Addr) (n cap : Nat) (vs : List Int) (p : Int → Bool) (w : World) (h : RdI .i64 w A n vs) (hn : n ≤ 100000000) (hf : ∀ v w', v ∈ vs → Kp No w w' → Calls Try.prog 41 #[i64V v, cv, cu] w' fun e w'' => e = .returned (.bool (p v)) ∧ Kp No w' w'') :
    Calls Try.prog 40 #[.slice A n cap, .func (.func 41) #[] #[cv, cu]] w fun e w' => e = .returned (.int .i64 (ixI p vs)) ∧ Kp No w w' := by
  have HF := Lib.hid hf
  clear hf
  go_enter Try.func40, Try.ntmps40
  go_wp2_with fail
  go_loopw [8] (fun i wr => ∃ k : Nat, k ≤ n ∧ i = .int .i64 k ∧ (vs.take k).any p = false ∧ Kp No w wr) (fun i _ => n - (intOf i).toNat)
  case atStart => exact ⟨0, by omega, rfl, by simp, Kp.refl _ _⟩
  case round =>
    obtain ⟨k, hk, rfl, hno, hkp⟩ := hrel
    by_cases hlt : k < n
    · obtain ⟨v, hv⟩ : ∃ v, vs[k]? = some v := ⟨_, List.getElem?_eq_getElem (by rw [h.1]; exact hlt)⟩
      obtain ⟨b, o, rfl, hb, hc⟩ := h.2 k v hv
      have c0 := hkp.cell hc (fun h => h)
      have Ht := Lib.hid (any_take_succ p vs k v hv)
      have Hno := Lib.hid hno
      have Hv := Lib.hid hv
      have HC := Lib.hid (HF.out v _ (List.mem_of_getElem? hv) hkp)
      have HK := Lib.hid hkp
      clear hno hv hc hkp
      cases hbad : p v
      · rw [hbad] at HC
        have HB := Lib.hid hbad
        clear hbad
        simp only [i64V] at HC
        go_wp2_with (go_at_call 41; refine HC.out.mono ?_; rintro e w' ⟨rfl, hkp'⟩)
        go_roundw
        case rel => exact ⟨k + 1, by omega, by go_num, by rw [Ht.out, Hno.out, HB.out]; rfl, HK.out.tr hkp'⟩
        case measure => simp [intOf]; omega
      · rw [hbad] at HC
        have HB := Lib.hid hbad
        clear hbad
        simp only [i64V] at HC
        go_wp2_with (go_at_call 41; refine HC.out.mono ?_; rintro e w' ⟨rfl, hkp'⟩)
        go_ret
        exact ⟨by rw [ixI_at Hno.out Hv.out HB.out]; rfl, HK.out.tr hkp'⟩
    · have HK := Lib.hid hkp
      have Hno := Lib.hid hno
      clear hkp hno
      go_wp2
      go_ret
      refine ⟨?_, HK.out⟩
      have hno := Hno.out
      rw [List.take_of_length_le (by rw [h.1]; omega)] at hno
      rw [ixI_none hno]
      rfl
end Go.Proofs.Ytamjhpdgclbfgaa

namespace Go.Proofs.Ytamjhpdgclbfgaa
open Go.RowKit Go.Kq

def roomB (P : Pt) (c : Ct) (s : Spo) : Bool := decide (s.x + c.w ≤ P.w)
def topB (P : Pt) (c : Ct) (y : Int) : Bool := decide (y + c.h ≤ P.h)
set_option maxHeartbeats 2000000 in
theorem room_any (P : Pt) (c : Ct) (s : Spo) (gc gp : Nat) (w : World) (hc : w.heap[gc]? = some (.cells #[.int .i64 c.w, .int .i64 c.h] 35 (0, 0))) (hp : w.heap[gp]? = some (.cells #[.int .i64 P.w, .int .i64 P.h, .int .i64 P.k] 23 (0, 0))) (h1 : 0 ≤ s.x ∧ s.x ≤ 1000000000) (h2 : 0 ≤ c.w ∧ c.w ≤ 1000000000) :
    Calls Try.prog 38 #[s.val, .pointer (some ⟨gc, 0, none⟩), .pointer (some ⟨gp, 0, none⟩)] w fun e w' => e = .returned (.bool (roomB P c s)) ∧ Kp No w w' := by
  have g1 : gc < w.heap.size := (Array.getElem?_eq_some_iff.1 hc).1
  have g2 : gp < w.heap.size := (Array.getElem?_eq_some_iff.1 hp).1
  have b0 : w.cell? ⟨gc, 0, none⟩ = some (.int .i64 c.w) := by rw [cell_of_row _ _ _ _ _ _ hc]; rfl
  have d0 : w.cell? ⟨gp, 0, none⟩ = some (.int .i64 P.w) := by rw [cell_of_row _ _ _ _ _ _ hp]; rfl
  clear hc hp
  unfold roomB Spo.val
  have hk0 : Kp No w (w.alloc (.cells #[.int .i64 s.p, .int .i64 s.s, .int .i64 s.x, .int .i64 s.y] 52)) := Kp.alloc _ _ _
  go_enter Try.func38, Try.ntmps38
  go_wp2_with fail
  go_ret
  exact ⟨rfl, hk0⟩
set_option maxHeartbeats 2000000 in
theorem top_any (P : Pt) (c : Ct) (y : Int) (gc gp : Nat) (w : World) (hc : w.heap[gc]? = some (.cells #[.int .i64 c.w, .int .i64 c.h] 35 (0, 0))) (hp : w.heap[gp]? = some (.cells #[.int .i64 P.w, .int .i64 P.h, .int .i64 P.k] 23 (0, 0))) (h1 : 0 ≤ y ∧ y ≤ 1000000000) (h2 : 0 ≤ c.h ∧ c.h ≤ 1000000000) :
    Calls Try.prog 41 #[.int .i64 y, .pointer (some ⟨gc, 0, none⟩), .pointer (some ⟨gp, 0, none⟩)] w fun e w' => e = .returned (.bool (topB P c y)) ∧ Kp No w w' := by
  have b1 : w.cell? ⟨gc, 1, none⟩ = some (.int .i64 c.h) := by rw [cell_of_row _ _ _ _ _ _ hc]; rfl
  have d1 : w.cell? ⟨gp, 1, none⟩ = some (.int .i64 P.h) := by rw [cell_of_row _ _ _ _ _ _ hp]; rfl
  clear hc hp
  unfold topB
  go_enter Try.func41, Try.ntmps41
  go_wp2_with fail
  go_ret
  exact ⟨rfl, Kp.refl _ _⟩
end Go.Proofs.Ytamjhpdgclbfgaa
