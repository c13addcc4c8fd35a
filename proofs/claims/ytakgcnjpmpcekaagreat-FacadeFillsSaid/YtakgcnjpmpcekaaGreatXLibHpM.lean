/- Chapter 24: the program's anew and Mirrored. · The same with two calls whose results lie apart: an invariant for wp_region_each. No program in sight. -/
import Derived.Deep.RegionHeld3
import Derived.Test.YtakgcnjpmpcekaaGreatXRwLM
import Derived.Test.YtakgcnjpmpcekaaGreatXGpB
import Derived.Test.YtakgcnjpmpcekaaGreatXLibHmM
namespace Go.Proofs.YtakgcnjpmpcekaaGreat
open Go.RowKit Go.Kq

set_option maxHeartbeats 2000000 in
theorem sorted_any (A : Option Addr) (q ca : Nat) (xs : List Int) (w : World) (hq : q ≤ 100000) (hx : RdI .i64 w A q xs) (Bm : Nat) (hbm : w.cell? ⟨Bm, 0, none⟩ = some (.slice A q ca)) :
    Calls Tryz.prog 55 #[.func (.func 76) #[] #[.pointer (some ⟨Bm, 0, none⟩)]] w fun e w' => ∃ B c, e = .returned (.slice B q c) ∧ OwI w' w.heap.size (.slice B q c) (xs.mergeSort fun x y => decide (x ≤ y)) ∧ Kp No w w' := by
  have hxl := hx.1
  have AS := Lib.hid (fun (w0 : World) (k : Kp No w w0) => callsIn_wide.1 (appendSeq_in 6 (Nat.le_refl _) Bm A q ca xs w0 hq (hx.no k) (k.cell hbm id)))
  have CO := Lib.hid (show ∀ (w0 : World) (k : Kp No w w0), Calls Tryz.prog 74 #[.func (.func 76) #[] #[.pointer (some ⟨Bm, 0, none⟩)]] w0 fun e w' => ∃ v : Value, e = .returned v ∧ OwI w' w0.heap.size v xs ∧ Below w0.heap.size w0 w' from fun w0 k => by
    have h := AS.out w0 k
    clear AS hbm hx
    go_enter Tryz.func74, Tryz.ntmps74
    go_wp2_with fail
    with_reducible refine h.mono ?_
    rintro e w1 ⟨v, rfl, ho, hb⟩
    have HO := Lib.hid ho
    clear ho
    go_wp2_with fail
    go_ret
    exact ⟨v, rfl, HO.out, hb⟩)
  have HXL := Lib.hid hxl
  clear hx hbm AS hxl
  go_enter Tryz.func55, Tryz.ntmps55
  go_wp2_with fail
  with_reducible refine (CO.out _ (Kp.refl _ _)).mono ?_
  rintro e w1 ⟨v, rfl, ho, hb⟩
  obtain ⟨B, c, rfl, _, _, _⟩ := own_form ho
  have HO := Lib.hid (show OwI w1 w.heap.size (.slice B q c) xs by rw [HXL.out] at ho; exact ho)
  have HB := Lib.hid (Kp.below (S := No) hb)
  rw [HXL.out]
  clear ho hb
  go_wp2_with fail
  with_reducible refine (sort_any w.heap.size B q c xs w1 HXL.out (by omega) HO.out).mono ?_
  rintro e w2 ⟨rfl, ho2, k2⟩
  have HO2 := Lib.hid ho2
  have HK2 := Lib.hid (HB.out.trans k2 fun b hb e => by
    have := (own_ge (show w1.ownsRow w.heap.size 3 1 (.slice B q c) xs.length (xs.map (Value.int .i64)) from HO.out) (g := b) e).1
    omega)
  clear ho2 k2
  go_wp2_with fail
  go_ret
  exact ⟨B, c, rfl, HO2.out, HK2.out⟩
theorem take_map_succ' {α β : Type} (f : α → β) (l : List α) (i : Nat) (x : α) (h : l[i]? = some x) : (l.take (i + 1)).map f = (l.take i).map f ++ [f x] := by
  rw [List.take_add_one, h]
  simp
theorem rnk_count (l : List Int) (x : Int) : (Lib.compact (l.mergeSort fun x y => decide (x ≤ y))).countP (fun y => decide (y < x)) = rnkN l x := by
  have hs := comp_asc _ (sorted_le l)
  rw [rnk_of (f := (Lib.compact (l.mergeSort fun x y => decide (x ≤ y))).filter fun y => decide (y < x)) x, List.countP_eq_length_filter]
  · exact (hs.imp fun h e => by omega).filter _
  · intro y
    rw [List.mem_filter, comp_mem, (List.mergeSort_perm l _).mem_iff, decide_eq_true_eq]
set_option maxHeartbeats 4000000 in
theorem anew_any (A : Option Addr) (q ca : Nat) (xs : List Int) (w : World) (hq : q ≤ 1000) (hx : RdI .i64 w A q xs) :
    Calls Tryz.prog 35 #[.slice A q ca] w fun e w' => ∃ g, e = .returned (.slice (some ⟨g, 0, none⟩) q q) ∧ OwN w' w.heap.size (.slice (some ⟨g, 0, none⟩) q q) (anewN xs) ∧ Kp No w w' := by
  have hxl := hx.1
  have VAL := Lib.hid (show ∀ w0 : World, Calls Tryz.prog 56 #[.slice A q ca] w0 fun e w' => e = .returned (.func (.func 76) #[] #[.pointer (some ⟨w0.heap.size, 0, none⟩)]) ∧ w' = w0.alloc (.cells #[.slice A q ca] 36) from fun w0 => by
    go_enter Tryz.func56, Tryz.ntmps56
    go_wp2
    go_ret
    exact ⟨rfl, rfl⟩)
  have HX := Lib.hid hx
  have HXL := Lib.hid hxl
  clear hx hxl
  go_enter Tryz.func35, Tryz.ntmps35
  go_wp2_with fail
  with_reducible refine (VAL.out _).mono ?_
  rintro e w1 ⟨rfl, hw⟩
  have hk1 : Kp No w w1 := by rw [hw]; exact Kp.alloc _ _ _
  have hc1 : w1.cell? ⟨w.heap.size, 0, none⟩ = some (.slice A q ca) := by
    rw [hw, cell_of_row _ _ _ _ _ _ (heap_alloc_new w _)]
    rfl
  have HK1 := Lib.hid hk1
  have HC1 := Lib.hid hc1
  clear hw hk1 hc1 VAL
  go_wp2_with fail
  with_reducible refine (sorted_any A q ca xs w1 (by omega) (HX.out.no HK1.out) w.heap.size HC1.out).mono ?_
  rintro e w2 ⟨B, c, rfl, ho, k2⟩
  have hsl : (xs.mergeSort fun x y => decide (x ≤ y)).length = q := by rw [(List.mergeSort_perm xs _).length_eq, HXL.out]
  have HSL := Lib.hid hsl
  have HO := Lib.hid ho
  have HK2 := Lib.hid (HK1.out.tr k2)
  clear ho k2 hsl
  go_wp2_with fail
  with_reducible refine (comp_any w1.heap.size B q c _ w2 HSL.out (by omega) HO.out).mono ?_
  rintro e w3 ⟨rfl, ho3, k3⟩
  have HRC := Lib.hid (fun x => rnk_count xs x)
  have HAS := Lib.hid ((comp_asc _ (sorted_le xs)).imp fun {a b} (h : a < b) => Int.le_of_lt h)
  have HKB := Lib.hid (fun b (hb : OwnB (.slice B q c) b) => (own_ge (w := w2) (base := w1.heap.size) (e := 3) (size := 1) (m := q) (xs := (xs.mergeSort fun x y => decide (x ≤ y)).map (Value.int .i64)) (by have h := HO.out; unfold OwI at h; rw [HSL.out] at h; exact h) (g := b) hb).1)
  have HK3 := Lib.hid (HK2.out.trans k3 fun b hb e => by
    have := HKB.out b e
    have := HK1.out.size
    omega)
  obtain ⟨ks, hks⟩ : ∃ ks, ks = Lib.compact (xs.mergeSort fun x y => decide (x ≤ y)) := ⟨_, rfl⟩
  rw [← hks] at ho3 HRC HAS ⊢
  obtain ⟨m, hm⟩ : ∃ m, m = ks.length := ⟨_, rfl⟩
  have hmq : m ≤ q := by rw [hm, hks]; have := comp_len (xs.mergeSort fun x y => decide (x ≤ y)); rw [HSL.out] at this; exact this
  rw [← hm] at ho3 ⊢
  have hpos : ∀ x, x ∈ xs → 0 < m := fun x hx => by
    rw [hm, List.length_pos_iff]
    intro e
    rw [e] at hks
    have := (comp_mem _ x).2 ((List.mergeSort_perm xs fun x y => decide (x ≤ y)).mem_iff.2 hx)
    rw [← hks] at this
    cases this
  have HPOS := Lib.hid hpos
  have HM := Lib.hid hm
  have HO3 := Lib.hid ho3
  have hmk := make_ints q (by omega)
  clear ho3 k3 hks hm hpos
  go_wp2_with fail
  clear hmk
  obtain ⟨g, hg⟩ : ∃ g, g = w3.heap.size := ⟨_, rfl⟩
  have hmd := own_made w3 (e := 3) (n := q) (s := 1) (base := w.heap.size) (xs := List.replicate q (natV 0)) (by simp) HK3.out.size (by unfold maxLen; omega)
  have hka := Kp.alloc No w3 (.cells (zrN q) 3)
  rw [← hg]
  rw [← hg] at hmd
  have HG := Lib.hid hg
  have hmd2 : (w3.alloc (.cells (zrN q) 3)).ownsRow w.heap.size 3 1 (.slice (some ⟨g, 0, none⟩) q q) q (List.replicate q (natV 0)) := hmd
  clear hg hmd
  generalize w3.alloc (.cells (zrN q) 3) = w4 at *
  have HK4 := Lib.hid hka
  have HMD := Lib.hid hmd2
  clear hka hmd2
  go_loopw [16] (fun vi wr => ∃ i : Nat, i ≤ q ∧ vi = .int .i64 i ∧ wr.ownsRow w.heap.size 3 1 (.slice (some ⟨g, 0, none⟩) q q) q (((xs.take i).map fun x => natV (rnkN xs x)) ++ List.replicate (q - i) (natV 0)) ∧ Kp (Kq.One g) w4 wr) (fun vi _ => q - (intOf vi).toNat)
  case atStart => exact ⟨0, by omega, rfl, by simpa using HMD.out, Kp.refl _ _⟩
  case round =>
    obtain ⟨i, hi, rfl, ho, hkp⟩ := hrel
    have HO4 := Lib.hid ho
    have HKP := Lib.hid hkp
    have HW := Lib.hid (show Kp No w wr from (HK3.out.tr HK4.out).trans hkp fun b hb e => by
      have e : b = g := e
      have h1 := HG.out
      have h2 := HK3.out.size
      omega)
    clear hkp
    by_cases hlt : i < q
    · obtain ⟨x, hxx⟩ : ∃ x, xs[i]? = some x := ⟨_, List.getElem?_eq_getElem (by rw [HXL.out]; exact hlt)⟩
      obtain ⟨b, o, rfl, hb, hc⟩ := (HX.out.no HW.out).2 i x hxx
      have hm0 := HPOS.out x (List.mem_of_getElem? hxx)
      have hro : OwI wr w1.heap.size (.slice B m c) ks := by
        have hkk : Kp (Kq.One g) w3 wr := (HK4.out.mono fun _ _ h => h.elim).tr HKP.out
        refine hkk.owns HO3.out fun b hb e => ?_
        have e : b = g := e
        have h1 := (own_ge HO3.out hb).2
        have h2 := HG.out
        omega
      have RD := Lib.hid (own_rdi hro HM.out.symm)
      have SR := Lib.hid (search_any B m c ks x wr (by omega) hm0 RD.out HAS.out)
      have hL : ((xs.take i).map fun x => natV (rnkN xs x)).length = i := by rw [List.length_map, List.length_take, HXL.out]; omega
      have hg0 : wr.cell? ⟨g, i, none⟩ = some (natV 0) := own_cell ho (by
        rw [List.getElem?_append_right (by rw [hL]; exact Nat.le_refl _), hL, Nat.sub_self, List.getElem?_replicate, if_pos (by omega)])
      have hf0 := own_free ho i
      have HRK := Lib.hid (HRC.out x)
      have HSET := Lib.hid (show (((xs.take i).map fun x => natV (rnkN xs x)) ++ List.replicate (q - i) (natV 0)).set i (natV (rnkN xs x)) = ((xs.take (i + 1)).map fun x => natV (rnkN xs x)) ++ List.replicate (q - (i + 1)) (natV 0) by
        have h := mid_lo ((xs.take i).map fun x => natV (rnkN xs x)) [] (natV 0) (natV (rnkN xs x)) (q - (i + 1)) i hL.symm
        rw [List.append_nil, List.append_nil] at h
        rw [show q - i = q - (i + 1) + 1 by omega, h, take_map_succ' _ xs i x hxx])
      unfold natV at hg0
      clear hro RD hL ho hxx
      go_wp2_with fail
      with_reducible refine SR.out.mono ?_
      rintro e w5 ⟨rfl, z, rfl⟩
      have ho5 := own_set (own_kp HO4.out (Kp.drewN No wr z) (fun _ _ h => h)) i (.int .i64 ((ks.countP (· < x) : Nat) : Int))
      have hrk : (ks.countP (· < x)) = rnkN xs x := HRK.out
      have HO6 := Lib.hid (show ((wr.drewN z).setCell ⟨g, i, none⟩ (.int .i64 ((ks.countP (· < x) : Nat) : Int))).ownsRow w.heap.size 3 1 (.slice (some ⟨g, 0, none⟩) q q) q (((xs.take (i + 1)).map fun x => natV (rnkN xs x)) ++ List.replicate (q - (i + 1)) (natV 0)) by
        rw [← HSET.out]
        have e : natV (rnkN xs x) = .int .i64 ((ks.countP (· < x) : Nat) : Int) := by rw [hrk]; rfl
        rw [e]
        exact ho5)
      have HK6 := Lib.hid (HKP.out.tr (((Kp.drewN (Kq.One g) wr z)).tr (kp_setOne (wr.drewN z) g i (.int .i64 ((ks.countP (· < x) : Nat) : Int)))))
      clear ho5 hrk SR
      generalize ((ks.countP (· < x) : Nat) : Int) = cv at *
      go_wp2_with fail
      go_roundw
      case rel => exact ⟨i + 1, by omega, by go_num, HO6.out, HK6.out⟩
      case measure => simp [intOf]; omega
    · obtain rfl : i = q := by omega
      have HE := Lib.hid (show OwN wr w.heap.size (.slice (some ⟨g, 0, none⟩) i i) (anewN xs) by
        have h := HO4.out
        rw [Nat.sub_self, List.replicate_zero, List.append_nil, List.take_of_length_le (by rw [HXL.out]; exact Nat.le_refl _)] at h
        unfold OwN anewN
        rw [List.length_map, HXL.out, List.map_map]
        exact h)
      clear ho
      go_wp2_with fail
      go_ret
      exact ⟨g, rfl, HE.out, HW.out⟩
end Go.Proofs.YtakgcnjpmpcekaaGreat

namespace Go.Kq
open Go.RowKit

/-- What operations of A give lies apart from what those of B give. -/
structure HvP (M : World → Prop) (cA cB : Nat → Bool) (F : Nat → World → Value → Prop) (r : Nat → Option Value) (w : World) : Prop where
  m : M w
  hv : ∀ i u, r i = some u → F i w u
  pr : ∀ i j u v, cA i = true → cB j = true → r i = some u → r j = some v → ∀ g, u.ownBlock = some g → v.ownBlock ≠ some g
section
variable {w w' : World} {M : World → Prop} {cA cB : Nat → Bool} {F : Nat → World → Value → Prop} {r : Nat → Option Value}
theorem HvP.start (cA cB : Nat → Bool) (F : Nat → World → Value → Prop) (h : M w) : HvP M cA cB F (fun _ => none) w := ⟨h, fun _ _ h => (by cases h), fun _ _ _ _ _ _ h => (by cases h)⟩
theorem upd_get {r : Nat → Option Value} {i j : Nat} {v u : Value} (h : Kq.upd r i v j = some u) : (j = i ∧ u = v) ∨ (j ≠ i ∧ r j = some u) := by
  by_cases e : j = i
  · subst e
    rw [upd_same] at h
    injection h with h
    exact .inl ⟨rfl, h.symm⟩
  · rw [upd_ne _ _ e] at h
    exact .inr ⟨e, h⟩
theorem HvP.updG (h : HvP M cA cB F r w) (i : Nat) (v : Value) (hf : F i w v) (hA : cA i = true → ∀ j u, cB j = true → r j = some u → ∀ g, v.ownBlock = some g → u.ownBlock ≠ some g) (hB : cB i = true → ∀ j u, cA j = true → r j = some u → ∀ g, u.ownBlock = some g → v.ownBlock ≠ some g) (hAB : cA i = true → cB i = true → False) : HvP M cA cB F (Kq.upd r i v) w :=
  ⟨h.m, fun j u hu => by
    rcases upd_get hu with ⟨rfl, rfl⟩ | ⟨_, hu⟩
    · exact hf
    · exact h.hv j u hu, fun a b u x ha hb hu hx => by
    rcases upd_get hu with ⟨e1, e2⟩ | ⟨_, hu2⟩
    · rcases upd_get hx with ⟨e3, _⟩ | ⟨_, hx2⟩
      · exact (hAB (e1 ▸ ha) (e3 ▸ hb)).elim
      · rw [e2]
        exact hA (e1 ▸ ha) b x hb hx2
    · rcases upd_get hx with ⟨e3, e4⟩ | ⟨_, hx2⟩
      · rw [e4]
        exact hB (e3 ▸ hb) a u ha hu2
      · exact h.pr a b u x ha hb hu2 hx2⟩
theorem HvP.upd (h : HvP M cA cB F r w) (i : Nat) (v : Value) (hA : cA i = false) (hB : cB i = false) (hf : F i w v) : HvP M cA cB F (Kq.upd r i v) w :=
  h.updG i v hf (fun e => by rw [hA] at e; cases e) (fun e => by rw [hB] at e; cases e) (fun e => by rw [hA] at e; cases e)
theorem HvP.call (h : HvP M cA cB F r w) (hm : M w') (hs : ∀ i u, F i w u → F i w' u) : HvP M cA cB F r w' := ⟨hm, fun i u hu => hs i u (h.hv i u hu), h.pr⟩
end
end Go.Kq
