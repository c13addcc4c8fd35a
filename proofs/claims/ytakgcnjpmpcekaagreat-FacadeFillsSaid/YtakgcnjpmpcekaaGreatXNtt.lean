/- Spans of fractions: Span: the walk. Printed by gen_ntt.py. -/
import Derived.Test.YtakgcnjpmpcekaaGreatXLibBoxM
import Derived.Test.YtakgcnjpmpcekaaGreatXSpfM
namespace Go.Proofs.YtakgcnjpmpcekaaGreat
open Go.RowKit Go.Kq

theorem setI_at {w : World} {B : Nat} {x y : Value} {t : TypeId} (h : w.heap[B]? = some (.cells #[x, y] t (0, 0))) (a b : Value) : ((w.setCell ⟨B, 0, none⟩ a).setCell ⟨B, 1, none⟩ b).heap[B]? = some (.cells #[a, b] t (0, 0)) := by
  simp [World.setCell, Array.getElem?_modify, h]
def lowQ (x : Rat) (l : List Rat) : Rat := l.foldl (fun m y => if y < m then y else m) x
def highQ (x : Rat) (l : List Rat) : Rat := l.foldl (fun m y => if m < y then y else m) x
theorem lowQ_snoc (x : Rat) (l : List Rat) (y : Rat) : lowQ x (l ++ [y]) = if y < lowQ x l then y else lowQ x l := by
  unfold lowQ
  rw [List.foldl_append]
  rfl
theorem highQ_snoc (x : Rat) (l : List Rat) (y : Rat) : highQ x (l ++ [y]) = if highQ x l < y then y else highQ x l := by
  unfold highQ
  rw [List.foldl_append]
  rfl
theorem cmpQ_lt {a b : Rat} : cmpQ a b < 0 ↔ a < b := by
  unfold cmpQ
  split
  · rename_i h
    simp [h]
  · rename_i h
    split <;> simp [h]
theorem cmpQ_gt {a b : Rat} : 0 < cmpQ a b ↔ b < a := by
  unfold cmpQ
  split
  · rename_i h
    have : ¬ b < a := Rat.not_lt.2 (Rat.le_of_lt h)
    simp [this]
  · split
    · rename_i h
      simp [h]
    · rename_i h
      simp [h]
def spanE (lo hi : Int) : Int × Int × Int := if in62 lo && in62 hi then (lo, hi, 0) else (0, 0, 7)
def spanL (L : List Rat) : Int × Int × Int := spanE (lowQ (L.getD 0 0) L).floor (highQ (L.getD 0 0) L).ceil
/-- A box that holds a fraction, whose limbs lie below the call. -/
def QBox (w wr : World) (g : Nat) (q : Rat) : Prop := ∃ n d, wr.heap[g]? = some (.cells #[.bool (negQ q), n, d] 89 (0, 0)) ∧ IsQuo w (.agg #[.bool (negQ q), n, d]) q 60
set_option maxHeartbeats 4000000 in
set_option maxRecDepth 100000 in
theorem span_is (b n c : Nat) (L : List Rat) (w : World) (hl : L.length = n) (hn : 1 ≤ n ∧ n ≤ 100) (hq : QAtK 60 w b L) :
    Calls Tryz.prog 47 #[.slice (some ⟨b, 0, none⟩) n c] w fun e w' => e = .returned (ieV (spanL L)) ∧ Kp No w w' := by
  obtain ⟨q0, hq0⟩ : ∃ q, L[0]? = some q := ⟨_, List.getElem?_eq_getElem (by omega)⟩
  have hsp : spanL L = spanE (lowQ q0 L).floor (highQ q0 L).ceil := by
    unfold spanL
    rw [List.getD_eq_getElem?_getD, hq0]
    rfl
  have hS1 : lowQ q0 (L.take 1) = q0 ∧ highQ q0 (L.take 1) = q0 := by
    rw [List.take_add_one, hq0]
    simp [lowQ, highQ, Rat.lt_irrefl]
  obtain ⟨nn0, dd0, p0, p1, p2, i0⟩ := hq 0 q0 hq0
  rw [Nat.zero_mul] at p0 p1 p2
  rw [Nat.zero_add] at p1 p2
  obtain ⟨A0, m0, c0, D0, z9, d0, rfl, rfl, _, _⟩ := i0.lens
  obtain ⟨s0, hs0⟩ : ∃ s, negQ q0 = s := ⟨_, rfl⟩
  rw [hs0] at p0 i0
  have HQ := Lib.hid hq
  have HTK := Lib.hid hS1
  have I0 := Lib.hid i0
  have HN0 := Lib.hid hs0
  rw [hsp]
  obtain ⟨RV, hRV⟩ : ∃ v, ieV (spanE (lowQ q0 L).floor (highQ q0 L).ceil) = v := ⟨_, rfl⟩
  rw [hRV]
  have HRV := Lib.hid hRV
  clear hRV hq hq0 hsp hS1 i0 hs0
  have K1 := Lib.hid (Kp.alloc No w (.cells #[.int .i64 0, .int .i64 0] 53))
  have q0c := K1.out.cell p0 id
  have q1c := K1.out.cell p1 id
  have q2c := K1.out.cell p2 id
  have HR := Lib.hid (at_newQ w (.cells #[.int .i64 0, .int .i64 0] 53))
  have S1 := Lib.hid (show w.heap.size + 1 ≤ (w.alloc (.cells #[.int .i64 0, .int .i64 0] 53)).heap.size by simp)
  have hn0 : (0 : Int) < (n : Int) := by omega
  have hn0n : 0 < n := by omega
  clear p0 p1 p2
  go_enter Tryz.func47, Tryz.ntmps47
  go_wp2_with fail
  generalize w.alloc (.cells #[.int .i64 0, .int .i64 0] 53) = w1 at *
  have HV : ∀ y ∈ [(⟨6, 8, 89, #[.bool false, .slice none 0 0, .slice none 0 0], #[.bool s0, .slice A0 m0 c0, .slice D0 z9 d0], ptrV⟩ : Bx), (⟨7, 9, 89, #[.bool false, .slice none 0 0, .slice none 0 0], #[.bool s0, .slice A0 m0 c0, .slice D0 z9 d0], ptrV⟩ : Bx)], ∀ {p q : Nat}, y.v p = y.v q → p = q := by intro y hy; simp only [List.mem_cons, List.not_mem_nil, or_false] at hy; rcases hy with rfl | rfl <;> exact fun {p q} h => ptrV_inj h
  have HS0 : ∀ y ∈ [(⟨6, 8, 89, #[.bool false, .slice none 0 0, .slice none 0 0], #[.bool s0, .slice A0 m0 c0, .slice D0 z9 d0], ptrV⟩ : Bx), (⟨7, 9, 89, #[.bool false, .slice none 0 0, .slice none 0 0], #[.bool s0, .slice A0 m0 c0, .slice D0 z9 d0], ptrV⟩ : Bx)], y.a = (⟨6, 8, 89, #[.bool false, .slice none 0 0, .slice none 0 0], #[.bool s0, .slice A0 m0 c0, .slice D0 z9 d0], ptrV⟩ : Bx).a → y = (⟨6, 8, 89, #[.bool false, .slice none 0 0, .slice none 0 0], #[.bool s0, .slice A0 m0 c0, .slice D0 z9 d0], ptrV⟩ : Bx) := by intro y hy; simp only [List.mem_cons, List.not_mem_nil, or_false] at hy; rcases hy with rfl | rfl <;> simp
  have HM0 : (⟨6, 8, 89, #[.bool false, .slice none 0 0, .slice none 0 0], #[.bool s0, .slice A0 m0 c0, .slice D0 z9 d0], ptrV⟩ : Bx) ∈ [(⟨6, 8, 89, #[.bool false, .slice none 0 0, .slice none 0 0], #[.bool s0, .slice A0 m0 c0, .slice D0 z9 d0], ptrV⟩ : Bx), (⟨7, 9, 89, #[.bool false, .slice none 0 0, .slice none 0 0], #[.bool s0, .slice A0 m0 c0, .slice D0 z9 d0], ptrV⟩ : Bx)] := by simp
  have HS1 : ∀ y ∈ [(⟨6, 8, 89, #[.bool false, .slice none 0 0, .slice none 0 0], #[.bool s0, .slice A0 m0 c0, .slice D0 z9 d0], ptrV⟩ : Bx), (⟨7, 9, 89, #[.bool false, .slice none 0 0, .slice none 0 0], #[.bool s0, .slice A0 m0 c0, .slice D0 z9 d0], ptrV⟩ : Bx)], y.a = (⟨7, 9, 89, #[.bool false, .slice none 0 0, .slice none 0 0], #[.bool s0, .slice A0 m0 c0, .slice D0 z9 d0], ptrV⟩ : Bx).a → y = (⟨7, 9, 89, #[.bool false, .slice none 0 0, .slice none 0 0], #[.bool s0, .slice A0 m0 c0, .slice D0 z9 d0], ptrV⟩ : Bx) := by intro y hy; simp only [List.mem_cons, List.not_mem_nil, or_false] at hy; rcases hy with rfl | rfl <;> simp
  have HM1 : (⟨7, 9, 89, #[.bool false, .slice none 0 0, .slice none 0 0], #[.bool s0, .slice A0 m0 c0, .slice D0 z9 d0], ptrV⟩ : Bx) ∈ [(⟨6, 8, 89, #[.bool false, .slice none 0 0, .slice none 0 0], #[.bool s0, .slice A0 m0 c0, .slice D0 z9 d0], ptrV⟩ : Bx), (⟨7, 9, 89, #[.bool false, .slice none 0 0, .slice none 0 0], #[.bool s0, .slice A0 m0 c0, .slice D0 z9 d0], ptrV⟩ : Bx)] := by simp
  have HS0 := Lib.hid HS0
  have HM0 := Lib.hid HM0
  have HS1 := Lib.hid HS1
  have HM1 := Lib.hid HM1
  have HV := Lib.hid HV
  refine wp_region_each (fun i u => match i with | 0 => u = .slice (some ⟨b, 0, none⟩) n c | 1 => u = .pointer (some ⟨b, 0, none⟩) | 2 => u = .agg #[.bool s0, .slice A0 m0 c0, .slice D0 z9 d0] | 3 => u = .slice (some ⟨b, 0, none⟩) n c | 4 => u = .pointer (some ⟨b, 0, none⟩) | 5 => u = .agg #[.bool s0, .slice A0 m0 c0, .slice D0 z9 d0] | _ => True) (BxW w1 [(⟨6, 8, 89, #[.bool false, .slice none 0 0, .slice none 0 0], #[.bool s0, .slice A0 m0 c0, .slice D0 z9 d0], ptrV⟩ : Bx), (⟨7, 9, 89, #[.bool false, .slice none 0 0, .slice none 0 0], #[.bool s0, .slice A0 m0 c0, .slice D0 z9 d0], ptrV⟩ : Bx)]) (by kernel_rfl) (by kernel_rfl) (by kernel_rfl) ?_ ?_ ?_
  · exact BxW.start _ _
  · refine ⟨?_, ?_, ?_, ?_, ?_, ?_, ?_, ?_, ?_, ?_, trivial⟩
    · intro r a w' hf hg hW hr hd K hK
      refine wpOp_of rfl rfl ?_
      have y0 : a.tmps.getD 0 undef = .slice (some ⟨b, 0, none⟩) n c := hf.evalFree (by kernel_rfl)
      go_simp
      exact hK _ _ rfl (hW.upd (by kernel_rfl) _)
    · intro r a w' hf hg hW hr hd K hK
      refine wpOp_of rfl rfl ?_
      refine hf.depE hg hd 0 13 (by kernel_rfl) fun u0 e0 g0 h0 => ?_
      replace g0 : u0 = .slice (some ⟨b, 0, none⟩) n c := g0
      subst g0
      go_simp
      exact hK _ _ rfl (hW.upd (by kernel_rfl) _)
    · intro r a w' hf hg hW hr hd K hK
      refine wpOp_of rfl rfl ?_
      refine hf.depE hg hd 1 14 (by kernel_rfl) fun u0 e0 g0 h0 => ?_
      replace g0 : u0 = .pointer (some ⟨b, 0, none⟩) := g0
      subst g0
      have z0 := hW.kp.cell q0c id
      have z1 := hW.kp.cell q1c id
      have z2 := hW.kp.cell q2c id
      go_simp
      exact hK _ _ rfl (hW.upd (by kernel_rfl) _)
    · intro r a w' hf hg hW hr hd K hK
      refine wpOp_of rfl rfl ?_
      have y0 : a.tmps.getD 0 undef = .slice (some ⟨b, 0, none⟩) n c := hf.evalFree (by kernel_rfl)
      go_simp
      exact hK _ _ rfl (hW.upd (by kernel_rfl) _)
    · intro r a w' hf hg hW hr hd K hK
      refine wpOp_of rfl rfl ?_
      refine hf.depE hg hd 3 16 (by kernel_rfl) fun u0 e0 g0 h0 => ?_
      replace g0 : u0 = .slice (some ⟨b, 0, none⟩) n c := g0
      subst g0
      go_simp
      exact hK _ _ rfl (hW.upd (by kernel_rfl) _)
    · intro r a w' hf hg hW hr hd K hK
      refine wpOp_of rfl rfl ?_
      refine hf.depE hg hd 4 17 (by kernel_rfl) fun u0 e0 g0 h0 => ?_
      replace g0 : u0 = .pointer (some ⟨b, 0, none⟩) := g0
      subst g0
      have z0 := hW.kp.cell q0c id
      have z1 := hW.kp.cell q1c id
      have z2 := hW.kp.cell q2c id
      go_simp
      exact hK _ _ rfl (hW.upd (by kernel_rfl) _)
    · intro r a w' hf hg hW hr hd K hK
      refine wpOp_of rfl rfl ?_
      go_simp
      exact hK _ _ trivial (hW.alloc (by kernel_rfl) HM0.out hr HV.out HS0.out)
    · intro r a w' hf hg hW hr hd K hK
      refine wpOp_of rfl rfl ?_
      go_simp
      exact hK _ _ trivial (hW.alloc (by kernel_rfl) HM1.out hr HV.out HS1.out)
    · intro r a w' hf hg hW hr hd K hK
      refine wpOp_of rfl rfl ?_
      refine hf.depE hg hd 2 15 (by kernel_rfl) fun u0 e0 g0 h0 => ?_
      replace g0 : u0 = .agg #[.bool s0, .slice A0 m0 c0, .slice D0 z9 d0] := g0
      subst g0
      refine hf.depE hg hd 6 4 (by kernel_rfl) fun u1 e1 _ h1 => ?_
      obtain ⟨g, hu, hgl, _, hz⟩ := hW.empty HM0.out hr h1
      subst hu
      simp only [ptrV] at e1
      obtain ⟨x0, x1, x2, y0, y1, y2⟩ := three_cells hz
      go_simp
      exact hK undef _ trivial (hW.store (by kernel_rfl) HM0.out h1 hgl HV.out HS0.out (kp_setQ _ _ _ _ _) (setQ_at hz _ _ _) _)
    · intro r a w' hf hg hW hr hd K hK
      refine wpOp_of rfl rfl ?_
      refine hf.depE hg hd 5 18 (by kernel_rfl) fun u0 e0 g0 h0 => ?_
      replace g0 : u0 = .agg #[.bool s0, .slice A0 m0 c0, .slice D0 z9 d0] := g0
      subst g0
      refine hf.depE hg hd 7 5 (by kernel_rfl) fun u1 e1 _ h1 => ?_
      obtain ⟨g, hu, hgl, _, hz⟩ := hW.empty HM1.out hr h1
      subst hu
      simp only [ptrV] at e1
      obtain ⟨x0, x1, x2, y0, y1, y2⟩ := three_cells hz
      go_simp
      exact hK undef _ trivial (hW.store (by kernel_rfl) HM1.out h1 hgl HV.out HS1.out (kp_setQ _ _ _ _ _) (setQ_at hz _ _ _) _)
  intro r' w3 hg hW hr'
  obtain ⟨g0, hg0, hl0, hm0, hb0⟩ := hW.filled HM0.out (hr' 8 (by decide))
  obtain ⟨g1, hg1, hl1, hm1, hb1⟩ := hW.filled HM1.out (hr' 9 (by decide))
  have hkN := hW.kp
  have hn01 : g0 ≠ g1 := hW.ne _ HM0.out _ HM1.out (show (6 : Nat) ≠ 7 from by decide) _ _ hg0 hg1
  replace hg0 : r' 6 = some (.pointer (some ⟨g0, 0, none⟩)) := hg0
  replace hg1 : r' 7 = some (.pointer (some ⟨g1, 0, none⟩)) := hg1
  simp only [List.length_cons, List.length_nil, Nat.reduceAdd, List.range_succ, List.range_zero, List.nil_append, List.cons_append, List.map_cons, List.map_nil, putAll, Act.put, List.setIfInBounds_toArray, List.set_cons_succ, List.set_cons_zero, hg0, hg1, Option.getD_some]
  clear hg hW hr' hg0 HM0 HS0 hg1 HM1 HS1 HV
  generalize g0 = gl at *
  generalize g1 = gh at *
  have HG := Lib.hid (show gl ≠ gh ∧ w.heap.size < gl ∧ w.heap.size < gh by have := S1.out; omega)
  have KB := Lib.hid (K1.out.tr hkN)
  have HR3 := Lib.hid (hkN.heap HR.out id)
  have QL := Lib.hid (show QBox w w3 gl q0 from ⟨_, _, by rw [HN0.out]; exact hb0, by rw [HN0.out]; exact I0.out⟩)
  have QH := Lib.hid (show QBox w w3 gh q0 from ⟨_, _, by rw [HN0.out]; exact hb1, by rw [HN0.out]; exact I0.out⟩)
  clear hl0 hl1 hm0 hm1 hb0 hb1 hkN hn01 q0c q1c q2c K1 HR HV HS0 HM0 HS1 HM1
  go_wp2_with fail
  go_loopw [6] (fun s wr => ∃ k : Nat, 1 ≤ k ∧ k ≤ n ∧ s = .int .i64 k ∧ QBox w wr gl (lowQ q0 (L.take k)) ∧ QBox w wr gh (highQ q0 (L.take k)) ∧ wr.heap[w.heap.size]? = some (.cells #[.int .i64 0, .int .i64 0] 53 (0, 0)) ∧ Kp No w wr) (fun s _ => n - (intOf s).toNat)
  case atStart => exact ⟨1, by omega, by omega, rfl, by rw [HTK.out.1]; exact QL.out, by rw [HTK.out.2]; exact QH.out, HR3.out, KB.out⟩
  case round =>
    obtain ⟨k, hk1, hk, rfl, hL, hH, hR, hkp⟩ := hrel
    clear QL QH HR3 KB
    have HL := Lib.hid hL
    have HH := Lib.hid hH
    have HRR := Lib.hid hR
    have KP := Lib.hid hkp
    clear hL hH hR hkp
    by_cases hlt : k < n
    · obtain ⟨x, hx⟩ : ∃ x, L[k]? = some x := ⟨_, List.getElem?_eq_getElem (by omega)⟩
      obtain ⟨nn, dd, x0, x1, x2, ix⟩ := HQ.out k x hx
      obtain ⟨Ax, mx, cx, Dx, px, dx, rfl, rfl, _, _⟩ := ix.lens
      have HTL := Lib.hid (show lowQ q0 (L.take (k + 1)) = if x < lowQ q0 (L.take k) then x else lowQ q0 (L.take k) by rw [List.take_add_one, hx]; exact lowQ_snoc _ _ _)
      have HTH := Lib.hid (show highQ q0 (L.take (k + 1)) = if highQ q0 (L.take k) < x then x else highQ q0 (L.take k) by rw [List.take_add_one, hx]; exact highQ_snoc _ _ _)
      generalize lowQ q0 (L.take k) = lo at *
      generalize highQ q0 (L.take k) = hi at *
      have hbw : b < w.heap.size := World.block_lt_of_cell? _ _ x0
      have nL := Lib.hid (show ¬ Kq.One gl b from fun e => by have := HG.out; unfold Kq.One at e; omega)
      have nH := Lib.hid (show ¬ Kq.One gh b from fun e => by have := HG.out; unfold Kq.One at e; omega)
      obtain ⟨sx, hsx⟩ : ∃ s, negQ x = s := ⟨_, rfl⟩
      rw [hsx] at x0 ix
      have HSX := Lib.hid hsx
      have IX := Lib.hid ix
      replace x0 := KP.out.cell x0 id
      replace x1 := KP.out.cell x1 id
      replace x2 := KP.out.cell x2 id
      have hk0 : (0 : Int) ≤ (k : Int) := by omega
      have hkn : (k : Int) < (n : Int) := by omega
      clear hx hsx ix hbw
      obtain ⟨nb0, db0, hbx, ib⟩ := HL.out
      obtain ⟨Ab, mb, cb, Db, pb, db, rfl, rfl, _, _⟩ := ib.lens
      obtain ⟨sb, hsb⟩ : ∃ s, negQ lo = s := ⟨_, rfl⟩
      rw [hsb] at hbx ib
      obtain ⟨b0, b1, b2, f0, f1, f2⟩ := three_cells hbx
      have QC := Lib.hid (fun (w0 : World) (h : Kp No wr w0) => qcmp_is _ _ x lo 60 60 w0 (IX.out.no (KP.out.tr h)) (ib.no (KP.out.tr h)) (by omega))
      have HC := Lib.hid (cmpQ_lt (a := x) (b := lo))
      generalize cmpQ x lo = cc at *
      replace hbx := Lib.hid hbx
      clear ib hsb
      go_wp2_with fail
      have FS : Stab (fun ix wz u => True) := fun ix u wz wz' kz h => trivial
      have FS := Lib.hid FS
      refine wp_region_each (fun ix u => match ix with | 0 => u = .slice (some ⟨b, 0, none⟩) n c | 1 => u = .int .i64 (k : Nat) | 2 => u = .pointer (some ⟨b, k * 3, none⟩) | 3 => u = .agg #[.bool sx, .slice Ax mx cx, .slice Dx px dx] | 4 => u = .agg #[.bool sb, .slice Ab mb cb, .slice Db pb db] | 5 => u = .tuple #[.int .i64 cc, .int .i64 0] | 6 => u = .tuple #[.int .i64 cc, .int .i64 0] | 7 => u = .int .i64 cc | 8 => u = .int .i64 0 | 9 => u = .int .i64 cc | 10 => u = .int .i64 0 | _ => True) (HvW wr (fun ix wz u => True)) (by kernel_rfl) (by kernel_rfl) (by kernel_rfl) ?_ ?_ ?_
      · exact HvW.start _ _
      · refine ⟨?_, ?_, ?_, ?_, ?_, ?_, ?_, ?_, ?_, ?_, ?_, trivial⟩
        · intro r a w' hf hg hW hr hd K hK
          refine wpOp_of rfl rfl ?_
          have e0 : a.tmps.getD 0 undef = .slice (some ⟨b, 0, none⟩) n c := hf.evalFree (by kernel_rfl)
          go_simp
          exact hK _ _ rfl (hW.upd 0 _ trivial)
        · intro r a w' hf hg hW hr hd K hK
          refine wpOp_of rfl rfl ?_
          have e0 : a.tmps.getD 6 undef = .int .i64 (k : Nat) := hf.evalFree (by kernel_rfl)
          go_simp
          exact hK _ _ rfl (hW.upd 1 _ trivial)
        · intro r a w' hf hg hW hr hd K hK
          refine wpOp_of rfl rfl ?_
          refine hf.depE hg hd 0 26 (by kernel_rfl) fun u0 e0 g0 h0 => ?_
          replace g0 : u0 = .slice (some ⟨b, 0, none⟩) n c := g0
          subst g0
          refine hf.depE hg hd 1 27 (by kernel_rfl) fun u1 e1 g1 h1 => ?_
          replace g1 : u1 = .int .i64 (k : Nat) := g1
          subst g1
          go_simp
          exact hK _ _ rfl (hW.upd 2 _ trivial)
        · intro r a w' hf hg hW hr hd K hK
          refine wpOp_of rfl rfl ?_
          refine hf.depE hg hd 2 28 (by kernel_rfl) fun u0 e0 g0 h0 => ?_
          replace g0 : u0 = .pointer (some ⟨b, k * 3, none⟩) := g0
          subst g0
          have z0 := hW.kp.cell x0 id
          have z1 := hW.kp.cell x1 id
          have z2 := hW.kp.cell x2 id
          go_simp
          exact hK _ _ rfl (hW.upd 3 _ trivial)
        · intro r a w' hf hg hW hr hd K hK
          refine wpOp_of rfl rfl ?_
          have e0 : a.tmps.getD 4 undef = .pointer (some ⟨gl, 0, none⟩) := hf.evalFree (by kernel_rfl)
          have z0 := hW.kp.cell b0 id
          have z1 := hW.kp.cell b1 id
          have z2 := hW.kp.cell b2 id
          go_simp
          exact hK _ _ rfl (hW.upd 4 _ trivial)
        · intro r a w' hf hg hW hr hd K hK
          refine wpOp_of rfl rfl ?_
          refine hf.depE hg hd 3 29 (by kernel_rfl) fun u0 e0 g0 h0 => ?_
          replace g0 : u0 = .agg #[.bool sx, .slice Ax mx cx, .slice Dx px dx] := g0
          subst g0
          refine hf.depE hg hd 4 30 (by kernel_rfl) fun u1 e1 g1 h1 => ?_
          replace g1 : u1 = .agg #[.bool sb, .slice Ab mb cb, .slice Db pb db] := g1
          subst g1
          go_simp
          with_reducible refine (QC.out _ hW.kp).mono ?_
          rintro e w'' ⟨rfl, k⟩
          exact hK _ _ rfl ((hW.call FS.out k).upd 5 _ trivial)
        · intro r a w' hf hg hW hr hd K hK
          refine wpOp_of rfl rfl ?_
          refine hf.depE hg hd 5 31 (by kernel_rfl) fun u0 e0 g0 h0 => ?_
          replace g0 : u0 = .tuple #[.int .i64 cc, .int .i64 0] := g0
          subst g0
          go_simp
          exact hK _ _ rfl (hW.upd 6 _ trivial)
        · intro r a w' hf hg hW hr hd K hK
          refine wpOp_of rfl rfl ?_
          refine hf.depE hg hd 6 25 (by kernel_rfl) fun u0 e0 g0 h0 => ?_
          replace g0 : u0 = .tuple #[.int .i64 cc, .int .i64 0] := g0
          subst g0
          go_simp
          exact hK _ _ rfl (hW.upd 7 _ trivial)
        · intro r a w' hf hg hW hr hd K hK
          refine wpOp_of rfl rfl ?_
          refine hf.depE hg hd 6 25 (by kernel_rfl) fun u0 e0 g0 h0 => ?_
          replace g0 : u0 = .tuple #[.int .i64 cc, .int .i64 0] := g0
          subst g0
          go_simp
          exact hK _ _ rfl (hW.upd 8 _ trivial)
        · intro r a w' hf hg hW hr hd K hK
          refine wpOp_of rfl rfl ?_
          refine hf.depE hg hd 7 32 (by kernel_rfl) fun u0 e0 g0 h0 => ?_
          replace g0 : u0 = .int .i64 cc := g0
          subst g0
          go_simp
          exact hK _ _ rfl (hW.upd 9 _ trivial)
        · intro r a w' hf hg hW hr hd K hK
          refine wpOp_of rfl rfl ?_
          refine hf.depE hg hd 8 33 (by kernel_rfl) fun u0 e0 g0 h0 => ?_
          replace g0 : u0 = .int .i64 0 := g0
          subst g0
          go_simp
          exact hK _ _ rfl (hW.upd 10 _ trivial)
      intro r' w3 hg hW hr'
      have hkN := hW.kp
      obtain ⟨q9, hq9⟩ : ∃ u, r' 9 = some u := Option.ne_none_iff_exists'.1 (hr' 9 (by decide))
      have hk9 := hg 9 q9 hq9
      replace hk9 : q9 = .int .i64 cc := hk9
      subst hk9
      obtain ⟨q10, hq10⟩ : ∃ u, r' 10 = some u := Option.ne_none_iff_exists'.1 (hr' 10 (by decide))
      have hk10 := hg 10 q10 hq10
      replace hk10 : q10 = .int .i64 0 := hk10
      subst hk10
      simp only [List.length_cons, List.length_nil, Nat.reduceAdd, List.range_succ, List.range_zero, List.nil_append, List.cons_append, List.map_cons, List.map_nil, putAll, Act.put, List.setIfInBounds_toArray, List.set_cons_succ, List.set_cons_zero, hq9, hq10, Option.getD_some]
      clear hg hW hr' FS hq9 hq10
      clear b0 b1 b2 QC f0 f1 f2
      have KN := Lib.hid (KP.out.tr hkN)
      have hKN := Lib.hid hkN
      replace x0 := hkN.cell x0 id
      replace x1 := hkN.cell x1 id
      replace x2 := hkN.cell x2 id
      have HB3 := Lib.hid (hkN.heap hbx.out id)
      have HH3 : QBox w w3 gh hi := by
        obtain ⟨n1, d1, h1, h2⟩ := HH.out
        exact ⟨n1, d1, hkN.heap h1 id, h2⟩
      replace HH3 := Lib.hid HH3
      have HR3 := Lib.hid (hkN.heap HRR.out id)
      obtain ⟨b0, b1, b2, f0, f1, f2⟩ := three_cells HB3.out
      clear hkN
      by_cases hc : cc < 0
      · have hlo := HTL.out
        rw [if_pos (HC.out.1 hc)] at hlo
        replace hlo := Lib.hid hlo
        go_wp2_with fail
        have kS := kp_setQ w3 gl (.bool sx) (.slice Ax mx cx) (.slice Dx px dx)
        have hS := setQ_at HB3.out (.bool sx) (.slice Ax mx cx) (.slice Dx px dx)
        generalize ((w3.setCell ⟨gl, 0, none⟩ (.bool sx)).setCell ⟨gl, 1, none⟩ (.slice Ax mx cx)).setCell ⟨gl, 2, none⟩ (.slice Dx px dx) = wq at *
        have QL := Lib.hid (show QBox w wq gl x from ⟨_, _, by rw [HSX.out]; exact hS, by rw [HSX.out]; exact IX.out⟩)
        have QH : QBox w wq gh hi := by
          obtain ⟨n1, d1, h1, h2⟩ := HH3.out
          exact ⟨n1, d1, kS.heap h1 (fun e => HG.out.1 e.symm), h2⟩
        have KQ := Lib.hid (KN.out.trans kS (T := Kq.One gl) (S := No) (fun k hk e => by have := HG.out; unfold Kq.One at e; omega))
        have HRQ := Lib.hid (kS.heap HR3.out (fun e => by have := HG.out; unfold Kq.One at e; omega))
        replace x0 := kS.cell x0 nL.out
        replace x1 := kS.cell x1 nL.out
        replace x2 := kS.cell x2 nL.out
        clear kS hS b0 b1 b2 f0 f1 f2 HB3 HR3 HH3 hc KN
        obtain ⟨nb1, db1, hbx, ib⟩ := QH
        obtain ⟨Ab, mb, cb, Db, pb, db, rfl, rfl, _, _⟩ := ib.lens
        obtain ⟨sb, hsb⟩ : ∃ s, negQ hi = s := ⟨_, rfl⟩
        rw [hsb] at hbx ib
        obtain ⟨b0, b1, b2, f0, f1, f2⟩ := three_cells hbx
        have QC := Lib.hid (fun (w0 : World) (h : Kp No wq w0) => qcmp_is _ _ x hi 60 60 w0 (IX.out.no (KQ.out.tr h)) (ib.no (KQ.out.tr h)) (by omega))
        have HC := Lib.hid (cmpQ_gt (a := x) (b := hi))
        generalize cmpQ x hi = cc at *
        have IB := Lib.hid ib
        have HSB := Lib.hid hsb
        replace hbx := Lib.hid hbx
        clear ib hsb
        have FS : Stab (fun ix wz u => True) := fun ix u wz wz' kz h => trivial
        have FS := Lib.hid FS
        refine wp_region_each (fun ix u => match ix with | 0 => u = .slice (some ⟨b, 0, none⟩) n c | 1 => u = .int .i64 (k : Nat) | 2 => u = .pointer (some ⟨b, k * 3, none⟩) | 3 => u = .agg #[.bool sx, .slice Ax mx cx, .slice Dx px dx] | 4 => u = .agg #[.bool sb, .slice Ab mb cb, .slice Db pb db] | 5 => u = .tuple #[.int .i64 cc, .int .i64 0] | 6 => u = .tuple #[.int .i64 cc, .int .i64 0] | 7 => u = .int .i64 cc | 8 => u = .int .i64 0 | 9 => u = .int .i64 cc | _ => True) (HvW wq (fun ix wz u => True)) (by kernel_rfl) (by kernel_rfl) (by kernel_rfl) ?_ ?_ ?_
        · exact HvW.start _ _
        · refine ⟨?_, ?_, ?_, ?_, ?_, ?_, ?_, ?_, ?_, ?_, trivial⟩
          · intro r a w' hf hg hW hr hd K hK
            refine wpOp_of rfl rfl ?_
            have e0 : a.tmps.getD 0 undef = .slice (some ⟨b, 0, none⟩) n c := hf.evalFree (by kernel_rfl)
            go_simp
            exact hK _ _ rfl (hW.upd 0 _ trivial)
          · intro r a w' hf hg hW hr hd K hK
            refine wpOp_of rfl rfl ?_
            have e0 : a.tmps.getD 6 undef = .int .i64 (k : Nat) := hf.evalFree (by kernel_rfl)
            go_simp
            exact hK _ _ rfl (hW.upd 1 _ trivial)
          · intro r a w' hf hg hW hr hd K hK
            refine wpOp_of rfl rfl ?_
            refine hf.depE hg hd 0 41 (by kernel_rfl) fun u0 e0 g0 h0 => ?_
            replace g0 : u0 = .slice (some ⟨b, 0, none⟩) n c := g0
            subst g0
            refine hf.depE hg hd 1 42 (by kernel_rfl) fun u1 e1 g1 h1 => ?_
            replace g1 : u1 = .int .i64 (k : Nat) := g1
            subst g1
            go_simp
            exact hK _ _ rfl (hW.upd 2 _ trivial)
          · intro r a w' hf hg hW hr hd K hK
            refine wpOp_of rfl rfl ?_
            refine hf.depE hg hd 2 43 (by kernel_rfl) fun u0 e0 g0 h0 => ?_
            replace g0 : u0 = .pointer (some ⟨b, k * 3, none⟩) := g0
            subst g0
            have z0 := hW.kp.cell x0 id
            have z1 := hW.kp.cell x1 id
            have z2 := hW.kp.cell x2 id
            go_simp
            exact hK _ _ rfl (hW.upd 3 _ trivial)
          · intro r a w' hf hg hW hr hd K hK
            refine wpOp_of rfl rfl ?_
            have e0 : a.tmps.getD 5 undef = .pointer (some ⟨gh, 0, none⟩) := hf.evalFree (by kernel_rfl)
            have z0 := hW.kp.cell b0 id
            have z1 := hW.kp.cell b1 id
            have z2 := hW.kp.cell b2 id
            go_simp
            exact hK _ _ rfl (hW.upd 4 _ trivial)
          · intro r a w' hf hg hW hr hd K hK
            refine wpOp_of rfl rfl ?_
            refine hf.depE hg hd 3 44 (by kernel_rfl) fun u0 e0 g0 h0 => ?_
            replace g0 : u0 = .agg #[.bool sx, .slice Ax mx cx, .slice Dx px dx] := g0
            subst g0
            refine hf.depE hg hd 4 45 (by kernel_rfl) fun u1 e1 g1 h1 => ?_
            replace g1 : u1 = .agg #[.bool sb, .slice Ab mb cb, .slice Db pb db] := g1
            subst g1
            go_simp
            with_reducible refine (QC.out _ hW.kp).mono ?_
            rintro e w'' ⟨rfl, k⟩
            exact hK _ _ rfl ((hW.call FS.out k).upd 5 _ trivial)
          · intro r a w' hf hg hW hr hd K hK
            refine wpOp_of rfl rfl ?_
            refine hf.depE hg hd 5 46 (by kernel_rfl) fun u0 e0 g0 h0 => ?_
            replace g0 : u0 = .tuple #[.int .i64 cc, .int .i64 0] := g0
            subst g0
            go_simp
            exact hK _ _ rfl (hW.upd 6 _ trivial)
          · intro r a w' hf hg hW hr hd K hK
            refine wpOp_of rfl rfl ?_
            refine hf.depE hg hd 6 40 (by kernel_rfl) fun u0 e0 g0 h0 => ?_
            replace g0 : u0 = .tuple #[.int .i64 cc, .int .i64 0] := g0
            subst g0
            go_simp
            exact hK _ _ rfl (hW.upd 7 _ trivial)
          · intro r a w' hf hg hW hr hd K hK
            refine wpOp_of rfl rfl ?_
            refine hf.depE hg hd 6 40 (by kernel_rfl) fun u0 e0 g0 h0 => ?_
            replace g0 : u0 = .tuple #[.int .i64 cc, .int .i64 0] := g0
            subst g0
            go_simp
            exact hK _ _ rfl (hW.upd 8 _ trivial)
          · intro r a w' hf hg hW hr hd K hK
            refine wpOp_of rfl rfl ?_
            refine hf.depE hg hd 7 47 (by kernel_rfl) fun u0 e0 g0 h0 => ?_
            replace g0 : u0 = .int .i64 cc := g0
            subst g0
            go_simp
            exact hK _ _ rfl (hW.upd 9 _ trivial)
        intro r' w4 hg hW hr'
        have hkN := hW.kp
        obtain ⟨q9, hq9⟩ : ∃ u, r' 9 = some u := Option.ne_none_iff_exists'.1 (hr' 9 (by decide))
        have hk9 := hg 9 q9 hq9
        replace hk9 : q9 = .int .i64 cc := hk9
        subst hk9
        simp only [List.length_cons, List.length_nil, Nat.reduceAdd, List.range_succ, List.range_zero, List.nil_append, List.cons_append, List.map_cons, List.map_nil, putAll, Act.put, List.setIfInBounds_toArray, List.set_cons_succ, List.set_cons_zero, hq9, Option.getD_some]
        clear hg hW hr' FS hq9
        clear b0 b1 b2 QC f0 f1 f2
        have KQ4 := Lib.hid (KQ.out.tr hkN)
        replace x0 := hkN.cell x0 id
        replace x1 := hkN.cell x1 id
        replace x2 := hkN.cell x2 id
        have HB4 := Lib.hid (hkN.heap hbx.out id)
        have QL4 : QBox w w4 gl x := by
          obtain ⟨n1, d1, h1, h2⟩ := QL.out
          exact ⟨n1, d1, hkN.heap h1 id, h2⟩
        replace QL4 := Lib.hid QL4
        have HRQ4 := Lib.hid (hkN.heap HRQ.out id)
        obtain ⟨b0, b1, b2, f0, f1, f2⟩ := three_cells HB4.out
        clear hkN
        by_cases hc : 0 < cc
        · have hhi := HTH.out
          rw [if_pos (HC.out.1 hc)] at hhi
          replace hhi := Lib.hid hhi
          go_wp2_with fail
          have kS := kp_setQ w4 gh (.bool sx) (.slice Ax mx cx) (.slice Dx px dx)
          have hS := setQ_at HB4.out (.bool sx) (.slice Ax mx cx) (.slice Dx px dx)
          generalize ((w4.setCell ⟨gh, 0, none⟩ (.bool sx)).setCell ⟨gh, 1, none⟩ (.slice Ax mx cx)).setCell ⟨gh, 2, none⟩ (.slice Dx px dx) = wz at *
          have QH5 := Lib.hid (show QBox w wz gh x from ⟨_, _, by rw [HSX.out]; exact hS, by rw [HSX.out]; exact IX.out⟩)
          have QL5 : QBox w wz gl x := by
            obtain ⟨n1, d1, h1, h2⟩ := QL4.out
            exact ⟨n1, d1, kS.heap h1 (fun e => HG.out.1 e), h2⟩
          replace QL5 := Lib.hid QL5
          have KQ5 := Lib.hid (KQ4.out.trans kS (T := Kq.One gh) (S := No) (fun k hk e => by have := HG.out; unfold Kq.One at e; omega))
          have HRQ5 := Lib.hid (kS.heap HRQ4.out (fun e => by have := HG.out; unfold Kq.One at e; omega))
          clear kS hS b0 b1 b2 f0 f1 f2 x0 x1 x2 QL4 HB4
          go_wp2_with fail
          go_round
          case rel => exact ⟨k + 1, by omega, by omega, by go_num, by rw [hlo.out]; exact QL5.out, by rw [hhi.out]; exact QH5.out, HRQ5.out, KQ5.out⟩
          case measure => simp [intOf] <;> omega
        · have hhi := HTH.out
          rw [if_neg (fun h => hc (HC.out.2 h))] at hhi
          replace hhi := Lib.hid hhi
          have QH5 := Lib.hid (show QBox w w4 gh hi from ⟨_, _, by rw [HSB.out]; exact HB4.out, by rw [HSB.out]; exact IB.out⟩)
          clear b0 b1 b2 f0 f1 f2 x0 x1 x2 HB4
          go_wp2_with fail
          go_round
          case rel => exact ⟨k + 1, by omega, by omega, by go_num, by rw [hlo.out]; exact QL4.out, by rw [hhi.out]; exact QH5.out, HRQ4.out, KQ4.out⟩
          case measure => simp [intOf] <;> omega
      · have hlo := HTL.out
        rw [if_neg (fun h => hc (HC.out.2 h))] at hlo
        replace hlo := Lib.hid hlo
        have QL : QBox w w3 gl lo := by
          obtain ⟨n1, d1, h1, h2⟩ := HL.out
          exact ⟨n1, d1, (show Kp No wr w3 from hKN.out).heap h1 id, h2⟩
        replace QL := Lib.hid QL
        have QH := HH3.out
        have KQ := Lib.hid KN.out
        have HRQ := Lib.hid HR3.out
        clear b0 b1 b2 f0 f1 f2 HR3 HH3 KN
        go_wp2_with fail
        generalize w3 = wq at *
        obtain ⟨nb1, db1, hbx, ib⟩ := QH
        obtain ⟨Ab, mb, cb, Db, pb, db, rfl, rfl, _, _⟩ := ib.lens
        obtain ⟨sb, hsb⟩ : ∃ s, negQ hi = s := ⟨_, rfl⟩
        rw [hsb] at hbx ib
        obtain ⟨b0, b1, b2, f0, f1, f2⟩ := three_cells hbx
        have QC := Lib.hid (fun (w0 : World) (h : Kp No wq w0) => qcmp_is _ _ x hi 60 60 w0 (IX.out.no (KQ.out.tr h)) (ib.no (KQ.out.tr h)) (by omega))
        have HC := Lib.hid (cmpQ_gt (a := x) (b := hi))
        generalize cmpQ x hi = cc at *
        have IB := Lib.hid ib
        have HSB := Lib.hid hsb
        replace hbx := Lib.hid hbx
        clear ib hsb
        have FS : Stab (fun ix wz u => True) := fun ix u wz wz' kz h => trivial
        have FS := Lib.hid FS
        refine wp_region_each (fun ix u => match ix with | 0 => u = .slice (some ⟨b, 0, none⟩) n c | 1 => u = .int .i64 (k : Nat) | 2 => u = .pointer (some ⟨b, k * 3, none⟩) | 3 => u = .agg #[.bool sx, .slice Ax mx cx, .slice Dx px dx] | 4 => u = .agg #[.bool sb, .slice Ab mb cb, .slice Db pb db] | 5 => u = .tuple #[.int .i64 cc, .int .i64 0] | 6 => u = .tuple #[.int .i64 cc, .int .i64 0] | 7 => u = .int .i64 cc | 8 => u = .int .i64 0 | 9 => u = .int .i64 cc | _ => True) (HvW wq (fun ix wz u => True)) (by kernel_rfl) (by kernel_rfl) (by kernel_rfl) ?_ ?_ ?_
        · exact HvW.start _ _
        · refine ⟨?_, ?_, ?_, ?_, ?_, ?_, ?_, ?_, ?_, ?_, trivial⟩
          · intro r a w' hf hg hW hr hd K hK
            refine wpOp_of rfl rfl ?_
            have e0 : a.tmps.getD 0 undef = .slice (some ⟨b, 0, none⟩) n c := hf.evalFree (by kernel_rfl)
            go_simp
            exact hK _ _ rfl (hW.upd 0 _ trivial)
          · intro r a w' hf hg hW hr hd K hK
            refine wpOp_of rfl rfl ?_
            have e0 : a.tmps.getD 6 undef = .int .i64 (k : Nat) := hf.evalFree (by kernel_rfl)
            go_simp
            exact hK _ _ rfl (hW.upd 1 _ trivial)
          · intro r a w' hf hg hW hr hd K hK
            refine wpOp_of rfl rfl ?_
            refine hf.depE hg hd 0 41 (by kernel_rfl) fun u0 e0 g0 h0 => ?_
            replace g0 : u0 = .slice (some ⟨b, 0, none⟩) n c := g0
            subst g0
            refine hf.depE hg hd 1 42 (by kernel_rfl) fun u1 e1 g1 h1 => ?_
            replace g1 : u1 = .int .i64 (k : Nat) := g1
            subst g1
            go_simp
            exact hK _ _ rfl (hW.upd 2 _ trivial)
          · intro r a w' hf hg hW hr hd K hK
            refine wpOp_of rfl rfl ?_
            refine hf.depE hg hd 2 43 (by kernel_rfl) fun u0 e0 g0 h0 => ?_
            replace g0 : u0 = .pointer (some ⟨b, k * 3, none⟩) := g0
            subst g0
            have z0 := hW.kp.cell x0 id
            have z1 := hW.kp.cell x1 id
            have z2 := hW.kp.cell x2 id
            go_simp
            exact hK _ _ rfl (hW.upd 3 _ trivial)
          · intro r a w' hf hg hW hr hd K hK
            refine wpOp_of rfl rfl ?_
            have e0 : a.tmps.getD 5 undef = .pointer (some ⟨gh, 0, none⟩) := hf.evalFree (by kernel_rfl)
            have z0 := hW.kp.cell b0 id
            have z1 := hW.kp.cell b1 id
            have z2 := hW.kp.cell b2 id
            go_simp
            exact hK _ _ rfl (hW.upd 4 _ trivial)
          · intro r a w' hf hg hW hr hd K hK
            refine wpOp_of rfl rfl ?_
            refine hf.depE hg hd 3 44 (by kernel_rfl) fun u0 e0 g0 h0 => ?_
            replace g0 : u0 = .agg #[.bool sx, .slice Ax mx cx, .slice Dx px dx] := g0
            subst g0
            refine hf.depE hg hd 4 45 (by kernel_rfl) fun u1 e1 g1 h1 => ?_
            replace g1 : u1 = .agg #[.bool sb, .slice Ab mb cb, .slice Db pb db] := g1
            subst g1
            go_simp
            with_reducible refine (QC.out _ hW.kp).mono ?_
            rintro e w'' ⟨rfl, k⟩
            exact hK _ _ rfl ((hW.call FS.out k).upd 5 _ trivial)
          · intro r a w' hf hg hW hr hd K hK
            refine wpOp_of rfl rfl ?_
            refine hf.depE hg hd 5 46 (by kernel_rfl) fun u0 e0 g0 h0 => ?_
            replace g0 : u0 = .tuple #[.int .i64 cc, .int .i64 0] := g0
            subst g0
            go_simp
            exact hK _ _ rfl (hW.upd 6 _ trivial)
          · intro r a w' hf hg hW hr hd K hK
            refine wpOp_of rfl rfl ?_
            refine hf.depE hg hd 6 40 (by kernel_rfl) fun u0 e0 g0 h0 => ?_
            replace g0 : u0 = .tuple #[.int .i64 cc, .int .i64 0] := g0
            subst g0
            go_simp
            exact hK _ _ rfl (hW.upd 7 _ trivial)
          · intro r a w' hf hg hW hr hd K hK
            refine wpOp_of rfl rfl ?_
            refine hf.depE hg hd 6 40 (by kernel_rfl) fun u0 e0 g0 h0 => ?_
            replace g0 : u0 = .tuple #[.int .i64 cc, .int .i64 0] := g0
            subst g0
            go_simp
            exact hK _ _ rfl (hW.upd 8 _ trivial)
          · intro r a w' hf hg hW hr hd K hK
            refine wpOp_of rfl rfl ?_
            refine hf.depE hg hd 7 47 (by kernel_rfl) fun u0 e0 g0 h0 => ?_
            replace g0 : u0 = .int .i64 cc := g0
            subst g0
            go_simp
            exact hK _ _ rfl (hW.upd 9 _ trivial)
        intro r' w4 hg hW hr'
        have hkN := hW.kp
        obtain ⟨q9, hq9⟩ : ∃ u, r' 9 = some u := Option.ne_none_iff_exists'.1 (hr' 9 (by decide))
        have hk9 := hg 9 q9 hq9
        replace hk9 : q9 = .int .i64 cc := hk9
        subst hk9
        simp only [List.length_cons, List.length_nil, Nat.reduceAdd, List.range_succ, List.range_zero, List.nil_append, List.cons_append, List.map_cons, List.map_nil, putAll, Act.put, List.setIfInBounds_toArray, List.set_cons_succ, List.set_cons_zero, hq9, Option.getD_some]
        clear hg hW hr' FS hq9
        clear b0 b1 b2 QC f0 f1 f2
        have KQ4 := Lib.hid (KQ.out.tr hkN)
        replace x0 := hkN.cell x0 id
        replace x1 := hkN.cell x1 id
        replace x2 := hkN.cell x2 id
        have HB4 := Lib.hid (hkN.heap hbx.out id)
        have QL4 : QBox w w4 gl lo := by
          obtain ⟨n1, d1, h1, h2⟩ := QL.out
          exact ⟨n1, d1, hkN.heap h1 id, h2⟩
        replace QL4 := Lib.hid QL4
        have HRQ4 := Lib.hid (hkN.heap HRQ.out id)
        obtain ⟨b0, b1, b2, f0, f1, f2⟩ := three_cells HB4.out
        clear hkN
        by_cases hc : 0 < cc
        · have hhi := HTH.out
          rw [if_pos (HC.out.1 hc)] at hhi
          replace hhi := Lib.hid hhi
          go_wp2_with fail
          have kS := kp_setQ w4 gh (.bool sx) (.slice Ax mx cx) (.slice Dx px dx)
          have hS := setQ_at HB4.out (.bool sx) (.slice Ax mx cx) (.slice Dx px dx)
          generalize ((w4.setCell ⟨gh, 0, none⟩ (.bool sx)).setCell ⟨gh, 1, none⟩ (.slice Ax mx cx)).setCell ⟨gh, 2, none⟩ (.slice Dx px dx) = wz at *
          have QH5 := Lib.hid (show QBox w wz gh x from ⟨_, _, by rw [HSX.out]; exact hS, by rw [HSX.out]; exact IX.out⟩)
          have QL5 : QBox w wz gl lo := by
            obtain ⟨n1, d1, h1, h2⟩ := QL4.out
            exact ⟨n1, d1, kS.heap h1 (fun e => HG.out.1 e), h2⟩
          replace QL5 := Lib.hid QL5
          have KQ5 := Lib.hid (KQ4.out.trans kS (T := Kq.One gh) (S := No) (fun k hk e => by have := HG.out; unfold Kq.One at e; omega))
          have HRQ5 := Lib.hid (kS.heap HRQ4.out (fun e => by have := HG.out; unfold Kq.One at e; omega))
          clear kS hS b0 b1 b2 f0 f1 f2 x0 x1 x2 QL4 HB4
          go_wp2_with fail
          go_round
          case rel => exact ⟨k + 1, by omega, by omega, by go_num, by rw [hlo.out]; exact QL5.out, by rw [hhi.out]; exact QH5.out, HRQ5.out, KQ5.out⟩
          case measure => simp [intOf] <;> omega
        · have hhi := HTH.out
          rw [if_neg (fun h => hc (HC.out.2 h))] at hhi
          replace hhi := Lib.hid hhi
          have QH5 := Lib.hid (show QBox w w4 gh hi from ⟨_, _, by rw [HSB.out]; exact HB4.out, by rw [HSB.out]; exact IB.out⟩)
          clear b0 b1 b2 f0 f1 f2 x0 x1 x2 HB4
          go_wp2_with fail
          go_round
          case rel => exact ⟨k + 1, by omega, by omega, by go_num, by rw [hlo.out]; exact QL4.out, by rw [hhi.out]; exact QH5.out, HRQ4.out, KQ4.out⟩
          case measure => simp [intOf] <;> omega
    · obtain rfl : k = n := by omega
      have hkk : ¬ ((k : Int) < (k : Int)) := by omega
      rw [List.take_of_length_le (by omega)] at HL HH
      generalize lowQ q0 L = lo at *
      generalize highQ q0 L = hi at *
      obtain ⟨nb0, db0, hbx, ib⟩ := HL.out
      obtain ⟨Ab, mb, cb, Db, pb, db, rfl, rfl, _, _⟩ := ib.lens
      obtain ⟨nh0, dh0, hbh, ih⟩ := HH.out
      obtain ⟨Ah, mh, ch, Dh, ph, dh, rfl, rfl, _, _⟩ := ih.lens
      have FL := Lib.hid (floor_is _ lo 60 wr (ib.no KP.out) (by omega))
      have CE := Lib.hid (fun (w0 : World) (h : Kp No wr w0) => ceil_is _ hi 60 w0 (ih.no (KP.out.tr h)) (by omega))
      generalize negQ lo = sb at *
      generalize negQ hi = sh at *
      obtain ⟨b0, b1, b2, _⟩ := three_cells hbx
      have HBH := Lib.hid hbh
      generalize lo.floor = Z1 at *
      generalize hi.ceil = Z2 at *
      unfold flV at FL CE
      have hrv := HRV.out
      unfold spanE at hrv
      clear ib ih hbx hbh HL HH
      obtain ⟨t1, ht1⟩ : ∃ t, in62 Z1 = t := ⟨_, rfl⟩
      obtain ⟨t2, ht2⟩ : ∃ t, in62 Z2 = t := ⟨_, rfl⟩
      rw [ht1] at FL hrv
      rw [ht2] at CE hrv
      replace hrv := Lib.hid hrv
      clear ht1 ht2 HRV
      go_wp2_with fail
      refine FL.out.mono ?_
      rintro _ wc ⟨rfl, kc⟩
      have KC := Lib.hid (KP.out.tr kc)
      have CE2 := Lib.hid (CE.out wc kc)
      obtain ⟨b3, b4, b5, _⟩ := three_cells (kc.heap HBH.out id)
      have HRC := Lib.hid (kc.heap HRR.out id)
      clear b0 b1 b2 FL CE kc
      cases t1 <;> cases t2
      all_goals
        have hrv2 := hrv.out
        simp [ieV, ivV] at hrv2
        subst hrv2
        replace CE2 := CE2.out
        simp only [Bool.false_eq_true, if_false, if_true] at CE2
        go_wp2_with fail
        refine CE2.mono ?_
        rintro _ wd ⟨rfl, kd⟩
        have KD := Lib.hid (KC.out.tr kd)
        have hr := kd.heap HRC.out id
        obtain ⟨r0, r1, z0, z1⟩ := two_cells hr
        clear b3 b4 b5 kd
        go_wp2_with fail
        first
        | (have hs := setI_at hr (.int .i64 0) (.int .i64 0)
           obtain ⟨v0, v1, _, _⟩ := two_cells hs
           exact bodyPost_ret (v := .tuple #[.agg #[.int .i64 0, .int .i64 0], .int .i64 7]) (by simp [results, Tryz.results47, go_sem, v0, v1]) rfl ⟨rfl, kp_set2 KD.out (Nat.le_refl _)⟩)
        | (have hs := setI_at hr (.int .i64 Z1) (.int .i64 Z2)
           obtain ⟨v0, v1, _, _⟩ := two_cells hs
           exact bodyPost_ret (v := .tuple #[.agg #[.int .i64 Z1, .int .i64 Z2], .int .i64 0]) (by simp [results, Tryz.results47, go_sem, v0, v1]) rfl ⟨rfl, kp_set2 KD.out (Nat.le_refl _)⟩)
end Go.Proofs.YtakgcnjpmpcekaaGreat
