/- Chapter 09: the law of Pipes: the walk. Printed by gen_lpp.py. · Chapter 09: how a pipe that came in is read. -/
import Derived.ProofKit
import Derived.OpenShut
import Derived.Deep.Slices
import Derived.Deep.Fields
import Derived.ChangeSame
import Derived.Test.YtamjhpdgclbfgaaGreatXPpFM
import Derived.Test.YtamjhpdgclbfgaaGreatXAwk
import Derived.Test.YtamjhpdgclbfgaaGreatXLibQuoFM
namespace Go.Proofs.YtamjhpdgclbfgaaGreat
open Go.RowKit Go.Kq

set_option maxHeartbeats 8000000 in
set_option maxRecDepth 100000 in
theorem tpipes_any (x y z u : Int) (w : World) :
    Calls Tryz.prog 3 #[.agg #[.int .i64 x, .int .i64 y, .int .i64 z, .int .i64 u]] w fun e w' => e = .returned (.bool true) ∧ Kp No w w' := by
  have HB := Lib.hid (fun w0 => Body_any x z u w0)
  have HC := Lib.hid (fun w0 => rBody_any x z u w0)
  have HF := Lib.hid (fun w0 => Foot_any x y z u w0)
  have HG := Lib.hid (fun w0 => rFoot_any x y z u w0)
  obtain ⟨⟨⟨a1, a2⟩, e1⟩, hv1⟩ : ∃ v, bodyV x z u = v := ⟨_, rfl⟩
  obtain ⟨⟨⟨b1, b2⟩, e2⟩, hv2⟩ : ∃ v, footV x y z u = v := ⟨_, rfl⟩
  rw [hv1] at HB HC
  rw [hv2] at HF HG
  simp only [Ct.val] at HB HC HF HG
  clear hv1 hv2
  obtain ⟨g0, hg0⟩ : ∃ g0, g0 = w.heap.size := ⟨_, rfl⟩
  have hk0 : Kp No w (w.alloc (.cells #[.int .i64 x, .int .i64 y, .int .i64 z, .int .i64 u] 23)) := Kp.alloc _ _ _
  have h0 : (w.alloc (.cells #[.int .i64 x, .int .i64 y, .int .i64 z, .int .i64 u] 23)).heap[g0]? = some (.cells #[.int .i64 x, .int .i64 y, .int .i64 z, .int .i64 u] 23 (0, 0)) := by rw [hg0]; exact heap_alloc_new _ _
  have p0 : (w.alloc (.cells #[.int .i64 x, .int .i64 y, .int .i64 z, .int .i64 u] 23)).cell? ⟨g0, 0, none⟩ = some (.int .i64 x) := by rw [cell_of_row _ _ _ _ _ _ h0]; rfl
  have p1 : (w.alloc (.cells #[.int .i64 x, .int .i64 y, .int .i64 z, .int .i64 u] 23)).cell? ⟨g0, 1, none⟩ = some (.int .i64 y) := by rw [cell_of_row _ _ _ _ _ _ h0]; rfl
  have p2 : (w.alloc (.cells #[.int .i64 x, .int .i64 y, .int .i64 z, .int .i64 u] 23)).cell? ⟨g0, 2, none⟩ = some (.int .i64 z) := by rw [cell_of_row _ _ _ _ _ _ h0]; rfl
  have p3 : (w.alloc (.cells #[.int .i64 x, .int .i64 y, .int .i64 z, .int .i64 u] 23)).cell? ⟨g0, 3, none⟩ = some (.int .i64 u) := by rw [cell_of_row _ _ _ _ _ _ h0]; rfl
  clear h0
  go_enter Tryz.func3, Tryz.ntmps3
  go_wp2_with fail
  rw [← hg0]
  generalize (w.alloc (.cells #[.int .i64 x, .int .i64 y, .int .i64 z, .int .i64 u] 23)) = w0 at *
  clear hg0
  replace hk0 := Lib.hid hk0
  with_reducible refine (HB.out w0).mono ?_
  rintro e w1 ⟨rfl, k⟩
  have K1 := Lib.hid (hk0.out.tr k)
  replace p0 := k.cell p0 id
  replace p1 := k.cell p1 id
  replace p2 := k.cell p2 id
  replace p3 := k.cell p3 id
  clear k hk0 HB
  obtain ⟨g1, hg⟩ : ∃ g, w1.heap.size = g := ⟨_, rfl⟩
  obtain ⟨w2, hw⟩ : ∃ w2, w1.alloc (.cells #[.int .i64 a1, .int .i64 a2] 25) = w2 := ⟨_, rfl⟩
  have k : Kp No w1 w2 := by rw [← hw]; exact Kp.alloc _ _ _
  have B : w2.heap[g1]? = some (.cells #[.int .i64 a1, .int .i64 a2] 25 (0, 0)) := by rw [← hw, ← hg]; exact heap_alloc_new _ _
  have K2 := Lib.hid (K1.out.tr k)
  replace p0 := k.cell p0 id
  replace p1 := k.cell p1 id
  replace p2 := k.cell p2 id
  replace p3 := k.cell p3 id
  have r00 : w2.cell? ⟨g1, 0, none⟩ = some (.int .i64 a1) := by rw [cell_of_row _ _ _ _ _ _ B]; rfl
  have r01 : w2.cell? ⟨g1, 1, none⟩ = some (.int .i64 a2) := by rw [cell_of_row _ _ _ _ _ _ B]; rfl
  clear k B K1
  go_wp2_with fail
  clear hw hg
  with_reducible refine (HC.out w2).mono ?_
  rintro e w3 ⟨rfl, k⟩
  have K3 := Lib.hid (K2.out.tr k)
  replace p0 := k.cell p0 id
  replace p1 := k.cell p1 id
  replace p2 := k.cell p2 id
  replace p3 := k.cell p3 id
  replace r00 := k.cell r00 id
  replace r01 := k.cell r01 id
  clear k K2 HC
  obtain ⟨g3, hg⟩ : ∃ g, w3.heap.size = g := ⟨_, rfl⟩
  obtain ⟨w4, hw⟩ : ∃ w2, w3.alloc (.cells #[.int .i64 a1, .int .i64 a2] 25) = w2 := ⟨_, rfl⟩
  have k : Kp No w3 w4 := by rw [← hw]; exact Kp.alloc _ _ _
  have B : w4.heap[g3]? = some (.cells #[.int .i64 a1, .int .i64 a2] 25 (0, 0)) := by rw [← hw, ← hg]; exact heap_alloc_new _ _
  have K4 := Lib.hid (K3.out.tr k)
  replace p0 := k.cell p0 id
  replace p1 := k.cell p1 id
  replace p2 := k.cell p2 id
  replace p3 := k.cell p3 id
  replace r00 := k.cell r00 id
  replace r01 := k.cell r01 id
  have r10 : w4.cell? ⟨g3, 0, none⟩ = some (.int .i64 a1) := by rw [cell_of_row _ _ _ _ _ _ B]; rfl
  have r11 : w4.cell? ⟨g3, 1, none⟩ = some (.int .i64 a2) := by rw [cell_of_row _ _ _ _ _ _ B]; rfl
  clear k B K3
  go_wp2_with fail
  clear hw hg
  with_reducible refine (HF.out w4).mono ?_
  rintro e w5 ⟨rfl, k⟩
  have K5 := Lib.hid (K4.out.tr k)
  replace p0 := k.cell p0 id
  replace p1 := k.cell p1 id
  replace p2 := k.cell p2 id
  replace p3 := k.cell p3 id
  replace r00 := k.cell r00 id
  replace r01 := k.cell r01 id
  replace r10 := k.cell r10 id
  replace r11 := k.cell r11 id
  clear k K4 HF
  obtain ⟨g5, hg⟩ : ∃ g, w5.heap.size = g := ⟨_, rfl⟩
  obtain ⟨w6, hw⟩ : ∃ w2, w5.alloc (.cells #[.int .i64 b1, .int .i64 b2] 25) = w2 := ⟨_, rfl⟩
  have k : Kp No w5 w6 := by rw [← hw]; exact Kp.alloc _ _ _
  have B : w6.heap[g5]? = some (.cells #[.int .i64 b1, .int .i64 b2] 25 (0, 0)) := by rw [← hw, ← hg]; exact heap_alloc_new _ _
  have K6 := Lib.hid (K5.out.tr k)
  replace p0 := k.cell p0 id
  replace p1 := k.cell p1 id
  replace p2 := k.cell p2 id
  replace p3 := k.cell p3 id
  replace r00 := k.cell r00 id
  replace r01 := k.cell r01 id
  replace r10 := k.cell r10 id
  replace r11 := k.cell r11 id
  have r20 : w6.cell? ⟨g5, 0, none⟩ = some (.int .i64 b1) := by rw [cell_of_row _ _ _ _ _ _ B]; rfl
  have r21 : w6.cell? ⟨g5, 1, none⟩ = some (.int .i64 b2) := by rw [cell_of_row _ _ _ _ _ _ B]; rfl
  clear k B K5
  go_wp2_with fail
  clear hw hg
  with_reducible refine (HG.out w6).mono ?_
  rintro e w7 ⟨rfl, k⟩
  have K7 := Lib.hid (K6.out.tr k)
  replace p0 := k.cell p0 id
  replace p1 := k.cell p1 id
  replace p2 := k.cell p2 id
  replace p3 := k.cell p3 id
  replace r00 := k.cell r00 id
  replace r01 := k.cell r01 id
  replace r10 := k.cell r10 id
  replace r11 := k.cell r11 id
  replace r20 := k.cell r20 id
  replace r21 := k.cell r21 id
  clear k K6 HG
  obtain ⟨g7, hg⟩ : ∃ g, w7.heap.size = g := ⟨_, rfl⟩
  obtain ⟨w8, hw⟩ : ∃ w2, w7.alloc (.cells #[.int .i64 b1, .int .i64 b2] 25) = w2 := ⟨_, rfl⟩
  have k : Kp No w7 w8 := by rw [← hw]; exact Kp.alloc _ _ _
  have B : w8.heap[g7]? = some (.cells #[.int .i64 b1, .int .i64 b2] 25 (0, 0)) := by rw [← hw, ← hg]; exact heap_alloc_new _ _
  have K8 := Lib.hid (K7.out.tr k)
  replace p0 := k.cell p0 id
  replace p1 := k.cell p1 id
  replace p2 := k.cell p2 id
  replace p3 := k.cell p3 id
  replace r00 := k.cell r00 id
  replace r01 := k.cell r01 id
  replace r10 := k.cell r10 id
  replace r11 := k.cell r11 id
  replace r20 := k.cell r20 id
  replace r21 := k.cell r21 id
  have r30 : w8.cell? ⟨g7, 0, none⟩ = some (.int .i64 b1) := by rw [cell_of_row _ _ _ _ _ _ B]; rfl
  have r31 : w8.cell? ⟨g7, 1, none⟩ = some (.int .i64 b2) := by rw [cell_of_row _ _ _ _ _ _ B]; rfl
  clear k B K7
  have ceq : ∀ w', (Op.equalIn 10000 25 (.agg #[.int .i64 a1, .int .i64 a2]) (.agg #[.int .i64 a1, .int .i64 a2])).run Tryz.prog w' = .ok true w' := fun w' => by rw [ct_equal]; simp
  have ceq2 : ∀ w', (Op.equalIn 10000 25 (.agg #[.int .i64 b1, .int .i64 b2]) (.agg #[.int .i64 b1, .int .i64 b2])).run Tryz.prog w' = .ok true w' := fun w' => by rw [ct_equal]; simp
  go_wp2_with fail
  clear hw hg
  with_reducible refine (awake_any w8).mono ?_
  rintro e w9 ⟨rfl, k⟩
  have KF := Lib.hid (K8.out.tr k)
  clear k
  go_wp2_with fail
  go_ret
  exact ⟨rfl, KF.out⟩
end Go.Proofs.YtamjhpdgclbfgaaGreat

namespace Go.Proofs.YtamjhpdgclbfgaaGreat
open Go.ChangeShapes Go.WideShapes Go.RowKit Go.Deep Go.Kq

section
variable {H : Type} {enc : TypeId × Value → H} {W : World} {base : Nat} {spare : Nat → Bool} {held : Bool}
theorem one_long {fuel : Nat} {v : Value} {y : DataW H × List MemPlace} (h : DataW.trod enc Tryz.prog W base spare held fuel 2 [v] = some y) : ∃ x : Int, v = .int .i64 x := by
  obtain ⟨x, h1, _⟩ := DataW.trod_int Tryz.underlying2 h
  simp at h1
  exact ⟨x, h1⟩
theorem cLong : Tryz.prog.cellsOf 2 = 1 := by kernel_rfl
theorem fld {t : TypeId} {fs : Array Field} {fuel : Nat} {cs : List Value} {y : DataW H × List MemPlace} (ht : Tryz.prog.underlying t = some (.struct fs)) (h : DataW.trod enc Tryz.prog W base spare held fuel t cs = some y) (i : Nat) (f : Field) (o k : Nat) (e : TypeId) (hf : fs[i]? = some f) (ho : f.offset = o) (he : f.type = e) (hk : Tryz.prog.cellsOf e = k) :
    ∃ n y, DataW.trod enc Tryz.prog W base spare held n e ((cs.drop o).take k) = some y := by
  obtain ⟨xs, n, _, _, _, hl, hx⟩ := DataW.trod_struct ht h
  have g := hx i f hf
  have hi := (Array.getElem?_eq_some_iff.1 hf).1
  rw [ho, he, hk, List.getElem?_eq_getElem (by omega)] at g
  exact ⟨n, _, g⟩
theorem cPipe : Tryz.prog.cellsOf 23 = 4 := by kernel_rfl
set_option maxRecDepth 100000 in
/-- Four numbers that came in. -/
theorem open_pipe {v : Value} {d : DataW H} {p : List MemPlace} {r : Reach} {b0 : Nat} (hv : Value.okWide Tryz.prog W r b0 23 v) (h : DataW.Trod enc Tryz.prog W base (fun _ => true) held 23 v d p) :
    ∃ x y z u : Int, v = .agg #[.int .i64 x, .int .i64 y, .int .i64 z, .int .i64 u] := by
  obtain ⟨cs, rfl, hsz⟩ := okWide_struct Tryz.underlying23 hv
  rw [cPipe] at hsz
  obtain ⟨fuel, hf⟩ := h
  obtain ⟨l⟩ := cs
  match l, hsz with
  | [a0, a1, a2, a3], _ =>
    obtain ⟨n0, y0, h0⟩ := fld Tryz.underlying23 hf 0 _ 0 1 2 rfl rfl rfl cLong
    obtain ⟨n1, y1, h1⟩ := fld Tryz.underlying23 hf 1 _ 1 1 2 rfl rfl rfl cLong
    obtain ⟨n2, y2, h2⟩ := fld Tryz.underlying23 hf 2 _ 2 1 2 rfl rfl rfl cLong
    obtain ⟨n3, y3, h3⟩ := fld Tryz.underlying23 hf 3 _ 3 1 2 rfl rfl rfl cLong
    simp [Value.cells] at h0 h1 h2 h3
    obtain ⟨x, rfl⟩ := one_long h0
    obtain ⟨y, rfl⟩ := one_long h1
    obtain ⟨z, rfl⟩ := one_long h2
    obtain ⟨u, rfl⟩ := one_long h3
    exact ⟨x, y, z, u, rfl⟩
end
end Go.Proofs.YtamjhpdgclbfgaaGreat
