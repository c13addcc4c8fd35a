/- Chapter 27: the law of VoicingNext. -/
import Derived.Test.YtjbpdimepckmfaaXAwk
import Derived.Test.YtjbpdimepckmfaaXNxt
import Derived.Test.YtjbpdimepckmfaaXRNx
namespace Go.Proofs.Ytjbpdimepckmfaa
open Go.RowKit Go.Kq

set_option maxHeartbeats 1000000 in
set_option maxRecDepth 100000 in
theorem tnext_any (A : Option Addr) (n ca : Nat) (l : List Wk) (v : Wk) (w : World) (hx : RdW w A n l) (hf : Fits l) (hca : n ≤ ca) (hv : v.tx.size ≤ maxLen) :
    Calls Try.prog 5 #[.slice A n ca, v.val] w fun e w' => e = .returned (.bool true) ∧ Kp No w w' := by
  have NA := fun w' (k : Kp No w w') => Next_any A n ca l v w' (hx.no k) hf hv
  have RA := fun w' (k : Kp No w w') => rNext_any A n ca l v w' (hx.no k) hf hv hca
  generalize nextV l v = R at NA RA
  obtain ⟨N, e0⟩ := R
  have HNA := Lib.hid NA
  have HRA := Lib.hid RA
  clear NA RA hx hf hv
  have HCEL := Lib.hid (show (.cells #[.int .i64 v.wk, .int .i64 v.num, .int .i64 v.ck, .int .i64 v.kd, .int .i64 v.rk, .int .i64 v.nt, .int .i64 v.fd, .int .i64 v.vl, .int .i64 v.ow, .int .i64 v.on, .string v.tx] 41 : Obj) = .cells v.cells.toArray 41 from rfl)
  simp only [Wk.val]
  go_enter Try.func5, Try.ntmps5
  go_wp2_with fail
  rw [HCEL.out]
  change Calls _ _ #[.slice A n ca, v.val] _ _
  have hk0 : Kp No w (w.alloc (.cells v.cells.toArray 41)) := Kp.alloc _ _ _
  have hb0 : BoxW (w.alloc (.cells v.cells.toArray 41)) w.heap.size v := heap_alloc_new _ _
  generalize w.alloc (.cells v.cells.toArray 41) = W0 at hk0 hb0 ⊢
  with_reducible refine (HNA.out W0 hk0).mono ?_
  rintro e w1 ⟨rfl, hk01⟩
  have hk1 := hk0.tr hk01
  have hb1 := hb0.kp hk01 id
  obtain ⟨y0, y1, y2, y3, y4, y5, y6, y7, y8, y9, y10⟩ := hb1.at_
  have hbl := hb1.lt
  simp only [Nat.zero_add] at y1 y2 y3 y4 y5 y6 y7 y8 y9 y10
  simp only [Wk.val]
  clear hk0 hb0 hk01
  go_wp2_with fail
  change Calls _ _ #[.slice A n ca, v.val] (w1.alloc (.cells N.cells.toArray 41)) _
  have hk2 : Kp No w (w1.alloc (.cells N.cells.toArray 41)) := hk1.tr (Kp.alloc _ _ _)
  have hb2 : BoxW (w1.alloc (.cells N.cells.toArray 41)) w1.heap.size N := heap_alloc_new _ _
  generalize w1.alloc (.cells N.cells.toArray 41) = W2 at hk2 hb2 ⊢
  obtain ⟨g, hg⟩ : ∃ g, g = w1.heap.size := ⟨_, rfl⟩
  rw [← hg] at hb2 ⊢
  clear hk1 hb1 y0 y1 y2 y3 y4 y5 y6 y7 y8 y9 y10 hg hbl
  with_reducible refine (HRA.out W2 hk2).mono ?_
  rintro e w3 ⟨rfl, hk23⟩
  have hk3 := hk2.tr hk23
  have hb3 := hb2.kp hk23 id
  have hbl := hb3.lt
  obtain ⟨y0, y1, y2, y3, y4, y5, y6, y7, y8, y9, y10⟩ := hb3.at_
  simp only [Nat.zero_add] at y1 y2 y3 y4 y5 y6 y7 y8 y9 y10
  simp only [Wk.val]
  have HE := fun w' => work_equal w' N N
  rw [(eqW_iff N N).2 rfl] at HE
  simp only [Wk.val] at HE
  have hk4 : Kp No w (w3.alloc (.cells N.cells.toArray 41)) := hk3.tr (Kp.alloc _ _ _)
  have HK4 := Lib.hid hk4
  clear hk2 hb2 hk23 hk3 hb3 hk4
  go_wp2_with fail
  with_reducible refine (awake_any _).mono ?_
  rintro e w5 ⟨rfl, hk45⟩
  go_wp2_with fail
  go_ret
  exact ⟨rfl, HK4.out.tr hk45⟩
end Go.Proofs.Ytjbpdimepckmfaa
