/- Chapter 27: Faults, any list. -/
import Derived.Test.YtjbpdimepckmfaaXFauW
namespace Go.Proofs.Ytjbpdimepckmfaa
open Go.RowKit Go.Kq

set_option maxHeartbeats 1000000 in
theorem Faults_any (A : Option Addr) (n ca : Nat) (l : List Wk) (w : World) (hx : RdW w A n l) (hf : Fits l) :
    Calls Try.prog 34 #[.slice A n ca] w fun e w' => ∃ v, e = .returned (.tuple #[v, .int .i64 (chkL l)]) ∧ w'.ownsRow w.heap.size 3 1 v (fauV l).length ((fauV l).map (Value.int .i64)) ∧ Kp No w w' := by
  by_cases h1 : chkL l = 0
  · have h := Faults_ok A n ca l w hx hf h1
    rw [h1, show fauV l = (fauS (cntL l)).2 from if_pos h1]
    exact h
  · have hc := Check_any A n ca l w hx hf
    have q1 : (chkL l != 0) = true := by rw [bne_iff_ne]; exact h1
    have HV := Lib.hid (show fauV l = [] from if_neg h1)
    clear hx hf
    generalize chkL l = x at hc q1 ⊢
    clear h1
    go_enter Try.func34, Try.ntmps34
    go_wp2_with fail
    with_reducible refine hc.mono ?_
    rintro e w1 ⟨rfl, hk1⟩
    go_wp2_with fail
    refine bodyPost_ret (v := .tuple #[.slice none 0 0, .int .i64 x]) (by simp [results, Try.results34, go_sem]) rfl ⟨.slice none 0 0, rfl, by rw [HV.out]; exact ⟨rfl, .inl ⟨rfl, rfl⟩⟩, hk1⟩
end Go.Proofs.Ytjbpdimepckmfaa
