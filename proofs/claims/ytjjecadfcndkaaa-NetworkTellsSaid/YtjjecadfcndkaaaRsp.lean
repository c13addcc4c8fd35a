/- Chapter 14: the walk of the reference's Spare. -/
import Derived.Test.YtjjecadfcndkaaaRsy
import Derived.Test.YtjjecadfcndkaaaHsp
namespace Go.Proofs.Ytjjecadfcndkaaa
open Go.RowKit Go.Kq Go.Flow

theorem no_zero {N : Net} (hN : N.Ok) {h : Bool} {ds : List Int} (hl : ds.length = N.ch.length) (h0 : ∀ x ∈ ds, 0 ≤ x) {F : List Int} {i : Nat} {d s : Int} (hd : ds[i]? = some d) (hs : 0 ≤ s) (hF : N.Feas h (ds.set i (d + s)) F) : ¬ N.No h ds [] := by
  rintro ⟨R, hR⟩
  have hlt := (List.getElem?_eq_some_iff.1 hd).1
  obtain ⟨c, hc⟩ : ∃ c, N.ch[i]? = some c := ⟨_, List.getElem?_eq_getElem (by omega)⟩
  have a := feas_cut hF R
  rw [dem_set _ N.ch ds i c d _ hc hd] at a
  have hnil : pf h N.tr [] = [] := by simp [pf]
  rw [hnil] at hR
  simp only [dv, List.length_nil, List.drop_zero] at hR
  cases hr1 : R 0
  · have h2 := cut_ge (R := R) (N.tr.map (tp h)) fun p hp => by
      obtain ⟨t, ht, rfl⟩ := List.mem_map.1 hp
      exact (hN.cap ht h).1
    have h3 : dem (ind R) (N.ch.zip ds) ≤ 0 := by
      have key : ∀ l : List (Nat × Int), (∀ x ∈ l, 0 ≤ x.2) → dem (ind R) l ≤ 0 := by
        intro l
        induction l with
        | nil => intro _; exact Int.le_refl _
        | cons x l ih =>
          intro hx
          have h4 := ih fun y hy => hx y (by simp [hy])
          have h5 := hx x (by simp)
          rw [dem, ind_f hr1]
          cases hr : R x.1
          · rw [ind_f hr]
            simp
            exact h4
          · rw [ind_t hr]
            omega
      exact key _ fun x hx => h0 x.2 (mem_zip_snd hx)
    omega
  · cases hr2 : R c
    · rw [ind_t hr1, ind_f hr2] at a
      simp at a
      omega
    · rw [ind_t hr1, ind_t hr2] at a
      simp at a
      omega
set_option maxHeartbeats 2000000 in
theorem rspa_out (N : Net) (hN : N.Ok) (A B D : Option Addr) (ca cb dc : Nat) (hi : Bool) (ds : List Int) (x : Int) (w : World) (hR : RdNet w A B N) (hD : RdI .i64 w D ds.length ds) (hl : ds.length = N.ch.length) (hd : ∀ d ∈ ds, dOk d) (hx : x < 0 ∨ (N.ch.length : Int) ≤ x) :
    Calls Try.prog 27 #[netV N A B ca cb, .bool hi, .slice D ds.length dc, .int .i64 x] w fun e w' => e = .returned (.tuple #[.int .i64 0, .int .i64 2]) ∧ Kp No w w' := by
  have H1 := Lib.hid (fun W hR hD => rdem_ok N hN A B D ca cb dc ds W hR hD hl hd)
  have hcase : x < 0 ∨ (0 ≤ x ∧ (N.ch.length : Int) ≤ x) := by omega
  clear hN hl hd hx
  unfold netV at H1 ⊢
  rcases hcase with h | ⟨h, h2⟩
  all_goals
    go_enter Try.func27, Try.ntmps27
    go_wp2_with fail
    have K0 := Lib.hid (Kp.alloc No w (.cells #[.int .i64 N.n, .slice A N.tr.length ca, .slice B N.ch.length cb] 25))
    refine (H1.out _ (hR.no K0.out) (hD.no K0.out)).mono ?_
    rintro e w1 ⟨rfl, hk1⟩
    have K1 := Lib.hid (K0.out.tr hk1)
    obtain ⟨x0, x1, x2⟩ := box3 (hk1.heap (heap_alloc_new w (.cells #[.int .i64 N.n, .slice A N.tr.length ca, .slice B N.ch.length cb] 25)) (fun h => h))
    clear hk1
    go_wp2_with fail
    refine bodyPost_ret (v := .tuple #[.int .i64 0, .int .i64 2]) (by simp [results, Try.results27, go_sem]) rfl ⟨rfl, K1.out⟩
set_option maxHeartbeats 2000000 in
theorem rspa_bad (Z : Nz) (c : Int) (hc : ChkIs Z c) (hz : c ≠ 0) (A B D : Option Addr) (ca cb dn dc : Nat) (hi : Bool) (x : Int) (w : World) (hR : RdNz w A B Z) :
    Calls Try.prog 27 #[netZ Z A B ca cb, .bool hi, .slice D dn dc, .int .i64 x] w fun e w' => e = .returned (.tuple #[.int .i64 0, .int .i64 c]) ∧ Kp No w w' := by
  have H1 := Lib.hid (rdem_bad Z c hc hz A B D ca cb dn dc)
  have d1 : (c != 0) = true := by rw [bne_iff_ne]; exact hz
  have d2 : (c == 0) = false := by rw [beq_eq_false_iff_ne]; exact hz
  clear hc hz
  unfold netZ at H1 ⊢
  go_enter Try.func27, Try.ntmps27
  go_wp2_with fail
  have K0 := Lib.hid (Kp.alloc No w (.cells #[.int .i64 Z.n, .slice A Z.tr.length ca, .slice B Z.ch.length cb] 25))
  refine (H1.out _ (hR.no K0.out)).mono ?_
  rintro e w1 ⟨rfl, hk1⟩
  go_wp2_with fail
  refine bodyPost_ret (v := .tuple #[.int .i64 0, .int .i64 c]) (by simp [results, Try.results27, go_sem]) rfl ⟨rfl, K0.out.tr hk1⟩
set_option maxHeartbeats 2000000 in
theorem rspa_arg (N : Net) (hN : N.Ok) (A B D : Option Addr) (ca cb dc : Nat) (hi : Bool) (ds : List Int) (x : Int) (w : World) (hR : RdNet w A B N) (hD : RdI .i64 w D ds.length ds) (h20 : ds.length ≤ 1000000) (hb : ¬ (ds.length = N.ch.length ∧ ∀ d ∈ ds, dOk d)) :
    Calls Try.prog 27 #[netV N A B ca cb, .bool hi, .slice D ds.length dc, .int .i64 x] w fun e w' => e = .returned (.tuple #[.int .i64 0, .int .i64 2]) ∧ Kp No w w' := by
  have H1 := Lib.hid (fun W hR hD => rdem_arg N hN A B D ca cb dc ds W hR hD h20 hb)
  clear hN hb
  unfold netV at H1 ⊢
  go_enter Try.func27, Try.ntmps27
  go_wp2_with fail
  have K0 := Lib.hid (Kp.alloc No w (.cells #[.int .i64 N.n, .slice A N.tr.length ca, .slice B N.ch.length cb] 25))
  refine (H1.out _ (hR.no K0.out) (hD.no K0.out)).mono ?_
  rintro e w1 ⟨rfl, hk1⟩
  go_wp2_with fail
  refine bodyPost_ret (v := .tuple #[.int .i64 0, .int .i64 2]) (by simp [results, Try.results27, go_sem]) rfl ⟨rfl, K0.out.tr hk1⟩
set_option maxHeartbeats 2000000 in
theorem rspa_none (N : Net) (hN : N.Ok) (h8 : N.n ≤ 8) (h14 : N.tr.length ≤ 14) (A B D : Option Addr) (ca cb dc : Nat) (hi : Bool) (ds : List Int) (x : Int) (w : World) (hR : RdNet w A B N) (hD : RdI .i64 w D ds.length ds) (hl : ds.length = N.ch.length) (hd : ∀ d ∈ ds, dOk d) (hx0 : 0 ≤ x) (hx1 : x < N.ch.length) (hno : ∀ F, ¬ N.Feas hi ds F) :
    Calls Try.prog 27 #[netV N A B ca cb, .bool hi, .slice D ds.length dc, .int .i64 x] w fun e w' => e = .returned (.tuple #[.int .i64 0, .int .i64 9]) ∧ Kp No w w' := by
  have H1 := Lib.hid (fun W hR hD => rdem_ok N hN A B D ca cb dc ds W hR hD hl hd)
  have H2 := Lib.hid (fun W hR hD => gives_any N hN h8 h14 A B D none ca cb dc 0 hi ds [] W hR hD (RdI.nil _ _) (fun _ => ⟨rfl, rfl⟩) hl (dok62 hd) (by simp) (fun i f t h => by simp at h))
  have HNF := Lib.hid hno
  clear hN hl hd hno
  unfold netV at H1 H2 ⊢
  simp only [List.length_nil] at H2
  go_enter Try.func27, Try.ntmps27
  go_wp2_with fail
  have K0 := Lib.hid (Kp.alloc No w (.cells #[.int .i64 N.n, .slice A N.tr.length ca, .slice B N.ch.length cb] 25))
  refine (H1.out _ (hR.no K0.out) (hD.no K0.out)).mono ?_
  rintro e w1 ⟨rfl, hk1⟩
  have K1 := Lib.hid (K0.out.tr hk1)
  obtain ⟨x0, x1, x2⟩ := box3 (hk1.heap (heap_alloc_new w (.cells #[.int .i64 N.n, .slice A N.tr.length ca, .slice B N.ch.length cb] 25)) (fun h => h))
  clear hk1
  go_wp2_with fail
  refine (H2.out _ (hR.no K1.out) (hD.no K1.out)).mono ?_
  rintro e w2 ⟨hk2, ⟨G, v, hF, _, _⟩ | ⟨hno, rfl⟩⟩
  · exact absurd hF (HNF.out _)
  · clear hno
    go_wp2_with fail
    refine bodyPost_ret (v := .tuple #[.int .i64 0, .int .i64 9]) (by simp [results, Try.results27, go_sem]) rfl ⟨rfl, K1.out.tr hk2⟩
end Go.Proofs.Ytjjecadfcndkaaa
