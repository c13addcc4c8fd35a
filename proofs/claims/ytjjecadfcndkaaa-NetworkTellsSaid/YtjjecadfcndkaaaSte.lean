/- Chapter 14: the walks of the reference's Steady and of what Steady calls. -/
import Derived.Test.YtjjecadfcndkaaaRsu
namespace Go.Proofs.Ytjjecadfcndkaaa
open Go.RowKit Go.Kq Go.Flow

/-- What Steady returns of a flow that is as long as the trunks. -/
def SteR (N : Net) (hi : Bool) (ds fs : List Int) (w : World) (e : Ending) (w' : World) : Prop := ∃ r : Bool, e = .returned (.tuple #[.bool r, .int .i64 0]) ∧ (r = true ↔ N.Feas hi ds fs) ∧ Kp No w w'
set_option maxHeartbeats 2000000 in
theorem rste_bad (Z : Nz) (c : Int) (hc : ChkIs Z c) (hz : c ≠ 0) (A B D E : Option Addr) (ca cb dn dc en ec : Nat) (hi : Bool) (w : World) (hR : RdNz w A B Z) :
    Calls Try.prog 26 #[netZ Z A B ca cb, .bool hi, .slice D dn dc, .slice E en ec] w fun e w' => e = .returned (.tuple #[.bool false, .int .i64 c]) ∧ Kp No w w' := by
  have H1 := Lib.hid (rdem_bad Z c hc hz A B D ca cb dn dc)
  have d1 : (c != 0) = true := by rw [bne_iff_ne]; exact hz
  have d2 : (c == 0) = false := by rw [beq_eq_false_iff_ne]; exact hz
  clear hc hz
  unfold netZ at H1 ⊢
  go_enter Try.func26, Try.ntmps26
  go_wp2_with fail
  have K0 := Lib.hid (Kp.alloc No w (.cells #[.int .i64 Z.n, .slice A Z.tr.length ca, .slice B Z.ch.length cb] 25))
  refine (H1.out _ (hR.no K0.out)).mono ?_
  rintro e w1 ⟨rfl, hk1⟩
  go_wp2_with fail
  refine bodyPost_ret (v := .tuple #[.bool false, .int .i64 c]) (by simp [results, Try.results26, go_sem]) rfl ⟨rfl, K0.out.tr hk1⟩
set_option maxHeartbeats 2000000 in
theorem rste_arg (N : Net) (hN : N.Ok) (A B D E : Option Addr) (ca cb dc en ec : Nat) (hi : Bool) (ds : List Int) (w : World) (hR : RdNet w A B N) (hD : RdI .i64 w D ds.length ds) (h20 : ds.length ≤ 1000000) (hb : ¬ (ds.length = N.ch.length ∧ ∀ d ∈ ds, dOk d) ∨ (en : Int) ≠ N.tr.length) :
    Calls Try.prog 26 #[netV N A B ca cb, .bool hi, .slice D ds.length dc, .slice E en ec] w fun e w' => e = .returned (.tuple #[.bool false, .int .i64 2]) ∧ Kp No w w' := by
  by_cases hg : ds.length = N.ch.length ∧ ∀ d ∈ ds, dOk d
  · have hen : (en : Int) ≠ N.tr.length := by
      rcases hb with hb | hb
      · exact absurd hg hb
      · exact hb
    have H1 := Lib.hid (fun W hR hD => rdem_ok N hN A B D ca cb dc ds W hR hD hg.1 hg.2)
    have hb1 : ((en : Int) == (N.tr.length : Int)) = false := by rw [beq_eq_false_iff_ne]; exact hen
    have hb2 : ((en : Int) != (N.tr.length : Int)) = true := by rw [bne_iff_ne]; exact hen
    clear hN hb hg hen
    unfold netV at H1 ⊢
    go_enter Try.func26, Try.ntmps26
    go_wp2_with fail
    have K0 := Lib.hid (Kp.alloc No w (.cells #[.int .i64 N.n, .slice A N.tr.length ca, .slice B N.ch.length cb] 25))
    refine (H1.out _ (hR.no K0.out) (hD.no K0.out)).mono ?_
    rintro e w1 ⟨rfl, hk1⟩
    have K1 := Lib.hid (K0.out.tr hk1)
    obtain ⟨x0, x1, x2⟩ := box3 (hk1.heap (heap_alloc_new w (.cells #[.int .i64 N.n, .slice A N.tr.length ca, .slice B N.ch.length cb] 25)) (fun h => h))
    clear hk1
    go_wp2_with fail
    refine bodyPost_ret (v := .tuple #[.bool false, .int .i64 2]) (by simp [results, Try.results26, go_sem]) rfl ⟨rfl, K1.out⟩
  · have H1 := Lib.hid (fun W hR hD => rdem_arg N hN A B D ca cb dc ds W hR hD h20 hg)
    clear hN hb hg
    unfold netV at H1 ⊢
    go_enter Try.func26, Try.ntmps26
    go_wp2_with fail
    have K0 := Lib.hid (Kp.alloc No w (.cells #[.int .i64 N.n, .slice A N.tr.length ca, .slice B N.ch.length cb] 25))
    refine (H1.out _ (hR.no K0.out) (hD.no K0.out)).mono ?_
    rintro e w1 ⟨rfl, hk1⟩
    go_wp2_with fail
    refine bodyPost_ret (v := .tuple #[.bool false, .int .i64 2]) (by simp [results, Try.results26, go_sem]) rfl ⟨rfl, K0.out.tr hk1⟩
set_option maxHeartbeats 2000000 in
theorem rste_ok (N : Net) (hN : N.Ok) (A B D E : Option Addr) (ca cb dc ec : Nat) (hi : Bool) (ds fs : List Int) (w : World) (hR : RdNet w A B N) (hD : RdI .i64 w D ds.length ds) (hE : RdI .i64 w E fs.length fs) (hl : ds.length = N.ch.length) (hd : ∀ d ∈ ds, dOk d) (hf : fs.length = N.tr.length) :
    Calls Try.prog 26 #[netV N A B ca cb, .bool hi, .slice D ds.length dc, .slice E fs.length ec] w fun e w' => SteR N hi ds fs w e w' := by
  have H1 := Lib.hid (fun W hR hD => rdem_ok N hN A B D ca cb dc ds W hR hD hl hd)
  have H2 := Lib.hid (fun W hR hD hE => given_any N hN A B D E ca cb dc ec hi ds fs W hR hD hE hl hd hf)
  have hb1 : ((fs.length : Int) == (N.tr.length : Int)) = true := by rw [beq_iff_eq]; omega
  have hb2 : ((fs.length : Int) != (N.tr.length : Int)) = false := by rw [bne_eq_false_iff_eq]; omega
  clear hN hl hd hf
  unfold netV at H1 H2 ⊢
  go_enter Try.func26, Try.ntmps26
  go_wp2_with fail
  have K0 := Lib.hid (Kp.alloc No w (.cells #[.int .i64 N.n, .slice A N.tr.length ca, .slice B N.ch.length cb] 25))
  refine (H1.out _ (hR.no K0.out) (hD.no K0.out)).mono ?_
  rintro e w1 ⟨rfl, hk1⟩
  have K1 := Lib.hid (K0.out.tr hk1)
  obtain ⟨x0, x1, x2⟩ := box3 (hk1.heap (heap_alloc_new w (.cells #[.int .i64 N.n, .slice A N.tr.length ca, .slice B N.ch.length cb] 25)) (fun h => h))
  clear hk1
  go_wp2_with fail
  refine (H2.out _ (hR.no K1.out) (hD.no K1.out) (hE.no K1.out)).mono ?_
  rintro e w2 ⟨r, rfl, hr, hk2⟩
  have HRR := Lib.hid hr
  clear hr
  go_wp2_with fail
  refine bodyPost_ret (v := .tuple #[.bool r, .int .i64 0]) (by simp [results, Try.results26, go_sem]) rfl ⟨r, rfl, HRR.out, K1.out.tr hk2⟩
theorem nzero_any (d : Int) (w : World) : Calls Try.prog 45 #[.int .i64 d] w fun e w' => e = .returned (.bool (d != 0)) ∧ w = w' := by
  go_enter Try.func45, Try.ntmps45
  go_wp2
  go_ret
  exact ⟨rfl, rfl⟩
set_option maxHeartbeats 1000000 in
theorem nindex_any (l : List Int) (A : Option Addr) (m ca : Nat) (w : World) (hA : RdI .i64 w A m l) (hm : m ≤ 1000000) :
    Calls Try.prog 59 #[.slice A m ca, .func (.func 45) #[] #[]] w fun e w' => ∃ r : Int, e = .returned (.int .i64 r) ∧ (0 ≤ r ↔ ∃ d ∈ l, d ≠ 0) ∧ Kp No w w' := by
  have hl := hA.1
  go_enter Try.func59, Try.ntmps59
  go_wp2_with fail
  go_loopw [8] (fun i wr => ∃ k : Nat, k ≤ m ∧ i = .int .i64 k ∧ (∀ t ∈ l.take k, t = 0) ∧ Kp No w wr) (fun i _ => m - (intOf i).toNat)
  case atStart => exact ⟨0, by omega, rfl, by simp, Kp.refl _ _⟩
  case round =>
    obtain ⟨k, hk, rfl, hgo, hkp⟩ := hrel
    have HGO := Lib.hid hgo
    clear hgo
    by_cases hlt : k < m
    · obtain ⟨t, ht⟩ : ∃ t, l[k]? = some t := ⟨_, List.getElem?_eq_getElem (by omega)⟩
      obtain ⟨bb, o, rfl, hbb, x0⟩ := (hA.no hkp).2 k t ht
      have HT := Lib.hid ht
      clear ht
      go_wp2_with fail
      refine (nzero_any t _).mono ?_
      by_cases hg : t = 0
      · rw [show (t != 0) = false by rw [bne_eq_false_iff_eq]; exact hg]
        rintro e w1 ⟨rfl, rfl⟩
        have HG := Lib.hid hg
        clear hg
        go_wp2_with fail
        go_roundw
        case rel => exact ⟨k + 1, by omega, by go_num, fun u hu => by
          rw [List.take_add_one, HT.out] at hu
          rcases List.mem_append.1 hu with hu | hu
          · exact HGO.out u hu
          · simp at hu
            rw [hu]
            exact HG.out, hkp⟩
        case measure => simp [intOf]; omega
      · rw [show (t != 0) = true by rw [bne_iff_ne]; exact hg]
        rintro e w1 ⟨rfl, rfl⟩
        have HG := Lib.hid hg
        clear hg
        go_wp2_with fail
        go_ret
        exact ⟨_, rfl, ⟨fun _ => ⟨t, List.mem_of_getElem? HT.out, HG.out⟩, fun _ => by omega⟩, hkp⟩
    · have hfx : l.take k = l := List.take_of_length_le (by omega)
      rw [hfx] at HGO
      clear hfx
      go_wp2_with fail
      go_ret
      exact ⟨_, rfl, ⟨fun h => by omega, fun ⟨t, ht, hb⟩ => absurd (HGO.out t ht) hb⟩, hkp⟩
theorem ncontains_any (l : List Int) (A : Option Addr) (m ca : Nat) (w : World) (hA : RdI .i64 w A m l) (hm : m ≤ 1000000) :
    Calls Try.prog 44 #[.slice A m ca, .func (.func 45) #[] #[]] w fun e w' => ∃ r : Bool, e = .returned (.bool r) ∧ (r = true ↔ ∃ d ∈ l, d ≠ 0) ∧ Kp No w w' := by
  go_enter Try.func44, Try.ntmps44
  go_wp2_with fail
  refine (nindex_any l A m ca w hA hm).mono ?_
  rintro e w1 ⟨r, rfl, hr, hk⟩
  have HR := Lib.hid hr
  clear hr
  go_wp2_with fail
  go_ret
  exact ⟨_, rfl, by rw [← HR.out]; simp, hk⟩
end Go.Proofs.Ytjjecadfcndkaaa
