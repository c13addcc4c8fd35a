/- Chapter 13: Check: the walk. -/
import Derived.Test.YtlieijnhaolnhaaCf
import Derived.Test.YtlieijnhaolnhaaPip
namespace Go.Proofs.Ytlieijnhaolnhaa
open Go.RowKit Go.Kq

theorem new_at (w : World) (cs : Array Value) (t : TypeId) : ∀ j u, cs.toList[j]? = some u → (w.alloc (.cells cs t)).cell? ((⟨w.heap.size, 0, none⟩ : Addr).add j) = some u := by
  intro j u hj
  rw [add_at, Nat.zero_add, cell_of_row _ _ _ _ _ _ (at_new rfl)]
  simpa using hj
def rowB (x : Rw) : Bool := decide (x.r < 0) || decide (39 < x.r) || decide (x.n < 0) || decide (139 < x.n) || !toeB x.b x.f || decide (x.c < 0) || decide (16 ≤ x.c)
set_option maxHeartbeats 2000000 in
theorem wrong_any (x : Rw) (w : World) : Calls Try.prog 90 #[rwV x] w fun e w' => e = .returned (.bool (rowB x)) ∧ Kp No w w' := by
  obtain ⟨r, n, b, f, c⟩ := x
  unfold rowB
  have VA := Lib.hid (valid_any b f)
  simp only [rwV, toeV] at VA ⊢
  cases hd : toeB b f
  all_goals
    rw [hd] at VA
    clear hd
    go_enter Try.func90, Try.ntmps90
    go_wp2_with (go_at_call 15; refine (VA.out _).mono ?_; rintro e w2 ⟨rfl, k2⟩; have c4 := k2.cell (a := ⟨w.heap.size, 4, none⟩) (v := .int .i64 c) (by go_simp) id; have KK := Lib.hid ((Kp.alloc No w _).tr k2); clear k2)
    all_goals
      go_ret
      refine ⟨ret_bool ?_, by first | exact KK.out | exact Kp.alloc _ _ _⟩
      simp [*] <;> (intros; omega)
/-- The error of rows. -/
def chkE (l : List Rw) : Int := if 2000 < l.length then 3 else if l.any rowB then 2 else if risB (l.map Rw.pp) then 0 else 6
theorem infoP : (Try.prog.info? 51).map (fun i => (i.zero, i.size, i.bytes)) = some (some (.agg #[.int .i64 0, .int .i64 0]), 2, 16) := by kernel_rfl
theorem pcells_one (p : Pp) : ∀ u ∈ pcells p, u.oneCell' = true := by
  intro u hu
  simp [pcells] at hu
  rcases hu with rfl | rfl <;> rfl
set_option maxHeartbeats 4000000 in
set_option maxRecDepth 100000 in
theorem Check_any (A : Option Addr) (n cap : Nat) (l : List Rw) (w : World) (hx : Rd rwC 5 w A n l) :
    Calls Try.prog 58 #[.slice A n cap] w fun e w' => e = .returned (.int .i64 (chkE l)) ∧ Kp No w w' := by
  have hl := hx.1
  by_cases h1 : 2000 < n
  · have hE : chkE l = 3 := by unfold chkE; rw [if_pos (by omega)]
    rw [hE]
    clear hE
    go_enter Try.func58, Try.ntmps58
    go_wp2
    go_ret
    exact ⟨rfl, Kp.refl _ _⟩
  · have CO := Lib.hid (contains_rowk A n cap l rowB w hx (by omega) (fun v w' _ => wrong_any v w'))
    cases hb : l.any rowB
    · rw [hb] at CO
      obtain ⟨i0, hi, hz0, hz1, hz2⟩ := info_parts infoP
      have hE : chkE l = if risB (l.map Rw.pp) then 0 else 6 := by unfold chkE; rw [if_neg (by omega), hb]; rfl
      rw [hE]
      obtain ⟨z, hz⟩ : ∃ z : Int, (if risB (l.map Rw.pp) then 0 else 6) = z := ⟨_, rfl⟩
      rw [hz]
      have HZ := Lib.hid hz
      clear hb hE hz
      go_enter Try.func58, Try.ntmps58
      go_wp2_with fail
      refine CO.out.mono ?_
      rintro e w1 ⟨rfl, k1⟩
      have K1 := Lib.hid k1
      clear k1 CO
      go_wp2_with fail
      go_loopw [4, 17] (fun s i wr => ∃ k : Nat, k ≤ n ∧ i = .int .i64 k ∧ wr.ownsRow w1.heap.size 51 2 s k (((l.map Rw.pp).take k).flatMap pcells) ∧ Kp No w1 wr) (fun _ i _ => n - (intOf i).toNat)
      case atStart => exact ⟨0, by omega, rfl, ⟨rfl, .inl ⟨rfl, rfl⟩⟩, Kp.refl _ _⟩
      case round =>
        obtain ⟨k, hk, rfl, hown, hkp⟩ := hrel
        by_cases hlt : k < n
        · obtain ⟨x, hxk⟩ : ∃ x, l[k]? = some x := ⟨_, List.getElem?_eq_getElem (by omega)⟩
          obtain ⟨b, o, rfl, hb, hc⟩ := hx.2 k x hxk
          have c0 := (K1.out.tr hkp).cell (hc 0 _ rfl) id
          have c1 := (K1.out.tr hkp).cell (hc 1 _ rfl) id
          have c2 := (K1.out.tr hkp).cell (hc 2 _ rfl) id
          have c3 := (K1.out.tr hkp).cell (hc 3 _ rfl) id
          have c4 := (K1.out.tr hkp).cell (hc 4 _ rfl) id
          simp only [Nat.add_zero] at c0
          have HSN := Lib.hid (show (l.map Rw.pp).take (k + 1) = (l.map Rw.pp).take k ++ [x.pp] by rw [List.take_add_one, List.getElem?_map, hxk]; rfl)
          obtain ⟨av, cv, rfl, _, _, _⟩ := own_form hown
          have HOW := Lib.hid hown
          have HKP := Lib.hid hkp
          clear hown hxk hc hkp
          go_wp2_with (at_builtin; refine stop_in ?_)
          refine stop_out ?_
          refine wpList_append_own_at _ rfl _ _ 57 rfl w1.heap.size 51 i0 _ 2 16 Try.underlying57 hi hz0 hz1 hz2 rfl (by decide) _ _ _ rfl ((HOW.out.alloc _).alloc _) ⟨wr.heap.size + 1, 0, none⟩ 1 1 (pcells x.pp) rfl rfl ?_ (pcells_one _) (by unfold maxLen; omega) (by omega) (by have := HKP.out.size; simp; omega) ?_
          · have := new_at (wr.alloc (.cells #[.int .i64 x.r, .int .i64 x.n, .int .i64 x.b, .int .i64 x.f, .int .i64 x.c] 53)) #[.int .i64 x.r, .int .i64 x.n] 51
            simpa [pcells, Rw.pp] using this
          intro v' w5 hown' hgrow _ _
          have hk5 : Kp No w1 w5 := HKP.out.trans (((Kp.alloc (fun g => w1.heap.size ≤ g) _ _).tr (Kp.alloc _ _ _)).tr (Kp.grown hgrow fun g hg _ => (own_ge HOW.out hg).1)) (fun g hg h => absurd h (Nat.not_le.2 hg))
          have HO5 := Lib.hid hown'
          have HK5 := Lib.hid hk5
          clear hown' hgrow hk5 c0 c1 c2 c3 c4
          go_wp2_with fail
          go_roundw
          case rel => exact ⟨k + 1, by omega, by go_num, by rw [HSN.out, flat_snoc]; exact HO5.out, HK5.out⟩
          case measure => simp [intOf]; omega
        · obtain rfl : k = n := by omega
          have hf : (l.map Rw.pp).take k = l.map Rw.pp := List.take_of_length_le (by simp; omega)
          rw [hf] at hown
          obtain ⟨av, cv, rfl, _, _, _⟩ := own_form hown
          have hr := Rd.of_own pcells_len (by omega) hown
          have RI := Lib.hid (rising_any av k cv (l.map Rw.pp) wr hr (by omega))
          have HKP := Lib.hid hkp
          clear hown hkp hf hr
          cases hr2 : risB (l.map Rw.pp)
          all_goals
            rw [hr2] at RI
            have hz := HZ.out
            rw [hr2] at hz
            have HZ2 := Lib.hid hz
            clear hr2 hz
          · go_wp2_with fail
            refine RI.out.mono ?_
            rintro e w3 ⟨rfl, k3⟩
            go_wp2_with fail
            go_ret
            exact ⟨ret_i64 HZ2.out, K1.out.tr (HKP.out.tr k3)⟩
          · go_wp2_with fail
            refine RI.out.mono ?_
            rintro e w3 ⟨rfl, k3⟩
            go_wp2_with fail
            go_ret
            exact ⟨ret_i64 HZ2.out, K1.out.tr (HKP.out.tr k3)⟩
    · rw [hb] at CO
      have hE : chkE l = 2 := by unfold chkE; rw [if_neg (by omega), hb]; rfl
      rw [hE]
      clear hb hE
      go_enter Try.func58, Try.ntmps58
      go_wp2_with fail
      refine CO.out.mono ?_
      rintro e w1 ⟨rfl, k1⟩
      go_wp2_with fail
      go_ret
      exact ⟨rfl, k1⟩
end Go.Proofs.Ytlieijnhaolnhaa
