/- Chapter 33: Missing and Profile, the program's and the reference's; sameCells. -/
import Derived.Test.YtfflhlmnfhfcgaaXAbv
import Derived.Test.YtfflhlmnfhfcgaaXLibSortM
import Derived.Test.YtfflhlmnfhfcgaaXLwM
namespace Go.Proofs.Ytfflhlmnfhfcgaa
open Go.RowKit Go.Kq

def missV (xs ys : List Vc) : List Vc := if chk xs ys 24 = 0 then (dif xs ys).filter fun v => decide (0 < v.q) else []
theorem missV_bad {xs ys : List Vc} (h : chk xs ys 24 ≠ 0) : missV xs ys = [] := by unfold missV; rw [if_neg h]
theorem missV_ok {xs ys : List Vc} (h : chk xs ys 24 = 0) : missV xs ys = (dif xs ys).filter fun v => decide (0 < v.q) := by unfold missV; rw [if_pos h]
theorem own_rd {w : World} {base e : Nat} {v : Value} {vs : List Vc} {n : Nat} (h : w.ownsRow base e 4 v n (flat vs)) : ∃ a cap, v = .slice a n cap ∧ n ≤ cap ∧ RdV w a n vs := by
  have hl := h.1
  rw [flat_len] at hl
  obtain ⟨a, cap, rfl, h1, h2, h3⟩ := Kq.own_form h
  refine ⟨a, cap, rfl, h1, by omega, fun i u hu => ?_⟩
  have hi := (List.getElem?_eq_some_iff.1 hu).1
  obtain ⟨g, rfl⟩ := h3 (by omega)
  have hb := (Kq.own_ge h (g := g) rfl).2
  obtain ⟨c0, c1, c2, c3⟩ := flat_at vs i u hu
  exact ⟨g, 0, rfl, hb, by rw [Nat.zero_add]; exact own_cell h c0, by rw [Nat.zero_add]; exact own_cell h c1, by rw [Nat.zero_add]; exact own_cell h c2, by rw [Nat.zero_add]; exact own_cell h c3⟩

set_option maxHeartbeats 1000000 in
theorem Missing_any (A Y : Option Addr) (n m ca cb : Nat) (xs ys : List Vc) (w : World) (hx : RdV w A n xs) (hy : RdV w Y m ys) :
    Calls Try.prog 21 #[.slice A n ca, .slice Y m cb] w fun e w' => ∃ v, e = .returned (.tuple #[v, .int .i64 (chk xs ys 24)]) ∧ w'.ownsRow w.heap.size 59 4 v (missV xs ys).length (flat (missV xs ys)) ∧ Kp No w w' := by
  by_cases he : chk xs ys 24 = 0
  · obtain ⟨z1, z2, z3, z4⟩ := chk_zero he
    have sx := bad_sane z3
    have sy := bad_sane z4
    have hxl := hx.1
    have hyl := hy.1
    clear z3 z4
    have HV := Lib.hid (missV_ok he)
    rw [he]
    go_enter Try.func21, Try.ntmps21
    go_wp2_with fail
    refine (check_any A Y n m ca cb xs ys 24 _ hx hy (by omega)).mono ?_
    rintro e w1 ⟨rfl, hk⟩
    rw [he]
    go_wp2_with fail
    refine (between_any A Y n m ca cb xs ys w1 (hx.no hk) (hy.no hk) (by omega) (by omega) sx sy).mono ?_
    rintro e w2 ⟨g, rfl, hg, hmap, hk2⟩
    have hl : (btw xs ys).length ≤ 1000 := by
      have h1 := len_addAll (-1) ys (addAll 1 [] xs)
      have h2 := len_addAll 1 xs []
      simp [btw] at h1 h2 ⊢
      omega
    have K2 := Lib.hid (hk.tr hk2)
    clear hk hk2
    go_wp2_with fail
    refine (above_any g (btw xs ys) w2 hmap hl).mono ?_
    rintro e w3 ⟨v, ks, rfl, hp, hs, ho, hk3⟩
    rw [abv_eq hp hs, ← HV.out] at ho
    have HO := Lib.hid (Kq.own_mono ho K2.out.size)
    have K3 := Lib.hid (K2.out.tr hk3)
    clear ho hp hs hk3
    go_wp2_with fail
    refine bodyPost_ret (v := .tuple #[v, .int .i64 0]) (by simp [results, Try.results21, go_sem]) rfl ⟨_, rfl, HO.out, K3.out⟩
  · have heb : (chk xs ys 24 == 0) = false := by rw [beq_eq_false_iff_ne]; exact he
    rw [missV_bad he]
    clear he
    go_enter Try.func21, Try.ntmps21
    go_wp2_with fail
    refine (check_any A Y n m ca cb xs ys 24 _ hx hy (by omega)).mono ?_
    rintro e w1 ⟨rfl, hk⟩
    go_wp2_with fail
    refine bodyPost_ret (v := .tuple #[.slice none 0 0, .int .i64 (chk xs ys 24)]) (by simp [results, Try.results21, go_sem]) rfl ⟨_, rfl, ⟨rfl, .inl ⟨rfl, rfl⟩⟩, hk⟩

set_option maxHeartbeats 1000000 in
theorem Profile_any (A : Option Addr) (n ca : Nat) (xs : List Vc) (w : World) (hx : RdV w A n xs) :
    Calls Try.prog 17 #[.slice A n ca] w fun e w' => ∃ v, e = .returned (.tuple #[v, .int .i64 (chk xs [] 24)]) ∧ w'.ownsRow w.heap.size 59 4 v (missV xs []).length (flat (missV xs [])) ∧ Kp No w w' := by
  go_enter Try.func17, Try.ntmps17
  go_wp2_with fail
  refine (Missing_any A none n 0 ca 0 xs [] w hx (rdv_nil _ _)).mono ?_
  rintro e w1 ⟨v, rfl, ho, hk⟩
  have HO := Lib.hid ho
  clear ho
  go_wp2_with fail
  refine bodyPost_ret (v := .tuple #[v, .int .i64 (chk xs [] 24)]) (by simp [results, Try.results17, go_sem]) rfl ⟨_, rfl, HO.out, hk⟩

/-! ### the reference -/
theorem addC_pos {c : Vc} (hc : 0 < c.q) : ∀ l : List Vc, (∀ v ∈ l, 0 < v.q) → ∀ v ∈ addC c l, 0 < v.q
  | [], _, v, hv => by simp [addC] at hv; rw [hv]; exact hc
  | x :: l, h, v, hv => by
    have hx := h x (by simp)
    have ih := addC_pos hc l fun v hv => h v (by simp [hv])
    unfold addC at hv
    split at hv
    · rcases List.mem_cons.1 hv with rfl | hv
      · exact hx
      · exact ih v hv
    · split at hv
      · rcases List.mem_cons.1 hv with rfl | hv
        · exact hc
        · exact h v hv
      · rcases List.mem_cons.1 hv with rfl | hv
        · show 0 < x.q + c.q
          omega
        · exact h v (by simp [hv])
theorem addL_pos : ∀ (vs l : List Vc), (∀ v ∈ vs, 0 < v.q) → (∀ v ∈ l, 0 < v.q) → ∀ v ∈ addL l vs, 0 < v.q
  | [], l, _, h => h
  | c :: vs, l, hv, h => addL_pos vs (addC c l) (fun v hv' => hv v (by simp [hv'])) (addC_pos (hv c (by simp)) l h)
theorem missV_nil {xs : List Vc} (h : chk xs [] 24 = 0) : missV xs [] = dif xs [] := by
  rw [missV_ok h, List.filter_eq_self]
  intro v hv
  have hp : ∀ v ∈ xs, 0 < v.q := fun v hv => by
    have := (chk_zero h).2.2.1 v hv
    simp [Vc.bad] at this
    omega
  exact decide_eq_true (addL_pos xs [] hp (fun v hv => by cases hv) v (by simpa [dif, addL] using hv))

set_option maxHeartbeats 1000000 in
theorem rProfile_any (A : Option Addr) (n ca : Nat) (xs : List Vc) (w : World) (hx : RdV w A n xs) :
    Calls Try.prog 18 #[.slice A n ca] w fun e w' => ∃ v, e = .returned (.tuple #[v, .int .i64 (chk xs [] 24)]) ∧ w'.ownsRow w.heap.size 59 4 v (missV xs []).length (flat (missV xs [])) ∧ Kp No w w' := by
  by_cases he : chk xs [] 24 = 0
  · obtain ⟨z1, z2, z3, z4⟩ := chk_zero he
    have sx := bad_sane z3
    have hxl := hx.1
    clear z3 z4
    rw [missV_nil he, he]
    go_enter Try.func18, Try.ntmps18
    go_wp2_with fail
    refine (Check_any A none n 0 ca 0 xs [] 24 _ hx (rdv_nil _ _) (by omega)).mono ?_
    rintro e w1 ⟨rfl, hk⟩
    rw [he]
    go_wp2_with fail
    refine (dif_any A none n 0 ca 0 xs [] w1 (hx.no hk) (rdv_nil _ _) (by omega) (by omega) sx (fun v h => by cases h)).mono ?_
    rintro e w2 ⟨v, rfl, ho, hk2⟩
    have HO := Lib.hid (Kq.own_mono ho hk.size)
    clear ho
    go_wp2_with fail
    refine bodyPost_ret (v := .tuple #[v, .int .i64 0]) (by simp [results, Try.results18, go_sem]) rfl ⟨_, rfl, HO.out, hk.tr hk2⟩
  · have heb : (chk xs [] 24 == 0) = false := by rw [beq_eq_false_iff_ne]; exact he
    rw [missV_bad he]
    clear he
    go_enter Try.func18, Try.ntmps18
    go_wp2_with fail
    refine (Check_any A none n 0 ca 0 xs [] 24 _ hx (rdv_nil _ _) (by omega)).mono ?_
    rintro e w1 ⟨rfl, hk⟩
    go_wp2_with fail
    refine bodyPost_ret (v := .tuple #[.slice none 0 0, .int .i64 (chk xs [] 24)]) (by simp [results, Try.results18, go_sem]) rfl ⟨_, rfl, ⟨rfl, .inl ⟨rfl, rfl⟩⟩, hk⟩

set_option maxHeartbeats 2000000 in
theorem rMissing_any (A Y : Option Addr) (n m ca cb : Nat) (xs ys : List Vc) (w : World) (hx : RdV w A n xs) (hy : RdV w Y m ys) :
    Calls Try.prog 22 #[.slice A n ca, .slice Y m cb] w fun e w' => ∃ v, e = .returned (.tuple #[v, .int .i64 (chk xs ys 24)]) ∧ w'.ownsRow w.heap.size 59 4 v (missV xs ys).length (flat (missV xs ys)) ∧ Kp No w w' := by
  by_cases he : chk xs ys 24 = 0
  · obtain ⟨i0, hi, hz0, hz1, hz2⟩ := info_parts info59
    obtain ⟨z1, z2, z3, z4⟩ := chk_zero he
    have sx := bad_sane z3
    have sy := bad_sane z4
    have hxl := hx.1
    have hyl := hy.1
    clear z3 z4
    rw [missV_ok he, he]
    have hlen : (dif xs ys).length ≤ 48 := by
      have h1 := addL_len (ys.map neg) (addL [] xs)
      have h2 := addL_len xs []
      simp [dif] at h1 h2 ⊢
      omega
    generalize hD : dif xs ys = D at *
    have HD := Lib.hid hD
    clear hD
    go_enter Try.func22, Try.ntmps22
    go_wp2_with fail
    refine (Check_any A Y n m ca cb xs ys 24 _ hx hy (by omega)).mono ?_
    rintro e w1 ⟨rfl, hk⟩
    rw [he]
    go_wp2_with fail
    refine (dif_any A Y n m ca cb xs ys w1 (hx.no hk) (hy.no hk) (by omega) (by omega) sx sy).mono ?_
    rw [HD.out]
    rintro e w2 ⟨v, rfl, ho, hk2⟩
    obtain ⟨a, cp, rfl, _, hr⟩ := own_rd ho
    have K2 := Lib.hid (hk.tr hk2)
    have HR := Lib.hid hr
    clear ho hr hk hk2
    go_wp2_with fail
    go_loopw [8, 9] (fun s i wr => ∃ k : Nat, k ≤ D.length ∧ i = .int .i64 k ∧ wr.ownsRow w2.heap.size 59 4 s ((D.take k).filter fun v => decide (0 < v.q)).length (flat ((D.take k).filter fun v => decide (0 < v.q))) ∧ Kp No w2 wr) (fun _ i _ => D.length - (intOf i).toNat)
    case atStart => exact ⟨0, by omega, rfl, ⟨rfl, .inl ⟨rfl, rfl⟩⟩, Kp.refl _ _⟩
    case round =>
      obtain ⟨k, hk, rfl, hown, hkp⟩ := hrel
      by_cases hlt : k < D.length
      · obtain ⟨x, hxk⟩ : ∃ x, D[k]? = some x := ⟨_, List.getElem?_eq_getElem hlt⟩
        obtain ⟨b, o, rfl, hb, c0, c1, c2, c3⟩ := (HR.out.no hkp).2 k x hxk
        have HSN := Lib.hid (show (D.take (k + 1)).filter (fun v => decide (0 < v.q)) = (D.take k).filter (fun v => decide (0 < v.q)) ++ if 0 < x.q then [x] else [] by rw [List.take_add_one, hxk, List.filter_append]; by_cases h : 0 < x.q <;> simp [h])
        have hal : ((D.take k).filter fun v => decide (0 < v.q)).length ≤ k := by
          have := List.length_filter_le (fun v : Vc => decide (0 < v.q)) (D.take k)
          rw [List.length_take] at this
          omega
        obtain ⟨av, cv, rfl, _, _, _⟩ := Kq.own_form hown
        have HOW := Lib.hid hown
        have HKP := Lib.hid hkp
        clear hown hxk
        generalize (D.take k).filter (fun v => decide (0 < v.q)) = F at *
        by_cases hq : 0 < x.q
        · have HL2 := Lib.hid (show (D.take (k + 1)).filter (fun v => decide (0 < v.q)) = F ++ [x] by rw [HSN.out, if_pos hq])
          go_wp2_with (at_builtin; refine stop_in ?_)
          refine stop_out ?_
          refine wpList_append_own_at _ rfl _ _ 40 rfl w2.heap.size 59 i0 _ 4 32 Try.underlying40 hi hz0 hz1 hz2 rfl (by decide) _ _ _ rfl (HOW.out.alloc _) ⟨wr.heap.size, 0, none⟩ 1 1 x.cells4 rfl rfl (new4c wr x) (cells4_one _) (by unfold maxLen; omega) (by omega) (by have := HKP.out.size; simp; omega) ?_
          intro v' w5 hown' hgrow _ _
          have hk5 : Kp No w2 w5 := HKP.out.trans ((Kp.alloc (fun g => w2.heap.size ≤ g) _ _).tr (Kp.grown hgrow fun g hg _ => (Kq.own_ge HOW.out hg).1)) (fun g hg h => absurd h (Nat.not_le.2 hg))
          rw [← flat_snoc] at hown'
          have HO5 := Lib.hid hown'
          have HK5 := Lib.hid hk5
          clear hown' hgrow hk5 c0 c1 c2 c3
          go_wp2_with fail
          go_roundw
          case rel => exact ⟨k + 1, by omega, by go_num, by rw [HL2.out, List.length_append]; exact HO5.out, HK5.out⟩
          case measure => simp [intOf]; omega
        · have HL2 := Lib.hid (show (D.take (k + 1)).filter (fun v => decide (0 < v.q)) = F by rw [HSN.out, if_neg hq, List.append_nil])
          go_wp2_with fail
          go_roundw
          case rel => exact ⟨k + 1, by omega, by go_num, by rw [HL2.out]; exact HOW.out, HKP.out⟩
          case measure => simp [intOf]; omega
      · obtain rfl : k = D.length := by omega
        have hf : D.take D.length = D := List.take_length
        rw [hf] at hown
        obtain ⟨av, cv, rfl, _, _, _⟩ := Kq.own_form hown
        have HOW := Lib.hid (Kq.own_mono hown K2.out.size)
        have HKP := Lib.hid (K2.out.tr hkp)
        clear hown hkp hf
        go_wp2_with fail
        refine bodyPost_ret (v := .tuple #[.slice av (D.filter fun v => decide (0 < v.q)).length cv, .int .i64 0]) (by simp [results, Try.results22, go_sem]) rfl ⟨_, rfl, HOW.out, HKP.out⟩
  · have heb : (chk xs ys 24 == 0) = false := by rw [beq_eq_false_iff_ne]; exact he
    rw [missV_bad he]
    clear he
    go_enter Try.func22, Try.ntmps22
    go_wp2_with fail
    refine (Check_any A Y n m ca cb xs ys 24 _ hx hy (by omega)).mono ?_
    rintro e w1 ⟨rfl, hk⟩
    go_wp2_with fail
    refine bodyPost_ret (v := .tuple #[.slice none 0 0, .int .i64 (chk xs ys 24)]) (by simp [results, Try.results22, go_sem]) rfl ⟨_, rfl, ⟨rfl, .inl ⟨rfl, rfl⟩⟩, hk⟩

/-! ### sameCells -/
def Vc.eqb (x y : Vc) : Bool := decide (x.d = y.d) && decide (x.p = y.p) && decide (x.f = y.f) && decide (x.q = y.q)
theorem eqb_iff (x y : Vc) : x.eqb y = true ↔ x = y := by
  obtain ⟨a, b, c, d⟩ := x
  obtain ⟨a', b', c', d'⟩ := y
  simp [Vc.eqb, and_assoc]
def eqL : List Vc → List Vc → Bool
  | [], [] => true
  | x :: xs, y :: ys => x.eqb y && eqL xs ys
  | _, _ => false
theorem eqL_iff : ∀ xs ys : List Vc, eqL xs ys = true ↔ xs = ys
  | [], [] => by simp [eqL]
  | [], _ :: _ => by simp [eqL]
  | _ :: _, [] => by simp [eqL]
  | x :: xs, y :: ys => by simp [eqL, eqb_iff, eqL_iff xs ys]
theorem eqL_ne {xs ys : List Vc} (h : xs ≠ ys) : eqL xs ys = false := by
  cases he : eqL xs ys
  · rfl
  · exact absurd ((eqL_iff _ _).1 he) h
set_option maxRecDepth 100000 in
theorem cell_neq (x y : Vc) (w : World) : Sem.run Try.prog (binOp .neq 59 (.agg #[.int .i64 x.d, .int .i64 x.p, .int .i64 x.f, .int .i64 x.q]) (.agg #[.int .i64 y.d, .int .i64 y.p, .int .i64 y.f, .int .i64 y.q])) w = .ok (.bool (!x.eqb y)) w := by
  have hS : Try.prog.underlying 59 = some (.struct (Try.prog.fieldsOf 59)) := by kernel_rfl
  have hp : Try.prog.stoodInHeld 59 = false := by kernel_rfl
  have u3 := Try.underlying3
  rw [run_neq_struct, show (10000 : Nat) = 9999 + 1 from rfl, run_equalIn_agg w 9999 59 _ _ hS hp]
  simp only [Program.fieldsOf, Try.underlying59, Vc.eqb]
  go_simp
  by_cases h1 : x.d = y.d <;> by_cases h2 : x.p = y.p <;> by_cases h3 : x.f = y.f <;> by_cases h4 : x.q = y.q <;> simp [h1, h2, h3, h4]
theorem cell_guard (op : BinOp) (a b : Operand) (xs ys : Array Value) (w : World) : Sem.run Try.prog (eqGuard op 59 a b (.agg xs) (.agg ys)) w = .ok () w := run_eqGuard_agg w op 59 a b xs ys (by kernel_rfl)
set_option maxHeartbeats 1000000 in
theorem sameC_any (A B : Option Addr) (n m ca cb : Nat) (xs ys : List Vc) (w : World) (hx : RdV w A n xs) (hy : RdV w B m ys) (hn : n ≤ 100000000) :
    Calls Try.prog 19 #[.slice A n ca, .slice B m cb] w fun e w' => e = .returned (.bool (eqL xs ys)) ∧ Kp No w w' := by
  have hxl := hx.1
  have hyl := hy.1
  by_cases hl : n = m
  · subst hl
    generalize hE : eqL xs ys = E
    have HE := Lib.hid hE
    clear hE
    go_enter Try.func19, Try.ntmps19
    go_wp2_with fail
    go_loopw [5] (fun i wr => ∃ k : Nat, k ≤ n ∧ i = .int .i64 k ∧ xs.take k = ys.take k ∧ Kp No w wr) (fun i _ => n - (intOf i).toNat)
    case atStart => exact ⟨0, by omega, rfl, by simp, Kp.refl _ _⟩
    case round =>
      obtain ⟨k, hk, rfl, hno, hkp⟩ := hrel
      by_cases hlt : k < n
      · obtain ⟨x, hxk⟩ : ∃ x, xs[k]? = some x := ⟨_, List.getElem?_eq_getElem (by omega)⟩
        obtain ⟨y, hyk⟩ : ∃ y, ys[k]? = some y := ⟨_, List.getElem?_eq_getElem (by omega)⟩
        obtain ⟨b, o, rfl, _, c0, c1, c2, c3⟩ := (hx.no hkp).2 k x hxk
        obtain ⟨b', o', rfl, _, d0, d1, d2, d3⟩ := (hy.no hkp).2 k y hyk
        have Ht := Lib.hid hno
        have X := Lib.hid hxk
        have Y := Lib.hid hyk
        clear hno hxk hyk
        have hg := cell_guard
        have hn := cell_neq x y
        generalize hb : x.eqb y = bb at hn
        have HB := Lib.hid hb
        clear hb
        cases bb
        · have hne : xs ≠ ys := fun h => by
            have h1 := X.out
            rw [h, Y.out] at h1
            cases h1
            have := (eqb_iff x x).2 rfl
            rw [HB.out] at this
            cases this
          obtain rfl : E = false := by rw [← HE.out]; exact eqL_ne hne
          clear hne
          simp only [Bool.not_false] at hn
          go_wp2_with fail
          go_quiet (fail)
          go_wp2_with fail
          go_ret
          exact ⟨rfl, hkp.tr (Kp.drewN _ _ _)⟩
        · obtain rfl := (eqb_iff x y).1 HB.out
          simp only [Bool.not_true] at hn
          go_wp2_with fail
          go_quiet (fail)
          go_wp2_with fail
          go_roundw
          case rel => exact ⟨k + 1, by omega, by go_num, by rw [List.take_add_one, List.take_add_one, Ht.out, X.out, Y.out], hkp.tr (Kp.drewN _ _ _)⟩
          case measure => simp [intOf]; omega
      · have he : xs = ys := by
          rw [List.take_of_length_le (by omega), List.take_of_length_le (by omega)] at hno
          exact hno
        obtain rfl : E = true := by rw [← HE.out]; exact (eqL_iff _ _).2 he
        clear he hno
        go_wp2
        go_ret
        exact ⟨rfl, hkp⟩
  · have hne : xs ≠ ys := fun h => hl (by rw [← hxl, ← hyl, h])
    have hb : ((n : Int) == (m : Int)) = false := by rw [beq_eq_false_iff_ne]; omega
    rw [eqL_ne hne]
    clear hne
    go_enter Try.func19, Try.ntmps19
    go_wp2
    go_ret
    exact ⟨rfl, Kp.refl _ _⟩
end Go.Proofs.Ytfflhlmnfhfcgaa
