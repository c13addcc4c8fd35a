/- Great numbers by limbs: Plus: the walk. -/
import Derived.Test.YtakgcnjpmpcekaaGreatXNta
namespace Go.Proofs.YtakgcnjpmpcekaaGreat
open Go.RowKit Go.Kq

theorem plus_step {out : List Nat} {k V x y c T : Nat} (hl : out.length = k) (hI : valN BB out + c * BB ^ k = T) (hV : V = x + y + c) :
    valN BB (out ++ [V % BB]) + V / BB * BB ^ (k + 1) = T + (BB ^ k * x + BB ^ k * y) := by
  rw [valN_append, hl, Nat.pow_succ]
  have hd := Nat.div_add_mod V BB
  have e1 : valN BB [V % BB] = V % BB := by simp [valN]
  have e2 : V / BB * (BB ^ k * BB) = BB ^ k * (BB * (V / BB)) := by rw [Nat.mul_comm (V / BB), Nat.mul_assoc]
  have e3 : BB ^ k * (BB * (V / BB)) + BB ^ k * (V % BB) = BB ^ k * V := by rw [← Nat.mul_add, hd]
  have e4 : BB ^ k * V = BB ^ k * x + BB ^ k * y + BB ^ k * c := by rw [hV, Nat.mul_add, Nat.mul_add]
  have e5 : c * BB ^ k = BB ^ k * c := Nat.mul_comm _ _
  rw [e1, e2]
  omega
theorem plus_small {x y c : Nat} (hx : x < BB) (hy : y < BB) (hc : c ≤ 1) : (x + y + c) / BB ≤ 1 := by
  unfold BB at *
  omega
theorem plus_lt {a b : List Nat} {x : Nat} (ha : ∀ u ∈ a, u < BB) (hb : ∀ u ∈ b, u < BB) (h1 : a.length ≤ x) (h2 : b.length ≤ x) : valN BB a + valN BB b < BB ^ (x + 1) := by
  have hBB : 0 < BB := by unfold BB; omega
  have g1 := valN_lt hBB a ha
  have g2 := valN_lt hBB b hb
  have g3 : BB ^ a.length ≤ BB ^ x := Nat.pow_le_pow_right hBB h1
  have g4 : BB ^ b.length ≤ BB ^ x := Nat.pow_le_pow_right hBB h2
  rw [Nat.pow_succ]
  have g5 : BB ^ x * 2 ≤ BB ^ x * BB := Nat.mul_le_mul_left _ (by unfold BB; omega)
  omega
theorem IsNat.le {w : World} {v : Value} {N k k' : Nat} (h : IsNat w v N k) (hk : k ≤ k') : IsNat w v N k' := by
  obtain ⟨A, n, c, l, h1, h2, h3, h4, h5⟩ := h
  exact ⟨A, n, c, l, h1, h2, h3, by omega, h5⟩
/-- The row while a number is made, limb by limb. -/
structure RowR (w : World) (k : Nat) (out : List Nat) (v : Value) (wr : World) : Prop where
  len : out.length = k
  small : ∀ x ∈ out, x < BB
  own : wr.ownsRow w.heap.size 134 1 v k (out.map u32V)
  kp : Kp No w wr
theorem RowR.trim {w wr : World} {k : Nat} {out : List Nat} {v : Value} (h : RowR w k out v wr) (hk : 0 < k) (hk2 : k ≤ 1000000) :
    Calls Tryz.prog 84 #[v] wr fun e w' => ∃ z, e = .returned z ∧ IsNew w.heap.size w' z (valN BB out) k ∧ Kp No w w' := by
  obtain ⟨a, c, rfl, h1, h2, h3⟩ := own_form h.own
  refine (trim_any a k c out wr (NatAt.of_own h.own h.small) hk2 (fun e => ?_) h1 h2).mono ?_
  · obtain ⟨g, hg⟩ := h3 hk
    rw [hg] at e
    cases e
  · rintro _ w' ⟨z, rfl, h4, h5⟩
    exact ⟨z, rfl, ⟨h4.1, h4.2.mono h.kp.size⟩, h.kp.tr h5⟩
theorem RowR.snoc {w wr w5 : World} {k x : Nat} {out : List Nat} {v v' : Value} {ob : Obj} (h : RowR w k out v wr) (hx : x < BB) (hown : w5.ownsRow w.heap.size 134 1 v' (k + 1) (out.map u32V ++ [u32V x])) (hgrow : (wr.alloc ob).grownBy w5 v.ownBlock) :
    RowR w (k + 1) (out ++ [x]) v' w5 :=
  ⟨by simp [h.len], fun y hy => by
    rcases List.mem_append.1 hy with h1 | h1
    · exact h.small y h1
    · simp at h1
      rw [h1]
      exact hx, by
    rw [List.map_append]
    exact hown, h.kp.trans ((Kp.alloc (fun g => w.heap.size ≤ g) _ _).tr (Kp.grown hgrow fun g hg _ => (own_ge h.own hg).1)) (fun g hg h => absurd h (Nat.not_le.2 hg))⟩
theorem one_news {w : World} {v : Value} {t : TypeId} (ad : Addr) (had : ad = ⟨w.heap.size, 0, none⟩) (j : Nat) (u : Value) (hu : [v][j]? = some u) : (w.alloc (.cells #[v] t)).cell? (ad.add j) = some u := by
  subst had
  have hh : (w.alloc (.cells #[v] t)).heap[w.heap.size]? = some (.cells #[v] t (0, 0)) := heap_alloc_new w _
  cases j with
  | zero =>
    simp at hu
    subst hu
    rw [add_at, cell_of_row _ _ _ _ _ _ hh]
    rfl
  | succ j => simp at hu
set_option maxHeartbeats 1000000 in
set_option maxRecDepth 100000 in
theorem plus_num (A B : Option Addr) (n m ca cb : Nat) (a b : List Nat) (w : World) (ha : NatAt w A n a) (hb : NatAt w B m b) (hn : n ≤ 10000) (hm : m ≤ 10000) :
    Calls Tryz.prog 98 #[.slice A n ca, .slice B m cb] w fun e w' => ∃ v, e = .returned v ∧ IsNew w.heap.size w' v (valN BB a + valN BB b) (n + m + 1) ∧ Kp No w w' := by
  have hBB : 0 < BB := by unfold BB; omega
  obtain ⟨i0, hi, hz0, hz1, hz2⟩ := info_parts infoU
  have hal := ha.len
  have hbl := hb.len
  have LA := Lib.hid (fun i w0 (h : Kp No w w0) => limb_any A n ca i a w0 (ha.no h) (by omega))
  have LB := Lib.hid (fun i w0 (h : Kp No w w0) => limb_any B m cb i b w0 (hb.no h) (by omega))
  have HA := Lib.hid ha
  have HB := Lib.hid hb
  obtain ⟨x, hx⟩ : ∃ x, x = max n m := ⟨_, rfl⟩
  have hmax : max (n : Int) (m : Int) = (x : Int) := by omega
  have hx1 : n ≤ x ∧ m ≤ x ∧ x ≤ 10000 ∧ x ≤ n + m := by omega
  have hxw : IntKind.i64.wrap ((x : Int) + 1) = (x : Int) + 1 := by rw [IntKind.wrap_i64]; omega
  have HX := Lib.hid hx
  clear ha hb hx
  by_cases hnm : (n : Int) < (m : Int)
  all_goals
    go_enter Tryz.func98, Tryz.ntmps98
    generalize hC : (4294967296 : Int) = CC at *
    have HC := Lib.hid hC
    clear hC
    have hC0 : (CC == 0) = false := by rw [← HC.out]; rfl
    have hC1 : ¬ CC = 0 := by rw [← HC.out]; decide
    go_wp2_with fail
    go_loopw [5, 6, 7] (fun v c i wr => ∃ (k cc : Nat) (out : List Nat), k ≤ x + 1 ∧ i = .int .i64 k ∧ c = .int .u64 (cc : Nat) ∧ cc ≤ 1 ∧ RowR w k out v wr ∧ valN BB out + cc * BB ^ k = valN BB (a.take k) + valN BB (b.take k)) (fun _ _ i _ => x + 1 - (intOf i).toNat)
    case atStart => exact ⟨0, 0, [], by omega, rfl, rfl, by omega, ⟨rfl, by simp, World.ownsRow_nil w _ _ _, Kp.refl _ _⟩, by simp [valN]⟩
    case round =>
      obtain ⟨k, cc, out, hk, rfl, rfl, hcc, hR, hV⟩ := hrel
      have HR := Lib.hid hR
      have HV := Lib.hid hV
      clear hR hV
      by_cases hlt : k < x + 1
      · have hxs := limN_lt hBB HA.out.small k
        have hys := limN_lt hBB HB.out.small k
        have LX := LA.out k
        have LY := LB.out k
        have ta := valN_takeL BB a k
        have tb := valN_takeL BB b k
        obtain ⟨V, hVV⟩ : ∃ V, V = limN a k + limN b k + cc := ⟨_, rfl⟩
        have ST := Lib.hid (plus_step HR.out.len HV.out hVV)
        have SM := Lib.hid (plus_small hxs hys hcc)
        rw [← hVV] at SM
        have hRl : V % BB < BB := Nat.mod_lt _ hBB
        generalize limN a k = X at *
        generalize limN b k = Y at *
        have TA := Lib.hid ta
        have TB := Lib.hid tb
        have p1 : IntKind.u64.wrap ((X : Int) + (Y : Int)) = ((X + Y : Nat) : Int) := by unfold BB at hxs hys; rw [IntKind.wrap_u64]; omega
        have p2 : IntKind.u64.wrap (((X + Y : Nat) : Int) + (cc : Int)) = (V : Int) := by unfold BB at hxs hys; rw [IntKind.wrap_u64]; omega
        have hV64 : V < 18446744073709551616 := by unfold BB at hxs hys; omega
        have r1 : (V : Int) % CC = ((V % BB : Nat) : Int) := by rw [← HC.out]; unfold BB; omega
        have r2 : (V : Int) / CC = ((V / BB : Nat) : Int) := by rw [← HC.out]; unfold BB; omega
        have r3 : (V : Int).tmod CC = ((V % BB : Nat) : Int) := by rw [Int.tmod_eq_emod_of_nonneg (by omega)]; exact r1
        have r4 : (V : Int).tdiv CC = ((V / BB : Nat) : Int) := by rw [Int.tdiv_eq_ediv_of_nonneg (by omega)]; exact r2
        have q1 : IntKind.u32.wrap ((V % BB : Nat) : Int) = ((V % BB : Nat) : Int) := by unfold BB at hRl ⊢; rw [IntKind.wrap_u32]; omega
        have q2 : IntKind.u64.wrap ((V / BB : Nat) : Int) = ((V / BB : Nat) : Int) := by
          have h1 : V / BB < 18446744073709551616 := Nat.lt_of_le_of_lt (Nat.div_le_self _ _) hV64
          generalize V / BB = d at h1 ⊢
          rw [IntKind.wrap_u64]
          omega
        have q3 : IntKind.u64.wrap ((V % BB : Nat) : Int) = ((V % BB : Nat) : Int) := by
          have h1 : V % BB < 18446744073709551616 := Nat.lt_of_le_of_lt (Nat.mod_le _ _) hV64
          generalize V % BB = d at h1 ⊢
          rw [IntKind.wrap_u64]
          omega
        have LX := Lib.hid LX
        have LY := Lib.hid LY
        have HRL := Lib.hid hRl
        clear hxs hys hV64 hRl hVV ta tb
        obtain ⟨R, hR⟩ : ∃ R : Int, ((V % BB : Nat) : Int) = R := ⟨_, rfl⟩
        rw [hR] at r1 r3 q1 q3
        have HRR := Lib.hid hR
        clear hR
        obtain ⟨D, hD⟩ : ∃ D : Int, ((V / BB : Nat) : Int) = D := ⟨_, rfl⟩
        rw [hD] at r2 r4 q2
        have HD := Lib.hid hD
        clear hD
        generalize ((V : Nat) : Int) = VI at *
        generalize ((X + Y : Nat) : Int) = QI at *
        generalize ((X : Nat) : Int) = XI at *
        generalize ((Y : Nat) : Int) = YI at *
        have HCC := Lib.hid hcc
        obtain ⟨CI, hCI⟩ : ∃ CI : Int, ((cc : Nat) : Int) = CI := ⟨_, rfl⟩
        rw [hCI] at p2 ⊢
        clear hCI hcc
        have hkx : (k : Int) < (x : Int) + 1 := by omega
        obtain ⟨av, cv, rfl, hle, hcm, _⟩ := own_form HR.out.own
        go_wp2_with fail
        refine (LX.out _ HR.out.kp).mono ?_
        rintro _ w2 ⟨rfl, rfl⟩
        go_wp2_with fail
        refine (LY.out _ HR.out.kp).mono ?_
        rintro _ w3 ⟨rfl, rfl⟩
        go_wp2_with (at_builtin; refine stop_in ?_)
        refine stop_out ?_
        refine wpL_append_any rfl _ _ 87 rfl w.heap.size 134 i0 (.int .u32 0) 1 4 Tryz.underlying87 hi hz0 hz1 hz2 rfl (by decide) (.slice av k cv) k (out.map u32V) rfl (HR.out.own.alloc _) (some ⟨w3.heap.size, 0, none⟩) 1 1 [.int .u32 R] rfl rfl (fun h => by cases h) (fun ad had j u hu => one_news ad (by cases had; rfl) j u hu) (fun u hu => by simp at hu; subst hu; rfl) (by unfold maxLen; omega) (by omega) (by have := HR.out.kp.size; simp; omega) ?_
        intro v' w5 hown hgrow _
        have R5 := Lib.hid (HR.out.snoc (x := V % BB) HRL.out (by unfold u32V; rw [HRR.out]; exact hown) hgrow)
        clear hown hgrow
        go_wp2_with fail
        go_round
        case rel =>
          refine ⟨k + 1, V / BB, out ++ [V % BB], by omega, by go_num, by rw [HD.out], SM.out, R5.out, ?_⟩
          have e1 := ST.out
          have e2 := TA.out
          have e3 := TB.out
          omega
        case measure => simp [intOf] <;> omega
      · obtain rfl : k = x + 1 := by omega
        have hxx : ¬ ((x : Int) + 1 < (x : Int) + 1) := by omega
        have e1 := HV.out
        rw [List.take_of_length_le (by omega), List.take_of_length_le (by omega)] at e1
        have TR := HR.out.trim (by omega) (by omega)
        rw [(end_carry e1 (plus_lt HA.out.small HB.out.small (by omega) (by omega))).2] at TR
        have TR := Lib.hid TR
        have hx3 : x + 1 ≤ n + m + 1 := by omega
        obtain ⟨av, cv, rfl, _, _, _⟩ := own_form HR.out.own
        clear e1
        go_wp2_with fail
        refine TR.out.mono ?_
        rintro _ w' ⟨z, rfl, hz, hkp⟩
        go_wp2_with fail
        go_ret
        exact ⟨z, rfl, ⟨hz.1.le hx3, hz.2⟩, hkp⟩
end Go.Proofs.YtakgcnjpmpcekaaGreat
