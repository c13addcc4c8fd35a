/- Chapter 13: law 6 (DemandParts): the walk. Printed by gen_lpa.py. -/
import Derived.Test.YtlieijnhaolnhaaGreatXLpaPM
import Derived.Test.YtlieijnhaolnhaaGreatXAwk
import Derived.Test.YtlieijnhaolnhaaGreatXNtwM
namespace Go.Proofs.YtlieijnhaolnhaaGreat
open Go.RowKit Go.Kq

/-- Three rows of pipes that grow, apart. -/
structure R3 (base : Nat) (wr : World) (va vs vo : Value) (la ls lo : List Pp) : Prop where
  a : wr.ownsRow base 51 2 va la.length (la.flatMap pcells)
  s : wr.ownsRow base 51 2 vs ls.length (ls.flatMap pcells)
  o : wr.ownsRow base 51 2 vo lo.length (lo.flatMap pcells)
  pas : ∀ g, va.ownBlock = some g → vs.ownBlock ≠ some g
  pao : ∀ g, va.ownBlock = some g → vo.ownBlock ≠ some g
  pso : ∀ g, vs.ownBlock = some g → vo.ownBlock ≠ some g
theorem R3.swap {base : Nat} {wr : World} {va vs vo : Value} {la ls lo : List Pp} (h : R3 base wr va vs vo la ls lo) : R3 base wr vs va vo ls la lo := ⟨h.s, h.a, h.o, fun g h1 h2 => h.pas g h2 h1, h.pso, h.pao⟩
theorem R3.turn {base : Nat} {wr : World} {va vs vo : Value} {la ls lo : List Pp} (h : R3 base wr va vs vo la ls lo) : R3 base wr vo vs va lo ls la := ⟨h.o, h.s, h.a, fun g h1 h2 => h.pso g h2 h1, fun g h1 h2 => h.pao g h2 h1, fun g h1 h2 => h.pas g h2 h1⟩
theorem R3.no {base : Nat} {wr w' : World} {va vs vo : Value} {la ls lo : List Pp} (h : R3 base wr va vs vo la ls lo) (hk : Kp No wr w') : R3 base w' va vs vo la ls lo :=
  ⟨own_kp h.a hk (fun _ _ h => h), own_kp h.s hk (fun _ _ h => h), own_kp h.o hk (fun _ _ h => h), h.pas, h.pao, h.pso⟩
theorem R3.push {base : Nat} {wr w5 : World} {va vs vo v' : Value} {la ls lo : List Pp} {p : Pp} {ob : Obj} (h : R3 base wr va vs vo la ls lo) (hown : w5.ownsRow base 51 2 v' (la.length + 1) (la.flatMap pcells ++ pcells p)) (hgrow : (wr.alloc ob).grownBy w5 va.ownBlock) (hat : v'.ownBlock = va.ownBlock ∨ v'.ownBlock = some (wr.alloc ob).heap.size) :
    R3 base w5 v' vs vo (la ++ [p]) ls lo := by
  have hk : Kp (fun k => va.ownBlock = some k) wr w5 := (Kp.alloc _ wr ob).tr (Kp.grown hgrow fun k hk _ => hk)
  have new : ∀ {v : Value} {l : List Pp}, wr.ownsRow base 51 2 v l.length (l.flatMap pcells) → (∀ g, va.ownBlock = some g → v.ownBlock ≠ some g) → ∀ g, v'.ownBlock = some g → v.ownBlock ≠ some g := fun ho hap g hg hv => by
    rcases hat with hat | hat
    · exact hap g (hat ▸ hg) hv
    · have := (own_ge ho hv).2
      rw [hat] at hg
      simp at hg
      omega
  refine ⟨?_, own_kp h.s hk (fun g hg e => h.pas g e hg), own_kp h.o hk (fun g hg e => h.pao g e hg), new h.s h.pas, new h.o h.pao, h.pso⟩
  rw [List.length_append, flat_snoc]
  exact hown
theorem R3.kp {base : Nat} {w1 wr w5 : World} {va vs vo : Value} {la ls lo : List Pp} {ob : Obj} (h : R3 base wr va vs vo la ls lo) (hk : Kp No w1 wr) (hgrow : (wr.alloc ob).grownBy w5 va.ownBlock) (hb : base = w1.heap.size) : Kp No w1 w5 := by
  subst hb
  exact hk.trans ((Kp.alloc (fun g => w1.heap.size ≤ g) _ _).tr (Kp.grown hgrow fun g hg _ => (own_ge h.a hg).1)) (fun g hg h => absurd h (Nat.not_le.2 hg))
theorem newsP (w : World) (a b : Value) (t : TypeId) : ∀ j u, [a, b][j]? = some u → (w.alloc (.cells #[a, b] t)).cell? ((⟨w.heap.size, 0, none⟩ : Addr).add j) = some u := by
  intro j u hu
  rw [add_at, Nat.zero_add, cell_of_row _ _ _ _ _ _ (heap_alloc_new w _)]
  simpa using hu
set_option maxHeartbeats 1000000 in
theorem tparts_far (A P M : Option Addr) (n ca pn cp mn cm : Nat) (chest : Int) (w : World) (hf : 40 < n ∨ mn < n ∨ 20 < pn) :
    Calls Tryz.prog 6 #[.slice A n ca, .agg #[.slice P pn cp, .int .i64 chest], .slice M mn cm] w fun e w' => e = .returned (.bool true) ∧ Kp No w w' := by
  have AW := Lib.hid awake_any
  have KA := Lib.hid (Kp.alloc No w (.cells #[.slice P pn cp, .int .i64 chest] 35))
  by_cases h1 : (40 : Int) < (n : Int)
  · clear hf
    go_enter Tryz.func6, Tryz.ntmps6
    go_wp2_with fail
    refine (AW.out _).mono ?_
    rintro _ w2 ⟨rfl, k2⟩
    go_wp2_with fail
    go_ret
    exact ⟨rfl, KA.out.tr k2⟩
  · by_cases h2 : mn < n
    · have h2d : decide (mn < n) = true := decide_eq_true h2
      clear hf h2
      go_enter Tryz.func6, Tryz.ntmps6
      go_wp2_with fail
      refine (AW.out _).mono ?_
      rintro _ w2 ⟨rfl, k2⟩
      go_wp2_with fail
      go_ret
      exact ⟨rfl, KA.out.tr k2⟩
    · have h2d : decide (mn < n) = false := decide_eq_false h2
      have h3 : (20 : Int) < (pn : Int) := by omega
      clear hf h2
      go_enter Tryz.func6, Tryz.ntmps6
      go_wp2_with fail
      refine (AW.out _).mono ?_
      rintro _ w2 ⟨rfl, k2⟩
      go_wp2_with fail
      go_ret
      exact ⟨rfl, KA.out.tr k2⟩
set_option maxHeartbeats 4000000 in
set_option maxRecDepth 100000 in
theorem tparts_in (A P M : Option Addr) (n ca pn cp mn cm : Nat) (chest : Int) (l : List Rw) (ps : List Int) (ms : List Bool) (w : World) (hx : Rd rwC 5 w A n l) (hp : RdI .i64 w P pn ps) (hb : RdB w M mn ms) (hf : ¬ (40 < n ∨ mn < n ∨ 20 < pn)) :
    Calls Tryz.prog 6 #[.slice A n ca, .agg #[.slice P pn cp, .int .i64 chest], .slice M mn cm] w fun e w' => e = .returned (.bool true) ∧ Kp No w w' := by
  have AW := Lib.hid awake_any
  obtain ⟨i0, hi, hz0, hz1, hz2⟩ := info_parts infoP
  have KA := Lib.hid (Kp.alloc No w (.cells #[.slice P pn cp, .int .i64 chest] 35))
  have BX := Lib.hid (heap_alloc_new w (.cells #[.slice P pn cp, .int .i64 chest] 35))
  have hxl := hx.1
  have hpl := hp.1
  have hbl := hb.1
  have h1 : (n : Int) ≤ 40 := by omega
  have h2 : decide (mn < n) = false := decide_eq_false (by omega)
  have h3 : (pn : Int) ≤ 20 := by omega
  have HX := Lib.hid hx
  have HP := Lib.hid hp
  have HB := Lib.hid hb
  have HI := Lib.hid hi
  have HF := Lib.hid hf
  clear hx hp hb hi hf
  obtain ⟨a0, a1, _, _⟩ := two_cells BX.out
  go_enter Tryz.func6, Tryz.ntmps6
  go_wp2_with fail
  generalize w.alloc (.cells #[.slice P pn cp, .int .i64 chest] 35) = w1 at *
  clear a0 a1
  go_loopw [7, 8, 9, 10] (fun va vs vo i wr => ∃ k : Nat, k ≤ n ∧ i = .int .i64 k ∧ R3 w1.heap.size wr va vs vo ((l.map Rw.pp).take k) (pickN true l ms k) (pickN false l ms k) ∧ Kp No w1 wr) (fun _ _ _ i _ => n - (intOf i).toNat)
  case atStart => exact ⟨0, by omega, rfl, by
    have e1 : pickN true l ms 0 = [] := by simp [pickN]
    have e2 : pickN false l ms 0 = [] := by simp [pickN]
    rw [e1, e2, List.take_zero]
    exact ⟨World.ownsRow_nil _ _ _ _, World.ownsRow_nil _ _ _ _, World.ownsRow_nil _ _ _ _, fun g h => (by cases h), fun g h => (by cases h), fun g h => (by cases h)⟩, Kp.refl _ _⟩
  case round =>
    obtain ⟨k, hk, rfl, hR, hkp⟩ := hrel
    have HR := Lib.hid hR
    have KP := Lib.hid hkp
    clear hR hkp
    by_cases hlt : k < n
    · obtain ⟨x, hxk⟩ : ∃ x, l[k]? = some x := ⟨_, List.getElem?_eq_getElem (by omega)⟩
      obtain ⟨m, hmk⟩ : ∃ m, ms[k]? = some m := ⟨_, List.getElem?_eq_getElem (by have := HF.out; omega)⟩
      obtain ⟨bA, oA, rfl, _, hc⟩ := HX.out.2 k x hxk
      obtain ⟨bM, oM, rfl, _, hm0⟩ := HB.out.2 k m hmk
      have KK := KA.out.tr KP.out
      have c0 := KK.cell (hc 0 _ rfl) id
      have c1 := KK.cell (hc 1 _ rfl) id
      have m0 := KK.cell hm0 id
      simp only [Nat.add_zero] at c0
      have hk0 : (0 : Int) ≤ (k : Int) := by omega
      have hkn : (k : Int) < (n : Int) := by omega
      have hkm : (k : Int) < (mn : Int) := by have := HF.out; omega
      have e0 := Lib.hid (show (l.map Rw.pp).take (k + 1) = (l.map Rw.pp).take k ++ [x.pp] by rw [List.take_add_one, List.getElem?_map, hxk]; rfl)
      have e1 := Lib.hid (pick_snoc true l ms k x m hxk hmk)
      have e2 := Lib.hid (pick_snoc false l ms k x m hxk hmk)
      have lA : ((l.map Rw.pp).take k).length = k := by rw [List.length_take, List.length_map]; omega
      have lS := pick_len true l ms k
      have lO := pick_len false l ms k
      have CC := Lib.hid (And.intro (hc 0 _ rfl) (hc 1 _ rfl))
      have CM := Lib.hid hm0
      clear hxk hmk hc hm0 KK
      generalize (l.map Rw.pp).take k = la at *
      generalize pickN true l ms k = ls at *
      generalize pickN false l ms k = lo at *
      obtain ⟨aa, cca, rfl, _, _, _⟩ := own_form HR.out.a
      obtain ⟨asr, ccs, rfl, _, _, _⟩ := own_form HR.out.s
      obtain ⟨ao, cco, rfl, _, _, _⟩ := own_form HR.out.o
      have hws : w1.heap.size ≤ wr.heap.size := KP.out.size
      go_wp2_with (at_builtin; refine stop_in ?_)
      refine stop_out ?_
      refine wpL_append_any rfl _ _ 36 rfl w1.heap.size 51 i0 _ 2 16 Tryz.underlying36 HI.out hz0 hz1 hz2 rfl (by decide) (.slice aa la.length cca) la.length (la.flatMap pcells) rfl (own_kp HR.out.a (Kp.alloc No wr _) (fun _ _ h => h)) (some ⟨wr.heap.size, 0, none⟩) 1 1 (pcells x.pp) rfl rfl (fun h => by cases h) (fun ad had j u hu => by cases had; exact newsP wr _ _ _ j u hu) (pcells_one _) (by unfold maxLen; omega) (by omega) (by simp; omega) ?_
      intro v' w5 hown hgrow hat
      have R5 := Lib.hid (HR.out.push hown hgrow hat)
      have K5 := Lib.hid (HR.out.kp KP.out hgrow rfl)
      clear hown hgrow hat c0 c1 m0 HR
      have m0 := (KA.out.tr K5.out).cell CM.out id
      have c0 := (KA.out.tr K5.out).cell CC.out.1 id
      have c1 := (KA.out.tr K5.out).cell CC.out.2 id
      simp only [Nat.add_zero] at c0
      have hws : w1.heap.size ≤ w5.heap.size := K5.out.size
      cases m
      · go_wp2_with (at_builtin; refine stop_in ?_)
        refine stop_out ?_
        refine wpL_append_any rfl _ _ 36 rfl w1.heap.size 51 i0 _ 2 16 Tryz.underlying36 HI.out hz0 hz1 hz2 rfl (by decide) (.slice ao lo.length cco) lo.length (lo.flatMap pcells) rfl (own_kp R5.out.o (Kp.alloc No w5 _) (fun _ _ h => h)) (some ⟨w5.heap.size, 0, none⟩) 1 1 (pcells x.pp) rfl rfl (fun h => by cases h) (fun ad had j u hu => by cases had; exact newsP w5 _ _ _ j u hu) (pcells_one _) (by unfold maxLen; omega) (by omega) (by simp; omega) ?_
        intro v2 w6 hown hgrow hat
        have R6 := Lib.hid (R5.out.turn.push hown hgrow hat).turn
        have K6 := Lib.hid (R5.out.turn.kp K5.out hgrow rfl)
        clear hown hgrow hat c0 c1 m0
        go_wp2_with fail
        go_round
        case rel => exact ⟨k + 1, by omega, by go_num, by rw [e0.out, e1.out, e2.out, if_neg (by decide), if_pos (by decide)]; exact R6.out, K6.out⟩
        case measure => simp [intOf] <;> omega
      · go_wp2_with (at_builtin; refine stop_in ?_)
        refine stop_out ?_
        refine wpL_append_any rfl _ _ 36 rfl w1.heap.size 51 i0 _ 2 16 Tryz.underlying36 HI.out hz0 hz1 hz2 rfl (by decide) (.slice asr ls.length ccs) ls.length (ls.flatMap pcells) rfl (own_kp R5.out.s (Kp.alloc No w5 _) (fun _ _ h => h)) (some ⟨w5.heap.size, 0, none⟩) 1 1 (pcells x.pp) rfl rfl (fun h => by cases h) (fun ad had j u hu => by cases had; exact newsP w5 _ _ _ j u hu) (pcells_one _) (by unfold maxLen; omega) (by omega) (by simp; omega) ?_
        intro v2 w6 hown hgrow hat
        have R6 := Lib.hid (R5.out.swap.push hown hgrow hat).swap
        have K6 := Lib.hid (R5.out.swap.kp K5.out hgrow rfl)
        clear hown hgrow hat c0 c1 m0
        go_wp2_with fail
        go_round
        case rel => exact ⟨k + 1, by omega, by go_num, by rw [e0.out, e1.out, e2.out, if_pos (by decide), if_neg (by decide)]; exact R6.out, K6.out⟩
        case measure => simp [intOf] <;> omega
    · obtain rfl : k = n := by omega
      have hR := HR.out
      rw [List.take_of_length_le (by rw [List.length_map]; omega)] at hR
      have lA : (l.map Rw.pp).length = k := by rw [List.length_map]; omega
      have lS := pick_len true l ms k
      have lO := pick_len false l ms k
      have eA := sumE_sub (l := l) (ps := ps) (List.Sublist.refl (l.map Rw.pp)) (by omega)
      have eS := sumE_sub (l := l) (ps := ps) (pick_sub true l ms k) (by omega)
      have eO := sumE_sub (l := l) (ps := ps) (pick_sub false l ms k) (by omega)
      have K0 := Lib.hid (KA.out.tr KP.out)
      obtain ⟨aa, cca, rfl, _, _, _⟩ := own_form hR.a
      obtain ⟨asr, ccs, rfl, _, _, _⟩ := own_form hR.s
      obtain ⟨ao, cco, rfl, _, _, _⟩ := own_form hR.o
      have SA := fun (w0 : World) (h : Kp No wr w0) => Sum_any A P aa k pn _ ca cp cca l ps _ w0 (HX.out.no (K0.out.tr h)) (HP.out.no (K0.out.tr h)) (Rd.of_own pcells_len (by omega) (own_kp hR.a h (fun _ _ h => h))) (by omega)
      have SS := fun (w0 : World) (h : Kp No wr w0) => Sum_any A P asr k pn _ ca cp ccs l ps _ w0 (HX.out.no (K0.out.tr h)) (HP.out.no (K0.out.tr h)) (Rd.of_own pcells_len (by omega) (own_kp hR.s h (fun _ _ h => h))) (by omega)
      have SO := fun (w0 : World) (h : Kp No wr w0) => Sum_any A P ao k pn _ ca cp cco l ps _ w0 (HX.out.no (K0.out.tr h)) (HP.out.no (K0.out.tr h)) (Rd.of_own pcells_len (by omega) (own_kp hR.o h (fun _ _ h => h))) (by omega)
      unfold SumP at SA SS SO
      unfold sumV at SA SS SO
      rw [eA] at SA
      rw [eS] at SS
      rw [eO] at SO
      have HBX := Lib.hid (KP.out.heap BX.out id)
      obtain ⟨b0, _, _, _⟩ := two_cells HBX.out
      have PA : opnE l ps = 0 → ∀ (j : Nat) (x y z : Int × Int), (addL l ps (l.map Rw.pp))[j]? = some x → (addL l ps (pickN true l ms k))[j]? = some y → (addL l ps (pickN false l ms k))[j]? = some z → addE y z = (x.1, x.2, 0) := fun hE j x y z g1 g2 g3 =>
        parts_add (ms := ms) (good_of hE) (by have := HF.out; omega) (by omega) j x y z g1 (by rw [hxl]; exact g2) (by rw [hxl]; exact g3)
      have PN := Lib.hid (fun hE : opnE l ps = 0 => (opn_zero hE).2.1)
      generalize (l.map Rw.pp).length = qA at *
      generalize (pickN true l ms k).length = qS at *
      generalize (pickN false l ms k).length = qO at *
      have LA := addL_len l ps (l.map Rw.pp)
      have LS := addL_len l ps (pickN true l ms k)
      have LO := addL_len l ps (pickN false l ms k)
      generalize addL l ps (l.map Rw.pp) = DX at *
      generalize addL l ps (pickN true l ms k) = DY at *
      generalize addL l ps (pickN false l ms k) = DZ at *
      generalize opnE l ps = E at *
      replace PA := Lib.hid PA
      rw [hpl] at LA LS LO
      replace SA := Lib.hid SA
      replace SS := Lib.hid SS
      replace SO := Lib.hid SO
      clear hR HR lA lS lO eA eS eO
      by_cases h0 : E = 0
      · subst h0
        replace PA := Lib.hid (PA.out rfl)
        have hpn : 1 ≤ pn := by have := PN.out rfl; omega
        simp only [if_true] at SA SS SO
        rw [LA] at SA
        rw [LS] at SS
        rw [LO] at SO
        have HL := Lib.hid (And.intro LA (And.intro LS LO))
        clear LA LS LO PN
        go_wp2_with fail
        refine (SA.out wr (Kp.refl _ _)).mono ?_
        rintro _ w2 ⟨x, rfl, hx2, k2⟩
        have OX := Lib.hid hx2
        have K2 := Lib.hid k2
        replace b0 := k2.cell b0 id
        clear hx2 k2 SA
        go_wp2_with fail
        refine (SS.out w2 K2.out).mono ?_
        rintro _ w3 ⟨y, rfl, hy3, k3⟩
        have OY := Lib.hid hy3
        have K3 := Lib.hid (K2.out.tr k3)
        have OX3 := Lib.hid (own_kp OX.out k3 (fun _ _ h => h))
        replace b0 := k3.cell b0 id
        clear hy3 k3 SS
        go_wp2_with fail
        refine (SO.out w3 K3.out).mono ?_
        rintro _ w4 ⟨z, rfl, hz4, k4⟩
        have OZ := Lib.hid hz4
        have K4 := Lib.hid (K3.out.tr k4)
        have OY4 := Lib.hid (own_kp OY.out k4 (fun _ _ h => h))
        have OX4 := Lib.hid (own_kp OX3.out k4 (fun _ _ h => h))
        clear hz4 k4 SO b0
        obtain ⟨ax, cx, rfl, _, _, gx'⟩ := own_form OX4.out
        obtain ⟨ay, cy, rfl, _, _, gy'⟩ := own_form OY4.out
        obtain ⟨az, cz, rfl, _, _, gz'⟩ := own_form OZ.out
        obtain ⟨gx, rfl⟩ := gx' (by omega)
        obtain ⟨gy, rfl⟩ := gy' (by omega)
        obtain ⟨gz, rfl⟩ := gz' (by omega)
        clear gx' gy' gz' OX OX3 OY
        go_wp2_with fail
        go_loopw [17] (fun i wq => ∃ j : Nat, j ≤ pn ∧ i = .int .i64 j ∧ Kp No w4 wq) (fun i _ => pn - (intOf i).toNat)
        case atStart => exact ⟨0, by omega, rfl, Kp.refl _ _⟩
        case round =>
          obtain ⟨j, hj, rfl, hkq⟩ := hrel
          have KQ := Lib.hid hkq
          by_cases hjn : j < pn
          · obtain ⟨⟨x1, x2⟩, hxj⟩ : ∃ x, DX[j]? = some x := ⟨_, List.getElem?_eq_getElem (by have := HL.out; omega)⟩
            obtain ⟨⟨y1, y2⟩, hyj⟩ : ∃ x, DY[j]? = some x := ⟨_, List.getElem?_eq_getElem (by have := HL.out; omega)⟩
            obtain ⟨⟨z1, z2⟩, hzj⟩ : ∃ x, DZ[j]? = some x := ⟨_, List.getElem?_eq_getElem (by have := HL.out; omega)⟩
            have hadd := PA.out j _ _ _ hxj hyj hzj
            have AD := fun w0 => add03_is (y1, y2) (z1, z2) w0
            rw [hadd] at AD
            simp only [ieV, ivV] at AD
            replace AD := Lib.hid AD
            have xa := hkq.cell (own_cell OX4.out (flat_at ivC_len _ j (x1, x2) 0 _ hxj rfl)) id
            have xb := hkq.cell (own_cell OX4.out (flat_at ivC_len _ j (x1, x2) 1 _ hxj rfl)) id
            have ya := hkq.cell (own_cell OY4.out (flat_at ivC_len _ j (y1, y2) 0 _ hyj rfl)) id
            have yb := hkq.cell (own_cell OY4.out (flat_at ivC_len _ j (y1, y2) 1 _ hyj rfl)) id
            have za := hkq.cell (own_cell OZ.out (flat_at ivC_len _ j (z1, z2) 0 _ hzj rfl)) id
            have zb := hkq.cell (own_cell OZ.out (flat_at ivC_len _ j (z1, z2) 1 _ hzj rfl)) id
            simp only [Nat.add_zero] at xa ya za
            have hj0 : (0 : Int) ≤ (j : Int) := by omega
            have hjI : (j : Int) < (pn : Int) := by omega
            have HXJ := Lib.hid hxj
            have hkq2 := Lib.hid hkq
            clear hxj hyj hzj hadd hkq PA
            go_wp2_with fail
            have HV : ∀ y ∈ [(⟨12, 13, 25, #[.int .i64 0, .int .i64 0], #[.int .i64 x1, .int .i64 x2], ptrV⟩ : Bx)], ∀ {p q : Nat}, y.v p = y.v q → p = q := by intro y hy; simp only [List.mem_cons, List.not_mem_nil, or_false] at hy; rcases hy with rfl <;> exact fun {p q} h => ptrV_inj h
            have HS0 : ∀ y ∈ [(⟨12, 13, 25, #[.int .i64 0, .int .i64 0], #[.int .i64 x1, .int .i64 x2], ptrV⟩ : Bx)], y.a = (⟨12, 13, 25, #[.int .i64 0, .int .i64 0], #[.int .i64 x1, .int .i64 x2], ptrV⟩ : Bx).a → y = (⟨12, 13, 25, #[.int .i64 0, .int .i64 0], #[.int .i64 x1, .int .i64 x2], ptrV⟩ : Bx) := by intro y hy; simp only [List.mem_cons, List.not_mem_nil, or_false] at hy; rcases hy with rfl <;> simp
            have HM0 : (⟨12, 13, 25, #[.int .i64 0, .int .i64 0], #[.int .i64 x1, .int .i64 x2], ptrV⟩ : Bx) ∈ [(⟨12, 13, 25, #[.int .i64 0, .int .i64 0], #[.int .i64 x1, .int .i64 x2], ptrV⟩ : Bx)] := by simp
            have HS0 := Lib.hid HS0
            have HM0 := Lib.hid HM0
            have HV := Lib.hid HV
            refine wp_region_each (fun i u => match i with | 0 => u = .slice (some ⟨gy, 0, none⟩) pn cy | 1 => u = .int .i64 (j : Nat) | 2 => u = .pointer (some ⟨gy, j * 2, none⟩) | 3 => u = .agg #[.int .i64 y1, .int .i64 y2] | 4 => u = .slice (some ⟨gz, 0, none⟩) pn cz | 5 => u = .int .i64 (j : Nat) | 6 => u = .pointer (some ⟨gz, j * 2, none⟩) | 7 => u = .agg #[.int .i64 z1, .int .i64 z2] | 8 => u = .tuple #[.agg #[.int .i64 x1, .int .i64 x2], .int .i64 0] | 9 => u = .tuple #[.agg #[.int .i64 x1, .int .i64 x2], .int .i64 0] | 10 => u = .agg #[.int .i64 x1, .int .i64 x2] | 11 => u = .int .i64 0 | 14 => u = .int .i64 0 | _ => True) (BxW wr [(⟨12, 13, 25, #[.int .i64 0, .int .i64 0], #[.int .i64 x1, .int .i64 x2], ptrV⟩ : Bx)]) (by kernel_rfl) (by kernel_rfl) (by kernel_rfl) ?_ ?_ ?_
            · exact BxW.start _ _
            · refine ⟨?_, ?_, ?_, ?_, ?_, ?_, ?_, ?_, ?_, ?_, ?_, ?_, ?_, ?_, ?_, trivial⟩
              · intro r a w' hf hg hW hr hd K hK
                refine wpOp_of rfl rfl ?_
                have y0 : a.tmps.getD 13 undef = .slice (some ⟨gy, 0, none⟩) pn cy := hf.evalFree (by kernel_rfl)
                go_simp
                exact hK _ _ rfl (hW.upd (by kernel_rfl) _)
              · intro r a w' hf hg hW hr hd K hK
                refine wpOp_of rfl rfl ?_
                have y0 : a.tmps.getD 17 undef = .int .i64 (j : Nat) := hf.evalFree (by kernel_rfl)
                go_simp
                exact hK _ _ rfl (hW.upd (by kernel_rfl) _)
              · intro r a w' hf hg hW hr hd K hK
                refine wpOp_of rfl rfl ?_
                refine hf.depE hg hd 0 125 (by kernel_rfl) fun u0 e0 g0 h0 => ?_
                replace g0 : u0 = .slice (some ⟨gy, 0, none⟩) pn cy := g0
                subst g0
                refine hf.depE hg hd 1 126 (by kernel_rfl) fun u1 e1 g1 h1 => ?_
                replace g1 : u1 = .int .i64 (j : Nat) := g1
                subst g1
                go_simp
                exact hK _ _ rfl (hW.upd (by kernel_rfl) _)
              · intro r a w' hf hg hW hr hd K hK
                refine wpOp_of rfl rfl ?_
                refine hf.depE hg hd 2 127 (by kernel_rfl) fun u0 e0 g0 h0 => ?_
                replace g0 : u0 = .pointer (some ⟨gy, j * 2, none⟩) := g0
                subst g0
                have z0 := hW.kp.cell ya id
                have z1 := hW.kp.cell yb id
                go_simp
                exact hK _ _ rfl (hW.upd (by kernel_rfl) _)
              · intro r a w' hf hg hW hr hd K hK
                refine wpOp_of rfl rfl ?_
                have y0 : a.tmps.getD 15 undef = .slice (some ⟨gz, 0, none⟩) pn cz := hf.evalFree (by kernel_rfl)
                go_simp
                exact hK _ _ rfl (hW.upd (by kernel_rfl) _)
              · intro r a w' hf hg hW hr hd K hK
                refine wpOp_of rfl rfl ?_
                have y0 : a.tmps.getD 17 undef = .int .i64 (j : Nat) := hf.evalFree (by kernel_rfl)
                go_simp
                exact hK _ _ rfl (hW.upd (by kernel_rfl) _)
              · intro r a w' hf hg hW hr hd K hK
                refine wpOp_of rfl rfl ?_
                refine hf.depE hg hd 4 129 (by kernel_rfl) fun u0 e0 g0 h0 => ?_
                replace g0 : u0 = .slice (some ⟨gz, 0, none⟩) pn cz := g0
                subst g0
                refine hf.depE hg hd 5 130 (by kernel_rfl) fun u1 e1 g1 h1 => ?_
                replace g1 : u1 = .int .i64 (j : Nat) := g1
                subst g1
                go_simp
                exact hK _ _ rfl (hW.upd (by kernel_rfl) _)
              · intro r a w' hf hg hW hr hd K hK
                refine wpOp_of rfl rfl ?_
                refine hf.depE hg hd 6 131 (by kernel_rfl) fun u0 e0 g0 h0 => ?_
                replace g0 : u0 = .pointer (some ⟨gz, j * 2, none⟩) := g0
                subst g0
                have z0 := hW.kp.cell za id
                have z1 := hW.kp.cell zb id
                go_simp
                exact hK _ _ rfl (hW.upd (by kernel_rfl) _)
              · intro r a w' hf hg hW hr hd K hK
                refine wpOp_of rfl rfl ?_
                refine hf.depE hg hd 3 128 (by kernel_rfl) fun u0 e0 g0 h0 => ?_
                replace g0 : u0 = .agg #[.int .i64 y1, .int .i64 y2] := g0
                subst g0
                refine hf.depE hg hd 7 132 (by kernel_rfl) fun u1 e1 g1 h1 => ?_
                replace g1 : u1 = .agg #[.int .i64 z1, .int .i64 z2] := g1
                subst g1
                go_simp
                with_reducible refine (AD.out _).mono ?_
                rintro e w'' ⟨rfl, k⟩
                exact hK _ _ rfl ((hW.call k).upd (by kernel_rfl) _)
              · intro r a w' hf hg hW hr hd K hK
                refine wpOp_of rfl rfl ?_
                refine hf.depE hg hd 8 133 (by kernel_rfl) fun u0 e0 g0 h0 => ?_
                replace g0 : u0 = .tuple #[.agg #[.int .i64 x1, .int .i64 x2], .int .i64 0] := g0
                subst g0
                go_simp
                exact hK _ _ rfl (hW.upd (by kernel_rfl) _)
              · intro r a w' hf hg hW hr hd K hK
                refine wpOp_of rfl rfl ?_
                refine hf.depE hg hd 9 124 (by kernel_rfl) fun u0 e0 g0 h0 => ?_
                replace g0 : u0 = .tuple #[.agg #[.int .i64 x1, .int .i64 x2], .int .i64 0] := g0
                subst g0
                go_simp
                exact hK _ _ rfl (hW.upd (by kernel_rfl) _)
              · intro r a w' hf hg hW hr hd K hK
                refine wpOp_of rfl rfl ?_
                refine hf.depE hg hd 9 124 (by kernel_rfl) fun u0 e0 g0 h0 => ?_
                replace g0 : u0 = .tuple #[.agg #[.int .i64 x1, .int .i64 x2], .int .i64 0] := g0
                subst g0
                go_simp
                exact hK _ _ rfl (hW.upd (by kernel_rfl) _)
              · intro r a w' hf hg hW hr hd K hK
                refine wpOp_of rfl rfl ?_
                go_simp
                exact hK _ _ trivial (hW.alloc (by kernel_rfl) HM0.out hr HV.out HS0.out)
              · intro r a w' hf hg hW hr hd K hK
                refine wpOp_of rfl rfl ?_
                refine hf.depE hg hd 10 134 (by kernel_rfl) fun u0 e0 g0 h0 => ?_
                replace g0 : u0 = .agg #[.int .i64 x1, .int .i64 x2] := g0
                subst g0
                refine hf.depE hg hd 12 18 (by kernel_rfl) fun u1 e1 _ h1 => ?_
                obtain ⟨g, hu, hgl, _, hz⟩ := hW.empty HM0.out hr h1
                subst hu
                simp only [ptrV] at e1
                obtain ⟨a0, a1, f0, f1⟩ := two_cells hz
                go_simp
                exact hK undef _ trivial (hW.store (by kernel_rfl) HM0.out h1 hgl HV.out HS0.out (kp_two _ _ _ _) (set2 (.int .i64 x1) (.int .i64 x2) hz) _)
              · intro r a w' hf hg hW hr hd K hK
                refine wpOp_of rfl rfl ?_
                refine hf.depE hg hd 11 135 (by kernel_rfl) fun u0 e0 g0 h0 => ?_
                replace g0 : u0 = .int .i64 0 := g0
                subst g0
                go_simp
                exact hK _ _ rfl (hW.upd (by kernel_rfl) _)
            intro r' w3 hg hW hr'
            obtain ⟨g0, hg0, hl0, hm0, hb0⟩ := hW.filled HM0.out (hr' 13 (by decide))
            have hkN := hW.kp
            obtain ⟨q14, hq14⟩ : ∃ u, r' 14 = some u := Option.ne_none_iff_exists'.1 (hr' 14 (by decide))
            have hk14 := hg 14 q14 hq14
            replace hk14 : q14 = .int .i64 0 := hk14
            subst hk14
            replace hg0 : r' 12 = some (.pointer (some ⟨g0, 0, none⟩)) := hg0
            simp only [List.length_cons, List.length_nil, Nat.reduceAdd, List.range_succ, List.range_zero, List.nil_append, List.cons_append, List.map_cons, List.map_nil, putAll, Act.put, List.setIfInBounds_toArray, List.set_cons_succ, List.set_cons_zero, hg0, hq14, Option.getD_some]
            clear hg hW hr' hg0 HM0 HS0 HV hq14
            clear xa xb ya yb za zb
            have xa := hkN.cell (hkq2.out.cell (own_cell OX4.out (flat_at ivC_len _ j (x1, x2) 0 _ HXJ.out rfl)) id) id
            have xb := hkN.cell (hkq2.out.cell (own_cell OX4.out (flat_at ivC_len _ j (x1, x2) 1 _ HXJ.out rfl)) id) id
            simp only [Nat.add_zero] at xa
            obtain ⟨e0, e1, _, _⟩ := two_cells hb0
            have KN := Lib.hid (KQ.out.tr hkN)
            clear hkN hb0 hl0 hm0
            go_wp2_with fail
            go_quiet (fail)
            have KN2 := Lib.hid (KN.out.tr (Kp.drewN No w3 nq))
            go_wp2_with fail
            go_round
            case rel => exact ⟨j + 1, by omega, by go_num, KN2.out⟩
            case measure => simp [intOf] <;> omega
          · obtain rfl : j = pn := by omega
            have hjj : ¬ ((j : Int) < (j : Int)) := by omega
            clear hkq PA
            go_wp2_with fail
            refine (AW.out _).mono ?_
            rintro _ w6 ⟨rfl, k6⟩
            have KF := Lib.hid ((K0.out.tr (K4.out.tr KQ.out)).tr k6)
            go_wp2_with fail
            go_ret
            exact ⟨rfl, KF.out⟩
      · have he : (E != 0) = true := bne_iff_ne.2 h0
        simp only [if_neg h0] at SA SS SO
        clear PA PN LA LS LO h0
        go_wp2_with fail
        refine (SA.out wr (Kp.refl _ _)).mono ?_
        rintro _ w2 ⟨x, rfl, _, k2⟩
        have K2 := Lib.hid k2
        replace b0 := k2.cell b0 id
        clear k2 SA
        go_wp2_with fail
        refine (SS.out w2 K2.out).mono ?_
        rintro _ w3 ⟨y, rfl, _, k3⟩
        have K3 := Lib.hid (K2.out.tr k3)
        replace b0 := k3.cell b0 id
        clear k3 SS
        go_wp2_with fail
        refine (SO.out w3 K3.out).mono ?_
        rintro _ w4 ⟨z, rfl, _, k4⟩
        have K4 := Lib.hid (K3.out.tr k4)
        clear k4 SO b0
        go_wp2_with fail
        refine (AW.out _).mono ?_
        rintro _ w6 ⟨rfl, k6⟩
        have KF := Lib.hid ((K0.out.tr K4.out).tr k6)
        go_wp2_with fail
        go_ret
        exact ⟨rfl, KF.out⟩
theorem tparts_any (A P M : Option Addr) (n ca pn cp mn cm : Nat) (chest : Int) (l : List Rw) (ps : List Int) (ms : List Bool) (w : World) (hx : Rd rwC 5 w A n l) (hp : RdI .i64 w P pn ps) (hb : RdB w M mn ms) :
    Calls Tryz.prog 6 #[.slice A n ca, .agg #[.slice P pn cp, .int .i64 chest], .slice M mn cm] w fun e w' => e = .returned (.bool true) ∧ Kp No w w' := by
  by_cases hf : 40 < n ∨ mn < n ∨ 20 < pn
  · exact tparts_far A P M n ca pn cp mn cm chest w hf
  · exact tparts_in A P M n ca pn cp mn cm chest l ps ms w hx hp hb hf
end Go.Proofs.YtlieijnhaolnhaaGreat
