/- Chapter 14: the walk of Supply. -/
import Derived.Test.YtpkbpeeelpgmcaaGreatXNwDem
import Derived.Test.YtpkbpeeelpgmcaaGreatXNwSup2
namespace Go.Proofs.YtpkbpeeelpgmcaaGreat
open Go.RowKit Go.Kq Go.Flow

theorem sumIZ : ∀ l : List Int, sumI l = sumZ l
  | [] => rfl
  | x :: l => by rw [sumI, sumZ, sumIZ l]
theorem dem_end {N : Net} (hN : N.Ok) {h : Bool} {ds : List Int} {L : List Pi} {d : Int} (hl : ds.length = N.ch.length) (hd : ∀ x ∈ ds, dOk x) (hp : Pushed (N.lay h ds) L 0 N.n d) (he : d = 120000000000000 ∨ ∃ b m, Lab L 0 b m ∧ Clo (Rs 0 b) L ∧ Rs 0 b N.n = false) : d ≤ sumZ ds ∧ ∃ b m, Lab L 0 b m ∧ Clo (Rs 0 b) L ∧ Rs 0 b N.n = false := by
  obtain ⟨h1, h2⟩ := wt_all hN h hl
  have h3 := push_le hp h1
  rw [h2] at h3
  have h4 := sumI_le ds hd
  rw [sumIZ] at h4
  have := hN.c1
  refine ⟨h3, he.resolve_left fun e => ?_⟩
  rw [hl] at h4
  omega
/-- What Supply returns of demands that are well. -/
def Sup (w w' : World) (N : Net) (h : Bool) (ds : List Int) (vf vp : Value) : Prop :=
  (∃ F, N.Least h ds F ∧ vp = .slice none 0 0 ∧ w'.ownsRow w.heap.size 2 1 vf F.length (F.map (Value.int .i64))) ∨
  (∃ R, Min N.A0 (N.wt h ds) R ∧ N.wt h ds R < sumZ ds ∧ vf = .slice none 0 0 ∧ w'.ownsRow w.heap.size 3 1 vp (mem R N.n).length ((mem R N.n).map natV))
theorem Web.stop {w : World} {base B V g cap M : Nat} {L : List Pi} {j : Nat} {p : Pi} {b : Bool} (h : Web w base B V (.slice (some ⟨g, 0, none⟩) M cap) L) (hp : L[j]? = some p) :
    Web (w.setCell ⟨g, j * 5 + 4, none⟩ (.bool b)) base B V (.slice (some ⟨g, 0, none⟩) M cap) (L.set j { p with st := b }) := by
  have hne : g ≠ B := fun e => own_other h.row h.head (by decide) (by rw [e]; rfl)
  have hM : M = L.length := by
    obtain ⟨_, _, hv, _⟩ := own_form h.row
    injection hv
  subst hM
  refine ⟨h.ge, (kp_setOne w g _ _).heap h.head fun e => hne e.symm, ?_⟩
  have h1 := own_set h.row (j * 5 + 4) (.bool b)
  rw [flat_set c5_len L j p { p with st := b } 4 (.bool b) hp (by decide) rfl] at h1
  simpa using h1
theorem Web.flow2 {w : World} {base B V g cap M : Nat} {L : List Pi} {j : Nat} {p : Pi} {f : Int} (h : Web w base B V (.slice (some ⟨g, 0, none⟩) M cap) L) (hp : L[j]? = some p) :
    Web (w.setCell ⟨g, j * 5 + 3, none⟩ (.int .i64 f)) base B V (.slice (some ⟨g, 0, none⟩) M cap) (L.set j { p with fl := f }) := by
  have hM : M = L.length := by
    obtain ⟨_, _, hv, _⟩ := own_form h.row
    injection hv
  subst hM
  have := h.flow hp (f := f)
  rwa [List.length_set] at this
theorem web_len {w : World} {base B V M cap : Nat} {a : Option Addr} {L : List Pi} (h : Web w base B V (.slice a M cap) L) : L.length = M := by
  obtain ⟨_, _, hv, _⟩ := own_form h.row
  injection hv with _ h2 _
  exact h2.symm
theorem web_some {w : World} {base B V M cap : Nat} {a : Option Addr} {L : List Pi} (h : Web w base B V (.slice a M cap) L) (hM : 0 < M) : ∃ g, a = some ⟨g, 0, none⟩ := by
  have hl := web_len h
  obtain ⟨_, _, hv, _, _, h3⟩ := own_form h.row
  injection hv with h1 _ _
  rw [h1]
  exact h3 (by omega)
theorem SI.pre {N : Net} {h : Bool} {ds : List Int} {k : Nat} {L L2 : List Pi} {p q : Pi} {s t : Nat} {d : Int} (hI : SI N h ds k L) (hp : L[k]? = some p) (hP : Pushed (L.set k { p with st := true }) L2 s t d) : fls ((L2.set k q).take (k + 1)) = fls (L.take k) ++ [q.fl] := by
  have hkl := (List.getElem?_eq_some_iff.1 hp).1
  have h2l : L2.length = L.length := by have := hP.same.len; simpa using this
  refine List.ext_getElem? fun i => ?_
  rw [fls_get, List.getElem?_take]
  by_cases h1 : i < k
  · rw [if_pos (by omega), List.getElem?_set_ne (by omega), List.getElem?_append_left (by simp [fls]; omega), fls_get, List.getElem?_take, if_pos h1]
    obtain ⟨r, hr⟩ : ∃ r, L[i]? = some r := ⟨_, List.getElem?_eq_getElem (by omega)⟩
    obtain ⟨f, h3, h4⟩ := hP.same.at_ i r (by rw [List.getElem?_set_ne (by omega), hr])
    rw [h3, hr]
    simp [h4 ((hI.st i r hr).2 (.inl h1))]
  · have hl : (fls (L.take k)).length = k := by simp [fls]; omega
    by_cases h2 : i = k
    · subst h2
      rw [if_pos (by omega), List.getElem?_set_self (by omega), List.getElem?_append_right (by omega), hl]
      simp
    · rw [if_neg (by omega), List.getElem?_append_right (by omega), hl, List.getElem?_eq_none (by simp; omega)]
      rfl
/-- push between the ends of a pipe that is stopped. -/
theorem push_fix (base B V g M cap : Nat) (L : List Pi) (k : Nat) (p : Pi) (w : World) (hW : Web w base B V (.slice (some ⟨g, 0, none⟩) M cap) L) (hG : Good V L) (hF : Fit L) (hk : L[k]? = some p) (hst : p.st = true) (hM : M ≤ 100) (hV : V ≤ 30) :
    Calls Tryz.prog 52 #[.pointer (some ⟨B, 0, none⟩), .int .i64 p.fr, .int .i64 p.to, .int .i64 p.fl] w fun e w' => ∃ L' d, e = .returned (.int .i64 d) ∧ Web w' base B V (.slice (some ⟨g, 0, none⟩) M cap) L' ∧ Pushed L L' p.fr p.to d ∧ 0 ≤ d ∧ d ≤ p.fl ∧ (d = p.fl ∨ ∃ b m, Lab L' p.fr b m ∧ Clo (Rs p.fr b) L' ∧ Rs p.fr b p.to = false) ∧
      w'.cell? ⟨g, k * 5, none⟩ = some (.int .i64 p.fr) ∧ w'.cell? ⟨g, k * 5 + 1, none⟩ = some (.int .i64 p.to) ∧ w'.cell? ⟨g, k * 5 + 3, none⟩ = some (.int .i64 p.fl) ∧ w'.frozen? ⟨g, k * 5 + 3, none⟩ = false ∧ Kp (Row (.slice (some ⟨g, 0, none⟩) M cap)) w w' := by
  have hl := web_len hW
  obtain ⟨g1, g2, g3, g4⟩ := hG p (List.mem_of_getElem? hk)
  have hf := hF.get hk
  refine (push_any base B V _ L p.fr p.to p.fl w hW hG hF g1 g2 g3 ⟨hf.1, by omega⟩ (by omega) hV).mono ?_
  rintro e w' ⟨L', d, rfl, hw, hp, h0, h1, he, hkp⟩
  obtain ⟨f, h2, h3⟩ := hp.same.at_ k p hk
  rw [h3 hst] at h2
  have hrow := hw.row
  rw [web_len hw] at hrow
  obtain ⟨g', hgg, _, _, _, hcs⟩ := own_at c5_len hrow h2 (by decide)
  cases hgg
  exact ⟨L', d, rfl, hw, hp, h0, h1, he, (hcs 0 _ rfl).1, (hcs 1 _ rfl).1, (hcs 3 _ rfl).1, (hcs 3 _ rfl).2, hkp⟩
attribute [local go_sem ↓] Go.wp_at_zero Go.wp_at_succ
set_option maxHeartbeats 8000000 in
set_option maxRecDepth 100000 in
theorem Supply_ok (N : Net) (hN : N.Ok) (A B D : Option Addr) (ca cb dn dc : Nat) (hi : Bool) (ds : List Int) (w : World) (hR : RdNet w A B N) (hD : RdI .i64 w D dn ds) (hnil : D = none → dn = 0 ∧ dc = 0) (hl : ds.length = N.ch.length) (hd : ∀ d ∈ ds, dOk d) :
    Calls Tryz.prog 26 #[netV N A B ca cb, .bool hi, .slice D dn dc] w fun e w' => ∃ vf vp, e = .returned (.tuple #[vf, vp, .int .i64 0]) ∧ Sup w w' N hi ds vf vp ∧ Kp No w w' := by
  obtain ⟨i0, hi0, hz0, hz1, hz2⟩ := info_parts info2
  have ht60 := hN.t1
  have hc16 := hN.c1
  have hn1 := hN.n1
  have hn24 := hN.n2
  have H1 := Lib.hid (fun w hR hD => demands_ok N hN A B D ca cb dn dc hi ds w hR hD hnil hl hd)
  have HN := Lib.hid hN
  have HDO := Lib.hid hd
  have HL := Lib.hid hl
  clear hN hd hnil hl
  unfold netV at H1 ⊢
  go_enter Tryz.func26, Tryz.ntmps26
  go_wp2_with fail
  have K0 := Lib.hid (Kp.alloc No w (.cells #[.int .i64 N.n, .slice A N.tr.length ca, .slice B N.ch.length cb] 25))
  refine (H1.out _ (hR.no K0.out) (hD.no K0.out)).mono ?_
  rintro e w1 ⟨b, sl, L, d, rfl, hw, hp, hd0, he, hk1⟩
  obtain ⟨hle, hcl⟩ := dem_end HN.out HL.out HDO.out hp he
  have K1 := Lib.hid (K0.out.tr hk1)
  have B1 := Lib.hid (hk1.heap (heap_alloc_new w (.cells #[.int .i64 N.n, .slice A N.tr.length ca, .slice B N.ch.length cb] 25)) (fun h => h))
  have HW := Lib.hid hw
  have HP := Lib.hid hp
  have HCL := Lib.hid hcl
  have HG := Lib.hid (lay_good HN.out hi ds (fun x hx => by have := HDO.out x hx; unfold dOk at this; omega)).1
  have x1 : w1.cell? ⟨w.heap.size, 1, none⟩ = some (.slice A N.tr.length ca) := by rw [cell_of_row w1 _ 1 _ _ _ B1.out]; rfl
  clear hw hp he hk1 hcl
  by_cases hds : d = sumI ds
  · have hb : (d == sumI ds) = true := by rw [beq_iff_eq]; exact hds
    rw [hb]
    have HDS := Lib.hid (hds.trans (sumIZ ds))
    clear hds hb
    obtain ⟨a, cap, rfl, _, _, _⟩ := own_form HW.out.row
    have hLl : L.length = N.tr.length + N.ch.length := by rw [HP.out.same.len, lay_length HL.out]
    generalize hM : L.length = M at *
    have HM := Lib.hid hM
    have HLL := Lib.hid hLl
    have hM1 : N.tr.length ≤ M := by omega
    have hM2 : M ≤ 100 := by omega
    clear hM hLl
    go_wp2_with fail
    go_loopw [11] (fun i wr => ∃ (j : Nat) (L' : List Pi), N.tr.length ≤ j ∧ j ≤ M ∧ i = .int .i64 j ∧ Web wr (w.heap.size + 1) b N.n (.slice a M cap) L' ∧ L'.map ff = L.map ff ∧ (∀ i p, L'[i]? = some p → (p.st = true ↔ N.tr.length ≤ i ∧ i < j)) ∧ Kp (Row (.slice a M cap)) w1 wr) (fun i _ => M - (intOf i).toNat)
    case atStart =>
      refine ⟨N.tr.length, L, Nat.le_refl _, hM1, rfl, by have := HW.out; simpa using this, rfl, fun i p hpi => ?_, Kp.refl _ _⟩
      have := same_st HP.out.same (lay_st N hi ds) p (List.mem_of_getElem? hpi)
      rw [this]
      simp
    case round =>
      obtain ⟨j, L', hj1, hj2, rfl, hweb, hff, hst, hkp⟩ := hrel
      have HWB := Lib.hid hweb
      have HFF := Lib.hid hff
      have HST := Lib.hid hst
      have hLM := web_len hweb
      have HLM := Lib.hid hLM
      obtain ⟨q0, q1, _, _⟩ := cell_head hweb.head
      clear hweb hff hst hLM
      by_cases hlt : j < M
      · obtain ⟨g, rfl⟩ := web_some HWB.out (by omega)
        obtain ⟨p, hpj⟩ : ∃ p, L'[j]? = some p := ⟨_, List.getElem?_eq_getElem (by have := HLM.out; omega)⟩
        have hrow := HWB.out.row
        rw [HLM.out] at hrow
        obtain ⟨g', hgg, _, _, _, hcs⟩ := own_at c5_len hrow hpj (by decide)
        cases hgg
        have y4 := (hcs 4 _ rfl).1
        have z4 := (hcs 4 _ rfl).2
        have HPJ := Lib.hid hpj
        clear hrow hcs hpj
        go_wp2_with fail
        go_roundw
        case rel => exact ⟨j + 1, L'.set j { p with st := true }, by omega, by omega, by go_num, HWB.out.stop HPJ.out, (ff_set HPJ.out true).trans HFF.out, fun i q hq => by
          have hjl := (List.getElem?_eq_some_iff.1 HPJ.out).1
          by_cases e : j = i
          · subst e
            rw [List.getElem?_set_self hjl] at hq
            cases hq
            simp
            omega
          · rw [List.getElem?_set_ne e] at hq
            rw [HST.out i q hq]
            omega, hkp.tr (Kp.setCell _ _ _ _ fun _ => rfl)⟩
        case measure => simp [intOf]; omega
      · obtain rfl : j = M := by omega
        have hI0 := SI.start HN.out HL.out (HDS.out ▸ HP.out) HFF.out (fun i p hpi => by
          rw [HST.out i p hpi]
          have h1 := (List.getElem?_eq_some_iff.1 hpi).1
          have h2 := HLM.out
          omega)
        have HI0 := Lib.hid hI0
        have hx1 : wr.cell? ⟨w.heap.size, 1, none⟩ = some (.slice A N.tr.length ca) := hkp.cell x1 (fun h => by
          have := (own_ge HW.out.row (g := w.heap.size) (by have h2 : Row (.slice a j cap) w.heap.size := h; exact h2)).1
          rw [World.size_alloc] at this
          omega)
        clear hI0
        have HHF := Lib.hid HWB.out
        obtain ⟨wm, rfl⟩ : ∃ wm : World, wm = wr := ⟨_, rfl⟩
        have HKM := Lib.hid hkp
        go_wp2_with fail
        go_loopw [6, 54] (fun q i wq => ∃ (k : Nat) (L2 : List Pi), k ≤ N.tr.length ∧ i = .int .i64 k ∧ Web wq (w.heap.size + 1) b N.n (.slice a j cap) L2 ∧ SI N hi ds k L2 ∧ wq.ownsRow w1.heap.size 2 1 q k ((fls (L2.take k)).map (Value.int .i64)) ∧ Kp (Row (.slice a j cap)) w1 wq) (fun _ i _ => N.tr.length - (intOf i).toNat)
        case atStart => exact ⟨0, L', by omega, rfl, HWB.out, HI0.out, ⟨by simp [fls], .inl ⟨rfl, rfl⟩⟩, HKM.out⟩
        case round =>
          obtain ⟨k, L2, hk, rfl, hweb2, hI2, hown2, hkp2⟩ := hrel
          have HW2 := Lib.hid hweb2
          have HI2 := Lib.hid hI2
          have HO2 := Lib.hid hown2
          have HLM2 := Lib.hid (web_len hweb2)
          obtain ⟨q0, q1, _, _⟩ := cell_head hweb2.head
          obtain ⟨a6, c6, rfl, _, _, _⟩ := own_form hown2
          clear hweb2 hI2 hown2
          by_cases hkt : k < N.tr.length
          · obtain ⟨g, rfl⟩ := web_some HW2.out (by omega)
            obtain ⟨p, hpk⟩ : ∃ p, L2[k]? = some p := ⟨_, List.getElem?_eq_getElem (by have := HLM2.out; omega)⟩
            have hkj : k < j := by omega
            have HPK := Lib.hid hpk
            have hW3 := HW2.out.stop (b := true) hpk
            have HW3 := Lib.hid hW3
            have hrow := HW2.out.row
            rw [HLM2.out] at hrow
            obtain ⟨g', hgg, _, _, _, hcs⟩ := own_at c5_len hrow hpk (by decide)
            cases hgg
            have y4 := (hcs 4 _ rfl).1
            have z4 := (hcs 4 _ rfl).2
            have y0 := (hcs 0 _ rfl).1
            have y1 := (hcs 1 _ rfl).1
            have y3 := (hcs 3 _ rfl).1
            rw [Nat.add_zero] at y0
            have hgood : Good N.n (L2.set k { p with st := true }) := by
              refine fun q hq => ?_
              obtain ⟨i, hqi⟩ := List.mem_iff_getElem?.1 hq
              have e1 : (L2.set k { p with st := true }).map sk = (N.lay hi ds).map sk := (sk_set (q := { p with st := true }) hpk rfl).trans HI2.out.sk
              obtain ⟨r, hr, e2, e3, e4⟩ := sk_at e1 hqi
              have := HG.out r (List.mem_of_getElem? hr)
              rw [e2, e3, e4] at this
              exact this
            have hfit : Fit (L2.set k { p with st := true }) := ff_fit (ff_set hpk true) HI2.out.fit
            have HGD := Lib.hid hgood
            have HFT := Lib.hid hfit
            have hpf := HI2.out.fit.get hpk
            have hpp := hgood { p with st := true } (List.mem_of_getElem? (List.getElem?_set_self (by have := HLM2.out; omega)))
            have hp1 : p.fr ≤ N.n := hpp.1
            have hp2 : p.to ≤ N.n := hpp.2.1
            have hp3 : p.fr ≠ p.to := hpp.2.2.1
            have hp4 : p.mo ≤ 200000000000000 := hpp.2.2.2
            have HP3 := Lib.hid hp3
            have hp5 : 0 ≤ p.fl := hpf.1
            have hp6 : p.fl ≤ p.mo := hpf.2
            have HLS := Lib.hid (show (L2.set k { p with st := true }).length = j by rw [List.length_set]; exact HLM2.out)
            have hKs := Kp.setCell (Row (.slice (some ⟨g, 0, none⟩) j cap)) wr ⟨g, k * 5 + 4, none⟩ (.bool true) fun _ => rfl
            have HKS := Lib.hid hKs
            have HOS := Lib.hid (hKs.owns HO2.out (fun g1 hg1 h => own_apart HO2.out HW2.out.row (by decide) hg1 h))
            clear hW3 hrow hcs hpk hgood hfit hpf hpp hp3 hKs
            have hset : (L2.set k { p with st := true })[k]? = some { p with st := true } := List.getElem?_set_self (by have := HLM2.out; omega)
            have hrow3 := HW3.out.row
            rw [HLS.out] at hrow3
            obtain ⟨g', hgg, _, _, _, hcs⟩ := own_at c5_len hrow3 hset (by decide)
            cases hgg
            have s0 : (wr.setCell ⟨g, k * 5 + 4, none⟩ (.bool true)).cell? ⟨g, k * 5, none⟩ = some (.int .i64 p.fr) := (hcs 0 _ rfl).1
            have s1 : (wr.setCell ⟨g, k * 5 + 4, none⟩ (.bool true)).cell? ⟨g, k * 5 + 1, none⟩ = some (.int .i64 p.to) := (hcs 1 _ rfl).1
            have s3 : (wr.setCell ⟨g, k * 5 + 4, none⟩ (.bool true)).cell? ⟨g, k * 5 + 3, none⟩ = some (.int .i64 p.fl) := (hcs 3 _ rfl).1
            clear hset hrow3 hcs
            go_wp2_with fail
            generalize wr.setCell ⟨g, k * 5 + 4, none⟩ (.bool true) = w3 at HW3 HKS HOS s0 s1 s3 ⊢
            have HPU := Lib.hid (fun W (hk : Kp No w3 W) => push_fix (w.heap.size + 1) b N.n g j cap (L2.set k { p with st := true }) k { p with st := true } W (HW3.out.no hk) HGD.out HFT.out (List.getElem?_set_self (by have := HLM2.out; omega)) rfl hM2 (by omega))
            go_region_held3 (fun w' => w'.cell? ⟨g, k * 5, none⟩ = some (.int .i64 p.fr) ∧ w'.cell? ⟨g, k * 5 + 1, none⟩ = some (.int .i64 p.to) ∧ w'.cell? ⟨g, k * 5 + 3, none⟩ = some (.int .i64 p.fl)) (first | exact ⟨t0, t1, t3⟩ | go_keep)
              ((go_at_call 52; refine (HPU.out _ (Kp.drew No w3)).mono ?_; rintro e w4 ⟨L4, dd, rfl, hw4, hpu4, hdd0, hdd1, hend, t0, t1, t3, u3, hk4⟩; have HW4 := Lib.hid hw4; have HPU4 := Lib.hid hpu4; have HEN4 := Lib.hid hend; have HK4 := Lib.hid hk4; clear hw4 hpu4 hend hk4))
            obtain ⟨h4k, hsi4⟩ := HI2.out.step HL.out hkt HPK.out HPU4.out ⟨hdd0, hdd1⟩ HEN4.out
            have HPRE := Lib.hid (SI.pre HI2.out (q := { p with st := true, fl := p.fl - dd }) HPK.out HPU4.out)
            have HSI4 := Lib.hid hsi4
            have HW5 := Lib.hid (HW4.out.flow2 (f := p.fl - dd) h4k)
            have hK45 := HK4.out.tr (Kp.setCell (Row (.slice (some ⟨g, 0, none⟩) j cap)) w4 ⟨g, k * 5 + 3, none⟩ (.int .i64 (p.fl - dd)) fun _ => rfl)
            have HO5 := Lib.hid (hK45.owns HOS.out (fun g1 hg1 h => own_apart HOS.out HW3.out.row (by decide) hg1 h))
            have HKP5 := Lib.hid ((hkp2.tr HKS.out).tr ((Kp.drew (Row (.slice (some ⟨g, 0, none⟩) j cap)) w3).tr hK45))
            have hdd2 : dd ≤ p.fl := hdd1
            have hz5 := HKP5.out.size
            clear h4k hsi4 hK45 hdd1
            go_wp2_with (at_builtin; refine stop_in ?_)
            refine stop_out ?_
            have hz45 : (w4.setCell ⟨g, k * 5 + 3, none⟩ (.int .i64 (p.fl - dd))).heap.size = w4.heap.size := by simp
            generalize w4.setCell ⟨g, k * 5 + 3, none⟩ (.int .i64 (p.fl - dd)) = w5 at HW5 HO5 HKP5 hz5 hz45 ⊢
            have HZ := Lib.hid hz45
            clear hz45
            refine wpList_append_own_at _ rfl _ _ 33 rfl w1.heap.size 2 i0 (.int .i64 0) 1 8 Tryz.underlying33 hi0 hz0 hz1 hz2 rfl (by decide) (.slice a6 k c6) k ((fls (L2.take k)).map (Value.int .i64)) rfl (HO5.out.alloc (.cells #[.int .i64 (p.fl - dd)] 2)) ⟨w4.heap.size, 0, none⟩ 1 1 [.int .i64 (p.fl - dd)] rfl rfl (by rw [← HZ.out]; exact cell_one_new w5 _ _) (ints_oneCell .i64 [(p.fl - dd)]) (by unfold maxLen; omega) (by omega) (by simp; omega) ?_
            intro v' w6 hown6 hgrow hnil6 hat
            have hk6 : Kp (Row (.slice (some ⟨g, 0, none⟩) j cap)) w1 w6 := HKP5.out.trans ((Kp.alloc (fun g => w1.heap.size ≤ g) _ _).tr (Kp.grown hgrow fun g hg _ => (own_ge HO5.out hg).1)) (fun g hg h => absurd h (Nat.not_le.2 hg))
            have hk56 : Kp (fun g1 => (Value.slice a6 k c6).ownBlock = some g1) w5 w6 := (Kp.alloc _ _ _).tr (Kp.grown hgrow fun g1 hg1 _ => hg1)
            have HW6 := Lib.hid (HW5.out.kp hk56 (fun h => own_other HO5.out HW5.out.head (by decide) h) (fun g1 hg1 h => own_apart HO5.out HW5.out.row (by decide) h hg1))
            rw [show (fls (L2.take k)).map (Value.int .i64) ++ [.int .i64 (p.fl - dd)] = (fls ((L4.set k { p with st := true, fl := p.fl - dd }).take (k + 1))).map (Value.int .i64) by rw [HPRE.out, List.map_append]; rfl] at hown6
            have HO6 := Lib.hid hown6
            have HK6 := Lib.hid hk6
            clear hown6 hgrow hnil6 hat hk6 hk56
            go_wp2_with fail
            go_roundw
            case rel => exact ⟨k + 1, _, by omega, by go_num, HW6.out, HSI4.out, HO6.out, HK6.out⟩
            case measure => simp [intOf]; omega
          · obtain rfl : k = N.tr.length := by omega
            have HLE := Lib.hid (HI2.out.least HL.out)
            have hfl : (fls (L2.take N.tr.length)).length = N.tr.length := by simp [fls, HLM2.out, hM1]
            have HFL := Lib.hid hfl
            clear hfl
            go_wp2_with fail
            refine bodyPost_ret (v := .tuple #[.slice a6 N.tr.length c6, .slice none 0 0, .int .i64 0]) (by simp [results, Tryz.results26, go_sem]) rfl ⟨_, _, rfl, .inl ⟨_, HLE.out, rfl, by rw [HFL.out]; exact own_mono HO2.out K1.out.size⟩, ?_⟩
            exact K1.out.trans hkp2 fun k hk h => by
              have := (own_ge HW.out.row (g := k) h).1
              rw [World.size_alloc] at this
              omega
  · have hb : (d == sumI ds) = false := by rw [beq_eq_false_iff_ne]; exact hds
    rw [hb]
    have HDS := Lib.hid (show d < sumZ ds by have := sumIZ ds; omega)
    clear hds hb
    go_wp2_with fail
    refine (side_any _ b N.n sl L w1 HW.out (HG.out.same HP.out.same) (lay_len100 HN.out HP.out.same) ⟨hn1, by omega⟩).mono ?_
    rintro e w2 ⟨v, b', m, rfl, hown, hlab, hclo, hk2⟩
    have hno : Rs 0 b' N.n = false := by
      obtain ⟨b2, m2, h1, h2, h3⟩ := HCL.out
      cases hr : Rs 0 b' N.n with
      | false => rfl
      | true =>
        have := hlab.min h2 (by simp [Rs]) N.n (rs_iff.1 hr)
        rw [h3] at this
        cases this
    obtain ⟨hmin, hwt⟩ := push_min HP.out hlab hclo hno
    have HMI := Lib.hid hmin
    have HWT := Lib.hid hwt
    have HO := Lib.hid hown
    have K2 := Lib.hid (K1.out.tr hk2)
    clear hmin hwt hown hlab hclo hno hk2
    go_wp2_with fail
    refine bodyPost_ret (v := .tuple #[.slice none 0 0, v, .int .i64 0]) (by simp [results, Tryz.results26, go_sem]) rfl ⟨_, _, rfl, .inr ⟨_, HMI.out, by rw [HWT.out]; exact HDS.out, rfl, own_mono HO.out K1.out.size⟩, K2.out⟩
end Go.Proofs.YtpkbpeeelpgmcaaGreat
