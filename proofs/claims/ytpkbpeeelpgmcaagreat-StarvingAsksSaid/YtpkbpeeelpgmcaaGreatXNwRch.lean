/- Chapter 14: the walk of reach. -/
import Derived.Deep.LoopGhost
import Derived.WalkMore
import Derived.Test.YtpkbpeeelpgmcaaGreatXNwBaseM
namespace Go.Proofs.YtpkbpeeelpgmcaaGreat
open Go.RowKit Go.Kq Go.Flow

def code : Option Stp → Int
  | none => 0
  | some s => if s.fw then (s.j : Int) + 1 else -1 - (s.j : Int)
def lblL (V : Nat) (b : Nat → Option Stp) : List Value := (List.range (V + 1)).map fun v => Value.int .i64 (code (b v))
def lbl (V : Nat) (b : Nat → Option Stp) : Array Value := (lblL V b).toArray
theorem made_one (z : Value) (n : Nat) : madeCells #[z] n = (List.replicate n z).toArray := by
  apply Array.ext'
  unfold madeCells
  rw [Array.toList_map]
  refine List.eq_replicate_iff.2 ⟨by simp, fun b hb => ?_⟩
  obtain ⟨i, _, rfl⟩ := List.mem_map.1 hb
  simp [Nat.mod_one]
theorem lbl_start (V : Nat) : lbl V (fun _ => none) = (List.replicate (V + 1) (Value.int .i64 0)).toArray := by
  unfold lbl lblL
  congr 1
  refine List.ext_getElem? fun i => ?_
  rw [List.getElem?_map, List.getElem?_replicate]
  by_cases h : i < V + 1
  · simp [h, code]
  · simp [h]
theorem lbl_cell {w : World} {G V : Nat} {b : Nat → Option Stp} (h : w.heap[G]? = some (.cells (lbl V b) 3 (0, 0))) {v : Nat} (hv : v ≤ V) : w.cell? ⟨G, v, none⟩ = some (.int .i64 (code (b v))) := by
  rw [cell_of_row w G v _ _ _ h]
  unfold lbl lblL
  simp [List.getElem?_range (show v < V + 1 by omega)]
theorem lbl_set {w : World} {G V : Nat} {b : Nat → Option Stp} (h : w.heap[G]? = some (.cells (lbl V b) 3 (0, 0))) {v : Nat} (s : Stp) : (w.setCell ⟨G, v, none⟩ (.int .i64 (code (some s)))).heap[G]? = some (.cells (lbl V (put b v s)) 3 (0, 0)) := by
  have e : (lbl V b).setIfInBounds v (.int .i64 (code (some s))) = lbl V (put b v s) := by
    refine Array.ext_getElem? fun i => ?_
    unfold lbl lblL
    rw [Array.getElem?_setIfInBounds, List.getElem?_toArray, List.getElem?_toArray, List.getElem?_map, List.getElem?_map]
    by_cases h1 : v = i
    · subst h1
      by_cases h2 : v < V + 1
      · simp [h2, put_at]
      · simp [h2]
    · by_cases h2 : i < V + 1
      · simp [h1, List.getElem?_range h2, put_ne b s (Ne.symm h1)]
      · simp [h1, h2]
  simp [World.setCell, Array.getElem?_modify, h, e]
theorem make_ints {T E : TypeId} (hT : Tryz.prog.underlying T = some (.slice E)) (hE : (Tryz.prog.info? E).map (fun i => (i.zero, i.size, i.bytes)) = some (some (.int .i64 0), 1, 8)) (n : Nat) (z : Int) (hz : z = n) (hn : n ≤ 100000) (w : World) :
    (Instr.makeSlice T (.int .i64 z) (.int .i64 z)).run Tryz.prog w = .ok (.slice (some ⟨w.heap.size, 0, none⟩) n n) (w.alloc (.cells (List.replicate n (Value.int .i64 0)).toArray E)) := by
  obtain ⟨i0, hi0, hz0, hz1, hz2⟩ := info_parts hE
  have h := run_make (P := Tryz.prog) w T E i0 _ hT hi0 hz0 .i64 .i64 z z (by omega) (by omega) (by rw [hz2]; omega) (by omega)
  rw [h, hz1, Nat.mul_one, show z.toNat = n by omega]
  simp only [Value.cells]
  rw [made_one]
theorem infoI : (Tryz.prog.info? 3).map (fun i => (i.zero, i.size, i.bytes)) = some (some (.int .i64 0), 1, 8) := by kernel_rfl
def natV (i : Nat) : Value := .int .i64 i
theorem code_ne (s : Stp) : code (some s) ≠ 0 := by
  obtain ⟨j, fw⟩ := s
  cases fw <;> simp only [code, if_true, Bool.false_eq_true, if_false] <;> omega
/-- What holds while the queue lasts. -/
structure RI (w : World) (G V fr : Nat) (to : Int) (L : List Pi) (b : Nat → Option Stp) (xs : List Nat) (act : Nat → Prop) (g off cap : Nat) (wr : World) : Prop where
  qu : Qu wr (G + 1) 3 g off cap (xs.map natV)
  lb : wr.heap[G]? = some (.cells (lbl V b) 3 (0, 0))
  lab : ∃ m, Lab L fr b m
  le : ∀ v, b v ≠ none → v ≤ V
  qs : ∀ x ∈ xs, x ≤ V ∧ Rs fr b x = true
  dn : ∀ v, Rs fr b v = true → v ∈ xs ∨ act v ∨ Dn L (Rs fr b) v L.length
  nt : ∀ v, b v ≠ none → (v : Int) ≠ to
  kp : Kp No w wr
theorem RI.same {w : World} {G V fr : Nat} {to : Int} {L : List Pi} {b : Nat → Option Stp} {xs : List Nat} {act : Nat → Prop} {g off cap : Nat} {wr w2 : World} (h : RI w G V fr to L b xs act g off cap wr) (hk : Kp No wr w2) : RI w G V fr to L b xs act g off cap w2 :=
  ⟨h.qu.kp hk (fun h => h), hk.heap h.lb (fun h => h), h.lab, h.le, h.qs, h.dn, h.nt, h.kp.tr hk⟩
theorem RI.step {w : World} {G V fr : Nat} {to : Int} {L : List Pi} {b : Nat → Option Stp} {xs : List Nat} {x : Nat} {g off cap : Nat} {wr W3 w2 : World} {s : Stp} {v g2 off2 cap2 : Nat} (h : RI w G V fr to L b xs (fun y => y = x) g off cap wr)
    (hgr : W3.grownBy w2 (some g)) (hK : Kp (One G) wr W3) (hlb : W3.heap[G]? = some (.cells (lbl V (put b v s)) 3 (0, 0))) (hq : Qu w2 (G + 1) 3 g2 off2 cap2 (xs.map natV ++ [.int .i64 v])) (hR : Rch L s v x) (hf : v ≠ fr) (hbn : b v = none) (hv : v ≤ V) (hrx : Rs fr b x = true ∧ w.heap.size = G) :
    w2.heap[G]? = some (.cells (lbl V (put b v s)) 3 (0, 0)) ∧ (∃ m, Lab L fr (put b v s) m) ∧ (∀ u, put b v s u ≠ none → u ≤ V) ∧ Kp No w w2 ∧ ((v : Int) ≠ to → RI w G V fr to L (put b v s) (xs ++ [v]) (fun y => y = x) g2 off2 cap2 w2) := by
  have hgG : g ≠ G := by have := h.qu.lt; omega
  have h1 : w2.heap[G]? = some (.cells (lbl V (put b v s)) 3 (0, 0)) := (hgr.block G (Array.getElem?_eq_some_iff.1 hlb).1 (fun e => hgG (by injection e with e; exact e.symm))).trans hlb
  obtain ⟨m, hm⟩ := h.lab
  have h2 : Lab L fr (put b v s) (m + 1) := hm.add hf hbn hR (rs_iff.1 hrx.1)
  have h3 : ∀ u, put b v s u ≠ none → u ≤ V := fun u hu => by
    by_cases e : u = v
    · omega
    · rw [put_ne b s e] at hu
      exact h.le u hu
  have h4 : Kp No w w2 := (h.kp.trans hK (fun k hk e => by have e2 : k = G := e; omega)).trans (Kp.grown (S := One g) hgr fun k e _ => by cases e; rfl) (fun k hk e => by have e2 : k = g := e; have := h.qu.lt; omega)
  refine ⟨h1, ⟨_, h2⟩, h3, h4, fun hto => ⟨?_, h1, ⟨_, h2⟩, h3, fun y hy => ?_, fun u hu => ?_, fun u hu => ?_, h4⟩⟩
  · rw [List.map_append]
    exact hq
  · rcases List.mem_append.1 hy with hy | hy
    · exact ⟨(h.qs y hy).1, rs_put.2 (.inr (h.qs y hy).2)⟩
    · simp at hy
      subst hy
      exact ⟨hv, rs_put.2 (.inl rfl)⟩
  · rcases rs_put.1 hu with rfl | hu
    · exact .inl (by simp)
    · rcases h.dn u hu with h5 | h5 | h5
      · exact .inl (by simp [h5])
      · exact .inr (.inl h5)
      · exact .inr (.inr (h5.mono fun y hy => rs_put.2 (.inr hy)))
  · by_cases e : u = v
    · rw [e]
      exact hto
    · rw [put_ne b s e] at hu
      exact h.nt u hu
theorem RI.pop {w : World} {G V fr : Nat} {to : Int} {L : List Pi} {b : Nat → Option Stp} {x : Nat} {xs : List Nat} {g off cap : Nat} {wr : World} (h : RI w G V fr to L b (x :: xs) (fun _ => False) g off cap wr) : RI w G V fr to L b xs (fun y => y = x) g (off + 1) (cap - 1) wr :=
  ⟨h.qu.tail, h.lb, h.lab, h.le, fun y hy => h.qs y (by simp [hy]), fun v hv => by
    rcases h.dn v hv with h1 | h1 | h1
    · rcases List.mem_cons.1 h1 with h1 | h1
      · exact .inr (.inl h1)
      · exact .inl h1
    · exact h1.elim
    · exact .inr (.inr h1), h.nt, h.kp⟩
theorem RI.pop1 {w : World} {G V fr : Nat} {to : Int} {L : List Pi} {b : Nat → Option Stp} {x : Nat} {xs : List Nat} {g off : Nat} {wr : World} (h : RI w G V fr to L b (x :: xs) (fun _ => False) g off 1 wr) : RI w G V fr to L b xs (fun y => y = x) g off 0 wr := by
  obtain ⟨h1, h2⟩ := h.qu.last
  have h3 : xs = [] := by simpa using h1
  have := h.pop
  subst h3
  exact ⟨h2, this.lb, this.lab, this.le, this.qs, this.dn, this.nt, this.kp⟩
theorem RI.popc {w : World} {G V fr : Nat} {to : Int} {L : List Pi} {b : Nat → Option Stp} {x : Nat} {xs : List Nat} {g off cap : Nat} {wr : World} (h : RI w G V fr to L b (x :: xs) (fun _ => False) g off cap wr) (hc : cap = 1) : RI w G V fr to L b xs (fun y => y = x) g off 0 wr := by
  subst hc
  exact h.pop1
theorem RI.done {w : World} {G V fr : Nat} {to : Int} {L : List Pi} {b : Nat → Option Stp} {x : Nat} {xs : List Nat} {g off cap : Nat} {wr : World} (h : RI w G V fr to L b xs (fun y => y = x) g off cap wr) (hd : Dn L (Rs fr b) x L.length) : RI w G V fr to L b xs (fun _ => False) g off cap wr :=
  ⟨h.qu, h.lb, h.lab, h.le, h.qs, fun v hv => by
    rcases h.dn v hv with h1 | h1 | h1
    · exact .inl h1
    · exact .inr (.inr (h1 ▸ hd))
    · exact .inr (.inr h1), h.nt, h.kp⟩
set_option maxHeartbeats 8000000 in
set_option maxRecDepth 100000 in
theorem reach_any (base B V : Nat) (sl : Value) (L : List Pi) (fr : Nat) (to : Int) (w : World) (hW : Web w base B V sl L) (hb : ∀ p ∈ L, p.fr ≤ V ∧ p.to ≤ V ∧ p.fr ≠ p.to) (hfr : fr ≤ V) (hV : V ≤ 30) (hL : L.length ≤ 100) :
    Calls Tryz.prog 74 #[.pointer (some ⟨B, 0, none⟩), .int .i64 fr, .int .i64 to] w fun e w' => ∃ b g, e = .returned (.slice (some ⟨g, 0, none⟩) (V + 1) (V + 1)) ∧ w'.heap[g]? = some (.cells (lbl V b) 3 (0, 0)) ∧ (∃ m, Lab L fr b m) ∧
      (∀ v, b v ≠ none → v ≤ V) ∧ ((∃ v, b v ≠ none ∧ (v : Int) = to) ∨ (Clo (Rs fr b) L ∧ ∀ v, b v ≠ none → (v : Int) ≠ to)) ∧ Kp No w w' := by
  obtain ⟨i0, hi0, hz0, hz1, hz2⟩ := info_parts infoI
  obtain ⟨h0, h1, f0, f1⟩ := cell_head hW.head
  obtain ⟨a, cap, rfl, hcap, hcm, hnn⟩ := own_form hW.row
  have hmk := fun W => make_ints (T := 23) (E := 3) Tryz.underlying23 infoI (V + 1) ((V : Int) + 1) (by omega) (by omega) W
  have HW := Lib.hid hW
  have HB := Lib.hid hb
  clear hW hnn hb
  rw [← lbl_start] at hmk
  generalize hG : w.heap.size = G
  have HG := Lib.hid hG
  clear hG
  go_enter Tryz.func74, Tryz.ntmps74
  go_wp2_with fail
  go_step3
  go_wp2_with fail
  go_step3
  go_wp2_with fail
  rw [HG.out]
  have hst : RI w G V fr to L (fun _ => none) [fr] (fun _ => False) (G + 1) 0 1 ((w.alloc (.cells (lbl V fun _ => none) 3)).alloc (.cells #[.int .i64 fr] 3)) := by
    have hG := HG.out
    subst hG
    refine ⟨?_, ?_, ⟨0, Lab.start L fr 0⟩, fun v h => absurd rfl h, fun x hx => ?_, fun v hv => ?_, fun v h => absurd rfl h, (Kp.alloc _ _ _).tr (Kp.alloc _ _ _)⟩
    · have := qu_new (w.alloc (.cells (lbl V fun _ => none) 3)) (w.heap.size + 1) 3 (natV fr) (by simp)
      simpa [natV] using this
    · exact (Kp.alloc No _ _).heap (heap_alloc_new w _) (fun h => h)
    · simp at hx
      subst hx
      exact ⟨hfr, by simp [Rs]⟩
    · rcases rs_iff.1 hv with rfl | hv
      · exact .inl (by simp)
      · exact absurd rfl hv
  have HST := Lib.hid hst
  clear hst
  go_loopg [8] (free (fun _ => none) (V + 1) + 1) (fun gk q wr => ∃ (xs : List Nat) (g' off' cap' : Nat) (b : Nat → Option Stp), q = .slice (some ⟨g', off', none⟩) xs.length cap' ∧ RI w G V fr to L b xs (fun _ => False) g' off' cap' wr ∧ gk = free b (V + 1) + xs.length ∧ gk ≤ 100)
  case atStart => exact ⟨[fr], G + 1, 0, 1, _, rfl, HST.out, rfl, by have := free_le (fun _ => none) (V + 1); omega⟩
  case round =>
    obtain ⟨xs, g', off', cap', b, rfl, hri, hgk, hg100⟩ := hrel
    cases xs with
    | nil =>
      have HRI := Lib.hid hri
      have HGK := Lib.hid hgk
      clear hri hgk
      go_wp2_with fail
      try rw [Exit.noGoto_ret]
      go_ret
      exact ⟨b, G, rfl, HRI.out.lb, HRI.out.lab, HRI.out.le, .inr ⟨clo_of fun v hv => by
        rcases HRI.out.dn v hv with h | h | h
        · cases h
        · exact h.elim
        · exact h, HRI.out.nt⟩, HRI.out.kp⟩
    | cons x xs =>
      have hx0 := hri.qu.cell (j := 0) (u := natV x) rfl
      rw [Nat.add_zero] at hx0
      replace hx0 : wr.cell? ⟨g', off', none⟩ = some (.int .i64 (x : Int)) := hx0
      have hcx := hri.qu
      have hw0 := hri.kp.cell h0 (fun h => h)
      have hw1 := hri.kp.cell h1 (fun h => h)
      have HRI := Lib.hid hri
      have HGK := Lib.hid hgk
      have HQ := Lib.hid hcx
      have hcap1 : (x :: xs).length ≤ cap' := by
        obtain ⟨_, _, _, h3, _⟩ := hcx
        simpa using h3
      have hcapm : cap' ≤ maxLen := by
        obtain ⟨_, _, _, _, h3, _⟩ := hcx
        exact h3
      have hxl : xs.length ≤ cap' - 1 := by simp at hcap1; omega
      unfold maxLen at hcapm
      clear hri hgk hcx
      go_wp2_with fail
      all_goals
        have hrx : Rs fr b x = true ∧ w.heap.size = G := ⟨(HRI.out.qs x (by simp)).2, HG.out⟩
        have HRX0 := Lib.hid hrx
        clear hrx hx0 hcapm hxl HQ
        obtain ⟨wo, rfl⟩ : ∃ wo : World, wo = wr := ⟨_, rfl⟩
        go_loopw [8, 35] (fun q i wq => ∃ (k : Nat) (xs2 : List Nat) (g2 off2 cap2 : Nat) (b2 : Nat → Option Stp), k ≤ L.length ∧ i = .int .i64 k ∧ q = .slice (some ⟨g2, off2, none⟩) xs2.length cap2 ∧ RI w G V fr to L b2 xs2 (fun y => y = x) g2 off2 cap2 wq ∧ Rs fr b2 x = true ∧ Dn L (Rs fr b2) x k ∧ free b2 (V + 1) + xs2.length + 1 = gk) (fun _ i _ => L.length - (intOf i).toNat)
        case atStart =>
          first
            | exact ⟨0, xs, g', off', 0, b, by omega, rfl, rfl, HRI.out.popc (by first | assumption | omega), HRX0.out.1, Dn.zero _ _ _, by rw [HGK.out]; rfl⟩
            | exact ⟨0, xs, g', off' + 1, cap' - 1, b, by omega, rfl, rfl, HRI.out.pop, HRX0.out.1, Dn.zero _ _ _, by rw [HGK.out]; rfl⟩
        case round =>
          clear HRI HGK
          obtain ⟨k, xs, g', off', cap', b, hk, rfl, rfl, hri, hrx, hdn, hgk⟩ := hrel
          have HI := Lib.hid hri
          have HM := Lib.hid hgk
          have HRX := Lib.hid (show Rs fr b x = true ∧ w.heap.size = G from ⟨hrx, HRX0.out.2⟩)
          have HDN := Lib.hid hdn
          have HW2 := Lib.hid (HW.out.no hri.kp)
          have hqn := hri.qu.lt
          have hGl : G < wr.heap.size := (Array.getElem?_eq_some_iff.1 hri.lb).1
          have hql : xs.length ≤ 100 := by omega
          have hfr0 := free_le b (V + 1)
          clear hri hgk hrx hdn
          by_cases hkl : k < L.length
          · obtain ⟨p, hpk⟩ : ∃ p, L[k]? = some p := ⟨_, List.getElem?_eq_getElem hkl⟩
            obtain ⟨hpf, hpt, hpne⟩ := HB.out p (List.mem_of_getElem? hpk)
            obtain ⟨g, rfl, _, _, _, hcs⟩ := own_at c5_len HW2.out.row hpk (by decide)
            have x0 := (hcs 0 _ rfl).1
            have x1 := (hcs 1 _ rfl).1
            have x2 := (hcs 2 _ rfl).1
            have x3 := (hcs 3 _ rfl).1
            have x4 := (hcs 4 _ rfl).1
            rw [Nat.add_zero] at x0
            have HPK := Lib.hid hpk
            clear hcs hpk
            cases hst : p.st with
            | true =>
              rw [hst] at x4
              have HD := Lib.hid (HDN.out.succ HPK.out fun h => by rw [hst] at h; cases h)
              clear hst
              go_wp2_with fail
              go_roundw
              case rel => exact ⟨k + 1, xs, g', off', cap', b, by omega, by go_num, rfl, HI.out.same (Kp.alloc _ _ _), HRX.out.1, HD.out, HM.out⟩
              case measure => simp [intOf]; omega
            | false =>
              rw [hst] at x4
              have HST1 := Lib.hid hst
              clear hst
              by_cases hfx : p.fr = x
              · have hfb : ((p.fr : Int) == (x : Int)) = true := by rw [beq_iff_eq]; omega
                have HRX2 := Lib.hid (show Rs fr b p.fr = true by rw [hfx]; exact HRX.out.1)
                have HX0 := Lib.hid hfx
                have htx : p.to ≠ x := fun e => hpne (hfx.trans e.symm)
                have htb : ((p.to : Int) == (x : Int)) = false := by rw [beq_eq_false_iff_ne]; omega
                have HTX := Lib.hid htx
                clear hfx htx
                by_cases hlt : p.fl < p.mo
                · by_cases hnf : p.to = fr
                  · have hnb : ((p.to : Int) == (fr : Int)) = true := by rw [beq_iff_eq]; omega
                    have HD := Lib.hid (HDN.out.succ HPK.out fun _ => ⟨fun _ _ => (rs_iff.2 (.inl hnf)), fun _ _ => HRX2.out⟩)
                    have HNF := Lib.hid hnf
                    clear hnf
                    go_wp2_with fail
                    go_roundw
                    case rel => exact ⟨k + 1, xs, g', off', cap', b, by omega, by go_num, rfl, HI.out.same (Kp.alloc _ _ _), HRX.out.1, HD.out, HM.out⟩
                    case measure => simp [intOf]; omega
                  · have hnb : ((p.to : Int) == (fr : Int)) = false := by rw [beq_eq_false_iff_ne]; omega
                    cases hbn : b p.to with
                    | some s0 =>
                      have hcell := lbl_cell HI.out.lb (v := p.to) (by omega)
                      rw [hbn] at hcell
                      have hc0 := code_ne s0
                      have HD := Lib.hid (HDN.out.succ HPK.out fun _ => ⟨fun _ _ => (rs_iff.2 (.inr (by rw [hbn]; simp))), fun _ _ => HRX2.out⟩)
                      have HBN := Lib.hid hbn
                      have HNF := Lib.hid hnf
                      generalize hcc : code (some s0) = c0 at hcell hc0
                      have hc1 : (c0 == 0) = false := by rw [beq_eq_false_iff_ne]; exact hc0
                      have hc2 : (c0 != 0) = true := by rw [bne_iff_ne]; exact hc0
                      clear hbn hnf hcc hc0
                      go_wp2_with fail
                      go_roundw
                      case rel => exact ⟨k + 1, xs, g', off', cap', b, by omega, by go_num, rfl, HI.out.same (Kp.alloc _ _ _), HRX.out.1, HD.out, HM.out⟩
                      case measure => simp [intOf]; omega
                    | none =>
                      have hcell := lbl_cell HI.out.lb (v := p.to) (by omega)
                      rw [hbn] at hcell
                      replace hcell : wr.cell? ⟨G, p.to, none⟩ = some (.int .i64 0) := hcell
                      have hfz : wr.frozen? ⟨G, p.to, none⟩ = false := by simp [World.frozen?, HI.out.lb]
                      have HR := Lib.hid (show Rch L ⟨k, true⟩ p.to x from ⟨p, HPK.out, HST1.out, rfl, HX0.out, by show 0 < p.mo - p.fl; omega⟩)
                      have HBN := Lib.hid hbn
                      have HNF := Lib.hid hnf
                      clear hbn hnf
                      go_wp2_with (at_builtin; refine stop_in ?_)
                      refine stop_out ?_
                      refine wpL_append_qu _ rfl _ _ 23 rfl (G + 1) 3 i0 (.int .i64 0) 8 Tryz.underlying23 hi0 hz0 hz1 hz2 rfl g' off' xs.length cap' (xs.map natV) ?_ (by simp) rfl ⟨wr.heap.size + 1, 0, none⟩ 1 (.int .i64 (p.to : Int)) rfl ?_ rfl (by unfold maxLen; omega) (by omega) ?_ ?_
                      · exact HI.out.qu.kp (S := One G) (((kp_setOne _ _ _ _).tr (Kp.alloc _ _ _)).tr (Kp.alloc _ _ _)) (fun e => by have := HI.out.qu.lt; have e2 : g' = G := e; omega)
                      · go_simp
                      · have := HI.out.kp.size; simp; omega
                      intro g2 off2 cap2 w2 hq2 hgrow
                      have HL1 := lbl_set HI.out.lb (v := p.to) ⟨k, true⟩
                      simp only [code, if_true] at HL1
                      have hK := ((Kp.setCell (One G) wr ⟨G, p.to, none⟩ (.int .i64 (code (some ⟨k, true⟩))) (fun _ => rfl)).tr (Kp.alloc (One G) _ (.cells #[.int .i64 p.fr, .int .i64 p.to, .int .i64 p.mo, .int .i64 p.fl, .bool false] 98))).tr (Kp.alloc (One G) _ (.cells #[.int .i64 (p.to : Int)] 3))
                      simp only [code, if_true] at hK
                      have HI2 := Lib.hid (HI.out.step hgrow hK ((Kp.alloc No _ _).heap ((Kp.alloc No _ _).heap HL1 (fun h => h)) (fun h => h)) hq2 HR.out HNF.out HBN.out (by omega) HRX.out)
                      have HM2 := Lib.hid (show free (put b p.to ⟨k, true⟩) (V + 1) + (xs ++ [p.to]).length + 1 = gk by have h1 := free_put (s := ⟨k, true⟩) HBN.out (V + 1); rw [if_pos (by omega)] at h1; have := HM.out; rw [List.length_append, List.length_singleton]; omega)
                      have HD2 := Lib.hid (show Dn L (Rs fr (put b p.to ⟨k, true⟩)) x (k + 1) from (HDN.out.mono fun v hv => rs_put.2 (.inr hv)).succ HPK.out fun _ => ⟨fun _ _ => (rs_put.2 (.inl rfl)), fun _ _ => (rs_put.2 (.inr HRX2.out))⟩)
                      have HL2 := Lib.hid HL1
                      have HQ2 := Lib.hid hq2
                      have HG2 := Lib.hid hgrow
                      have HK2 := Lib.hid hK
                      clear HL1 hq2 hgrow hK
                      by_cases hto : (p.to : Int) = to
                      · have hnt : ((p.to : Int) == to) = true := by rw [beq_iff_eq]; exact hto
                        have HTO := Lib.hid hto
                        clear hto
                        go_wp2_with fail
                        try rw [Exit.noGoto_ret]
                        go_ret
                        exact ⟨_, _, rfl, HI2.out.1, HI2.out.2.1, HI2.out.2.2.1, .inl ⟨p.to, by rw [put_at]; simp, HTO.out⟩, HI2.out.2.2.2.1⟩
                      · have hnt : ((p.to : Int) == to) = false := by rw [beq_eq_false_iff_ne]; exact hto
                        have HTO := Lib.hid hto
                        clear hto
                        go_wp2_with fail
                        go_roundw
                        case rel => exact ⟨k + 1, xs ++ [p.to], g2, off2, cap2, _, by omega, by go_num, by rw [List.length_append]; rfl, HI2.out.2.2.2.2 HTO.out, rs_put.2 (.inr HRX.out.1), HD2.out, HM2.out⟩
                        case measure => simp [intOf]; omega
                · have HD := Lib.hid (HDN.out.succ HPK.out fun _ => ⟨fun _ h => absurd h hlt, fun h => absurd h HTX.out⟩)
                  go_wp2_with fail
                  go_roundw
                  case rel => exact ⟨k + 1, xs, g', off', cap', b, by omega, by go_num, rfl, HI.out.same (Kp.alloc _ _ _), HRX.out.1, HD.out, HM.out⟩
                  case measure => simp [intOf]; omega
              · have hfb : ((p.fr : Int) == (x : Int)) = false := by rw [beq_eq_false_iff_ne]; omega
                have HFX := Lib.hid hfx
                clear hfx
                by_cases htx : p.to = x
                · have htb : ((p.to : Int) == (x : Int)) = true := by rw [beq_iff_eq]; omega
                  have HRX2 := Lib.hid (show Rs fr b p.to = true by rw [htx]; exact HRX.out.1)
                  have HX0 := Lib.hid htx
                  clear htx
                  by_cases hlt : 0 < p.fl
                  · by_cases hnf : p.fr = fr
                    · have hnb : ((p.fr : Int) == (fr : Int)) = true := by rw [beq_iff_eq]; omega
                      have HD := Lib.hid (HDN.out.succ HPK.out fun _ => ⟨fun _ _ => HRX2.out, fun _ _ => (rs_iff.2 (.inl hnf))⟩)
                      have HNF := Lib.hid hnf
                      clear hnf
                      go_wp2_with fail
                      go_roundw
                      case rel => exact ⟨k + 1, xs, g', off', cap', b, by omega, by go_num, rfl, HI.out.same (Kp.alloc _ _ _), HRX.out.1, HD.out, HM.out⟩
                      case measure => simp [intOf]; omega
                    · have hnb : ((p.fr : Int) == (fr : Int)) = false := by rw [beq_eq_false_iff_ne]; omega
                      cases hbn : b p.fr with
                      | some s0 =>
                        have hcell := lbl_cell HI.out.lb (v := p.fr) (by omega)
                        rw [hbn] at hcell
                        have hc0 := code_ne s0
                        have HD := Lib.hid (HDN.out.succ HPK.out fun _ => ⟨fun _ _ => HRX2.out, fun _ _ => (rs_iff.2 (.inr (by rw [hbn]; simp)))⟩)
                        have HBN := Lib.hid hbn
                        have HNF := Lib.hid hnf
                        generalize hcc : code (some s0) = c0 at hcell hc0
                        have hc1 : (c0 == 0) = false := by rw [beq_eq_false_iff_ne]; exact hc0
                        have hc2 : (c0 != 0) = true := by rw [bne_iff_ne]; exact hc0
                        clear hbn hnf hcc hc0
                        go_wp2_with fail
                        go_roundw
                        case rel => exact ⟨k + 1, xs, g', off', cap', b, by omega, by go_num, rfl, HI.out.same (Kp.alloc _ _ _), HRX.out.1, HD.out, HM.out⟩
                        case measure => simp [intOf]; omega
                      | none =>
                        have hcell := lbl_cell HI.out.lb (v := p.fr) (by omega)
                        rw [hbn] at hcell
                        replace hcell : wr.cell? ⟨G, p.fr, none⟩ = some (.int .i64 0) := hcell
                        have hfz : wr.frozen? ⟨G, p.fr, none⟩ = false := by simp [World.frozen?, HI.out.lb]
                        have HR := Lib.hid (show Rch L ⟨k, false⟩ p.fr x from ⟨p, HPK.out, HST1.out, rfl, HX0.out, by show 0 < p.fl; omega⟩)
                        have HBN := Lib.hid hbn
                        have HNF := Lib.hid hnf
                        clear hbn hnf
                        go_wp2_with (at_builtin; refine stop_in ?_)
                        refine stop_out ?_
                        refine wpL_append_qu _ rfl _ _ 23 rfl (G + 1) 3 i0 (.int .i64 0) 8 Tryz.underlying23 hi0 hz0 hz1 hz2 rfl g' off' xs.length cap' (xs.map natV) ?_ (by simp) rfl ⟨wr.heap.size + 1, 0, none⟩ 1 (.int .i64 (p.fr : Int)) rfl ?_ rfl (by unfold maxLen; omega) (by omega) ?_ ?_
                        · exact HI.out.qu.kp (S := One G) (((kp_setOne _ _ _ _).tr (Kp.alloc _ _ _)).tr (Kp.alloc _ _ _)) (fun e => by have := HI.out.qu.lt; have e2 : g' = G := e; omega)
                        · go_simp
                        · have := HI.out.kp.size; simp; omega
                        intro g2 off2 cap2 w2 hq2 hgrow
                        have HL1 := lbl_set HI.out.lb (v := p.fr) ⟨k, false⟩
                        simp only [code, Bool.false_eq_true, if_false] at HL1
                        have hK := ((Kp.setCell (One G) wr ⟨G, p.fr, none⟩ (.int .i64 (code (some ⟨k, false⟩))) (fun _ => rfl)).tr (Kp.alloc (One G) _ (.cells #[.int .i64 p.fr, .int .i64 p.to, .int .i64 p.mo, .int .i64 p.fl, .bool false] 98))).tr (Kp.alloc (One G) _ (.cells #[.int .i64 (p.fr : Int)] 3))
                        simp only [code, Bool.false_eq_true, if_false] at hK
                        have HI2 := Lib.hid (HI.out.step hgrow hK ((Kp.alloc No _ _).heap ((Kp.alloc No _ _).heap HL1 (fun h => h)) (fun h => h)) hq2 HR.out HNF.out HBN.out (by omega) HRX.out)
                        have HM2 := Lib.hid (show free (put b p.fr ⟨k, false⟩) (V + 1) + (xs ++ [p.fr]).length + 1 = gk by have h1 := free_put (s := ⟨k, false⟩) HBN.out (V + 1); rw [if_pos (by omega)] at h1; have := HM.out; rw [List.length_append, List.length_singleton]; omega)
                        have HD2 := Lib.hid (show Dn L (Rs fr (put b p.fr ⟨k, false⟩)) x (k + 1) from (HDN.out.mono fun v hv => rs_put.2 (.inr hv)).succ HPK.out fun _ => ⟨fun _ _ => (rs_put.2 (.inr HRX2.out)), fun _ _ => (rs_put.2 (.inl rfl))⟩)
                        have HL2 := Lib.hid HL1
                        have HQ2 := Lib.hid hq2
                        have HG2 := Lib.hid hgrow
                        have HK2 := Lib.hid hK
                        clear HL1 hq2 hgrow hK
                        by_cases hto : (p.fr : Int) = to
                        · have hnt : ((p.fr : Int) == to) = true := by rw [beq_iff_eq]; exact hto
                          have HTO := Lib.hid hto
                          clear hto
                          go_wp2_with fail
                          try rw [Exit.noGoto_ret]
                          go_ret
                          exact ⟨_, _, rfl, HI2.out.1, HI2.out.2.1, HI2.out.2.2.1, .inl ⟨p.fr, by rw [put_at]; simp, HTO.out⟩, HI2.out.2.2.2.1⟩
                        · have hnt : ((p.fr : Int) == to) = false := by rw [beq_eq_false_iff_ne]; exact hto
                          have HTO := Lib.hid hto
                          clear hto
                          go_wp2_with fail
                          go_roundw
                          case rel => exact ⟨k + 1, xs ++ [p.fr], g2, off2, cap2, _, by omega, by go_num, by rw [List.length_append]; rfl, HI2.out.2.2.2.2 HTO.out, rs_put.2 (.inr HRX.out.1), HD2.out, HM2.out⟩
                          case measure => simp [intOf]; omega
                  · have HD := Lib.hid (HDN.out.succ HPK.out fun _ => ⟨fun h => absurd h HFX.out, fun _ h => absurd h hlt⟩)
                    go_wp2_with fail
                    go_roundw
                    case rel => exact ⟨k + 1, xs, g', off', cap', b, by omega, by go_num, rfl, HI.out.same (Kp.alloc _ _ _), HRX.out.1, HD.out, HM.out⟩
                    case measure => simp [intOf]; omega
                · have htb : ((p.to : Int) == (x : Int)) = false := by rw [beq_eq_false_iff_ne]; omega
                  have HD := Lib.hid (HDN.out.succ HPK.out fun _ => ⟨fun h => absurd h HFX.out, fun h => absurd h htx⟩)
                  clear htx
                  go_wp2_with fail
                  go_roundw
                  case rel => exact ⟨k + 1, xs, g', off', cap', b, by omega, by go_num, rfl, HI.out.same (Kp.alloc _ _ _), HRX.out.1, HD.out, HM.out⟩
                  case measure => simp [intOf]; omega
          · have hkk : k = L.length := by omega
            have HDF := Lib.hid (show Dn L (Rs fr b) x L.length from hkk ▸ HDN.out)
            clear hkk
            go_wp2_with fail
            go_roundg (free b (V + 1) + xs.length)
            case measure => have := HM.out; omega
            case rel => exact ⟨xs, g', off', cap', b, rfl, HI.out.done HDF.out, rfl, by have := HM.out; omega⟩
end Go.Proofs.YtpkbpeeelpgmcaaGreat
