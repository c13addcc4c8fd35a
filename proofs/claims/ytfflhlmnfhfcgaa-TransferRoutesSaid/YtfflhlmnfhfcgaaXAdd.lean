/- Chapter 33: 'add' lays voices into a balance. -/
import Derived.Test.YtfflhlmnfhfcgaaXOpnM
namespace Go.Proofs.Ytfflhlmnfhfcgaa
open Go.RowKit Go.Kq

def bal (E : List (Key × Int)) (k : Key) : Int := (get1 E k).getD 0
def addV (t : Int) (E : List (Key × Int)) (v : Vc) : List (Key × Int) := ins v.key (bal E v.key + t * v.q) E
def addAll (t : Int) (E : List (Key × Int)) (vs : List Vc) : List (Key × Int) := vs.foldl (addV t) E
theorem addAll_take (t : Int) (E : List (Key × Int)) (vs : List Vc) (k : Nat) (v : Vc) (h : vs[k]? = some v) : addAll t E (vs.take (k + 1)) = addV t (addAll t E (vs.take k)) v := by
  unfold addAll
  rw [List.take_add_one, h]
  simp
theorem zero3 (w : World) : (zeroValue 3).run Try.prog w = .ok ((Value.int .i64) 0) w := by kernel_rfl

theorem bal_ins (E : List (Key × Int)) (k : Key) (x : Int) (j : Key) : bal (ins k x E) j = if k = j then x else bal E j := by
  unfold bal
  rw [get1_ins]
  split <;> rfl
theorem bal_addV {M : Int} {k : Nat} (t : Int) (E : List (Key × Int)) (v : Vc) (j : Key) (h : -(M + 100 * k) ≤ bal E j ∧ bal E j ≤ M + 100 * k) (hk : -(M + 100 * k) ≤ bal E v.key ∧ bal E v.key ≤ M + 100 * k) (htq : -100 ≤ t * v.q ∧ t * v.q ≤ 100) :
    -(M + 100 * (k + 1 : Nat)) ≤ bal (addV t E v) j ∧ bal (addV t E v) j ≤ M + 100 * (k + 1 : Nat) := by
  unfold addV
  rw [bal_ins]
  split <;> omega

set_option maxHeartbeats 1000000 in
set_option maxRecDepth 100000 in
theorem add_any (b n cap : Nat) (t M : Int) (A : Option Addr) (vs : List Vc) (E : List (Key × Int)) (w : World) (hm : MapAt w b ek (Value.int .i64) E) (h : RdV w A n vs) (hn : n ≤ 1000)
    (ht : -1 ≤ t ∧ t ≤ 1) (hq : ∀ v ∈ vs, 0 ≤ v.q ∧ v.q ≤ 100) (hM : 0 ≤ M ∧ M ≤ 1000000) (hE : ∀ k, -M ≤ bal E k ∧ bal E k ≤ M) :
    Calls Try.prog 52 #[.map (some b), .int .i64 t, .slice A n cap] w fun e w' => e = .returned (.tuple #[]) ∧ MapAt w' b ek (Value.int .i64) (addAll t E vs) ∧ Kp (One b) w w' := by
  go_enter Try.func52, Try.ntmps52
  go_wp2_with fail
  go_loopw [10] (fun i wr => ∃ k : Nat, k ≤ n ∧ i = .int .i64 k ∧ MapAt wr b ek (Value.int .i64) (addAll t E (vs.take k)) ∧ Kp (One b) w wr ∧ ∀ j, -(M + 100 * k) ≤ bal (addAll t E (vs.take k)) j ∧ bal (addAll t E (vs.take k)) j ≤ M + 100 * k) (fun i _ => n - (intOf i).toNat)
  case atStart => exact ⟨0, by omega, rfl, hm, Kp.refl _ _, by simpa [addAll] using hE⟩
  case round =>
    obtain ⟨k, hk, rfl, hmk, hkp, hbd⟩ := hrel
    by_cases hlt : k < n
    · obtain ⟨v, hv⟩ : ∃ v, vs[k]? = some v := ⟨_, List.getElem?_eq_getElem (by rw [h.1]; exact hlt)⟩
      obtain ⟨b', o, rfl, hb, c0, c1, c2, c3⟩ := (h.map hm hkp).2 k v hv
      have hstep := addAll_take t E vs k v hv
      generalize hE2 : addAll t E (vs.take (k + 1)) = E2 at hstep
      have HE2 := Lib.hid hE2
      clear hE2
      generalize addAll t E (vs.take k) = E1 at hmk hbd hstep
      have HS := Lib.hid hstep
      have Hv := Lib.hid hv
      clear hstep hv
      have hq1 := hq v (List.mem_of_getElem? Hv.out)
      clear hq hE
      go_wp2_with fail
      have htq : -100 ≤ t * v.q ∧ t * v.q ≤ 100 := by
        have : t = -1 ∨ t = 0 ∨ t = 1 := by omega
        rcases this with rfl | rfl | rfl <;> omega
      have hbk := hbd v.key
      have hbx := World.block_lt_of_cell? wr _ c0
      have hbm := hmk.lt
      have hm2 := hmk.alloc (.cells #[.int .i64 v.d, .int .i64 v.p, .int .i64 v.f, .int .i64 v.q] 38)
      have x0 : (wr.alloc (.cells #[.int .i64 v.d, .int .i64 v.p, .int .i64 v.f, .int .i64 v.q] 38)).cell? ⟨wr.heap.size, 0, none⟩ = some (.int .i64 v.d) := by go_simp
      have x1 : (wr.alloc (.cells #[.int .i64 v.d, .int .i64 v.p, .int .i64 v.f, .int .i64 v.q] 38)).cell? ⟨wr.heap.size, 1, none⟩ = some (.int .i64 v.p) := by go_simp
      have x2 : (wr.alloc (.cells #[.int .i64 v.d, .int .i64 v.p, .int .i64 v.f, .int .i64 v.q] 38)).cell? ⟨wr.heap.size, 2, none⟩ = some (.int .i64 v.f) := by go_simp
      have x3 : (wr.alloc (.cells #[.int .i64 v.d, .int .i64 v.p, .int .i64 v.f, .int .i64 v.q] 38)).cell? ⟨wr.heap.size, 3, none⟩ = some (.int .i64 v.q) := by go_simp
      have hkp2 : Kp (One b) w (wr.alloc (.cells #[.int .i64 v.d, .int .i64 v.p, .int .i64 v.f, .int .i64 v.q] 38)) := hkp.tr (Kp.alloc _ _ _)
      have hne : wr.heap.size ≠ b := by omega
      generalize wr.heap.size = B2 at *
      generalize wr.alloc (.cells #[.int .i64 v.d, .int .i64 v.p, .int .i64 v.f, .int .i64 v.q] 38) = w0 at *
      refine wp_region_each (fun i u => match i with
          | 0 => u = .map (some b) | 1 => u = v.val | 2 => u = ek v.key | 3 => u = (Value.int .i64) (bal E1 v.key) | 4 => u = (Value.int .i64) t | 5 => u = .pointer (some ⟨B2, 3, none⟩) | 6 => u = (Value.int .i64) v.q
          | 7 => u = (Value.int .i64) (t * v.q) | 8 => u = (Value.int .i64) (bal E1 v.key + t * v.q) | 9 => ∃ x : Nat, u = .tuple #[(Value.int .i64) (bal E1 v.key), (Value.int .i64) x] | 10 => ∃ x : Nat, u = (Value.int .i64) x | _ => True)
        (fun r w' => Kp (One b) w0 w' ∧ (r 9 = none → MapAt w' b ek (Value.int .i64) E1) ∧ (∀ u, r 9 = some u → r 11 = none → ∃ x : Nat, u = .tuple #[(Value.int .i64) (bal E1 v.key), (Value.int .i64) x] ∧ (∀ y, r 10 = some y → y = (Value.int .i64) x) ∧ StampAt w' b (ek v.key) x ∧ MapAt w' b ek (Value.int .i64) (ins v.key (bal E1 v.key) E1)) ∧
          (r 11 ≠ none → MapAt w' b ek (Value.int .i64) (addV t E1 v)) ∧ (r 11 ≠ none → r 3 ≠ none ∧ r 9 ≠ none ∧ r 10 ≠ none) ∧ (r 10 ≠ none → r 9 ≠ none)) (by kernel_rfl) (by kernel_rfl) (by kernel_rfl) ?_ ?_ ?_
      · exact ⟨Kp.drew _ _, fun _ => hm2.drew, fun u hu => (by cases hu), fun h => absurd rfl h, fun h => absurd rfl h, fun h => absurd rfl h⟩
      · refine ⟨?_, ?_, ?_, ?_, ?_, ?_, ?_, ?_, ?_, ?_, ?_, ?_, trivial⟩
        · intro r a w' hf hg hW hr hd K hK
          refine wpOp_of rfl rfl ?_
          have e0 : a.tmps.getD 0 undef = .map (some b) := hf.evalFree (by kernel_rfl)
          go_simp
          exact hK _ _ rfl hW
        · intro r a w' hf hg hW hr hd K hK
          refine wpOp_of rfl rfl ?_
          have e0 : a.tmps.getD 7 undef = .pointer (some ⟨B2, 0, none⟩) := hf.evalFree (by kernel_rfl)
          have y0 := hW.1.cell x0 hne
          have y1 := hW.1.cell x1 hne
          have y2 := hW.1.cell x2 hne
          have y3 := hW.1.cell x3 hne
          go_simp
          exact hK _ _ rfl hW
        · intro r a w' hf hg hW hr hd K hK
          refine wpOp_of rfl rfl ?_
          refine hf.depE hg hd 1 15 (by kernel_rfl) fun u1 e0 g1 _ => ?_
          replace g1 : u1 = v.val := g1
          subst g1
          go_simp
          refine (of_any v w').mono ?_
          rintro e w'' ⟨rfl, hk2⟩
          refine hK _ _ rfl ⟨hW.1.no hk2, fun h => (hW.2.1 h).kept (hk2.toGrownNo none) (by simp), fun u hu h11 => ?_, fun h => (hW.2.2.2.1 h).kept (hk2.toGrownNo none) (by simp), hW.2.2.2.2.1, hW.2.2.2.2.2⟩
          obtain ⟨x, h1, h2, h3, h4⟩ := hW.2.2.1 u hu h11
          exact ⟨x, h1, h2, h3.of_block (hk2.block _ h4.lt id), h4.kept (hk2.toGrownNo none) (by simp)⟩
        · intro r a w' hf hg hW hr hd K hK
          refine wpOp_of rfl rfl ?_
          refine hf.depE hg hd 0 14 (by kernel_rfl) fun u0 e0 g0 _ => ?_
          replace g0 : u0 = .map (some b) := g0
          subst g0
          refine hf.depE hg hd 2 16 (by kernel_rfl) fun u2 e1 g2 _ => ?_
          replace g2 : u2 = ek v.key := g2
          subst g2
          have hlk : (Instr.lookup 64 (.map (some b)) (ek v.key) false).run Try.prog w' = .ok ((Value.int .i64) (bal E1 v.key)) w' := by
            cases h9 : r 9 with
            | none => exact (hW.2.1 h9).run_lookup keyOk Try.underlying64 (zero3 w') v.key false
            | some u =>
              cases h11 : r 11 with
              | none =>
                obtain ⟨x, _, _, _, h4⟩ := hW.2.2.1 u h9 h11
                have := h4.run_lookup keyOk Try.underlying64 (zero3 w') v.key false
                simpa [get1_ins] using this
              | some y => exact absurd hr (hW.2.2.2.2.1 (by rw [h11]; simp)).1
          go_simp
          exact hK _ _ rfl ⟨hW.1, hW.2.1, hW.2.2.1, hW.2.2.2.1, fun h => ⟨by simp [upd], (hW.2.2.2.2.1 h).2⟩, hW.2.2.2.2.2⟩
        · intro r a w' hf hg hW hr hd K hK
          refine wpOp_of rfl rfl ?_
          have e0 : a.tmps.getD 1 undef = (Value.int .i64) t := hf.evalFree (by kernel_rfl)
          go_simp
          exact hK _ _ rfl hW
        · intro r a w' hf hg hW hr hd K hK
          refine wpOp_of rfl rfl ?_
          have e0 : a.tmps.getD 7 undef = .pointer (some ⟨B2, 0, none⟩) := hf.evalFree (by kernel_rfl)
          go_simp
          exact hK _ _ rfl hW
        · intro r a w' hf hg hW hr hd K hK
          refine wpOp_of rfl rfl ?_
          refine hf.depE hg hd 5 19 (by kernel_rfl) fun u5 e0 g5 _ => ?_
          replace g5 : u5 = .pointer (some ⟨B2, 3, none⟩) := g5
          subst g5
          have y3 := hW.1.cell x3 hne
          go_simp
          exact hK _ _ rfl hW
        · intro r a w' hf hg hW hr hd K hK
          refine wpOp_of rfl rfl ?_
          refine hf.depE hg hd 4 18 (by kernel_rfl) fun u4 e0 g4 _ => ?_
          replace g4 : u4 = (Value.int .i64) t := g4
          subst g4
          refine hf.depE hg hd 6 20 (by kernel_rfl) fun u6 e1 g6 _ => ?_
          replace g6 : u6 = (Value.int .i64) v.q := g6
          subst g6
          go_simp
          exact hK _ _ (by first | rfl | exact congrArg _ (IntWalk.i64_in _ (by omega))) hW
        · intro r a w' hf hg hW hr hd K hK
          refine wpOp_of rfl rfl ?_
          refine hf.depE hg hd 3 17 (by kernel_rfl) fun u3 e0 g3 _ => ?_
          replace g3 : u3 = (Value.int .i64) (bal E1 v.key) := g3
          subst g3
          refine hf.depE hg hd 7 21 (by kernel_rfl) fun u7 e1 g7 _ => ?_
          replace g7 : u7 = (Value.int .i64) (t * v.q) := g7
          subst g7
          go_simp
          exact hK _ _ (by first | rfl | exact congrArg _ (IntWalk.i64_in _ (by omega))) hW
        · intro r a w' hf hg hW hr hd K hK
          refine wpOp_of rfl rfl ?_
          refine hf.depE hg hd 0 14 (by kernel_rfl) fun u0 e0 g0 _ => ?_
          replace g0 : u0 = .map (some b) := g0
          subst g0
          refine hf.depE hg hd 2 16 (by kernel_rfl) fun u2 e1 g2 _ => ?_
          replace g2 : u2 = ek v.key := g2
          subst g2
          have hmap := hW.2.1 hr
          obtain ⟨w2, x, hrun, hm', hst, hgr, hsz⟩ := hmap.run_entry keyOk Try.underlying64 (zero3 w') v.key
          go_simp
          have hn10 : r 10 = none := by
            cases h : r 10 with
            | none => rfl
            | some y => exact absurd hr (hW.2.2.2.2.2 (by rw [h]; simp))
          have hn11 : r 11 = none := by
            cases h : r 11 with
            | none => rfl
            | some y => exact absurd hr (hW.2.2.2.2.1 (by rw [h]; simp)).2.1
          refine hK _ _ ⟨x, rfl⟩ ⟨hW.1.tr (Kp.grown hgr fun k hk _ => by cases hk; rfl), fun h => ?_, fun u hu h11 => ⟨x, ?_, fun y hy => ?_, hst, hm'⟩, fun h => absurd hn11 h, fun h => absurd hn11 h, fun h => absurd hn10 h⟩
          · simp [upd] at h
          · simp [upd] at hu
            exact hu.symm
          · rw [upd_ne _ _ (by omega), hn10] at hy
            cases hy
        · intro r a w' hf hg hW hr hd K hK
          refine wpOp_of rfl rfl ?_
          refine hf.depE hg hd 9 23 (by kernel_rfl) fun u9 e0 g9 h9 => ?_
          have hn11 : r 11 = none := by
            cases h : r 11 with
            | none => rfl
            | some y => exact absurd hr (hW.2.2.2.2.1 (by rw [h]; simp)).2.2
          obtain ⟨x, rfl, h10, hst, hm'⟩ := hW.2.2.1 u9 h9 hn11
          go_simp
          refine hK _ _ ⟨x, rfl⟩ ⟨hW.1, hW.2.1, fun u hu h11 => ?_, hW.2.2.2.1, fun h => absurd hn11 h, fun _ => by rw [upd_ne _ _ (by omega), h9]; simp⟩
          rw [upd_ne _ _ (by omega), h9] at hu
          cases hu
          exact ⟨x, rfl, fun y hy => by rw [upd_same] at hy; cases hy; rfl, hst, hm'⟩
        · intro r a w' hf hg hW hr hd K hK
          refine wpOp_of rfl rfl ?_
          refine hf.depE hg hd 0 14 (by kernel_rfl) fun u0 e0 g0 _ => ?_
          replace g0 : u0 = .map (some b) := g0
          subst g0
          refine hf.depE hg hd 9 23 (by kernel_rfl) fun u9 _ _ h9 => ?_
          refine hf.depE hg hd 10 24 (by kernel_rfl) fun u10 e1 _ h10 => ?_
          refine hf.depE hg hd 3 17 (by kernel_rfl) fun u3 _ _ h3 => ?_
          refine hf.depE hg hd 8 22 (by kernel_rfl) fun u8 e2 g8 _ => ?_
          replace g8 : u8 = (Value.int .i64) (bal E1 v.key + t * v.q) := g8
          subst g8
          obtain ⟨x, rfl, hx, hst, hm'⟩ := hW.2.2.1 u9 h9 hr
          obtain rfl := hx u10 h10
          obtain ⟨w2, hrun, hm2', hgr, hsz⟩ := hm'.run_entryStore (t := 64) (k := v.key) ek_inj hst (bal E1 v.key + t * v.q)
          rw [ins_ins] at hm2'
          go_simp

          rw [hrun]
          refine hK undef _ trivial ⟨hW.1.tr (Kp.grown hgr fun k hk _ => by cases hk; rfl), fun h => ?_, fun u hu h11 => ?_, fun _ => hm2', fun _ => ⟨by rw [upd_ne _ _ (by omega), h3]; simp, by rw [upd_ne _ _ (by omega), h9]; simp, by rw [upd_ne _ _ (by omega), h10]; simp⟩, fun _ => by rw [upd_ne _ _ (by omega), h9]; simp⟩
          · rw [upd_ne _ _ (by omega), h9] at h
            cases h
          · rw [upd_same] at h11
            cases h11
      · intro r w' hg hW hr
        have hk3 := hkp2.tr hW.1
        have hfin := hW.2.2.2.1 (hr 11 (by decide))
        rw [← HS.out] at hfin
        have hbd2 : ∀ j, -(M + 100 * (k + 1 : Nat)) ≤ bal E2 j ∧ bal E2 j ≤ M + 100 * (k + 1 : Nat) := by
          intro j
          have hb1 := hbd j
          rw [HS.out]
          exact bal_addV t E1 v j hb1 hbk htq
        clear hg hW hr hbd hm2 x0 x1 x2 x3 hkp2 hmk c0 c1 c2 c3 hkp
        simp only [List.length_cons, List.length_nil, Nat.reduceAdd, List.range_succ, List.range_zero, List.nil_append, List.cons_append, List.map_cons, List.map_nil, putAll, Act.put, List.setIfInBounds_toArray, List.set_cons_succ, List.set_cons_zero]
        go_wp2
        go_roundw
        case rel => exact ⟨k + 1, by omega, by go_num, by rw [HE2.out]; exact hfin, hk3, by rw [HE2.out]; exact hbd2⟩
        case measure => simp [intOf]; omega
    · go_wp2
      go_end0
      obtain rfl : k = n := by omega
      rw [List.take_of_length_le (by rw [h.1]; omega)] at hmk
      exact ⟨rfl, hmk, hkp⟩
end Go.Proofs.Ytfflhlmnfhfcgaa
