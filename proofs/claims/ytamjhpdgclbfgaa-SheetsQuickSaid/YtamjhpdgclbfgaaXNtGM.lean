/- Chapter 09: the reference's used: the walk. Printed by gen_nte.py. · Chapter 09: the reference's Rank and less: the walks. · Chapter 09: the reference's less: the walk. -/
import Derived.Test.YtamjhpdgclbfgaaXNtD
namespace Go.Proofs.Ytamjhpdgclbfgaa
open Go.RowKit Go.Kq

def ufold (K : Int) (S : List Nat) (l : List Int) (k : Nat) : List Int := ((S.zip l).take k).foldl (ustep K) (List.replicate (cntF S) 0)
theorem ufold_succ {K : Int} {S : List Nat} {l : List Int} {k s : Nat} {c : Int} (hs : S[k]? = some s) (hc : l[k]? = some c) : ufold K S l (k + 1) = ustep K (ufold K S l k) (s, c) := by
  unfold ufold
  have hz : (S.zip l)[k]? = some (s, c) := List.getElem?_zip_eq_some.2 ⟨hs, hc⟩
  rw [List.take_add_one, hz, List.foldl_append]
  rfl
theorem ufold_all {K : Int} {S : List Nat} {l : List Int} {k : Nat} (h : S.length ≤ k) : ufold K S l k = (S.zip l).foldl (ustep K) (List.replicate (cntF S) 0) := by
  unfold ufold
  rw [List.take_of_length_le (by simp; omega)]
theorem ustep_bd {K : Int} {q : List Int} {s k : Nat} {c : Int} (hK : 0 ≤ K ∧ K ≤ 50000) (hc : 0 ≤ c ∧ c ≤ 20000000) (h2 : ∀ x ∈ q, 0 ≤ x ∧ x ≤ 20050000 * (k : Int)) : ∀ x ∈ ustep K q (s, c), 0 ≤ x ∧ x ≤ 20050000 * ((k + 1 : Nat) : Int) := by
  have b2 := getD_bd (j := s) h2 (by omega)
  intro x hx
  rcases List.mem_or_eq_of_mem_set hx with hx | rfl
  · have := h2 x hx
    omega
  · simp only
    split <;> omega
set_option maxHeartbeats 16000000 in
set_option maxRecDepth 100000 in
theorem used_any (P : Pt) (AH : Option Addr) (n ch : Nat) (H : List Int) (AS : Option Addr) (cs : Nat) (S : List Nat) (w : World) (hx : RdI .i64 w AH n H) (hS : RdI .i64 w AS n (S.map Int.ofNat)) (hn : n ≤ 8) (hH : ∀ x ∈ H, 0 ≤ x ∧ x ≤ 20000000) (hK : 0 ≤ P.k ∧ P.k ≤ 50000) (hM : cntF S ≤ 8) :
    Calls Try.prog 62 #[P.val, .slice AH n ch, .slice AS n cs] w fun e w' => OptR w (useV P H S) e w' ∧ Kp No w w' := by
  obtain ⟨M, hMM⟩ : ∃ M, cntF S = M := ⟨_, rfl⟩
  have hlt : ∀ s ∈ S, s < M := fun s hs => by rw [← hMM]; exact cntF_lt s hs
  have HLT := Lib.hid hlt
  have hk0 : Kp No w (w.alloc (.cells #[.int .i64 P.w, .int .i64 P.h, .int .i64 P.k] 23)) := Kp.alloc _ _ _
  have hbx : (w.alloc (.cells #[.int .i64 P.w, .int .i64 P.h, .int .i64 P.k] 23)).heap[w.heap.size]? = some (.cells #[.int .i64 P.w, .int .i64 P.h, .int .i64 P.k] 23 (0, 0)) := heap_alloc_new _ _
  have hCN := count_any AS n cs S (w.alloc (.cells #[.int .i64 P.w, .int .i64 P.h, .int .i64 P.k] 23)) (hS.no hk0) (by omega) (fun s hs => by have := hlt s hs; omega)
  rw [hMM] at hCN hM
  have HSL := Lib.hid (nat_len hS)
  have HX := Lib.hid (hx.no hk0)
  have HL := Lib.hid hx.1
  have HSR := Lib.hid (hS.no hk0)
  have HOK := Lib.hid hH
  have HKK := Lib.hid hK
  have HCN := Lib.hid hCN
  have HV := Lib.hid (show useV P H S = if fitsM P.h (ufold P.k S H n) then some (ufold P.k S H n) else none by rw [ufold_all (by rw [HSL.out]; exact Nat.le_refl _)]; rfl)
  have hmk := fun W => make_l M (by omega) W
  have HS0 := Lib.hid (show ufold P.k S H 0 = List.replicate M 0 by unfold ufold; rw [hMM]; rfl)
  unfold Pt.val
  obtain ⟨g0, hg0⟩ : ∃ g0, g0 = w.heap.size := ⟨_, rfl⟩
  rw [← hg0] at hbx
  have HBX := Lib.hid hbx
  have HK0 := Lib.hid hk0
  clear hx hS hH hK hCN hbx hlt hMM
  go_enter Try.func62, Try.ntmps62
  go_wp2_with fail
  have hz0 : (w.alloc (.cells #[.int .i64 P.w, .int .i64 P.h, .int .i64 P.k] 23)).heap.size = g0 + 1 := by rw [hg0]; simp
  rw [← hg0]
  generalize (w.alloc (.cells #[.int .i64 P.w, .int .i64 P.h, .int .i64 P.k] 23)) = w0 at *
  have HG0 := Lib.hid hg0
  clear hg0
  with_reducible refine HCN.out.mono ?_
  rintro e w1 ⟨rfl, hw1⟩
  subst hw1
  clear HCN
  go_wp2_with fail
  have A1 := own_zero (base := g0) (g := w1.heap.size) (by omega) (show M ≤ 100000 by omega) (heap_alloc_new w1 (.cells (zL M) 2))
  have K3 := Lib.hid (Kp.alloc No w1 (.cells (zL M) 2))
  obtain ⟨g1, hg1⟩ : ∃ g1, g1 = g0 + 1 := ⟨_, rfl⟩
  rw [hz0, ← hg1] at A1
  rw [← hg1]
  have HG := Lib.hid (show g1 = w1.heap.size from by omega)
  have hg01 : g0 < g1 := by omega
  have HI0 := Lib.hid (show H1 (w1.alloc (.cells (zL M) 2)) g0 g1 M (ufold P.k S H 0) (w1.alloc (.cells (zL M) 2)) from by rw [HS0.out]; exact ⟨A1, Kp.refl _ _⟩)
  clear A1 hg1 hmk hz0
  generalize (w1.alloc (.cells (zL M) 2)) = w3 at *
  have HRW := Lib.hid (show ∀ b, b < w1.heap.size → b ≠ g1 from fun b hb => by have := HG.out; omega)
  go_loopw [9] (fun i wr => ∃ k : Nat, k ≤ n ∧ i = .int .i64 k ∧ H1 w3 g0 g1 M (ufold P.k S H k) wr ∧ (∀ x ∈ ufold P.k S H k, 0 ≤ x ∧ x ≤ 20050000 * (k : Int))) (fun i _ => n - (intOf i).toNat)
  case atStart => exact ⟨0, by omega, rfl, HI0.out, by rw [HS0.out]; exact rep_bd (by omega)⟩
  case round =>
    obtain ⟨k, hk, rfl, hq, hbd⟩ := hrel
    have HQ := Lib.hid hq
    have HBD0 := Lib.hid hbd
    have hb2 := (K3.out.heap HBX.out id)
    have q2 : wr.cell? ⟨g0, 2, none⟩ = some (.int .i64 P.k) := HQ.out.cell (by rw [cell_of_row _ _ _ _ _ _ hb2]; rfl) (by omega)
    clear hq hbd hb2 HI0
    by_cases hkn : k < n
    · obtain ⟨x, hc⟩ : ∃ c, H[k]? = some c := ⟨_, List.getElem?_eq_getElem (by rw [HL.out]; exact hkn)⟩
      obtain ⟨s, hs⟩ : ∃ s, S[k]? = some s := ⟨_, List.getElem?_eq_getElem (by rw [HSL.out]; exact hkn)⟩
      have hkn' : (k : Int) < n := by omega
      have hsM := HLT.out s (List.mem_of_getElem? hs)
      have hsM' : (s : Int) < M := by omega
      have hck := HOK.out x (List.mem_of_getElem? hc)
      have hKK := HKK.out
      obtain ⟨b, o, rfl, hb, hcc⟩ := HX.out.2 k x hc
      obtain ⟨b', o', rfl, hb', hcs⟩ := HSR.out.2 k _ (nat_at hs)
      have CT := Lib.hid (show w3.cell? ⟨b, o + k, none⟩ = some (.int .i64 x) ∧ w3.cell? ⟨b', o' + k, none⟩ = some (.int .i64 s) ∧ b ≠ g1 ∧ b' ≠ g1 from ⟨K3.out.cell hcc id, K3.out.cell hcs id, HRW.out b hb, HRW.out b' hb'⟩)
      have HSU := Lib.hid (ufold_succ (K := P.k) hs hc)
      have HBD := Lib.hid (ustep_bd (s := s) hKK hck HBD0.out)
      obtain ⟨qa, hqq⟩ : ∃ q, ufold P.k S H k = q := ⟨_, rfl⟩
      rw [hqq] at HQ HSU HBD HBD0
      have hla : qa.length = M := by have := HQ.out.a.1; simpa using this
      obtain ⟨x2, hx2⟩ : ∃ x, qa.getD s 0 = x := ⟨_, rfl⟩
      have X2 := Lib.hid (show qa[s]? = some x2 by rw [← hx2]; exact getD_at (by omega))
      have bx2 := HBD0.out x2 (List.mem_of_getElem? X2.out)
      have hss := HQ.out.cell CT.out.2.1 CT.out.2.2.2
      obtain ⟨yw, fw⟩ := rown_at HQ.out.a (j := s) (x := x2) X2.out
      have HST := Lib.hid (show ustep P.k qa (s, x) = qa.set s ((if 0 < x2 then x2 + P.k else x2) + x) by simp only [ustep]; rw [hx2])
      clear hc hs hb hb' hcc hcs hqq hx2 HBD0
      have hk8 : k ≤ 8 := by omega
      by_cases hp : 0 < x2
      · rw [if_pos hp] at HST
        have HQ7 := Lib.hid (HQ.out.set s (x2 + P.k))
        have hsk : IntKind.i64.wrap (x2 + P.k) = x2 + P.k := by rw [IntKind.wrap_i64]; omega
        go_wp2_with fail
        go_region
        generalize (wr.setCell ⟨g1, s, none⟩ (.int .i64 (x2 + P.k))).drew = w7 at *
        clear yw fw hsk hss q2 HQ
        have HQ8 := Lib.hid (HQ7.out.set s ((x2 + P.k) + x))
        have hh := HQ7.out.cell CT.out.1 CT.out.2.2.1
        have hss := HQ7.out.cell CT.out.2.1 CT.out.2.2.2
        obtain ⟨yw, fw⟩ := rown_at HQ7.out.a (j := s) (x := (x2 + P.k)) (by rw [List.getElem?_set_self (by omega)])
        have hsw : IntKind.i64.wrap ((x2 + P.k) + x) = (x2 + P.k) + x := by rw [IntKind.wrap_i64]; omega
        go_wp2_with fail
        go_region
        generalize (w7.setCell ⟨g1, s, none⟩ (.int .i64 ((x2 + P.k) + x))).drew = w8 at *
        clear yw fw hsw hh
        go_wp2_with fail
        go_roundw
        case rel => exact ⟨k + 1, by omega, by go_num, by rw [HSU.out]; exact (by rw [HST.out]; have := HQ8.out; simp only [List.set_set] at this; exact this), by rw [HSU.out]; exact HBD.out⟩
        case measure => simp [intOf]; omega
      · rw [if_neg hp] at HST
        have hp' : x2 ≤ 0 := by omega
        have HQ7 := HQ
        clear q2 yw fw hss
        have HQ8 := Lib.hid (HQ7.out.set s (x2 + x))
        have hh := HQ7.out.cell CT.out.1 CT.out.2.2.1
        have hss := HQ7.out.cell CT.out.2.1 CT.out.2.2.2
        obtain ⟨yw, fw⟩ := rown_at HQ7.out.a (j := s) (x := x2) X2.out
        have hsw : IntKind.i64.wrap (x2 + x) = x2 + x := by rw [IntKind.wrap_i64]; omega
        go_wp2_with fail
        go_region
        generalize (wr.setCell ⟨g1, s, none⟩ (.int .i64 (x2 + x))).drew = w8 at *
        clear yw fw hsw hh
        go_wp2_with fail
        go_roundw
        case rel => exact ⟨k + 1, by omega, by go_num, by rw [HSU.out]; exact (by rw [HST.out]; exact HQ8.out), by rw [HSU.out]; exact HBD.out⟩
        case measure => simp [intOf]; omega
    · obtain rfl : k = n := by omega
      have KW := Lib.hid (show ∀ wz, Kp (Kq.One g1) w3 wz → Kp No w wz from fun wz kz => (HK0.out.tr K3.out).trans kz fun b hb e => by
        have e : b = g1 := e
        have := HG.out
        have := HG0.out
        have := HK0.out.size
        omega)
      obtain ⟨qa, hqq⟩ : ∃ q, ufold P.k S H k = q := ⟨_, rfl⟩
      rw [hqq] at HQ HV
      have hlb : qa.length = M := by have := HQ.out.a.1; simpa using this
      clear HBD0 q2
      obtain ⟨wo, rfl⟩ : ∃ wo : World, wo = wr := ⟨_, rfl⟩
      go_wp2_with fail
      go_loopw [10] (fun i wr => ∃ j : Nat, j ≤ M ∧ i = .int .i64 j ∧ (∀ j' x, j' < j → qa[j']? = some x → x ≤ P.h) ∧ H1 w3 g0 g1 M qa wr) (fun i _ => M - (intOf i).toNat)
      case atStart => exact ⟨0, by omega, rfl, fun j' x h => by omega, HQ.out⟩
      case round =>
        obtain ⟨j, hj, rfl, hall, hq2⟩ := hrel
        have HA := Lib.hid hall
        have HQ2 := Lib.hid hq2
        have hb2 := (K3.out.heap HBX.out id)
        have q1 : wr.cell? ⟨g0, 1, none⟩ = some (.int .i64 P.h) := HQ2.out.cell (by rw [cell_of_row _ _ _ _ _ _ hb2]; rfl) (by omega)
        clear hall hq2 hb2
        by_cases hjM : j < M
        · obtain ⟨x, hx⟩ : ∃ x, qa[j]? = some x := ⟨_, List.getElem?_eq_getElem (by omega)⟩
          have hjM' : (j : Int) < M := by omega
          obtain ⟨yw, fw⟩ := rown_at HQ2.out.a (j := j) (x := x) hx
          have HX2 := Lib.hid hx
          clear hx
          by_cases hgt : P.h < x
          · have HN := Lib.hid (show useV P H S = none by rw [HV.out, fits_no HX2.out hgt]; rfl)
            go_wp2_with fail
            go_quiet (fail)
            go_wp2_with fail
            exact bodyPost_ret (v := .tuple #[.slice none 0 0, .bool false]) (by simp [results, Try.results62, go_sem]) rfl ⟨by rw [HN.out]; exact rfl, KW.out _ (HQ2.out.k.tr (Kp.drewN _ _ _))⟩
          · have hle : x ≤ P.h := by omega
            go_wp2_with fail
            go_quiet (fail)
            go_wp2_with fail
            go_roundw
            case rel => exact ⟨j + 1, by omega, by go_num, fun j' y hj' hy => by
              by_cases e : j' = j
              · subst e
                rw [HX2.out] at hy
                cases hy
                exact hle
              · exact HA.out j' y (by omega) hy, own_kp HQ2.out.a (Kp.drewN No _ _) (fun _ _ h => h), HQ2.out.k.tr (Kp.drewN _ _ _)⟩
            case measure => simp [intOf]; omega
        · obtain rfl : j = M := by omega
          have HN := Lib.hid (show useV P H S = some qa by rw [HV.out, fits_all fun j' x hj' hx => HA.out j' x (by omega) hx]; rfl)
          go_wp2_with fail
          exact bodyPost_ret (v := .tuple #[.slice (some ⟨g1, 0, none⟩) j j, .bool true]) (by simp [results, Try.results62, go_sem]) rfl ⟨by rw [HN.out]; exact ⟨_, _, _, rfl, RdI.of_own HQ2.out.a, fun b o e => by cases e; have := HG.out; have := HG0.out; have := HK0.out.size; omega⟩, KW.out _ HQ2.out.k⟩
end Go.Proofs.Ytamjhpdgclbfgaa

namespace Go.Proofs.Ytamjhpdgclbfgaa
open Go.RowKit Go.Kq

theorem hfold_facts {K : Int} (hK : 0 ≤ K ∧ K ≤ 50000) : ∀ (z : List (Nat × Ct)) (q : List Int × List Int), (∀ x ∈ z, 0 ≤ x.2.h ∧ x.2.h ≤ 20000000) → (∀ x ∈ q.1, 0 ≤ x ∧ x ≤ 20000000) → (z.foldl (hstep K) q).1.length = q.1.length ∧ ∀ x ∈ (z.foldl (hstep K) q).1, 0 ≤ x ∧ x ≤ 20000000
  | [], q, _, h => ⟨rfl, h⟩
  | y :: z, q, hz, h => by
    have hy := hz y (by simp)
    have b1 := getD_bd (j := y.1) h (by omega)
    obtain ⟨h1, h2⟩ := hfold_facts hK z (hstep K q y) (fun x hx => hz x (by simp [hx])) (fun x hx => by
      rcases List.mem_or_eq_of_mem_set hx with hx | rfl
      · exact h x hx
      · omega)
    rw [List.foldl_cons]
    exact ⟨by rw [h1, (hstep_len K q y).1], h2⟩
theorem hgt_facts {P : Pt} {l : List Ct} {S : List Nat} {H : List Int} (ok : CtOk l P.k) (h : hgtV P l S = some H) : H.length = cntF S ∧ ∀ x ∈ H, 0 ≤ x ∧ x ≤ 20000000 := by
  unfold hgtV at h
  simp only at h
  split at h
  · cases h
    obtain ⟨h1, h2⟩ := hfold_facts ok.k (S.zip l) (List.replicate (cntF S) 0, List.replicate (cntF S) 0) (fun x hx => by
      have := ok.c x.2 (List.of_mem_zip hx).2
      omega) (rep_bd (by omega))
    exact ⟨by rw [h1]; simp, h2⟩
  · cases h
theorem ufold_facts {K : Int} (hK : 0 ≤ K ∧ K ≤ 50000) : ∀ (z : List (Nat × Int)) (k : Nat) (q : List Int), (∀ x ∈ z, 0 ≤ x.2 ∧ x.2 ≤ 20000000) → (∀ x ∈ q, 0 ≤ x ∧ x ≤ 20050000 * (k : Int)) → (z.foldl (ustep K) q).length = q.length ∧ ∀ x ∈ z.foldl (ustep K) q, 0 ≤ x ∧ x ≤ 20050000 * ((k + z.length : Nat) : Int)
  | [], k, q, _, h => ⟨rfl, h⟩
  | y :: z, k, q, hz, h => by
    have hy := hz y (by simp)
    obtain ⟨h1, h2⟩ := ufold_facts hK z (k + 1) (ustep K q y) (fun x hx => hz x (by simp [hx])) (ustep_bd (s := y.1) hK hy h)
    rw [List.foldl_cons]
    refine ⟨by rw [h1]; simp [ustep], fun x hx => ?_⟩
    have := h2 x hx
    rw [show k + (y :: z).length = k + 1 + z.length by simp; omega]
    exact this
theorem use_facts {P : Pt} {H U : List Int} {ON : List Nat} (hK : 0 ≤ P.k ∧ P.k ≤ 50000) (hH : ∀ x ∈ H, 0 ≤ x ∧ x ≤ 20000000) (hl : H.length ≤ 8) (h : useV P H ON = some U) : U.length = cntF ON ∧ ∀ x ∈ U, 0 ≤ x ∧ x ≤ 1000000000 := by
  unfold useV at h
  simp only at h
  split at h
  · cases h
    obtain ⟨h1, h2⟩ := ufold_facts hK (ON.zip H) 0 (List.replicate (cntF ON) 0) (fun x hx => hH x.2 (List.of_mem_zip hx).2) (rep_bd (by omega))
    refine ⟨by rw [h1]; simp, fun x hx => ?_⟩
    have h3 := h2 x hx
    have h4 : (ON.zip H).length ≤ 8 := by simp; omega
    omega
  · cases h
def rkVal : Option (Int × Int) → Value
  | none => .tuple #[.int .i64 0, .int .i64 0, .bool false]
  | some (n, h) => .tuple #[.int .i64 n, .int .i64 h, .bool true]
set_option maxHeartbeats 8000000 in
set_option maxRecDepth 100000 in
theorem rank_any (P : Pt) (A : Option Addr) (n ca : Nat) (l : List Ct) (AS : Option Addr) (cs : Nat) (S : List Nat) (AO : Option Addr) (m co : Nat) (ON : List Nat) (w : World) (hx : RdC w A n l) (hS : RdI .i64 w AS n (S.map Int.ofNat)) (hO : RdI .i64 w AO m (ON.map Int.ofNat)) (hn : n ≤ 8) (hok : CtOk l P.k) (hM : cntF S = m) (hm : m ≤ 8) (hMO : cntF ON ≤ 8) :
    Calls Try.prog 33 #[P.val, .slice A n ca, .agg #[.slice AS n cs, .slice AO m co]] w fun e w' => e = .returned (rkVal (rankV P l S ON)) ∧ Kp No w w' := by
  obtain ⟨w1, hw1⟩ : ∃ w1, (w.alloc (.cells #[.int .i64 P.w, .int .i64 P.h, .int .i64 P.k] 23)).alloc (.cells #[.slice AS n cs, .slice AO m co] 69) = w1 := ⟨_, rfl⟩
  have hk1 : Kp No w w1 := by rw [← hw1]; exact (Kp.alloc _ _ _).tr (Kp.alloc _ _ _)
  obtain ⟨g0, hg0⟩ : ∃ g, w.heap.size = g := ⟨_, rfl⟩
  have hb0 : w1.heap[g0]? = some (.cells #[.int .i64 P.w, .int .i64 P.h, .int .i64 P.k] 23 (0, 0)) := by
    rw [← hw1, ← hg0]
    exact (Kp.alloc No _ _).heap (heap_alloc_new _ _) id
  have hb1 : w1.heap[g0 + 1]? = some (.cells #[.slice AS n cs, .slice AO m co] 69 (0, 0)) := by
    rw [← hw1, ← hg0]
    have := heap_alloc_new (w.alloc (.cells #[.int .i64 P.w, .int .i64 P.h, .int .i64 P.k] 23)) (.cells #[.slice AS n cs, .slice AO m co] 69)
    simpa using this
  have HH := Lib.hid (heights_any P A n ca l AS cs S w1 (hx.no hk1) (hS.no hk1) hn hok (by omega))
  have HF := Lib.hid (fun H (h : hgtV P l S = some H) => hgt_facts hok h)
  have HU := Lib.hid (fun (H : List Int) AH ch w0 (k : Kp No w w0) (hr : RdI .i64 w0 AH m H) (hb : ∀ x ∈ H, 0 ≤ x ∧ x ≤ 20000000) => used_any P AH m ch H AO co ON w0 hr (hO.no k) hm hb hok.k hMO)
  have HUF := Lib.hid (fun (H U : List Int) (hb : ∀ x ∈ H, 0 ≤ x ∧ x ≤ 20000000) (hl : H.length ≤ 8) (h : useV P H ON = some U) => use_facts hok.k hb hl h)
  have HV := Lib.hid (show rankV P l S ON = match hgtV P l S with | none => none | some H => match useV P H ON with | none => none | some U => some (((U.length : Nat) : Int), U.sum) from rfl)
  obtain ⟨rv, hrv⟩ : ∃ rv, rankV P l S ON = rv := ⟨_, rfl⟩
  rw [hrv] at HV ⊢
  have p0 : w1.cell? ⟨g0, 0, none⟩ = some (.int .i64 P.w) := by rw [cell_of_row _ _ _ _ _ _ hb0]; rfl
  have p1 : w1.cell? ⟨g0, 1, none⟩ = some (.int .i64 P.h) := by rw [cell_of_row _ _ _ _ _ _ hb0]; rfl
  have p2 : w1.cell? ⟨g0, 2, none⟩ = some (.int .i64 P.k) := by rw [cell_of_row _ _ _ _ _ _ hb0]; rfl
  have q0 : w1.cell? ⟨g0 + 1, 0, none⟩ = some (.slice AS n cs) := by rw [cell_of_row _ _ _ _ _ _ hb1]; rfl
  have q1 : w1.cell? ⟨g0 + 1, 1, none⟩ = some (.slice AO m co) := by rw [cell_of_row _ _ _ _ _ _ hb1]; rfl
  unfold Pt.val at *
  have HK1 := Lib.hid hk1
  clear hx hS hO hok hb0 hb1 hrv hk1
  go_enter Try.func33, Try.ntmps33
  go_wp2_with fail
  clear hw1 hg0
  with_reducible refine HH.out.mono ?_
  rintro e w2 ⟨hr, k2⟩
  have HK2 := Lib.hid (HK1.out.tr k2)
  replace p0 := k2.cell p0 id
  replace p1 := k2.cell p1 id
  replace p2 := k2.cell p2 id
  replace q0 := k2.cell q0 id
  replace q1 := k2.cell q1 id
  clear k2 HH HK1
  match hh : hgtV P l S, hr with
  | none, hr =>
    have hr : e = _ := hr
    subst hr
    have HR := Lib.hid (show rv = none by rw [HV.out, hh])
    clear hh
    go_wp2_with fail
    exact bodyPost_ret (v := .tuple #[.int .i64 0, .int .i64 0, .bool false]) (by simp [results, Try.results33, go_sem]) rfl ⟨by rw [HR.out]; rfl, HK2.out⟩
  | some H, hr =>
    obtain ⟨AH, mh, ch, rfl, hri, _⟩ := hr
    obtain ⟨hl, hb⟩ := HF.out H hh
    obtain rfl : mh = m := by rw [← hri.1, hl, hM]
    have hl8 : H.length ≤ 8 := by omega
    have HUS := Lib.hid (HU.out H AH ch w2 HK2.out hri hb)
    have HV2 := Lib.hid (show rv = match useV P H ON with | none => none | some U => some (((U.length : Nat) : Int), U.sum) by rw [HV.out, hh])
    have HUF2 := Lib.hid (fun U => HUF.out H U hb hl8)
    clear hh hri HV HU HF HUF hb
    go_wp2_with fail
    with_reducible refine HUS.out.mono ?_
    rintro e w3 ⟨hr, k3⟩
    have HK3 := Lib.hid (HK2.out.tr k3)
    clear k3 HUS HK2 p0 p1 p2 q0 q1
    match hu : useV P H ON, hr with
    | none, hr =>
      have hr : e = _ := hr
      subst hr
      have HR := Lib.hid (show rv = none by rw [HV2.out, hu])
      clear hu
      go_wp2_with fail
      exact bodyPost_ret (v := .tuple #[.int .i64 0, .int .i64 0, .bool false]) (by simp [results, Try.results33, go_sem]) rfl ⟨by rw [HR.out]; rfl, HK3.out⟩
    | some U, hr =>
      obtain ⟨AU, mu, cu, rfl, hri, _⟩ := hr
      obtain ⟨hul, hub⟩ := HUF2.out U hu
      have hmu : U.length = mu := hri.1
      have HSM := Lib.hid (sum_any AU mu cu U w3 hri (by omega) hub)
      have HR := Lib.hid (show rv = some (((mu : Nat) : Int), U.sum) by rw [HV2.out, hu]; simp only; rw [hmu])
      clear hu hri HV2 HUF2 hub
      go_wp2_with fail
      with_reducible refine HSM.out.mono ?_
      rintro e w4 ⟨rfl, hw4⟩
      subst hw4
      clear HSM
      go_wp2_with fail
      exact bodyPost_ret (v := .tuple #[.int .i64 (mu : Nat), .int .i64 U.sum, .bool true]) (by simp [results, Try.results33, go_sem]) rfl ⟨by rw [HR.out]; rfl, HK3.out⟩
end Go.Proofs.Ytamjhpdgclbfgaa

namespace Go.Proofs.Ytamjhpdgclbfgaa
open Go.RowKit Go.Kq

theorem prs_len (S ON : List Nat) : (prs S ON).length = S.length := by simp [prs]
theorem prs_at {S ON : List Nat} {k s p : Nat} (hs : S[k]? = some s) (hp : ON[s]? = some p) : (prs S ON)[k]? = some (p, s) := by
  unfold prs
  rw [List.getElem?_map, hs, Option.map_some, List.getD_eq_getElem?_getD, hp]
  rfl
theorem dropn_at {α : Type} {l : List α} {k : Nat} {x : α} (h : l[k]? = some x) : l.drop k = x :: l.drop (k + 1) := by
  obtain ⟨h1, h2⟩ := List.getElem?_eq_some_iff.1 h
  rw [List.drop_eq_getElem_cons h1, h2]
theorem less_step {L L' : List (Nat × Nat)} {k p s q t : Nat} (h : L[k]? = some (p, s)) (h' : L'[k]? = some (q, t)) : lessL (L.drop k) (L'.drop k) = if p ≠ q then decide (p < q) else if s ≠ t then decide (s < t) else lessL (L.drop (k + 1)) (L'.drop (k + 1)) := by
  rw [dropn_at h, dropn_at h']
  rfl
set_option maxHeartbeats 8000000 in
set_option maxRecDepth 100000 in
theorem rless_any (AS : Option Addr) (n cs : Nat) (S : List Nat) (AO : Option Addr) (m co : Nat) (ON : List Nat) (BS : Option Addr) (ds : Nat) (S' : List Nat) (BO : Option Addr) (m' d' : Nat) (ON' : List Nat) (w : World) (hS : RdI .i64 w AS n (S.map Int.ofNat)) (hO : RdI .i64 w AO m (ON.map Int.ofNat)) (hS' : RdI .i64 w BS n (S'.map Int.ofNat)) (hO' : RdI .i64 w BO m' (ON'.map Int.ofNat)) (hn : n ≤ 8) (hs : ∀ s ∈ S, s < m) (hs' : ∀ s ∈ S', s < m') :
    Calls Try.prog 34 #[.agg #[.slice AS n cs, .slice AO m co], .agg #[.slice BS n ds, .slice BO m' d']] w fun e w' => e = .returned (.bool (lessL (prs S ON) (prs S' ON'))) ∧ Kp No w w' := by
  obtain ⟨w1, hw1⟩ : ∃ w1, (w.alloc (.cells #[.slice AS n cs, .slice AO m co] 69)).alloc (.cells #[.slice BS n ds, .slice BO m' d'] 69) = w1 := ⟨_, rfl⟩
  have hk1 : Kp No w w1 := by rw [← hw1]; exact (Kp.alloc _ _ _).tr (Kp.alloc _ _ _)
  obtain ⟨g0, hg0⟩ : ∃ g, w.heap.size = g := ⟨_, rfl⟩
  have hb0 : w1.heap[g0]? = some (.cells #[.slice AS n cs, .slice AO m co] 69 (0, 0)) := by
    rw [← hw1, ← hg0]
    exact (Kp.alloc No _ _).heap (heap_alloc_new _ _) id
  have hb1 : w1.heap[g0 + 1]? = some (.cells #[.slice BS n ds, .slice BO m' d'] 69 (0, 0)) := by
    rw [← hw1, ← hg0]
    have := heap_alloc_new (w.alloc (.cells #[.slice AS n cs, .slice AO m co] 69)) (.cells #[.slice BS n ds, .slice BO m' d'] 69)
    simpa using this
  have HB0 := Lib.hid hb0
  have HB1 := Lib.hid hb1
  have HS := Lib.hid (hS.no hk1)
  have HO := Lib.hid (hO.no hk1)
  have HS' := Lib.hid (hS'.no hk1)
  have HO' := Lib.hid (hO'.no hk1)
  have HL := Lib.hid (show S.length = n ∧ ON.length = m ∧ S'.length = n ∧ ON'.length = m' from ⟨nat_len hS, nat_len hO, nat_len hS', nat_len hO'⟩)
  have HSM := Lib.hid hs
  have HSM' := Lib.hid hs'
  have HK1 := Lib.hid hk1
  obtain ⟨rv, hrv⟩ : ∃ rv, lessL (prs S ON) (prs S' ON') = rv := ⟨_, rfl⟩
  rw [hrv]
  have HRV := Lib.hid hrv
  clear hS hO hS' hO' hs hs' hk1 hrv hb0 hb1
  go_enter Try.func34, Try.ntmps34
  go_wp2_with fail
  clear hw1 hg0
  go_loopw [5] (fun i wr => ∃ k : Nat, k ≤ n ∧ i = .int .i64 k ∧ lessL ((prs S ON).drop k) ((prs S' ON').drop k) = rv ∧ Kp No w1 wr) (fun i _ => n - (intOf i).toNat)
  case atStart => exact ⟨0, by omega, rfl, HRV.out, Kp.refl _ _⟩
  case round =>
    obtain ⟨k, hk, rfl, hno, hkp⟩ := hrel
    have hb0 := hkp.heap HB0.out id
    have hb1 := hkp.heap HB1.out id
    have p0 : wr.cell? ⟨g0, 0, none⟩ = some (.slice AS n cs) := by rw [cell_of_row _ _ _ _ _ _ hb0]; rfl
    have p1 : wr.cell? ⟨g0, 1, none⟩ = some (.slice AO m co) := by rw [cell_of_row _ _ _ _ _ _ hb0]; rfl
    have q0 : wr.cell? ⟨g0 + 1, 0, none⟩ = some (.slice BS n ds) := by rw [cell_of_row _ _ _ _ _ _ hb1]; rfl
    have q1 : wr.cell? ⟨g0 + 1, 1, none⟩ = some (.slice BO m' d') := by rw [cell_of_row _ _ _ _ _ _ hb1]; rfl
    have HK := Lib.hid hkp
    have HNO := Lib.hid hno
    clear hb0 hb1 hno
    by_cases hlt : k < n
    · obtain ⟨s, hs⟩ : ∃ s, S[k]? = some s := ⟨_, List.getElem?_eq_getElem (by rw [HL.out.1]; exact hlt)⟩
      obtain ⟨t, ht⟩ : ∃ t, S'[k]? = some t := ⟨_, List.getElem?_eq_getElem (by rw [HL.out.2.2.1]; exact hlt)⟩
      have hsm := HSM.out s (List.mem_of_getElem? hs)
      have htm := HSM'.out t (List.mem_of_getElem? ht)
      obtain ⟨p, hp⟩ : ∃ p, ON[s]? = some p := ⟨_, List.getElem?_eq_getElem (by rw [HL.out.2.1]; exact hsm)⟩
      obtain ⟨q, hq⟩ : ∃ q, ON'[t]? = some q := ⟨_, List.getElem?_eq_getElem (by rw [HL.out.2.2.2]; exact htm)⟩
      obtain ⟨b0, o0, rfl, _, c0⟩ := (HS.out.no hkp).2 k _ (nat_at hs)
      obtain ⟨b1, o1, rfl, _, c1⟩ := (HS'.out.no hkp).2 k _ (nat_at ht)
      obtain ⟨b2, o2, rfl, _, c2⟩ := (HO.out.no hkp).2 s _ (nat_at hp)
      obtain ⟨b3, o3, rfl, _, c3⟩ := (HO'.out.no hkp).2 t _ (nat_at hq)
      have HST := Lib.hid (less_step (prs_at hs hp) (prs_at ht hq))
      rw [HNO.out] at HST
      have hlt' : (k : Int) < n := by omega
      have hsm' : (s : Int) < m := by omega
      have htm' : (t : Int) < m' := by omega
      clear hs ht hp hq hkp
      by_cases hpq : p = q
      · subst hpq
        by_cases hst : s = t
        · subst hst
          have HR := Lib.hid (show lessL ((prs S ON).drop (k + 1)) ((prs S' ON').drop (k + 1)) = rv by rw [HST.out, if_neg (by simp), if_neg (by simp)])
          go_wp2_with fail
          go_quiet (fail)
          go_wp2_with fail
          go_quiet (fail)
          go_wp2_with fail
          go_roundw
          case rel => exact ⟨k + 1, by omega, by go_num, HR.out, HK.out.tr (Kp.drewN _ _ _)⟩
          case measure => simp [intOf]; omega
        · have HR := Lib.hid (show rv = decide (s < t) by rw [HST.out, if_neg (by simp), if_pos hst])
          have hst' : ((s : Int) = t) = False := eq_false (by omega)
          by_cases hlt2 : s < t
          · have d1 : decide ((s : Int) < t) = true := decide_eq_true (by omega)
            have HR2 := Lib.hid (show rv = true by rw [HR.out, decide_eq_true hlt2])
            go_wp2_with fail
            go_quiet (fail)
            go_wp2_with fail
            go_quiet (fail)
            go_wp2_with fail
            go_quiet (fail)
            go_wp2_with fail
            go_ret
            exact ⟨by rw [HR2.out]; try rfl, HK1.out.tr (((HK.out.tr (Kp.drewN _ _ _)).tr (Kp.drewN _ _ _)).tr (Kp.drewN _ _ _))⟩
          · have d1 : decide ((s : Int) < t) = false := decide_eq_false (by omega)
            have HR2 := Lib.hid (show rv = false by rw [HR.out, decide_eq_false hlt2])
            go_wp2_with fail
            go_quiet (fail)
            go_wp2_with fail
            go_quiet (fail)
            go_wp2_with fail
            go_quiet (fail)
            go_wp2_with fail
            go_ret
            exact ⟨by rw [HR2.out]; try rfl, HK1.out.tr (((HK.out.tr (Kp.drewN _ _ _)).tr (Kp.drewN _ _ _)).tr (Kp.drewN _ _ _))⟩
      · have HR := Lib.hid (show rv = decide (p < q) by rw [HST.out, if_pos hpq])
        have hpq' : ((p : Int) = q) = False := eq_false (by omega)
        by_cases hlt2 : p < q
        · have d1 : decide ((p : Int) < q) = true := decide_eq_true (by omega)
          have HR2 := Lib.hid (show rv = true by rw [HR.out, decide_eq_true hlt2])
          go_wp2_with fail
          go_quiet (fail)
          go_wp2_with fail
          go_ret
          exact ⟨by rw [HR2.out]; try rfl, HK1.out.tr (HK.out.tr (Kp.drewN _ _ _))⟩
        · have d1 : decide ((p : Int) < q) = false := decide_eq_false (by omega)
          have HR2 := Lib.hid (show rv = false by rw [HR.out, decide_eq_false hlt2])
          go_wp2_with fail
          go_quiet (fail)
          go_wp2_with fail
          go_ret
          exact ⟨by rw [HR2.out]; try rfl, HK1.out.tr (HK.out.tr (Kp.drewN _ _ _))⟩
    · obtain rfl : k = n := by omega
      have HR := Lib.hid (show rv = false by
        have h := HNO.out
        rw [List.drop_eq_nil_of_le (by rw [prs_len, HL.out.1]; exact Nat.le_refl _)] at h
        rw [← h]
        rfl)
      clear hkp
      go_wp2_with fail
      go_ret
      exact ⟨by rw [HR.out]; try rfl, HK1.out.tr HK.out⟩
end Go.Proofs.Ytamjhpdgclbfgaa
