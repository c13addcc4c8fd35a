/- Chapter 09: the reference's used: the walk. Printed by gen_nte.py. -/
import Derived.Test.YtamjhpdgclbfgaaXNtD
namespace Go.Proofs.Ytamjhpdgclbfgaa
open Go.RowKit Go.Kq

def ufold (K : Int) (S : List Nat) (l : List Int) (k : Nat) : List Int := ((S.zip l).take k).foldl (ustep K) (List.replicate (cntF S) 0)
theorem ufold_succ {K : Int} {S : List Nat} {l : List Int} {k s : Nat} {c : Int} (hs : S[k]? = some s) (hc : l[k]? = some c) : ufold K S l (k + 1) = ustep K (ufold K S l k) (s, c) := by
  unfold ufold
  have hz : (S.zip l)[k]? = some (s, c) := List.getElem?_zip_eq_some.2 ⟨hs, hc⟩
  rw [List.take_add_one, hz, List.foldl_append]
  rfl
theorem ufold_all {K : Int} {S : List Nat} {l : List Int} {k : Nat} (h : S.length ≤ k) : ufold K S l k = (S.zip l).foldl (ustep K) (List.replicate (cntF S) 0) := by
  unfold ufold
  rw [List.take_of_length_le (by simp; omega)]
theorem ustep_bd {K : Int} {q : List Int} {s k : Nat} {c : Int} (hK : 0 ≤ K ∧ K ≤ 50000) (hc : 0 ≤ c ∧ c ≤ 20000000) (h2 : ∀ x ∈ q, 0 ≤ x ∧ x ≤ 20050000 * (k : Int)) : ∀ x ∈ ustep K q (s, c), 0 ≤ x ∧ x ≤ 20050000 * ((k + 1 : Nat) : Int) := by
  have b2 := getD_bd (j := s) h2 (by omega)
  intro x hx
  rcases List.mem_or_eq_of_mem_set hx with hx | rfl
  · have := h2 x hx
    omega
  · simp only
    split <;> omega
set_option maxHeartbeats 16000000 in
set_option maxRecDepth 100000 in
theorem used_any (P : Pt) (AH : Option Addr) (n ch : Nat) (H : List Int) (AS : Option Addr) (cs : Nat) (S : List Nat) (w : World) (hx : RdI .i64 w AH n H) (hS : RdI .i64 w AS n (S.map Int.ofNat)) (hn : n ≤ 8) (hH : ∀ x ∈ H, 0 ≤ x ∧ x ≤ 20000000) (hK : 0 ≤ P.k ∧ P.k ≤ 50000) (hM : cntF S ≤ 8) :
    Calls Try.prog 62 #[P.val, .slice AH n ch, .slice AS n cs] w fun e w' => OptR w (useV P H S) e w' ∧ Kp No w w' := by
  obtain ⟨M, hMM⟩ : ∃ M, cntF S = M := ⟨_, rfl⟩
  have hlt : ∀ s ∈ S, s < M := fun s hs => by rw [← hMM]; exact cntF_lt s hs
  have HLT := Lib.hid hlt
  have hk0 : Kp No w (w.alloc (.cells #[.int .i64 P.w, .int .i64 P.h, .int .i64 P.k] 23)) := Kp.alloc _ _ _
  have hbx : (w.alloc (.cells #[.int .i64 P.w, .int .i64 P.h, .int .i64 P.k] 23)).heap[w.heap.size]? = some (.cells #[.int .i64 P.w, .int .i64 P.h, .int .i64 P.k] 23 (0, 0)) := heap_alloc_new _ _
  have hCN := count_any AS n cs S (w.alloc (.cells #[.int .i64 P.w, .int .i64 P.h, .int .i64 P.k] 23)) (hS.no hk0) (by omega) (fun s hs => by have := hlt s hs; omega)
  rw [hMM] at hCN hM
  have HSL := Lib.hid (nat_len hS)
  have HX := Lib.hid (hx.no hk0)
  have HL := Lib.hid hx.1
  have HSR := Lib.hid (hS.no hk0)
  have HOK := Lib.hid hH
  have HKK := Lib.hid hK
  have HCN := Lib.hid hCN
  have HV := Lib.hid (show useV P H S = if fitsM P.h (ufold P.k S H n) then some (ufold P.k S H n) else none by rw [ufold_all (by rw [HSL.out]; exact Nat.le_refl _)]; rfl)
  have hmk := fun W => make_l M (by omega) W
  have HS0 := Lib.hid (show ufold P.k S H 0 = List.replicate M 0 by unfold ufold; rw [hMM]; rfl)
  unfold Pt.val
  obtain ⟨g0, hg0⟩ : ∃ g0, g0 = w.heap.size := ⟨_, rfl⟩
  rw [← hg0] at hbx
  have HBX := Lib.hid hbx
  have HK0 := Lib.hid hk0
  clear hx hS hH hK hCN hbx hlt hMM
  go_enter Try.func62, Try.ntmps62
  go_wp2_with fail
  have hz0 : (w.alloc (.cells #[.int .i64 P.w, .int .i64 P.h, .int .i64 P.k] 23)).heap.size = g0 + 1 := by rw [hg0]; simp
  rw [← hg0]
  generalize (w.alloc (.cells #[.int .i64 P.w, .int .i64 P.h, .int .i64 P.k] 23)) = w0 at *
  have HG0 := Lib.hid hg0
  clear hg0
  with_reducible refine HCN.out.mono ?_
  rintro e w1 ⟨rfl, hw1⟩
  subst hw1
  clear HCN
  go_wp2_with fail
  have A1 := own_zero (base := g0) (g := w1.heap.size) (by omega) (show M ≤ 100000 by omega) (heap_alloc_new w1 (.cells (zL M) 2))
  have K3 := Lib.hid (Kp.alloc No w1 (.cells (zL M) 2))
  obtain ⟨g1, hg1⟩ : ∃ g1, g1 = g0 + 1 := ⟨_, rfl⟩
  rw [hz0, ← hg1] at A1
  rw [← hg1]
  have HG := Lib.hid (show g1 = w1.heap.size from by omega)
  have hg01 : g0 < g1 := by omega
  have HI0 := Lib.hid (show H1 (w1.alloc (.cells (zL M) 2)) g0 g1 M (ufold P.k S H 0) (w1.alloc (.cells (zL M) 2)) from by rw [HS0.out]; exact ⟨A1, Kp.refl _ _⟩)
  clear A1 hg1 hmk hz0
  generalize (w1.alloc (.cells (zL M) 2)) = w3 at *
  have HRW := Lib.hid (show ∀ b, b < w1.heap.size → b ≠ g1 from fun b hb => by have := HG.out; omega)
  go_loopw [9] (fun i wr => ∃ k : Nat, k ≤ n ∧ i = .int .i64 k ∧ H1 w3 g0 g1 M (ufold P.k S H k) wr ∧ (∀ x ∈ ufold P.k S H k, 0 ≤ x ∧ x ≤ 20050000 * (k : Int))) (fun i _ => n - (intOf i).toNat)
  case atStart => exact ⟨0, by omega, rfl, HI0.out, by rw [HS0.out]; exact rep_bd (by omega)⟩
  case round =>
    obtain ⟨k, hk, rfl, hq, hbd⟩ := hrel
    have HQ := Lib.hid hq
    have HBD0 := Lib.hid hbd
    have hb2 := (K3.out.heap HBX.out id)
    have q2 : wr.cell? ⟨g0, 2, none⟩ = some (.int .i64 P.k) := HQ.out.cell (by rw [cell_of_row _ _ _ _ _ _ hb2]; rfl) (by omega)
    clear hq hbd hb2 HI0
    by_cases hkn : k < n
    · obtain ⟨x, hc⟩ : ∃ c, H[k]? = some c := ⟨_, List.getElem?_eq_getElem (by rw [HL.out]; exact hkn)⟩
      obtain ⟨s, hs⟩ : ∃ s, S[k]? = some s := ⟨_, List.getElem?_eq_getElem (by rw [HSL.out]; exact hkn)⟩
      have hkn' : (k : Int) < n := by omega
      have hsM := HLT.out s (List.mem_of_getElem? hs)
      have hsM' : (s : Int) < M := by omega
      have hck := HOK.out x (List.mem_of_getElem? hc)
      have hKK := HKK.out
      obtain ⟨b, o, rfl, hb, hcc⟩ := HX.out.2 k x hc
      obtain ⟨b', o', rfl, hb', hcs⟩ := HSR.out.2 k _ (nat_at hs)
      have CT := Lib.hid (show w3.cell? ⟨b, o + k, none⟩ = some (.int .i64 x) ∧ w3.cell? ⟨b', o' + k, none⟩ = some (.int .i64 s) ∧ b ≠ g1 ∧ b' ≠ g1 from ⟨K3.out.cell hcc id, K3.out.cell hcs id, HRW.out b hb, HRW.out b' hb'⟩)
      have HSU := Lib.hid (ufold_succ (K := P.k) hs hc)
      have HBD := Lib.hid (ustep_bd (s := s) hKK hck HBD0.out)
      obtain ⟨qa, hqq⟩ : ∃ q, ufold P.k S H k = q := ⟨_, rfl⟩
      rw [hqq] at HQ HSU HBD HBD0
      have hla : qa.length = M := by have := HQ.out.a.1; simpa using this
      obtain ⟨x2, hx2⟩ : ∃ x, qa.getD s 0 = x := ⟨_, rfl⟩
      have X2 := Lib.hid (show qa[s]? = some x2 by rw [← hx2]; exact getD_at (by omega))
      have bx2 := HBD0.out x2 (List.mem_of_getElem? X2.out)
      have hss := HQ.out.cell CT.out.2.1 CT.out.2.2.2
      obtain ⟨yw, fw⟩ := rown_at HQ.out.a (j := s) (x := x2) X2.out
      have HST := Lib.hid (show ustep P.k qa (s, x) = qa.set s ((if 0 < x2 then x2 + P.k else x2) + x) by simp only [ustep]; rw [hx2])
      clear hc hs hb hb' hcc hcs hqq hx2 HBD0
      have hk8 : k ≤ 8 := by omega
      by_cases hp : 0 < x2
      · rw [if_pos hp] at HST
        have HQ7 := Lib.hid (HQ.out.set s (x2 + P.k))
        have hsk : IntKind.i64.wrap (x2 + P.k) = x2 + P.k := by rw [IntKind.wrap_i64]; omega
        go_wp2_with fail
        go_region
        generalize (wr.setCell ⟨g1, s, none⟩ (.int .i64 (x2 + P.k))).drew = w7 at *
        clear yw fw hsk hss q2 HQ
        have HQ8 := Lib.hid (HQ7.out.set s ((x2 + P.k) + x))
        have hh := HQ7.out.cell CT.out.1 CT.out.2.2.1
        have hss := HQ7.out.cell CT.out.2.1 CT.out.2.2.2
        obtain ⟨yw, fw⟩ := rown_at HQ7.out.a (j := s) (x := (x2 + P.k)) (by rw [List.getElem?_set_self (by omega)])
        have hsw : IntKind.i64.wrap ((x2 + P.k) + x) = (x2 + P.k) + x := by rw [IntKind.wrap_i64]; omega
        go_wp2_with fail
        go_region
        generalize (w7.setCell ⟨g1, s, none⟩ (.int .i64 ((x2 + P.k) + x))).drew = w8 at *
        clear yw fw hsw hh
        go_wp2_with fail
        go_roundw
        case rel => exact ⟨k + 1, by omega, by go_num, by rw [HSU.out]; exact (by rw [HST.out]; have := HQ8.out; simp only [List.set_set] at this; exact this), by rw [HSU.out]; exact HBD.out⟩
        case measure => simp [intOf]; omega
      · rw [if_neg hp] at HST
        have hp' : x2 ≤ 0 := by omega
        have HQ7 := HQ
        clear q2 yw fw hss
        have HQ8 := Lib.hid (HQ7.out.set s (x2 + x))
        have hh := HQ7.out.cell CT.out.1 CT.out.2.2.1
        have hss := HQ7.out.cell CT.out.2.1 CT.out.2.2.2
        obtain ⟨yw, fw⟩ := rown_at HQ7.out.a (j := s) (x := x2) X2.out
        have hsw : IntKind.i64.wrap (x2 + x) = x2 + x := by rw [IntKind.wrap_i64]; omega
        go_wp2_with fail
        go_region
        generalize (wr.setCell ⟨g1, s, none⟩ (.int .i64 (x2 + x))).drew = w8 at *
        clear yw fw hsw hh
        go_wp2_with fail
        go_roundw
        case rel => exact ⟨k + 1, by omega, by go_num, by rw [HSU.out]; exact (by rw [HST.out]; exact HQ8.out), by rw [HSU.out]; exact HBD.out⟩
        case measure => simp [intOf]; omega
    · obtain rfl : k = n := by omega
      have KW := Lib.hid (show ∀ wz, Kp (Kq.One g1) w3 wz → Kp No w wz from fun wz kz => (HK0.out.tr K3.out).trans kz fun b hb e => by
        have e : b = g1 := e
        have := HG.out
        have := HG0.out
        have := HK0.out.size
        omega)
      obtain ⟨qa, hqq⟩ : ∃ q, ufold P.k S H k = q := ⟨_, rfl⟩
      rw [hqq] at HQ HV
      have hlb : qa.length = M := by have := HQ.out.a.1; simpa using this
      clear HBD0 q2
      obtain ⟨wo, rfl⟩ : ∃ wo : World, wo = wr := ⟨_, rfl⟩
      go_wp2_with fail
      go_loopw [10] (fun i wr => ∃ j : Nat, j ≤ M ∧ i = .int .i64 j ∧ (∀ j' x, j' < j → qa[j']? = some x → x ≤ P.h) ∧ H1 w3 g0 g1 M qa wr) (fun i _ => M - (intOf i).toNat)
      case atStart => exact ⟨0, by omega, rfl, fun j' x h => by omega, HQ.out⟩
      case round =>
        obtain ⟨j, hj, rfl, hall, hq2⟩ := hrel
        have HA := Lib.hid hall
        have HQ2 := Lib.hid hq2
        have hb2 := (K3.out.heap HBX.out id)
        have q1 : wr.cell? ⟨g0, 1, none⟩ = some (.int .i64 P.h) := HQ2.out.cell (by rw [cell_of_row _ _ _ _ _ _ hb2]; rfl) (by omega)
        clear hall hq2 hb2
        by_cases hjM : j < M
        · obtain ⟨x, hx⟩ : ∃ x, qa[j]? = some x := ⟨_, List.getElem?_eq_getElem (by omega)⟩
          have hjM' : (j : Int) < M := by omega
          obtain ⟨yw, fw⟩ := rown_at HQ2.out.a (j := j) (x := x) hx
          have HX2 := Lib.hid hx
          clear hx
          by_cases hgt : P.h < x
          · have HN := Lib.hid (show useV P H S = none by rw [HV.out, fits_no HX2.out hgt]; rfl)
            go_wp2_with fail
            go_quiet (fail)
            go_wp2_with fail
            exact bodyPost_ret (v := .tuple #[.slice none 0 0, .bool false]) (by simp [results, Try.results62, go_sem]) rfl ⟨by rw [HN.out]; exact rfl, KW.out _ (HQ2.out.k.tr (Kp.drewN _ _ _))⟩
          · have hle : x ≤ P.h := by omega
            go_wp2_with fail
            go_quiet (fail)
            go_wp2_with fail
            go_roundw
            case rel => exact ⟨j + 1, by omega, by go_num, fun j' y hj' hy => by
              by_cases e : j' = j
              · subst e
                rw [HX2.out] at hy
                cases hy
                exact hle
              · exact HA.out j' y (by omega) hy, own_kp HQ2.out.a (Kp.drewN No _ _) (fun _ _ h => h), HQ2.out.k.tr (Kp.drewN _ _ _)⟩
            case measure => simp [intOf]; omega
        · obtain rfl : j = M := by omega
          have HN := Lib.hid (show useV P H S = some qa by rw [HV.out, fits_all fun j' x hj' hx => HA.out j' x (by omega) hx]; rfl)
          go_wp2_with fail
          exact bodyPost_ret (v := .tuple #[.slice (some ⟨g1, 0, none⟩) j j, .bool true]) (by simp [results, Try.results62, go_sem]) rfl ⟨by rw [HN.out]; exact ⟨_, _, _, rfl, RdI.of_own HQ2.out.a, fun b o e => by cases e; have := HG.out; have := HG0.out; have := HK0.out.size; omega⟩, KW.out _ HQ2.out.k⟩
end Go.Proofs.Ytamjhpdgclbfgaa
