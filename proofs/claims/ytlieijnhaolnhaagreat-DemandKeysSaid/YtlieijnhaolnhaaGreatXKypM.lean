/- Chapter 13: the reference's Sum: the walk. · Chapter 13: keys (lists of pipes): what Keys gives: plain. -/
import Derived.Test.YtlieijnhaolnhaaGreatXRsf
namespace Go.Proofs.YtlieijnhaolnhaaGreat
open Go.RowKit Go.Kq

theorem sumE_known {l : List Rw} {ps : List Int} {pipes : List Pp} (h0 : opnE l ps = 0) (h1 : pipes.length ≤ 2000) : sumE l ps pipes = knownE l pipes := by
  unfold sumE knownE
  rw [if_pos h0, if_neg (by omega)]
theorem known_all {l : List Rw} {pipes : List Pp} (h : knownE l pipes = 0) : ∀ p ∈ pipes, (rowOf l p).isSome = true := by
  intro p hp
  unfold knownE at h
  split at h
  · split at h
    · cases h
    · rename_i hn
      cases hr : (rowOf l p).isSome
      · exact absurd (List.any_eq_true.2 ⟨p, hp, by rw [hr]; rfl⟩) hn
      · rfl
  · cases h
theorem addL_at (l : List Rw) (ps : List Int) (pipes : List Pp) (k : Nat) (hk : k < ps.length) : (addL l ps pipes)[k]? = some (sumAt l ps pipes k) := by
  have := addL_len l ps pipes
  unfold sumAt
  rw [List.getD_eq_getElem?_getD, List.getElem?_eq_getElem (by omega)]
  rfl
theorem newsIv (w : World) (a b : Value) (t : TypeId) : ∀ j u, [a, b][j]? = some u → (w.alloc (.cells #[a, b] t)).cell? ((⟨w.heap.size, 0, none⟩ : Addr).add j) = some u := newsPp w a b t
theorem ivC_one' (p : Int × Int) : ∀ u ∈ ivC p, u.oneCell' = true := by
  intro u hu
  simp [ivC] at hu
  rcases hu with rfl | rfl <;> rfl
theorem infoIv : (Tryz.prog.info? 25).map (fun i => (i.zero, i.size, i.bytes)) = some (some (.agg #[.int .i64 0, .int .i64 0]), 2, 16) := by kernel_rfl
set_option maxHeartbeats 4000000 in
set_option maxRecDepth 100000 in
theorem rsum_bad (A P Q : Option Addr) (n m np ca cp cq : Nat) (l : List Rw) (ps : List Int) (pipes : List Pp) (w : World) (hx : Rd rwC 5 w A n l) (hp : RdI .i64 w P m ps) (hm : m ≤ 1000000) (h0 : opnE l ps ≠ 0) :
    Calls Tryz.prog 15 #[.slice A n ca, .slice P m cp, .slice Q np cq] w (SumP l ps pipes w) := by
  have AT := Lib.hid (at13_is A P n m ca cp l ps w hx hp hm)
  have he : (opnE l ps == 0) = false := beq_eq_false_iff_ne.2 h0
  have hS : sumE l ps pipes = opnE l ps := by unfold sumE; rw [if_neg h0]
  have FIN := Lib.hid (fun w' hk => sum_nil (w := w) (w' := w') hS h0 hk)
  generalize opnE l ps = E at *
  have he2 : (E != 0) = true := bne_iff_ne.2 h0
  clear hx hp hS h0
  go_enter Tryz.func15, Tryz.ntmps15
  go_wp2_with fail
  refine AT.out.mono ?_
  rintro _ w1 ⟨rfl, k1⟩
  have K1 := Lib.hid k1
  clear k1 AT
  go_wp2_with fail
  exact bodyPost_ret (v := .tuple #[.slice none 0 0, .int .i64 E]) (by simp [results, Tryz.results15, go_sem]) rfl (FIN.out _ K1.out)
set_option maxHeartbeats 4000000 in
set_option maxRecDepth 100000 in
theorem rsum_long (A P Q : Option Addr) (n m np ca cp cq : Nat) (l : List Rw) (ps : List Int) (pipes : List Pp) (w : World) (hx : Rd rwC 5 w A n l) (hp : RdI .i64 w P m ps) (hl : pipes.length = np) (hm : m ≤ 1000000) (h0 : opnE l ps = 0) (hnp : 2000 < np) :
    Calls Tryz.prog 15 #[.slice A n ca, .slice P m cp, .slice Q np cq] w (SumP l ps pipes w) := by
  have AT := at13_is A P n m ca cp l ps w hx hp hm
  rw [h0] at AT
  replace AT := Lib.hid AT
  have hS : sumE l ps pipes = 3 := by unfold sumE; rw [if_pos h0, if_pos (by omega)]
  have FIN := Lib.hid (fun w' hk => sum_nil (w := w) (w' := w') hS (by omega) hk)
  have hn1 : (2000 : Int) < (np : Int) := by omega
  clear hx hp hS h0
  go_enter Tryz.func15, Tryz.ntmps15
  go_wp2_with fail
  refine AT.out.mono ?_
  rintro _ w1 ⟨rfl, k1⟩
  have K1 := Lib.hid k1
  clear k1 AT
  go_wp2_with fail
  exact bodyPost_ret (v := .tuple #[.slice none 0 0, .int .i64 3]) (by simp [results, Tryz.results15, go_sem]) rfl (FIN.out _ K1.out)
set_option maxHeartbeats 4000000 in
set_option maxRecDepth 100000 in
theorem rsum_unk (A P Q : Option Addr) (n m np ca cp cq : Nat) (l : List Rw) (ps : List Int) (pipes : List Pp) (w : World) (hx : Rd rwC 5 w A n l) (hp : RdI .i64 w P m ps) (hq : Rd pcells 2 w Q np pipes) (hn : n ≤ 1000000) (hm : m ≤ 1000000) (h0 : opnE l ps = 0) (hnp : np ≤ 2000) (hk : knownE l pipes ≠ 0) :
    Calls Tryz.prog 15 #[.slice A n ca, .slice P m cp, .slice Q np cq] w (SumP l ps pipes w) := by
  have AT := at13_is A P n m ca cp l ps w hx hp hm
  rw [h0] at AT
  replace AT := Lib.hid AT
  have hql := hq.1
  have KN := Lib.hid (fun w0 (h : Kp No w w0) => known13_is A Q n ca np cq l pipes w0 (hx.no h) (hq.no h) hn (by omega))
  have hS : sumE l ps pipes = knownE l pipes := sumE_known h0 (by omega)
  have FIN := Lib.hid (fun w' hk' => sum_nil (w := w) (w' := w') hS hk hk')
  have hn1 : (np : Int) ≤ 2000 := by omega
  generalize knownE l pipes = E at *
  have he2 : (E != 0) = true := bne_iff_ne.2 hk
  clear hx hp hq hS h0 hk
  go_enter Tryz.func15, Tryz.ntmps15
  go_wp2_with fail
  refine AT.out.mono ?_
  rintro _ w1 ⟨rfl, k1⟩
  have K1 := Lib.hid k1
  clear k1 AT
  go_wp2_with fail
  refine (KN.out _ K1.out).mono ?_
  rintro _ w2 ⟨rfl, k2⟩
  have K2 := Lib.hid (K1.out.tr k2)
  clear k2 KN
  go_wp2_with fail
  exact bodyPost_ret (v := .tuple #[.slice none 0 0, .int .i64 E]) (by simp [results, Tryz.results15, go_sem]) rfl (FIN.out _ K2.out)
set_option maxHeartbeats 4000000 in
set_option maxRecDepth 100000 in
theorem rsum_ok (A P Q : Option Addr) (n m np ca cp cq : Nat) (l : List Rw) (ps : List Int) (pipes : List Pp) (w : World) (hx : Rd rwC 5 w A n l) (hp : RdI .i64 w P m ps) (hq : Rd pcells 2 w Q np pipes) (hn : n ≤ 1000000) (hm : m ≤ 1000000) (h0 : opnE l ps = 0) (hnp : np ≤ 2000) (hk : knownE l pipes = 0) :
    Calls Tryz.prog 15 #[.slice A n ca, .slice P m cp, .slice Q np cq] w (SumP l ps pipes w) := by
  obtain ⟨i0, hi, hz0, hz1, hz2⟩ := info_parts infoIv
  have HI := Lib.hid hi
  have AT := at13_is A P n m ca cp l ps w hx hp hm
  rw [h0] at AT
  replace AT := Lib.hid AT
  have hql := hq.1
  have hpl := hp.1
  have hG := good_of h0
  have hfew := hG.few
  have KN := fun w0 (h : Kp No w w0) => known13_is A Q n ca np cq l pipes w0 (hx.no h) (hq.no h) hn (by omega)
  rw [hk] at KN
  replace KN := Lib.hid KN
  have hS : sumE l ps pipes = 0 := by rw [sumE_known h0 (by omega), hk]
  have hV : sumV l ps pipes = addL l ps pipes := by unfold sumV; rw [if_pos hS]
  have TA := Lib.hid (fun (c : Nat) (hc : c < m) w0 (h : Kp No w w0) => taken13_is A P Q n m np ca cp cq c l ps pipes w0 (hx.no h) (hp.no h) (hq.no h) hn hm hnp hG (known_all hk) hc)
  have AL := Lib.hid (fun c (hc : c < m) => addL_at l ps pipes c (by omega))
  have hal := addL_len l ps pipes
  have FIN := Lib.hid (fun w' (v : Value) (h1 : w'.ownsRow w.heap.size 25 2 v (addL l ps pipes).length ((addL l ps pipes).flatMap ivC)) (h2 : Kp No w w') => show SumP l ps pipes w (.returned (.tuple #[v, .int .i64 0])) w' from ⟨v, by rw [hS], by rw [hV]; exact h1, h2⟩)
  have hn1 : (np : Int) ≤ 2000 := by omega
  have hm16 : m ≤ 16 := by omega
  rw [hpl] at hal
  generalize addL l ps pipes = AD at *
  clear hx hp hq hS h0 hk hi hV hG
  go_enter Tryz.func15, Tryz.ntmps15
  go_wp2_with fail
  refine AT.out.mono ?_
  rintro _ w1 ⟨rfl, k1⟩
  have K1 := Lib.hid k1
  clear k1 AT
  go_wp2_with fail
  refine (KN.out _ K1.out).mono ?_
  rintro _ w2 ⟨rfl, k2⟩
  have K2 := Lib.hid (K1.out.tr k2)
  clear k2 KN
  go_wp2_with fail
  go_loopw [9, 10] (fun s i wr => ∃ k : Nat, k ≤ m ∧ i = .int .i64 k ∧ wr.ownsRow w.heap.size 25 2 s k ((AD.take k).flatMap ivC) ∧ Kp No w wr) (fun _ i _ => m - (intOf i).toNat)
  case atStart => exact ⟨0, by omega, rfl, ⟨rfl, .inl ⟨rfl, rfl⟩⟩, K2.out⟩
  case round =>
    obtain ⟨k, hk, rfl, hown, hkp⟩ := hrel
    have HOW := Lib.hid hown
    have HK := Lib.hid hkp
    obtain ⟨av, cv, rfl, _, _, _⟩ := own_form hown
    clear hown hkp
    by_cases hlt : k < m
    · have TK := Lib.hid (TA.out k hlt wr HK.out)
      have hAt := AL.out k hlt
      obtain ⟨S, hS⟩ : ∃ S, sumAt l ps pipes k = S := ⟨_, rfl⟩
      rw [hS] at TK hAt
      have HSN := Lib.hid (show AD.take (k + 1) = AD.take k ++ [S] by rw [List.take_add_one, hAt]; rfl)
      obtain ⟨s1, s2⟩ := S
      simp only [ivV] at TK
      have hk0 : (0 : Int) ≤ (k : Int) := by omega
      have hkn : (k : Int) < (m : Int) := by omega
      clear hAt hS
      go_wp2_with fail
      refine TK.out.mono ?_
      rintro _ w4 ⟨rfl, k4⟩
      have K4 := Lib.hid (HK.out.tr k4)
      have OW2 := Lib.hid (own_kp (own_kp HOW.out k4 (fun _ _ h => h)) (Kp.alloc No w4 (.cells #[.int .i64 s1, .int .i64 s2] 25)) (fun _ _ h => h))
      have HNW := Lib.hid (newsIv w4 (.int .i64 s1) (.int .i64 s2) 25)
      have SZ := Lib.hid (show w.heap.size ≤ w4.heap.size from K4.out.size)
      clear k4 TK
      go_wp2_with (at_builtin; refine stop_in ?_)
      refine stop_out ?_
      refine wpL_append_any rfl _ _ 38 rfl w.heap.size 25 i0 _ 2 16 Tryz.underlying38 HI.out hz0 hz1 hz2 rfl (by decide) (.slice av k cv) k ((AD.take k).flatMap ivC) rfl OW2.out (some ⟨w4.heap.size, 0, none⟩) 1 1 (ivC (s1, s2)) rfl rfl (fun h => by cases h) (fun ad had j u hu => by cases had; exact HNW.out j u hu) (ivC_one' _) (by unfold maxLen; omega) (by omega) (by have := SZ.out; simp; omega) ?_
      intro v' w5 hown' hgrow _
      have hk5 : Kp No w w5 := K4.out.trans ((Kp.alloc (fun g => w.heap.size ≤ g) _ _).tr (Kp.grown hgrow fun g hg _ => (own_ge HOW.out hg).1)) (fun g hg h => absurd h (Nat.not_le.2 hg))
      have HO5 := Lib.hid hown'
      have HK5 := Lib.hid hk5
      clear hown' hgrow hk5
      go_wp2_with fail
      go_round
      case rel => exact ⟨k + 1, by omega, by go_num, by rw [HSN.out, flat_snoc]; exact HO5.out, HK5.out⟩
      case measure => simp [intOf] <;> omega
    · obtain rfl : k = m := by omega
      have hO := HOW.out
      rw [List.take_of_length_le (by omega)] at hO
      have HO := Lib.hid (FIN.out wr (.slice av k cv) (by rw [hal]; exact hO) HK.out)
      clear hO
      go_wp2_with fail
      exact bodyPost_ret (v := .tuple #[.slice av k cv, .int .i64 0]) (by simp [results, Tryz.results15, go_sem]) rfl HO.out
theorem rsum_any (A P Q : Option Addr) (n m np ca cp cq : Nat) (l : List Rw) (ps : List Int) (pipes : List Pp) (w : World) (hx : Rd rwC 5 w A n l) (hp : RdI .i64 w P m ps) (hq : Rd pcells 2 w Q np pipes) (hn : n ≤ 1000000) (hm : m ≤ 1000000) :
    Calls Tryz.prog 15 #[.slice A n ca, .slice P m cp, .slice Q np cq] w (SumP l ps pipes w) := by
  by_cases h0 : opnE l ps = 0
  · by_cases hnp : 2000 < np
    · exact rsum_long A P Q n m np ca cp cq l ps pipes w hx hp hq.1 hm h0 hnp
    · by_cases hk : knownE l pipes = 0
      · exact rsum_ok A P Q n m np ca cp cq l ps pipes w hx hp hq hn hm h0 (by omega) hk
      · exact rsum_unk A P Q n m np ca cp cq l ps pipes w hx hp hq hn hm h0 (by omega) hk
  · exact rsum_bad A P Q n m np ca cp cq l ps pipes w hx hp hm h0
end Go.Proofs.YtlieijnhaolnhaaGreat

namespace Go.Proofs.YtlieijnhaolnhaaGreat
open Go.RowKit Go.Kq

/-- A key: a slice of pipes, and the pipes. -/
structure Ky where
  A : Option Addr
  n : Nat
  c : Nat
  ps : List Pp
def kyC (k : Ky) : List Value := [.slice k.A k.n k.c]
theorem kyC_len (k : Ky) : (kyC k).length = 1 := rfl
/-- Keys that lie in memory. -/
structure RdK (w : World) (A : Option Addr) (n : Nat) (ks : List Ky) : Prop where
  row : Rd kyC 1 w A n ks
  key : ∀ k ∈ ks, Rd pcells 2 w k.A k.n k.ps
theorem RdK.no {w w' : World} {A : Option Addr} {n : Nat} {ks : List Ky} (h : RdK w A n ks) (hk : Kp No w w') : RdK w' A n ks := ⟨h.row.no hk, fun k hm => (h.key k hm).no hk⟩
def kLong (k : Ky) : Bool := decide (200 < k.n)
def kForm (k : Ky) : Bool := !risB k.ps
def kUnk (l : List Rw) (k : Ky) : Bool := k.ps.any (fun p => !(rowOf l p).isSome)
def keysE (l : List Rw) (ps : List Int) (chest : Int) (ks : List Ky) : Int :=
  if opnE l ps = 0 then (if chest < 0 ∨ (ps.length : Int) ≤ chest then 2 else if 128 < ks.length ∨ ks.any kLong = true then 3 else if ks.any kForm = true then 6 else if ks.any (kUnk l) = true then 4 else 0) else opnE l ps
def keysV (l : List Rw) (ps : List Int) (chest : Int) (ks : List Ky) : List (Int × Int) := if keysE l ps chest ks = 0 then ks.map (fun k => sumAt l ps k.ps chest.toNat) else []
def KeysP (l : List Rw) (ps : List Int) (chest : Int) (ks : List Ky) (w : World) (e : Ending) (w' : World) : Prop :=
  ∃ v, e = .returned (.tuple #[v, .int .i64 (keysE l ps chest ks)]) ∧ w'.ownsRow w.heap.size 25 2 v (keysV l ps chest ks).length ((keysV l ps chest ks).flatMap ivC) ∧ Kp No w w'
theorem keys_nil {l : List Rw} {ps : List Int} {chest : Int} {ks : List Ky} {w w' : World} {z : Int} (h : keysE l ps chest ks = z) (hz : z ≠ 0) (hk : Kp No w w') : KeysP l ps chest ks w (.returned (.tuple #[.slice none 0 0, .int .i64 z])) w' :=
  ⟨.slice none 0 0, by rw [h], by unfold keysV; rw [h, if_neg hz]; exact ⟨rfl, .inl ⟨rfl, rfl⟩⟩, hk⟩
theorem keysV_len (l : List Rw) (ps : List Int) (chest : Int) (ks : List Ky) : (keysV l ps chest ks).length ≤ ks.length := by
  unfold keysV
  split
  · rw [List.length_map]; omega
  · simp
section
variable {l : List Rw} {ps : List Int} {chest : Int} {ks : List Ky}
theorem keysE_opn (h : opnE l ps ≠ 0) : keysE l ps chest ks = opnE l ps := by unfold keysE; rw [if_neg h]
theorem keysE_chest (h : opnE l ps = 0) (hc : chest < 0 ∨ (ps.length : Int) ≤ chest) : keysE l ps chest ks = 2 := by unfold keysE; rw [if_pos h, if_pos hc]
theorem keysE_long (h : opnE l ps = 0) (hc : ¬ (chest < 0 ∨ (ps.length : Int) ≤ chest)) (hl : 128 < ks.length ∨ ks.any kLong = true) : keysE l ps chest ks = 3 := by unfold keysE; rw [if_pos h, if_neg hc, if_pos hl]
theorem keysE_form (h : opnE l ps = 0) (hc : ¬ (chest < 0 ∨ (ps.length : Int) ≤ chest)) (hl : ¬ (128 < ks.length ∨ ks.any kLong = true)) (hf : ks.any kForm = true) : keysE l ps chest ks = 6 := by unfold keysE; rw [if_pos h, if_neg hc, if_neg hl, if_pos hf]
theorem keysE_unk (h : opnE l ps = 0) (hc : ¬ (chest < 0 ∨ (ps.length : Int) ≤ chest)) (hl : ¬ (128 < ks.length ∨ ks.any kLong = true)) (hf : ¬ ks.any kForm = true) (hu : ks.any (kUnk l) = true) : keysE l ps chest ks = 4 := by unfold keysE; rw [if_pos h, if_neg hc, if_neg hl, if_neg hf, if_pos hu]
theorem keysE_ok (h : opnE l ps = 0) (hc : ¬ (chest < 0 ∨ (ps.length : Int) ≤ chest)) (hl : ¬ (128 < ks.length ∨ ks.any kLong = true)) (hf : ¬ ks.any kForm = true) (hu : ¬ ks.any (kUnk l) = true) : keysE l ps chest ks = 0 := by unfold keysE; rw [if_pos h, if_neg hc, if_neg hl, if_neg hf, if_neg hu]
end
theorem any_no {α : Type} {p : α → Bool} {l : List α} (h : ∀ x ∈ l, p x = false) : ¬ l.any p = true := by
  rw [List.any_eq_false.2 (fun x hx => by rw [h x hx]; decide)]
  decide
theorem take_no {α : Type} {p : α → Bool} {l : List α} {k : Nat} {x : α} (h : ∀ y ∈ l.take k, p y = false) (hx : l[k]? = some x) (hp : p x = false) : ∀ y ∈ l.take (k + 1), p y = false := by
  rw [List.take_add_one, hx]
  intro y hy
  rcases List.mem_append.1 hy with hy | hy
  · exact h y hy
  · simp at hy
    rw [hy]
    exact hp
theorem knownE_of {l : List Rw} {k : Ky} (h : kForm k = false) : knownE l k.ps = if kUnk l k = true then 4 else 0 := by
  unfold knownE
  unfold kForm at h
  have : risB k.ps = true := by simpa using h
  rw [if_pos this]
  rfl
end Go.Proofs.YtlieijnhaolnhaaGreat
