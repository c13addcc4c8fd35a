/- Chapter 14: walks of Check and of what it calls. -/
import Derived.Test.YtpkbpeeelpgmcaaGreatXNwSidM
namespace Go.Proofs.YtpkbpeeelpgmcaaGreat
open Go.RowKit Go.Kq Go.Flow

structure Tz where
  fr : Int
  to : Int
  lo : Int
  hi : Int
structure Nz where
  n : Int
  tr : List Tz
  ch : List Int
def z4 (t : Tz) : List Value := [.int .i64 t.fr, .int .i64 t.to, .int .i64 t.lo, .int .i64 t.hi]
def Tz.val (t : Tz) : Value := .agg #[.int .i64 t.fr, .int .i64 t.to, .int .i64 t.lo, .int .i64 t.hi]
def Tz.good (n : Int) (t : Tz) : Prop := 0 ≤ t.fr ∧ t.fr < n ∧ 0 ≤ t.to ∧ t.to < n ∧ t.fr ≠ t.to ∧ 0 ≤ t.lo ∧ t.lo ≤ t.hi ∧ t.hi ≤ 1000000000000
instance (n : Int) (t : Tz) : Decidable (t.good n) := by unfold Tz.good; infer_instance
structure RdNz (w : World) (A B : Option Addr) (N : Nz) : Prop where
  tr : Rd z4 4 w A N.tr.length N.tr
  ch : RdI .i64 w B N.ch.length N.ch
theorem RdNz.no {w w' : World} {A B : Option Addr} {N : Nz} (h : RdNz w A B N) (hk : Kp No w w') : RdNz w' A B N := ⟨h.tr.no hk, h.ch.no hk⟩
theorem rd_trunk {w : World} {A : Option Addr} {n : Nat} {l : List Tz} (h : Rd z4 4 w A n l) {k : Nat} {t : Tz} (ht : l[k]? = some t) :
    ∃ b o, A = some ⟨b, o, none⟩ ∧ b < w.heap.size ∧ w.cell? ⟨b, o + k * 4, none⟩ = some (.int .i64 t.fr) ∧ w.cell? ⟨b, o + k * 4 + 1, none⟩ = some (.int .i64 t.to) ∧ w.cell? ⟨b, o + k * 4 + 2, none⟩ = some (.int .i64 t.lo) ∧ w.cell? ⟨b, o + k * 4 + 3, none⟩ = some (.int .i64 t.hi) := by
  obtain ⟨b, o, hA, hb, hc⟩ := h.2 k t ht
  have x0 := hc 0 _ rfl
  rw [Nat.add_zero] at x0
  exact ⟨b, o, hA, hb, x0, hc 1 _ rfl, hc 2 _ rfl, hc 3 _ rfl⟩

theorem node_any (k n : Int) (b : Nat) (w : World) (hc : w.cell? ⟨b, 0, none⟩ = some (.int .i64 n)) : Calls Tryz.prog 58 #[.int .i64 k, .pointer (some ⟨b, 0, none⟩)] w fun e w' => e = .returned (.bool (decide (0 ≤ k ∧ k < n))) ∧ w = w' := by
  by_cases h : 0 ≤ k
  · by_cases h2 : k < n
    · go_enter Tryz.func58, Tryz.ntmps58
      go_wp2
      go_ret
      exact ⟨ret_bool (by simp [h, h2]), rfl⟩
    · go_enter Tryz.func58, Tryz.ntmps58
      go_wp2
      go_ret
      exact ⟨ret_bool (by simp [h2]), rfl⟩
  · go_enter Tryz.func58, Tryz.ntmps58
    go_wp2
    go_ret
    exact ⟨ret_bool (by simp; omega), rfl⟩
def big : Int := 4611686018427387904
theorem number_any (x : Int) (w : World) : Calls Tryz.prog 109 #[.int .i64 x] w fun e w' => e = .returned (.bool (decide (-big ≤ x ∧ x ≤ big))) ∧ w = w' := by
  unfold big
  by_cases h : -4611686018427387904 ≤ x
  · by_cases h2 : x ≤ 4611686018427387904
    · go_enter Tryz.func109, Tryz.ntmps109
      go_wp2
      go_ret
      exact ⟨ret_bool (by simp [h, h2]), rfl⟩
    · go_enter Tryz.func109, Tryz.ntmps109
      go_wp2
      go_ret
      exact ⟨ret_bool (by simp [h2]), rfl⟩
  · go_enter Tryz.func109, Tryz.ntmps109
    go_wp2
    go_ret
    exact ⟨ret_bool (by simp; omega), rfl⟩
def ivE (lo hi : Int) : Int := if -big ≤ lo ∧ lo ≤ big ∧ -big ≤ hi ∧ hi ≤ big then (if hi < lo then 2 else 0) else 7
set_option maxHeartbeats 2000000 in
theorem scheck_any (lo hi : Int) (g : Nat) (w : World) (h0 : w.cell? ⟨g, 0, none⟩ = some (.int .i64 lo)) (h1 : w.cell? ⟨g, 1, none⟩ = some (.int .i64 hi)) (_hg : g < w.heap.size) :
    Calls Tryz.prog 80 #[.slice (some ⟨g, 0, none⟩) 1 1] w fun e w' => e = .returned (.int .i64 (ivE lo hi)) ∧ Kp No w w' := by
  by_cases hr1 : -big ≤ lo ∧ lo ≤ big
  · by_cases hr2 : -big ≤ hi ∧ hi ≤ big
    · have d1 : decide (-big ≤ lo ∧ lo ≤ big) = true := by simp [hr1]
      have d2 : decide (-big ≤ hi ∧ hi ≤ big) = true := by simp [hr2]
      have HE := Lib.hid (show ivE lo hi = if hi < lo then 2 else 0 from by unfold ivE; rw [if_pos ⟨hr1.1, hr1.2, hr2.1, hr2.2⟩])
      clear hr1 hr2
      go_enter Tryz.func80, Tryz.ntmps80
      go_wp2_with fail
      go_loopw [9] (fun i wr => ∃ k : Nat, k ≤ 1 ∧ i = .int .i64 k ∧ Kp No w wr) (fun i _ => 1 - (intOf i).toNat)
      case atStart => exact ⟨0, by omega, rfl, Kp.refl _ _⟩
      case round =>
        obtain ⟨k, hk, rfl, hkp⟩ := hrel
        have c0 := hkp.cell h0 (fun h => h)
        have c1 := hkp.cell h1 (fun h => h)
        by_cases hk0 : k = 0
        · subst hk0
          go_wp2_with fail
          refine (number_any lo _).mono ?_
          rintro e w2 ⟨rfl, rfl⟩
          rw [d1]
          go_wp2_with fail
          refine (number_any hi _).mono ?_
          rintro e w2 ⟨rfl, rfl⟩
          rw [d2]
          go_wp2_with fail
          go_roundw
          case rel => exact ⟨1, by omega, rfl, hkp.tr (Kp.alloc _ _ _)⟩
          case measure => simp [intOf]
        · obtain rfl : k = 1 := by omega
          go_wp2_with fail
          go_loopw [26] (fun i wq => ∃ k : Nat, k ≤ 1 ∧ i = .int .i64 k ∧ (k = 1 → lo ≤ hi) ∧ Kp No w wq) (fun i _ => 1 - (intOf i).toNat)
          case atStart => exact ⟨0, by omega, rfl, by omega, hkp⟩
          case round =>
            obtain ⟨k, hk, rfl, hle, hkp2⟩ := hrel
            have c0 := hkp2.cell h0 (fun h => h)
            have c1 := hkp2.cell h1 (fun h => h)
            by_cases hk0 : k = 0
            · subst hk0
              by_cases hlh : hi < lo
              · have HE2 := Lib.hid (show ivE lo hi = 2 by rw [HE.out, if_pos hlh])
                clear hle
                go_wp2_with fail
                go_ret
                exact ⟨ret_i64 HE2.out.symm, hkp2.tr (Kp.alloc _ _ _)⟩
              · clear hle
                go_wp2_with fail
                go_roundw
                case rel => exact ⟨1, by omega, rfl, by omega, hkp2.tr (Kp.alloc _ _ _)⟩
                case measure => simp [intOf]
            · obtain rfl : k = 1 := by omega
              have hle2 := hle rfl
              have HE2 := Lib.hid (show ivE lo hi = 0 by rw [HE.out, if_neg (by omega)])
              clear hle
              go_wp2_with fail
              go_ret
              exact ⟨ret_i64 HE2.out.symm, hkp2⟩
    · have d1 : decide (-big ≤ lo ∧ lo ≤ big) = true := by simp [hr1]
      have d2 : decide (-big ≤ hi ∧ hi ≤ big) = false := by simpa using hr2
      have HE := Lib.hid (show ivE lo hi = 7 from by unfold ivE; rw [if_neg (fun h => hr2 ⟨h.2.2.1, h.2.2.2⟩)])
      clear hr1 hr2
      go_enter Tryz.func80, Tryz.ntmps80
      go_wp2_with fail
      go_loopw [9] (fun i wr => i = .int .i64 0 ∧ Kp No w wr) (fun i _ => 1 - (intOf i).toNat)
      case atStart => exact ⟨rfl, Kp.refl _ _⟩
      case round =>
        obtain ⟨rfl, hkp⟩ := hrel
        have c0 := hkp.cell h0 (fun h => h)
        have c1 := hkp.cell h1 (fun h => h)
        go_wp2_with fail
        refine (number_any lo _).mono ?_
        rintro e w2 ⟨rfl, rfl⟩
        rw [d1]
        go_wp2_with fail
        refine (number_any hi _).mono ?_
        rintro e w2 ⟨rfl, rfl⟩
        rw [d2]
        go_wp2_with fail
        go_ret
        exact ⟨ret_i64 HE.out.symm, hkp.tr (Kp.alloc _ _ _)⟩
  · have d1 : decide (-big ≤ lo ∧ lo ≤ big) = false := by simpa using hr1
    have HE := Lib.hid (show ivE lo hi = 7 from by unfold ivE; rw [if_neg (fun h => hr1 ⟨h.1, h.2.1⟩)])
    clear hr1
    go_enter Tryz.func80, Tryz.ntmps80
    go_wp2_with fail
    go_loopw [9] (fun i wr => i = .int .i64 0 ∧ Kp No w wr) (fun i _ => 1 - (intOf i).toNat)
    case atStart => exact ⟨rfl, Kp.refl _ _⟩
    case round =>
      obtain ⟨rfl, hkp⟩ := hrel
      have c0 := hkp.cell h0 (fun h => h)
      have c1 := hkp.cell h1 (fun h => h)
      go_wp2_with fail
      refine (number_any lo _).mono ?_
      rintro e w2 ⟨rfl, rfl⟩
      rw [d1]
      go_wp2_with fail
      go_ret
      exact ⟨ret_i64 HE.out.symm, hkp.tr (Kp.alloc _ _ _)⟩
theorem spCheck_any (lo hi : Int) (w : World) : Calls Tryz.prog 60 #[.agg #[.int .i64 lo, .int .i64 hi]] w fun e w' => e = .returned (.int .i64 (ivE lo hi)) ∧ Kp No w w' := by
  go_enter Tryz.func60, Tryz.ntmps60
  go_wp2_with fail
  refine (scheck_any lo hi (w.heap.size + 1) _ (by go_simp) (by go_simp) (by simp)).mono ?_
  rintro e w1 ⟨rfl, hk⟩
  go_wp2_with fail
  go_ret
  exact ⟨rfl, ((Kp.alloc _ _ _).tr (Kp.alloc _ _ _)).tr hk⟩
theorem ivE_good {lo hi : Int} (h : 0 ≤ lo ∧ lo ≤ hi ∧ hi ≤ 1000000000000) : ivE lo hi = 0 := by
  unfold ivE big
  rw [if_pos (by omega), if_neg (by omega)]
theorem ivE_bad {lo hi : Int} (h : ivE lo hi ≠ 0) : ¬ (0 ≤ lo ∧ lo ≤ hi ∧ hi ≤ 1000000000000) := fun h2 => h (ivE_good h2)
set_option maxHeartbeats 2000000 in
theorem wrong_any (t : Tz) (n : Int) (P b : Nat) (w : World) (hP : w.cell? ⟨P, 0, none⟩ = some (.func (.func 58) #[] #[.pointer (some ⟨b, 0, none⟩)])) (hb : w.cell? ⟨b, 0, none⟩ = some (.int .i64 n)) :
    Calls Tryz.prog 59 #[t.val, .pointer (some ⟨P, 0, none⟩)] w fun e w' => e = .returned (.bool (!decide (t.good n))) ∧ Kp No w w' := by
  obtain ⟨fr, to, lo, hi⟩ := t
  unfold Tz.val
  have hPl := World.block_lt_of_cell? w _ hP
  have hbl := World.block_lt_of_cell? w _ hb
  simp only at hPl hbl
  have nd := fun (k : Int) (o : Obj) => node_any k n b (w.alloc o) (by rw [World.cell?_alloc_lt w o _ hbl]; exact hb)
  have ND := Lib.hid nd
  clear nd
  by_cases h1 : 0 ≤ fr ∧ fr < n
  · have d1 : decide (0 ≤ fr ∧ fr < n) = true := by simpa using h1
    have H1 := Lib.hid h1
    clear h1
    by_cases h2 : 0 ≤ to ∧ to < n
    · have d2 : decide (0 ≤ to ∧ to < n) = true := by simpa using h2
      have H2 := Lib.hid h2
      clear h2
      by_cases h3 : fr = to
      · have HR := Lib.hid (show (!decide (Tz.good n ⟨fr, to, lo, hi⟩)) = true by rw [decide_eq_false (fun h => by unfold Tz.good at h; simp only at h; omega)]; rfl)
        have d3 : (fr == to) = true := by rw [beq_iff_eq]; exact h3
        clear h3
        go_enter Tryz.func59, Tryz.ntmps59
        go_wp2_with fail
        refine (ND.out _ _).mono ?_
        rw [d1]
        rintro e w1 ⟨rfl, rfl⟩
        go_wp2_with fail
        refine (ND.out _ _).mono ?_
        rw [d2]
        rintro e w1 ⟨rfl, rfl⟩
        go_wp2_with fail
        go_ret
        exact ⟨ret_bool HR.out.symm, Kp.alloc _ _ _⟩
      · have d3 : (fr == to) = false := by rw [beq_eq_false_iff_ne]; exact h3
        have H3 := Lib.hid h3
        clear h3
        by_cases h4 : ivE lo hi = 0
        · by_cases h5 : lo < 0
          · have HR := Lib.hid (show (!decide (Tz.good n ⟨fr, to, lo, hi⟩)) = true by rw [decide_eq_false (fun h => by unfold Tz.good at h; simp only at h; omega)]; rfl)
            have H4 := Lib.hid h4
            clear h4
            go_enter Tryz.func59, Tryz.ntmps59
            go_wp2_with fail
            refine (ND.out _ _).mono ?_
            rw [d1]
            rintro e w1 ⟨rfl, rfl⟩
            go_wp2_with fail
            refine (ND.out _ _).mono ?_
            rw [d2]
            rintro e w1 ⟨rfl, rfl⟩
            go_wp2_with fail
            refine (spCheck_any lo hi _).mono ?_
            rw [H4.out]
            rintro e w1 ⟨rfl, hk⟩
            have q0 := hk.cell (a := ⟨w.heap.size, 2, none⟩) (v := .int .i64 lo) (by go_simp) (fun h => h)
            have q1 := hk.cell (a := ⟨w.heap.size, 3, none⟩) (v := .int .i64 hi) (by go_simp) (fun h => h)
            go_wp2_with fail
            go_ret
            exact ⟨ret_bool HR.out.symm, (Kp.alloc _ _ _).tr hk⟩
          · by_cases h6 : 1000000000000 < hi
            · have HR := Lib.hid (show (!decide (Tz.good n ⟨fr, to, lo, hi⟩)) = true by rw [decide_eq_false (fun h => by unfold Tz.good at h; simp only at h; omega)]; rfl)
              have H4 := Lib.hid h4
              clear h4
              go_enter Tryz.func59, Tryz.ntmps59
              go_wp2_with fail
              refine (ND.out _ _).mono ?_
              rw [d1]
              rintro e w1 ⟨rfl, rfl⟩
              go_wp2_with fail
              refine (ND.out _ _).mono ?_
              rw [d2]
              rintro e w1 ⟨rfl, rfl⟩
              go_wp2_with fail
              refine (spCheck_any lo hi _).mono ?_
              rw [H4.out]
              rintro e w1 ⟨rfl, hk⟩
              have q0 := hk.cell (a := ⟨w.heap.size, 2, none⟩) (v := .int .i64 lo) (by go_simp) (fun h => h)
              have q1 := hk.cell (a := ⟨w.heap.size, 3, none⟩) (v := .int .i64 hi) (by go_simp) (fun h => h)
              go_wp2_with fail
              go_ret
              exact ⟨ret_bool HR.out.symm, (Kp.alloc _ _ _).tr hk⟩
            · have hlh : lo ≤ hi := by
                unfold ivE at h4
                split at h4
                · split at h4
                  · omega
                  · omega
                · omega
              have HR := Lib.hid (show (!decide (Tz.good n ⟨fr, to, lo, hi⟩)) = false by
                have a1 := H1.out
                have a2 := H2.out
                have a3 := H3.out
                rw [decide_eq_true (show Tz.good n ⟨fr, to, lo, hi⟩ from ⟨a1.1, a1.2, a2.1, a2.2, a3, by show 0 ≤ lo; omega, hlh, by show hi ≤ _; omega⟩)]
                rfl)
              have H4 := Lib.hid h4
              clear h4
              go_enter Tryz.func59, Tryz.ntmps59
              go_wp2_with fail
              refine (ND.out _ _).mono ?_
              rw [d1]
              rintro e w1 ⟨rfl, rfl⟩
              go_wp2_with fail
              refine (ND.out _ _).mono ?_
              rw [d2]
              rintro e w1 ⟨rfl, rfl⟩
              go_wp2_with fail
              refine (spCheck_any lo hi _).mono ?_
              rw [H4.out]
              rintro e w1 ⟨rfl, hk⟩
              have q0 := hk.cell (a := ⟨w.heap.size, 2, none⟩) (v := .int .i64 lo) (by go_simp) (fun h => h)
              have q1 := hk.cell (a := ⟨w.heap.size, 3, none⟩) (v := .int .i64 hi) (by go_simp) (fun h => h)
              go_wp2_with fail
              go_ret
              exact ⟨ret_bool (by rw [HR.out]; simp; omega), (Kp.alloc _ _ _).tr hk⟩
        · have HR := Lib.hid (show (!decide (Tz.good n ⟨fr, to, lo, hi⟩)) = true by
            have := ivE_bad h4
            rw [decide_eq_false (fun h => this ⟨h.2.2.2.2.2.1, h.2.2.2.2.2.2.1, h.2.2.2.2.2.2.2⟩)]
            rfl)
          generalize hiv : ivE lo hi = c at h4
          have d4 : (c != 0) = true := by rw [bne_iff_ne]; exact h4
          have d5 : (c == 0) = false := by rw [beq_eq_false_iff_ne]; exact h4
          have HIV := Lib.hid hiv
          clear hiv h4
          go_enter Tryz.func59, Tryz.ntmps59
          go_wp2_with fail
          refine (ND.out _ _).mono ?_
          rw [d1]
          rintro e w1 ⟨rfl, rfl⟩
          go_wp2_with fail
          refine (ND.out _ _).mono ?_
          rw [d2]
          rintro e w1 ⟨rfl, rfl⟩
          go_wp2_with fail
          refine (spCheck_any lo hi _).mono ?_
          rw [HIV.out]
          rintro e w1 ⟨rfl, hk⟩
          go_wp2_with fail
          go_ret
          exact ⟨ret_bool HR.out.symm, (Kp.alloc _ _ _).tr hk⟩
    · have d2 : decide (0 ≤ to ∧ to < n) = false := by simpa using h2
      have HR := Lib.hid (show (!decide (Tz.good n ⟨fr, to, lo, hi⟩)) = true by rw [decide_eq_false (fun h => by unfold Tz.good at h; simp only at h; omega)]; rfl)
      clear h2
      go_enter Tryz.func59, Tryz.ntmps59
      go_wp2_with fail
      refine (ND.out _ _).mono ?_
      rw [d1]
      rintro e w1 ⟨rfl, rfl⟩
      go_wp2_with fail
      refine (ND.out _ _).mono ?_
      rw [d2]
      rintro e w1 ⟨rfl, rfl⟩
      go_wp2_with fail
      go_ret
      exact ⟨ret_bool HR.out.symm, Kp.alloc _ _ _⟩
  · have d1 : decide (0 ≤ fr ∧ fr < n) = false := by simpa using h1
    have HR := Lib.hid (show (!decide (Tz.good n ⟨fr, to, lo, hi⟩)) = true by rw [decide_eq_false (fun h => by unfold Tz.good at h; simp only at h; omega)]; rfl)
    clear h1
    go_enter Tryz.func59, Tryz.ntmps59
    go_wp2_with fail
    refine (ND.out _ _).mono ?_
    rw [d1]
    rintro e w1 ⟨rfl, rfl⟩
    go_wp2_with fail
    go_ret
    exact ⟨ret_bool HR.out.symm, Kp.alloc _ _ _⟩
set_option maxHeartbeats 2000000 in
theorem index_any (l : List Tz) (n : Int) (A : Option Addr) (m ca P b : Nat) (w : World) (hA : Rd z4 4 w A m l) (hm : m ≤ 1000000) (hP : w.cell? ⟨P, 0, none⟩ = some (.func (.func 58) #[] #[.pointer (some ⟨b, 0, none⟩)])) (hb : w.cell? ⟨b, 0, none⟩ = some (.int .i64 n)) :
    Calls Tryz.prog 81 #[.slice A m ca, .func (.func 59) #[] #[.pointer (some ⟨P, 0, none⟩)]] w fun e w' => ∃ r : Int, e = .returned (.int .i64 r) ∧ (0 ≤ r ↔ ∃ t ∈ l, ¬ t.good n) ∧ Kp No w w' := by
  have hl := hA.1
  go_enter Tryz.func81, Tryz.ntmps81
  go_wp2_with fail
  go_loopw [8] (fun i wr => ∃ k : Nat, k ≤ m ∧ i = .int .i64 k ∧ (∀ t ∈ l.take k, t.good n) ∧ Kp No w wr) (fun i _ => m - (intOf i).toNat)
  case atStart => exact ⟨0, by omega, rfl, by simp, Kp.refl _ _⟩
  case round =>
    obtain ⟨k, hk, rfl, hgo, hkp⟩ := hrel
    have HGO := Lib.hid hgo
    clear hgo
    by_cases hlt : k < m
    · obtain ⟨t, ht⟩ : ∃ t, l[k]? = some t := ⟨_, List.getElem?_eq_getElem (by omega)⟩
      obtain ⟨bb, o, rfl, hbb, x0, x1, x2, x3⟩ := rd_trunk (hA.no hkp) ht
      have HT := Lib.hid ht
      have HP := Lib.hid (hkp.cell hP (fun h => h))
      have HB := Lib.hid (hkp.cell hb (fun h => h))
      clear ht
      go_wp2_with fail
      refine (wrong_any t n P b _ HP.out HB.out).mono ?_
      by_cases hg : t.good n
      · have d : (!decide (t.good n)) = false := by simpa using hg
        rw [d]
        rintro e w1 ⟨rfl, hk1⟩
        have HG := Lib.hid hg
        clear hg d
        go_wp2_with fail
        go_roundw
        case rel => exact ⟨k + 1, by omega, by go_num, fun u hu => by
          rw [List.take_add_one, HT.out] at hu
          rcases List.mem_append.1 hu with hu | hu
          · exact HGO.out u hu
          · simp at hu
            rw [hu]
            exact HG.out, hkp.tr hk1⟩
        case measure => simp [intOf]; omega
      · have d : (!decide (t.good n)) = true := by simpa using hg
        rw [d]
        rintro e w1 ⟨rfl, hk1⟩
        have HG := Lib.hid hg
        clear hg d
        go_wp2_with fail
        go_ret
        exact ⟨_, rfl, ⟨fun _ => ⟨t, List.mem_of_getElem? HT.out, HG.out⟩, fun _ => by omega⟩, hkp.tr hk1⟩
    · have hfx : l.take k = l := List.take_of_length_le (by omega)
      rw [hfx] at HGO
      clear hfx
      go_wp2_with fail
      go_ret
      exact ⟨_, rfl, ⟨fun h => by omega, fun ⟨t, ht, hb⟩ => absurd (HGO.out t ht) hb⟩, hkp⟩
theorem contains_any (l : List Tz) (n : Int) (A : Option Addr) (m ca P b : Nat) (w : World) (hA : Rd z4 4 w A m l) (hm : m ≤ 1000000) (hP : w.cell? ⟨P, 0, none⟩ = some (.func (.func 58) #[] #[.pointer (some ⟨b, 0, none⟩)])) (hb : w.cell? ⟨b, 0, none⟩ = some (.int .i64 n)) :
    Calls Tryz.prog 61 #[.slice A m ca, .func (.func 59) #[] #[.pointer (some ⟨P, 0, none⟩)]] w fun e w' => ∃ r : Bool, e = .returned (.bool r) ∧ (r = true ↔ ∃ t ∈ l, ¬ t.good n) ∧ Kp No w w' := by
  go_enter Tryz.func61, Tryz.ntmps61
  go_wp2_with fail
  refine (index_any l n A m ca P b w hA hm hP hb).mono ?_
  rintro e w1 ⟨r, rfl, hr, hk⟩
  have HR := Lib.hid hr
  clear hr
  go_wp2_with fail
  go_ret
  exact ⟨_, rfl, by rw [← HR.out]; simp, hk⟩
end Go.Proofs.YtpkbpeeelpgmcaaGreat
