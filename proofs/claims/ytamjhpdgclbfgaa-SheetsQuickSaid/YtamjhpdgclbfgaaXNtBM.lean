/- Chapter 09: the reference's count, sum, fits: the walks. · Chapter 09: the reference's Groups: the walk. -/
import Derived.BigQuiet
import Derived.Test.YtamjhpdgclbfgaaXNsR
import Derived.Test.YtamjhpdgclbfgaaXRfAM
import Derived.Test.YtamjhpdgclbfgaaXNwB
import Derived.Test.YtamjhpdgclbfgaaXLibBoxM
namespace Go.Proofs.Ytamjhpdgclbfgaa
open Go.RowKit Go.Kq

theorem nat_at {S : List Nat} {k x : Nat} (h : S[k]? = some x) : (S.map Int.ofNat)[k]? = some (x : Int) := by
  rw [List.getElem?_map, h]
  rfl
theorem nat_len {w : World} {A : Option Addr} {n : Nat} {S : List Nat} (h : RdI .i64 w A n (S.map Int.ofNat)) : S.length = n := by
  have := h.1
  simpa using this
theorem cnt_take {S : List Nat} {k x : Nat} (h : S[k]? = some x) : cntF (S.take (k + 1)) = max (cntF (S.take k)) (x + 1) := by
  rw [List.take_add_one, h]
  exact cntF_snoc x _
theorem cnt_le {M : Nat} : ∀ {S : List Nat}, (∀ s ∈ S, s < M) → cntF S ≤ M
  | [], _ => Nat.zero_le _
  | s :: S, h => by
    rw [cntF_cons]
    have := h s (by simp)
    have := cnt_le (S := S) fun t ht => h t (by simp [ht])
    omega
set_option maxHeartbeats 2000000 in
theorem count_any (A : Option Addr) (n ca : Nat) (S : List Nat) (w : World) (hR : RdI .i64 w A n (S.map Int.ofNat)) (hn : n ≤ 100000) (hb : ∀ s ∈ S, s < 100000) :
    Calls Try.prog 32 #[.slice A n ca] w fun e w' => e = .returned (.int .i64 (cntF S : Nat)) ∧ w' = w := by
  have hl := nat_len hR
  have HR := Lib.hid hR
  have HB := Lib.hid hb
  clear hR hb
  go_enter Try.func32, Try.ntmps32
  go_wp2
  go_loop [3, 4] (fun v s => ∃ k : Nat, k ≤ n ∧ s = .int .i64 k ∧ v = .int .i64 (cntF (S.take k) : Nat)) (fun _ s => n - (intOf s).toNat)
  case atStart => exact ⟨0, by omega, rfl, rfl⟩
  case round =>
    obtain ⟨k, hk, rfl, rfl⟩ := hrel
    by_cases hlt : k < n
    · obtain ⟨x, hx⟩ : ∃ x, S[k]? = some x := ⟨_, List.getElem?_eq_getElem (by omega)⟩
      obtain ⟨b, o, rfl, hbb, hc⟩ := HR.out.2 k _ (nat_at hx)
      have hx1 := HB.out x (List.mem_of_getElem? hx)
      have hs := cnt_take hx
      have hc1 : cntF (S.take k) ≤ 100000 := cnt_le fun s hs => HB.out s (List.mem_of_mem_take hs)
      have hlt' : (k : Int) < n := by omega
      generalize cntF (S.take k) = q at *
      have hm : max (q : Int) ((x : Int) + 1) = ((max q (x + 1) : Nat) : Int) := by omega
      clear hx
      go_wp2
      go_round
      case rel => exact ⟨k + 1, by omega, by go_num, by rw [hs, ← hm]; congr 1; split <;> omega⟩
      case measure => simp [intOf]; omega
    · obtain rfl : k = n := by omega
      rw [List.take_of_length_le (by omega)]
      go_wp2
      go_ret
      exact ⟨rfl, rfl⟩
theorem sum_take {l : List Int} {k : Nat} {x : Int} (h : l[k]? = some x) : (l.take (k + 1)).sum = (l.take k).sum + x := by
  rw [List.take_add_one, h]
  simp
theorem suml_bd {M : Int} : ∀ {l : List Int}, (∀ x ∈ l, 0 ≤ x ∧ x ≤ M) → 0 ≤ l.sum ∧ l.sum ≤ M * l.length
  | [], _ => by simp
  | x :: l, h => by
    have h1 := h x (by simp)
    have h2 := suml_bd (M := M) (l := l) fun y hy => h y (by simp [hy])
    simp only [List.sum_cons, List.length_cons]
    have : M * ((l.length + 1 : Nat) : Int) = M * l.length + M := by
      rw [Int.natCast_add, Int.mul_add]
      simp
    omega
set_option maxHeartbeats 2000000 in
theorem sum_any (A : Option Addr) (n ca : Nat) (l : List Int) (w : World) (hR : RdI .i64 w A n l) (hn : n ≤ 1000) (hb : ∀ x ∈ l, 0 ≤ x ∧ x ≤ 1000000000) :
    Calls Try.prog 63 #[.slice A n ca] w fun e w' => e = .returned (.int .i64 l.sum) ∧ w' = w := by
  have hl := hR.1
  have HR := Lib.hid hR
  have HB := Lib.hid hb
  clear hR hb
  go_enter Try.func63, Try.ntmps63
  go_wp2
  go_loop [3, 4] (fun v s => ∃ k : Nat, k ≤ n ∧ s = .int .i64 k ∧ v = .int .i64 (l.take k).sum) (fun _ s => n - (intOf s).toNat)
  case atStart => exact ⟨0, by omega, rfl, rfl⟩
  case round =>
    obtain ⟨k, hk, rfl, rfl⟩ := hrel
    by_cases hlt : k < n
    · obtain ⟨x, hx⟩ : ∃ x, l[k]? = some x := ⟨_, List.getElem?_eq_getElem (by omega)⟩
      obtain ⟨b, o, rfl, hbb, hc⟩ := HR.out.2 k x hx
      have hx1 := HB.out x (List.mem_of_getElem? hx)
      have hs := sum_take hx
      have hc1 := suml_bd (M := 1000000000) (l := l.take k) fun s hs => HB.out s (List.mem_of_mem_take hs)
      have hkl : (l.take k).length ≤ 1000 := by rw [List.length_take]; omega
      have hc2 : 0 ≤ (l.take k).sum ∧ (l.take k).sum ≤ 1000000000000 := ⟨hc1.1, by omega⟩
      have hlt' : (k : Int) < n := by omega
      generalize (l.take k).sum = q at *
      clear hx hc1
      go_wp2
      go_round
      case rel => exact ⟨k + 1, by omega, by go_num, by rw [hs]⟩
      case measure => simp [intOf]; omega
    · obtain rfl : k = n := by omega
      rw [List.take_of_length_le (by omega)]
      go_wp2
      go_ret
      exact ⟨rfl, rfl⟩
def fitV (P : Pt) (l : List Ct) : Int := if l.any (bigC P) then 4 else 0
set_option maxHeartbeats 4000000 in
theorem rfits_any (P : Pt) (A : Option Addr) (n ca : Nat) (l : List Ct) (w : World) (hx : RdC w A n l) (hn : n ≤ 100000000) :
    Calls Try.prog 30 #[P.val, .slice A n ca] w fun e w' => e = .returned (.int .i64 (fitV P l)) ∧ Kp No w w' := by
  have hk0 : Kp No w (w.alloc (.cells #[.int .i64 P.w, .int .i64 P.h, .int .i64 P.k] 23)) := Kp.alloc _ _ _
  have hbx : (w.alloc (.cells #[.int .i64 P.w, .int .i64 P.h, .int .i64 P.k] 23)).heap[w.heap.size]? = some (.cells #[.int .i64 P.w, .int .i64 P.h, .int .i64 P.k] 23 (0, 0)) := heap_alloc_new _ _
  have HX := Lib.hid (hx.no hk0)
  have HL := Lib.hid hx.1
  have HV := Lib.hid (show fitV P l = if l.any (bigC P) then 4 else 0 from rfl)
  unfold Pt.val
  obtain ⟨g0, hg0⟩ : ∃ g0, g0 = w.heap.size := ⟨_, rfl⟩
  rw [← hg0] at hbx
  have HBX := Lib.hid hbx
  have HK0 := Lib.hid hk0
  clear hx hbx hk0
  go_enter Try.func30, Try.ntmps30
  go_wp2_with fail
  rw [← hg0]
  generalize (w.alloc (.cells #[.int .i64 P.w, .int .i64 P.h, .int .i64 P.k] 23)) = w0 at *
  clear hg0
  go_loopw [5] (fun i wr => ∃ k : Nat, k ≤ n ∧ i = .int .i64 k ∧ (l.take k).any (bigC P) = false ∧ Kp No w0 wr) (fun i _ => n - (intOf i).toNat)
  case atStart => exact ⟨0, by omega, rfl, by simp, Kp.refl _ _⟩
  case round =>
    obtain ⟨k, hk, rfl, hno, hkp⟩ := hrel
    have hb2 := hkp.heap HBX.out id
    have b0 : wr.cell? ⟨g0, 0, none⟩ = some (.int .i64 P.w) := by rw [cell_of_row _ _ _ _ _ _ hb2]; rfl
    have b1 : wr.cell? ⟨g0, 1, none⟩ = some (.int .i64 P.h) := by rw [cell_of_row _ _ _ _ _ _ hb2]; rfl
    clear hb2
    by_cases hlt : k < n
    · obtain ⟨v, hv⟩ : ∃ v, l[k]? = some v := ⟨_, List.getElem?_eq_getElem (by rw [HL.out]; exact hlt)⟩
      obtain ⟨b, o, rfl, hb, hc⟩ := (HX.out.no hkp).2 k v hv
      have c0 := hc 0 _ rfl
      have c1 := hc 1 _ rfl
      simp only [Nat.add_zero] at c0
      have Ht := Lib.hid (any_take_succ (bigC P) l k v hv)
      have Hno := Lib.hid hno
      have HK := Lib.hid hkp
      have HA := Lib.hid (fun h => show l.any (bigC P) = true from List.any_eq_true.2 ⟨v, List.mem_of_getElem? hv, h⟩)
      have HBC := Lib.hid (show bigC P v = (decide (P.w < v.w) || decide (P.h < v.h)) from rfl)
      have hlt' : (k : Int) < n := by omega
      clear hno hv hc hkp
      by_cases h1 : P.w < v.w
      · have d1 : decide (P.w < v.w) = true := decide_eq_true h1
        have HR := Lib.hid (HA.out (by rw [HBC.out, d1]; rfl))
        go_wp2_with fail
        go_quiet (fail)
        go_wp2_with fail
        go_ret
        exact ⟨by rw [HV.out, HR.out]; rfl, (HK0.out.tr HK.out).tr (Kp.drewN _ _ _)⟩
      · have d1 : decide (P.w < v.w) = false := decide_eq_false h1
        by_cases h2 : P.h < v.h
        · have d2 : decide (P.h < v.h) = true := decide_eq_true h2
          have HR := Lib.hid (HA.out (by rw [HBC.out, d1, d2]; rfl))
          go_wp2_with fail
          go_quiet (fail)
          go_wp2_with fail
          go_ret
          exact ⟨by rw [HV.out, HR.out]; rfl, (HK0.out.tr HK.out).tr (Kp.drewN _ _ _)⟩
        · have d2 : decide (P.h < v.h) = false := decide_eq_false h2
          have HR := Lib.hid (show bigC P v = false by rw [HBC.out, d1, d2]; rfl)
          go_wp2_with fail
          go_quiet (fail)
          go_wp2_with fail
          go_roundw
          case rel => exact ⟨k + 1, by omega, by go_num, by rw [Ht.out, Hno.out, HR.out]; rfl, HK.out.tr (Kp.drewN _ _ _)⟩
          case measure => simp [intOf]; omega
    · obtain rfl : k = n := by omega
      have HA := Lib.hid (show l.any (bigC P) = false by rw [List.take_of_length_le (by rw [HL.out]; omega)] at hno; exact hno)
      have HK := Lib.hid hkp
      clear hno hkp
      go_wp2_with fail
      go_ret
      exact ⟨by rw [HV.out, HA.out]; rfl, HK0.out.tr HK.out⟩
end Go.Proofs.Ytamjhpdgclbfgaa

namespace Go.Proofs.Ytamjhpdgclbfgaa
open Go.RowKit Go.Kq

theorem grpR_mem : ∀ (i : Nat) (T : List Nat), T ∈ grpR i → T.length = i ∧ cntF T ≤ i
  | 0, T, h => by
    simp [grpR] at h
    subst h
    exact ⟨rfl, Nat.le_refl _⟩
  | i + 1, T, h => by
    simp only [grpR, List.mem_flatMap, List.mem_map, List.mem_range] at h
    obtain ⟨L, hL, g, hg, rfl⟩ := h
    obtain ⟨h1, h2⟩ := grpR_mem i L hL
    exact ⟨by simp [h1], by rw [cntF_snoc]; omega⟩
def nxt (M : List (List Nat)) : List (List Nat) := M.flatMap fun T => (List.range (cntF T + 1)).map fun g => T ++ [g]
theorem nxt_len {i : Nat} : ∀ {M : List (List Nat)}, (∀ T ∈ M, cntF T ≤ i) → (nxt M).length ≤ M.length * (i + 1)
  | [], _ => by simp [nxt]
  | T :: M, h => by
    have e : nxt (T :: M) = ((List.range (cntF T + 1)).map fun g => T ++ [g]) ++ nxt M := rfl
    have h1 := h T (by simp)
    have h2 := nxt_len (i := i) (M := M) fun U hU => h U (by simp [hU])
    rw [e, List.length_append, List.length_map, List.length_range, List.length_cons, Nat.add_mul]
    omega
theorem grpR_len : ∀ i, i ≤ 7 → (grpR i).length ≤ 8 ^ i
  | 0, _ => by simp [grpR]
  | i + 1, h => by
    have h1 := grpR_len i (by omega)
    have h2 := nxt_len (i := i) (M := grpR i) fun T hT => (grpR_mem i T hT).2
    have h3 := Nat.mul_le_mul h1 (show i + 1 ≤ 8 by omega)
    rw [Nat.pow_succ]
    exact Nat.le_trans h2 h3
theorem nxt_snoc {M : List (List Nat)} {k : Nat} {T : List Nat} (h : M[k]? = some T) : nxt (M.take (k + 1)) = nxt (M.take k) ++ (List.range (cntF T + 1)).map fun g => T ++ [g] := by
  unfold nxt
  rw [List.take_add_one, h, List.flatMap_append]
  simp
/-- An element of a row of lists. -/
def LEl (g : Nat) (w : World) (v u : Value) (S : List Nat) : Prop := ∃ A n c, u = .slice A n c ∧ (A = none → n = 0 ∧ c = 0) ∧ RdI .i64 w A n (S.map Int.ofNat) ∧ ∀ b o, A = some ⟨b, o, none⟩ → g ≤ b ∧ b < w.heap.size ∧ v.ownBlock ≠ some b
def RowL (base : Nat) (w : World) (v : Value) (Ls : List (List Nat)) : Prop := ∃ us : List Value, us.length = Ls.length ∧ w.ownsRow base 57 1 v Ls.length us ∧ ∀ (i : Nat) u S, us[i]? = some u → Ls[i]? = some S → LEl base w v u S
/-- A slice of lists that is read alone; its blocks are g or behind. -/
def RdL (g : Nat) (w : World) (A : Option Addr) (n : Nat) (Ls : List (List Nat)) : Prop := Ls.length = n ∧ ∀ (i : Nat) S, Ls[i]? = some S → ∃ b o A' n' c', A = some ⟨b, o, none⟩ ∧ (g ≤ b ∧ b < w.heap.size) ∧ w.cell? ⟨b, o + i, none⟩ = some (.slice A' n' c') ∧ (A' = none → n' = 0 ∧ c' = 0) ∧ RdI .i64 w A' n' (S.map Int.ofNat) ∧ ∀ b o, A' = some ⟨b, o, none⟩ → g ≤ b ∧ b < w.heap.size
theorem RdL.kp {T : Nat → Prop} {g : Nat} {w w' : World} {A : Option Addr} {n : Nat} {Ls : List (List Nat)} (h : RdL g w A n Ls) (k : Kp T w w') (hT : ∀ b, g ≤ b → b < w.heap.size → ¬ T b) : RdL g w' A n Ls := ⟨h.1, fun i S hS => by
  obtain ⟨b, o, A', n', c', h1, h2, h3, h4, h5, h6⟩ := h.2 i S hS
  exact ⟨b, o, A', n', c', h1, ⟨h2.1, Nat.lt_of_lt_of_le h2.2 k.size⟩, k.cell h3 (hT b h2.1 h2.2), h4, h5.kp k (fun b o e hb => hT b (h6 b o e).1 hb), fun b o e => ⟨(h6 b o e).1, Nat.lt_of_lt_of_le (h6 b o e).2 k.size⟩⟩⟩
theorem RdL.no {g : Nat} {w w' : World} {A : Option Addr} {n : Nat} {Ls : List (List Nat)} (h : RdL g w A n Ls) (k : Kp No w w') : RdL g w' A n Ls := h.kp k fun _ _ _ h => h
theorem RdL.mono {g g' : Nat} {w : World} {A : Option Addr} {n : Nat} {Ls : List (List Nat)} (h : RdL g w A n Ls) (k : g' ≤ g) : RdL g' w A n Ls := ⟨h.1, fun i S hS => by
  obtain ⟨b, o, A', n', c', h1, h2, h3, h4, h5, h6⟩ := h.2 i S hS
  exact ⟨b, o, A', n', c', h1, ⟨Nat.le_trans k h2.1, h2.2⟩, h3, h4, h5, fun b o e => ⟨Nat.le_trans k (h6 b o e).1, (h6 b o e).2⟩⟩⟩
theorem RowL.nil (base : Nat) (w : World) : RowL base w (.slice none 0 0) [] := ⟨[], rfl, World.ownsRow_nil w _ _ _, fun i u S h => by simp at h⟩
theorem LEl.no {g : Nat} {w w' : World} {v u : Value} {S : List Nat} (h : LEl g w v u S) (k : Kp No w w') : LEl g w' v u S := by
  obtain ⟨A, n, c, h1, h2, h3, h4⟩ := h
  exact ⟨A, n, c, h1, h2, h3.no k, fun b o e => ⟨(h4 b o e).1, Nat.lt_of_lt_of_le (h4 b o e).2.1 k.size, (h4 b o e).2.2⟩⟩
theorem RowL.no {base : Nat} {w w' : World} {v : Value} {Ls : List (List Nat)} (h : RowL base w v Ls) (k : Kp No w w') : RowL base w' v Ls := by
  obtain ⟨us, h1, h2, h3⟩ := h
  exact ⟨us, h1, own_kp h2 k (fun _ _ h => h), fun i u S hu hS => (h3 i u S hu hS).no k⟩
theorem RowL.form {base : Nat} {w : World} {v : Value} {Ls : List (List Nat)} (h : RowL base w v Ls) : ∃ a c, v = .slice a Ls.length c := by
  obtain ⟨us, h1, h2, h3⟩ := h
  obtain ⟨a, c, h4, _⟩ := own_form h2
  exact ⟨a, c, h4⟩
theorem RowL.rd {base : Nat} {w : World} {A : Option Addr} {n c : Nat} {Ls : List (List Nat)} (h : RowL base w (.slice A n c) Ls) : RdL base w A n Ls := by
  obtain ⟨us, h1, h2, h3⟩ := h
  obtain ⟨a, c', h4, _, _, h6⟩ := own_form h2
  injection h4 with e1 e2 e3
  subst e1 e2 e3
  refine ⟨rfl, fun i S hS => ?_⟩
  have hi := (List.getElem?_eq_some_iff.1 hS).1
  obtain ⟨g, rfl⟩ := h6 (by omega)
  obtain ⟨u, hu⟩ : ∃ u, us[i]? = some u := ⟨_, List.getElem?_eq_getElem (by omega)⟩
  obtain ⟨A', n', c', rfl, q1, q2, q3⟩ := h3 i u S hu hS
  exact ⟨g, 0, A', n', c', rfl, own_ge h2 (g := g) rfl, by rw [Nat.zero_add]; exact own_cell h2 hu, q1, q2, fun b o e => ⟨(q3 b o e).1, (q3 b o e).2.1⟩⟩
/-- One list more behind a row of lists; the list's row is the last thing that was laid. -/
theorem RowL.snoc {base : Nat} {w1 w5 : World} {v v' : Value} {Ls : List (List Nat)} {S : List Nat} {B m n c : Nat} {A : Option Addr} (hB : base ≤ B) (hm : Ls.length = m) (hn : A = none → n = 0 ∧ c = 0) (hr : RdI .i64 w1 A n (S.map Int.ofNat)) (hA : ∀ b o, A = some ⟨b, o, none⟩ → B ≤ b ∧ b < w1.heap.size) (hv : ∀ b, v.ownBlock = some b → b < B)
    (hgrow : w1.grownBy w5 v.ownBlock) (hat : v'.ownBlock = v.ownBlock ∨ v'.ownBlock = some w1.heap.size) (us : List Value) (h1 : us.length = Ls.length) (h3 : ∀ (i : Nat) u S, us[i]? = some u → Ls[i]? = some S → LEl base w1 v u S)
    (hown : w5.ownsRow base 57 1 v' (m + 1) (us ++ [.slice A n c])) : RowL base w5 v' (Ls ++ [S]) := by
  subst hm
  have hk : Kp (fun k => v.ownBlock = some k) w1 w5 := Kp.grown hgrow fun k hk _ => hk
  have turn : ∀ b, b < w1.heap.size → v.ownBlock ≠ some b → v'.ownBlock ≠ some b := fun b h1 h2 e => by
    rcases hat with hat | hat
    · exact h2 (hat ▸ e)
    · rw [hat] at e
      injection e with e
      omega
  refine ⟨us ++ [.slice A n c], by simp [h1], by simpa using hown, fun i u T hu hT => ?_⟩
  rcases Nat.lt_or_ge i us.length with hi | hi
  · rw [List.getElem?_append_left hi] at hu
    rw [List.getElem?_append_left (by omega)] at hT
    obtain ⟨A', n', c', e1, e2, e3, e4⟩ := h3 i u T hu hT
    exact ⟨A', n', c', e1, e2, e3.kp hk (fun b o e _ => (e4 b o e).2.2), fun b o e => ⟨(e4 b o e).1, Nat.lt_of_lt_of_le (e4 b o e).2.1 hk.size, turn b (e4 b o e).2.1 (e4 b o e).2.2⟩⟩
  · rw [List.getElem?_append_right hi] at hu
    rw [List.getElem?_append_right (by omega)] at hT
    have h0 : i - us.length = 0 := by
      rcases Nat.eq_zero_or_pos (i - us.length) with h | h
      · exact h
      · rw [List.getElem?_eq_none (by simp; omega)] at hu
        cases hu
    rw [h0] at hu
    rw [← h1, h0] at hT
    simp at hu hT
    subst hu hT
    have fresh : ∀ b o, A = some ⟨b, o, none⟩ → v.ownBlock ≠ some b := fun b o e h => by
      have := (hA b o e).1
      have := hv b h
      omega
    exact ⟨A, n, c, rfl, hn, hr.kp hk (fun b o e _ h => fresh b o e h), fun b o e => ⟨Nat.le_trans hB (hA b o e).1, Nat.lt_of_lt_of_le (hA b o e).2 hk.size, turn b (hA b o e).2 (fresh b o e)⟩⟩
theorem infoIn : (Try.prog.info? 3).map (fun i => (i.zero, i.size, i.bytes)) = some (some (.int .i64 0), 1, 8) := by kernel_rfl
theorem infoSl : (Try.prog.info? 57).map (fun i => (i.zero, i.size, i.bytes)) = some (some (.slice none 0 0), 1, 24) := by kernel_rfl
end Go.Proofs.Ytamjhpdgclbfgaa
