/- Chapter 27: Seen and the reference's Seen: the walks. · Chapter 27: a work put into its place (plain). · Chapter 27: what Next gives (plain). -/
import Derived.Test.YtjbpdimepckmfaaXChkW
import Derived.Test.YtjbpdimepckmfaaXRch
import Derived.Test.YtjbpdimepckmfaaXClnM
import Derived.Test.YtjbpdimepckmfaaXMrgP
import Derived.Test.YtjbpdimepckmfaaXLibRegInM
import Derived.Test.YtjbpdimepckmfaaXLibApR
namespace Go.Proofs.Ytjbpdimepckmfaa
open Go.RowKit Go.Kq

theorem info3 : (Try.prog.info? 3).map (fun i => (i.zero, i.size, i.bytes)) = some (some (.int .i64 0), 1, 8) := by kernel_rfl
/-- How many works each worker has. -/
def seenL (l : List Wk) : List Int := (List.range 20).map fun k : Nat => (many l (k : Int) : Int)
def seenV (l : List Wk) : List Int := if chkL l = 0 then seenL l else []
theorem seenL_len (l : List Wk) : (seenL l).length = 20 := by simp [seenL]
theorem seenL_nil : seenL [] = List.replicate 20 0 := by decide
theorem seenL_at {l : List Wk} {q : Nat} (hq : q < 20) : (seenL l)[q]? = some (many l (q : Int) : Int) := by
  unfold seenL
  rw [List.getElem?_map, List.getElem?_range hq]
  rfl
theorem seenL_step {l : List Wk} {k : Nat} {v : Wk} (hv : l[k]? = some v) {q : Nat} (hw : v.wk = (q : Int)) : seenL (l.take (k + 1)) = (seenL (l.take k)).set q ((many (l.take k) (q : Int) : Int) + 1) := by
  have h : l.take (k + 1) = l.take k ++ [v] := by rw [List.take_add_one, hv]; rfl
  apply List.ext_getElem?
  intro j
  rw [List.getElem?_set]
  by_cases hj : j < 20
  · rw [seenL_at hj, seenL_at hj, h, many_snoc, hw, seenL_len]
    by_cases e : q = j
    · subst e
      simp [hj]
    · rw [if_neg (by omega), if_neg e]
      rfl
  · rw [List.getElem?_eq_none (by rw [seenL_len]; omega), List.getElem?_eq_none (by rw [seenL_len]; omega), seenL_len]
    by_cases e : q = j
    · rw [if_pos e, if_neg (by omega)]
    · rw [if_neg e]
def zeros20 : List Value := List.replicate 20 (.int .i64 0)
theorem make_twenty (w : World) : (Instr.makeSlice 52 (.int .i64 20) (.int .i64 20)).run Try.prog w = .ok (.slice (some ⟨w.heap.size, 0, none⟩) 20 20) (w.alloc (.cells zeros20.toArray 3)) := by
  obtain ⟨i0, hi, hz0, hz1, hz2⟩ := info_parts info3
  exact run_make_flat w (fun x : Value => [x]) (.int .i64 0) 52 3 i0 _ 1 8 20 Try.underlying52 hi hz0 hz1 hz2 (by decide) rfl rfl (by omega) (by omega)
set_option maxHeartbeats 1000000 in
theorem Seen_any (A : Option Addr) (n ca : Nat) (l : List Wk) (w : World) (hx : RdW w A n l) (hf : Fits l) :
    Calls Try.prog 29 #[.slice A n ca] w fun e w' => ∃ v, e = .returned (.tuple #[v, .int .i64 (chkL l)]) ∧ w'.ownsRow w.heap.size 3 1 v (seenV l).length ((seenV l).map (Value.int .i64)) ∧ Kp No w w' := by
  have hc := Check_any A n ca l w hx hf
  have HX := Lib.hid hx
  clear hx hf
  by_cases h1 : chkL l = 0
  rotate_left
  · have q1 : (chkL l != 0) = true := by rw [bne_iff_ne]; exact h1
    have HV := Lib.hid (show seenV l = [] from if_neg h1)
    generalize chkL l = x at hc q1 ⊢
    clear h1
    go_enter Try.func29, Try.ntmps29
    go_wp2_with fail
    with_reducible refine hc.mono ?_
    rintro e w1 ⟨rfl, hk1⟩
    go_wp2_with fail
    refine bodyPost_ret (v := .tuple #[.slice none 0 0, .int .i64 x]) (by simp [results, Try.results29, go_sem]) rfl ⟨.slice none 0 0, rfl, by rw [HV.out]; exact ⟨rfl, .inl ⟨rfl, rfl⟩⟩, hk1⟩
  have HR := Lib.hid (rec_of h1)
  have HL := Lib.hid HX.out.1
  have hn : n ≤ 400 := by rw [← HL.out]; exact HR.out.len
  have HV := Lib.hid (show seenV l = seenL l from if_pos h1)
  rw [h1] at hc ⊢
  have hmk := make_twenty
  clear h1
  go_enter Try.func29, Try.ntmps29
  go_wp2_with fail
  with_reducible refine hc.mono ?_
  rintro e w1 ⟨rfl, hk1⟩
  go_wp2_with fail
  obtain ⟨W1, hW1⟩ : ∃ W1, W1 = w1.alloc (.cells zeros20.toArray 3) := ⟨_, rfl⟩
  have hown : W1.ownsRow w.heap.size 3 1 (.slice (some ⟨w1.heap.size, 0, none⟩) 20 20) 20 ((seenL []).map (Value.int .i64)) := by
    rw [hW1, seenL_nil, List.map_replicate]
    exact own_made w1 rfl hk1.size (by unfold maxLen; omega)
  have hk2 : Kp No w W1 := by rw [hW1]; exact hk1.tr (Kp.alloc _ _ _)
  rw [← hW1]
  have hgl : w1.heap.size < W1.heap.size := by rw [hW1]; simp
  obtain ⟨G, hG⟩ : ∃ G, G = w1.heap.size := ⟨_, rfl⟩
  rw [← hG] at hown hgl ⊢
  have hgw : w.heap.size ≤ G := by rw [hG]; exact hk1.size
  have HO := Lib.hid hown
  have HK2 := Lib.hid hk2
  clear hW1 hown hmk hG hk2
  go_loopw [16] (fun vi wr => ∃ k : Nat, k ≤ n ∧ vi = .int .i64 k ∧ wr.ownsRow w.heap.size 3 1 (.slice (some ⟨G, 0, none⟩) 20 20) 20 ((seenL (l.take k)).map (Value.int .i64)) ∧ G < wr.heap.size ∧ Kp No w wr) (fun vi _ => n - (intOf vi).toNat)
  case atStart => exact ⟨0, by omega, rfl, HO.out, hgl, HK2.out⟩
  case round =>
    obtain ⟨k, hk, rfl, how, hgr, hkp⟩ := hrel
    have HOW := Lib.hid how
    clear how
    by_cases hlt : k < n
    · obtain ⟨v, hv⟩ : ∃ v, l[k]? = some v := ⟨_, List.getElem?_eq_getElem (by rw [HL.out]; omega)⟩
      obtain ⟨b, o, rfl, _, c0, c1, c2, c3, c4, c5, c6, c7, c8, c9, c10⟩ := RdW.at_ (HX.out.no hkp) hv
      obtain ⟨h0, h20, _⟩ := HR.out.fits k v hv
      obtain ⟨q, hq⟩ : ∃ q : Nat, v.wk = (q : Int) := ⟨v.wk.toNat, by omega⟩
      have hq20 : q < 20 := by omega
      have HS := Lib.hid (seenL_step hv hq)
      have hcx : wr.cell? ⟨G, q, none⟩ = some (.int .i64 (many (l.take k) (q : Int) : Int)) := own_cell HOW.out (by rw [List.getElem?_map, seenL_at hq20]; rfl)
      have hfx := own_free HOW.out q
      have hmb : many (l.take k) (q : Int) ≤ 1000 := by have := many_le (l.take k) (q : Int); rw [List.length_take] at this; omega
      rw [hq] at c0
      generalize many (l.take k) (q : Int) = m at HS hcx hmb
      have hkn : (k : Int) < (n : Int) := by omega
      have hqi : (q : Int) < 20 := by omega
      clear hv hq h0 h20
      go_wp2
      go_roundw
      case rel =>
        refine ⟨k + 1, by omega, by go_num, ?_, by simp; omega, ?_⟩
        · rw [HS.out, List.map_set]
          exact (own_set HOW.out q _).alloc _
        · exact (hkp.trans (kp_setOne _ _ _ _) fun j hj e => by have e : j = G := e; omega).tr (Kp.alloc _ _ _)
      case measure => simp [intOf]; omega
    · obtain rfl : k = n := by omega
      rw [List.take_of_length_le (by rw [HL.out]; omega)] at HOW
      go_wp2
      refine bodyPost_ret (v := .tuple #[.slice (some ⟨G, 0, none⟩) 20 20, .int .i64 0]) (by simp [results, Try.results29, go_sem]) rfl ⟨_, rfl, by rw [HV.out, seenL_len]; exact HOW.out, hkp⟩
set_option maxHeartbeats 1000000 in
theorem rSeen_any (A : Option Addr) (n ca : Nat) (l : List Wk) (w : World) (hx : RdW w A n l) (hf : Fits l) (hca : n ≤ ca) :
    Calls Try.prog 30 #[.slice A n ca] w fun e w' => ∃ v, e = .returned (.tuple #[v, .int .i64 (chkL l)]) ∧ w'.ownsRow w.heap.size 3 1 v (seenV l).length ((seenV l).map (Value.int .i64)) ∧ Kp No w w' := by
  have hc := rCheck_any A n ca l w hx hf hca
  have HX := Lib.hid hx
  obtain ⟨i0, hi0, hz0, hz1, hz2⟩ := info_parts info3
  clear hx hf
  by_cases h1 : chkL l = 0
  rotate_left
  · have q1 : (chkL l != 0) = true := by rw [bne_iff_ne]; exact h1
    have HV := Lib.hid (show seenV l = [] from if_neg h1)
    generalize chkL l = x at hc q1 ⊢
    clear h1
    go_enter Try.func30, Try.ntmps30
    go_wp2_with fail
    with_reducible refine hc.mono ?_
    rintro e w1 ⟨rfl, hk1⟩
    go_wp2_with fail
    refine bodyPost_ret (v := .tuple #[.slice none 0 0, .int .i64 x]) (by simp [results, Try.results30, go_sem]) rfl ⟨.slice none 0 0, rfl, by rw [HV.out]; exact ⟨rfl, .inl ⟨rfl, rfl⟩⟩, hk1⟩
  have HR := Lib.hid (rec_of h1)
  have HL := Lib.hid HX.out.1
  have hn : n ≤ 400 := by rw [← HL.out]; exact HR.out.len
  have HV := Lib.hid (show seenV l = seenL l from if_pos h1)
  rw [h1] at hc ⊢
  clear h1
  go_enter Try.func30, Try.ntmps30
  go_wp2_with fail
  with_reducible refine hc.mono ?_
  rintro e w1 ⟨rfl, hk1⟩
  go_wp2_with fail
  go_loopw [5, 6] (fun vo vi wr => ∃ k : Nat, k ≤ 20 ∧ vi = .int .i64 k ∧ wr.ownsRow w.heap.size 3 1 vo k (((List.range k).map fun j : Nat => (many l (j : Int) : Int)).map (Value.int .i64)) ∧ Kp No w wr) (fun _ vi _ => 20 - (intOf vi).toNat)
  case atStart => exact ⟨0, by omega, rfl, ⟨rfl, .inl ⟨rfl, rfl⟩⟩, hk1⟩
  case round =>
    obtain ⟨k, hk, rfl, how, hkp⟩ := hrel
    have HOW := Lib.hid how
    obtain ⟨al, cl, rfl, _, _, _⟩ := own_form how
    clear how
    by_cases hlt : k < 20
    · have hlt' : decide ((k : Int) < 20) = true := by rw [decide_eq_true_eq]; omega
      have hmy := rmany_any A n ca l (k : Int) wr (HX.out.no hkp) (by omega)
      have HRS := Lib.hid (show ((List.range (k + 1)).map fun j : Nat => (many l (j : Int) : Int)) = ((List.range k).map fun j : Nat => (many l (j : Int) : Int)) ++ [(many l (k : Int) : Int)] by rw [List.range_succ, List.map_append]; rfl)
      generalize many l (k : Int) = m at hmy HRS
      go_wp2_with fail
      with_reducible refine hmy.mono ?_
      rintro e w' ⟨rfl, rfl⟩
      go_wp2_with (at_builtin; refine stop_in ?_)
      refine stop_out ?_
      refine wpL_append_any rfl _ _ 52 rfl w.heap.size 3 i0 (.int .i64 0) 1 8 Try.underlying52 hi0 hz0 hz1 hz2 rfl (by decide) (.slice al k cl) k _ rfl (HOW.out.alloc (.cells #[.int .i64 m] 3)) (some ⟨w'.heap.size, 0, none⟩) 1 1 [.int .i64 m] rfl rfl (fun h => (by cases h)) (fun ad had => by cases had; exact cell_one_new w' _ _) (ints_oneCell .i64 [(m : Int)]) (by unfold maxLen; omega) (by omega) (by have := hkp.size; simp; omega) ?_
      intro v' w7 hown' hgrow hat
      have hk7 : Kp No w w7 := kp_app hkp HOW.out (Nat.le_refl _) hgrow
      obtain ⟨a7, c7, rfl, _, _, _⟩ := own_form hown'
      have HO7 := Lib.hid hown'
      clear hown' hgrow hat hmy
      go_wp2_with fail
      go_roundw
      case rel => exact ⟨k + 1, by omega, by go_num, by rw [HRS.out, List.map_append]; exact HO7.out, hk7⟩
      case measure => simp [intOf]; omega
    · obtain rfl : k = 20 := by omega
      go_wp2_with fail
      refine bodyPost_ret (v := .tuple #[.slice al 20 cl, .int .i64 0]) (by simp [results, Try.results30, go_sem]) rfl ⟨_, rfl, by rw [HV.out, seenL_len]; exact HOW.out, hkp⟩
end Go.Proofs.Ytjbpdimepckmfaa

namespace Go.Proofs.Ytjbpdimepckmfaa
open Go.RowKit Go.Kq

theorem cells_oneP (x : Wk) : ∀ v ∈ Wk.cells x, v.oneCell' = true := by
  intro v hv
  exact wk_one [x] v (by simpa using hv)
/-- Sorted, not strictly. -/
def SrtN (l : List Wk) : Prop := l.Pairwise fun x y => ltW y x = false
/-- A list with one more work, in its place. -/
def PutR (S : List Wk) (x : Wk) (l : List Wk) : Prop := l.Perm (S ++ [x]) ∧ (SrtN S → SrtN l)
theorem put_R {S A B : List Wk} {x : Wk} (h : S = A ++ B) (hB : ∀ b ∈ B, ltW x b = true) (hA : SrtN S → ∀ a ∈ A, ltW x a = false) : PutR S x (A ++ x :: B) := by
  refine ⟨?_, fun hS => ?_⟩
  · subst h
    exact List.perm_middle.trans (List.perm_append_singleton x (A ++ B)).symm
  · have hA2 := hA hS
    clear hA
    subst h
    unfold SrtN at *
    rw [List.pairwise_append] at hS ⊢
    refine ⟨hS.1, List.pairwise_cons.2 ⟨fun b hb => ?_, hS.2.1⟩, fun a ha b hb => ?_⟩
    · have := hB b hb
      rw [ltW_iff] at this
      rw [ltW_no]
      omega
    · rcases List.mem_cons.1 hb with rfl | hb
      · exact hA2 a ha
      · exact hS.2.2 a ha b hb
theorem put_R2 {S A A' B : List Wk} {x a : Wk} (h : S = A ++ B) (hB : ∀ b ∈ B, ltW x b = true) (hA : A = A' ++ [a]) (hax : ltW x a = false) : PutR S x (A ++ x :: B) :=
  put_R h hB fun hS => by
    subst h hA
    unfold SrtN at hS
    rw [List.pairwise_append, List.pairwise_append] at hS
    intro b hb
    rcases List.mem_append.1 hb with hb | hb
    · have := hS.1.2.2 b hb a (by simp)
      rw [ltW_no] at *
      omega
    · simp at hb
      rw [hb]
      exact hax
theorem put_at0 {A A' B : List Wk} {x a : Wk} {p : Nat} (hA : A = A' ++ [a]) (hp : A'.length = p) : (A ++ x :: B)[p]? = some a := by
  subst hA hp
  simp
theorem put_at1 {A A' B : List Wk} {x a : Wk} {p : Nat} (hA : A = A' ++ [a]) (hp : A'.length = p) : (A ++ x :: B)[p + 1]? = some x := by
  subst hA hp
  rw [List.getElem?_append_right (by simp)]
  simp
theorem put_swap {A A' B : List Wk} {x a : Wk} {p : Nat} (hA : A = A' ++ [a]) (hp : A'.length = p) : ((A ++ x :: B).set (p + 1) a).set p x = A' ++ x :: a :: B := by
  subst hA hp
  simp
theorem PutR.len {S l : List Wk} {x : Wk} (h : PutR S x l) : l.length = S.length + 1 := by rw [h.1.length_eq]; simp
end Go.Proofs.Ytjbpdimepckmfaa

namespace Go.Proofs.Ytjbpdimepckmfaa
open Go.RowKit Go.Kq

/-- The clock behind i works. -/
def ckAt (l : List Wk) : Nat → Int
  | 0 => 1
  | i + 1 => match l[i]? with
    | some u => u.ck + 1
    | none => 1
/-- The work, completed behind i works. -/
def nxtW (l : List Wk) (v : Wk) (i : Nat) : Wk := { v with num := (many (l.take i) v.wk : Int) + 1, ck := ckAt l i }
/-- What Next hands back. -/
def nextV (l : List Wk) (v : Wk) : Wk × Int :=
  if chkL l ≠ 0 then (default, chkL l) else if l.length = 400 then (default, 5) else if 1000000000 < ckAt l l.length then (default, 7) else
    if okW (nxtW l v l.length) then if v.kd = 4 ∧ findN l v.onm = none then (default, 4) else (nxtW l v l.length, 0) else (default, 2)
theorem ck_bd {l : List Wk} (h : ∀ v ∈ l, okW v = true) (i : Nat) : 1 ≤ ckAt l i ∧ ckAt l i ≤ 1000000001 := by
  cases i with
  | zero =>
    have e : ckAt l 0 = 1 := rfl
    omega
  | succ i =>
    have e : ckAt l (i + 1) = match l[i]? with | some u => u.ck + 1 | none => 1 := rfl
    rw [e]
    cases hv : l[i]? with
    | none =>
      simp only
      omega
    | some u =>
      have := h u (List.mem_of_getElem? hv)
      unfold okW at this
      simp only [Bool.and_eq_true, decide_eq_true_eq] at this
      simp only
      omega
/-- A block that holds a work. -/
def BoxW (W : World) (g : Nat) (v : Wk) : Prop := W.heap[g]? = some (.cells v.cells.toArray 41 (0, 0))
theorem BoxW.lt {W : World} {g : Nat} {v : Wk} (h : BoxW W g v) : g < W.heap.size := (Array.getElem?_eq_some_iff.1 h).1
theorem BoxW.at_ {W : World} {g : Nat} {v : Wk} (h : BoxW W g v) : WkAt W g 0 v := .of fun j u hj => by
  unfold BoxW at h
  rw [cell_of_row _ _ _ _ _ _ h, Nat.zero_add]
  simpa using hj
theorem BoxW.free {W : World} {g : Nat} {v : Wk} (h : BoxW W g v) (j : Nat) : W.frozen? ⟨g, j, none⟩ = false := by
  unfold BoxW at h
  simp [World.frozen?, h]
theorem BoxW.kp {S : Nat → Prop} {W W' : World} {g : Nat} {v : Wk} (h : BoxW W g v) (k : Kp S W W') (hS : ¬ S g) : BoxW W' g v := k.heap h hS
theorem BoxW.num {W : World} {g : Nat} {v : Wk} (h : BoxW W g v) (x : Int) : BoxW (W.setCell ⟨g, 1, none⟩ (.int .i64 x)) g { v with num := x } := by
  unfold BoxW at *
  simp [World.setCell, Array.getElem?_modify, h]
  rfl
theorem BoxW.ck {W : World} {g : Nat} {v : Wk} (h : BoxW W g v) (x : Int) : BoxW (W.setCell ⟨g, 2, none⟩ (.int .i64 x)) g { v with ck := x } := by
  unfold BoxW at *
  simp [World.setCell, Array.getElem?_modify, h]
  rfl
/-- A work stored whole. -/
def putW (W : World) (g : Nat) (u : Wk) : World := ((((((((((W.setCell ⟨g, 0, none⟩ (.int .i64 u.wk)).setCell ⟨g, 1, none⟩ (.int .i64 u.num)).setCell ⟨g, 2, none⟩ (.int .i64 u.ck)).setCell ⟨g, 3, none⟩ (.int .i64 u.kd)).setCell ⟨g, 4, none⟩ (.int .i64 u.rk)).setCell ⟨g, 5, none⟩ (.int .i64 u.nt)).setCell ⟨g, 6, none⟩ (.int .i64 u.fd)).setCell ⟨g, 7, none⟩ (.int .i64 u.vl)).setCell ⟨g, 8, none⟩ (.int .i64 u.ow)).setCell ⟨g, 9, none⟩ (.int .i64 u.on)).setCell ⟨g, 10, none⟩ (.string u.tx)
theorem BoxW.put {W : World} {g : Nat} {v : Wk} (h : BoxW W g v) (u : Wk) : BoxW (putW W g u) g u ∧ Kp (Kq.One g) W (putW W g u) := by
  refine ⟨?_, ?_⟩
  · unfold BoxW putW at *
    simp [World.setCell, Array.getElem?_modify, h]
    rfl
  · unfold putW
    exact ((((((((((kp_setOne _ _ _ _).tr (kp_setOne _ _ _ _)).tr (kp_setOne _ _ _ _)).tr (kp_setOne _ _ _ _)).tr (kp_setOne _ _ _ _)).tr (kp_setOne _ _ _ _)).tr (kp_setOne _ _ _ _)).tr (kp_setOne _ _ _ _)).tr (kp_setOne _ _ _ _)).tr (kp_setOne _ _ _ _)).tr (kp_setOne _ _ _ _)
end Go.Proofs.Ytjbpdimepckmfaa
