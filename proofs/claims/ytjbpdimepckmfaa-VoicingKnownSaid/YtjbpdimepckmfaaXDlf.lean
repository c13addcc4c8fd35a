/- Chapter 27: slices.ContainsFunc of numbers, slices.IndexFunc and slices.DeleteFunc of works, as Since calls them: the walks. -/
import Derived.Test.YtjbpdimepckmfaaXNxtPM
import Derived.Test.YtjbpdimepckmfaaXLibClrM
import Derived.Test.YtjbpdimepckmfaaXLibApR
namespace Go.Proofs.Ytjbpdimepckmfaa
open Go.RowKit Go.Kq

theorem any_take_succ {α : Type} (p : α → Bool) (l : List α) (k : Nat) (v : α) (h : l[k]? = some v) : (l.take (k + 1)).any p = ((l.take k).any p || p v) := by
  rw [List.take_add_one, h]
  simp
def badN (x : Int) : Bool := decide (x < 0) || decide (400 < x)
theorem badN_any (x : Int) (w : World) : Calls Try.prog 66 #[.int .i64 x] w fun e w' => e = .returned (.bool (badN x)) ∧ w' = w := by
  have HB := Lib.hid (show badN x = (decide (x < 0) || decide (400 < x)) from rfl)
  generalize badN x = q at HB
  by_cases h1 : x < 0
  · obtain rfl : q = true := by rw [HB.out, decide_eq_true h1]; rfl
    go_enter Try.func66, Try.ntmps66
    go_wp2
    go_ret
    exact ⟨rfl, rfl⟩
  · by_cases h2 : 400 < x
    · obtain rfl : q = true := by rw [HB.out, decide_eq_true h2, Bool.or_true]
      go_enter Try.func66, Try.ntmps66
      go_wp2
      go_ret
      exact ⟨rfl, rfl⟩
    · obtain rfl : q = false := by rw [HB.out, decide_eq_false h1, decide_eq_false h2]; rfl
      have h3 : decide (400 < x) = false := decide_eq_false h2
      go_enter Try.func66, Try.ntmps66
      go_wp2
      go_ret
      exact ⟨rfl, rfl⟩
set_option maxHeartbeats 1000000 in
theorem index_n (A : Option Addr) (n cap : Nat) (vs : List Int) (w : World) (h : RdI .i64 w A n vs) (hn : n ≤ 100000000) :
    Calls Try.prog 85 #[.slice A n cap, .func (.func 66) #[] #[]] w fun e w' => ∃ i : Int, e = .returned (.int .i64 i) ∧ (decide (0 ≤ i) = vs.any badN) ∧ w' = w := by
  have HL := Lib.hid h.1
  go_enter Try.func85, Try.ntmps85
  go_wp2_with fail
  go_loop [8] (fun i => ∃ k : Nat, k ≤ n ∧ i = .int .i64 k ∧ (vs.take k).any badN = false) (fun i => n - (intOf i).toNat)
  case atStart => exact ⟨0, by omega, rfl, by simp⟩
  case round =>
    obtain ⟨k, hk, rfl, hno⟩ := hrel
    have Hno := Lib.hid hno
    clear hno
    by_cases hlt : k < n
    · obtain ⟨v, hv⟩ : ∃ v, vs[k]? = some v := ⟨_, List.getElem?_eq_getElem (by rw [HL.out]; exact hlt)⟩
      obtain ⟨b, o, rfl, hb, hc⟩ := h.2 k v hv
      have Ht := Lib.hid (any_take_succ badN vs k v hv)
      have Hv := Lib.hid hv
      have hkn : (k : Int) < (n : Int) := by omega
      have HC := Lib.hid (badN_any v w)
      clear hv
      cases hbad : badN v
      · rw [hbad] at HC
        have HB := Lib.hid hbad
        clear hbad
        go_wp2_with (go_at_call 66; with_reducible refine HC.out.mono ?_; rintro e w' ⟨rfl, rfl⟩)
        go_round
        case rel => exact ⟨k + 1, by omega, by go_num, by rw [Ht.out, Hno.out, HB.out]; rfl⟩
        case measure => simp [intOf]; omega
      · rw [hbad] at HC
        have HB := Lib.hid hbad
        clear hbad
        go_wp2_with (go_at_call 66; with_reducible refine HC.out.mono ?_; rintro e w' ⟨rfl, rfl⟩)
        go_ret
        refine ⟨k, rfl, ?_, rfl⟩
        have : vs.any badN = true := List.any_eq_true.2 ⟨v, List.mem_of_getElem? Hv.out, HB.out⟩
        rw [this]
        simp
    · have hno := Hno.out
      rw [List.take_of_length_le (by rw [HL.out]; omega)] at hno
      have Hno := Lib.hid hno
      clear hno
      go_wp2
      go_ret
      exact ⟨-1, rfl, by rw [Hno.out]; rfl, rfl⟩
theorem contains_n (A : Option Addr) (n cap : Nat) (vs : List Int) (w : World) (h : RdI .i64 w A n vs) (hn : n ≤ 100000000) :
    Calls Try.prog 65 #[.slice A n cap, .func (.func 66) #[] #[]] w fun e w' => e = .returned (.bool (vs.any badN)) ∧ w' = w := by
  have HI := Lib.hid (index_n A n cap vs w h hn)
  clear h
  go_enter Try.func65, Try.ntmps65
  go_wp2_with fail
  with_reducible refine HI.out.mono ?_
  rintro e w' ⟨i, rfl, hi, rfl⟩
  have HH := Lib.hid hi
  clear hi
  go_wp2_with fail
  go_ret
  exact ⟨ret_bool HH.out, rfl⟩

/-- Whether a work has been seen. -/
def seenP (seen : List Int) (v : Wk) : Bool := decide (v.num ≤ seen.getD v.wk.toNat 0)
set_option maxHeartbeats 1000000 in
theorem seenP_any (bx : Nat) (AS : Option Addr) (cs : Nat) (seen : List Int) (v : Wk) (w : World) (hb : w.cell? ⟨bx, 0, none⟩ = some (.slice AS 20 cs)) (hs : RdI .i64 w AS 20 seen) (h0 : 0 ≤ v.wk) (h20 : v.wk < 20) :
    Calls Try.prog 68 #[v.val, .pointer (some ⟨bx, 0, none⟩)] w fun e w' => e = .returned (.bool (seenP seen v)) ∧ Kp No w w' := by
  obtain ⟨q, hq⟩ : ∃ q : Nat, v.wk = (q : Int) := ⟨v.wk.toNat, by omega⟩
  have hq20 : q < 20 := by omega
  obtain ⟨s, hse⟩ : ∃ s, seen[q]? = some s := ⟨_, List.getElem?_eq_getElem (by rw [hs.1]; omega)⟩
  have HP := Lib.hid (show seenP seen v = decide (v.num ≤ s) by unfold seenP; rw [hq, Int.toNat_natCast, List.getD_eq_getElem?_getD, hse]; rfl)
  have HCEL := Lib.hid (show (.cells #[.int .i64 v.wk, .int .i64 v.num, .int .i64 v.ck, .int .i64 v.kd, .int .i64 v.rk, .int .i64 v.nt, .int .i64 v.fd, .int .i64 v.vl, .int .i64 v.ow, .int .i64 v.on, .string v.tx] 41 : Obj) = .cells v.cells.toArray 41 from rfl)
  simp only [Wk.val]
  have hk1 : Kp No w (w.alloc (.cells v.cells.toArray 41)) := Kp.alloc _ _ _
  have hb1 : BoxW (w.alloc (.cells v.cells.toArray 41)) w.heap.size v := heap_alloc_new _ _
  obtain ⟨b, o, rfl, _, hc⟩ := (hs.no hk1).2 q s hse
  have hbx := hk1.cell hb id
  have hqi : (q : Int) < 20 := by omega
  have HQ := Lib.hid hq
  clear hs hse h0 h20 hq
  go_enter Try.func68, Try.ntmps68
  go_wp2_with fail
  rw [HCEL.out]
  generalize w.alloc (.cells v.cells.toArray 41) = w1 at hk1 hb1 hc hbx ⊢
  obtain ⟨g, hg⟩ : ∃ g, g = w.heap.size := ⟨_, rfl⟩
  rw [← hg] at hb1 ⊢
  obtain ⟨t0, t1, _⟩ := hb1.at_
  rw [HQ.out] at t0
  simp only [Nat.zero_add] at t1
  clear hb1 HCEL hb hg
  go_quiet (fail)
  go_wp2_with fail
  go_ret
  exact ⟨ret_bool HP.out.symm, hk1.tr (Kp.drewN _ _ _)⟩

/-- What IndexFunc says. -/
def IxR (p : Wk → Bool) (l : List Wk) (i : Int) : Prop := (i = -1 ∧ ∀ v ∈ l, p v = false) ∨ ∃ (k : Nat) (v : Wk), i = (k : Int) ∧ l[k]? = some v ∧ p v = true ∧ ∀ u ∈ l.take k, p u = false
set_option maxHeartbeats 1000000 in
theorem index_w (bx : Nat) (A : Option Addr) (n cap : Nat) (l : List Wk) (p : Wk → Bool) (w : World) (h : RdW w A n l) (hn : n ≤ 100000000) (hf : ∀ v ∈ l, ∀ w', Kp No w w' → Calls Try.prog 68 #[v.val, .pointer (some ⟨bx, 0, none⟩)] w' fun e w'' => e = .returned (.bool (p v)) ∧ Kp No w' w'') :
    Calls Try.prog 86 #[.slice A n cap, .func (.func 68) #[] #[.pointer (some ⟨bx, 0, none⟩)]] w fun e w' => ∃ i : Int, e = .returned (.int .i64 i) ∧ IxR p l i ∧ Kp No w w' := by
  have HF := Lib.hid hf
  have HL := Lib.hid h.1
  have HX := Lib.hid h
  clear hf h
  go_enter Try.func86, Try.ntmps86
  go_wp2_with fail
  go_loopw [8] (fun i wr => ∃ k : Nat, k ≤ n ∧ i = .int .i64 k ∧ (∀ u ∈ l.take k, p u = false) ∧ Kp No w wr) (fun i _ => n - (intOf i).toNat)
  case atStart => exact ⟨0, by omega, rfl, by simp, Kp.refl _ _⟩
  case round =>
    obtain ⟨k, hk, rfl, hno, hkp⟩ := hrel
    have Hno := Lib.hid hno
    clear hno
    by_cases hlt : k < n
    · obtain ⟨v, hv⟩ : ∃ v, l[k]? = some v := ⟨_, List.getElem?_eq_getElem (by rw [HL.out]; exact hlt)⟩
      obtain ⟨b, o, rfl, _, c0, c1, c2, c3, c4, c5, c6, c7, c8, c9, c10⟩ := RdW.at_ (HX.out.no hkp) hv
      have Hv := Lib.hid hv
      have HC := Lib.hid (HF.out v (List.mem_of_getElem? hv) wr hkp)
      have hkn : (k : Int) < (n : Int) := by omega
      clear hv
      cases hbad : p v
      · rw [hbad] at HC
        have HB := Lib.hid hbad
        clear hbad
        go_wp2_with fail
        change Calls _ _ #[v.val, _] _ _
        with_reducible refine HC.out.mono ?_
        rintro e w' ⟨rfl, hk'⟩
        go_wp2_with fail
        go_roundw
        case rel =>
          refine ⟨k + 1, by omega, by go_num, fun u hu => ?_, hkp.tr hk'⟩
          rw [List.take_add_one, Hv.out] at hu
          rcases List.mem_append.1 hu with hu | hu
          · exact Hno.out u hu
          · simp at hu
            rw [hu]
            exact HB.out
        case measure => simp [intOf]; omega
      · rw [hbad] at HC
        have HB := Lib.hid hbad
        clear hbad
        go_wp2_with fail
        change Calls _ _ #[v.val, _] _ _
        with_reducible refine HC.out.mono ?_
        rintro e w' ⟨rfl, hk'⟩
        go_wp2_with fail
        go_ret
        exact ⟨k, rfl, .inr ⟨k, v, rfl, Hv.out, HB.out, Hno.out⟩, hkp.tr hk'⟩
    · have hno := Hno.out
      rw [List.take_of_length_le (by rw [HL.out]; omega)] at hno
      have Hno := Lib.hid hno
      clear hno
      go_wp2
      go_ret
      exact ⟨-1, rfl, .inl ⟨rfl, Hno.out⟩, hkp⟩

/-! ### DeleteFunc -/
def keepL (p : Wk → Bool) (l : List Wk) : List Wk := l.filter fun v => !p v
theorem keepL_take (p : Wk → Bool) {l : List Wk} {k : Nat} {v : Wk} (hv : l[k]? = some v) : keepL p (l.take (k + 1)) = keepL p (l.take k) ++ if p v then [] else [v] := by
  unfold keepL
  rw [List.take_add_one, hv, Option.toList_some, List.filter_append]
  cases h : p v <;> simp [h]
theorem keepL_all {p : Wk → Bool} {l : List Wk} (h : ∀ v ∈ l, p v = false) : keepL p l = l := by
  unfold keepL
  rw [List.filter_eq_self]
  intro v hv
  rw [h v hv]
  rfl
theorem drop_cons {l : List Wk} {k : Nat} {v : Wk} (hv : l[k]? = some v) : l.drop k = v :: l.drop (k + 1) := by
  obtain ⟨hk, he⟩ := List.getElem?_eq_some_iff.1 hv
  rw [← he, List.getElem_cons_drop]
theorem dl_keep {P M D : List Wk} {v : Wk} {i : Nat} (hi : P.length = i) (hM : 0 < M.length) : ∃ M', M'.length = M.length ∧ (P ++ (M ++ v :: D)).set i v = (P ++ [v]) ++ (M' ++ D) := by
  subst hi
  cases M with
  | nil => simp at hM
  | cons m M =>
    refine ⟨M ++ [v], by simp, ?_⟩
    simp
theorem dl_at {P M D : List Wk} {v : Wk} {k : Nat} (h : P.length + M.length = k) : (P ++ (M ++ v :: D))[k]? = some v := by
  subst h
  rw [List.getElem?_append_right (by omega), List.getElem?_append_right (by omega)]
  simp
theorem zero41 (w : World) : (zeroValue 41).run Try.prog w = .ok (Wk.val default) w := by kernel_rfl
theorem zero41_one : ∀ u ∈ (Builtin.zeroCells (Wk.val default).cells 1).toList, u.oneCell' = true := by
  have e : (Builtin.zeroCells (Wk.val default).cells 1).toList = (default : Wk).cells := by kernel_rfl
  rw [e]
  exact cells_oneP default
theorem zero41_size : (Wk.val default).cells.size = 11 := by kernel_rfl
set_option maxHeartbeats 4000000 in
set_option maxRecDepth 100000 in
theorem delete_w (bx base : Nat) (V : Value) (n : Nat) (l : List Wk) (p : Wk → Bool) (w : World) (h : w.ownsRow base 41 11 V n (l.flatMap Wk.cells)) (hn : n ≤ 100000000) (hf : ∀ v ∈ l, ∀ w', Kp (fun k => V.ownBlock = some k) w w' → Calls Try.prog 68 #[v.val, .pointer (some ⟨bx, 0, none⟩)] w' fun e w'' => e = .returned (.bool (p v)) ∧ Kp No w' w'') :
    Calls Try.prog 67 #[V, .func (.func 68) #[] #[.pointer (some ⟨bx, 0, none⟩)]] w fun e w' => ∃ v, e = .returned v ∧ w'.ownsRow base 41 11 v (keepL p l).length ((keepL p l).flatMap Wk.cells) ∧ Kp (fun k => V.ownBlock = some k) w w' := by
  obtain ⟨al, cl, rfl, hncl, hclm, hal⟩ := own_form h
  have hrd : RdW w al n l := Rd.of_own wk_len (by omega) h
  have HL := Lib.hid hrd.1
  have hix := index_w bx al n cl l p w hrd hn (fun v hv w' k => hf v hv w' k.of_no)
  have HF := Lib.hid hf
  have HO := Lib.hid h
  unfold maxLen at hclm
  clear hf h hrd
  go_enter Try.func67, Try.ntmps67
  go_wp2_with fail
  with_reducible refine hix.mono ?_
  rintro e w1 ⟨i0, rfl, hi0, hk1⟩
  rcases hi0 with ⟨rfl, hno⟩ | ⟨k0, v0, rfl, hv0, hp0, hno⟩
  · have HE := Lib.hid (keepL_all hno)
    clear hno hix
    go_wp2_with fail
    go_ret
    exact ⟨_, rfl, by rw [HE.out, HL.out]; exact hk1.owns HO.out (fun _ _ h => h), hk1.of_no⟩
  have hk0n : k0 < n := by rw [← HL.out]; exact (List.getElem?_eq_some_iff.1 hv0).1
  obtain ⟨g, rfl⟩ := hal (by omega)
  have HO1 := Lib.hid (hk1.owns HO.out (fun _ _ h => h))
  have hKg : ∀ (a b : World), Kp (Kq.One g) a b → Kp (fun k => (Value.slice (some (⟨g, 0, none⟩ : Addr)) n cl).ownBlock = some k) a b := fun _ _ h => h.mono fun k _ e => by have e : k = g := e; rw [e]; rfl
  have HKG := Lib.hid hKg
  have HF' := Lib.hid (fun v (hv : v ∈ l) w' (k : Kp (Kq.One g) w w') => HF.out v hv w' (hKg _ _ k))
  have HT0 := Lib.hid (keepL_take p hv0)
  have HA0 := Lib.hid (keepL_all hno)
  have HV0 := Lib.hid hv0
  have HP0 := Lib.hid hp0
  have hq1 : (((k0 : Nat) : Int) == -1) = false := by rw [beq_eq_false_iff_ne]; omega
  have hk1g : Kp (Kq.One g) w w1 := hk1.of_no
  clear hno hix hv0 hp0 hKg hal HF
  go_wp2_with fail
  go_loopw [5, 6] (fun vi vk wr => ∃ (i k : Nat) (M : List Wk), vi = .int .i64 i ∧ vk = .int .i64 k ∧ k ≤ n ∧ (keepL p (l.take k)).length = i ∧ i + M.length = k ∧ 0 < M.length ∧ wr.ownsRow base 41 11 (.slice (some ⟨g, 0, none⟩) n cl) n ((keepL p (l.take k) ++ (M ++ l.drop k)).flatMap Wk.cells) ∧ Kp (Kq.One g) w wr) (fun _ vk _ => n - (intOf vk).toNat)
  case atStart =>
    have e1 : keepL p (l.take (k0 + 1)) = l.take k0 := by rw [HT0.out, HA0.out, HP0.out]; simp
    refine ⟨k0, k0 + 1, [v0], rfl, by go_num, by omega, ?_, rfl, by simp, ?_, hk1g⟩
    · rw [e1, List.length_take, HL.out]
      omega
    · rw [e1, show [v0] ++ l.drop (k0 + 1) = l.drop k0 from (drop_cons HV0.out).symm, List.take_append_drop]
      exact HO1.out
  case round =>
    obtain ⟨i, k, M, rfl, rfl, hk, hi, hM, hM0, how, hkp⟩ := hrel
    have HI := Lib.hid hi
    have HM := Lib.hid hM
    have HOW := Lib.hid how
    have hik : i < k := by omega
    clear hi hM how HO HO1 HT0 HA0 HV0 HP0
    by_cases hlt : k < n
    · obtain ⟨v, hv⟩ : ∃ v, l[k]? = some v := ⟨_, List.getElem?_eq_getElem (by rw [HL.out]; exact hlt)⟩
      have HD := Lib.hid (drop_cons hv)
      have HT := Lib.hid (keepL_take p hv)
      rw [HD.out] at HOW
      have hat := dl_at (P := keepL p (l.take k)) (M := M) (D := l.drop (k + 1)) (v := v) (k := k) (by rw [HI.out, HM.out])
      obtain ⟨c0, c1, c2, c3, c4, c5, c6, c7, c8, c9, c10⟩ := WkAt.of (row_at wk_len HOW.out (by decide) hat)
      have hgl := (own_ge HOW.out (g := g) rfl).2
      have hkA : Kp No wr (wr.alloc (.cells v.cells.toArray 41)) := Kp.alloc _ _ _
      have HKA := Lib.hid hkA
      have HB := Lib.hid (show BoxW (wr.alloc (.cells v.cells.toArray 41)) wr.heap.size v from heap_alloc_new _ _)
      have HCEL := Lib.hid (show (.cells #[.int .i64 v.wk, .int .i64 v.num, .int .i64 v.ck, .int .i64 v.kd, .int .i64 v.rk, .int .i64 v.nt, .int .i64 v.fd, .int .i64 v.vl, .int .i64 v.ow, .int .i64 v.on, .string v.tx] 41 : Obj) = .cells v.cells.toArray 41 from rfl)
      have HC := Lib.hid (HF'.out v (List.mem_of_getElem? hv) _ (hkp.no hkA))
      have hkn : (k : Int) < (n : Int) := by omega
      clear hv hat hkA
      cases hp : p v
      · rw [hp] at HC
        have HP := Lib.hid hp
        clear hp
        go_wp2_with fail
        rw [HCEL.out]
        change Calls _ _ #[v.val, _] _ _
        with_reducible refine HC.out.mono ?_
        rintro e w3 ⟨rfl, hk3⟩
        have HR3 := Lib.hid ((HKA.out.tr hk3).owns HOW.out fun _ _ h => h)
        have HK3 := Lib.hid (hkp.no (HKA.out.tr hk3))
        obtain ⟨t0, t1, t2, t3, t4, t5, t6, t7, t8, t9, t10⟩ := (HB.out.kp hk3 id).at_
        obtain ⟨bq, hbq⟩ : ∃ bq, bq = wr.heap.size := ⟨_, rfl⟩
        rw [← hbq] at t0 t1 t2 t3 t4 t5 t6 t7 t8 t9 t10 ⊢
        simp only [Nat.zero_add] at t1 t2 t3 t4 t5 t6 t7 t8 t9 t10
        have hlen := HR3.out.1
        have hold : ∃ u : Wk, (keepL p (l.take k) ++ (M ++ v :: l.drop (k + 1)))[i]? = some u := ⟨_, List.getElem?_eq_getElem (by rw [List.length_append, HI.out, List.length_append]; omega)⟩
        obtain ⟨u, hu⟩ := hold
        obtain ⟨y0, y1, y2, y3, y4, y5, y6, y7, y8, y9, y10⟩ := WkAt.of (row_at wk_len HR3.out (by decide) hu)
        have fz := own_free HR3.out
        have f0 := fz (i * 11)
        have f1 := fz (i * 11 + 1)
        have f2 := fz (i * 11 + 2)
        have f3 := fz (i * 11 + 3)
        have f4 := fz (i * 11 + 4)
        have f5 := fz (i * 11 + 5)
        have f6 := fz (i * 11 + 6)
        have f7 := fz (i * 11 + 7)
        have f8 := fz (i * 11 + 8)
        have f9 := fz (i * 11 + 9)
        have f10 := fz (i * 11 + 10)
        have hin : (i : Int) < (n : Int) := by omega
        have HSET := Lib.hid (own_putAt v.cells (i * 11) HR3.out)
        have HKS := Lib.hid (HK3.out.tr (kp_putAt g v.cells w3 (i * 11)))
        rw [setAll_flat wk_len hu] at HSET
        obtain ⟨M', hM', hset⟩ := dl_keep (P := keepL p (l.take k)) (M := M) (D := l.drop (k + 1)) (v := v) HI.out hM0
        rw [hset] at HSET
        have HM' := Lib.hid hM'
        clear hlen hu fz hset hM' c0 c1 c2 c3 c4 c5 c6 c7 c8 c9 c10 hk3 hbq HB HCEL
        go_wp2_with fail
        go_roundw
        case rel =>
          refine ⟨i + 1, k + 1, M', by go_num, by go_num, by omega, ?_, ?_, ?_, ?_, HKS.out⟩
          · rw [HT.out, HP.out, List.length_append, HI.out]
            rfl
          · have := HM.out
            rw [HM'.out]
            omega
          · rw [HM'.out]
            exact hM0
          · rw [HT.out, HP.out]
            exact HSET.out
        case measure => simp [intOf]; omega
      · rw [hp] at HC
        have HP := Lib.hid hp
        clear hp
        go_wp2_with fail
        rw [HCEL.out]
        change Calls _ _ #[v.val, _] _ _
        with_reducible refine HC.out.mono ?_
        rintro e w3 ⟨rfl, hk3⟩
        have HR3 := Lib.hid ((HKA.out.tr hk3).owns HOW.out fun _ _ h => h)
        have HK3 := Lib.hid (hkp.no (HKA.out.tr hk3))
        clear c0 c1 c2 c3 c4 c5 c6 c7 c8 c9 c10 hk3 HB HCEL
        go_wp2_with fail
        go_roundw
        case rel =>
          refine ⟨i, k + 1, M ++ [v], rfl, by go_num, by omega, ?_, ?_, ?_, ?_, HK3.out⟩
          · rw [HT.out, HP.out]
            simpa using HI.out
          · have := HM.out
            rw [List.length_append, List.length_singleton]
            omega
          · rw [List.length_append, List.length_singleton]
            omega
          · rw [HT.out, HP.out]
            have h := HR3.out
            rw [show keepL p (l.take k) ++ (M ++ v :: l.drop (k + 1)) = keepL p (l.take k) ++ (if true then [] else [v]) ++ (M ++ [v] ++ l.drop (k + 1)) by simp] at h
            exact h
        case measure => simp [intOf]; omega
    · obtain rfl : k = n := by omega
      have hle : (keepL p (l.take k) ++ (M ++ l.drop k)).length = k := own_count wk_len HOW.out (by decide)
      have hcl := fun ty => run_clear_k (P := Try.prog) wr 22 41 ty (Wk.val default) Try.underlying22 zero41 zero41_one g (i * 11) (k - i) (cl - i) (by omega)
        (fun j hj => by
          rw [zero41_size] at hj
          have hlt : i * 11 + j < ((keepL p (l.take k) ++ (M ++ l.drop k)).flatMap Wk.cells).length := by
            rw [flat_len wk_len, hle, show k = i + (k - i) by omega, Nat.add_mul]
            omega
          rw [own_cell HOW.out (List.getElem?_eq_getElem hlt)]
          rfl)
        (fun j _ => own_free HOW.out _)
      have HRES := Lib.hid (own_cut (own_putAt (Builtin.zeroCells (Wk.val default).cells (k - i)).toList (i * 11) HOW.out) (by omega : i ≤ k))
      rw [setAll_take _ _ _ _ (Nat.le_refl _), flat_take wk_len, List.take_append_of_le_length (by rw [HI.out]; exact Nat.le_refl _), List.take_of_length_le (l := keepL p (l.take k)) (by rw [HI.out]; exact Nat.le_refl _)] at HRES
      have HKR := Lib.hid (hkp.tr (kp_putAt g (Builtin.zeroCells (Wk.val default).cells (k - i)).toList wr (i * 11)))
      rw [List.take_of_length_le (l := l) (by rw [HL.out]; omega)] at HRES HI
      generalize (Builtin.zeroCells (Wk.val default).cells (k - i)).toList = zs at hcl HRES HKR
      have hq2 : cl ≠ i := by omega
      have hic : (i : Int) ≤ (cl : Int) := by omega
      clear hle
      go_wp2_with fail
      go_ret
      refine ⟨_, rfl, by rw [HI.out]; exact HRES.out, HKG.out _ _ HKR.out⟩
end Go.Proofs.Ytjbpdimepckmfaa
