/- Chapter 15: Contains; the sets of chests and their capacities: plain. -/
import Derived.Test.YtpkbpeeelpgmcaaGreatXOpUM
import Derived.Test.YtpkbpeeelpgmcaaGreatXNwBitM
namespace Go.Proofs.YtpkbpeeelpgmcaaGreat
open Go.RowKit Go.Kq Go.Flow

set_option maxHeartbeats 2000000 in
theorem ixN_any (A : Option Addr) (n c : Nat) (xs : List Int) (x : Int) (w : World) (hR : RdI .i64 w A n xs) (hn : n ≤ 100000) :
    Calls Tryz.prog 70 #[.slice A n c, .int .i64 x] w fun e w' => e = .returned (.int .i64 (ixI (fun y => decide (y = x)) xs)) ∧ w' = w := by
  have HR := Lib.hid hR
  have HL := Lib.hid hR.1
  clear hR
  go_enter Tryz.func70, Tryz.ntmps70
  go_wp2_with fail
  go_loop [8] (fun i => ∃ k : Nat, k ≤ n ∧ i = .int .i64 (k : Nat) ∧ (xs.take k).any (fun y => decide (y = x)) = false) (fun i => n - (intOf i).toNat)
  case atStart => exact ⟨0, by omega, rfl, rfl⟩
  case round =>
    obtain ⟨k, hk, rfl, hno⟩ := hrel
    have HN := Lib.hid hno
    clear hno
    by_cases hlt : k < n
    · obtain ⟨y, hy⟩ : ∃ y, xs[k]? = some y := ⟨_, List.getElem?_eq_getElem (by rw [HL.out]; exact hlt)⟩
      obtain ⟨b, o, rfl, hb, hc⟩ := HR.out.2 k y hy
      have HT := Lib.hid (any_take_one (fun y => decide (y = x)) xs k y hy)
      have HY := Lib.hid hy
      clear hy
      by_cases he : x = y
      · have d1 : (x == y) = true := by simp [he]
        have HE := Lib.hid (ixI_at (p := fun y => decide (y = x)) HN.out HY.out (by simp [he]))
        clear he
        go_wp2_with fail
        go_ret
        exact ⟨by rw [HE.out]; rfl, rfl⟩
      · have d1 : (x == y) = false := by simp [he]
        have HF := Lib.hid (show decide (y = x) = false by simp; exact fun e => he e.symm)
        clear he
        go_wp2_with fail
        go_round
        case rel => exact ⟨k + 1, by omega, by go_num, by rw [HT.out, HN.out, HF.out]; rfl⟩
        case measure => simp [intOf]; omega
    · obtain rfl : k = n := by omega
      have HE := Lib.hid (show ixI (fun y => decide (y = x)) xs = -1 from ixI_none (by
        have h := HN.out
        rwa [List.take_of_length_le (by rw [HL.out]; exact Nat.le_refl _)] at h))
      go_wp2_with fail
      go_ret
      exact ⟨by rw [HE.out]; rfl, rfl⟩
theorem hasN_any (A : Option Addr) (n c : Nat) (xs : List Int) (x : Int) (w : World) (hR : RdI .i64 w A n xs) (hn : n ≤ 100000) :
    Calls Tryz.prog 47 #[.slice A n c, .int .i64 x] w fun e w' => e = .returned (.bool (decide (x ∈ xs))) ∧ w' = w := by
  have HI := Lib.hid (ixN_any A n c xs x w hR hn)
  have HA := Lib.hid (show decide (0 ≤ ixI (fun y => decide (y = x)) xs) = decide (x ∈ xs) by
    rw [ixI_any, Bool.eq_iff_iff, List.any_eq_true, decide_eq_true_eq]
    exact ⟨fun ⟨y, hy, h⟩ => by rw [decide_eq_true_eq] at h; exact h ▸ hy, fun h => ⟨x, h, by simp⟩⟩)
  clear hR
  generalize ixI (fun y => decide (y = x)) xs = i at HI HA
  go_enter Tryz.func47, Tryz.ntmps47
  go_wp2_with fail
  with_reducible refine HI.out.mono ?_
  rintro e w1 ⟨rfl, hw⟩
  subst hw
  go_wp2_with fail
  go_ret
  exact ⟨ret_bool HA.out, rfl⟩
/-! ## Which chests are used; the sets of them -/
def useF (u : List Nat) (s : Sto) : List Nat := if s.ch.toNat ∈ u then u else u ++ [s.ch.toNat]
def useL (l : List Sto) : List Nat := l.foldl useF []
theorem useF_mem (u : List Nat) (s : Sto) (x : Nat) : x ∈ useF u s ↔ x ∈ u ∨ x = s.ch.toNat := by
  unfold useF
  split
  · rename_i h
    exact ⟨.inl, fun h2 => h2.elim id (fun e => e ▸ h)⟩
  · simp
theorem use_fold_mem (x : Nat) : ∀ (l : List Sto) (u : List Nat), x ∈ l.foldl useF u ↔ x ∈ u ∨ ∃ s ∈ l, x = s.ch.toNat
  | [], u => by simp
  | s :: l, u => by
    rw [List.foldl_cons, use_fold_mem x l, useF_mem]
    constructor
    · rintro ((h | h) | ⟨t, ht, h⟩)
      · exact .inl h
      · exact .inr ⟨s, by simp, h⟩
      · exact .inr ⟨t, by simp [ht], h⟩
    · rintro (h | ⟨t, ht, h⟩)
      · exact .inl (.inl h)
      · rcases List.mem_cons.1 ht with rfl | ht
        · exact .inl (.inr h)
        · exact .inr ⟨t, ht, h⟩
theorem useL_mem {l : List Sto} {x : Nat} : x ∈ useL l ↔ ∃ s ∈ l, x = s.ch.toNat := by
  unfold useL
  rw [use_fold_mem]
  simp
theorem use_nodup : ∀ (l : List Sto) (u : List Nat), u.Nodup → (l.foldl useF u).Nodup
  | [], u, h => h
  | s :: l, u, h => by
    rw [List.foldl_cons]
    refine use_nodup l _ ?_
    unfold useF
    split
    · exact h
    · rename_i hn
      exact List.nodup_append.2 ⟨h, List.nodup_cons.2 ⟨by simp, List.nodup_nil⟩, fun a ha b hb => by
        rw [List.mem_singleton.1 hb]
        exact fun e => hn (e ▸ ha)⟩
theorem use_len : ∀ (l : List Sto) (u : List Nat), (l.foldl useF u).length ≤ u.length + l.length
  | [], u => by simp
  | s :: l, u => by
    have := use_len l (useF u s)
    have h2 : (useF u s).length ≤ u.length + 1 := by unfold useF; split <;> simp
    simp only [List.foldl_cons, List.length_cons]
    omega
theorem use_take (l : List Sto) (k : Nat) (s : Sto) (h : l[k]? = some s) : useL (l.take (k + 1)) = useF (useL (l.take k)) s := by
  unfold useL
  rw [List.take_add_one, h, Option.toList_some, List.foldl_append]
  rfl
/-- .. in order. -/
def useS (l : List Sto) : List Nat := (useL l).mergeSort fun x y => decide (x ≤ y)
theorem useS_perm (l : List Sto) : (useS l).Perm (useL l) := List.mergeSort_perm _ _
theorem useS_up (l : List Sto) : (useS l).Pairwise (· < ·) := by
  have h1 : (useS l).Pairwise fun a b => decide (a ≤ b) = true := List.pairwise_mergeSort (fun a b c h1 h2 => by simp only [decide_eq_true_eq] at *; omega) (fun a b => by simp only [Bool.or_eq_true, decide_eq_true_eq]; omega) _
  have h2 : (useS l).Nodup := (useS_perm l).nodup_iff.2 (use_nodup l [] List.nodup_nil)
  exact (h1.and h2).imp fun {a b} h => by
    have h3 : a ≤ b := by simpa using h.1
    have h4 : a ≠ b := h.2
    omega
theorem useS_mem {l : List Sto} {x : Nat} : x ∈ useS l ↔ ∃ s ∈ l, x = s.ch.toNat := ((useS_perm l).mem_iff).trans useL_mem
theorem useS_len (l : List Sto) : (useS l).length ≤ l.length := by
  rw [(useS_perm l).length_eq]
  have h := use_len l []
  unfold useL
  simp only [List.length_nil, Nat.zero_add] at h
  exact h
/-- As whole numbers sorted. -/
theorem sort_nat (u : List Nat) : ((u.map Int.ofNat).mergeSort fun x y => decide (x ≤ y)) = (u.mergeSort fun x y => decide (x ≤ y)).map Int.ofNat := by
  have h1 : ((u.map Int.ofNat).mergeSort fun x y => decide (x ≤ y)).Pairwise (· ≤ ·) := by
    refine List.Pairwise.imp (fun {a b} h => by simpa using h) (List.pairwise_mergeSort (fun a b c h1 h2 => by simp only [decide_eq_true_eq] at *; omega) (fun a b => by simp only [Bool.or_eq_true, decide_eq_true_eq]; omega) _)
  have h2 : ((u.mergeSort fun x y => decide (x ≤ y)).map Int.ofNat).Pairwise (· ≤ ·) := by
    refine List.pairwise_map.2 (List.Pairwise.imp (fun {a b} h => ?_) (List.pairwise_mergeSort (le := fun x y : Nat => decide (x ≤ y)) (fun a b c h1 h2 => by simp only [decide_eq_true_eq] at *; omega) (fun a b => by simp only [Bool.or_eq_true, decide_eq_true_eq]; omega) _))
    have : a ≤ b := by simpa using h
    simp
    omega
  exact List.Perm.eq_of_pairwise (fun a b _ _ h1 h2 => by omega) h1 h2 ((List.mergeSort_perm _ _).trans ((List.mergeSort_perm u _).map _).symm)
/-- Those of the first j used chests whose bits are set. -/
def pickT (u : List Nat) (t j : Nat) : List Nat := ((List.range j).filter fun i => t.testBit i).map fun i => u.getD i 0
def pickU (u : List Nat) (t : Nat) : List Nat := pickT u t u.length
theorem pickT_zero (u : List Nat) (t : Nat) : pickT u t 0 = [] := rfl
theorem pickT_succ (u : List Nat) (t j c : Nat) (h : u[j]? = some c) : pickT u t (j + 1) = pickT u t j ++ if t.testBit j then [c] else [] := by
  unfold pickT
  rw [List.range_succ, List.filter_append, List.map_append]
  congr 1
  cases hb : t.testBit j <;> simp [hb, List.getD_eq_getElem?_getD, h]
theorem pickT_mem {u : List Nat} {t j x : Nat} (hj : j ≤ u.length) (h : x ∈ pickT u t j) : x ∈ u := by
  obtain ⟨i, hi, rfl⟩ := List.mem_map.1 h
  have := List.mem_range.1 (List.mem_filter.1 hi).1
  rw [List.getD_eq_getElem?_getD, List.getElem?_eq_getElem (show i < u.length by omega)]
  exact List.getElem_mem _
theorem pickU_filter {u : List Nat} (p : Nat → Bool) : pickU u (bitsOf (fun i => p (u.getD i 0)) u.length) = u.filter p := by
  have key : ∀ j, j ≤ u.length → pickT u (bitsOf (fun i => p (u.getD i 0)) u.length) j = (u.take j).filter p := by
    intro j
    induction j with
    | zero => intro _; simp [pickT]
    | succ j ih =>
      intro hj
      obtain ⟨c, hc⟩ : ∃ c, u[j]? = some c := ⟨_, List.getElem?_eq_getElem (by omega)⟩
      rw [pickT_succ _ _ _ c hc, ih (by omega), bitsOf_bit, List.take_add_one, hc, Option.toList_some, List.filter_append]
      congr 1
      have e : u.getD j 0 = c := by rw [List.getD_eq_getElem?_getD, hc]; rfl
      rw [e]
      cases hp : p c <;> simp [hp]
      omega
  have h := key u.length (Nat.le_refl _)
  rw [List.take_of_length_le (Nat.le_refl _)] at h
  exact h
theorem pickT_up {u : List Nat} (hu : u.Pairwise (· < ·)) (t : Nat) : ∀ j, j ≤ u.length → (pickT u t j).Pairwise (· < ·) ∧ ∀ x ∈ pickT u t j, ∀ i c, j ≤ i → u[i]? = some c → x < c := by
  intro j hj
  refine ⟨?_, fun x hx i c hi hc => ?_⟩
  · refine List.pairwise_map.2 (List.Pairwise.imp_of_mem (fun {a b} ha hb h => ?_) (List.Pairwise.filter _ List.pairwise_lt_range))
    have h1 := List.mem_range.1 (List.mem_filter.1 ha).1
    have h2 := List.mem_range.1 (List.mem_filter.1 hb).1
    have h3 := List.pairwise_iff_getElem.1 hu a b (by omega) (by omega) h
    rw [List.getD_eq_getElem?_getD, List.getElem?_eq_getElem (by omega), List.getD_eq_getElem?_getD, List.getElem?_eq_getElem (by omega)]
    exact h3
  · obtain ⟨a, ha, rfl⟩ := List.mem_map.1 hx
    have h1 := List.mem_range.1 (List.mem_filter.1 ha).1
    obtain ⟨hil, hic⟩ := List.getElem?_eq_some_iff.1 hc
    have h3 := List.pairwise_iff_getElem.1 hu a i (by omega) hil (by omega)
    rw [List.getD_eq_getElem?_getD, List.getElem?_eq_getElem (show a < u.length by omega)]
    rw [hic] at h3
    exact h3
/-- The array of a set of chests. -/
def maskL (S : List Nat) : List Bool := (List.range 16).map fun i => decide (i ∈ S)
theorem maskL_len (S : List Nat) : (maskL S).length = 16 := by simp [maskL]
def maskK (S : List Nat) : Bls 16 := ⟨maskL S, maskL_len S⟩
theorem maskL_nil : maskL [] = List.replicate 16 false := by decide
theorem maskL_put (S : List Nat) (c : Nat) : (maskL S).set c true = maskL (S ++ [c]) := by
  refine List.ext_getElem (by simp [maskL]) fun i h1 h2 => ?_
  have hi : i < 16 := by simpa [maskL] using h2
  rw [List.getElem_set]
  unfold maskL
  simp only [List.getElem_map, List.getElem_range, List.mem_append, List.mem_singleton]
  split
  · rename_i e; simp [e]
  · rename_i e
    have : ¬ i = c := fun h => e h.symm
    simp [this]
theorem atB_mask (S : List Nat) (i : Nat) (h : i < 16) : atB (maskL S) i = decide (i ∈ S) := by
  unfold atB maskL
  simp [List.getD_eq_getElem?_getD, h]
/-- A map of the capacities of the sets of chests, the first ones. -/
structure CapOf (N : Net) (u : List Nat) (n : Nat) (E : List (Bls 16 × Int)) : Prop where
  sound : ∀ k v, (k, v) ∈ E → ∃ t, t < 2 ^ u.length ∧ k = maskK (pickU u t) ∧ Gr (subN N (pickU u t)) false v
  all : ∀ t, t < n → ∃ v, (maskK (pickU u t), v) ∈ E
theorem ins_mem {κ ν : Type} [DecidableEq κ] {k k' : κ} {v v' : ν} : ∀ {E : List (κ × ν)}, (k', v') ∈ ins k v E → (k' = k ∧ v' = v) ∨ (k', v') ∈ E
  | [], h => by
    simp [ins] at h
    exact .inl h
  | p :: E, h => by
    unfold ins at h
    split at h
    · rcases List.mem_cons.1 h with h | h
      · injection h with h1 h2
        exact .inl ⟨h1, h2⟩
      · exact .inr (List.mem_cons_of_mem _ h)
    · rcases List.mem_cons.1 h with h | h
      · exact .inr (by rw [h]; simp)
      · rcases ins_mem h with h | h
        · exact .inl h
        · exact .inr (List.mem_cons_of_mem _ h)
theorem get1_in {κ ν : Type} [DecidableEq κ] {k : κ} {v : ν} : ∀ {E : List (κ × ν)}, get1 E k = some v → (k, v) ∈ E
  | [], h => by simp [get1_nil] at h
  | p :: E, h => by
    rw [get1_cons] at h
    split at h
    · rename_i e
      injection h with h
      obtain ⟨a, b⟩ := p
      dsimp only at e h
      rw [← e, ← h]
      simp
    · exact List.mem_cons_of_mem _ (get1_in h)
theorem mem_get1 {κ ν : Type} [DecidableEq κ] {k : κ} {v : ν} : ∀ {E : List (κ × ν)}, (k, v) ∈ E → ∃ u, get1 E k = some u
  | [], h => by simp at h
  | p :: E, h => by
    rw [get1_cons]
    split
    · exact ⟨_, rfl⟩
    · rename_i e
      rcases List.mem_cons.1 h with h | h
      · rw [← h] at e; exact absurd rfl e
      · exact mem_get1 h
theorem CapOf.zero (N : Net) (u : List Nat) : CapOf N u 0 [] := ⟨fun k v h => by simp at h, fun t h => by omega⟩
theorem CapOf.put {N : Net} {u : List Nat} {n : Nat} {E : List (Bls 16 × Int)} (h : CapOf N u n E) (hn : n < 2 ^ u.length) {v : Int} (hv : Gr (subN N (pickU u n)) false v) : CapOf N u (n + 1) (ins (maskK (pickU u n)) v E) := by
  refine ⟨fun k x hk => ?_, fun t ht => ?_⟩
  · rcases ins_mem hk with ⟨rfl, rfl⟩ | hk
    · exact ⟨n, hn, rfl, hv⟩
    · exact h.sound k x hk
  · by_cases e : maskK (pickU u n) = maskK (pickU u t)
    · exact ⟨v, get1_in (by rw [get1_ins, if_pos e])⟩
    · have : t < n := by
        by_cases et : t = n
        · subst et; exact absurd rfl e
        · omega
      obtain ⟨x, hx⟩ := h.all t this
      obtain ⟨y, hy⟩ := mem_get1 hx
      exact ⟨y, get1_in (by rw [get1_ins, if_neg e]; exact hy)⟩
theorem sumM_congr : ∀ (ds : List Int) (c c' : Nat → Bool), (∀ i, i < ds.length → c i = c' i) → sumM c ds = sumM c' ds
  | [], _, _, _ => rfl
  | d :: ds, c, c', h => by
    simp only [sumM]
    rw [h 0 (by simp), sumM_congr ds (fun i => c (i + 1)) (fun i => c' (i + 1)) fun i hi => h (i + 1) (by simpa using hi)]
theorem mask_inj {u : List Nat} (hu : u.Pairwise (· < ·)) (h16 : ∀ x ∈ u, x < 16) {t t' : Nat} (h : maskK (pickU u t) = maskK (pickU u t')) : pickU u t = pickU u t' := by
  have h1 : maskL (pickU u t) = maskL (pickU u t') := congrArg Subtype.val h
  refine up_ext (pickT_up hu t _ (Nat.le_refl _)).1 (pickT_up hu t' _ (Nat.le_refl _)).1 fun x => ?_
  constructor
  · intro hx
    have h16x := h16 x (pickT_mem (Nat.le_refl _) hx)
    have h2 := atB_mask (pickU u t) x h16x
    rw [h1, atB_mask _ _ h16x] at h2
    have h3 : decide (x ∈ pickU u t) = true := by simpa using hx
    rw [h3] at h2
    simpa using h2
  · intro hx
    have h16x := h16 x (pickT_mem (Nat.le_refl _) hx)
    have h2 := atB_mask (pickU u t) x h16x
    rw [h1, atB_mask _ _ h16x] at h2
    have h3 : decide (x ∈ pickU u t') = true := by simpa using hx
    rw [h3] at h2
    simpa using h2.symm
open Classical in
/-- What the program asks of its map is whether the demands can be given. -/
theorem stv_map {N : Net} {u : List Nat} {E : List (Bls 16 × Int)} (hE : CapOf N u (2 ^ u.length) E) (hup : u.Pairwise (· < ·)) (hu16 : ∀ x ∈ u, x < 16) {ds : List Int} (h16 : ds.length ≤ 16) (hl : ds.length = N.ch.length) (h0 : ∀ d ∈ ds, 0 ≤ d) (hu : ∀ c, c < ds.length → c ∉ u → ds.getD c 0 = 0) :
    mapStv E ds = true ↔ Stv N ds := by
  have hsum : ∀ S, sumM (atB (maskL S)) ds = sumM (fun i => decide (i ∈ S)) ds := fun S => sumM_congr ds _ _ fun i hi => atB_mask S i (by omega)
  have hval : ∀ t, t < 2 ^ u.length → ∃ v, (maskK (pickU u t), v) ∈ E ∧ Gr (subN N (pickU u t)) false v := fun t ht => by
    obtain ⟨v, hv⟩ := hE.all t ht
    obtain ⟨t', _, e1, e2⟩ := hE.sound _ _ hv
    rw [← mask_inj hup hu16 e1] at e2
    exact ⟨v, hv, e2⟩
  have hcap : ∀ S ∈ (List.range (2 ^ u.length)).map (pickU u), ∃ R, Min (subN N S).A1 ((subN N S).out false) R ∧ (subN N S).out false R = (if h : ∃ d, Gr (subN N S) false d then h.choose else 0) := fun S hS => by
    obtain ⟨t, ht, rfl⟩ := List.mem_map.1 hS
    obtain ⟨v, _, hv⟩ := hval t (List.mem_range.1 ht)
    have hex : ∃ d, Gr (subN N (pickU u t)) false d := ⟨v, hv⟩
    rw [dif_pos hex]
    exact hex.choose_spec
  have key := stv_iff (N := N) (ds := ds) hl h0 u hu (fun S => if h : ∃ d, Gr (subN N S) false d then h.choose else 0) ((List.range (2 ^ u.length)).map (pickU u)) hcap (fun p => List.mem_map.2 ⟨_, List.mem_range.2 (bitsOf_lt _ _), pickU_filter p⟩)
  rw [key]
  unfold mapStv
  rw [List.any_eq_true]
  constructor
  · rintro ⟨⟨k, v⟩, hm, hlt⟩
    obtain ⟨t, ht, rfl, hg⟩ := hE.sound _ _ hm
    refine ⟨pickU u t, List.mem_map.2 ⟨t, List.mem_range.2 ht, rfl⟩, ?_⟩
    have hex : ∃ d, Gr (subN N (pickU u t)) false d := ⟨v, hg⟩
    simp only [dif_pos hex]
    rw [hex.choose_spec.uniq hg, ← hsum]
    exact of_decide_eq_true hlt
  · rintro ⟨S, hS, hlt⟩
    obtain ⟨t, ht, rfl⟩ := List.mem_map.1 hS
    obtain ⟨v, hv, hg⟩ := hval t (List.mem_range.1 ht)
    refine ⟨_, hv, ?_⟩
    have hex : ∃ d, Gr (subN N (pickU u t)) false d := ⟨v, hg⟩
    simp only [dif_pos hex] at hlt
    rw [hex.choose_spec.uniq hg, ← hsum] at hlt
    exact decide_eq_true hlt
/-- Some of the chests of a network. -/
theorem sub_ok {N : Net} (hN : N.Ok) {S : List Nat} (hS : S.Pairwise (· < ·)) (hb : ∀ x ∈ S, x < N.ch.length) : (subN N S).Ok := by
  have hg : ∀ x ∈ S, ∃ c, N.ch[x]? = some c ∧ N.ch.getD x 0 = c := fun x hx => by
    obtain ⟨c, hc⟩ : ∃ c, N.ch[x]? = some c := ⟨_, List.getElem?_eq_getElem (hb x hx)⟩
    exact ⟨c, hc, by rw [List.getD_eq_getElem?_getD, hc]; rfl⟩
  refine ⟨hN.n1, hN.n2, hN.t1, ?_, hN.tk, fun c hc => ?_, ?_⟩
  · show (S.map _).length ≤ 16
    rw [List.length_map]
    have := up_len hS hb
    have := hN.c1
    omega
  · obtain ⟨x, hx, rfl⟩ := List.mem_map.1 hc
    obtain ⟨c, h1, h2⟩ := hg x hx
    rw [h2]
    exact hN.ck c (List.mem_of_getElem? h1)
  · refine List.pairwise_map.2 (List.Pairwise.imp_of_mem (fun {a b} ha hb' h => ?_) hS)
    obtain ⟨c, h1, h2⟩ := hg a ha
    obtain ⟨d, h3, h4⟩ := hg b hb'
    rw [h2, h4]
    obtain ⟨i1, e1⟩ := List.getElem?_eq_some_iff.1 h1
    obtain ⟨i2, e2⟩ := List.getElem?_eq_some_iff.1 h3
    rw [← e1, ← e2]
    exact List.pairwise_iff_getElem.1 hN.asc a b i1 i2 h
end Go.Proofs.YtpkbpeeelpgmcaaGreat
