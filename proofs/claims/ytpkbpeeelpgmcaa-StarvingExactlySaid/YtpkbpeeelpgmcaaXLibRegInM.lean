/- Chapter 15: whether demands starve a system: the method starves, over the map of capacities. · LibReg's rule inside the round of a loop over an iterator. No program in sight. -/
import Derived.OrdersIn
import Derived.RangeFuncCalls
import Derived.TacticsIn
import Derived.OwnWalkIn
import Derived.Test.YtpkbpeeelpgmcaaXOpUM
import Derived.Test.YtpkbpeeelpgmcaaXLibArrKeyM
import Derived.Test.YtpkbpeeelpgmcaaXLibReg
import Derived.Test.YtpkbpeeelpgmcaaXLibHxM
namespace Go.Proofs.Ytpkbpeeelpgmcaa
open Go.RowKit Go.Kq Go.Flow

theorem keyB : KeyOk Try.prog 88 (ekB (n := 16)) := arrKey_ok Try.underlying88 Try.underlying4 Try.sizeOf4 Try.isAgg4
theorem len16 {l : List Bool} (h : l.length = 16) : ∃ b0 b1 b2 b3 b4 b5 b6 b7 b8 b9 b10 b11 b12 b13 b14 b15, l = [b0, b1, b2, b3, b4, b5, b6, b7, b8, b9, b10, b11, b12, b13, b14, b15] := by
  match l, h with
  | [b0, b1, b2, b3, b4, b5, b6, b7, b8, b9, b10, b11, b12, b13, b14, b15], _ => exact ⟨b0, b1, b2, b3, b4, b5, b6, b7, b8, b9, b10, b11, b12, b13, b14, b15, rfl⟩
theorem nodup_len {α : Type} [DecidableEq α] : ∀ {a b : List α}, a.Nodup → (∀ x ∈ a, x ∈ b) → a.length ≤ b.length
  | [], _, _, _ => Nat.zero_le _
  | x :: a, b, hn, hs => by
    have hx : x ∈ b := hs x (by simp)
    have hn2 := List.nodup_cons.1 hn
    have h1 := nodup_len (a := a) (b := b.erase x) hn2.2 fun y hy => (List.mem_erase_of_ne (fun e => hn2.1 (by rw [← e]; exact hy))).2 (hs y (by simp [hy]))
    rw [List.length_erase_of_mem hx] at h1
    have := List.length_pos_of_mem hx
    simp only [List.length_cons]
    omega
def atB (l : List Bool) (i : Nat) : Bool := l.getD i false
/-- Are the demands of some set of chests more than its capacity? -/
def mapStv (E : List (Bls 16 × Int)) (ds : List Int) : Bool := E.any fun p => decide (p.2 < sumM (atB p.1.1) ds)
theorem sumM_take : ∀ (c : Nat → Bool) (ds : List Int) (k : Nat) (d : Int), ds[k]? = some d → sumM c (ds.take (k + 1)) = sumM c (ds.take k) + if c k then d else 0
  | _, [], _, _, h => by simp at h
  | c, x :: ds, 0, d, h => by
    simp at h
    subst h
    simp [sumM]
  | c, x :: ds, k + 1, d, h => by
    have ih := sumM_take (fun i => c (i + 1)) ds k d (by simpa using h)
    simp only [List.take_succ_cons, sumM, ih]
    omega
theorem sumM_bd : ∀ (c : Nat → Bool) (ds : List Int), (∀ d ∈ ds, 0 ≤ d ∧ d ≤ 1000000000000) → 0 ≤ sumM c ds ∧ sumM c ds ≤ 1000000000000 * ds.length
  | _, [], _ => by simp [sumM]
  | c, x :: ds, h => by
    have ih := sumM_bd (fun i => c (i + 1)) ds fun d hd => h d (by simp [hd])
    have hx := h x (by simp)
    simp only [sumM, List.length_cons]
    have : (1000000000000 : Int) * ((ds.length + 1 : Nat) : Int) = 1000000000000 * ds.length + 1000000000000 := by omega
    split <;> omega
set_option maxHeartbeats 4000000 in
set_option maxRecDepth 100000 in
theorem sstarves_any (B m : Nat) (E : List (Bls 16 × Int)) (A : Option Addr) (n dc : Nat) (ds : List Int) (w : World) (hB : w.cell? ⟨B, 4, none⟩ = some (.map (some m))) (hm : MapAt w m ekB (Value.int .i64) E) (hD : RdI .i64 w A n ds) (hn : n ≤ 16) (hd : ∀ d ∈ ds, 0 ≤ d ∧ d ≤ 1000000000000) :
    Calls Try.prog 28 #[.pointer (some ⟨B, 0, none⟩), .slice A n dc] w fun e w' => e = .returned (.bool (mapStv E ds)) ∧ Kp No w w' := by
  have hmb := hm.lt
  have hnd := hm.nodup
  have HD := Lib.hid hD
  have HL := Lib.hid hD.1
  have HBD := Lib.hid (fun (c : Nat → Bool) (k : Nat) => sumM_bd c (ds.take k) fun d h => hd d (List.mem_of_mem_take h))
  clear hD hd
  go_enter Try.func28, Try.ntmps28
  go_wp2_with (at_range; refine wpL_range _ rfl _ _ rfl Try.underlying82 hm rfl ?_; intro w1 hr1 hg1 hs1)
  go_frame
  have hk1 : Kp No w w1 := Kp.grown_none hg1
  obtain ⟨r, hr⟩ : ∃ r, r = w.heap.size := ⟨_, rfl⟩
  rw [← hr] at hr1 ⊢
  have HR := Lib.hid hr
  have HS1 := Lib.hid hs1
  clear hm hg1 hr hs1
  go_loopg [4] E.length (fun g s wr => ∃ S : List (Bls 16), S.length + g = E.length ∧ s = .bool false ∧ RangeAt wr m r ekB (Value.int .i64) E S ∧ (∀ k ∈ S, ∀ v, (k, v) ∈ E → ¬ v < sumM (atB k.1) ds) ∧ Kp No w wr)
  case atStart => exact ⟨[], by simp, rfl, hr1, fun k hk => (by cases hk), hk1⟩
  case round =>
    obtain ⟨S, hSg, rfl, hrg, hno, hkp⟩ := hrel
    have HN := Lib.hid hno
    have HKP := Lib.hid hkp
    have HRG := Lib.hid hrg
    clear hr1 hk1 hno
    go_wp2_with (at_next; refine stop_in ?_)
    refine stop_out ?_
    refine wpL_next _ rfl _ rfl keyB hrg rfl (fun hall => ?_) (fun k v w2 hmem hnS hrng hgr hsz hen => ?_)
    · have HA := Lib.hid hall
      clear hall hrg hkp
      go_wp2_with fail
      go_ret
      refine ⟨ret_bool ?_, HKP.out⟩
      symm
      unfold mapStv
      rw [List.any_eq_false]
      intro p hp
      simp only [decide_eq_true_eq]
      have := HN.out p.1 (HA.out p.1 (List.mem_map.2 ⟨p, hp, rfl⟩)) p.2 hp
      omega
    · obtain ⟨l, hl⟩ := k
      have HM := Lib.hid hmem
      have HNS := Lib.hid hnS
      have HNG := Lib.hid hrng
      have hk2 : Kp No w w2 := hkp.trans (Kp.grown (S := Kq.One r) hgr fun k hk _ => by cases hk; rfl) fun k hk h => by
        have h : k = r := h
        have := HR.out
        omega
      have HK2 := Lib.hid hk2
      have HLT := Lib.hid (show S.length < E.length by
        have h1 : ((⟨l, hl⟩ : Bls 16) :: S).length ≤ (keys E).length := by
          obtain ⟨_, _, _, _, _, _, _, _, _, _, _, h7, h8⟩ := hrng
          exact nodup_len h7 h8
        simp only [List.length_cons, keys, List.length_map] at h1
        omega)
      clear hmem hnS hrng hgr hrg hkp
      obtain ⟨b0, b1, b2, b3, b4, b5, b6, b7, b8, b9, b10, b11, b12, b13, b14, b15, rfl⟩ := len16 hl
      simp only [ekB, boolsV, List.map_cons, List.map_nil] at hen ⊢
      have hrz : r < w2.heap.size := HNG.out.lt
      go_wp2_with fail
      obtain ⟨L, hL⟩ : ∃ L, L = [b0, b1, b2, b3, b4, b5, b6, b7, b8, b9, b10, b11, b12, b13, b14, b15] := ⟨_, rfl⟩
      obtain ⟨w3, hw3⟩ : ∃ w3, w3 = w2.alloc (.cells #[.bool b0, .bool b1, .bool b2, .bool b3, .bool b4, .bool b5, .bool b6, .bool b7, .bool b8, .bool b9, .bool b10, .bool b11, .bool b12, .bool b13, .bool b14, .bool b15] 88) := ⟨_, rfl⟩
      obtain ⟨gb, hgb⟩ : ∃ gb, gb = wr.heap.size := ⟨_, rfl⟩
      have HB3 := Lib.hid (show ∀ i, i < 16 → w3.cell? ⟨gb, i, none⟩ = some (.bool (atB L i)) from fun i hi => by
        have h1 : w3.heap[gb]? = some (.cells #[.bool b0, .bool b1, .bool b2, .bool b3, .bool b4, .bool b5, .bool b6, .bool b7, .bool b8, .bool b9, .bool b10, .bool b11, .bool b12, .bool b13, .bool b14, .bool b15] 88 (0, 0)) := by
          rw [hw3, hgb, ← hsz]
          exact heap_alloc_new w2 _
        rw [cell_of_row _ _ _ _ _ _ h1]
        have h2 : #[Value.bool b0, .bool b1, .bool b2, .bool b3, .bool b4, .bool b5, .bool b6, .bool b7, .bool b8, .bool b9, .bool b10, .bool b11, .bool b12, .bool b13, .bool b14, .bool b15] = (L.map Value.bool).toArray := by rw [hL]; rfl
        rw [h2]
        have h3 : i < L.length := by rw [hL]; exact hi
        simp only [List.getElem?_toArray, List.getElem?_map, atB, List.getD_eq_getElem?_getD, List.getElem?_eq_getElem h3, Option.map_some, Option.getD_some])
      have HNG3 := Lib.hid (show RangeAt w3 m r ekB (Value.int .i64) E (⟨_, hl⟩ :: S) by rw [hw3]; exact HNG.out.alloc _)
      have HK3 := Lib.hid (show Kp No w w3 by rw [hw3]; exact HK2.out.tr (Kp.alloc _ _ _))
      rw [← hw3, ← hgb]
      clear hw3 hgb hsz hen hk2 hrz HRG HNG
      go_loop [7, 22] (fun s i => ∃ j : Nat, j ≤ n ∧ i = .int .i64 (j : Nat) ∧ s = .int .i64 (sumM (atB L) (ds.take j))) (fun _ i => n - (intOf i).toNat)
      case atStart => exact ⟨0, by omega, rfl, by simp [sumM]⟩
      case round =>
        obtain ⟨j, hj, rfl, rfl⟩ := hrel
        by_cases hlt : j < n
        · obtain ⟨d, hd⟩ : ∃ d, ds[j]? = some d := ⟨_, List.getElem?_eq_getElem (by rw [HL.out]; exact hlt)⟩
          obtain ⟨b, o, rfl, hb, hc⟩ := (HD.out.no HK3.out).2 j d hd
          have hbd := HBD.out (atB L) j
          have hbd2 := HBD.out (atB L) (j + 1)
          rw [sumM_take _ _ _ _ hd] at hbd2
          have HT := Lib.hid (sumM_take (atB L) ds j d hd)
          have hl1 : ((ds.take j).length : Int) ≤ 16 := by rw [List.length_take]; omega
          have hl2 : ((ds.take (j + 1)).length : Int) ≤ 16 := by rw [List.length_take]; omega
          have ha := HB3.out j (by omega)
          have hj16 : (j : Int) < 16 := by omega
          clear hd
          generalize sumM (atB L) (ds.take j) = T at *
          cases hbb : atB L j
          · rw [hbb] at ha hbd2
            have HB := Lib.hid hbb
            clear hbb
            go_wp2_with fail
            go_round
            case rel => exact ⟨j + 1, by omega, by go_num, by rw [HT.out, HB.out]; simp⟩
            case measure => simp [intOf]; omega
          · rw [hbb] at ha hbd2
            rw [if_pos rfl] at hbd2
            have HB := Lib.hid hbb
            clear hbb
            go_wp2_with fail
            go_round
            case rel => exact ⟨j + 1, by omega, by go_num, by rw [HT.out, HB.out]; simp⟩
            case measure => simp [intOf]; omega
        · obtain rfl : j = n := by omega
          have hte : ds.take j = ds := List.take_of_length_le (by rw [HL.out]; exact Nat.le_refl _)
          rw [hte]
          have HLL := Lib.hid hL
          clear hte
          by_cases hlt2 : v < sumM (atB L) ds
          · have HY := Lib.hid (show mapStv E ds = true from List.any_eq_true.2 ⟨_, HM.out, by show decide (v < sumM (atB [b0, b1, b2, b3, b4, b5, b6, b7, b8, b9, b10, b11, b12, b13, b14, b15]) ds) = true; rw [← hL]; simpa using hlt2⟩)
            clear hL
            generalize sumM (atB L) ds = T at *
            go_wp2_with fail
            go_ret
            exact ⟨ret_bool HY.out.symm, HK3.out⟩
          · have HN2 := Lib.hid hlt2
            clear hL
            generalize hT : sumM (atB L) ds = T at *
            have HTT := Lib.hid hT
            clear hT
            have hlt3 := HLT.out
            go_wp2_with fail
            go_roundg (gk - 1)
            case measure => omega
            case rel =>
              refine ⟨_ :: S, by simp only [List.length_cons]; omega, rfl, HNG3.out, fun k hk u hu => ?_, HK3.out⟩
              rcases List.mem_cons.1 hk with rfl | hk
              · have h1 := get1_mem hnd HM.out
                have h2 := get1_mem hnd hu
                rw [h1] at h2
                injection h2 with h2
                rw [← h2]
                show sumM (atB [b0, b1, b2, b3, b4, b5, b6, b7, b8, b9, b10, b11, b12, b13, b14, b15]) ds ≤ v
                have h3 := HN2.out
                rw [← HLL.out, HTT.out]
                omega
              · have := HN.out k hk u hu
                omega
end Go.Proofs.Ytpkbpeeelpgmcaa

namespace Go.Kq
open Go.RowKit
/-- What holds of an operation anywhere holds in a round. -/
theorem wpIn_of_wp {n : Nat} {P : Program} {o : Oper} {a : Act} {w : World} {K : Act → World → Prop} {Q : Exit → Act → World → Prop} {lp : Nat} (hd : ∀ c, o.op ≠ .defer c) (h : o.wp P a w K Q) : o.wpIn (Fence.wide.inRound lp) n P a w K Q := by
  refine ⟨fun _ _ => trivial, ?_⟩
  rw [Oper.semAt_plain _ _ _ hd]
  unfold Oper.wp at h
  generalize (execOp a.eval o).run P w = r at *
  cases r with
  | ok x w' =>
    cases x <;> simp only [Oper.uponIn, Oper.upon] at h ⊢ <;>
      first
        | exact h
        | exact ⟨fun h => (by cases h), CallsIn.inRound lp (callsIn_wide.2 h)⟩
        | exact ⟨fun h => (by cases h), fun c cs _ => let ⟨v, w2, r, s⟩ := h c cs; ⟨v, w2, r, stepsIn_wide.2 s⟩⟩
  | halt x w' => cases x <;> simp only [Oper.uponIn, Oper.upon] at h ⊢ <;> exact h
def isDefer : Op → Bool
  | .defer _ => true
  | _ => false
theorem not_defer {o : Op} (h : isDefer o = false) (c : Call) : o ≠ .defer c := fun e => by rw [e] at h; cases h
section
variable {P : Program} {ops : Array Oper} {Q : Exit → Act → World → Prop} {md : Region.Mode} {F : Fence} {n : Nat}

theorem wpAnyIn_inv (hb : backB md ops = true) (I : Array Bool → Act → World → Prop)
    (hstep : ∀ listed a w, I listed a w → listed.size = ops.size → ∀ i, i < ops.size → listed.getD i true = false →
      (∀ o, ops[i]? = some o → ∀ e ∈ o.after, Region.binds md e = true → listed.getD e.on false = true) → wpOpIn F n P ops Q i (I (listed.setIfInBounds i true)) a w)
    (hend : ∀ listed a w, I listed a w → (∀ i, i < ops.size → listed.getD i false = true) → Q .normal a w) :
    ∀ (fuel : Nat) (listed : Array Bool) (a : Act) (w : World), listed.size = ops.size → unl listed ops.size ≤ fuel → I listed a w → wpAnyIn F n P md ops Q fuel listed a w
  | 0, listed, a, w, hs, hl, hI => by
    have hz := unl_zero ops.size (by omega : unl listed ops.size = 0)
    refine ⟨?_, hend listed a w hI fun i hi => ?_⟩
    · cases hr : Region.ready md ops listed with
      | nil => rfl
      | cons x xs =>
        have hx : x ∈ Region.ready md ops listed := by rw [hr]; simp
        unfold Region.ready at hx
        obtain ⟨h1, h2⟩ := List.mem_filter.1 hx
        have := hz x (List.mem_range.1 h1)
        rw [this] at h2
        simp at h2
    · have := hz i hi
      have hsz : i < listed.size := by omega
      simp [hsz] at this ⊢
      exact this
  | fuel + 1, listed, a, w, hs, hl, hI => by
    refine ⟨fun h => hend listed a w hI (ready_nil hb hs h), fun i hi => ?_⟩
    have hi' := hi
    unfold Region.ready at hi'
    obtain ⟨h1, h2⟩ := List.mem_filter.1 hi'
    have hlt := List.mem_range.1 h1
    simp only [Bool.and_eq_true, Bool.not_eq_true'] at h2
    refine wpOpIn_mono (fun a' w' h' => ?_) (hstep listed a w hI hs i hlt h2.1 ?_)
    · have := unl_set h2.1 ops.size hlt
      exact wpAnyIn_inv hb I hstep hend fuel _ a' w' (by simpa using hs) (by omega) h'
    · intro o ho e he hbd
      have h3 := h2.2
      rw [ho] at h3
      simp only [Option.map_some, Option.getD_some] at h3
      have := Array.all_eq_true_iff_forall_mem.1 h3 e he
      rw [hbd] at this
      simpa using this

/-- THE RULE. -/
theorem wpIn_region_inv {id : Nat} {a : Act} {w : World} (hm : P.follows .mixedOrders = true) (hb : backB .any ops = true) (I : Array Bool → Act → World → Prop)
    (h0 : I (Array.replicate ops.size false) a w.drew)
    (hstep : ∀ listed a w, I listed a w → listed.size = ops.size → ∀ i, i < ops.size → listed.getD i true = false →
      (∀ o, ops[i]? = some o → ∀ e ∈ o.after, Region.binds .any e = true → listed.getD e.on false = true) → wpOpIn F n P ops Q i (I (listed.setIfInBounds i true)) a w)
    (hend : ∀ listed a w, I listed a w → (∀ i, i < ops.size → listed.getD i false = true) → Q .normal a w) :
    (Code.region id ops true).wpIn F n P Q a w :=
  wpIn_region_any hm (wpAnyIn_inv hb I hstep hend ops.size _ a _ (by simp) (unl_le _ _) h0)
end
section
variable {P : Program} {ops : Array Oper} {Q : Exit → Act → World → Prop} {F : Fence} {n : Nat}
theorem wpIn_region_vals {id : Nat} {l : List Oper} {a0 : Act} {w : World} (G : Nat → Value → Prop) (W : (Nat → Option Value) → World → Prop)
    (hm : P.follows .mixedOrders = true) (hb : backB .any l.toArray = true) (hap : apartB l.toArray = true)
    (h0 : W (fun _ => none) w.drew)
    (hstep : ∀ r a w, Fr l.toArray a0 r a → (∀ j v, r j = some v → G j v) → W r w → ∀ i o, l[i]? = some o → r i = none → (∀ e ∈ o.after, Region.binds .any e = true → r e.on ≠ none) →
      ∀ K : Act → World → Prop, (∀ v w', G i v → W (upd r i v) w' → K (a.put o.dst v) w') → wpOpIn F n P l.toArray Q i K a w)
    (hend : ∀ r w, (∀ j v, r j = some v → G j v) → W r w → (∀ i, i < l.length → r i ≠ none) → Q .normal (putAll l ((List.range l.length).map fun i => (r i).getD undef) a0) w) :
    (Code.region id l.toArray true).wpIn F n P Q a0 w := by
  refine wpIn_region_inv hm hb (fun listed a w => ∃ r : Nat → Option Value, (∀ i, i < l.length → (listed.getD i false = true ↔ r i ≠ none)) ∧ (∀ i, l.length ≤ i → r i = none) ∧ Fr l.toArray a0 r a ∧ (∀ j v, r j = some v → G j v) ∧ W r w) ?_ ?_ ?_
  · refine ⟨fun _ => none, fun i hi => ?_, fun _ _ => rfl, Fr.start _ _, fun _ _ h => (by cases h), h0⟩
    simp [hi]
  · rintro listed a w ⟨r, hl, hn, hf, hg, hw⟩ hs i hi hli hdeps
    have hil : i < l.length := by simpa using hi
    have ho : l[i]? = some l[i] := List.getElem?_eq_getElem hil
    have ho' : l.toArray[i]? = some l[i] := by simp
    have hri : r i = none := by
      cases h : r i with
      | none => rfl
      | some v =>
        have := (hl i hil).2 (by rw [h]; simp)
        have hsz : i < listed.size := by omega
        simp [hsz] at this hli
        rw [this] at hli
        cases hli
    refine hstep r a w hf hg hw i _ ho hri (fun e he hbd => ?_) _ fun v w' hgv hw' => ?_
    · have h1 := hdeps _ ho' e he hbd
      refine (hl e.on ?_).1 h1
      rcases Nat.lt_or_ge e.on listed.size with h' | h'
      · rw [hs] at h'; simpa using h'
      · simp [Array.getElem?_eq_none h'] at h1
    · refine ⟨upd r i v, fun j hj => ?_, fun j hj => ?_, hf.put hap ho' v, fun j u hu => ?_, hw'⟩
      · by_cases hji : j = i
        · subst hji
          have hsz : j < listed.size := by omega
          simp [upd_same, hsz]
        · rw [upd_ne _ _ hji, ← hl j hj]
          simp [Array.getElem?_setIfInBounds_ne (fun e => hji e.symm)]
      · rw [upd_ne _ _ (by omega)]; exact hn j hj
      · by_cases hji : j = i
        · subst hji
          rw [upd_same] at hu
          cases hu
          exact hgv
        · rw [upd_ne _ _ hji] at hu
          exact hg j u hu
  · rintro listed a w ⟨r, hl, hn, hf, hg, hw⟩ hall
    have hr : ∀ i, i < l.length → r i ≠ none := fun i hi => (hl i hi).1 (hall i (by rw [List.size_toArray]; exact hi))
    obtain ⟨q', g1, g2, g3⟩ := putAll_fr (r := r) hap l 0 (fun _ => none) a0 (fun j => by simp) (fun j hj => by omega) (fun _ _ => rfl) (fun j hj => hr j (by simpa using hj)) (Fr.start _ _)
    have hq : q' = r := funext fun j => by
      by_cases hj : j < l.length
      · exact g1 j (by simpa using hj)
      · rw [g2 j (by simp; omega), hn j (by omega)]
    rw [hq] at g3
    have := hend r w hg hw hr
    rw [List.range_eq_range'] at this
    rw [hf.unique g3]
    exact this

/-- THE RULE, an obligation for each operation. -/
theorem wpIn_region_each {id : Nat} {l : List Oper} {a0 : Act} {w : World} (G : Nat → Value → Prop) (W : (Nat → Option Value) → World → Prop)
    (hm : P.follows .mixedOrders = true) (hb : backB .any l.toArray = true) (hap : apartB l.toArray = true)
    (h0 : W (fun _ => none) w.drew)
    (hstep : EachOp (fun i o => ∀ r a w, Fr l.toArray a0 r a → (∀ j v, r j = some v → G j v) → W r w → r i = none → (∀ e ∈ o.after, Region.binds .any e = true → r e.on ≠ none) →
      ∀ K : Act → World → Prop, (∀ v w', G i v → W (upd r i v) w' → K (a.put o.dst v) w') → wpOpIn F n P l.toArray Q i K a w) 0 l)
    (hend : ∀ r w, (∀ j v, r j = some v → G j v) → W r w → (∀ i, i < l.length → r i ≠ none) → Q .normal (putAll l ((List.range l.length).map fun i => (r i).getD undef) a0) w) :
    (Code.region id l.toArray true).wpIn F n P Q a0 w :=
  wpIn_region_vals G W hm hb hap h0 (fun r a w hf hg hW i o ho hr hd K hK => by
    have := EachOp.at_ l 0 hstep i o ho
    rw [Nat.zero_add] at this
    exact this r a w hf hg hW hr hd K hK) hend

end
section
variable {P : Program} {Q : Exit → Act → World → Prop} {l : List Oper} {i j : Nat} {o x : Oper} {t : Tmp} {want b : Bool} {a : Act} {w : World} {K : Act → World → Prop} {n lp : Nat}
theorem wpOpR_of (ho : l[i]? = some o) (hg : o.guard = none) (h : o.wp P a w K Q) (hd : isDefer o.op = false := by rfl) : wpOpIn (Fence.wide.inRound lp) n P l.toArray Q i K a w := by
  unfold wpOpIn
  have h2 : l.toArray[i]? = some o := by simpa using ho
  rw [h2]
  simp only [Region.wanted, hg, if_true]
  exact wpIn_of_wp (not_defer hd) h
theorem wpOpR_run (ho : l[i]? = some o) (hg : o.guard = some (j, want)) (hj : l[j]? = some x) (hx : x.dst = some t) (hv : a.tmps.getD t undef = .bool want) (h : o.wp P a w K Q) (hd : isDefer o.op = false := by rfl) : wpOpIn (Fence.wide.inRound lp) n P l.toArray Q i K a w := by
  unfold wpOpIn
  have h2 : l.toArray[i]? = some o := by simpa using ho
  rw [h2]
  have h3 : Region.wanted o (yielded l.toArray a.tmps) = true := by
    unfold Region.wanted
    simp only [hg, yielded_of hj hx hv, beq_self_eq_true]
  simp only [h3, if_true]
  exact wpIn_of_wp (not_defer hd) h
theorem wpOpR_skip (ho : l[i]? = some o) (hg : o.guard = some (j, want)) (hj : l[j]? = some x) (hx : x.dst = some t) (hv : a.tmps.getD t undef = .bool b) (hb : b ≠ want) (h : K (a.put o.dst undef) w) : wpOpIn (Fence.wide.inRound lp) n P l.toArray Q i K a w := by
  unfold wpOpIn
  have h2 : l.toArray[i]? = some o := by simpa using ho
  rw [h2]
  have h3 : Region.wanted o (yielded l.toArray a.tmps) = false := by
    unfold Region.wanted
    simp only [hg, yielded_of hj hx hv]
    simpa using hb
  simp only [h3]
  exact ⟨fun _ _ => trivial, h⟩
end
end Go.Kq
