/- Chapter 33: the walk of 'cost': the sums in whatever order the maps are ranged over. -/
import Derived.Deep.LoopGhost
import Derived.Test.YtfflhlmnfhfcgaaXLibMapWM
namespace Go.Proofs.Ytfflhlmnfhfcgaa
open Go.RowKit Go.Kq

theorem zeroInt3 (w : World) : (zeroValue 3).run Try.prog w = .ok (.int .i64 0) w := by kernel_rfl
theorem intOk : KeyOk Try.prog 3 (Value.int .i64) := intKey_ok Try.underlying3
def tot {α : Type} (f : α → Int) (l : List α) : Int := (l.map f).sum
theorem tot_nil {α : Type} (f : α → Int) : tot f [] = 0 := rfl
theorem tot_cons {α : Type} (f : α → Int) (x : α) (l : List α) : tot f (x :: l) = f x + tot f l := by simp [tot]
def get0 (E : List (Int × Int)) (k : Int) : Int := (get1 E k).getD 0
def up (k : Key) : Key := (k.1, k.2.1, 0)
def pm (g : Key → Int) : List Key → List (Key × Int)
  | [] => []
  | k :: S => ins (up k) (bal (pm g S) (up k) + g k) (pm g S)
def dm (g : Key → Int) : List Key → List (Int × Int)
  | [] => []
  | k :: S => ins k.1 (get0 (dm g S) k.1 + g k) (dm g S)
theorem pm_bd (g : Key → Int) (hg : ∀ k, -100000 ≤ g k ∧ g k ≤ 100000) : ∀ (S : List Key) (j : Key), -(100000 * S.length) ≤ bal (pm g S) j ∧ bal (pm g S) j ≤ 100000 * S.length
  | [], j => by simp [pm, bal, get1]
  | k :: S, j => by
    have h1 := pm_bd g hg S j
    have h2 := pm_bd g hg S (up k)
    have h3 := hg k
    unfold pm
    rw [bal_ins]
    simp only [List.length_cons]
    split <;> omega
theorem get0_ins (E : List (Int × Int)) (k : Int) (x : Int) (j : Int) : get0 (ins k x E) j = if k = j then x else get0 E j := by
  unfold get0
  rw [get1_ins]
  split <;> rfl
theorem dm_bd (g : Key → Int) (hg : ∀ k, -100000 ≤ g k ∧ g k ≤ 100000) : ∀ (S : List Key) (j : Int), -(100000 * S.length) ≤ get0 (dm g S) j ∧ get0 (dm g S) j ≤ 100000 * S.length
  | [], j => by simp [dm, get0, get1]
  | k :: S, j => by
    have h1 := dm_bd g hg S j
    have h2 := dm_bd g hg S k.1
    have h3 := hg k
    unfold dm
    rw [get0_ins]
    simp only [List.length_cons]
    split <;> omega
theorem absI_bd {n M : Int} (h : -M ≤ n ∧ n ≤ M) : 0 ≤ absI n ∧ absI n ≤ M := by unfold absI; split <;> omega
theorem tot_bd {α : Type} (f : α → Int) (M : Int) : ∀ l : List α, (∀ x, 0 ≤ f x ∧ f x ≤ M) → 0 ≤ tot f l ∧ tot f l ≤ M * l.length
  | [], _ => by simp [tot]
  | x :: l, h => by
    have h1 := tot_bd f M l h
    have h2 := h x
    rw [tot_cons]
    simp only [List.length_cons]
    have : M * ((l.length + 1 : Nat) : Int) = M * l.length + M := by simp [Int.mul_add]
    omega

theorem wpL_next_key {P : Program} (w : World) {ops : Array Oper} {rest : List Oper} {o : Oper} {a : Act} {Q : Exit → Act → World → Prop} {b : Nat} {E : List (Key × Int)} (hg : o.guard = none) (it : Operand) (hop : o.op = Op.next it false) {kt : TypeId} (L : KeyOk P kt ek) {r : Nat} {S : List Key}
    (h : RangeAt w b r ek (Value.int .i64) E S) (hit : a.eval it = .pointer (some ⟨r, 0, none⟩))
    (hDone : (∀ k ∈ keys E, k ∈ S) → wpList P ops Q rest (a.put o.dst (.tuple #[.bool false])) w)
    (hMore : ∀ (d p f v : Int) w', ((d, p, f), v) ∈ E → (d, p, f) ∉ S → RangeAt w' b r ek (Value.int .i64) E ((d, p, f) :: S) → w.grownBy w' (some r) → w'.heap.size = w.heap.size →
      (Instr.entry (.pointer (some ⟨r, 0, none⟩))).run P w' = .ok (.tuple #[.agg #[.int .i64 d, .int .i64 p, .int .i64 f], .int .i64 v]) w' →
      wpList P ops Q rest (a.put o.dst (.tuple #[.bool true, .agg #[.int .i64 d, .int .i64 p, .int .i64 f], .int .i64 v])) w') : wpList P ops Q (o :: rest) a w :=
  wpL_next w hg it hop L h hit hDone fun ⟨d, p, f⟩ v w' h1 h2 h3 h4 h5 h6 => hMore d p f v w' h1 h2 h3 h4 h5 h6

theorem nodup_len {α : Type} : ∀ (S U : List α), S.Nodup → (∀ x ∈ S, x ∈ U) → S.length ≤ U.length
  | [], _, _, _ => by simp
  | x :: S, U, hn, hs => by
    obtain ⟨U1, U2, rfl⟩ := List.append_of_mem (hs x (by simp))
    rw [List.nodup_cons] at hn
    have := nodup_len S (U1 ++ U2) hn.2 (fun y hy => by
      have h := hs y (by simp [hy])
      simp only [List.mem_append, List.mem_cons] at h ⊢
      rcases h with h | h | h
      · exact .inl h
      · exact absurd (h ▸ hy) hn.1
      · exact .inr h)
    simp only [List.length_append, List.length_cons] at this ⊢
    omega
theorem RangeAt_len {w : World} {b r : Nat} {E : List (Key × Int)} {S : List Key} (h : RangeAt w b r ek (Value.int .i64) E S) : S.Nodup ∧ (∀ k ∈ S, k ∈ keys E) ∧ S.length ≤ E.length := by
  obtain ⟨_, _, _, _, _, _, _, _, _, _, _, h1, h2⟩ := h
  refine ⟨h1, h2, ?_⟩
  have := nodup_len S (keys E) h1 h2
  simpa [keys] using this

theorem ins_len {κ ν : Type} [DecidableEq κ] (k : κ) (v : ν) : ∀ E : List (κ × ν), (ins k v E).length ≤ E.length + 1
  | [] => by simp [ins]
  | p :: E => by
    have := ins_len k v E
    unfold ins
    split <;> simp <;> omega
theorem pm_len (g : Key → Int) : ∀ S, (pm g S).length ≤ S.length
  | [] => by simp [pm]
  | k :: S => by
    have h1 := pm_len g S
    have h2 := ins_len (up k) (bal (pm g S) (up k) + g k) (pm g S)
    simp only [pm, List.length_cons]
    omega
theorem dm_len (g : Key → Int) : ∀ S, (dm g S).length ≤ S.length
  | [] => by simp [dm]
  | k :: S => by
    have h1 := dm_len g S
    have h2 := ins_len k.1 (get0 (dm g S) k.1 + g k) (dm g S)
    simp only [dm, List.length_cons]
    omega
theorem RangeAt_lenI {w : World} {b r : Nat} {E : List (Int × Int)} {S : List Int} (h : RangeAt w b r (Value.int .i64) (Value.int .i64) E S) : S.Nodup ∧ (∀ k ∈ S, k ∈ keys E) ∧ S.length ≤ E.length := by
  obtain ⟨_, _, _, _, _, _, _, _, _, _, _, h1, h2⟩ := h
  refine ⟨h1, h2, ?_⟩
  have := nodup_len S (keys E) h1 h2
  simpa [keys] using this
/-- The sums in some order. -/
def costS (E : List (Key × Int)) (S S2 : List Key) (S3 : List Int) : Int :=
  tot (fun k => absI (bal E k)) S + 2 * tot (fun k => absI (bal (pm (bal E) S) k)) S2 + 4 * tot (fun k => absI (get0 (dm (bal E) S) k)) S3
/-- Each list names just the keys. -/
structure Orders (E : List (Key × Int)) (S S2 : List Key) (S3 : List Int) : Prop where
  n1 : S.Nodup
  n2 : S2.Nodup
  n3 : S3.Nodup
  m1 : ∀ k, k ∈ S ↔ k ∈ keys E
  m2 : ∀ k, k ∈ S2 ↔ k ∈ keys (pm (bal E) S)
  m3 : ∀ k, k ∈ S3 ↔ k ∈ keys (dm (bal E) S)
def IsCost (E : List (Key × Int)) (n : Int) : Prop := ∃ S S2 S3, Orders E S S2 S3 ∧ n = costS E S S2 S3

/-- The first loop under way. -/
structure C1 (b p q r : Nat) (E : List (Key × Int)) (w0 : World) (S : List Key) (s : Value) (wr : World) : Prop where
  rng : RangeAt wr b r ek (Value.int .i64) E S
  sum : s = .int .i64 (tot (fun k => absI (bal E k)) S)
  pit : MapAt wr p ek (Value.int .i64) (pm (bal E) S)
  div : MapAt wr q (Value.int .i64) (Value.int .i64) (dm (bal E) S)
  kp : Kp No w0 wr

set_option maxHeartbeats 1000000 in
set_option maxRecDepth 100000 in
theorem cost_any (b : Nat) (E : List (Key × Int)) (w : World) (hm : MapAt w b ek (Value.int .i64) E) (hL : E.length ≤ 1000) (hE : ∀ k, -100000 ≤ bal E k ∧ bal E k ≤ 100000) :
    Calls Try.prog 35 #[.map (some b)] w fun e w' => (∃ n, e = .returned (.int .i64 n) ∧ IsCost E n) ∧ Kp No w w' := by
  have hmm := @run_makeMap Try.prog
  have hbw := hm.lt
  have hn := hm.nodup
  go_enter Try.func35, Try.ntmps35
  go_wp2_with (at_range; refine wpL_range _ rfl _ _ rfl Try.underlying64 (((hm.alloc _).alloc _)) rfl ?_; intro w1 hr1 hg1 hs1)
  go_frame
  have hst : C1 b w.heap.size (w.heap.size + 1) (w.heap.size + 2) E w [] (.int .i64 0) w1 :=
    ⟨by simpa using hr1, rfl, ((MapAt.made w ek _).alloc _).kept hg1 (by simp), by have := MapAt.made (w.alloc (Obj.map #[] 0)) (Value.int .i64) (Value.int .i64); simp at this; exact this.kept hg1 (by simp), ((Kp.alloc _ _ _).tr (Kp.alloc _ _ _)).tr (Kp.grown_none hg1)⟩
  rw [show ((w.alloc (Obj.map #[] 0)).alloc (Obj.map #[] 0)).heap.size = w.heap.size + 2 by simp]
  clear hr1 hg1 hs1 hmm hm
  have hpq : w.heap.size ≠ w.heap.size + 1 ∧ w.heap.size ≠ w.heap.size + 2 ∧ w.heap.size + 1 ≠ w.heap.size + 2 ∧ w.heap.size ≠ b ∧ w.heap.size + 1 ≠ b ∧ w.heap.size + 2 ≠ b ∧ w.heap.size ≤ w.heap.size + 1 ∧ w.heap.size ≤ w.heap.size + 2 ∧ b < w.heap.size := by omega
  generalize w.heap.size + 1 = q at *
  generalize w.heap.size + 2 = r at *
  generalize hpe : w.heap.size = p at *
  have Hp := Lib.hid hpe
  clear hpe
  go_loopg [3] E.length (fun g s wr => ∃ S : List Key, S.length + g = E.length ∧ C1 b p q r E w S s wr)
  case atStart => exact ⟨[], by simp, hst⟩
  case round =>
    obtain ⟨S, hSg, hC⟩ := hrel
    clear hst
    obtain rfl := hC.sum
    go_wp2_with (first
      | (at_next; refine wpL_next_key _ rfl _ rfl keyOk hC.rng rfl (fun hall => ?_) (fun d p' f v w2 hmem hnS hrng hgr hsz hen => ?_))
      | (at_range; refine wpL_range _ rfl _ _ rfl Try.underlying63 hC.pit rfl (fun w1 hr1 hg1 hs1 => ?_)))
    · have hz := Hp.out
      have hl1 := RangeAt_len hC.rng
      have htb := tot_bd (fun k => absI (bal E k)) 100000 S (fun k => absI_bd (hE k))
      have hpl := pm_len (bal E) S
      have hdl := dm_len (bal E) S
      have hpn := hC.pit.nodup
      have hdn := hC.div.nodup
      have hpb : ∀ j, -100000000 ≤ bal (pm (bal E) S) j ∧ bal (pm (bal E) S) j ≤ 100000000 := fun j => by
        have := pm_bd (bal E) hE S j
        omega
      have hdb : ∀ j, -100000000 ≤ get0 (dm (bal E) S) j ∧ get0 (dm (bal E) S) j ≤ 100000000 := fun j => by
        have := dm_bd (bal E) hE S j
        omega
      have hkp := hC.kp
      have HS := Lib.hid (And.intro hall hl1)
      try go_frame
      have hd1 := hC.div.kept hg1 (by simp)
      have hk1 := hkp.tr (Kp.grown_none hg1)
      have hr2 : p ≤ wr.heap.size := by have := hkp.size; omega
      have hql := hC.div.lt
      generalize wr.heap.size = r2 at *
      generalize hT : tot (fun k => absI (bal E k)) S = T1 at *
      have HT := Lib.hid hT
      clear hC hg1 hs1 hall hT hkp hl1
      generalize hpm : pm (bal E) S = PM at *
      have HPM := Lib.hid hpm
      generalize hdm : dm (bal E) S = DM at *
      have HDM := Lib.hid hdm
      clear hpm hdm
      go_loopg [3] PM.length (fun g s wr => ∃ S2 : List Key, S2.length + g = PM.length ∧ RangeAt wr p r2 ek (Value.int .i64) PM S2 ∧ s = .int .i64 (T1 + 2 * tot (fun k => absI (bal PM k)) S2) ∧ MapAt wr q (Value.int .i64) (Value.int .i64) DM ∧ Kp No w wr)
      case atStart => exact ⟨[], by simp, hr1, by simp [tot], hd1, hk1⟩
      case round =>
        obtain ⟨S2, hS2, hrg, rfl, hdv, hk2⟩ := hrel
        clear hr1 hd1 hk1
        have htb2 := tot_bd (fun k => absI (bal PM k)) 100000000 S2 (fun k => absI_bd (hpb k))
        go_wp2_with (first
          | (at_next; refine wpL_next_key _ rfl _ rfl keyOk hrg rfl (fun hall => ?_) (fun d p' f v w2 hmem hnS hrng hgr hsz hen => ?_))
          | (at_range; refine wpL_range _ rfl _ _ rfl Try.underlying90 hdv rfl (fun w1 hr1 hg1 hs1 => ?_)))
        · try go_frame
          have hd1 := hdv.kept hg1 (by simp)
          have hk1 := hk2.tr (Kp.grown_none hg1)
          have hr3 : w.heap.size ≤ wr.heap.size := hk2.size
          have hl2 := RangeAt_len hrg
          have HS2 := Lib.hid (And.intro hall hl2)
          have hl3 := hl2.2.2
          clear hl2 hall hrg hdv hk2
          generalize wr.heap.size = r3 at *
          generalize hT2 : tot (fun k => absI (bal PM k)) S2 = T2 at *
          have HT2 := Lib.hid hT2
          clear hT2
          go_loopg [3] DM.length (fun g s wr => ∃ S3 : List Int, S3.length + g = DM.length ∧ RangeAt wr q r3 (Value.int .i64) (Value.int .i64) DM S3 ∧ s = .int .i64 (T1 + 2 * T2 + 4 * tot (fun k => absI (get0 DM k)) S3) ∧ Kp No w wr)
          case atStart => exact ⟨[], by simp, hr1, by simp [tot], hk1⟩
          case round =>
            obtain ⟨S3, hS3, hrg, rfl, hk2⟩ := hrel
            clear hr1 hk1
            have htb3 := tot_bd (fun k => absI (get0 DM k)) 100000000 S3 (fun k => absI_bd (hdb k))
            go_wp2_with (at_next; refine wpL_next _ rfl _ rfl intOk hrg rfl (fun hall => ?_) (fun d v w2 hmem hnS hrng hgr hsz hen => ?_))
            · go_ret
              have h1 := HS.out
              have h2 := HS2.out
              have h3 := RangeAt_lenI hrg
              have e1 := HPM.out
              have e2 := HDM.out
              have e3 := HT.out
              have e4 := HT2.out
              refine ⟨⟨_, rfl, S, S2, S3, ⟨h1.2.1, h2.2.1, h3.1, fun k => ⟨h1.2.2.1 k, h1.1 k⟩, fun k => ?_, fun k => ?_⟩, ?_⟩, hk2⟩
              · rw [e1]; exact ⟨h2.2.2.1 k, h2.1 k⟩
              · rw [e2]; exact ⟨h3.2.1 k, hall k⟩
              · unfold costS
                rw [e1, e2, e3, e4]
            · obtain rfl : v = get0 DM d := by unfold get0; rw [get1_mem hdn hmem]; rfl
              have hbk := hdb d
              have hab := absI_bd hbk
              have hl2 := RangeAt_lenI hrng
              simp only [List.length_cons] at hl2
              have Hl2 := Lib.hid hl2
              have hl3 := hl2.2.2
              clear hl2
              go_wp2_with (go_at_call 55; refine (size_any _ _ (by omega) (by omega)).mono ?_; rintro e w' ⟨rfl, rfl⟩)
              go_roundg (gk - 1)
              case measure => omega
              case rel =>
                refine ⟨d :: S3, by simp; omega, hrng, ?_, hk2.trans (Kp.grown (S := Kq.One r3) hgr fun k hk _ => by cases hk; rfl) (fun k hk h => ?_)⟩
                · rw [tot_cons]
                  go_num
                · unfold Kq.One at h
                  omega
        · obtain rfl : v = bal PM (d, p', f) := by unfold bal; rw [get1_mem hpn hmem]; rfl
          have hbk := hpb (d, p', f)
          have hab := absI_bd hbk
          have hl2 := RangeAt_len hrng
          simp only [List.length_cons] at hl2
          have Hl2 := Lib.hid hl2
          have hl3 := hl2.2.2
          clear hl2
          go_wp2_with (go_at_call 55; refine (size_any _ _ (by omega) (by omega)).mono ?_; rintro e w' ⟨rfl, rfl⟩)
          go_roundg (gk - 1)
          case measure => omega
          case rel =>
            refine ⟨(d, p', f) :: S2, by simp; omega, hrng, ?_, hdv.kept hgr (by simp; omega), hk2.trans (Kp.grown (S := Kq.One r2) hgr fun k hk _ => by cases hk; rfl) (fun k hk h => ?_)⟩
            · rw [tot_cons]
              go_num
            · have := Hp.out
              unfold Kq.One at h
              omega
    · obtain rfl : v = bal E (d, p', f) := by unfold bal; rw [get1_mem hn hmem]; rfl
      have hbk := hE (d, p', f)
      have hab := absI_bd hbk
      have htb := tot_bd (fun k => absI (bal E k)) 100000 S (fun k => absI_bd (hE k))
      go_wp2_with (go_at_call 55; refine (size_any _ _ (by omega) (by omega)).mono ?_; rintro e w' ⟨rfl, rfl⟩)
      have hnd : (keys E).Nodup := hn
      have hrl := hrng.map.lt
      have hw2 : Kp No wr w2 → True := fun _ => trivial
      -- the second map: 'pitches[key{k.division, k.pitch, 0}] += n'
      have hgr0 : Kp (Kq.One r) wr w2 := Kp.grown hgr (fun k hk _ => by cases hk; rfl)
      have hpit := (hC.pit.kept hgr (by simp; omega)).alloc (Obj.cells #[Value.int IntKind.i64 d, Value.int IntKind.i64 p', Value.int IntKind.i64 f] 92)
      have hdiv := (hC.div.kept hgr (by simp; omega)).alloc (Obj.cells #[Value.int IntKind.i64 d, Value.int IntKind.i64 p', Value.int IntKind.i64 f] 92)
      have hrng2 := hrng.alloc (Obj.cells #[Value.int IntKind.i64 d, Value.int IntKind.i64 p', Value.int IntKind.i64 f] 92)
      have x0 : (w2.alloc (Obj.cells #[Value.int IntKind.i64 d, Value.int IntKind.i64 p', Value.int IntKind.i64 f] 92)).cell? ⟨wr.heap.size, 0, none⟩ = some (.int .i64 d) := by rw [← hsz]; go_simp
      have x1 : (w2.alloc (Obj.cells #[Value.int IntKind.i64 d, Value.int IntKind.i64 p', Value.int IntKind.i64 f] 92)).cell? ⟨wr.heap.size, 1, none⟩ = some (.int .i64 p') := by rw [← hsz]; go_simp
      have hkp2 : Kp (Kq.One r) wr (w2.alloc (Obj.cells #[Value.int IntKind.i64 d, Value.int IntKind.i64 p', Value.int IntKind.i64 f] 92)) := hgr0.tr (Kp.alloc _ _ _)
      have hpl := hC.pit.lt
      have hql := hC.div.lt
      have hne : wr.heap.size ≠ p := by omega
      have hpb := pm_bd (bal E) hE S (up (d, p', f))
      have hpbd := Lib.hid hpb
      have hSl : S.length ≤ 1000 := by omega
      have hnew : -100000000 ≤ bal (pm (bal E) S) (up (d, p', f)) ∧ bal (pm (bal E) S) (up (d, p', f)) ≤ 100000000 := by omega
      clear hpb hgr hen hgr0
      generalize hB2 : wr.heap.size = B2 at *
      have HB2 := Lib.hid hB2
      clear hB2
      generalize w2.alloc (Obj.cells #[Value.int IntKind.i64 d, Value.int IntKind.i64 p', Value.int IntKind.i64 f] 92) = w3 at *
      refine wp_region_each (fun i u => match i with
          | 0 => u = .map (some p) | 1 => u = .pointer (some ⟨B2, 0, none⟩) | 2 => u = .int .i64 d | 3 => u = .pointer (some ⟨B2, 1, none⟩) | 4 => u = .int .i64 p' | 5 => u = ek (d, p', 0) | 6 => u = .int .i64 (bal (pm (bal E) S) (up (d, p', f)))
          | 7 => u = .int .i64 (bal E (d, p', f)) | 8 => u = .int .i64 (bal (pm (bal E) S) (up (d, p', f)) + bal E (d, p', f)) | _ => True)
        (fun r' w' => Kp (Kq.One p) w3 w' ∧ OpW w' p ek (Value.int .i64) (pm (bal E) S) (up (d, p', f)) (bal (pm (bal E) S) (up (d, p', f))) (bal (pm (bal E) S) (up (d, p', f)) + bal E (d, p', f)) (r' 6) (r' 9) (r' 10) (r' 11)) (by kernel_rfl) (by kernel_rfl) (by kernel_rfl) ?_ ?_ ?_
      · exact ⟨Kp.drew _ _, OpW.start hpit.drew _ _ _⟩
      · refine ⟨?_, ?_, ?_, ?_, ?_, ?_, ?_, ?_, ?_, ?_, ?_, ?_, trivial⟩
        · intro r a w' hf hg hW hr hd K hK
          refine wpOp_of rfl rfl ?_
          have e0 : a.tmps.getD 4 undef = .map (some p) := hf.evalFree (by kernel_rfl)
          go_simp
          exact hK _ _ rfl hW
        · intro r a w' hf hg hW hr hd K hK
          refine wpOp_of rfl rfl ?_
          have e0 : a.tmps.getD 6 undef = .pointer (some ⟨B2, 0, none⟩) := hf.evalFree (by kernel_rfl)
          go_simp
          exact hK _ _ rfl hW
        · intro r a w' hf hg hW hr hd K hK
          refine wpOp_of rfl rfl ?_
          refine hf.depE hg hd 1 26 (by kernel_rfl) fun u1 e0 g1 _ => ?_
          replace g1 : u1 = .pointer (some ⟨B2, 0, none⟩) := g1
          subst g1
          have y0 := hW.1.cell x0 hne
          go_simp
          exact hK _ _ rfl hW
        · intro r a w' hf hg hW hr hd K hK
          refine wpOp_of rfl rfl ?_
          have e0 : a.tmps.getD 6 undef = .pointer (some ⟨B2, 0, none⟩) := hf.evalFree (by kernel_rfl)
          go_simp
          exact hK _ _ rfl hW
        · intro r a w' hf hg hW hr hd K hK
          refine wpOp_of rfl rfl ?_
          refine hf.depE hg hd 3 28 (by kernel_rfl) fun u1 e0 g1 _ => ?_
          replace g1 : u1 = .pointer (some ⟨B2, 1, none⟩) := g1
          subst g1
          have y1 := hW.1.cell x1 hne
          go_simp
          exact hK _ _ rfl hW
        · intro r a w' hf hg hW hr hd K hK
          refine wpOp_of rfl rfl ?_
          refine hf.depE hg hd 2 27 (by kernel_rfl) fun u1 e0 g1 _ => ?_
          replace g1 : u1 = .int .i64 d := g1
          subst g1
          refine hf.depE hg hd 4 29 (by kernel_rfl) fun u2 e1 g2 _ => ?_
          replace g2 : u2 = .int .i64 p' := g2
          subst g2
          have e0' := get_of_getD e0
          have e1' := get_of_getD e1
          go_simp
          exact hK _ _ rfl hW
        · intro r a w' hf hg hW hr hd K hK
          refine wpOp_of rfl rfl ?_
          refine hf.depE hg hd 0 25 (by kernel_rfl) fun u0 e0 g0 _ => ?_
          replace g0 : u0 = .map (some p) := g0
          subst g0
          refine hf.depE hg hd 5 30 (by kernel_rfl) fun u2 e1 g2 _ => ?_
          replace g2 : u2 = ek (up (d, p', f)) := g2
          subst g2
          have hO := hW.2
          rw [hr] at hO
          have hlk := hO.lookup (P := Try.prog) rfl keyOk Try.underlying63 (zeroInt3 w')
          go_simp
          exact hK _ _ rfl ⟨hW.1, hO.looked _⟩
        · intro r a w' hf hg hW hr hd K hK
          refine wpOp_of rfl rfl ?_
          have e0 : a.tmps.getD 7 undef = .int .i64 (bal E (d, p', f)) := hf.evalFree (by kernel_rfl)
          go_simp
          exact hK _ _ rfl hW
        · intro r a w' hf hg hW hr hd K hK
          refine wpOp_of rfl rfl ?_
          refine hf.depE hg hd 6 31 (by kernel_rfl) fun u3 e0 g3 _ => ?_
          replace g3 : u3 = .int .i64 (bal (pm (bal E) S) (up (d, p', f))) := g3
          subst g3
          refine hf.depE hg hd 7 32 (by kernel_rfl) fun u7 e1 g7 _ => ?_
          replace g7 : u7 = .int .i64 (bal E (d, p', f)) := g7
          subst g7
          go_simp
          exact hK _ _ (by first | rfl | exact congrArg _ (IntWalk.i64_in _ (by omega))) hW
        · intro r a w' hf hg hW hr hd K hK
          refine wpOp_of rfl rfl ?_
          refine hf.depE hg hd 0 25 (by kernel_rfl) fun u0 e0 g0 _ => ?_
          replace g0 : u0 = .map (some p) := g0
          subst g0
          refine hf.depE hg hd 5 30 (by kernel_rfl) fun u2 e1 g2 _ => ?_
          replace g2 : u2 = ek (up (d, p', f)) := g2
          subst g2
          have hO := hW.2
          rw [hr] at hO
          obtain ⟨w4, x, hrun, hO', hgr, hsz⟩ := hO.entry (P := Try.prog) rfl keyOk Try.underlying63 (zeroInt3 w')
          go_simp
          exact hK _ _ trivial ⟨hW.1.tr (Kp.grown hgr fun k hk _ => by cases hk; rfl), hO'⟩
        · intro r a w' hf hg hW hr hd K hK
          refine wpOp_of rfl rfl ?_
          refine hf.depE hg hd 9 34 (by kernel_rfl) fun u9 e0 g9 h9 => ?_
          have hO := hW.2
          rw [hr, h9] at hO
          obtain ⟨x, rfl, hO'⟩ := hO.extract
          go_simp
          exact hK _ _ trivial ⟨hW.1, by rw [← h9] at hO'; exact hO'⟩
        · intro r a w' hf hg hW hr hd K hK
          refine wpOp_of rfl rfl ?_
          refine hf.depE hg hd 0 25 (by kernel_rfl) fun u0 e0 g0 _ => ?_
          replace g0 : u0 = .map (some p) := g0
          subst g0
          refine hf.depE hg hd 6 31 (by kernel_rfl) fun u6 _ _ h6 => ?_
          refine hf.depE hg hd 9 34 (by kernel_rfl) fun u9 _ _ h9 => ?_
          refine hf.depE hg hd 10 35 (by kernel_rfl) fun u10 e1 _ h10 => ?_
          refine hf.depE hg hd 8 33 (by kernel_rfl) fun u8 e2 g8 _ => ?_
          replace g8 : u8 = .int .i64 (bal (pm (bal E) S) (up (d, p', f)) + bal E (d, p', f)) := g8
          subst g8
          have hO := hW.2
          rw [h6, h9, h10, hr] at hO
          obtain ⟨x, w4, rfl, hrun, hO', hgr, hsz⟩ := hO.store (P := Try.prog) (t := 63) ek_inj
          go_simp
          refine hK undef _ trivial ⟨hW.1.tr (Kp.grown hgr fun k hk _ => by cases hk; rfl), ?_⟩
          have := hO' undef
          rw [← h6, ← h9, ← h10] at this
          exact this
      · intro r' w4 hg hW hr'
        have hfin := hW.2.e2 (hr' 11 (by decide))
        have hk4 := hW.1
        have y0 := hk4.cell x0 hne
        clear hg hW hr'
        simp only [List.length_cons, List.length_nil, Nat.reduceAdd, List.range_succ, List.range_zero, List.nil_append, List.cons_append, List.map_cons, List.map_nil, putAll, Act.put, List.setIfInBounds_toArray, List.set_cons_succ, List.set_cons_zero]
        have hdiv4 := hdiv.kept hk4.toGrown (by simp; omega)
        have hdb : -100000000 ≤ (get1 (dm (bal E) S) d).getD 0 ∧ (get1 (dm (bal E) S) d).getD 0 ≤ 100000000 := by
          have := dm_bd (bal E) hE S d
          unfold get0 at this
          omega
        have hrng4 := hrng2.kept hk4.toGrown (by simp; omega) (by simp; omega)
        go_wp2_with (first
          | (at_lookup; refine wpL_lookup _ rfl _ _ _ rfl intOk Try.underlying90 (zeroInt3 _) hdiv4 d rfl rfl ?_)
          | (at_mapUpdate; refine wpL_update _ rfl _ _ _ _ rfl intOk Try.underlying90 hdiv4 d ((get1 (dm (bal E) S) d).getD 0 + bal E (d, p', f)) rfl rfl rfl (fun w5 hd5 hg5 hs5 => ?_)))
        go_roundg (gk - 1)
        case measure => have := (RangeAt_len hrng).2.2; simp at this; omega
        case rel =>
          have hl := (RangeAt_len hrng).2.2
          simp only [List.length_cons] at hl
          refine ⟨(d, p', f) :: S, by simp; omega, ⟨hrng4.kept hg5 (by simp; omega) (by simp; omega), ?_, ?_, ?_, ?_⟩⟩
          · rw [tot_cons]
            go_num
          · exact hfin.kept hg5 (by simp; omega)
          · exact hd5
          · have hz := Hp.out
            refine ((hC.kp.trans hkp2 (fun k hk h => ?_)).trans hk4 (fun k hk h => ?_)).trans (Kp.grown (S := Kq.One q) hg5 fun k hk _ => by cases hk; rfl) (fun k hk h => ?_)
            all_goals
              unfold Kq.One at h
              omega
end Go.Proofs.Ytfflhlmnfhfcgaa
