/- Chapter 24: the pipes of each field: walked. Printed by gen_pnb.py. -/
import Derived.Test.YtakgcnjpmpcekaaGreatXPnC
import Derived.Test.YtakgcnjpmpcekaaGreatXRwMM
namespace Go.Proofs.YtakgcnjpmpcekaaGreat
open Go.RowKit Go.Kq

/-- The fields when s sides of group k are filled. -/
def stL (l : List Fc) (ns : List Nat) (k s : Nat) : List (List Nat) :=
  if s = 0 then partN l.length (fldN l ns) k
  else if s = 1 then (partN l.length (fldN l ns) k).set (lefN l.length k) (fldN l ns (lefN l.length k))
  else ((partN l.length (fldN l ns) k).set (lefN l.length k) (fldN l ns (lefN l.length k))).set (l.length - 1 - lefN l.length k) (fldN l ns (l.length - 1 - lefN l.length k))
def fiN (L k s : Nat) : Nat := if s = 0 then lefN L k else L - 1 - lefN L k
theorem st_end (l : List Fc) (ns : List Nat) {k : Nat} (hk : k < (l.length + 1) / 2) : stL l ns k (sizN l.length k) = partN l.length (fldN l ns) (k + 1) := by
  rw [← part_step _ hk]
  unfold stL
  by_cases hs : sizN l.length k = 1
  · rw [if_neg (by omega), if_pos hs, siz_one hs, List.set_set]
  · rw [if_neg (by rw [(siz_two hs).1]; omega), if_neg hs]
theorem st_row (l : List Fc) (ns : List Nat) {k s : Nat} (hk : k < (l.length + 1) / 2) (hs : s < sizN l.length k) : fiN l.length k s < l.length ∧ (stL l ns k s)[fiN l.length k s]? = some [] ∧ stL l ns k (s + 1) = (stL l ns k s).set (fiN l.length k s) (fldN l ns (fiN l.length k s)) := by
  have hl := lef_lt hk
  have g1 := (grp_iff hl.1 hk).2 (.inl rfl)
  have g2 := (grp_iff hl.2.1 hk).2 (.inr rfl)
  unfold fiN stL
  by_cases h0 : s = 0
  · subst h0
    rw [if_pos rfl, if_pos rfl, if_neg (by omega), if_pos (by omega)]
    exact ⟨hl.1, by rw [part_get _ k hl.1, if_neg (by omega)], rfl⟩
  · have hs2 : ¬ sizN l.length k = 1 := by omega
    have h1 : s = 1 := by have := (siz_two hs2).1; omega
    subst h1
    rw [if_neg (by omega), if_neg (by omega), if_pos rfl, if_neg (by omega), if_neg (by omega)]
    exact ⟨hl.2.1, by rw [List.getElem?_set_ne (siz_two hs2).2, part_get _ k hl.2.1, if_neg (by omega)], rfl⟩
theorem fld_side (l : List Fc) (ns : List Nat) {k s : Nat} (hk : k < (l.length + 1) / 2) (hs : s < sizN l.length k) : fldN l ns (fiN l.length k s) = (staN (ns.getD k 0) (l.getD (fiN l.length k s) default).k (decide (s = 1))).map fun x => atN l.length ns k + sizN l.length k * x + s := by
  have hl := lef_lt hk
  have g1 := (grp_iff hl.1 hk).2 (.inl rfl)
  have g2 := (grp_iff hl.2.1 hk).2 (.inr rfl)
  unfold fiN fldN
  by_cases h0 : s = 0
  · subst h0
    rw [if_pos rfl, g1, rgt_left hk]
    rfl
  · have hs2 : ¬ sizN l.length k = 1 := by omega
    have h1 : s = 1 := by have := (siz_two hs2).1; omega
    subst h1
    rw [if_neg (by omega), g2, rgt_right hs2]
    rfl
theorem intP_set (P : List (List Nat)) (i : Nat) (S : List Nat) : intP (P.set i S) = (intP P).set i (cI S) := by
  unfold intP
  rw [List.map_set]
  rfl
theorem intP_get {P : List (List Nat)} {i : Nat} {S : List Nat} (h : P[i]? = some S) : (intP P)[i]? = some (cI S) := by
  unfold intP
  rw [List.getElem?_map, h]
  rfl
theorem sta_lt {n : Nat} {k : Int} {right : Bool} {x : Nat} (h : x ∈ staN n k right) : x < n := List.mem_range.1 ((sta_perm n k right).mem_iff.1 h)
theorem take_map_succ {α β : Type} (f : α → β) (l : List α) (i : Nat) (x : α) (h : l[i]? = some x) : (l.take (i + 1)).map f = (l.take i).map f ++ [f x] := by
  rw [List.take_add_one, h]
  simp
theorem Cx.Me.alien {X : Cx} {S : Nat → Prop} {w w' : World} {av : Nat → Prop} (h : X.Me w av) (k : Kp S w w') (hS : ∀ b, S b → X.w0.heap.size ≤ b ∧ ∀ cs t m, w.heap[b]? = some (.cells cs t m) → t = 3 ∨ t = 36) : X.Me w' av := by
  obtain ⟨h1, h2, h3, h4, cs, h5, h6⟩ := h
  have ne : ∀ {b : Nat} {c : Array Value} {t : TypeId}, w.heap[b]? = some (.cells c t (0, 0)) → t ≠ 3 → t ≠ 36 → ¬ S b := fun {b c t} hb n1 n2 e => by
    rcases (hS b e).2 _ _ _ hb with e | e
    · exact n1 e
    · exact n2 e
  refine ⟨h1.trans k fun b hb e => by have := (hS b e).1; omega, k.heap h2 (ne h2 (by decide) (by decide)), k.heap h3 (ne h3 (by decide) (by decide)), k.heap h4 (ne h4 (by decide) (by decide)), cs, k.heap h5 (ne h5 (by decide) (by decide)), fun a b ha hb => ?_⟩
  obtain ⟨v, hv, he⟩ := h6 a b ha hb
  refine ⟨v, hv, ?_⟩
  rcases he with he | ⟨p, rfl, e1, e2, e3⟩
  · exact .inl he
  · exact .inr ⟨p, rfl, e1, e2, k.heap e3 (ne e3 (by decide) (by decide))⟩
theorem Cx.All.alien {X : Cx} {S : Nat → Prop} {w w' : World} {gA pa : Nat} {q : Int × Bool} (h : X.All gA pa q w) (k : Kp S w w') (hS : ∀ b, S b → ∀ cs t m, w.heap[b]? = some (.cells cs t m) → t = 3 ∨ t = 36) : X.All gA pa q w' := by
  have ne : ∀ {b : Nat} {c : Array Value} {t : TypeId}, w.heap[b]? = some (.cells c t (0, 0)) → t ≠ 3 → t ≠ 36 → ¬ S b := fun {b c t} hb n1 n2 e => by
    rcases hS b e _ _ _ hb with e | e
    · exact n1 e
    · exact n2 e
  exact ⟨k.heap h.a (ne h.a (by decide) (by decide)), k.heap h.p (ne h.p (by decide) (by decide))⟩
theorem own_block {w : World} {base n c : Nat} {A : Option Addr} {S : List Int} (h : OwI w base (.slice A n c) S) {b : Nat} : (Value.slice A n c).ownBlock = some b ↔ A = some ⟨b, 0, none⟩ := by
  rcases h.2 with ⟨hv, _⟩ | ⟨g, _, _, hv, _⟩
  · injection hv with e1 _ _
    subst e1
    exact ⟨fun h => (by cases h), fun h => (by cases h)⟩
  · injection hv with e1 _ _
    subst e1
    constructor
    · intro h
      injection h with h
      have h : g = b := h
      rw [h]
    · intro h
      injection h with h
      injection h with h _ _
      subst h
      rfl
/-- The rows' own blocks are none of these. -/
def Apart (w : World) (g : Nat) (av : Nat → Prop) : Prop := ∀ i v b, w.cell? ⟨g, i, none⟩ = some v → v.ownBlock = some b → ¬ av b
theorem Apart.kp {S : Nat → Prop} {w w' : World} {g : Nat} {av : Nat → Prop} (h : Apart w g av) (k : Kp S w w') (hg : ¬ S g) (hl : g < w.heap.size) : Apart w' g av := fun i v b hc hb => h i v b ((World.cell?_of_block (k.block g hl hg)).symm.trans hc) hb
theorem Apart.set {w w' : World} {S : Nat → Prop} {g i : Nat} {av : Nat → Prop} {v : Value} (h : Apart w g av) (k : Kp S w w') (hg : ¬ S g) (hl : g < w.heap.size) (hv : ∀ b, v.ownBlock = some b → ¬ av b) (hc0 : ∃ u, w'.cell? ⟨g, i, none⟩ = some u) : Apart (w'.setCell ⟨g, i, none⟩ v) g av := fun j u b hc hb => by
  have h2 := h.kp k hg hl
  by_cases e : i = j
  · subst e
    have : (w'.setCell ⟨g, i, none⟩ v).cell? ⟨g, i, none⟩ = some v := by
      obtain ⟨u0, hu0⟩ := hc0
      exact World.cell?_setCell_same' w' _ v (by rw [hu0]; rfl)
    rw [this] at hc
    injection hc with hc
    subst hc
    exact hv b hb
  · have : (w'.setCell ⟨g, i, none⟩ v).cell? ⟨g, j, none⟩ = w'.cell? ⟨g, j, none⟩ := World.cell?_setCell_other _ _ _ _ (by intro h; injection h with _ h _; exact e h)
    rw [this] at hc
    exact h2 j u b hc hb
theorem RwM.apart {base g L : Nat} {w : World} {Ls : List (List Int)} {av : Nat → Prop} (h : RwM base w g L Ls) (hav : ∀ b, av b → w.heap.size ≤ b) : Apart w g av := fun i v b hc hb ha => by
  obtain ⟨h1, h2, us, h3, h4, h5, h6⟩ := h
  rw [cell_of_row _ _ _ _ _ _ h3] at hc
  have hi : i < Ls.length := by rw [h1, ← h4]; exact (Array.getElem?_eq_some_iff.1 hc).1
  obtain ⟨v0, hv0, ho⟩ := h5 i _ (List.getElem?_eq_getElem hi)
  rw [hc] at hv0
  injection hv0 with hv0
  subst hv0
  have := (own_ge ho hb).2
  have := hav b ha
  omega
theorem Apart.or {w : World} {g : Nat} {av av' : Nat → Prop} (h : Apart w g av) (h' : Apart w g av') : Apart w g fun b => av b ∨ av' b := fun i v b hc hb ha => by
  rcases ha with ha | ha
  · exact h i v b hc hb ha
  · exact h' i v b hc hb ha
theorem Kp.nothing (w : World) : Kp No { w with heap := #[] } w := ⟨rfl, rfl, rfl, Nat.zero_le _, fun k hk _ => absurd hk (Nat.not_lt_zero k)⟩
def StdR (X : Cx) (av : Nat → Prop) (v : Int) (w : World) (e : Ending) (w' : World) : Prop := ∃ g, e = .returned (.slice (some ⟨g, 0, none⟩) X.n X.n) ∧ RwM w.heap.size w' g X.n (intP (stdN X.l X.r X.least v X.J 0 (List.replicate X.n []))) ∧ X.Me w' av ∧ Kp (Kq.One X.gK) w w'
set_option maxHeartbeats 16000000 in
set_option maxRecDepth 100000 in
theorem stand_any (X : Cx) (H : X.Ok) (hkd : ∀ f ∈ X.l, 1 ≤ f.k ∧ f.k ≤ 4) (gA pa : Nat) (q : Int × Bool) (av : Nat → Prop) (w : World) (hm : X.Me w av) (hav : ∀ b, av b → b < w.heap.size) (hA : X.All gA pa q w) (hb : bleN q.1 (bstN X.l X.r X.least X.J 0) = true) :
    Calls Tryz.prog 32 #[frV X.A X.n X.ca X.R X.m X.cr X.least, .func (.func 33) #[] #[pt X.gF, pt X.gB, pt gA]] w (StdR X av q.1 w) := by
  have HAV := Lib.hid hav
  have HW0 := Lib.hid hm.kp.size
  have hn12 := H.hn
  have h60 := H.hm
  have hln := H.hA.1
  have HKD := Lib.hid hkd
  have GS := Lib.hid (fun w0 => groups_any X.A X.R X.n X.ca X.m X.cr X.least w0 H.hn)
  have HMK := Lib.hid (make_rows X.n (by omega))
  have hmk := make_rows X.n (by omega) (w.alloc (.cells #[.slice X.A X.n X.ca, .slice X.R X.m X.cr, .int .i64 X.least] 62))
  unfold frV frC at *
  have hJ6 : (X.n + 1) / 2 ≤ 6 := by omega
  obtain ⟨ns, hns⟩ : ∃ ns, ns = grN X.l X.r X.least q.1 X.J 0 := ⟨_, rfl⟩
  have HST := Lib.hid (show stdN X.l X.r X.least q.1 X.J 0 (List.replicate X.n []) = partN X.n (fldN X.l ns) X.J by
    have h := std_plan X.l X.r X.least q.1
    have h2 := part_all X.n (fldN X.l ns)
    unfold Cx.J at *
    rw [← hln] at h2 ⊢
    rw [h2, h, hns, hln]
    unfold planN
    rw [hln])
  have hka := Kp.alloc No w (.cells #[.slice X.A X.n X.ca, .slice X.R X.m X.cr, .int .i64 X.least] 62)
  have hbx : (w.alloc (.cells #[.slice X.A X.n X.ca, .slice X.R X.m X.cr, .int .i64 X.least] 62)).heap[w.heap.size]? = some (.cells #[.slice X.A X.n X.ca, .slice X.R X.m X.cr, .int .i64 X.least] 62 (0, 0)) := heap_alloc_new _ _
  obtain ⟨g2, hg2⟩ : ∃ g2, g2 = w.heap.size := ⟨_, rfl⟩
  rw [← hg2] at hbx
  have hbx0 : (w.alloc (.cells #[.slice X.A X.n X.ca, .slice X.R X.m X.cr, .int .i64 X.least] 62)).cell? ⟨g2, 0, none⟩ = some (.slice X.A X.n X.ca) := by rw [cell_of_row _ _ _ _ _ _ hbx]; rfl
  have HM1 := Lib.hid (hm.no hka)
  have HA1 := Lib.hid (hA.kp hm (hka.mono fun _ _ h => h.elim))
  have HK1 := Lib.hid hka
  have HB0 := Lib.hid hb
  clear hm hav hA hka hb hkd HMK
  go_enter Tryz.func32, Tryz.ntmps32
  go_wp2_with fail
  obtain ⟨gr, hgr⟩ : ∃ gr, gr = (w.alloc (.cells #[.slice X.A X.n X.ca, .slice X.R X.m X.cr, .int .i64 X.least] 62)).heap.size := ⟨_, rfl⟩
  have hrw := RwM.made (w.alloc (.cells #[.slice X.A X.n X.ca, .slice X.R X.m X.cr, .int .i64 X.least] 62)) X.n w.heap.size (Kp.alloc No w _).size
  rw [← hgr] at hrw hmk
  have hgr1 : gr = w.heap.size + 1 := by rw [hgr, World.size_alloc]
  rw [← hgr1, ← hg2]
  generalize w.alloc (.cells #[.slice X.A X.n X.ca, .slice X.R X.m X.cr, .int .i64 X.least] 62) = w1 at *
  have hkb := Kp.alloc No w1 (.cells (Array.replicate X.n (.slice none 0 0)) 36)
  have hbx2 := hkb.heap hbx id
  generalize w1.alloc (.cells (Array.replicate X.n (.slice none 0 0)) 36) = w2 at *
  have HM2 := Lib.hid (HM1.out.no hkb)
  have HA2 := Lib.hid (HA1.out.kp HM1.out (hkb.mono fun _ _ h => h.elim))
  have HK2 := Lib.hid (HK1.out.tr hkb)
  have c0 : w2.cell? ⟨g2, 0, none⟩ = some (.slice X.A X.n X.ca) := by rw [cell_of_row _ _ _ _ _ _ hbx2]; rfl
  have c1 : w2.cell? ⟨g2, 1, none⟩ = some (.slice X.R X.m X.cr) := by rw [cell_of_row _ _ _ _ _ _ hbx2]; rfl
  have c2 : w2.cell? ⟨g2, 2, none⟩ = some (.int .i64 X.least) := by rw [cell_of_row _ _ _ _ _ _ hbx2]; rfl
  have HBX := Lib.hid hbx2
  have HRW := Lib.hid hrw
  have HG2 := Lib.hid hg2
  have HGR := Lib.hid hgr
  have HNS := Lib.hid hns
  clear hbx hbx0 hbx2 hkb hrw hmk HM1 HA1 HK1 hg2 hgr hgr1 hns
  go_wp2_with fail
  with_reducible refine (GS.out _).mono ?_
  rintro e w3 ⟨rfl, k3⟩
  have HM3 := Lib.hid (HM2.out.no k3)
  have HA3 := Lib.hid (HA2.out.kp HM2.out (k3.mono fun _ _ h => h.elim))
  have HK3 := Lib.hid (HK2.out.tr k3)
  have HBX3 := Lib.hid (k3.heap HBX.out id)
  have HRW3 := Lib.hid (HRW.out.no k3)
  clear HM2 HA2 HK2 HBX HRW c0 c1 c2 k3 GS
  obtain ⟨J, hJ⟩ : ∃ J, J = (X.n + 1) / 2 := ⟨_, rfl⟩
  have HJ := Lib.hid (show X.J = J by rw [hJ]; rfl)
  have HJL := Lib.hid (show (X.l.length + 1) / 2 = J by rw [hln, hJ])
  rw [← hJ] at hJ6 ⊢
  have HJn := Lib.hid hJ
  have HLN := Lib.hid hln
  clear hJ hln
  go_wp2_with fail
  go_loopw [6, 22] (fun a i wr => ∃ k : Nat, k ≤ J ∧ i = .int .i64 (k : Nat) ∧ a = .int .i64 (atN X.n ns k : Nat) ∧ atN X.n ns k ≤ X.m ∧ RwM w.heap.size wr gr X.n (intP (partN X.n (fldN X.l ns) k)) ∧ X.Me wr av ∧ Kp (fun b => b = X.gK ∨ (w.heap.size ≤ b ∧ b ≠ g2)) w3 wr ∧ X.All gA pa q wr ∧ bleN q.1 (bstN X.l X.r X.least (J - k) (atN X.n ns k)) = true ∧ ns.drop k = grN X.l X.r X.least q.1 (J - k) (atN X.n ns k)) (fun _ i _ => J - (intOf i).toNat)
  case atStart => exact ⟨0, by omega, rfl, rfl, Nat.zero_le _, by rw [part_zero]; unfold intP; rw [List.map_replicate]; exact HRW3.out, HM3.out, Kp.refl _ _, HA3.out, by rw [← HJ.out]; exact HB0.out, by rw [← HJ.out]; exact HNS.out⟩
  case round =>
    obtain ⟨k, hk, rfl, rfl, hatm, hrw, hme, hkp, hall, hble, hdrop⟩ := hrel
    have HRWK := Lib.hid hrw
    have HME := Lib.hid hme
    have HKP := Lib.hid hkp
    have HA := Lib.hid hall
    by_cases hlt : k < J
    · have hkn : k < (X.n + 1) / 2 := by rw [← HJn.out]; exact hlt
      have hkl : k < (X.l.length + 1) / 2 := by rw [HJL.out]; exact hlt
      obtain ⟨j, hj⟩ : ∃ j, J = k + (j + 1) := ⟨J - k - 1, by omega⟩
      have hjk : J - k = j + 1 := by omega
      rw [hjk] at hble hdrop
      have hkN : kN X.l j = k := by unfold kN; rw [HJL.out]; omega
      obtain ⟨SZ, hSZ⟩ : ∃ SZ, SZ = sizN X.n k := ⟨_, rfl⟩
      have hs1 : 1 ≤ SZ := by rw [hSZ]; exact siz_pos _ _
      have hs2 : SZ ≤ 2 := by rw [hSZ]; unfold sizN; split <;> omega
      have hnum : ns.getD k 0 = numN X.l X.r X.least q.1 j (atN X.n ns k) := by
        rw [List.getD_eq_getElem?_getD, ← List.head?_drop, hdrop]
        rfl
      obtain ⟨at_, hat⟩ : ∃ at_, at_ = atN X.n ns k := ⟨_, rfl⟩
      rw [← hat] at hatm hble hdrop hnum
      have hex : ∃ M, 1 ≤ M ∧ at_ + SZ * M ≤ X.m ∧ okN X.l X.r X.least q.1 j at_ M = true := by
        rw [bst_le, List.any_eq_true, hkN, HLN.out, ← hSZ, H.hR.1] at hble
        obtain ⟨M, hM1, hM2⟩ := hble
        have h3 := (ok_bound (r := X.r) hs1).1 (by rw [H.hR.1]; exact List.mem_range.1 hM1)
        rw [H.hR.1] at h3
        exact ⟨M + 1, by omega, by rcases h3 with h3 | h3; exact h3; exact h3.2.elim, hM2⟩
      obtain ⟨M, hM1, hMm, hMo⟩ := hex
      obtain ⟨f1, f2, f3, f4⟩ := fst_find (okN X.l X.r X.least q.1 j at_) (X.r.length + 1) 1 ⟨M, hM1, by
        rw [H.hR.1]
        have := Nat.mul_le_mul_right M hs1
        omega, hMo⟩
      have hnn : fstN (okN X.l X.r X.least q.1 j at_) (X.r.length + 1) 1 = ns.getD k 0 := by rw [hnum]; rfl
      rw [hnn] at f1 f2 f3 f4
      obtain ⟨nn, hnne⟩ : ∃ nn, nn = ns.getD k 0 := ⟨_, rfl⟩
      rw [← hnne] at f1 f2 f3 f4 hnn hnum
      have hnM : nn ≤ M := by
        rcases Nat.lt_or_ge M nn with h | h
        · rw [f4 M hM1 h] at hMo
          cases hMo
        · exact h
      have hnm : at_ + SZ * nn ≤ X.m := by
        have := Nat.mul_le_mul_left SZ hnM
        omega
      have hnn60 : nn ≤ 60 := by
        have := Nat.mul_le_mul_right nn hs1
        omega
      have hat2 : atN X.n ns (k + 1) = at_ + SZ * nn := by rw [atN, ← hat, ← hSZ, ← hnne]
      have hble2 : bleN q.1 (bstN X.l X.r X.least j (at_ + SZ * nn)) = true := by
        rw [ok_eq, hkN, HLN.out, ← hSZ] at f1
        simp only [Bool.and_eq_true] at f1
        exact f1.2
      have hdrop2 : ns.drop (k + 1) = grN X.l X.r X.least q.1 j (at_ + SZ * nn) := by
        rw [← List.tail_drop, hdrop]
        show grN X.l X.r X.least q.1 j _ = _
        rw [hkN, HLN.out, ← hSZ, hnum]
      have NUMC := Lib.hid (fun (w0 : World) (k0 : Kp (Kq.One X.gK) wr w0) (hm0 : X.Me w0 av) (ha0 : X.All gA pa q w0) => fnumber_any X H gA pa q j k at_ M av w0 (by rw [HJ.out]; omega) hatm hm0 (fun b hb => by
        have h1 := HAV.out b hb
        have h2 := HK3.out.size
        have h3 := HKP.out.size
        have h4 := k0.size
        omega) ha0 hM1 (by rw [← hSZ]; exact hMm) hMo)
      unfold NumR at NUMC
      rw [← hnum] at NUMC
      have SIZ := Lib.hid (fun w0 => fsize_any X.A X.R X.n X.ca X.m X.cr X.least k w0 H.hn hkn)
      have GRP := Lib.hid (fun w0 => group_any X.A X.R X.n X.ca X.m X.cr X.least k w0 H.hn hkn)
      rw [← hSZ] at SIZ
      unfold frV frC pt at *
      have E1 := Lib.hid hat2
      have E2 := Lib.hid hble2
      have E3 := Lib.hid hdrop2
      have EJ := Lib.hid (show J - (k + 1) = j by omega)
      have ESZ := Lib.hid hSZ
      have ENN := Lib.hid hnne
      have EAT := Lib.hid hat
      have hbx := HKP.out.heap HBX3.out (fun e => by
        rcases e with e | e
        · obtain ⟨_, _, _, _, cs', h5, _⟩ := HM3.out
          have h := HBX3.out
          rw [e, h5] at h
          injection h with h
          injection h with _ h
          exact absurd h (by decide)
        · exact e.2 rfl)
      have hne2 := Lib.hid (show ¬ Kq.One X.gK g2 from fun e => by
        have e : g2 = X.gK := e
        obtain ⟨_, _, _, _, cs', h5, _⟩ := HME.out
        have h := hbx
        rw [e, h5] at h
        injection h with h
        injection h with _ h
        exact absurd h (by decide))
      have c0 : wr.cell? ⟨g2, 0, none⟩ = some (.slice X.A X.n X.ca) := by rw [cell_of_row _ _ _ _ _ _ hbx]; rfl
      have c1 : wr.cell? ⟨g2, 1, none⟩ = some (.slice X.R X.m X.cr) := by rw [cell_of_row _ _ _ _ _ _ hbx]; rfl
      have c2 : wr.cell? ⟨g2, 2, none⟩ = some (.int .i64 X.least) := by rw [cell_of_row _ _ _ _ _ _ hbx]; rfl
      have HBXR := Lib.hid hbx
      clear hbx hrw hme hkp hall hble hdrop hkN hSZ hnum f1 f2 f3 f4 hnn hnM hat2 hble2 hdrop2 hMm hMo hM1 hkn hnne hjk
      rw [← hat]
      have HJ2 := Lib.hid hj
      clear hj hat
      go_wp2_with fail
      refine wp_region_each (fun ix uR => match ix with | 0 => uR = .func (.func 33) #[] #[.pointer (some ⟨X.gF, 0, none⟩), .pointer (some ⟨X.gB, 0, none⟩), .pointer (some ⟨gA, 0, none⟩)] | 1 => uR = .int .i64 (k : Nat) | 2 => uR = .int .i64 (at_ : Nat) | 3 => uR = .int .i64 (nn : Nat) | 4 => uR = .agg #[.slice X.A X.n X.ca, .slice X.R X.m X.cr, .int .i64 X.least] | 5 => uR = .int .i64 (k : Nat) | 6 => uR = .int .i64 (SZ : Nat) | 7 => uR = .int .i64 (nn : Nat) | 8 => uR = .int .i64 (SZ : Nat) | _ => True) (HvM (fun wz => X.Me wz av ∧ Kp (Kq.One X.gK) wr wz ∧ X.All gA pa q wz) (fun ix wz u => True)) (by kernel_rfl) (by kernel_rfl) (by kernel_rfl) ?_ ?_ ?_
      · exact HvM.start _ (⟨HME.out.no (Kp.drew _ _), Kp.drew _ _, HA.out.kp HME.out (Kp.drew _ _)⟩)
      · refine ⟨?_, ?_, ?_, ?_, ?_, ?_, ?_, ?_, ?_, trivial⟩
        · intro r a w' hf hg hW hr hd K hK
          refine wpOp_of rfl rfl ?_
          have e0 : a.tmps.getD 1 undef = .func (.func 33) #[] #[.pointer (some ⟨X.gF, 0, none⟩), .pointer (some ⟨X.gB, 0, none⟩), .pointer (some ⟨gA, 0, none⟩)] := hf.evalFree (by kernel_rfl)
          go_simp
          exact hK _ _ rfl (hW.upd 0 _ trivial)
        · intro r a w' hf hg hW hr hd K hK
          refine wpOp_of rfl rfl ?_
          have e0 : a.tmps.getD 7 undef = .int .i64 (k : Nat) := hf.evalFree (by kernel_rfl)
          go_simp
          exact hK _ _ rfl (hW.upd 1 _ trivial)
        · intro r a w' hf hg hW hr hd K hK
          refine wpOp_of rfl rfl ?_
          have e0 : a.tmps.getD 6 undef = .int .i64 (at_ : Nat) := hf.evalFree (by kernel_rfl)
          go_simp
          exact hK _ _ rfl (hW.upd 2 _ trivial)
        · intro r a w' hf hg hW hr hd K hK
          refine wpOp_of rfl rfl ?_
          refine hf.depE hg hd 0 25 (by kernel_rfl) fun u0 e0 g0 h0 => ?_
          replace g0 : u0 = .func (.func 33) #[] #[.pointer (some ⟨X.gF, 0, none⟩), .pointer (some ⟨X.gB, 0, none⟩), .pointer (some ⟨gA, 0, none⟩)] := g0
          subst g0
          refine hf.depE hg hd 1 26 (by kernel_rfl) fun u1 e1 g1 h1 => ?_
          replace g1 : u1 = .int .i64 (k : Nat) := g1
          subst g1
          refine hf.depE hg hd 2 27 (by kernel_rfl) fun u2 e2 g2 h2 => ?_
          replace g2 : u2 = .int .i64 (at_ : Nat) := g2
          subst g2
          go_simp
          with_reducible refine (NUMC.out _ hW.m.2.1 hW.m.1 hW.m.2.2).mono ?_
          rintro e w'' ⟨rfl, hm2, k⟩
          exact hK _ _ rfl ((hW.call ⟨hm2, hW.m.2.1.tr k, hW.m.2.2.kp hW.m.1 k⟩ fun _ _ h => h).upd 3 _ trivial)
        · intro r a w' hf hg hW hr hd K hK
          refine wpOp_of rfl rfl ?_
          have e0 : a.tmps.getD 2 undef = .pointer (some ⟨g2, 0, none⟩) := hf.evalFree (by kernel_rfl)
          have z0 := hW.m.2.1.cell c0 hne2.out
          have z1 := hW.m.2.1.cell c1 hne2.out
          have z2 := hW.m.2.1.cell c2 hne2.out
          go_simp
          exact hK _ _ rfl (hW.upd 4 _ trivial)
        · intro r a w' hf hg hW hr hd K hK
          refine wpOp_of rfl rfl ?_
          have e0 : a.tmps.getD 7 undef = .int .i64 (k : Nat) := hf.evalFree (by kernel_rfl)
          go_simp
          exact hK _ _ rfl (hW.upd 5 _ trivial)
        · intro r a w' hf hg hW hr hd K hK
          refine wpOp_of rfl rfl ?_
          refine hf.depE hg hd 4 29 (by kernel_rfl) fun u0 e0 g0 h0 => ?_
          replace g0 : u0 = .agg #[.slice X.A X.n X.ca, .slice X.R X.m X.cr, .int .i64 X.least] := g0
          subst g0
          refine hf.depE hg hd 5 30 (by kernel_rfl) fun u1 e1 g1 h1 => ?_
          replace g1 : u1 = .int .i64 (k : Nat) := g1
          subst g1
          go_simp
          with_reducible refine (SIZ.out _).mono ?_
          rintro e w'' ⟨rfl, k⟩
          exact hK _ _ rfl ((hW.call ⟨hW.m.1.no k, hW.m.2.1.no k, hW.m.2.2.kp hW.m.1 (k.mono fun _ _ h => h.elim)⟩ fun _ _ h => h).upd 6 _ trivial)
        · intro r a w' hf hg hW hr hd K hK
          refine wpOp_of rfl rfl ?_
          refine hf.depE hg hd 3 28 (by kernel_rfl) fun u0 e0 g0 h0 => ?_
          replace g0 : u0 = .int .i64 (nn : Nat) := g0
          subst g0
          go_simp
          exact hK _ _ rfl (hW.upd 7 _ trivial)
        · intro r a w' hf hg hW hr hd K hK
          refine wpOp_of rfl rfl ?_
          refine hf.depE hg hd 6 31 (by kernel_rfl) fun u0 e0 g0 h0 => ?_
          replace g0 : u0 = .int .i64 (SZ : Nat) := g0
          subst g0
          go_simp
          exact hK _ _ rfl (hW.upd 8 _ trivial)
      intro r' w5 hg hW hr'
      have hmN := hW.m
      obtain ⟨q7, hq7⟩ : ∃ u, r' 7 = some u := Option.ne_none_iff_exists'.1 (hr' 7 (by decide))
      have hk7 := hg 7 q7 hq7
      replace hk7 : q7 = .int .i64 (nn : Nat) := hk7
      subst hk7
      obtain ⟨q8, hq8⟩ : ∃ u, r' 8 = some u := Option.ne_none_iff_exists'.1 (hr' 8 (by decide))
      have hk8 := hg 8 q8 hq8
      replace hk8 : q8 = .int .i64 (SZ : Nat) := hk8
      subst hk8
      simp only [List.length_cons, List.length_nil, Nat.reduceAdd, List.range_succ, List.range_zero, List.nil_append, List.cons_append, List.map_cons, List.map_nil, putAll, Act.put, List.setIfInBounds_toArray, List.set_cons_succ, List.set_cons_zero, hq7, hq8, Option.getD_some]
      clear hg hW hr' hq7 hq8
      have HM5 := Lib.hid hmN
      clear hmN c0 c1 c2 NUMC SIZ
      have hbx5 := HM5.out.2.1.heap HBXR.out hne2.out
      have c0 : w5.cell? ⟨g2, 0, none⟩ = some (.slice X.A X.n X.ca) := by rw [cell_of_row _ _ _ _ _ _ hbx5]; rfl
      have c1 : w5.cell? ⟨g2, 1, none⟩ = some (.slice X.R X.m X.cr) := by rw [cell_of_row _ _ _ _ _ _ hbx5]; rfl
      have c2 : w5.cell? ⟨g2, 2, none⟩ = some (.int .i64 X.least) := by rw [cell_of_row _ _ _ _ _ _ hbx5]; rfl
      have HBX5 := Lib.hid hbx5
      clear hbx5
      go_wp2_with fail
      with_reducible refine (GRP.out _).mono ?_
      rintro e w6 ⟨rfl, k6⟩
      have k67 := Kp.alloc No w6 (.cells #[.int .i64 (lefN X.n k : Nat), .int .i64 (X.n - 1 - lefN X.n k : Nat)] 3)
      obtain ⟨gs, hgs⟩ : ∃ gs, gs = w6.heap.size := ⟨_, rfl⟩
      have hsl := heap_alloc_new w6 (.cells #[.int .i64 (lefN X.n k : Nat), .int .i64 (X.n - 1 - lefN X.n k : Nat)] 3)
      rw [← hgs] at hsl
      have hs2i : (SZ : Int) ≤ 2 := by omega
      have hs1i : (1 : Int) ≤ SZ := by omega
      go_wp2_with fail
      rw [← hgs]
      generalize w6.alloc (.cells #[.int .i64 (lefN X.n k : Nat), .int .i64 (X.n - 1 - lefN X.n k : Nat)] 3) = w7 at *
      have K57 := Lib.hid (k6.tr k67)
      have HRW5 := Lib.hid (show RwM w.heap.size w5 gr X.n (intP (partN X.n (fldN X.l ns) k)) from HRWK.out.kp HM5.out.2.1 fun b e cs t m hh => by
        have e : b = X.gK := e
        obtain ⟨_, _, _, _, cs', h5, _⟩ := HME.out
        rw [e, h5] at hh
        injection hh with hh
        injection hh with _ hh _
        exact ⟨fun e => absurd (hh.trans e) (by decide), fun e => absurd (hh.trans e) (by decide)⟩)
      have HM7 := Lib.hid (HM5.out.1.no K57.out)
      have HA7 := Lib.hid (HM5.out.2.2.kp HM5.out.1 (K57.out.mono fun _ _ h => h.elim))
      have HRW7 := Lib.hid (show RwM w.heap.size w7 gr X.n (intP (stL X.l ns k 0)) by
        have e : stL X.l ns k 0 = partN X.n (fldN X.l ns) k := by unfold stL; rw [if_pos rfl, HLN.out]
        rw [e]
        exact HRW5.out.no K57.out)
      have HAP7 := Lib.hid (show Apart w7 gr (fun b => b = gs) from (HRW5.out.apart (av := fun b => b = gs) (fun b e => by
        have h := k6.size
        omega)).kp K57.out id (by
          obtain ⟨_, _, us, h5, _⟩ := HRW5.out
          exact (Array.getElem?_eq_some_iff.1 h5).1))
      have HBX7 := Lib.hid (K57.out.heap HBX5.out id)
      have HSL := Lib.hid hsl
      have HK7 := Lib.hid (show Kp (fun b => b = X.gK ∨ (w.heap.size ≤ b ∧ b ≠ g2)) w3 w7 from (HKP.out.tr (HM5.out.2.1.mono fun _ _ h => .inl h)).no K57.out)
      have hne3 := Lib.hid (show ¬ Kq.One gr g2 from fun e => by
        have e : g2 = gr := e
        obtain ⟨_, _, us, h5, _⟩ := HRW7.out
        have h := HBX7.out
        rw [e, h5] at h
        injection h with h
        injection h with _ h
        exact absurd h (by decide))
      have hne4 := Lib.hid (show ¬ Kq.One gr gs from fun e => by
        have e : gs = gr := e
        obtain ⟨_, _, us, h5, _⟩ := HRW7.out
        have h := HSL.out
        rw [e, h5] at h
        injection h with h
        injection h with _ h
        exact absurd h (by decide))
      have hgrs := Lib.hid (show gr ≠ gs ∧ gr ≠ g2 from ⟨fun e => hne4.out e.symm, fun e => hne3.out e.symm⟩)
      have hgsz := Lib.hid (show w.heap.size ≤ gs by have h1 := HK7.out.size; have h2 := HK3.out.size; have h3 := (k6.size); have h4 := HM5.out.2.1.size; have h5 := HKP.out.size; omega)
      clear k6 k67 hsl hgs c0 c1 c2 HBXR HM5 HBX5
      go_loopw [44] (fun i wr => ∃ s : Nat, s ≤ SZ ∧ i = .int .i64 (s : Nat) ∧ RwM w.heap.size wr gr X.n (intP (stL X.l ns k s)) ∧ X.Me wr av ∧ X.All gA pa q wr ∧ Apart wr gr (fun b => b = gs) ∧ Kp (fun b => w.heap.size ≤ b ∧ b ≠ gs ∧ b ≠ g2) w7 wr) (fun i _ => SZ - (intOf i).toNat)
      case atStart => exact ⟨0, by omega, rfl, HRW7.out, HM7.out, HA7.out, HAP7.out, Kp.refl _ _⟩
      case round =>
        obtain ⟨s, hsS, rfl, hrw, hme, hall, hap, hkp⟩ := hrel
        have HAPW := Lib.hid hap
        have HRWW := Lib.hid hrw
        have HMW := Lib.hid hme
        have HAW := Lib.hid hall
        have HKW := Lib.hid hkp
        clear hrw hme hall hkp hap
        by_cases hlts : s < SZ
        · have hsz : s < sizN X.l.length k := by rw [HLN.out, ← ESZ.out]; exact hlts
          obtain ⟨r1, r2, r3⟩ := st_row X.l ns hkl hsz
          have rs := fld_side X.l ns hkl hsz
          rw [HLN.out] at r1 r2 r3 rs
          obtain ⟨f, hf⟩ : ∃ f, X.l[fiN X.n k s]? = some f := ⟨_, List.getElem?_eq_getElem (by rw [HLN.out]; exact r1)⟩
          rw [getD_at hf, ← ENN.out, ← EAT.out, ← ESZ.out] at rs
          obtain ⟨fi, hfi⟩ : ∃ fi, fi = fiN X.n k s := ⟨_, rfl⟩
          rw [← hfi] at r1 r2 r3 rs hf
          have EFI := Lib.hid hfi
          have R2 := Lib.hid r2
          have R3 := Lib.hid r3
          have RS := Lib.hid rs
          clear r2 r3 rs hfi hsz
          obtain rfl | rfl : s = 0 ∨ s = 1 := by omega
          · have hkf := HKD.out f (List.mem_of_getElem? hf)
            obtain ⟨b, o, hbo, _, d0, d1⟩ := rdf_at (H.hA.no HMW.out.kp) hf
            have hbx8 := HKW.out.heap HBX7.out (fun e => e.2.2 rfl)
            have c0 : wr.cell? ⟨g2, 0, none⟩ = some (.slice X.A X.n X.ca) := by rw [cell_of_row _ _ _ _ _ _ hbx8]; rfl
            have hsl := HKW.out.heap HSL.out (fun e => e.2.1 rfl)
            have c3 : wr.cell? ⟨gs, 0, none⟩ = some (.int .i64 (fi : Nat)) := by rw [cell_of_row _ _ _ _ _ _ hsl, EFI.out]; rfl
            have ORD := Lib.hid (fun w0 => order_any nn f.k false w0 hnn60 hkf)
            have HBX8 := Lib.hid hbx8
            have HFF := Lib.hid hf
            rw [hbo] at c0 ⊢
            clear hkf hsl hbx8 hf
            try rw [show ((0 : Nat) : Int) = 0 from rfl]
            obtain ⟨wo, hwo⟩ : ∃ wo, wr = wo := ⟨_, rfl⟩
            subst hwo
            go_wp2_with fail
            with_reducible refine (ORD.out _).mono ?_
            rintro e w9 ⟨gt, rfl, ho9, k9⟩
            obtain ⟨T, hT⟩ : ∃ T, T = staN nn f.k false := ⟨_, rfl⟩
            rw [← hT] at ho9
            have hTl : T.length = nn := by rw [hT, sta_len]
            have HTL := Lib.hid hTl
            have HTT := Lib.hid (show ∀ x ∈ T, x < nn from fun x hx => sta_lt (by rw [← hT]; exact hx))
            have ETT := Lib.hid hT
            have HO9 := Lib.hid ho9
            have hgt := own_ge ho9 (g := gt) rfl
            have HM9 := Lib.hid (HMW.out.no k9)
            have HA9 := Lib.hid (HAW.out.kp HMW.out (k9.mono fun _ _ h => h.elim))
            have HRW9 := Lib.hid (HRWW.out.no k9)
            have HBX9 := Lib.hid (k9.heap HBX8.out id)
            have HAP9 := Lib.hid (show Apart w9 gr (fun b => b = gs ∨ b = gt) from (HAPW.out.or (HRWW.out.apart (av := fun b => b = gt) (fun b e => by
              have h := hgt.1
              omega))).kp k9 id (by
                obtain ⟨_, _, us, h5, _⟩ := HRWW.out
                exact (Array.getElem?_eq_some_iff.1 h5).1))
            have hggt := Lib.hid (show w.heap.size ≤ gt ∧ gt ≠ gr by
              refine ⟨?_, fun e => ?_⟩
              · have h1 := hgt.1
                have h2 := hgsz.out
                have h3 := (Array.getElem?_eq_some_iff.1 (HKW.out.heap HSL.out (fun e => e.2.1 rfl))).1
                omega
              · obtain ⟨_, _, us, h5, _⟩ := HRWW.out
                have h := (Array.getElem?_eq_some_iff.1 h5).1
                have h1 := hgt.1
                omega)
            have HKW9 := Lib.hid (HKW.out.no k9)
            have HGS9 := Lib.hid (HKW9.out.heap HSL.out (fun e => e.2.1 rfl))
            obtain ⟨H0, hH0⟩ : ∃ H0 : Nat → Nat, H0 = fun x => at_ + SZ * x + 0 := ⟨_, rfl⟩
            replace RS := Lib.hid (show fldN X.l ns fi = (staN nn f.k false).map (fun x => at_ + SZ * x + 0) from RS.out)
            rw [← hH0] at RS
            have HH := Lib.hid (show ∀ x, H0 x = at_ + SZ * x + 0 from fun x => by rw [hH0])
            rw [← ETT.out] at RS
            clear ho9 hT hTl d0 d1 c3 hgt k9 hH0
            go_wp2_with fail
            go_loopw [60] (fun i wr => ∃ i0 : Nat, i0 ≤ nn ∧ i = .int .i64 (i0 : Nat) ∧ RwM w.heap.size wr gr X.n ((intP (stL X.l ns k 0)).set fi (cI ((T.take i0).map H0))) ∧ X.Me wr av ∧ X.All gA pa q wr ∧ Apart wr gr (fun b => b = gs ∨ b = gt) ∧ Kp (fun b => w.heap.size ≤ b ∧ b ≠ gs ∧ b ≠ gt ∧ b ≠ g2) w9 wr) (fun i _ => nn - (intOf i).toNat)
            case atStart =>
              refine ⟨0, by omega, rfl, ?_, HM9.out, HA9.out, HAP9.out, Kp.refl _ _⟩
              have e : (intP (stL X.l ns k 0)).set fi (cI ((T.take 0).map H0)) = intP (stL X.l ns k 0) := by
                rw [← intP_set]
                congr 1
                refine List.ext_getElem? fun z => ?_
                rw [List.getElem?_set]
                split
                · rename_i e
                  subst e
                  rw [R2.out, if_pos (List.getElem?_eq_some_iff.1 R2.out).1]
                  rfl
                · rfl
              rw [e]
              exact HRW9.out
            case round =>
              obtain ⟨i0, hi0, rfl, hrw, hme, hall, hap, hkp⟩ := hrel
              have HRW := Lib.hid hrw
              have HMZ := Lib.hid hme
              have HAZ := Lib.hid hall
              have HAPZ := Lib.hid hap
              have HKZ := Lib.hid hkp
              clear hrw hme hall hap hkp
              by_cases hlti : i0 < nn
              · obtain ⟨x, hx⟩ : ∃ x, T[i0]? = some x := ⟨_, List.getElem?_eq_getElem (by rw [HTL.out]; exact hlti)⟩
                have hxn := HTT.out x (List.mem_of_getElem? hx)
                have hO := HKZ.out.owns HO9.out (fun b hb e => by
                  have hb : some gt = some b := hb
                  injection hb with hb
                  exact e.2.2.1 hb.symm)
                have d3 : wr.cell? ⟨gt, i0, none⟩ = some (.int .i64 (x : Nat)) := own_cell (by rw [HTL.out] at hO; exact hO) (by rw [List.getElem?_map, hx]; rfl)
                have hrow : ((intP (stL X.l ns k 0)).set fi (cI ((T.take i0).map H0)))[fi]? = some (cI ((T.take i0).map H0)) := by
                  rw [List.getElem?_set_self]
                  have := (List.getElem?_eq_some_iff.1 (intP_get R2.out)).1
                  exact this
                obtain ⟨v, d4, d5, hov, hfiL, hgrl⟩ := HRW.out.cell hrow
                have hzl : (cI ((T.take i0).map H0)).length = i0 := by rw [cI_len, List.length_map, List.length_take, HTL.out]; omega
                obtain ⟨A1, c1, rfl, hc1, _, _⟩ := own_form hov
                rw [hzl] at d4
                have HOV := Lib.hid hov
                rw [hzl] at HOV
                have HZL := Lib.hid hzl
                obtain ⟨sj, hsj⟩ : ∃ sj, sj = SZ * x := ⟨_, rfl⟩
                have hsj2 : sj ≤ 120 := by
                  rw [hsj]
                  have := Nat.mul_le_mul hs2 (show x ≤ 60 by omega)
                  omega
                have hm1 : (SZ : Int) * (x : Int) = (sj : Int) := by rw [hsj]; simp
                obtain ⟨ya, hya⟩ : ∃ ya, ya = at_ + sj := ⟨_, rfl⟩
                have hya2 : ya ≤ 240 := by omega
                have hm2 : (at_ : Int) + (sj : Int) = (ya : Int) := by rw [hya]; simp
                have HSN := Lib.hid (show cI ((T.take (i0 + 1)).map H0) = cI ((T.take i0).map H0) ++ [(ya : Int)] by
                  rw [take_map_succ H0 T i0 x hx, cI_snoc, HH.out, ← hsj, ← hya]
                  rfl)
                have HROW := Lib.hid hrow
                have D4 := Lib.hid d4
                have HAB := Lib.hid (show ∀ b, A1 = some ⟨b, 0, none⟩ → w.heap.size ≤ b ∧ b ≠ gs ∧ b ≠ gt ∧ b ≠ g2 ∧ b ≠ gr ∧ ∀ cs t m, wr.heap[b]? = some (.cells cs t m) → t = 3 from fun b hb => by
                  have hb2 := (own_block (b := b) HOV.out).2 hb
                  have h1 := (own_ge hov (by rw [hzl]; exact hb2)).1
                  have h2 := HAPZ.out fi _ b D4.out hb2
                  obtain ⟨cs, m, hh⟩ := own_int hov (by rw [hzl]; exact hb2)
                  have hty : ∀ cs' t m', wr.heap[b]? = some (.cells cs' t m') → t = 3 := fun cs' t m' hh' => by
                    rw [hh] at hh'
                    injection hh' with hh'
                    injection hh' with _ hh' _
                    exact hh'.symm
                  refine ⟨h1, fun e => h2 (.inl e), fun e => h2 (.inr e), fun e => ?_, fun e => ?_, hty⟩
                  · have h := HKZ.out.heap HBX9.out (fun e => e.2.2.2 rfl)
                    subst e
                    exact absurd (hty _ _ _ h) (by decide)
                  · obtain ⟨_, _, us, h5, _⟩ := HRW.out
                    subst e
                    exact absurd (hty _ _ _ h5) (by decide))
                clear hx hO hrow hov hzl hsj hya
                go_wp2_with (at_builtin; refine stop_in ?_)
                refine stop_out ?_
                refine push_int rfl _ _ rfl w.heap.size A1 i0 c1 (cI ((T.take i0).map H0)) (ya : Int) rfl rfl rfl HZL.out HOV.out (by omega) (w0 := { wr with heap := #[] }) (Kp.nothing wr) (Nat.zero_le _) (by have h1 := hgsz.out; have h2 := (Array.getElem?_eq_some_iff.1 (HKZ.out.heap HBX9.out (fun e => e.2.2.2 rfl))).1; have h3 := HKZ.out.size; have h4 := (HRW.out.cell HROW.out); obtain ⟨_, _, _, _, _, h5⟩ := h4; have h6 := HRW.out.hg; omega) ?_
                intro g' c' w' ho' _ hkat
                obtain ⟨k', hat'⟩ := hkat
                rw [← HSN.out] at ho'
                have hkv : Kp (fun b => (Value.slice A1 i0 c1).ownBlock = some b) wr w' := k'.mono fun b _ e => (own_block HOV.out).2 e
                have hatv : (Value.slice (some ⟨g', 0, none⟩) (i0 + 1) c').ownBlock = (Value.slice A1 i0 c1).ownBlock ∨ ∀ b, (Value.slice (some ⟨g', 0, none⟩) (i0 + 1) c').ownBlock = some b → wr.heap.size ≤ b := by
                  rcases hat' with hat' | hat'
                  · left
                    rw [(own_block HOV.out).2 hat']
                    rfl
                  · right
                    intro b hb
                    have hb : some g' = some b := hb
                    injection hb with hb
                    omega
                obtain ⟨hr2, _⟩ := HRW.out.set HROW.out D4.out hkv ho' hatv
                rw [List.set_set] at hr2
                have hgr' : ¬ A1 = some ⟨gr, 0, none⟩ := fun e => (HAB.out gr e).2.2.2.2.1 rfl
                have d6 := k'.cell D4.out hgr'
                have d7 : w'.frozen? ⟨gr, fi, none⟩ = false := by rw [k'.frozen hgrl hgr']; exact d5
                have K2 := (k'.mono (T := fun b => A1 = some ⟨b, 0, none⟩ ∨ b = gr) fun b _ e => .inl e).tr ((kp_setOne w' gr fi (.slice (some ⟨g', 0, none⟩) (i0 + 1) c')).mono (T := fun b => A1 = some ⟨b, 0, none⟩ ∨ b = gr) fun b _ e => .inr e)
                have hty : ∀ b, (A1 = some ⟨b, 0, none⟩ ∨ b = gr) → (w.heap.size ≤ b ∧ b ≠ gs ∧ b ≠ gt ∧ b ≠ g2) ∧ ∀ cs t m, wr.heap[b]? = some (.cells cs t m) → t = 3 ∨ t = 36 := fun b e => by
                  rcases e with e | e
                  · obtain ⟨z1, z2, z3, z4, z5, z6⟩ := HAB.out b e
                    exact ⟨⟨z1, z2, z3, z4⟩, fun cs t m hh => .inl (z6 cs t m hh)⟩
                  · subst e
                    refine ⟨⟨HRW.out.hg, hgrs.out.1, fun e => hggt.out.2 e.symm, hgrs.out.2⟩, fun cs t m hh => .inr ?_⟩
                    obtain ⟨_, _, us, h5, _⟩ := HRW.out
                    rw [h5] at hh
                    injection hh with hh
                    injection hh with _ hh _
                    exact hh.symm
                have R3' := Lib.hid hr2
                have M3 := Lib.hid (HMZ.out.alien K2 fun b e => ⟨by have h1 := HW0.out; have h2 := (hty b e).1.1; omega, (hty b e).2⟩)
                have A3 := Lib.hid (HAZ.out.alien K2 fun b e => (hty b e).2)
                have AP3 := Lib.hid (HAPZ.out.set k' hgr' hgrl (v := .slice (some ⟨g', 0, none⟩) (i0 + 1) c') (i := fi) (fun b hb e => by
                  have hb : some g' = some b := hb
                  injection hb with hb
                  subst hb
                  rcases hat' with hat' | hat'
                  · obtain ⟨z1, z2, z3, z4, z5, z6⟩ := HAB.out g' hat'
                    rcases e with e | e
                    · exact z2 e
                    · exact z3 e
                  · rcases e with e | e
                    · have h1 := (Array.getElem?_eq_some_iff.1 ((HKZ.out.heap (HGS9.out) (fun e => e.2.1 rfl)))).1
                      omega
                    · have h1 := (own_ge HO9.out (g := gt) rfl).2
                      have h2 := HKZ.out.size
                      omega) ⟨_, d6⟩)
                have K3 := Lib.hid (HKZ.out.tr (K2.mono fun b _ e => (hty b e).1))
                clear hr2 K2 hty hkv hatv ho' k' hat'
                go_wp2_with fail
                go_roundw
                case rel => exact ⟨i0 + 1, by omega, by go_num, R3'.out, M3.out, A3.out, AP3.out, K3.out⟩
                case measure => simp [intOf]; omega
              · obtain rfl : i0 = nn := by omega
                have HE := Lib.hid (show (intP (stL X.l ns k 0)).set fi (cI ((T.take i0).map H0)) = intP (stL X.l ns k (0 + 1)) by
                  rw [R3.out, intP_set, RS.out, List.take_of_length_le (by rw [HTL.out]; exact Nat.le_refl _)])
                rw [HE.out] at HRW
                have KK := Lib.hid (show Kp (fun b => w.heap.size ≤ b ∧ b ≠ gs ∧ b ≠ g2) w7 wr from (HKW9.out).tr (HKZ.out.mono fun b _ e => ⟨e.1, e.2.1, e.2.2.2⟩))
                have AA := Lib.hid (show Apart wr gr (fun b => b = gs) from fun i v b h1 h2 h3 => HAPZ.out i v b h1 h2 (.inl h3))
                go_wp2_with fail
                go_roundw
                case rel => exact ⟨0 + 1, by omega, by go_num, HRW.out, HMZ.out, HAZ.out, AA.out, KK.out⟩
                case measure => simp [intOf]; omega
          · have hkf := HKD.out f (List.mem_of_getElem? hf)
            obtain ⟨b, o, hbo, _, d0, d1⟩ := rdf_at (H.hA.no HMW.out.kp) hf
            have hbx8 := HKW.out.heap HBX7.out (fun e => e.2.2 rfl)
            have c0 : wr.cell? ⟨g2, 0, none⟩ = some (.slice X.A X.n X.ca) := by rw [cell_of_row _ _ _ _ _ _ hbx8]; rfl
            have hsl := HKW.out.heap HSL.out (fun e => e.2.1 rfl)
            have c3 : wr.cell? ⟨gs, 1, none⟩ = some (.int .i64 (fi : Nat)) := by rw [cell_of_row _ _ _ _ _ _ hsl, EFI.out]; rfl
            have ORD := Lib.hid (fun w0 => order_any nn f.k true w0 hnn60 hkf)
            have HBX8 := Lib.hid hbx8
            have HFF := Lib.hid hf
            rw [hbo] at c0 ⊢
            clear hkf hsl hbx8 hf
            try rw [show ((0 : Nat) : Int) = 0 from rfl]
            obtain ⟨wo, hwo⟩ : ∃ wo, wr = wo := ⟨_, rfl⟩
            subst hwo
            go_wp2_with fail
            with_reducible refine (ORD.out _).mono ?_
            rintro e w9 ⟨gt, rfl, ho9, k9⟩
            obtain ⟨T, hT⟩ : ∃ T, T = staN nn f.k true := ⟨_, rfl⟩
            rw [← hT] at ho9
            have hTl : T.length = nn := by rw [hT, sta_len]
            have HTL := Lib.hid hTl
            have HTT := Lib.hid (show ∀ x ∈ T, x < nn from fun x hx => sta_lt (by rw [← hT]; exact hx))
            have ETT := Lib.hid hT
            have HO9 := Lib.hid ho9
            have hgt := own_ge ho9 (g := gt) rfl
            have HM9 := Lib.hid (HMW.out.no k9)
            have HA9 := Lib.hid (HAW.out.kp HMW.out (k9.mono fun _ _ h => h.elim))
            have HRW9 := Lib.hid (HRWW.out.no k9)
            have HBX9 := Lib.hid (k9.heap HBX8.out id)
            have HAP9 := Lib.hid (show Apart w9 gr (fun b => b = gs ∨ b = gt) from (HAPW.out.or (HRWW.out.apart (av := fun b => b = gt) (fun b e => by
              have h := hgt.1
              omega))).kp k9 id (by
                obtain ⟨_, _, us, h5, _⟩ := HRWW.out
                exact (Array.getElem?_eq_some_iff.1 h5).1))
            have hggt := Lib.hid (show w.heap.size ≤ gt ∧ gt ≠ gr by
              refine ⟨?_, fun e => ?_⟩
              · have h1 := hgt.1
                have h2 := hgsz.out
                have h3 := (Array.getElem?_eq_some_iff.1 (HKW.out.heap HSL.out (fun e => e.2.1 rfl))).1
                omega
              · obtain ⟨_, _, us, h5, _⟩ := HRWW.out
                have h := (Array.getElem?_eq_some_iff.1 h5).1
                have h1 := hgt.1
                omega)
            have HKW9 := Lib.hid (HKW.out.no k9)
            have HGS9 := Lib.hid (HKW9.out.heap HSL.out (fun e => e.2.1 rfl))
            obtain ⟨H0, hH0⟩ : ∃ H0 : Nat → Nat, H0 = fun x => at_ + SZ * x + 1 := ⟨_, rfl⟩
            replace RS := Lib.hid (show fldN X.l ns fi = (staN nn f.k true).map (fun x => at_ + SZ * x + 1) from RS.out)
            rw [← hH0] at RS
            have HH := Lib.hid (show ∀ x, H0 x = at_ + SZ * x + 1 from fun x => by rw [hH0])
            rw [← ETT.out] at RS
            clear ho9 hT hTl d0 d1 c3 hgt k9 hH0
            go_wp2_with fail
            go_loopw [60] (fun i wr => ∃ i0 : Nat, i0 ≤ nn ∧ i = .int .i64 (i0 : Nat) ∧ RwM w.heap.size wr gr X.n ((intP (stL X.l ns k 1)).set fi (cI ((T.take i0).map H0))) ∧ X.Me wr av ∧ X.All gA pa q wr ∧ Apart wr gr (fun b => b = gs ∨ b = gt) ∧ Kp (fun b => w.heap.size ≤ b ∧ b ≠ gs ∧ b ≠ gt ∧ b ≠ g2) w9 wr) (fun i _ => nn - (intOf i).toNat)
            case atStart =>
              refine ⟨0, by omega, rfl, ?_, HM9.out, HA9.out, HAP9.out, Kp.refl _ _⟩
              have e : (intP (stL X.l ns k 1)).set fi (cI ((T.take 0).map H0)) = intP (stL X.l ns k 1) := by
                rw [← intP_set]
                congr 1
                refine List.ext_getElem? fun z => ?_
                rw [List.getElem?_set]
                split
                · rename_i e
                  subst e
                  rw [R2.out, if_pos (List.getElem?_eq_some_iff.1 R2.out).1]
                  rfl
                · rfl
              rw [e]
              exact HRW9.out
            case round =>
              obtain ⟨i0, hi0, rfl, hrw, hme, hall, hap, hkp⟩ := hrel
              have HRW := Lib.hid hrw
              have HMZ := Lib.hid hme
              have HAZ := Lib.hid hall
              have HAPZ := Lib.hid hap
              have HKZ := Lib.hid hkp
              clear hrw hme hall hap hkp
              by_cases hlti : i0 < nn
              · obtain ⟨x, hx⟩ : ∃ x, T[i0]? = some x := ⟨_, List.getElem?_eq_getElem (by rw [HTL.out]; exact hlti)⟩
                have hxn := HTT.out x (List.mem_of_getElem? hx)
                have hO := HKZ.out.owns HO9.out (fun b hb e => by
                  have hb : some gt = some b := hb
                  injection hb with hb
                  exact e.2.2.1 hb.symm)
                have d3 : wr.cell? ⟨gt, i0, none⟩ = some (.int .i64 (x : Nat)) := own_cell (by rw [HTL.out] at hO; exact hO) (by rw [List.getElem?_map, hx]; rfl)
                have hrow : ((intP (stL X.l ns k 1)).set fi (cI ((T.take i0).map H0)))[fi]? = some (cI ((T.take i0).map H0)) := by
                  rw [List.getElem?_set_self]
                  have := (List.getElem?_eq_some_iff.1 (intP_get R2.out)).1
                  exact this
                obtain ⟨v, d4, d5, hov, hfiL, hgrl⟩ := HRW.out.cell hrow
                have hzl : (cI ((T.take i0).map H0)).length = i0 := by rw [cI_len, List.length_map, List.length_take, HTL.out]; omega
                obtain ⟨A1, c1, rfl, hc1, _, _⟩ := own_form hov
                rw [hzl] at d4
                have HOV := Lib.hid hov
                rw [hzl] at HOV
                have HZL := Lib.hid hzl
                obtain ⟨sj, hsj⟩ : ∃ sj, sj = SZ * x := ⟨_, rfl⟩
                have hsj2 : sj ≤ 120 := by
                  rw [hsj]
                  have := Nat.mul_le_mul hs2 (show x ≤ 60 by omega)
                  omega
                have hm1 : (SZ : Int) * (x : Int) = (sj : Int) := by rw [hsj]; simp
                obtain ⟨ya, hya⟩ : ∃ ya, ya = at_ + sj := ⟨_, rfl⟩
                have hya2 : ya ≤ 240 := by omega
                have hm2 : (at_ : Int) + (sj : Int) = (ya : Int) := by rw [hya]; simp
                have HSN := Lib.hid (show cI ((T.take (i0 + 1)).map H0) = cI ((T.take i0).map H0) ++ [((ya : Int) + 1)] by
                  rw [take_map_succ H0 T i0 x hx, cI_snoc, HH.out, ← hsj, ← hya]
                  rfl)
                have HROW := Lib.hid hrow
                have D4 := Lib.hid d4
                have HAB := Lib.hid (show ∀ b, A1 = some ⟨b, 0, none⟩ → w.heap.size ≤ b ∧ b ≠ gs ∧ b ≠ gt ∧ b ≠ g2 ∧ b ≠ gr ∧ ∀ cs t m, wr.heap[b]? = some (.cells cs t m) → t = 3 from fun b hb => by
                  have hb2 := (own_block (b := b) HOV.out).2 hb
                  have h1 := (own_ge hov (by rw [hzl]; exact hb2)).1
                  have h2 := HAPZ.out fi _ b D4.out hb2
                  obtain ⟨cs, m, hh⟩ := own_int hov (by rw [hzl]; exact hb2)
                  have hty : ∀ cs' t m', wr.heap[b]? = some (.cells cs' t m') → t = 3 := fun cs' t m' hh' => by
                    rw [hh] at hh'
                    injection hh' with hh'
                    injection hh' with _ hh' _
                    exact hh'.symm
                  refine ⟨h1, fun e => h2 (.inl e), fun e => h2 (.inr e), fun e => ?_, fun e => ?_, hty⟩
                  · have h := HKZ.out.heap HBX9.out (fun e => e.2.2.2 rfl)
                    subst e
                    exact absurd (hty _ _ _ h) (by decide)
                  · obtain ⟨_, _, us, h5, _⟩ := HRW.out
                    subst e
                    exact absurd (hty _ _ _ h5) (by decide))
                clear hx hO hrow hov hzl hsj hya
                go_wp2_with (at_builtin; refine stop_in ?_)
                refine stop_out ?_
                refine push_int rfl _ _ rfl w.heap.size A1 i0 c1 (cI ((T.take i0).map H0)) ((ya : Int) + 1) rfl rfl rfl HZL.out HOV.out (by omega) (w0 := { wr with heap := #[] }) (Kp.nothing wr) (Nat.zero_le _) (by have h1 := hgsz.out; have h2 := (Array.getElem?_eq_some_iff.1 (HKZ.out.heap HBX9.out (fun e => e.2.2.2 rfl))).1; have h3 := HKZ.out.size; have h4 := (HRW.out.cell HROW.out); obtain ⟨_, _, _, _, _, h5⟩ := h4; have h6 := HRW.out.hg; omega) ?_
                intro g' c' w' ho' _ hkat
                obtain ⟨k', hat'⟩ := hkat
                rw [← HSN.out] at ho'
                have hkv : Kp (fun b => (Value.slice A1 i0 c1).ownBlock = some b) wr w' := k'.mono fun b _ e => (own_block HOV.out).2 e
                have hatv : (Value.slice (some ⟨g', 0, none⟩) (i0 + 1) c').ownBlock = (Value.slice A1 i0 c1).ownBlock ∨ ∀ b, (Value.slice (some ⟨g', 0, none⟩) (i0 + 1) c').ownBlock = some b → wr.heap.size ≤ b := by
                  rcases hat' with hat' | hat'
                  · left
                    rw [(own_block HOV.out).2 hat']
                    rfl
                  · right
                    intro b hb
                    have hb : some g' = some b := hb
                    injection hb with hb
                    omega
                obtain ⟨hr2, _⟩ := HRW.out.set HROW.out D4.out hkv ho' hatv
                rw [List.set_set] at hr2
                have hgr' : ¬ A1 = some ⟨gr, 0, none⟩ := fun e => (HAB.out gr e).2.2.2.2.1 rfl
                have d6 := k'.cell D4.out hgr'
                have d7 : w'.frozen? ⟨gr, fi, none⟩ = false := by rw [k'.frozen hgrl hgr']; exact d5
                have K2 := (k'.mono (T := fun b => A1 = some ⟨b, 0, none⟩ ∨ b = gr) fun b _ e => .inl e).tr ((kp_setOne w' gr fi (.slice (some ⟨g', 0, none⟩) (i0 + 1) c')).mono (T := fun b => A1 = some ⟨b, 0, none⟩ ∨ b = gr) fun b _ e => .inr e)
                have hty : ∀ b, (A1 = some ⟨b, 0, none⟩ ∨ b = gr) → (w.heap.size ≤ b ∧ b ≠ gs ∧ b ≠ gt ∧ b ≠ g2) ∧ ∀ cs t m, wr.heap[b]? = some (.cells cs t m) → t = 3 ∨ t = 36 := fun b e => by
                  rcases e with e | e
                  · obtain ⟨z1, z2, z3, z4, z5, z6⟩ := HAB.out b e
                    exact ⟨⟨z1, z2, z3, z4⟩, fun cs t m hh => .inl (z6 cs t m hh)⟩
                  · subst e
                    refine ⟨⟨HRW.out.hg, hgrs.out.1, fun e => hggt.out.2 e.symm, hgrs.out.2⟩, fun cs t m hh => .inr ?_⟩
                    obtain ⟨_, _, us, h5, _⟩ := HRW.out
                    rw [h5] at hh
                    injection hh with hh
                    injection hh with _ hh _
                    exact hh.symm
                have R3' := Lib.hid hr2
                have M3 := Lib.hid (HMZ.out.alien K2 fun b e => ⟨by have h1 := HW0.out; have h2 := (hty b e).1.1; omega, (hty b e).2⟩)
                have A3 := Lib.hid (HAZ.out.alien K2 fun b e => (hty b e).2)
                have AP3 := Lib.hid (HAPZ.out.set k' hgr' hgrl (v := .slice (some ⟨g', 0, none⟩) (i0 + 1) c') (i := fi) (fun b hb e => by
                  have hb : some g' = some b := hb
                  injection hb with hb
                  subst hb
                  rcases hat' with hat' | hat'
                  · obtain ⟨z1, z2, z3, z4, z5, z6⟩ := HAB.out g' hat'
                    rcases e with e | e
                    · exact z2 e
                    · exact z3 e
                  · rcases e with e | e
                    · have h1 := (Array.getElem?_eq_some_iff.1 ((HKZ.out.heap (HGS9.out) (fun e => e.2.1 rfl)))).1
                      omega
                    · have h1 := (own_ge HO9.out (g := gt) rfl).2
                      have h2 := HKZ.out.size
                      omega) ⟨_, d6⟩)
                have K3 := Lib.hid (HKZ.out.tr (K2.mono fun b _ e => (hty b e).1))
                clear hr2 K2 hty hkv hatv ho' k' hat'
                go_wp2_with fail
                go_roundw
                case rel => exact ⟨i0 + 1, by omega, by go_num, R3'.out, M3.out, A3.out, AP3.out, K3.out⟩
                case measure => simp [intOf]; omega
              · obtain rfl : i0 = nn := by omega
                have HE := Lib.hid (show (intP (stL X.l ns k 1)).set fi (cI ((T.take i0).map H0)) = intP (stL X.l ns k (1 + 1)) by
                  rw [R3.out, intP_set, RS.out, List.take_of_length_le (by rw [HTL.out]; exact Nat.le_refl _)])
                rw [HE.out] at HRW
                have KK := Lib.hid (show Kp (fun b => w.heap.size ≤ b ∧ b ≠ gs ∧ b ≠ g2) w7 wr from (HKW9.out).tr (HKZ.out.mono fun b _ e => ⟨e.1, e.2.1, e.2.2.2⟩))
                have AA := Lib.hid (show Apart wr gr (fun b => b = gs) from fun i v b h1 h2 h3 => HAPZ.out i v b h1 h2 (.inl h3))
                go_wp2_with fail
                go_roundw
                case rel => exact ⟨1 + 1, by omega, by go_num, HRW.out, HMZ.out, HAZ.out, AA.out, KK.out⟩
                case measure => simp [intOf]; omega
        · obtain rfl : s = SZ := by omega
          have HRN := Lib.hid (show RwM w.heap.size wr gr X.n (intP (partN X.n (fldN X.l ns) (k + 1))) by
            have e := st_end X.l ns hkl
            rw [HLN.out, ← ESZ.out] at e
            rw [← e]
            exact HRWW.out)
          have HKN := Lib.hid (show Kp (fun b => b = X.gK ∨ (w.heap.size ≤ b ∧ b ≠ g2)) w3 wr from HK7.out.tr (HKW.out.mono fun b _ e => .inr ⟨e.1, e.2.2⟩))
          have hmul : (s : Int) * (nn : Int) = ((s * nn : Nat) : Int) := by simp
          have hmul2 : s * nn ≤ 120 := by
            have := Nat.mul_le_mul hs2 hnn60
            omega
          obtain ⟨sn, hsn⟩ : ∃ sn, sn = s * nn := ⟨_, rfl⟩
          rw [← hsn] at hmul hmul2
          have HSN := Lib.hid (show atN X.n ns (k + 1) = at_ + sn by rw [E1.out, hsn])
          have E2' := Lib.hid (show bleN q.1 (bstN X.l X.r X.least (J - (k + 1)) (at_ + sn)) = true by rw [EJ.out, hsn]; exact E2.out)
          have E3' := Lib.hid (show ns.drop (k + 1) = grN X.l X.r X.least q.1 (J - (k + 1)) (at_ + sn) by rw [EJ.out, hsn]; exact E3.out)
          have hle2 := Lib.hid (show at_ + sn ≤ X.m by rw [hsn]; exact hnm)
          clear hsn hnm
          go_wp2_with fail
          go_roundw
          case rel => exact ⟨k + 1, by omega, by go_num, by rw [HSN.out]; go_num, by rw [HSN.out]; exact hle2.out, HRN.out, HMW.out, HKN.out, HAW.out, by rw [HSN.out]; exact E2'.out, by rw [HSN.out]; exact E3'.out⟩
          case measure => simp [intOf]; omega
    · obtain rfl : k = J := by omega
      have HO := Lib.hid (show RwM w.heap.size wr gr X.n (intP (stdN X.l X.r X.least q.1 X.J 0 (List.replicate X.n []))) by
        rw [HST.out, HJ.out]
        exact HRWK.out)
      clear hrw hme hkp hall hble hdrop
      go_wp2_with fail
      go_ret
      refine ⟨gr, rfl, HO.out, HME.out, ?_⟩
      refine (HK3.out.mono fun _ _ h => h.elim).trans HKP.out fun b hb h => ?_
      rcases h with h | h
      · exact h
      · have := h.1
        omega
end Go.Proofs.YtakgcnjpmpcekaaGreat
