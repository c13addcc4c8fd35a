/- Chapter 14: the walk of proven. -/
import Derived.Test.YtjjecadfcndkaaaGiv
namespace Go.Proofs.Ytjjecadfcndkaaa
open Go.RowKit Go.Kq Go.Flow

/-- What is asked outside a set. -/
def lack (R : Nat → Bool) : List (Nat × Int) → Int
  | [] => 0
  | x :: l => (if R x.1 then 0 else x.2) + lack R l
theorem lack_snoc (R : Nat → Bool) (x : Nat × Int) : ∀ l : List (Nat × Int), lack R (l ++ [x]) = lack R l + if R x.1 then 0 else x.2
  | [] => by simp [lack]
  | y :: l => by simp only [List.cons_append, lack, lack_snoc R x l]; omega
theorem lack_held (R : Nat → Bool) : ∀ (l : List Nat) (ds : List Int), ds.length = l.length → lack R (l.zip ds) + held R (l.zip ds) = sumZ ds
  | [], [], _ => rfl
  | [], _ :: _, h => by simp at h
  | _ :: _, [], h => by simp at h
  | c :: l, d :: ds, h => by
    have ih := lack_held R l ds (by simpa using h)
    simp only [List.zip_cons_cons, lack, held, sumZ]
    cases R c <;> simp <;> omega
theorem lack_bd (R : Nat → Bool) : ∀ (l : List (Nat × Int)), (∀ x ∈ l, dOk x.2) → 0 ≤ lack R l ∧ lack R l ≤ 1000000000000 * l.length
  | [], _ => by simp [lack]
  | x :: l, h => by
    have ih := lack_bd R l fun y hy => h y (by simp [hy])
    have := h x (by simp)
    unfold dOk at this
    have e : (1000000000000 : Int) * ((x :: l).length : Nat) = 1000000000000 * (l.length : Nat) + 1000000000000 := by simp [Int.mul_add]
    rw [e, lack]
    split <;> omega
theorem mem_zip_snd {α β : Type} : ∀ {l : List α} {k : List β} {x : α × β}, x ∈ l.zip k → x.2 ∈ k
  | [], _, _, h => by simp at h
  | _ :: _, [], _, h => by simp at h
  | a :: l, b :: k, x, h => by
    rcases List.mem_cons.1 h with rfl | h
    · simp
    · simp [mem_zip_snd h]
theorem mem_zero {R : Nat → Bool} {n : Nat} (hn : 1 ≤ n) (h0 : R 0 = true) : (mem R n)[0]? = some 0 := by
  obtain ⟨m, rfl⟩ : ∃ m, n = m + 1 := ⟨n - 1, by omega⟩
  unfold mem
  rw [List.range_succ_eq_map, List.filter_cons, if_pos h0]
  rfl
theorem mem_lt {R : Nat → Bool} {n : Nat} : ∀ c ∈ mem R n, c < n := fun c hc => by
  unfold mem at hc
  exact List.mem_range.1 (List.mem_filter.1 hc).1
theorem rowOf_at {n : Nat} (R : Nat → Bool) {v : Nat} (hv : v < n) : ((rowOf n (mem R n)).map Value.bool)[v]? = some (.bool (R v)) := by
  have h := rowOf_mem R hv
  unfold ofRow at h
  rw [List.getD_eq_getElem?_getD] at h
  have hl : (rowOf n (mem R n)).length = n := by simp [rowOf]
  rw [List.getElem?_map, List.getElem?_eq_getElem (by omega)]
  rw [List.getElem?_eq_getElem (by omega)] at h
  simp at h
  simp [h]
theorem within_set (n : Nat) (hn : 1 ≤ n ∧ n ≤ 24) (R : Nat → Bool) (h0 : R 0 = true) {base : Nat} {v : Value} (w : World) (hv : w.ownsRow base 3 1 v (mem R n).length ((mem R n).map natV)) :
    Calls Try.prog 21 #[.int .i64 n, v] w fun e w' => ∃ g, e = .returned (.tuple #[.slice (some ⟨g, 0, none⟩) n n, .bool true]) ∧ w'.ownsRow w.heap.size 4 1 (.slice (some ⟨g, 0, none⟩) n n) n ((rowOf n (mem R n)).map Value.bool) ∧ Kp No w w' := by
  obtain ⟨a, cap, rfl, hI⟩ := own_rdn hv
  exact within_any n hn (mem R n) mem_lt (mem_asc R n) (mem_zero hn.1 h0) (by have := mem_le R n; omega) a cap w hI
theorem out_set (N : Net) (hN : N.Ok) (A B : Option Addr) (ca cb g : Nat) (h : Bool) (R : Nat → Bool) {base : Nat} (w : World) (hR : RdNet w A B N) (hV : w.ownsRow base 4 1 (.slice (some ⟨g, 0, none⟩) N.n N.n) N.n ((rowOf N.n (mem R N.n)).map Value.bool)) :
    Calls Try.prog 22 #[netV N A B ca cb, .bool h, .slice (some ⟨g, 0, none⟩) N.n N.n] w fun e w' => e = .returned (.int .i64 (N.out h R)) ∧ Kp No w w' := by
  have := out_any N hN A B (some ⟨g, 0, none⟩) ca cb N.n h (rowOf N.n (mem R N.n)) w hR (rd_own_bools hV)
  rwa [out_row hN] at this
theorem own_pos {w : World} {base n : Nat} {e : TypeId} {size : Nat} {v : Value} {xs : List Value} (h : w.ownsRow base e size v n xs) (hn : 0 < n) : ∃ g cap, v = .slice (some ⟨g, 0, none⟩) n cap := by
  obtain ⟨a, cap, rfl, _, _, hp⟩ := own_form h
  obtain ⟨g, rfl⟩ := hp hn
  exact ⟨g, cap, rfl⟩
theorem supply_all (N : Net) (hN : N.Ok) (A B D : Option Addr) (ca cb dn dc : Nat) (hi : Bool) (ds : List Int) (w : World) (hR : RdNet w A B N) (hD : RdI .i64 w D dn ds) (hnil : D = none → dn = 0 ∧ dc = 0) (hl : ds.length = N.ch.length) (hd : ∀ d ∈ ds, dOk d) :
    Calls Try.prog 18 #[netV N A B ca cb, .bool hi, .slice D dn dc] w fun e w' => Kp No w w' ∧
      ((∃ F v, N.Least hi ds F ∧ e = .returned (.tuple #[v, .slice none 0 0, .int .i64 0]) ∧ w'.ownsRow w.heap.size 2 1 v F.length (F.map (Value.int .i64))) ∨
       (∃ R v, Min N.A0 (N.wt hi ds) R ∧ N.wt hi ds R < sumZ ds ∧ e = .returned (.tuple #[.slice none 0 0, v, .int .i64 0]) ∧ w'.ownsRow w.heap.size 3 1 v (mem R N.n).length ((mem R N.n).map natV))) := by
  refine (Supply_ok N hN A B D ca cb dn dc hi ds w hR hD hnil hl hd).mono ?_
  rintro e w' ⟨vf, vp, rfl, hs, hk⟩
  refine ⟨hk, ?_⟩
  rcases hs with ⟨F, hF, rfl, ho⟩ | ⟨R, hR, hlt, rfl, ho⟩
  · exact .inl ⟨F, vf, hF, rfl, ho⟩
  · exact .inr ⟨R, vp, hR, hlt, rfl, ho⟩
def askV2 (hi : Bool) (D E : Option Addr) (dn dc en ec : Nat) (x : Int) : Value := .agg #[.bool hi, .slice D dn dc, .slice E en ec, .int .i64 x]
theorem box4' {w : World} {b : Nat} {x y z u : Value} {t : TypeId} (h : w.heap[b]? = some (.cells #[x, y, z, u] t (0, 0))) : w.cell? ⟨b, 0, none⟩ = some x ∧ w.cell? ⟨b, 1, none⟩ = some y ∧ w.cell? ⟨b, 2, none⟩ = some z ∧ w.cell? ⟨b, 3, none⟩ = some u :=
  ⟨by rw [cell_of_row w b 0 _ _ _ h]; rfl, by rw [cell_of_row w b 1 _ _ _ h]; rfl, by rw [cell_of_row w b 2 _ _ _ h]; rfl, by rw [cell_of_row w b 3 _ _ _ h]; rfl⟩
theorem two_box (w : World) (xs ys : Array Value) (s t : TypeId) : Kp No w ((w.alloc (.cells xs s)).alloc (.cells ys t)) ∧ ((w.alloc (.cells xs s)).alloc (.cells ys t)).heap[w.heap.size]? = some (.cells xs s (0, 0)) ∧ ((w.alloc (.cells xs s)).alloc (.cells ys t)).heap[w.heap.size + 1]? = some (.cells ys t (0, 0)) :=
  ⟨(Kp.alloc No _ _).tr (Kp.alloc No _ _), (Kp.alloc No _ _).heap (heap_alloc_new w (.cells xs s)) (fun h => h), by
    have := heap_alloc_new (w.alloc (.cells xs s)) (.cells ys t)
    simpa using this⟩
set_option maxHeartbeats 4000000 in
set_option maxRecDepth 100000 in
theorem proven_any (N : Net) (hN : N.Ok) (A B D E : Option Addr) (ca cb dn dc en ec : Nat) (hi : Bool) (x : Int) (ds : List Int) (w : World) (hR : RdNet w A B N) (hD : RdI .i64 w D dn ds) (hnil : D = none → dn = 0 ∧ dc = 0) :
    Calls Try.prog 23 #[netV N A B ca cb, askV2 hi D E dn dc en ec x] w fun e w' => e = .returned (.bool true) ∧ Kp No w w' := by
  obtain ⟨hdl, _⟩ := id hD
  by_cases hds : ds.length = N.ch.length ∧ ∀ d ∈ ds, dOk d
  · have hn1 := hN.n1
    have hn2 := hN.n2
    have hc1 := hN.c1
    have ht1 := hN.t1
    have HS := Lib.hid (fun W hR hD => supply_all N hN A B D ca cb dn dc hi ds W hR hD hnil hds.1 hds.2)
    have HG := Lib.hid (fun (E : Option Addr) (ec : Nat) (fs : List Int) W hR hD hE hf => given_any N hN A B D E ca cb dc ec hi ds fs W hR (by rw [hdl]; exact hD) hE hds.1 hds.2 hf)
    have HO := Lib.hid (fun g R base W hR hV => out_set N hN A B ca cb g hi R (base := base) W hR hV)
    have HN := Lib.hid hN
    have HR := Lib.hid hR
    have HD := Lib.hid hD
    have HDS := Lib.hid hds
    subst hdl
    clear hN hR hD hnil hds
    unfold netV at HS HO HG
    unfold netV askV2
    go_enter Try.func23, Try.ntmps23
    go_wp2_with fail
    obtain ⟨hk0, b0, b1⟩ := two_box w #[.int .i64 N.n, .slice A N.tr.length ca, .slice B N.ch.length cb] #[.bool hi, .slice D ds.length dc, .slice E en ec, .int .i64 x] 25 40
    refine (HS.out _ (HR.out.no hk0) (HD.out.no hk0)).mono ?_
    rintro e w1 ⟨hk1, hs⟩
    have B0 := Lib.hid (hk1.heap b0 (fun h => h))
    have B1 := Lib.hid (hk1.heap b1 (fun h => h))
    have K1 := Lib.hid (hk0.tr hk1)
    clear hk0 b0 b1
    obtain ⟨x0, x1, x2⟩ := box3 B0.out
    obtain ⟨y0, y1, y2, y3⟩ := box4' B1.out
    have hs1 := (Array.getElem?_eq_some_iff.1 B0.out).1
    have hs2 := (Array.getElem?_eq_some_iff.1 B1.out).1
    rcases hs with ⟨F, v, hF, rfl, ho⟩ | ⟨R, v, hRm, hlt, rfl, ho⟩
    · have hFl := hF.1.len
      obtain ⟨a, cap, rfl, hI⟩ := own_rdl ho
      have HF := Lib.hid hF
      have HI := Lib.hid hI
      have hb : ((F.length : Int) == (N.tr.length : Int)) = true := by rw [beq_iff_eq]; omega
      have HFL := Lib.hid hFl
      clear ho hF hI hFl hk1
      go_wp2_with fail
      refine (HG.out a cap F _ (HR.out.no K1.out) (HD.out.no K1.out) HI.out HFL.out).mono ?_
      rintro e w2 ⟨r, rfl, hr, hk2⟩
      obtain rfl := hr.2 HF.out.1
      clear hr
      go_wp2_with fail
      refine bodyPost_ret (v := .bool true) (by simp [results, Try.results23, go_sem]) rfl ⟨rfl, K1.out.tr hk2⟩
    · have hpos : 0 < (mem R N.n).length := List.length_pos_of_mem (a := 0) (by unfold mem; exact List.mem_filter.2 ⟨List.mem_range.2 (by omega), hRm.1.1⟩)
      obtain ⟨g, cap, rfl⟩ := own_pos ho hpos
      have hne : ((mem R N.n).length : Int) ≠ 0 := by omega
      have hb : (((mem R N.n).length : Int) == 0) = false := by rw [beq_eq_false_iff_ne]; exact hne
      have HOW := Lib.hid ho
      have HR0 := Lib.hid hRm.1.1
      have HLT := Lib.hid (show N.out hi R < lack R (N.ch.zip ds) by
        have h1 := lack_held R N.ch ds HDS.out.1
        have h2 : N.wt hi ds R = N.out hi R + held R (N.ch.zip ds) := rfl
        omega)
      clear ho hRm hlt hk1 hne
      go_wp2_with fail
      refine (within_set N.n ⟨hn1, hn2⟩ R HR0.out _ HOW.out).mono ?_
      rintro e w2 ⟨g2, rfl, hin, hk2⟩
      have B02 := Lib.hid (hk2.heap B0.out (fun h => h))
      have B12 := Lib.hid (hk2.heap B1.out (fun h => h))
      have K2 := Lib.hid (K1.out.tr hk2)
      have HIN := Lib.hid hin
      clear hin hk2 x0 x1 x2 y0 y1 y2 y3
      go_wp2_with fail
      go_loopw [10, 11] (fun s i wr => ∃ k : Nat, k ≤ N.ch.length ∧ i = .int .i64 k ∧ s = .int .i64 (lack R ((N.ch.zip ds).take k)) ∧ Kp No w2 wr) (fun _ i _ => N.ch.length - (intOf i).toNat)
      case atStart => exact ⟨0, by omega, rfl, rfl, Kp.refl _ _⟩
      case round =>
        obtain ⟨k, hk, rfl, rfl, hkp⟩ := hrel
        obtain ⟨x0, x1, x2⟩ := box3 (hkp.heap B02.out (fun h => h))
        obtain ⟨y0, y1, y2, y3⟩ := box4' (hkp.heap B12.out (fun h => h))
        have HK := Lib.hid hkp
        have HO3 := Lib.hid (own_kp HIN.out hkp (fun _ _ h => h))
        clear hkp
        by_cases hlt : (k : Int) < N.ch.length
        · obtain ⟨c, hc⟩ : ∃ c, N.ch[k]? = some c := ⟨_, List.getElem?_eq_getElem (by omega)⟩
          obtain ⟨d, hd⟩ : ∃ d, ds[k]? = some d := ⟨_, List.getElem?_eq_getElem (by have := HDS.out.1; omega)⟩
          have hck := HN.out.ck c (List.mem_of_getElem? hc)
          have hdk := HDS.out.2 d (List.mem_of_getElem? hd)
          unfold dOk at hdk
          obtain ⟨bB, oB, rfl, hbB, z0⟩ := (HR.out.no (K2.out.tr HK.out)).chest hc
          obtain ⟨bD, oD, rfl, hbD, z1⟩ := (HD.out.no (K2.out.tr HK.out)).2 k d hd
          have yg := own_cell HO3.out (rowOf_at R hck.2)
          have HLS := Lib.hid (show lack R ((N.ch.zip ds).take (k + 1)) = lack R ((N.ch.zip ds).take k) + if R c then 0 else d by
            rw [List.take_add_one, zip_at hc hd]
            exact lack_snoc R (c, d) _)
          have hcn : (c : Int) < N.n := by omega
          have hkd : (k : Int) < ds.length := by have := HDS.out.1; omega
          have hbd := lack_bd R ((N.ch.zip ds).take k) (fun x hx => HDS.out.2 x.2 (mem_zip_snd (List.mem_of_mem_take hx)))
          have htl : ((N.ch.zip ds).take k).length ≤ 16 := by rw [List.length_take]; omega
          generalize lack R ((N.ch.zip ds).take k) = S at *
          generalize ((N.ch.zip ds).take k).length = T at *
          clear hc hd
          cases hRc : R c
          · rw [hRc] at yg
            go_wp2_with fail
            go_roundw
            case rel => exact ⟨k + 1, by omega, by go_num, by rw [HLS.out, hRc]; simp, HK.out⟩
            case measure => simp [intOf]; omega
          · rw [hRc] at yg
            go_wp2_with fail
            go_roundw
            case rel => exact ⟨k + 1, by omega, by go_num, by rw [HLS.out, hRc]; simp, HK.out⟩
            case measure => simp [intOf]; omega
        · obtain rfl : k = N.ch.length := by omega
          have hz : (N.ch.zip ds).take N.ch.length = N.ch.zip ds := List.take_of_length_le (by simp; omega)
          have HLT2 := HLT.out
          rw [← hz] at HLT2
          clear hz
          generalize lack R ((N.ch.zip ds).take N.ch.length) = S at *
          go_wp2_with fail
          refine (HO.out g2 R _ _ (HR.out.no (K2.out.tr HK.out)) HO3.out).mono ?_
          rintro e w4 ⟨rfl, hk4⟩
          go_wp2_with fail
          refine bodyPost_ret (v := .bool true) (by simp [results, Try.results23, go_sem]) rfl ⟨rfl, (K2.out.tr HK.out).tr hk4⟩
  · have HS := Lib.hid (fun W hR hD => Supply_arg N hN A B D ca cb dn dc hi ds W hR hD hds)
    have HR := Lib.hid hR
    have HD := Lib.hid hD
    clear hN hR hD hnil hds hdl
    unfold netV at HS
    unfold netV askV2
    go_enter Try.func23, Try.ntmps23
    go_wp2_with fail
    obtain ⟨hk0, b0, b1⟩ := two_box w #[.int .i64 N.n, .slice A N.tr.length ca, .slice B N.ch.length cb] #[.bool hi, .slice D dn dc, .slice E en ec, .int .i64 x] 25 40
    refine (HS.out _ (HR.out.no hk0) (HD.out.no hk0)).mono ?_
    rintro e w1 ⟨rfl, hk1⟩
    go_wp2_with fail
    refine bodyPost_ret (v := .bool true) (by simp [results, Try.results23, go_sem]) rfl ⟨rfl, hk0.tr hk1⟩
end Go.Proofs.Ytjjecadfcndkaaa
