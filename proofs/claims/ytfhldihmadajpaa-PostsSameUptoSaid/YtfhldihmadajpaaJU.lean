/-
  PostsSame's walk. Conditions: both values lie in memory, their weights are bounded.
-/
import Derived.Test.YtfhldihmadajpaaJT
namespace Go.Proofs.Ytfhldihmadajpaa
open Go.RowKit Go.Sort Go.Shelf

theorem post_box {w W : World} {o : Obj} (hb : Below (w.alloc o).heap.size (w.alloc o) W) : W.heap[w.heap.size]? = some o := (hb.block _ (by simp)).trans (heap_alloc_new w o)
theorem post_rdv {w : World} {base : Nat} {al af ar : Option Addr} {n r : Nat} {v : Val} (hv : v.may = true) (hw : v.w ≤ 1048576) (h : OwnC w base 46 4 al n n (v.labs.flatMap Lab.enc) ∧ OwnC w base 3 1 af n n (v.lefts.flatMap natE) ∧ OwnC w base 3 1 ar r r ((rootsL v.lefts).flatMap natE)) (en : n = v.labs.length) (er : r = (rootsL v.lefts).length) :
    PA.Rd ⟨al, n, af, n, ar, r, v.labs, intsL v.lefts, intsL (rootsL v.lefts)⟩ w := by
  have h1 : v.labs.length ≤ 1048576 := by rw [labs_len v hv]; exact Nat.le_trans v.size_le hw
  have h2 : (rootsL v.lefts).length ≤ v.lefts.length := Nat.le_trans (List.length_filter_le _ _) (by simp)
  have h3 := lefts_len v
  exact post_rd h.1 h.2.1 h.2.2 en (by omega) er (by omega) (by omega) (by omega)
/-- A row of numbers, by its block. -/
theorem row_cells {w : World} {a : Option Addr} {l : List Nat} (h : SlE i64Z 1 w 0 w.heap.size a (intsL l)) (h0 : 0 < l.length) : ∃ b o, a = some ⟨b, o, none⟩ ∧ b < w.heap.size ∧ ∀ (i v : Nat), l[i]? = some v → w.cell? ⟨b, o + i, none⟩ = some (.int .i64 (v : Int)) := by
  obtain ⟨b, o, e, g1, g2, g3, g4⟩ := h (by simpa using h0)
  refine ⟨b, o, e, g3, fun i v hv => ?_⟩
  have := g4 i (v : Int) (by rw [List.getElem?_map, hv]; rfl) 0 _ rfl
  rw [Nat.mul_one, Nat.add_zero] at this
  exact this
set_option maxRecDepth 100000 in
set_option maxHeartbeats 6400000 in
theorem psame_out (w : World) (x y : AV) (hx : Rd w x) (hy : Rd w y) (hwx : x.w ≤ 1048576) (hwy : y.w ≤ 1048576) (h : 1500 < x.v.w ∨ 1500 < y.v.w) : Calls Try.prog 5 #[x.val, y.val] w (Ret (.bool true) w) := by
  have HG1 := fun W (h : Below w.heap.size w W) => Lib.hid (great14_c x W (hx.up h) hwx)
  have HG2 := fun W (h : Below w.heap.size w W) => Lib.hid (great14_c y W (hy.up h) hwy)
  have hb0 := fun (o1 o2 : Obj) => ((Below.refl w.heap.size w).alloc (Nat.le_refl _) o1).alloc (by simp) o2
  cases d1 : decide (1500 < x.v.w) with
  | true =>
    rw [d1] at HG1
    clear h d1 HG2
    go_enter Try.func5, Try.ntmps5
    go_wp2_with (first
      | (go_at_call 7; refine (HG1 _ (hb0 _ _)).out.mono ?_; rintro e w1 ⟨rfl, hb1⟩; obtain ⟨hbx, hby, hsz, hbw⟩ := two_at hb1; have HW1 := Lib.hid hbw; clear hbx hby hbw hb1)
      | (go_at_call 8; refine (lives19_c _).mono ?_; rintro e w2 ⟨rfl, hb2⟩))
    go_ret
    exact ⟨rfl, below_via HW1.out hb2⟩
  | false =>
    have d2 : decide (1500 < y.v.w) = true := by
      rcases h with h | h
      · rw [decide_eq_true h] at d1; cases d1
      · exact decide_eq_true h
    rw [d1] at HG1
    rw [d2] at HG2
    clear h d1 d2
    go_enter Try.func5, Try.ntmps5
    go_wp2_with (first
      | (go_at_call 7; refine (HG2 w1 HW1.out).out.mono ?_; rintro e w3 ⟨rfl, hb3⟩; have HW3 := Lib.hid (below_via HW1.out hb3); clear hb3)
      | (go_at_call 7; refine (HG1 _ (hb0 _ _)).out.mono ?_; rintro e w1 ⟨rfl, hb1⟩; obtain ⟨hbx, hby, hsz, hbw⟩ := two_at hb1; obtain ⟨q0, q1, q2, q3, -, -, -, -⟩ := vbox4 hby; have HW1 := Lib.hid hbw; clear hbx hby hbw hb1)
      | (go_at_call 8; refine (lives19_c _).mono ?_; rintro e w2 ⟨rfl, hb2⟩))
    go_ret
    exact ⟨rfl, below_via HW3.out hb2⟩
set_option maxRecDepth 100000 in
set_option maxHeartbeats 6400000 in
theorem psame_in (w : World) (x y : AV) (hx : Rd w x) (hy : Rd w y) (hwx : x.w ≤ 1500) (hwy : y.w ≤ 1500) : Calls Try.prog 5 #[x.val, y.val] w (Ret (.bool true) w) := by
  have HG1 := fun W (h : Below w.heap.size w W) => Lib.hid (show Calls Try.prog 7 #[x.val] W (Ret (.bool false) W) by have := great14_c x W (hx.up h) (by omega); rwa [decide_eq_false (by show ¬ 1500 < x.w; omega)] at this)
  have HG2 := fun W (h : Below w.heap.size w W) => Lib.hid (show Calls Try.prog 7 #[y.val] W (Ret (.bool false) W) by have := great14_c y W (hy.up h) (by omega); rwa [decide_eq_false (by show ¬ 1500 < y.w; omega)] at this)
  have HO1 := fun W (h : Below w.heap.size w W) => Lib.hid (pof_c W x (hx.up h) (by omega))
  have HO2 := fun W (h : Below w.heap.size w W) => Lib.hid (pof_c W y (hy.up h) (by omega))
  have hb0 := fun (o1 o2 : Obj) => ((Below.refl w.heap.size w).alloc (Nat.le_refl _) o1).alloc (by simp) o2
  cases hmx : x.v.may with
  | false =>
    have HLV := fun W => Lib.hid (lives19_c W)
    go_enter Try.func5, Try.ntmps5
    go_wp2_with (first
      | (go_at_call 10
         refine (HO2 (w3.alloc _) HW3A.out).out.mono ?_
         rintro e w4 ⟨al', af', ar', n', r', rfl, en', er', hO', -, hb4⟩
         generalize y.v.may = my at *
         have HB4 := Lib.hid hb4
         clear en' er' hO' hb4 x0 x1 x2 x3 q0 q1 q2 q3)
      | (go_at_call 10
         refine (HO1 w2 HW2.out).out.mono ?_
         rintro e w3 ⟨al, af, ar, n, r, rfl, en, er, hO, -, hb3⟩
         rw [hmx] at en er hO ⊢
         have hw3 := below_via HW2.out hb3
         have HW3A := Lib.hid (hw3.alloc hw3.size (.cells #[.slice al n n, .slice af n n, .slice ar r r] 33))
         have HW3 := Lib.hid hw3
         have hbx := (hb3.block _ hsx2).trans HBX2.out
         have hby := (hb3.block _ hsy2).trans HBY2.out
         clear x0 x1 x2 x3 q0 q1 q2 q3
         obtain ⟨x0, x1, x2, x3, -, -, -, -⟩ := vbox4 hbx
         obtain ⟨q0, q1, q2, q3, -, -, -, -⟩ := vbox4 hby
         have HBX3 := Lib.hid hbx
         have HBY3 := Lib.hid hby
         have hsx3 : w.heap.size < w3.heap.size := (Array.getElem?_eq_some_iff.1 hbx).1
         have hsy3 : w.heap.size + 1 < w3.heap.size := (Array.getElem?_eq_some_iff.1 hby).1
         clear en er hO hb3 hw3 hbx hby hmx)
      | (go_at_call 7
         refine (HG2 w1 HW1.out).out.mono ?_
         rintro e w2 ⟨rfl, hb2⟩
         have HW2 := Lib.hid (below_via HW1.out hb2)
         have hbx := (hb2.block _ hsx).trans HBX.out
         have hby := (hb2.block _ hsy).trans HBY.out
         clear x0 x1 x2 x3 q0 q1 q2 q3
         obtain ⟨x0, x1, x2, x3, -, -, -, -⟩ := vbox4 hbx
         obtain ⟨q0, q1, q2, q3, -, -, -, -⟩ := vbox4 hby
         have HBX2 := Lib.hid hbx
         have HBY2 := Lib.hid hby
         have hsx2 : w.heap.size < w2.heap.size := (Array.getElem?_eq_some_iff.1 hbx).1
         have hsy2 : w.heap.size + 1 < w2.heap.size := (Array.getElem?_eq_some_iff.1 hby).1
         clear hb2 hbx hby)
      | (go_at_call 7
         refine (HG1 _ (hb0 _ _)).out.mono ?_
         rintro e w1 ⟨rfl, hb1⟩
         obtain ⟨hbx, hby, hsz, hbw⟩ := two_at hb1
         obtain ⟨x0, x1, x2, x3, -, -, -, -⟩ := vbox4 hbx
         obtain ⟨q0, q1, q2, q3, -, -, -, -⟩ := vbox4 hby
         have hsx : w.heap.size < w1.heap.size := by omega
         have hsy : w.heap.size + 1 < w1.heap.size := by omega
         have HBX := Lib.hid hbx
         have HBY := Lib.hid hby
         have HW1 := Lib.hid hbw
         clear hbx hby hbw hb1))
    have HBV := Lib.hid ((HW3A.out.trans (HB4.out.mono HW3A.out.size)).alloc (HW3A.out.trans (HB4.out.mono HW3A.out.size)).size (.cells #[.slice al' n' n', .slice af' n' n', .slice ar' r' r'] 33))
    go_name_world V hV
    rw [hV] at HBV
    clear hV
    refine wp_region_bl (by kernel_rfl) (by kernel_rfl) ?_
    repeat (first | go_big_quiet_skip | (go_big_quiet_want; go_big_quiet_op; first | go_big_quiet_on | (refine ⟨_, fun _ _ => (by with_reducible rfl), ?_⟩; go_big_quiet_on)))
    refine wpQuiet_nil ?_; intro wz hbz
    go_wp2_with (go_at_call 8; refine (HLV _).out.mono ?_; rintro e w5 ⟨rfl, hb5⟩)
    go_ret
    exact ⟨rfl, below_via (below_via HBV.out hbz) hb5⟩
  | true =>
    cases hmy : y.v.may with
    | false =>
      have HMX := Lib.hid hmx
      go_enter Try.func5, Try.ntmps5
      go_wp2_with (first
        | (go_at_call 10
           refine (HO2 (w3.alloc _) HW3A.out).out.mono ?_
           rintro e w4 ⟨al', af', ar', n', r', rfl, en', er', hO', -, hb4⟩
           rw [hmy] at en' er' hO' ⊢
           have HB4 := Lib.hid hb4
           clear en' er' hO' hb4 x0 x1 x2 x3 q0 q1 q2 q3 hmy)
        | (go_at_call 10
           refine (HO1 w2 HW2.out).out.mono ?_
           rintro e w3 ⟨al, af, ar, n, r, rfl, en, er, hO, -, hb3⟩
           rw [hmx] at en er hO ⊢
           rw [if_pos rfl] at en er
           have HO := Lib.hid (hO rfl)
           have HEN := Lib.hid (And.intro en er)
           have hw3 := below_via HW2.out hb3
           have HW3A := Lib.hid (hw3.alloc hw3.size (.cells #[.slice al n n, .slice af n n, .slice ar r r] 33))
           have HW3 := Lib.hid hw3
           have hbx := (hb3.block _ hsx2).trans HBX2.out
           have hby := (hb3.block _ hsy2).trans HBY2.out
           clear x0 x1 x2 x3 q0 q1 q2 q3
           obtain ⟨x0, x1, x2, x3, -, -, -, -⟩ := vbox4 hbx
           obtain ⟨q0, q1, q2, q3, -, -, -, -⟩ := vbox4 hby
           have HBX3 := Lib.hid hbx
           have HBY3 := Lib.hid hby
           have hsx3 : w.heap.size < w3.heap.size := (Array.getElem?_eq_some_iff.1 hbx).1
           have hsy3 : w.heap.size + 1 < w3.heap.size := (Array.getElem?_eq_some_iff.1 hby).1
           clear en er hO hb3 hw3 hbx hby hmx)
        | (go_at_call 7
           refine (HG2 w1 HW1.out).out.mono ?_
           rintro e w2 ⟨rfl, hb2⟩
           have HW2 := Lib.hid (below_via HW1.out hb2)
           have hbx := (hb2.block _ hsx).trans HBX.out
           have hby := (hb2.block _ hsy).trans HBY.out
           clear x0 x1 x2 x3 q0 q1 q2 q3
           obtain ⟨x0, x1, x2, x3, -, -, -, -⟩ := vbox4 hbx
           obtain ⟨q0, q1, q2, q3, -, -, -, -⟩ := vbox4 hby
           have HBX2 := Lib.hid hbx
           have HBY2 := Lib.hid hby
           have hsx2 : w.heap.size < w2.heap.size := (Array.getElem?_eq_some_iff.1 hbx).1
           have hsy2 : w.heap.size + 1 < w2.heap.size := (Array.getElem?_eq_some_iff.1 hby).1
           clear hb2 hbx hby)
        | (go_at_call 7
           refine (HG1 _ (hb0 _ _)).out.mono ?_
           rintro e w1 ⟨rfl, hb1⟩
           obtain ⟨hbx, hby, hsz, hbw⟩ := two_at hb1
           obtain ⟨x0, x1, x2, x3, -, -, -, -⟩ := vbox4 hbx
           obtain ⟨q0, q1, q2, q3, -, -, -, -⟩ := vbox4 hby
           have hsx : w.heap.size < w1.heap.size := by omega
           have hsy : w.heap.size + 1 < w1.heap.size := by omega
           have HBX := Lib.hid hbx
           have HBY := Lib.hid hby
           have HW1 := Lib.hid hbw
           clear hbx hby hbw hb1))
      go_name_world V hV
      have hV4 := hV
      have hb4a := HB4.out.alloc HB4.out.size (.cells #[.slice al' n' n', .slice af' n' n', .slice ar' r' r'] 33)
      have hpb := (hb4a.block w3.heap.size (by simp)).trans (heap_alloc_new w3 (.cells #[.slice al n n, .slice af n n, .slice ar r r] 33))
      have hqb := heap_alloc_new w4 (.cells #[.slice al' n' n', .slice af' n' n', .slice ar' r' r'] 33)
      have hbv := (HW3A.out.trans (HB4.out.mono HW3A.out.size)).alloc (HW3A.out.trans (HB4.out.mono HW3A.out.size)).size (.cells #[.slice al' n' n', .slice af' n' n', .slice ar' r' r'] 33)
      have hxb := (hb4a.block w.heap.size (by simp; omega)).trans ((Below.heap_alloc _ _ _ hsx3).trans HBX3.out)
      have hyb := (hb4a.block (w.heap.size + 1) (by simp; omega)).trans ((Below.heap_alloc _ _ _ hsy3).trans HBY3.out)
      rw [hV] at hb4a hpb hqb hbv hxb hyb
      clear hV
      have HO1' := HO.out
      have hpr := (post_rdv HMX.out (by show x.w ≤ _; omega) HO.out HEN.out.1 HEN.out.2).up (show Below w3.heap.size w3 V from ((Below.refl _ _).alloc (Nat.le_refl _) _).trans (hb4a.mono (by simp)))
      have HBV := Lib.hid hbv
      have LD := Lib.hid (fun W (h : Below V.heap.size V W) => (box3 ((h.block _ (lt_of_blk19 hpb)).trans hpb)))
      have HPB := Lib.hid hpb
      have HPR := Lib.hid hpr
      clear hpb hqb hxb hyb hpr hbv hb4a
      refine wp_region_bl (by kernel_rfl) (by kernel_rfl) ?_
      repeat (first | go_big_quiet_skip | (go_big_quiet_want; go_big_quiet_op; first | go_big_quiet_on | (refine ⟨_, fun _ _ => (by with_reducible rfl), ?_⟩; go_big_quiet_on) | (apply Exists.intro; refine ⟨fun w' hC => (by simp only [LD.out w' hC, Result.andThen]; exact ⟨trivial, rfl⟩), ?_⟩; go_big_quiet_on)))
      refine wpQuiet_nil ?_; intro wz hbz
      have HBV0 := Lib.hid hbz
      have HSTART := Lib.hid hbz
      obtain ⟨F, hF⟩ : ∃ F, F = x.v.lefts := ⟨_, rfl⟩
      obtain ⟨R, hR⟩ : ∃ R, R = rootsL x.v.lefts := ⟨_, rfl⟩
      have en : n = F.length := by rw [hF, lefts_len]; exact HEN.out.1
      have er : r = R.length := by rw [hR]; exact HEN.out.2
      have HLE := Lib.hid (show ∀ i l : Nat, F[i]? = some l → l ≤ i from fun i l h => lefts_at (x := x.v) (by rw [← hF]; exact h))
      have HMA := Lib.hid (show ∀ i l : Nat, F[i]? = some l → manyL F l i R.length = 1 from fun i l h => by rw [hR, ← hF]; exact many_all h)
      have HMS := Lib.hid (show ∀ l i k q : Nat, R[k]? = some q → manyL F l i (k + 1) = manyL F l i k + if F[q]? = some l ∧ i ≤ q then 1 else 0 from fun l i k q h => many_succ (by rw [hF, ← hR]; exact h))
      have HRF := Lib.hid (show ∀ k q : Nat, R[k]? = some q → q < F.length from fun k q h => root_get (k := k) (by rw [hF, ← hR]; exact h))
      have HRL := Lib.hid (show ∀ k q q' : Nat, R[k + 1]? = some q → R[k]? = some q' → q' < q from fun k q q' h h' => root_lt (F := F) (k := k) (by rw [hF, ← hR]; exact h) (by rw [hF, ← hR]; exact h'))
      have hFw : F.length ≤ 1500 := by rw [hF, lefts_len, labs_len _ HMX.out]; exact Nat.le_trans x.v.size_le hwx
      have hF0 : 0 < F.length := by rw [hF, lefts_len, Val.labs_eq]; exact post_pos _ _
      have hlast := roots_last hF0
      rw [hF, ← hR, ← hF, List.getLast?_eq_getElem?] at hlast
      have hR0 : 0 < R.length := by
        rcases Nat.eq_zero_or_pos R.length with h | h
        · rw [List.eq_nil_of_length_eq_zero h] at hlast; cases hlast
        · exact h
      have hRw : R.length ≤ 1500 := Nat.le_trans (by rw [hR, ← hF]; exact Nat.le_trans (List.length_filter_le _ _) (by simp)) hFw
      obtain ⟨b1, o1, ea, hb1, hcf⟩ := row_cells (l := F) (by rw [hF]; exact HPR.out.f) hF0
      obtain ⟨b2, o2, eb, hb2, hcr⟩ := row_cells (l := R) (by rw [hR]; exact HPR.out.r) hR0
      have HCF := Lib.hid hcf
      have HCR := Lib.hid hcr
      have HLAST := Lib.hid hlast
      have hVl : w3.heap.size < V.heap.size := lt_of_blk19 HPB.out
      clear hF hR hcf hcr hlast HPR HEN HO
      have ea' : af = _ := ea
      have eb' : ar = _ := eb
      subst ea'
      subst eb'
      subst en
      subst er
      clear ea eb
      clear hbz LD HO1' HG1 HG2 HO1 HO2
      go_wp2_with fail
      have hlt := fun W (h : Below V.heap.size V W) => (h.block w3.heap.size hVl).trans HPB.out
      go_loopw [9, 10, 11, 12] (fun s9 _ _ _ wr => ∃ i : Nat, i ≤ F.length ∧ s9 = .int .i64 i ∧ Hid (Below V.heap.size V wr)) (fun s9 _ _ _ _ => F.length - (intOf s9).toNat)
      case atStart => exact ⟨0, Nat.zero_le _, rfl, HBV0⟩
      case round =>
        obtain ⟨i, hi, rfl, HB⟩ := hrel
        have hbp := hlt _ HB.out
        obtain ⟨p0, p1, p2, -, -, -⟩ := box3 hbp
        have hpl : w3.heap.size < wr.heap.size := lt_of_blk19 hbp
        clear hbp
        by_cases hif : i < F.length
        · have hif' : (i : Int) < (F.length : Int) := by omega
          have hi0 : (0 : Int) ≤ (i : Int) := by omega
          have hl : F[i]? = some F[i] := List.getElem?_eq_getElem hif
          generalize F[i] = l at hl
          have hli : l ≤ i := HLE.out i l hl
          have ci := (HB.out.cell (p := ⟨b1, o1 + i, none⟩) hb1).trans (HCF.out i l hl)
          have hb1r : b1 < wr.heap.size := Nat.lt_of_lt_of_le hb1 HB.out.size
          have hmany := HMA.out i l hl
          have HL := Lib.hid hl
          have HM := Lib.hid hmany
          obtain ⟨V2, hV2⟩ : ∃ W, W = wr := ⟨_, rfl⟩
          subst hV2
          clear hl hmany
          go_wp2_with fail
          go_loopw [10, 11, 12] (fun s10 s11 _ wr => ∃ k : Nat, k ≤ R.length ∧ s11 = .int .i64 k ∧ s10 = .int .i64 (manyL F l i k) ∧ Hid (Below V.heap.size V wr)) (fun _ s11 _ _ => R.length - (intOf s11).toNat)
          case atStart => exact ⟨0, Nat.zero_le _, rfl, rfl, HB⟩
          case round =>
            clear p0 p1 p2 ci hb1r
            obtain ⟨k, hk, rfl, rfl, HB2⟩ := hrel
            have hbp := hlt _ HB2.out
            obtain ⟨p0, p1, p2, -, -, -⟩ := box3 hbp
            have hpl2 : w3.heap.size < wr.heap.size := lt_of_blk19 hbp
            have ci := (HB2.out.cell (p := ⟨b1, o1 + i, none⟩) hb1).trans (HCF.out i l HL.out)
            have hb1r : b1 < wr.heap.size := Nat.lt_of_lt_of_le hb1 HB2.out.size
            have hb2r : b2 < wr.heap.size := Nat.lt_of_lt_of_le hb2 HB2.out.size
            clear hbp
            by_cases hkr : k < R.length
            · have hkr' : (k : Int) < (R.length : Int) := by omega
              have hk0 : (0 : Int) ≤ (k : Int) := by omega
              have hr : R[k]? = some R[k] := List.getElem?_eq_getElem hkr
              generalize R[k] = q at hr
              have hqF : q < F.length := HRF.out k q hr
              have cr := (HB2.out.cell (p := ⟨b2, o2 + k, none⟩) hb2).trans (HCR.out k q hr)
              have hq1 : ¬ (q : Int) < 0 := by omega
              have hq2 : ¬ (F.length : Int) ≤ (q : Int) := by omega
              have hq3 : (q : Int) < (F.length : Int) := by omega
              have hq0 : (0 : Int) ≤ (q : Int) := by omega
              have hfq : F[q]? = some F[q] := List.getElem?_eq_getElem hqF
              generalize F[q] = m at hfq
              have cq := (HB2.out.cell (p := ⟨b1, o1 + q, none⟩) hb1).trans (HCF.out q m hfq)
              have hsucc := HMS.out l i k q hr
              have hm1 := many_le F l i k
              rw [hfq] at hsucc
              have HMM := Lib.hid hsucc
              have hwk : IntKind.i64.wrap ((k : Int) + 1) = ((k + 1 : Nat) : Int) := by rw [IntWalk.i64_in _ (by omega)]; omega
              obtain ⟨M, hM⟩ : ∃ M, M = manyL F l i k := ⟨_, rfl⟩
              rw [← hM] at hm1
              have HMK := Lib.hid hM
              rw [← hM]
              have hwm : IntKind.i64.wrap ((M : Int) + 1) = ((M + 1 : Nat) : Int) := by rw [IntWalk.i64_in _ (by omega)]; omega
              clear hM
              have HRQ := Lib.hid hr
              clear hfq hsucc hr
              by_cases hkz : k = 0
              · have hkz' : ¬ (0 : Int) < (k : Int) := by omega
                subst hkz
                rw [Nat.add_zero] at cr
                go_wp2_with fail
                have hpx : w3.heap.size < wr.heap.size := hpl2
                by_cases hml : m = l
                · have hd : ((m : Int) == (l : Int)) = true := by simp [hml]
                  by_cases hiq : i ≤ q
                  · have hd2 : decide ((i : Int) ≤ (q : Int)) = true := decide_eq_true (by omega)
                    have hMk : manyL F l i (0 + 1) = M + 1 := by rw [HMM.out, if_pos ⟨by rw [hml], hiq⟩, ← HMK.out]
                    have HMK2 := Lib.hid hMk
                    clear hml hMk
                    go_quiet (fail)
                    go_wp2_with fail
                    exact ⟨⟨0 + 1, by omega, by first | rfl | go_num, by rw [HMK2.out]; go_num, Lib.hid (by (repeat' first | exact HB2.out | refine Below.drew ?_ | refine below_drewN ?_ _))⟩, by simp [intOf]; omega⟩
                  · have hd2 : decide ((i : Int) ≤ (q : Int)) = false := decide_eq_false (by omega)
                    have hMk : manyL F l i (0 + 1) = M := by rw [HMM.out, if_neg (fun h => hiq h.2), ← HMK.out, Nat.add_zero]
                    have HMK2 := Lib.hid hMk
                    clear hml hMk
                    go_quiet (fail)
                    go_wp2_with fail
                    exact ⟨⟨0 + 1, by omega, by first | rfl | go_num, by rw [HMK2.out], Lib.hid (by (repeat' first | exact HB2.out | refine Below.drew ?_ | refine below_drewN ?_ _))⟩, by simp [intOf]; omega⟩
                · have hd : ((m : Int) == (l : Int)) = false := by simp; omega
                  have hMk : manyL F l i (0 + 1) = M := by rw [HMM.out, if_neg (fun h => hml (Option.some.inj h.1)), ← HMK.out, Nat.add_zero]
                  have HMK2 := Lib.hid hMk
                  clear hml hMk
                  go_quiet (fail)
                  go_wp2_with fail
                  exact ⟨⟨0 + 1, by omega, by first | rfl | go_num, by rw [HMK2.out], Lib.hid (by (repeat' first | exact HB2.out | refine Below.drew ?_ | refine below_drewN ?_ _))⟩, by simp [intOf]; omega⟩
              · have hkz' : (0 : Int) < (k : Int) := by omega
                have hk1 : R[k - 1]? = some R[k - 1] := List.getElem?_eq_getElem (by omega)
                generalize R[k - 1] = q' at hk1
                have hqq := HRL.out (k - 1) q q' (by rw [show k - 1 + 1 = k by omega]; exact HRQ.out) hk1
                have ck := (HB2.out.cell (p := ⟨b2, o2 + (k - 1), none⟩) hb2).trans (HCR.out (k - 1) q' hk1)
                have hkw : IntKind.i64.wrap ((k : Int) - 1) = ((k - 1 : Nat) : Int) := by rw [IntWalk.i64_in _ (by omega)]; omega
                have hqq' : ¬ (q : Int) ≤ (q' : Int) := by omega
                have hk3 : ((k - 1 : Nat) : Int) < (R.length : Int) := by omega
                clear hk1 hqq
                go_wp2_with fail
                have hpx : w3.heap.size < wr.heap.size := hpl2
                by_cases hml : m = l
                · have hd : ((m : Int) == (l : Int)) = true := by simp [hml]
                  by_cases hiq : i ≤ q
                  · have hd2 : decide ((i : Int) ≤ (q : Int)) = true := decide_eq_true (by omega)
                    have hMk : manyL F l i (k + 1) = M + 1 := by rw [HMM.out, if_pos ⟨by rw [hml], hiq⟩, ← HMK.out]
                    have HMK2 := Lib.hid hMk
                    clear hml hMk
                    go_quiet (fail)
                    go_wp2_with fail
                    exact ⟨⟨k + 1, by omega, by first | rfl | go_num, by rw [HMK2.out]; go_num, Lib.hid (by (repeat' first | exact HB2.out | refine Below.drew ?_ | refine below_drewN ?_ _))⟩, by simp [intOf]; omega⟩
                  · have hd2 : decide ((i : Int) ≤ (q : Int)) = false := decide_eq_false (by omega)
                    have hMk : manyL F l i (k + 1) = M := by rw [HMM.out, if_neg (fun h => hiq h.2), ← HMK.out, Nat.add_zero]
                    have HMK2 := Lib.hid hMk
                    clear hml hMk
                    go_quiet (fail)
                    go_wp2_with fail
                    exact ⟨⟨k + 1, by omega, by first | rfl | go_num, by rw [HMK2.out], Lib.hid (by (repeat' first | exact HB2.out | refine Below.drew ?_ | refine below_drewN ?_ _))⟩, by simp [intOf]; omega⟩
                · have hd : ((m : Int) == (l : Int)) = false := by simp; omega
                  have hMk : manyL F l i (k + 1) = M := by rw [HMM.out, if_neg (fun h => hml (Option.some.inj h.1)), ← HMK.out, Nat.add_zero]
                  have HMK2 := Lib.hid hMk
                  clear hml hMk
                  go_quiet (fail)
                  go_wp2_with fail
                  exact ⟨⟨k + 1, by omega, by first | rfl | go_num, by rw [HMK2.out], Lib.hid (by (repeat' first | exact HB2.out | refine Below.drew ?_ | refine below_drewN ?_ _))⟩, by simp [intOf]; omega⟩
            · obtain rfl : k = R.length := by omega
              rw [HM.out]
              have hl0 : ¬ (i : Int) < (l : Int) := by omega
              have hl1 : ¬ (l : Int) < 0 := by omega
              go_wp2_with fail
              exact ⟨⟨i + 1, by omega, by go_num, HB2⟩, by simp [intOf]; omega⟩
        · obtain rfl : i = F.length := by omega
          go_wp2_with fail
          have hR0' : (0 : Int) < (R.length : Int) := by omega
          have hwR : IntKind.i64.wrap ((R.length : Int) - 1) = ((R.length - 1 : Nat) : Int) := by rw [IntWalk.i64_in _ (by omega)]; omega
          have hwF : IntKind.i64.wrap ((F.length : Int) - 1) = ((F.length - 1 : Nat) : Int) := by rw [IntWalk.i64_in _ (by omega)]; omega
          have cl := (HB.out.cell (p := ⟨b2, o2 + (R.length - 1), none⟩) hb2).trans (HCR.out (R.length - 1) (F.length - 1) HLAST.out)
          have hR1 : ((R.length - 1 : Nat) : Int) < (R.length : Int) := by omega
          have LD := Lib.hid (fun W (h : Below wr.heap.size wr W) => And.intro (blk_v h p0) (And.intro (blk_v h p1) (And.intro (blk_v h p2) (blk_v h cl))))
          have HLV := fun W (h : Below wr.heap.size wr W) => Lib.hid (lives19_c W)
          have HBR := Lib.hid HB.out
          clear p0 p1 p2 cl
          refine wp_region_bl (by kernel_rfl) (by kernel_rfl) ?_
          repeat (first | go_big_quiet_skip | (go_big_quiet_want; go_big_quiet_op; first | go_big_quiet_on | (refine ⟨_, fun _ _ => (by with_reducible rfl), ?_⟩; go_big_quiet_on) | (apply Exists.intro; refine ⟨fun w' hC => (by simp only [LD.out w' hC, Result.andThen]; exact ⟨trivial, rfl⟩), ?_⟩; go_big_quiet_on) | (apply Exists.intro; refine ⟨fun w' hC => (by (with_reducible refine (HLV w' hC).out.mono ?_); exact fun e w2 ⟨he, hb⟩ => ⟨he, hC.trans (hb.mono hC.size)⟩), ?_⟩; go_big_quiet_on)))
          refine wpQuiet_nil ?_; intro wz hbz
          go_wp2_with fail
          go_ret
          exact ⟨rfl, below_via (below_via HBV.out HBR.out) hbz⟩
    | true =>
      have HMX := Lib.hid hmx
      have HMY := Lib.hid hmy
      go_enter Try.func5, Try.ntmps5
      go_wp2_with (first
        | (go_at_call 10
           refine (HO2 (w3.alloc _) HW3A.out).out.mono ?_
           rintro e w4 ⟨al', af', ar', n', r', rfl, en', er', hO', -, hb4⟩
           rw [hmy] at en' er' hO' ⊢
           rw [if_pos rfl] at en' er'
           have HO' := Lib.hid (hO' rfl)
           have HEN' := Lib.hid (And.intro en' er')
           have HB4 := Lib.hid hb4
           clear en' er' hO' hb4 x0 x1 x2 x3 q0 q1 q2 q3 hmy)
        | (go_at_call 10
           refine (HO1 w2 HW2.out).out.mono ?_
           rintro e w3 ⟨al, af, ar, n, r, rfl, en, er, hO, -, hb3⟩
           rw [hmx] at en er hO ⊢
           rw [if_pos rfl] at en er
           have HO := Lib.hid (hO rfl)
           have HEN := Lib.hid (And.intro en er)
           have hw3 := below_via HW2.out hb3
           have HW3A := Lib.hid (hw3.alloc hw3.size (.cells #[.slice al n n, .slice af n n, .slice ar r r] 33))
           have HW3 := Lib.hid hw3
           have hbx := (hb3.block _ hsx2).trans HBX2.out
           have hby := (hb3.block _ hsy2).trans HBY2.out
           clear x0 x1 x2 x3 q0 q1 q2 q3
           obtain ⟨x0, x1, x2, x3, -, -, -, -⟩ := vbox4 hbx
           obtain ⟨q0, q1, q2, q3, -, -, -, -⟩ := vbox4 hby
           have HBX3 := Lib.hid hbx
           have HBY3 := Lib.hid hby
           have hsx3 : w.heap.size < w3.heap.size := (Array.getElem?_eq_some_iff.1 hbx).1
           have hsy3 : w.heap.size + 1 < w3.heap.size := (Array.getElem?_eq_some_iff.1 hby).1
           clear en er hO hb3 hw3 hbx hby hmx)
        | (go_at_call 7
           refine (HG2 w1 HW1.out).out.mono ?_
           rintro e w2 ⟨rfl, hb2⟩
           have HW2 := Lib.hid (below_via HW1.out hb2)
           have hbx := (hb2.block _ hsx).trans HBX.out
           have hby := (hb2.block _ hsy).trans HBY.out
           clear x0 x1 x2 x3 q0 q1 q2 q3
           obtain ⟨x0, x1, x2, x3, -, -, -, -⟩ := vbox4 hbx
           obtain ⟨q0, q1, q2, q3, -, -, -, -⟩ := vbox4 hby
           have HBX2 := Lib.hid hbx
           have HBY2 := Lib.hid hby
           have hsx2 : w.heap.size < w2.heap.size := (Array.getElem?_eq_some_iff.1 hbx).1
           have hsy2 : w.heap.size + 1 < w2.heap.size := (Array.getElem?_eq_some_iff.1 hby).1
           clear hb2 hbx hby)
        | (go_at_call 7
           refine (HG1 _ (hb0 _ _)).out.mono ?_
           rintro e w1 ⟨rfl, hb1⟩
           obtain ⟨hbx, hby, hsz, hbw⟩ := two_at hb1
           obtain ⟨x0, x1, x2, x3, -, -, -, -⟩ := vbox4 hbx
           obtain ⟨q0, q1, q2, q3, -, -, -, -⟩ := vbox4 hby
           have hsx : w.heap.size < w1.heap.size := by omega
           have hsy : w.heap.size + 1 < w1.heap.size := by omega
           have HBX := Lib.hid hbx
           have HBY := Lib.hid hby
           have HW1 := Lib.hid hbw
           clear hbx hby hbw hb1))
      go_name_world V hV
      have hV4 := hV
      have hb4a := HB4.out.alloc HB4.out.size (.cells #[.slice al' n' n', .slice af' n' n', .slice ar' r' r'] 33)
      have hpb := (hb4a.block w3.heap.size (by simp)).trans (heap_alloc_new w3 (.cells #[.slice al n n, .slice af n n, .slice ar r r] 33))
      have hqb := heap_alloc_new w4 (.cells #[.slice al' n' n', .slice af' n' n', .slice ar' r' r'] 33)
      have hbv := (HW3A.out.trans (HB4.out.mono HW3A.out.size)).alloc (HW3A.out.trans (HB4.out.mono HW3A.out.size)).size (.cells #[.slice al' n' n', .slice af' n' n', .slice ar' r' r'] 33)
      have hxb := (hb4a.block w.heap.size (by simp; omega)).trans ((Below.heap_alloc _ _ _ hsx3).trans HBX3.out)
      have hyb := (hb4a.block (w.heap.size + 1) (by simp; omega)).trans ((Below.heap_alloc _ _ _ hsy3).trans HBY3.out)
      rw [hV] at hb4a hpb hqb hbv hxb hyb
      clear hV
      have HO1' := HO.out
      have hpr := (post_rdv HMX.out (by show x.w ≤ _; omega) HO.out HEN.out.1 HEN.out.2).up (show Below w3.heap.size w3 V from ((Below.refl _ _).alloc (Nat.le_refl _) _).trans (hb4a.mono (by simp)))
      have hqr := (post_rdv HMY.out (by show y.w ≤ _; omega) HO'.out HEN'.out.1 HEN'.out.2).up (show Below w4.heap.size w4 V by rw [← hV4]; exact (Below.refl _ _).alloc (Nat.le_refl _) _)
      have HBV := Lib.hid hbv
      have LD := Lib.hid (fun W (h : Below V.heap.size V W) => And.intro (box3 ((h.block _ (lt_of_blk19 hpb)).trans hpb)) (And.intro (box3 ((h.block _ (lt_of_blk19 hqb)).trans hqb)) (And.intro (vbox4 ((h.block _ (lt_of_blk19 hxb)).trans hxb)) (vbox4 ((h.block _ (lt_of_blk19 hyb)).trans hyb)))))
      obtain ⟨bS, hbS⟩ : ∃ b, b = sameV x.v y.v := ⟨_, rfl⟩
      have HLK := fun W (h : Below V.heap.size V W) => Lib.hid (show Calls Try.prog 19 #[.agg #[.slice al n n, .slice af n n, .slice ar r r], .agg #[.slice al' n' n', .slice af' n' n', .slice ar' r' r']] W (Ret (.bool bS) W) by rw [hbS]; exact like_posts HMX.out HMY.out HEN.out.1 HEN.out.2 HEN'.out.1 HEN'.out.2 (hpr.up h) (hqr.up h))
      have HSM := fun W (h : Below V.heap.size V W) => Lib.hid (show Calls Try.prog 20 #[x.val, y.val] W (Ret (.bool bS) W) by rw [hbS]; exact same_c x y W ((hx.up hbv).up h) ((hy.up hbv).up h) (by omega) (by omega))
      have HPB := Lib.hid hpb
      have HPR := Lib.hid hpr
      clear hbS hpb hqb hxb hyb hpr hqr hbv hb4a
      refine wp_region_bl (by kernel_rfl) (by kernel_rfl) ?_
      repeat (first | go_big_quiet_skip | (go_big_quiet_want; go_big_quiet_op; first | go_big_quiet_on | (refine ⟨_, fun _ _ => (by with_reducible rfl), ?_⟩; go_big_quiet_on) | (apply Exists.intro; refine ⟨fun w' hC => (by simp only [LD.out w' hC, Result.andThen]; exact ⟨trivial, rfl⟩), ?_⟩; go_big_quiet_on) | (apply Exists.intro; refine ⟨fun w' hC => (by (with_reducible refine (HLK w' hC).out.mono ?_); exact fun e w2 ⟨he, hb⟩ => ⟨he, hC.trans (hb.mono hC.size)⟩), ?_⟩; go_big_quiet_on) | (apply Exists.intro; refine ⟨fun w' hC => (by (with_reducible refine (HSM w' hC).out.mono ?_); exact fun e w2 ⟨he, hb⟩ => ⟨he, hC.trans (hb.mono hC.size)⟩), ?_⟩; go_big_quiet_on)))
      refine wpQuiet_nil ?_; intro wz hbz
      have HBV0 := Lib.hid hbz
      have HSTART := Lib.hid hbz
      obtain ⟨F, hF⟩ : ∃ F, F = x.v.lefts := ⟨_, rfl⟩
      obtain ⟨R, hR⟩ : ∃ R, R = rootsL x.v.lefts := ⟨_, rfl⟩
      have en : n = F.length := by rw [hF, lefts_len]; exact HEN.out.1
      have er : r = R.length := by rw [hR]; exact HEN.out.2
      have HLE := Lib.hid (show ∀ i l : Nat, F[i]? = some l → l ≤ i from fun i l h => lefts_at (x := x.v) (by rw [← hF]; exact h))
      have HMA := Lib.hid (show ∀ i l : Nat, F[i]? = some l → manyL F l i R.length = 1 from fun i l h => by rw [hR, ← hF]; exact many_all h)
      have HMS := Lib.hid (show ∀ l i k q : Nat, R[k]? = some q → manyL F l i (k + 1) = manyL F l i k + if F[q]? = some l ∧ i ≤ q then 1 else 0 from fun l i k q h => many_succ (by rw [hF, ← hR]; exact h))
      have HRF := Lib.hid (show ∀ k q : Nat, R[k]? = some q → q < F.length from fun k q h => root_get (k := k) (by rw [hF, ← hR]; exact h))
      have HRL := Lib.hid (show ∀ k q q' : Nat, R[k + 1]? = some q → R[k]? = some q' → q' < q from fun k q q' h h' => root_lt (F := F) (k := k) (by rw [hF, ← hR]; exact h) (by rw [hF, ← hR]; exact h'))
      have hFw : F.length ≤ 1500 := by rw [hF, lefts_len, labs_len _ HMX.out]; exact Nat.le_trans x.v.size_le hwx
      have hF0 : 0 < F.length := by rw [hF, lefts_len, Val.labs_eq]; exact post_pos _ _
      have hlast := roots_last hF0
      rw [hF, ← hR, ← hF, List.getLast?_eq_getElem?] at hlast
      have hR0 : 0 < R.length := by
        rcases Nat.eq_zero_or_pos R.length with h | h
        · rw [List.eq_nil_of_length_eq_zero h] at hlast; cases hlast
        · exact h
      have hRw : R.length ≤ 1500 := Nat.le_trans (by rw [hR, ← hF]; exact Nat.le_trans (List.length_filter_le _ _) (by simp)) hFw
      obtain ⟨b1, o1, ea, hb1, hcf⟩ := row_cells (l := F) (by rw [hF]; exact HPR.out.f) hF0
      obtain ⟨b2, o2, eb, hb2, hcr⟩ := row_cells (l := R) (by rw [hR]; exact HPR.out.r) hR0
      have HCF := Lib.hid hcf
      have HCR := Lib.hid hcr
      have HLAST := Lib.hid hlast
      have hVl : w3.heap.size < V.heap.size := lt_of_blk19 HPB.out
      clear hF hR hcf hcr hlast HPR HEN HO
      have ea' : af = _ := ea
      have eb' : ar = _ := eb
      subst ea'
      subst eb'
      subst en
      subst er
      clear ea eb
      clear hbz LD HLK HSM HO1' HG1 HG2 HO1 HO2
      go_wp2_with fail
      have hlt := fun W (h : Below V.heap.size V W) => (h.block w3.heap.size hVl).trans HPB.out
      go_loopw [9, 10, 11, 12] (fun s9 _ _ _ wr => ∃ i : Nat, i ≤ F.length ∧ s9 = .int .i64 i ∧ Hid (Below V.heap.size V wr)) (fun s9 _ _ _ _ => F.length - (intOf s9).toNat)
      case atStart => exact ⟨0, Nat.zero_le _, rfl, HBV0⟩
      case round =>
        obtain ⟨i, hi, rfl, HB⟩ := hrel
        have hbp := hlt _ HB.out
        obtain ⟨p0, p1, p2, -, -, -⟩ := box3 hbp
        have hpl : w3.heap.size < wr.heap.size := lt_of_blk19 hbp
        clear hbp
        by_cases hif : i < F.length
        · have hif' : (i : Int) < (F.length : Int) := by omega
          have hi0 : (0 : Int) ≤ (i : Int) := by omega
          have hl : F[i]? = some F[i] := List.getElem?_eq_getElem hif
          generalize F[i] = l at hl
          have hli : l ≤ i := HLE.out i l hl
          have ci := (HB.out.cell (p := ⟨b1, o1 + i, none⟩) hb1).trans (HCF.out i l hl)
          have hb1r : b1 < wr.heap.size := Nat.lt_of_lt_of_le hb1 HB.out.size
          have hmany := HMA.out i l hl
          have HL := Lib.hid hl
          have HM := Lib.hid hmany
          obtain ⟨V2, hV2⟩ : ∃ W, W = wr := ⟨_, rfl⟩
          subst hV2
          clear hl hmany
          go_wp2_with fail
          go_loopw [10, 11, 12] (fun s10 s11 _ wr => ∃ k : Nat, k ≤ R.length ∧ s11 = .int .i64 k ∧ s10 = .int .i64 (manyL F l i k) ∧ Hid (Below V.heap.size V wr)) (fun _ s11 _ _ => R.length - (intOf s11).toNat)
          case atStart => exact ⟨0, Nat.zero_le _, rfl, rfl, HB⟩
          case round =>
            clear p0 p1 p2 ci hb1r
            obtain ⟨k, hk, rfl, rfl, HB2⟩ := hrel
            have hbp := hlt _ HB2.out
            obtain ⟨p0, p1, p2, -, -, -⟩ := box3 hbp
            have hpl2 : w3.heap.size < wr.heap.size := lt_of_blk19 hbp
            have ci := (HB2.out.cell (p := ⟨b1, o1 + i, none⟩) hb1).trans (HCF.out i l HL.out)
            have hb1r : b1 < wr.heap.size := Nat.lt_of_lt_of_le hb1 HB2.out.size
            have hb2r : b2 < wr.heap.size := Nat.lt_of_lt_of_le hb2 HB2.out.size
            clear hbp
            by_cases hkr : k < R.length
            · have hkr' : (k : Int) < (R.length : Int) := by omega
              have hk0 : (0 : Int) ≤ (k : Int) := by omega
              have hr : R[k]? = some R[k] := List.getElem?_eq_getElem hkr
              generalize R[k] = q at hr
              have hqF : q < F.length := HRF.out k q hr
              have cr := (HB2.out.cell (p := ⟨b2, o2 + k, none⟩) hb2).trans (HCR.out k q hr)
              have hq1 : ¬ (q : Int) < 0 := by omega
              have hq2 : ¬ (F.length : Int) ≤ (q : Int) := by omega
              have hq3 : (q : Int) < (F.length : Int) := by omega
              have hq0 : (0 : Int) ≤ (q : Int) := by omega
              have hfq : F[q]? = some F[q] := List.getElem?_eq_getElem hqF
              generalize F[q] = m at hfq
              have cq := (HB2.out.cell (p := ⟨b1, o1 + q, none⟩) hb1).trans (HCF.out q m hfq)
              have hsucc := HMS.out l i k q hr
              have hm1 := many_le F l i k
              rw [hfq] at hsucc
              have HMM := Lib.hid hsucc
              have hwk : IntKind.i64.wrap ((k : Int) + 1) = ((k + 1 : Nat) : Int) := by rw [IntWalk.i64_in _ (by omega)]; omega
              obtain ⟨M, hM⟩ : ∃ M, M = manyL F l i k := ⟨_, rfl⟩
              rw [← hM] at hm1
              have HMK := Lib.hid hM
              rw [← hM]
              have hwm : IntKind.i64.wrap ((M : Int) + 1) = ((M + 1 : Nat) : Int) := by rw [IntWalk.i64_in _ (by omega)]; omega
              clear hM
              have HRQ := Lib.hid hr
              clear hfq hsucc hr
              by_cases hkz : k = 0
              · have hkz' : ¬ (0 : Int) < (k : Int) := by omega
                subst hkz
                rw [Nat.add_zero] at cr
                go_wp2_with fail
                have hpx : w3.heap.size < wr.heap.size := hpl2
                by_cases hml : m = l
                · have hd : ((m : Int) == (l : Int)) = true := by simp [hml]
                  by_cases hiq : i ≤ q
                  · have hd2 : decide ((i : Int) ≤ (q : Int)) = true := decide_eq_true (by omega)
                    have hMk : manyL F l i (0 + 1) = M + 1 := by rw [HMM.out, if_pos ⟨by rw [hml], hiq⟩, ← HMK.out]
                    have HMK2 := Lib.hid hMk
                    clear hml hMk
                    go_quiet (fail)
                    go_wp2_with fail
                    exact ⟨⟨0 + 1, by omega, by first | rfl | go_num, by rw [HMK2.out]; go_num, Lib.hid (by (repeat' first | exact HB2.out | refine Below.drew ?_ | refine below_drewN ?_ _))⟩, by simp [intOf]; omega⟩
                  · have hd2 : decide ((i : Int) ≤ (q : Int)) = false := decide_eq_false (by omega)
                    have hMk : manyL F l i (0 + 1) = M := by rw [HMM.out, if_neg (fun h => hiq h.2), ← HMK.out, Nat.add_zero]
                    have HMK2 := Lib.hid hMk
                    clear hml hMk
                    go_quiet (fail)
                    go_wp2_with fail
                    exact ⟨⟨0 + 1, by omega, by first | rfl | go_num, by rw [HMK2.out], Lib.hid (by (repeat' first | exact HB2.out | refine Below.drew ?_ | refine below_drewN ?_ _))⟩, by simp [intOf]; omega⟩
                · have hd : ((m : Int) == (l : Int)) = false := by simp; omega
                  have hMk : manyL F l i (0 + 1) = M := by rw [HMM.out, if_neg (fun h => hml (Option.some.inj h.1)), ← HMK.out, Nat.add_zero]
                  have HMK2 := Lib.hid hMk
                  clear hml hMk
                  go_quiet (fail)
                  go_wp2_with fail
                  exact ⟨⟨0 + 1, by omega, by first | rfl | go_num, by rw [HMK2.out], Lib.hid (by (repeat' first | exact HB2.out | refine Below.drew ?_ | refine below_drewN ?_ _))⟩, by simp [intOf]; omega⟩
              · have hkz' : (0 : Int) < (k : Int) := by omega
                have hk1 : R[k - 1]? = some R[k - 1] := List.getElem?_eq_getElem (by omega)
                generalize R[k - 1] = q' at hk1
                have hqq := HRL.out (k - 1) q q' (by rw [show k - 1 + 1 = k by omega]; exact HRQ.out) hk1
                have ck := (HB2.out.cell (p := ⟨b2, o2 + (k - 1), none⟩) hb2).trans (HCR.out (k - 1) q' hk1)
                have hkw : IntKind.i64.wrap ((k : Int) - 1) = ((k - 1 : Nat) : Int) := by rw [IntWalk.i64_in _ (by omega)]; omega
                have hqq' : ¬ (q : Int) ≤ (q' : Int) := by omega
                have hk3 : ((k - 1 : Nat) : Int) < (R.length : Int) := by omega
                clear hk1 hqq
                go_wp2_with fail
                have hpx : w3.heap.size < wr.heap.size := hpl2
                by_cases hml : m = l
                · have hd : ((m : Int) == (l : Int)) = true := by simp [hml]
                  by_cases hiq : i ≤ q
                  · have hd2 : decide ((i : Int) ≤ (q : Int)) = true := decide_eq_true (by omega)
                    have hMk : manyL F l i (k + 1) = M + 1 := by rw [HMM.out, if_pos ⟨by rw [hml], hiq⟩, ← HMK.out]
                    have HMK2 := Lib.hid hMk
                    clear hml hMk
                    go_quiet (fail)
                    go_wp2_with fail
                    exact ⟨⟨k + 1, by omega, by first | rfl | go_num, by rw [HMK2.out]; go_num, Lib.hid (by (repeat' first | exact HB2.out | refine Below.drew ?_ | refine below_drewN ?_ _))⟩, by simp [intOf]; omega⟩
                  · have hd2 : decide ((i : Int) ≤ (q : Int)) = false := decide_eq_false (by omega)
                    have hMk : manyL F l i (k + 1) = M := by rw [HMM.out, if_neg (fun h => hiq h.2), ← HMK.out, Nat.add_zero]
                    have HMK2 := Lib.hid hMk
                    clear hml hMk
                    go_quiet (fail)
                    go_wp2_with fail
                    exact ⟨⟨k + 1, by omega, by first | rfl | go_num, by rw [HMK2.out], Lib.hid (by (repeat' first | exact HB2.out | refine Below.drew ?_ | refine below_drewN ?_ _))⟩, by simp [intOf]; omega⟩
                · have hd : ((m : Int) == (l : Int)) = false := by simp; omega
                  have hMk : manyL F l i (k + 1) = M := by rw [HMM.out, if_neg (fun h => hml (Option.some.inj h.1)), ← HMK.out, Nat.add_zero]
                  have HMK2 := Lib.hid hMk
                  clear hml hMk
                  go_quiet (fail)
                  go_wp2_with fail
                  exact ⟨⟨k + 1, by omega, by first | rfl | go_num, by rw [HMK2.out], Lib.hid (by (repeat' first | exact HB2.out | refine Below.drew ?_ | refine below_drewN ?_ _))⟩, by simp [intOf]; omega⟩
            · obtain rfl : k = R.length := by omega
              rw [HM.out]
              have hl0 : ¬ (i : Int) < (l : Int) := by omega
              have hl1 : ¬ (l : Int) < 0 := by omega
              go_wp2_with fail
              exact ⟨⟨i + 1, by omega, by go_num, HB2⟩, by simp [intOf]; omega⟩
        · obtain rfl : i = F.length := by omega
          go_wp2_with fail
          have hR0' : (0 : Int) < (R.length : Int) := by omega
          have hwR : IntKind.i64.wrap ((R.length : Int) - 1) = ((R.length - 1 : Nat) : Int) := by rw [IntWalk.i64_in _ (by omega)]; omega
          have hwF : IntKind.i64.wrap ((F.length : Int) - 1) = ((F.length - 1 : Nat) : Int) := by rw [IntWalk.i64_in _ (by omega)]; omega
          have cl := (HB.out.cell (p := ⟨b2, o2 + (R.length - 1), none⟩) hb2).trans (HCR.out (R.length - 1) (F.length - 1) HLAST.out)
          have hR1 : ((R.length - 1 : Nat) : Int) < (R.length : Int) := by omega
          have LD := Lib.hid (fun W (h : Below wr.heap.size wr W) => And.intro (blk_v h p0) (And.intro (blk_v h p1) (And.intro (blk_v h p2) (blk_v h cl))))
          have HLV := fun W (h : Below wr.heap.size wr W) => Lib.hid (lives19_c W)
          have HBR := Lib.hid HB.out
          clear p0 p1 p2 cl
          refine wp_region_bl (by kernel_rfl) (by kernel_rfl) ?_
          repeat (first | go_big_quiet_skip | (go_big_quiet_want; go_big_quiet_op; first | go_big_quiet_on | (refine ⟨_, fun _ _ => (by with_reducible rfl), ?_⟩; go_big_quiet_on) | (apply Exists.intro; refine ⟨fun w' hC => (by simp only [LD.out w' hC, Result.andThen]; exact ⟨trivial, rfl⟩), ?_⟩; go_big_quiet_on) | (apply Exists.intro; refine ⟨fun w' hC => (by (with_reducible refine (HLV w' hC).out.mono ?_); exact fun e w2 ⟨he, hb⟩ => ⟨he, hC.trans (hb.mono hC.size)⟩), ?_⟩; go_big_quiet_on)))
          refine wpQuiet_nil ?_; intro wz hbz
          go_wp2_with fail
          go_ret
          exact ⟨rfl, below_via (below_via HBV.out HBR.out) hbz⟩
theorem psame_c (w : World) (x y : AV) (hx : Rd w x) (hy : Rd w y) (hwx : x.w ≤ 1048576) (hwy : y.w ≤ 1048576) : Calls Try.prog 5 #[x.val, y.val] w (Ret (.bool true) w) := by
  by_cases h1 : 1500 < x.v.w
  · exact psame_out w x y hx hy hwx hwy (.inl h1)
  by_cases h2 : 1500 < y.v.w
  · exact psame_out w x y hx hy hwx hwy (.inr h2)
  exact psame_in w x y hx hy (by show x.v.w ≤ _; omega) (by show y.v.w ≤ _; omega)
end Go.Proofs.Ytfhldihmadajpaa
