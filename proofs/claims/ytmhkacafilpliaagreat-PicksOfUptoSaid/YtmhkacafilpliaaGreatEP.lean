/-
  Chapter 21: alikes.near and Are. Conditions: both values lie in memory, their weights are bounded.
  Chapter 21: alikes.Nearest's closure. No condition.
-/
import Derived.Test.YtmhkacafilpliaaGreatEH
import Derived.Test.YtmhkacafilpliaaGreatEN
namespace Go.Proofs.YtmhkacafilpliaaGreat
open Go.RowKit Go.Sort Go.Shelf Go.BigFrame

/-- May two values be alike that are not the same? -/
def kindB (a b : Val) : Bool := decide (a.k = b.k) && (decide (a.k = 7) || decide (a.k = 8))
set_option maxRecDepth 100000 in
set_option maxHeartbeats 3200000 in
theorem may21_c (w : World) (x y : AV) : Calls Tryz.prog 53 #[x.val, y.val] w (Ret (.bool (kindB x.v y.v)) w) := by
  have e1 : kindB x.v y.v = (decide (x.k = y.k) && (decide (x.k = 7) || decide (x.k = 8))) := by rw [kindB, AV.v_k, AV.v_k]
  rw [e1]
  clear e1
  have hb0 := fun (o1 o2 : Obj) => ((Below.refl w.heap.size w).alloc (Nat.le_refl _) o1).alloc (by simp) o2
  by_cases h1 : x.k = y.k
  · have c1 : (x.k != y.k) = false := by simp [h1]
    by_cases h7 : x.k = 7
    · rw [decide_eq_true h1, decide_eq_true h7]
      have c7 : (x.k == 7) = true := by simp [h7]
      clear h1 h7
      go_enter Tryz.func53, Tryz.ntmps53
      go_wp2_with fail
      go_ret
      exact ⟨rfl, hb0 _ _⟩
    · have c7 : (x.k == 7) = false := by simp [h7]
      by_cases h8 : x.k = 8
      · rw [decide_eq_true h1, decide_eq_false h7, decide_eq_true h8]
        have c8 : (x.k == 8) = true := by simp [h8]
        clear h1 h7 h8
        go_enter Tryz.func53, Tryz.ntmps53
        go_wp2_with fail
        go_ret
        exact ⟨rfl, hb0 _ _⟩
      · rw [decide_eq_true h1, decide_eq_false h7, decide_eq_false h8]
        have c8 : (x.k == 8) = false := by simp [h8]
        clear h1 h7 h8
        go_enter Tryz.func53, Tryz.ntmps53
        go_wp2_with fail
        go_ret
        exact ⟨rfl, hb0 _ _⟩
  · rw [decide_eq_false h1]
    have c1 : (x.k != y.k) = true := by simp [h1]
    clear h1
    go_enter Tryz.func53, Tryz.ntmps53
    go_wp2_with fail
    go_ret
    exact ⟨rfl, hb0 _ _⟩
/-- How far values are apart that are alike; -1: they are not. -/
def nearI (a b : Val) : Int := if sameV a b = true then 0 else if kindB a b = true ∧ withinI a b ((max (szV a) (szV b) / 2 : Nat) : Int) = true then farI a b else -1
theorem nearI_same {a b : Val} (h : sameV a b = true) : nearI a b = 0 := by rw [nearI, if_pos h]
theorem nearI_yes {a b : Val} (h : sameV a b = false) (h1 : kindB a b = true) (h2 : withinI a b ((max (szV a) (szV b) / 2 : Nat) : Int) = true) : nearI a b = farI a b := by rw [nearI, if_neg (by rw [h]; simp), if_pos ⟨h1, h2⟩]
theorem nearI_kind {a b : Val} (h : sameV a b = false) (h1 : kindB a b = false) : nearI a b = -1 := by rw [nearI, if_neg (by rw [h]; simp), if_neg (by rw [h1]; simp)]
theorem nearI_far {a b : Val} (h : sameV a b = false) (h2 : withinI a b ((max (szV a) (szV b) / 2 : Nat) : Int) = false) : nearI a b = -1 := by rw [nearI, if_neg (by rw [h]; simp), if_neg (by rw [h2]; simp)]
set_option maxRecDepth 100000 in
set_option maxHeartbeats 6400000 in
theorem near_c (w : World) (x y : AV) (hx : Rd w x) (hy : Rd w y) (hwx : x.w ≤ 1048576) (hwy : y.w ≤ 1048576) : Calls Tryz.prog 32 #[x.val, y.val] w (Ret (.int .i64 (nearI x.v y.v)) w) := by
  have bN := szV_le x.v
  have bM := szV_le y.v
  have hxw : x.v.w = x.w := rfl
  have hyw : y.v.w = y.w := rfl
  have hb1 := fun (o1 o2 : Obj) => ((Below.refl w.heap.size w).alloc (Nat.le_refl _) o1).alloc (by simp) o2
  have HSM := Lib.hid (same_c x y ((w.alloc (.cells #[.int .u8 x.k, .string x.t, .slice x.la x.l.length x.lc, .slice x.ka x.ks.length x.kc] 26)).alloc (.cells #[.int .u8 y.k, .string y.t, .slice y.la y.l.length y.lc, .slice y.ka y.ks.length y.kc] 26)) (hx.up (hb1 _ _)) (hy.up (hb1 _ _)) hwx hwy)
  cases hsm : sameV x.v y.v with
  | true =>
    rw [nearI_same hsm]
    rw [hsm] at HSM
    clear hsm hx hy
    go_enter Tryz.func32, Tryz.ntmps32
    go_wp2_with (go_at_call 25; (with_reducible refine HSM.out.mono ?_); rintro e w1 ⟨rfl, hb⟩)
    go_ret
    exact ⟨rfl, below_via (hb1 _ _) hb⟩
  | false =>
    rw [hsm] at HSM
    have HSX := fun W (h : Below w.heap.size w W) => Lib.hid (show Calls Tryz.prog 52 #[x.val] W (Ret (.int .i64 (szV x.v : Nat)) W) by
      have := size_c W x (hx.up h) hwx
      rwa [show (if x.v.may then (x.v.size : Int) else 0) = ((szV x.v : Nat) : Int) by unfold szV; split <;> rfl] at this)
    have HSY := fun W (h : Below w.heap.size w W) => Lib.hid (show Calls Tryz.prog 52 #[y.val] W (Ret (.int .i64 (szV y.v : Nat)) W) by
      have := size_c W y (hy.up h) hwy
      rwa [show (if y.v.may then (y.v.size : Int) else 0) = ((szV y.v : Nat) : Int) by unfold szV; split <;> rfl] at this)
    have HMW := fun W (h : Below w.heap.size w W) (m : Int) => Lib.hid (within20_c W x y m (hx.up h) (hy.up h) hwx hwy)
    have HFW := fun W (h : Below w.heap.size w W) => Lib.hid (far_c W x y (hx.up h) (hy.up h) hwx hwy)
    have HKW := fun W => Lib.hid (may21_c W x y)
    have n1 := fun h => nearI_kind (a := x.v) (b := y.v) hsm h
    have n2 := fun h => nearI_far (a := x.v) (b := y.v) hsm h
    have n3 := fun h h' => nearI_yes (a := x.v) (b := y.v) hsm h h'
    obtain ⟨N, hN⟩ : ∃ N, N = szV x.v := ⟨_, rfl⟩
    obtain ⟨M, hM⟩ : ∃ M, M = szV y.v := ⟨_, rfl⟩
    obtain ⟨R, hR⟩ : ∃ R, R = nearI x.v y.v := ⟨_, rfl⟩
    rw [← hN] at bN HSX n2 n3
    rw [← hM] at bM HSY n2 n3
    rw [← hR] at n1 n2 n3 ⊢
    have N1 := Lib.hid n1
    have N2 := Lib.hid n2
    have N3 := Lib.hid n3
    clear hsm hx hy n1 n2 n3 hR hN hM
    go_enter Tryz.func32, Tryz.ntmps32
    go_upto_region 3 with (go_at_call 25; (with_reducible refine HSM.out.mono ?_); rintro e w1 ⟨rfl, hb⟩)
    go_name_world W0 hW0
    obtain ⟨hx0, hy0, hs0, hb0⟩ := two_at (show Below ((w.alloc (.cells #[.int .u8 x.k, .string x.t, .slice x.la x.l.length x.lc, .slice x.ka x.ks.length x.kc] 26)).alloc (.cells #[.int .u8 y.k, .string y.t, .slice y.la y.l.length y.lc, .slice y.ka y.ks.length y.kc] 26)).heap.size ((w.alloc (.cells #[.int .u8 x.k, .string x.t, .slice x.la x.l.length x.lc, .slice x.ka x.ks.length x.kc] 26)).alloc (.cells #[.int .u8 y.k, .string y.t, .slice y.la y.l.length y.lc, .slice y.ka y.ks.length y.kc] 26)) W0 by rw [← hW0]; exact hb)
    obtain ⟨p0, p1, p2, p3⟩ := vb4 hx0
    obtain ⟨q0, q1, q2, q3⟩ := vb4 hy0
    have LD := Lib.hid (fun W (h : Below W0.heap.size W0 W) => And.intro (blkv h p0) (And.intro (blkv h p1) (And.intro (blkv h p2) (And.intro (blkv h p3) (And.intro (blkv h q0) (And.intro (blkv h q1) (And.intro (blkv h q2) (blkv h q3))))))))
    have HH1 := fun W (h : Below W0.heap.size W0 W) => Lib.hid ((HSX W (below_via hb0 h)).out)
    have HH2 := fun W (h : Below W0.heap.size W0 W) => Lib.hid ((HSY W (below_via hb0 h)).out)
    have HX0 := Lib.hid hx0
    have HY0 := Lib.hid hy0
    have HB0 := Lib.hid hb0
    clear p0 p1 p2 p3 q0 q1 q2 q3 hx0 hy0 hb0 hW0 hb HSM hb1
    refine wp_region_bl (by kernel_rfl) (by kernel_rfl) ?_
    repeat (first | go_big_quiet_skip | (go_big_quiet_want; go_big_quiet_op; first | go_big_quiet_on | (refine ⟨_, fun _ _ => (by with_reducible rfl), ?_⟩; go_big_quiet_on) | (apply Exists.intro; refine ⟨fun w' hC => (by simp only [LD.out w' hC, Result.andThen]; exact ⟨trivial, rfl⟩), ?_⟩; go_big_quiet_on) | (apply Exists.intro; refine ⟨fun w' hC => (by (with_reducible refine (HH1 w' hC).out.mono ?_); exact fun e w2 ⟨he, hb⟩ => ⟨he, hC.trans (hb.mono hC.size)⟩), ?_⟩; go_big_quiet_on) | (apply Exists.intro; refine ⟨fun w' hC => (by (with_reducible refine (HH2 w' hC).out.mono ?_); exact fun e w2 ⟨he, hb⟩ => ⟨he, hC.trans (hb.mono hC.size)⟩), ?_⟩; go_big_quiet_on)))
    refine wpQuiet_nil ?_; intro wz hbz
    obtain ⟨m, hm⟩ : ∃ m : Int, m = max (N : Int) (M : Int) / 2 := ⟨_, rfl⟩
    rw [← hm]
    have hm2 : ((max N M / 2 : Nat) : Int) = m := by rw [hm]; omega
    rw [hm2] at N2 N3
    have HBZ := Lib.hid (below_via HB0.out hbz)
    have HXZ := Lib.hid (blk_via hbz HX0.out)
    have HYZ := Lib.hid (blk_via hbz HY0.out)
    obtain ⟨p0, p1, p2, p3⟩ := vb4 HXZ.out
    obtain ⟨q0, q1, q2, q3⟩ := vb4 HYZ.out
    clear hbz LD HH1 HH2 HSX HSY HX0 HY0 HB0 hs0 bN bM hm hm2
    cases hk : kindB x.v y.v with
    | false =>
      have hR := N1.out hk
      subst hR
      rw [hk] at HKW
      clear hk N1 N2 N3 HMW HFW
      go_wp2_with (first
       | (go_at_call 53; (with_reducible refine (HKW _).out.mono ?_); rintro e w2 ⟨rfl, hb2⟩; have HX2 := Lib.hid (blk_via hb2 HXZ.out); have HY2 := Lib.hid (blk_via hb2 HYZ.out); have HB2 := Lib.hid (below_via HBZ.out hb2); obtain ⟨r0, r1, r2, r3⟩ := vb4 HX2.out; obtain ⟨t0, t1, t2, t3⟩ := vb4 HY2.out; clear hb2 p0 p1 p2 p3 q0 q1 q2 q3))
      go_ret
      exact ⟨rfl, HB2.out⟩
    | true =>
      rw [hk] at HKW
      cases hwi : withinI x.v y.v m with
      | false =>
        have hR := N2.out hwi
        subst hR
        have HMW := fun W (h : Below w.heap.size w W) => Lib.hid (show Calls Tryz.prog 54 #[x.val, y.val, .int .i64 m] W (Ret (.bool false) W) by have := (HMW W h m).out; rwa [hwi] at this)
        clear hk hwi N1 N2 N3 HFW
        go_wp2_with (first
         | (have k1 := HX2; go_at_call 54; (with_reducible refine (HMW _ HB2.out).out.mono ?_); rintro e w3 ⟨rfl, hb3⟩; obtain ⟨u0, u1, u2, u3⟩ := vb4 (blk_via hb3 HX2.out); obtain ⟨v0, v1, v2, v3⟩ := vb4 (blk_via hb3 HY2.out); have HB3 := Lib.hid (below_via HB2.out hb3); clear hb3 r0 r1 r2 r3 t0 t1 t2 t3)
         | (go_at_call 53; (with_reducible refine (HKW _).out.mono ?_); rintro e w2 ⟨rfl, hb2⟩; have HX2 := Lib.hid (blk_via hb2 HXZ.out); have HY2 := Lib.hid (blk_via hb2 HYZ.out); have HB2 := Lib.hid (below_via HBZ.out hb2); obtain ⟨r0, r1, r2, r3⟩ := vb4 HX2.out; obtain ⟨t0, t1, t2, t3⟩ := vb4 HY2.out; clear hb2 p0 p1 p2 p3 q0 q1 q2 q3))
        go_ret
        exact ⟨rfl, HB3.out⟩
      | true =>
        have hR := N3.out hk hwi
        subst hR
        have HMW := fun W (h : Below w.heap.size w W) => Lib.hid (show Calls Tryz.prog 54 #[x.val, y.val, .int .i64 m] W (Ret (.bool true) W) by have := (HMW W h m).out; rwa [hwi] at this)
        clear hk hwi N1 N2 N3
        go_wp2_with (first
         | (have k2 := HB3; go_at_call 55; (with_reducible refine (HFW _ HB3.out).out.mono ?_); rintro e w4 ⟨rfl, hb4⟩; have HB4 := Lib.hid (below_via HB3.out hb4); clear hb4)
         | (have k1 := HX2; go_at_call 54; (with_reducible refine (HMW _ HB2.out).out.mono ?_); rintro e w3 ⟨rfl, hb3⟩; obtain ⟨u0, u1, u2, u3⟩ := vb4 (blk_via hb3 HX2.out); obtain ⟨v0, v1, v2, v3⟩ := vb4 (blk_via hb3 HY2.out); have HB3 := Lib.hid (below_via HB2.out hb3); clear hb3 r0 r1 r2 r3 t0 t1 t2 t3)
         | (go_at_call 53; (with_reducible refine (HKW _).out.mono ?_); rintro e w2 ⟨rfl, hb2⟩; have HX2 := Lib.hid (blk_via hb2 HXZ.out); have HY2 := Lib.hid (blk_via hb2 HYZ.out); have HB2 := Lib.hid (below_via HBZ.out hb2); obtain ⟨r0, r1, r2, r3⟩ := vb4 HX2.out; obtain ⟨t0, t1, t2, t3⟩ := vb4 HY2.out; clear hb2 p0 p1 p2 p3 q0 q1 q2 q3))
        go_ret
        exact ⟨rfl, HB4.out⟩
set_option maxRecDepth 100000 in
set_option maxHeartbeats 3200000 in
theorem are21_c (w : World) (x y : AV) (hx : Rd w x) (hy : Rd w y) (hwx : x.w ≤ 1048576) (hwy : y.w ≤ 1048576) : Calls Tryz.prog 12 #[x.val, y.val] w (Ret (.bool (nearI x.v y.v != -1)) w) := by
  have hb1 := fun (o1 o2 : Obj) => ((Below.refl w.heap.size w).alloc (Nat.le_refl _) o1).alloc (by simp) o2
  have HN := Lib.hid (near_c ((w.alloc (.cells #[.int .u8 x.k, .string x.t, .slice x.la x.l.length x.lc, .slice x.ka x.ks.length x.kc] 26)).alloc (.cells #[.int .u8 y.k, .string y.t, .slice y.la y.l.length y.lc, .slice y.ka y.ks.length y.kc] 26)) x y (hx.up (hb1 _ _)) (hy.up (hb1 _ _)) hwx hwy)
  obtain ⟨k, hk⟩ : ∃ k, k = nearI x.v y.v := ⟨_, rfl⟩
  rw [← hk] at HN ⊢
  clear hk hx hy
  go_enter Tryz.func12, Tryz.ntmps12
  go_wp2_with (go_at_call 32; (with_reducible refine HN.out.mono ?_); rintro e w1 ⟨rfl, hb⟩)
  go_ret
  exact ⟨rfl, below_via (hb1 _ _) hb⟩
end Go.Proofs.YtmhkacafilpliaaGreat

namespace Go.Proofs.YtmhkacafilpliaaGreat
open Go.RowKit Go.Sort Go.Shelf Go.BigFrame

/-- One candidate more: the place and the distance of the best so far. -/
def better (i d at_ best : Int) : Int × Int := if d != -1 && (at_ == -1 || decide (d < best)) then (i, d) else (at_, best)
/-- The two boxes behind a call, and all else as it was. -/
def BoxPost (A B : Nat) (p : Int × Int) (w : World) (e : Ending) (w' : World) : Prop := (∃ v, e = .returned v) ∧ w'.heap[A]? = some (.cells #[.int .i64 p.1] 3 (0, 0)) ∧ w'.heap[B]? = some (.cells #[.int .i64 p.2] 3 (0, 0)) ∧ (∀ k, k ≠ A → k ≠ B → w'.heap[k]? = w.heap[k]?) ∧ ∀ n, n ≤ A → n ≤ B → Below n w w'
theorem box_cell {w : World} {A : Nat} {v : Value} {t : TypeId} (h : w.heap[A]? = some (.cells #[v] t (0, 0))) : w.cell? ⟨A, 0, none⟩ = some v := by simp [World.cell?, h]
theorem box_frozen {w : World} {A : Nat} {v : Value} {t : TypeId} (h : w.heap[A]? = some (.cells #[v] t (0, 0))) : w.frozen? ⟨A, 0, none⟩ = false := by simp [World.frozen?, h]
theorem box_set2 {w : World} {A B : Nat} {i d u u' : Value} {t : TypeId} (hA : w.heap[A]? = some (.cells #[u] t (0, 0))) (hB : w.heap[B]? = some (.cells #[u'] t (0, 0))) (hAB : A ≠ B) :
    ((w.setCell ⟨B, 0, none⟩ d).setCell ⟨A, 0, none⟩ i).heap[A]? = some (.cells #[i] t (0, 0)) ∧ ((w.setCell ⟨B, 0, none⟩ d).setCell ⟨A, 0, none⟩ i).heap[B]? = some (.cells #[d] t (0, 0)) ∧
    (∀ k, k ≠ A → k ≠ B → ((w.setCell ⟨B, 0, none⟩ d).setCell ⟨A, 0, none⟩ i).heap[k]? = w.heap[k]?) ∧ ∀ n, n ≤ A → n ≤ B → Below n w ((w.setCell ⟨B, 0, none⟩ d).setCell ⟨A, 0, none⟩ i) := by
  have hA1 : (w.setCell ⟨B, 0, none⟩ d).heap[A]? = some (.cells #[u] t (0, 0)) := by rw [Below.heap_setCell _ _ _ A hAB]; exact hA
  have hB1 : (w.setCell ⟨B, 0, none⟩ d).heap[B]? = some (.cells #[d] t (0, 0)) := Go.Joins.block_setCell hB (i := 0) d
  refine ⟨Go.Joins.block_setCell hA1 (i := 0) i, ?_, fun k h1 h2 => ?_, fun n h1 h2 => ((Below.refl n w).setCell h2 _).setCell h1 _⟩
  · rw [Below.heap_setCell _ _ _ B (Ne.symm hAB)]; exact hB1
  · rw [Below.heap_setCell _ _ _ k h1, Below.heap_setCell _ _ _ k h2]
set_option maxRecDepth 100000 in
set_option maxHeartbeats 3200000 in
theorem best1_c (w : World) (A B : Nat) (i d at_ best : Int) (hA : w.heap[A]? = some (.cells #[.int .i64 at_] 3 (0, 0))) (hB : w.heap[B]? = some (.cells #[.int .i64 best] 3 (0, 0))) (hAB : A ≠ B) :
    Calls Tryz.prog 31 #[.int .i64 i, .int .i64 d, .pointer (some ⟨A, 0, none⟩), .pointer (some ⟨B, 0, none⟩)] w (BoxPost A B (better i d at_ best) w) := by
  have cA := box_cell hA
  have cB := box_cell hB
  have fA := box_frozen hA
  have fB := box_frozen hB
  have H2 := Lib.hid (box_set2 (i := .int .i64 i) (d := .int .i64 d) hA hB hAB)
  have HA := Lib.hid hA
  have HB := Lib.hid hB
  have hBA := Ne.symm hAB
  clear hA hB
  by_cases h1 : d = -1
  · have e : better i d at_ best = (at_, best) := by simp [better, h1]
    rw [e]
    have c1 : (d != -1) = false := by simp [h1]
    clear e h1
    go_enter Tryz.func31, Tryz.ntmps31
    go_wp2_with fail
    refine bodyPost_ret (results_none rfl _ _ _) rfl ?_
    exact ⟨⟨_, rfl⟩, HA.out, HB.out, fun _ _ _ => rfl, fun _ _ _ => Below.refl _ _⟩
  have c1 : (d != -1) = true := by simp [h1]
  by_cases h2 : at_ = -1
  · have e : better i d at_ best = (i, d) := by simp [better, h1, h2]
    rw [e]
    have c2 : (at_ == -1) = true := by simp [h2]
    clear e h1 h2
    go_enter Tryz.func31, Tryz.ntmps31
    go_wp2_with fail
    refine bodyPost_ret (results_none rfl _ _ _) rfl ?_
    exact ⟨⟨_, rfl⟩, H2.out⟩
  have c2 : (at_ == -1) = false := by simp [h2]
  by_cases h3 : d < best
  · have e : better i d at_ best = (i, d) := by simp [better, h1, h3]
    rw [e]
    clear e h1 h2
    go_enter Tryz.func31, Tryz.ntmps31
    go_wp2_with fail
    refine bodyPost_ret (results_none rfl _ _ _) rfl ?_
    exact ⟨⟨_, rfl⟩, H2.out⟩
  · have e : better i d at_ best = (at_, best) := by simp [better, h1, h2, h3]
    rw [e]
    clear e h1 h2
    go_enter Tryz.func31, Tryz.ntmps31
    go_wp2_with fail
    refine bodyPost_ret (results_none rfl _ _ _) rfl ?_
    exact ⟨⟨_, rfl⟩, HA.out, HB.out, fun _ _ _ => rfl, fun _ _ _ => Below.refl _ _⟩
/-- The best of the first k candidates. -/
def nearP (a : Val) (l : List Val) : Nat → Int × Int
  | 0 => (-1, 0)
  | k + 1 => match l[k]? with | some c => better k (nearI a c) (nearP a l k).1 (nearP a l k).2 | none => nearP a l k
theorem nearP_succ {a : Val} {l : List AV} {k : Nat} {s : AV} (h : l[k]? = some s) : nearP a (l.map AV.v) (k + 1) = better k (nearI a s.v) (nearP a (l.map AV.v) k).1 (nearP a (l.map AV.v) k).2 := by
  show (match (l.map AV.v)[k]? with | some c => _ | none => _) = _
  rw [List.getElem?_map, h]
  rfl
set_option maxRecDepth 100000 in
set_option maxHeartbeats 3200000 in
theorem nearest_c (w : World) (x : AV) (a : Option Addr) (cap : Nat) (l : List AV) (h : SlE AV.enc 4 w 0 w.heap.size a l) (hl : l.length ≤ 1048576) (hx : Rd w x) (hwx : x.w ≤ 1048576) (hr : ∀ y ∈ l, Rd w y ∧ y.w ≤ 1048576) :
    Calls Tryz.prog 10 #[x.val, .slice a l.length cap] w (Ret (.int .i64 (nearP x.v (l.map AV.v) l.length).1) w) := by
  have HN := fun (y : AV) (hy : y ∈ l) W (h : Below w.heap.size w W) => Lib.hid (near_c W x y (hx.up h) ((hr y hy).1.up h) hwx (hr y hy).2)
  have HNN := Lib.hid HN
  have HSL := Lib.hid h
  clear h HN hx hr
  obtain ⟨P, hP⟩ : ∃ P, P = nearP x.v (l.map AV.v) := ⟨_, rfl⟩
  have P0 := Lib.hid (show P 0 = (-1, 0) by rw [hP]; rfl)
  have PS := Lib.hid (show ∀ k s, l[k]? = some s → P (k + 1) = better k (nearI x.v s.v) (P k).1 (P k).2 from fun k s h => by rw [hP]; exact nearP_succ h)
  rw [← hP]
  clear hP
  go_enter Tryz.func10, Tryz.ntmps10
  go_wp2_with fail
  go_loopw [13] (fun s13 wr => ∃ k : Nat, k ≤ l.length ∧ s13 = .int .i64 k ∧ Below w.heap.size w wr ∧ wr.heap[w.heap.size]? = some (.cells #[.int .u8 x.k, .string x.t, .slice x.la x.l.length x.lc, .slice x.ka x.ks.length x.kc] 26 (0, 0)) ∧ wr.heap[w.heap.size + 1 + 1]? = some (.cells #[.int .i64 (P k).1] 3 (0, 0)) ∧ wr.heap[w.heap.size + 1]? = some (.cells #[.int .i64 (P k).2] 3 (0, 0))) (fun s13 _ => l.length - (intOf s13).toNat)
  case atStart =>
    refine ⟨0, Nat.zero_le _, rfl, below_al (below_al (below_al (Below.refl _ _))), blk_al (blk_al (heap_alloc_new w _)), ?_, ?_⟩
    · rw [P0.out]; exact blk_new3 w _ _ _
    · rw [P0.out]; exact blk_al (blk_new2 w _ _)
  case round =>
    obtain ⟨k, hk, rfl, hbw, hX, hA, hB⟩ := hrel
    have HBW := Lib.hid hbw
    obtain ⟨p0, p1, p2, p3⟩ := vb4 hX
    have c5 := box_cell hA
    by_cases hlt : k < l.length
    · have hks : l[k]? = some l[k] := List.getElem?_eq_getElem hlt
      have hmem : l[k] ∈ l := List.getElem_mem hlt
      generalize l[k] = s at *
      obtain ⟨b, off, hla, -, hb1, hb2, h0, h1, h2, h3⟩ := vals_at HSL.out hks
      rw [← hbw.cell (p := ⟨_, _, none⟩) hb2] at h0 h1 h2 h3
      have hbb : b < wr.heap.size := Nat.lt_of_lt_of_le hb2 hbw.size
      have hlt' : (k : Int) < (l.length : Int) := by omega
      have hk0 : (0 : Int) ≤ (k : Int) := by omega
      have lx : w.heap.size < wr.heap.size := (Array.getElem?_eq_some_iff.1 hX).1
      have HK := Lib.hid (PS.out k s hks)
      have HX := Lib.hid hX
      have HAK := Lib.hid hA
      have HBK := Lib.hid hB
      have HC := fun W (h : Below w.heap.size w W) => Lib.hid (HNN.out s hmem W h).out
      subst hla
      clear hks hmem hX hA hB hbw c5
      go_wp2_with (first
        | (have k1 := HW2; go_at_call 31; (with_reducible refine (best1_c w2 (w.heap.size + 1 + 1) (w.heap.size + 1) k (nearI x.v s.v) _ _ HA2.out HB2.out (by omega)).mono ?_); rintro e w3 ⟨⟨v3, rfl⟩, hA3, hB3, hk3, hb3⟩)
        | (go_at_call 32; (with_reducible refine (HC _ (below_al HBW.out)).out.mono ?_); rintro e w2 ⟨rfl, hb2⟩; have HW2 := Lib.hid (below_via (below_al HBW.out) hb2); have HA2 := Lib.hid (blk_via hb2 (blk_al HAK.out)); have HB2 := Lib.hid (blk_via hb2 (blk_al HBK.out)); have HX2 := Lib.hid (blk_via hb2 (blk_al HX.out)); clear hb2))
      exact ⟨⟨k + 1, by omega, by go_num, HW2.out.trans (hb3 _ (by omega) (by omega)), (hk3 _ (by omega) (by omega)).trans HX2.out, by rw [HK.out]; exact hA3, by rw [HK.out]; exact hB3⟩, by simp [intOf]; omega⟩
    · have hkl : k = l.length := by omega
      have hge : ¬ (k : Int) < (l.length : Int) := by omega
      go_wp2_with fail
      go_ret
      exact ⟨by first | rfl | (rw [hkl]; rfl), HBW.out⟩
end Go.Proofs.YtmhkacafilpliaaGreat
