/-
  values.Cmp and values.Same as plain functions of two values. Conditions: the trees lie in memory, their weight is bounded.
-/
import Derived.Test.YtcpdogjcofkpcaaDoorO2
import Derived.Test.YtcpdogjcofkpcaaDoorVC
namespace Go.Proofs.YtcpdogjcofkpcaaDoor
open Go.RowKit Go.Sort

def cmpR (a b : Val) : Int := if a.may = true ∧ b.may = true then cmpV 256 a b else 0
def sameV (a b : Val) : Bool := a.may && b.may && decide (cmpV 256 a b = 0)

theorem bx_b {w : World} {x y : AV} {w2 : World} (hb : Below ((w.alloc (.cells #[.int .u8 x.k, .string x.t, .slice x.la x.l.length x.lc, .slice x.ka x.ks.length x.kc] 26)).alloc (.cells #[.int .u8 y.k, .string y.t, .slice y.la y.l.length y.lc, .slice y.ka y.ks.length y.kc] 26)).heap.size ((w.alloc (.cells #[.int .u8 x.k, .string x.t, .slice x.la x.l.length x.lc, .slice x.ka x.ks.length x.kc] 26)).alloc (.cells #[.int .u8 y.k, .string y.t, .slice y.la y.l.length y.lc, .slice y.ka y.ks.length y.kc] 26)) w2) :
    (w2.cell? ⟨w.heap.size, 0, none⟩ = some (.int .u8 x.k) ∧ w2.cell? ⟨w.heap.size, 1, none⟩ = some (.string x.t) ∧ w2.cell? ⟨w.heap.size, 2, none⟩ = some (.slice x.la x.l.length x.lc) ∧ w2.cell? ⟨w.heap.size, 3, none⟩ = some (.slice x.ka x.ks.length x.kc)) ∧
    (w2.cell? ⟨w.heap.size + 1, 0, none⟩ = some (.int .u8 y.k) ∧ w2.cell? ⟨w.heap.size + 1, 1, none⟩ = some (.string y.t) ∧ w2.cell? ⟨w.heap.size + 1, 2, none⟩ = some (.slice y.la y.l.length y.lc) ∧ w2.cell? ⟨w.heap.size + 1, 3, none⟩ = some (.slice y.ka y.ks.length y.kc)) := by
  have h1 := vbox4 ((hb.block w.heap.size (by simp; omega)).trans ((heap_alloc_old _ _ _ (by simp)).trans (heap_alloc_new w _)))
  have h2 := heap_alloc_new (w.alloc (.cells #[.int .u8 x.k, .string x.t, .slice x.la x.l.length x.lc, .slice x.ka x.ks.length x.kc] 26)) (.cells #[.int .u8 y.k, .string y.t, .slice y.la y.l.length y.lc, .slice y.ka y.ks.length y.kc] 26)
  rw [World.size_alloc] at h2
  have h3 := vbox4 ((hb.block (w.heap.size + 1) (by simp)).trans h2)
  exact ⟨⟨h1.1, h1.2.1, h1.2.2.1, h1.2.2.2.1⟩, h3.1, h3.2.1, h3.2.2.1, h3.2.2.2.1⟩

set_option maxRecDepth 100000 in
set_option maxHeartbeats 3200000 in
theorem cmp_c (x y : AV) (w : World) (hx : Rd w x) (hy : Rd w y) (hwx : x.w ≤ 1048576) (hwy : y.w ≤ 1048576) : Calls Tryd.prog 10 #[x.val, y.val] w (Ret (.int .i64 (cmpR x.v y.v)) w) := by
  have hb1 := fun o o' => ((Below.refl w.heap.size w).alloc (Nat.le_refl _) o).alloc (by simp) o'
  have HM1 := fun W h => Lib.hid (may_c W x h hwx)
  have HM2 := fun W h => Lib.hid (may_c W y h hwy)
  have HC := fun W h1 h2 hm1 hm2 => Lib.hid (compare_c 256 W x y h1 h2 hwx hwy hm1 hm2)
  rw [Val.may_eq, Val.may_eq] at HC
  cases hm1 : x.v.may with
  | false =>
    have HF := Lib.hid (show cmpR x.v y.v = 0 by unfold cmpR; rw [hm1]; simp)
    rw [hm1] at HM1
    clear hm1 HC HM2
    go_enter Tryd.func10, Tryd.ntmps10
    go_wp2_with (go_at_call 8; refine (HM1 _ (hx.up (hb1 _ _))).out.mono ?_; rintro e w2 ⟨rfl, hb⟩)
    go_ret
    exact ⟨by rw [HF.out]; rfl, below_via (hb1 _ _) hb⟩
  | true =>
    cases hm2 : y.v.may with
    | false =>
      have HF := Lib.hid (show cmpR x.v y.v = 0 by unfold cmpR; rw [hm2]; simp)
      rw [hm1] at HM1
      rw [hm2] at HM2
      clear hm1 hm2 HC
      go_enter Tryd.func10, Tryd.ntmps10
      go_wp2_with (go_at_call 8; first
        | ((with_reducible refine (HM1 _ (hx.up (hb1 _ _))).out.mono ?_); rintro e w2 ⟨rfl, hb⟩
           have hbw := below_via (hb1 _ _) hb
           obtain ⟨⟨q0, q1, q2, q3⟩, p0, p1, p2, p3⟩ := bx_b hb)
        | ((with_reducible refine (HM2 _ (hy.up hbw)).out.mono ?_); rintro e w3 ⟨rfl, hb3⟩))
      go_ret
      exact ⟨by rw [HF.out]; rfl, below_via hbw hb3⟩
    | true =>
      have HF := Lib.hid (show cmpR x.v y.v = cmpV 256 x.v y.v by unfold cmpR; rw [hm1, hm2]; simp)
      rw [hm1] at HM1
      rw [hm2] at HM2
      have HC' := fun W h1 h2 => HC W h1 h2 hm1 hm2
      clear hm1 hm2 HC
      go_enter Tryd.func10, Tryd.ntmps10
      go_wp2_with (first
        | (go_at_call 8; first
            | ((with_reducible refine (HM1 _ (hx.up (hb1 _ _))).out.mono ?_); rintro e w2 ⟨rfl, hb⟩
               have hbw := below_via (hb1 _ _) hb
               obtain ⟨⟨q0, q1, q2, q3⟩, p0, p1, p2, p3⟩ := bx_b hb)
            | ((with_reducible refine (HM2 _ (hy.up hbw)).out.mono ?_); rintro e w3 ⟨rfl, hb3⟩
               have hbw3 := below_via hbw hb3
               obtain ⟨⟨r0, r1, r2, r3⟩, s0, s1, s2, s3⟩ := bx_b (hb.trans (hb3.mono hb.size))))
        | (go_at_call 24; refine (HC' _ (hx.up hbw3) (hy.up hbw3)).out.mono ?_; rintro e w4 ⟨rfl, hb4⟩))
      go_ret
      exact ⟨by rw [HF.out]; rfl, below_via hbw3 hb4⟩

set_option maxRecDepth 100000 in
set_option maxHeartbeats 3200000 in
theorem same_c (x y : AV) (w : World) (hx : Rd w x) (hy : Rd w y) (hwx : x.w ≤ 1048576) (hwy : y.w ≤ 1048576) : Calls Tryd.prog 11 #[x.val, y.val] w (Ret (.bool (sameV x.v y.v)) w) := by
  have hb1 := fun o o' => ((Below.refl w.heap.size w).alloc (Nat.le_refl _) o).alloc (by simp) o'
  have HM1 := fun W h => Lib.hid (may_c W x h hwx)
  have HM2 := fun W h => Lib.hid (may_c W y h hwy)
  have HC := fun W h1 h2 hm1 hm2 => Lib.hid (compare_c 256 W x y h1 h2 hwx hwy hm1 hm2)
  rw [Val.may_eq, Val.may_eq] at HC
  cases hm1 : x.v.may with
  | false =>
    have HF := Lib.hid (show sameV x.v y.v = false by unfold sameV; rw [hm1]; simp)
    rw [hm1] at HM1
    clear hm1 HC HM2
    go_enter Tryd.func11, Tryd.ntmps11
    go_wp2_with (go_at_call 8; refine (HM1 _ (hx.up (hb1 _ _))).out.mono ?_; rintro e w2 ⟨rfl, hb⟩)
    go_ret
    exact ⟨by rw [HF.out]; rfl, below_via (hb1 _ _) hb⟩
  | true =>
    cases hm2 : y.v.may with
    | false =>
      have HF := Lib.hid (show sameV x.v y.v = false by unfold sameV; rw [hm2]; simp)
      rw [hm1] at HM1
      rw [hm2] at HM2
      clear hm1 hm2 HC
      go_enter Tryd.func11, Tryd.ntmps11
      go_wp2_with (go_at_call 8; first
        | ((with_reducible refine (HM1 _ (hx.up (hb1 _ _))).out.mono ?_); rintro e w2 ⟨rfl, hb⟩
           have hbw := below_via (hb1 _ _) hb
           obtain ⟨⟨q0, q1, q2, q3⟩, p0, p1, p2, p3⟩ := bx_b hb)
        | ((with_reducible refine (HM2 _ (hy.up hbw)).out.mono ?_); rintro e w3 ⟨rfl, hb3⟩))
      go_ret
      exact ⟨by rw [HF.out]; rfl, below_via hbw hb3⟩
    | true =>
      have HF := Lib.hid (show sameV x.v y.v = (cmpV 256 x.v y.v == 0) by unfold sameV; rw [hm1, hm2, Bool.true_and, Bool.true_and]; rfl)
      rw [hm1] at HM1
      rw [hm2] at HM2
      have HC' := fun W h1 h2 => HC W h1 h2 hm1 hm2
      clear hm1 hm2 HC
      generalize cmpV 256 x.v y.v = R at *
      go_enter Tryd.func11, Tryd.ntmps11
      go_wp2_with (first
        | (go_at_call 8; first
            | ((with_reducible refine (HM1 _ (hx.up (hb1 _ _))).out.mono ?_); rintro e w2 ⟨rfl, hb⟩
               have hbw := below_via (hb1 _ _) hb
               obtain ⟨⟨q0, q1, q2, q3⟩, p0, p1, p2, p3⟩ := bx_b hb)
            | ((with_reducible refine (HM2 _ (hy.up hbw)).out.mono ?_); rintro e w3 ⟨rfl, hb3⟩
               have hbw3 := below_via hbw hb3
               obtain ⟨⟨r0, r1, r2, r3⟩, s0, s1, s2, s3⟩ := bx_b (hb.trans (hb3.mono hb.size))))
        | (go_at_call 24; refine (HC' _ (hx.up hbw3) (hy.up hbw3)).out.mono ?_; rintro e w4 ⟨rfl, hb4⟩))
      go_ret
      exact ⟨by rw [HF.out]; rfl, below_via hbw3 hb4⟩
end Go.Proofs.YtcpdogjcofkpcaaDoor
