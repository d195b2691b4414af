/-
  inarchlaw24.RenamesAny answers true. Conditions: the values lie in memory, their weight is bounded; strconv's table of powers holds what its initialiser lays.
-/
import Derived.Test.YtcpdogjcofkpcaaGreatDoorNU
import Derived.Test.YtcpdogjcofkpcaaGreatDoorTC
import Derived.Test.YtcpdogjcofkpcaaGreatDoorSP
import Derived.Test.YtcpdogjcofkpcaaGreatDoorVF
namespace Go.Proofs.YtcpdogjcofkpcaaGreatDoor
open Go.RowKit Go.Sort

theorem Unfz.up {w w' : World} {A : Option Addr} (h : Unfz w A) (hb : Below w.heap.size w w') : Unfz w' A := fun b off e =>
  ⟨Nat.lt_of_lt_of_le (h b off e).1 hb.size, fun o => (hb.frozen (p := ⟨b, o, Option.none⟩) (h b off e).1).trans ((h b off e).2 o)⟩
theorem usedV_le1 (x y z : AV) (hw : x.w ≤ 1048576) : (usedV x.v y.v z.v).1.length ≤ 1048576 := by
  unfold usedV
  split
  · exact Nat.le_trans (List.length_filter_le _ _) (ofV_le x y)
  · simp
theorem usedV_le2 (x y z : AV) (hw : x.w ≤ 1048576) : (usedV x.v y.v z.v).2.length ≤ 1048576 := by
  unfold usedV
  split
  · exact Nat.le_trans (List.length_filter_le _ _) (ofV_le x z)
  · simp
set_option maxRecDepth 100000 in
set_option maxHeartbeats 3200000 in
theorem rany_out0 (w : World) (x y z : AV) (hx : Rd w x) (_hy : Rd w y) (_hz : Rd w z) (hwx : x.w ≤ 1048576) (_hwy : y.w ≤ 1048576) (_hwz : z.w ≤ 1048576) (hP : Pow w)  (h0 : 1500 < x.v.w) :
    Calls Tryz.prog 4 #[x.val, y.val, z.val] w (Ret (.bool true) w) := by
  have HGX := fun W (h : Below w.heap.size w W) => Lib.hid (great14_c x W (hx.up h) hwx)
  have HL := fun W (h : Below w.heap.size w W) => Lib.hid (lives24_c W (hP.below h))
  have hB0 := tri_0 (w := w) (o1 := .cells #[.int .u8 x.k, .string x.t, .slice x.la x.l.length x.lc, .slice x.ka x.ks.length x.kc] 48) (o2 := .cells #[.int .u8 y.k, .string y.t, .slice y.la y.l.length y.lc, .slice y.ka y.ks.length y.kc] 48) (o3 := .cells #[.int .u8 z.k, .string z.t, .slice z.la z.l.length z.lc, .slice z.ka z.ks.length z.kc] 48)
  have hb0 := tri_b (w := w) (o1 := .cells #[.int .u8 x.k, .string x.t, .slice x.la x.l.length x.lc, .slice x.ka x.ks.length x.kc] 48) (o2 := .cells #[.int .u8 y.k, .string y.t, .slice y.la y.l.length y.lc, .slice y.ka y.ks.length y.kc] 48) (o3 := .cells #[.int .u8 z.k, .string z.t, .slice z.la z.l.length z.lc, .slice z.ka z.ks.length z.kc] 48)
  rw [decide_eq_true h0] at HGX
  clear h0
  go_enter Tryz.func4, Tryz.ntmps4
  go_wp2_with (first
      | (go_at_call 21; first
          | ((with_reducible refine (HGX _ (by assumption)).out.mono ?_); rintro e w1 ⟨rfl, hb1⟩
             have hB1 := tri_step (N := w.heap.size + 1 + 1 + 1) (by assumption) hb1 (by simp)
             obtain ⟨k1, k2, k3, k4, k5⟩ := tri_at hB1
             obtain ⟨q0, q1, q2, q3, -, -, -, -⟩ := vbox4 k1
             obtain ⟨p0, p1, p2, p3, -, -, -, -⟩ := vbox4 k2
             obtain ⟨r0, r1, r2, r3, -, -, -, -⟩ := vbox4 k3))
      | (go_at_call 22; refine (HL _ (by assumption)).out.mono ?_; rintro e w9 ⟨rfl, hb9⟩))
  go_ret
  exact ⟨rfl, below_via (by assumption) hb9⟩

set_option maxRecDepth 100000 in
set_option maxHeartbeats 3200000 in
theorem rany_out1 (w : World) (x y z : AV) (hx : Rd w x) (hy : Rd w y) (_hz : Rd w z) (hwx : x.w ≤ 1048576) (hwy : y.w ≤ 1048576) (_hwz : z.w ≤ 1048576) (hP : Pow w) (h0 : ¬ 1500 < x.v.w) (h1 : 1500 < y.v.w) :
    Calls Tryz.prog 4 #[x.val, y.val, z.val] w (Ret (.bool true) w) := by
  have HGX := fun W (h : Below w.heap.size w W) => Lib.hid (great14_c x W (hx.up h) hwx)
  have HGY := fun W (h : Below w.heap.size w W) => Lib.hid (great14_c y W (hy.up h) hwy)
  have HL := fun W (h : Below w.heap.size w W) => Lib.hid (lives24_c W (hP.below h))
  have hB0 := tri_0 (w := w) (o1 := .cells #[.int .u8 x.k, .string x.t, .slice x.la x.l.length x.lc, .slice x.ka x.ks.length x.kc] 48) (o2 := .cells #[.int .u8 y.k, .string y.t, .slice y.la y.l.length y.lc, .slice y.ka y.ks.length y.kc] 48) (o3 := .cells #[.int .u8 z.k, .string z.t, .slice z.la z.l.length z.lc, .slice z.ka z.ks.length z.kc] 48)
  have hb0 := tri_b (w := w) (o1 := .cells #[.int .u8 x.k, .string x.t, .slice x.la x.l.length x.lc, .slice x.ka x.ks.length x.kc] 48) (o2 := .cells #[.int .u8 y.k, .string y.t, .slice y.la y.l.length y.lc, .slice y.ka y.ks.length y.kc] 48) (o3 := .cells #[.int .u8 z.k, .string z.t, .slice z.la z.l.length z.lc, .slice z.ka z.ks.length z.kc] 48)
  rw [decide_eq_false h0] at HGX
  rw [decide_eq_true h1] at HGY
  clear h0 h1
  go_enter Tryz.func4, Tryz.ntmps4
  go_wp2_with (first
      | (go_at_call 21; first
          | ((with_reducible refine (HGX _ (by assumption)).out.mono ?_); rintro e w1 ⟨rfl, hb1⟩
             have hB1 := tri_step (N := w.heap.size + 1 + 1 + 1) (by assumption) hb1 (by simp)
             obtain ⟨k1, k2, k3, k4, k5⟩ := tri_at hB1
             obtain ⟨q0, q1, q2, q3, -, -, -, -⟩ := vbox4 k1
             obtain ⟨p0, p1, p2, p3, -, -, -, -⟩ := vbox4 k2
             obtain ⟨r0, r1, r2, r3, -, -, -, -⟩ := vbox4 k3)
          | ((with_reducible refine (HGY _ (by assumption)).out.mono ?_); rintro e w2 ⟨rfl, hb2⟩
             have hB2 := tri_step (N := w.heap.size + 1 + 1 + 1) (by assumption) hb2 (by simp)
             clear k1 k2 k3 k4 k5 q0 q1 q2 q3 p0 p1 p2 p3 r0 r1 r2 r3
             obtain ⟨k1, k2, k3, k4, k5⟩ := tri_at hB2
             obtain ⟨q0, q1, q2, q3, -, -, -, -⟩ := vbox4 k1
             obtain ⟨p0, p1, p2, p3, -, -, -, -⟩ := vbox4 k2
             obtain ⟨r0, r1, r2, r3, -, -, -, -⟩ := vbox4 k3))
      | (go_at_call 22; refine (HL _ (by assumption)).out.mono ?_; rintro e w9 ⟨rfl, hb9⟩))
  go_ret
  exact ⟨rfl, below_via (by assumption) hb9⟩

set_option maxRecDepth 100000 in
set_option maxHeartbeats 3200000 in
theorem rany_out2 (w : World) (x y z : AV) (hx : Rd w x) (hy : Rd w y) (hz : Rd w z) (hwx : x.w ≤ 1048576) (hwy : y.w ≤ 1048576) (hwz : z.w ≤ 1048576) (hP : Pow w) (h0 : ¬ 1500 < x.v.w) (h1 : ¬ 1500 < y.v.w) (h2 : 1500 < z.v.w) :
    Calls Tryz.prog 4 #[x.val, y.val, z.val] w (Ret (.bool true) w) := by
  have HGX := fun W (h : Below w.heap.size w W) => Lib.hid (great14_c x W (hx.up h) hwx)
  have HGY := fun W (h : Below w.heap.size w W) => Lib.hid (great14_c y W (hy.up h) hwy)
  have HGZ := fun W (h : Below w.heap.size w W) => Lib.hid (great14_c z W (hz.up h) hwz)
  have HL := fun W (h : Below w.heap.size w W) => Lib.hid (lives24_c W (hP.below h))
  have hB0 := tri_0 (w := w) (o1 := .cells #[.int .u8 x.k, .string x.t, .slice x.la x.l.length x.lc, .slice x.ka x.ks.length x.kc] 48) (o2 := .cells #[.int .u8 y.k, .string y.t, .slice y.la y.l.length y.lc, .slice y.ka y.ks.length y.kc] 48) (o3 := .cells #[.int .u8 z.k, .string z.t, .slice z.la z.l.length z.lc, .slice z.ka z.ks.length z.kc] 48)
  have hb0 := tri_b (w := w) (o1 := .cells #[.int .u8 x.k, .string x.t, .slice x.la x.l.length x.lc, .slice x.ka x.ks.length x.kc] 48) (o2 := .cells #[.int .u8 y.k, .string y.t, .slice y.la y.l.length y.lc, .slice y.ka y.ks.length y.kc] 48) (o3 := .cells #[.int .u8 z.k, .string z.t, .slice z.la z.l.length z.lc, .slice z.ka z.ks.length z.kc] 48)
  rw [decide_eq_false h0] at HGX
  rw [decide_eq_false h1] at HGY
  rw [decide_eq_true h2] at HGZ
  clear h0 h1 h2
  go_enter Tryz.func4, Tryz.ntmps4
  go_wp2_with (first
      | (go_at_call 21; first
          | ((with_reducible refine (HGX _ (by assumption)).out.mono ?_); rintro e w1 ⟨rfl, hb1⟩
             have hB1 := tri_step (N := w.heap.size + 1 + 1 + 1) (by assumption) hb1 (by simp)
             obtain ⟨k1, k2, k3, k4, k5⟩ := tri_at hB1
             obtain ⟨q0, q1, q2, q3, -, -, -, -⟩ := vbox4 k1
             obtain ⟨p0, p1, p2, p3, -, -, -, -⟩ := vbox4 k2
             obtain ⟨r0, r1, r2, r3, -, -, -, -⟩ := vbox4 k3)
          | ((with_reducible refine (HGY _ (by assumption)).out.mono ?_); rintro e w2 ⟨rfl, hb2⟩
             have hB2 := tri_step (N := w.heap.size + 1 + 1 + 1) (by assumption) hb2 (by simp)
             clear k1 k2 k3 k4 k5 q0 q1 q2 q3 p0 p1 p2 p3 r0 r1 r2 r3
             obtain ⟨k1, k2, k3, k4, k5⟩ := tri_at hB2
             obtain ⟨q0, q1, q2, q3, -, -, -, -⟩ := vbox4 k1
             obtain ⟨p0, p1, p2, p3, -, -, -, -⟩ := vbox4 k2
             obtain ⟨r0, r1, r2, r3, -, -, -, -⟩ := vbox4 k3)
          | ((with_reducible refine (HGZ _ (by assumption)).out.mono ?_); rintro e w3 ⟨rfl, hb3⟩
             have hB3 := tri_step (N := w.heap.size + 1 + 1 + 1) (by assumption) hb3 (by simp)
             clear k1 k2 k3 k4 k5 q0 q1 q2 q3 p0 p1 p2 p3 r0 r1 r2 r3
             obtain ⟨k1, k2, k3, k4, k5⟩ := tri_at hB3
             obtain ⟨q0, q1, q2, q3, -, -, -, -⟩ := vbox4 k1
             obtain ⟨p0, p1, p2, p3, -, -, -, -⟩ := vbox4 k2
             obtain ⟨r0, r1, r2, r3, -, -, -, -⟩ := vbox4 k3))
      | (go_at_call 22; refine (HL _ (by assumption)).out.mono ?_; rintro e w9 ⟨rfl, hb9⟩))
  go_ret
  exact ⟨rfl, below_via (by assumption) hb9⟩

set_option maxRecDepth 100000 in
set_option maxHeartbeats 25600000 in
theorem rany_in (w : World) (x y z : AV) (hx : Rd w x) (hy : Rd w y) (hz : Rd w z) (hwx : x.w ≤ 1048576) (hwy : y.w ≤ 1048576) (hwz : z.w ≤ 1048576) (hP : Pow w) (h0 : ¬ 1500 < x.v.w) (h1 : ¬ 1500 < y.v.w) (h2 : ¬ 1500 < z.v.w) :
    Calls Tryz.prog 4 #[x.val, y.val, z.val] w (Ret (.bool true) w) := by
  have HGX := fun W (h : Below w.heap.size w W) => Lib.hid (great14_c x W (hx.up h) hwx)
  have HGY := fun W (h : Below w.heap.size w W) => Lib.hid (great14_c y W (hy.up h) hwy)
  have HGZ := fun W (h : Below w.heap.size w W) => Lib.hid (great14_c z W (hz.up h) hwz)
  have HTX := fun W (h : Below w.heap.size w W) => Lib.hid (twin14_c x W (hx.up h) hwx)
  have HTY := fun W (h : Below w.heap.size w W) => Lib.hid (twin14_c y W (hy.up h) hwy)
  have HTZ := fun W (h : Below w.heap.size w W) => Lib.hid (twin14_c z W (hz.up h) hwz)
  have HL := fun W (h : Below w.heap.size w W) => Lib.hid (lives24_c W (hP.below h))
  have hB0 := tri_0 (w := w) (o1 := .cells #[.int .u8 x.k, .string x.t, .slice x.la x.l.length x.lc, .slice x.ka x.ks.length x.kc] 48) (o2 := .cells #[.int .u8 y.k, .string y.t, .slice y.la y.l.length y.lc, .slice y.ka y.ks.length y.kc] 48) (o3 := .cells #[.int .u8 z.k, .string z.t, .slice z.la z.l.length z.lc, .slice z.ka z.ks.length z.kc] 48)
  have hb0 := tri_b (w := w) (o1 := .cells #[.int .u8 x.k, .string x.t, .slice x.la x.l.length x.lc, .slice x.ka x.ks.length x.kc] 48) (o2 := .cells #[.int .u8 y.k, .string y.t, .slice y.la y.l.length y.lc, .slice y.ka y.ks.length y.kc] 48) (o3 := .cells #[.int .u8 z.k, .string z.t, .slice z.la z.l.length z.lc, .slice z.ka z.ks.length z.kc] 48)
  rw [decide_eq_false h0] at HGX
  rw [decide_eq_false h1] at HGY
  rw [decide_eq_false h2] at HGZ
  have hl1 := usedV_le1 x y z hwx
  have hl2 := usedV_le2 x y z hwx
  have hl3 := ofV_le x y hwx
  have HX := Lib.hid hx
  have HY := Lib.hid hy
  have HZ := Lib.hid hz
  clear h0 h1 h2 hx hy hz
  go_enter Tryz.func4, Tryz.ntmps4
  go_upto_region 6 with (first
      | (go_at_call 21; first
          | ((with_reducible refine (HGX _ (by assumption)).out.mono ?_); rintro e w1 ⟨rfl, hb1⟩
             have hB1 := tri_step (N := w.heap.size + 1 + 1 + 1) (by assumption) hb1 (by simp)
             obtain ⟨k1, k2, k3, k4, k5⟩ := tri_at hB1
             obtain ⟨q0, q1, q2, q3, -, -, -, -⟩ := vbox4 k1
             obtain ⟨p0, p1, p2, p3, -, -, -, -⟩ := vbox4 k2
             obtain ⟨r0, r1, r2, r3, -, -, -, -⟩ := vbox4 k3)
          | ((with_reducible refine (HGY _ (by assumption)).out.mono ?_); rintro e w2 ⟨rfl, hb2⟩
             have hB2 := tri_step (N := w.heap.size + 1 + 1 + 1) (by assumption) hb2 (by simp)
             clear k1 k2 k3 k4 k5 q0 q1 q2 q3 p0 p1 p2 p3 r0 r1 r2 r3
             obtain ⟨k1, k2, k3, k4, k5⟩ := tri_at hB2
             obtain ⟨q0, q1, q2, q3, -, -, -, -⟩ := vbox4 k1
             obtain ⟨p0, p1, p2, p3, -, -, -, -⟩ := vbox4 k2
             obtain ⟨r0, r1, r2, r3, -, -, -, -⟩ := vbox4 k3)
          | ((with_reducible refine (HGZ _ (by assumption)).out.mono ?_); rintro e w3 ⟨rfl, hb3⟩
             have hB3 := tri_step (N := w.heap.size + 1 + 1 + 1) (by assumption) hb3 (by simp)
             clear k1 k2 k3 k4 k5 q0 q1 q2 q3 p0 p1 p2 p3 r0 r1 r2 r3
             obtain ⟨k1, k2, k3, k4, k5⟩ := tri_at hB3
             obtain ⟨q0, q1, q2, q3, -, -, -, -⟩ := vbox4 k1
             obtain ⟨p0, p1, p2, p3, -, -, -, -⟩ := vbox4 k2
             obtain ⟨r0, r1, r2, r3, -, -, -, -⟩ := vbox4 k3))
      | (go_at_call 23; first
          | ((with_reducible refine (HTX _ k5).out.mono ?_); rintro e w4 ⟨x', rfl, hxv, htx, hb4⟩
             have hB4 := tri_step (N := w.heap.size + 1 + 1 + 1) hB3 hb4 (by simp)
             clear k1 k2 k3 k4 k5 q0 q1 q2 q3 p0 p1 p2 p3 r0 r1 r2 r3
             obtain ⟨k1, k2, k3, k4, k5⟩ := tri_at hB4
             have hB4' := hB4.alloc (by have := hB4.size; simpa using this) (.cells #[.int .u8 x'.k, .string x'.t, .slice x'.la x'.l.length x'.lc, .slice x'.ka x'.ks.length x'.kc] 48)
             have k5' := k5.alloc k5.size (.cells #[.int .u8 x'.k, .string x'.t, .slice x'.la x'.l.length x'.lc, .slice x'.ka x'.ks.length x'.kc] 48)
             have k6 : w.heap.size + 1 < w4.heap.size := by omega
             have k7 : w.heap.size < w4.heap.size := by omega
             obtain ⟨q0, q1, q2, q3, -, -, -, -⟩ := vbox4 k1
             obtain ⟨p0, p1, p2, p3, -, -, -, -⟩ := vbox4 k2
             obtain ⟨r0, r1, r2, r3, -, -, -, -⟩ := vbox4 k3
             have hT1 := heap_alloc_new w4 (.cells #[.int .u8 x'.k, .string x'.t, .slice x'.la x'.l.length x'.lc, .slice x'.ka x'.ks.length x'.kc] 48))
          | ((with_reducible refine (HTY _ k5').out.mono ?_); rintro e w5 ⟨y', rfl, hyv, hty, hb5⟩
             have hB5 := tri_step (N := w.heap.size + 1 + 1 + 1) hB4' hb5 (by simp)
             clear k1 k2 k3 k4 k5 k6 k7 q0 q1 q2 q3 p0 p1 p2 p3 r0 r1 r2 r3
             obtain ⟨k1, k2, k3, k4, k5⟩ := tri_at hB5
             have k8 := k5.alloc k5.size (.cells #[.int .u8 y'.k, .string y'.t, .slice y'.la y'.l.length y'.lc, .slice y'.ka y'.ks.length y'.kc] 48)
             have k6 : w.heap.size + 1 < w5.heap.size := by omega
             have k7 : w.heap.size < w5.heap.size := by omega
             obtain ⟨q0, q1, q2, q3, -, -, -, -⟩ := vbox4 k1
             obtain ⟨p0, p1, p2, p3, -, -, -, -⟩ := vbox4 k2
             obtain ⟨r0, r1, r2, r3, -, -, -, -⟩ := vbox4 k3
             have hB5' := hB5.alloc (by have := hB5.size; simpa using this) (.cells #[.int .u8 y'.k, .string y'.t, .slice y'.la y'.l.length y'.lc, .slice y'.ka y'.ks.length y'.kc] 48))
          | ((with_reducible refine (HTZ _ k8).out.mono ?_); rintro e w6 ⟨z', rfl, hzv, htz, hb6⟩
             have hB6 := tri_step (N := w.heap.size + 1 + 1 + 1) hB5' hb6 (by simp)
             clear k1 k2 k3 k4 k5 k6 k7 q0 q1 q2 q3 p0 p1 p2 p3 r0 r1 r2 r3)))
  go_name_world W7 hW7
  have hW7' : W7 = w6.alloc (.cells #[.int .u8 z'.k, .string z'.t, .slice z'.la z'.l.length z'.lc, .slice z'.ka z'.ks.length z'.kc] 48) := hW7.symm
  clear hW7
  have hB7 : Below (w.heap.size + 1 + 1 + 1) (((w.alloc (.cells #[.int .u8 x.k, .string x.t, .slice x.la x.l.length x.lc, .slice x.ka x.ks.length x.kc] 48)).alloc (.cells #[.int .u8 y.k, .string y.t, .slice y.la y.l.length y.lc, .slice y.ka y.ks.length y.kc] 48)).alloc (.cells #[.int .u8 z.k, .string z.t, .slice z.la z.l.length z.lc, .slice z.ka z.ks.length z.kc] 48)) W7 := by rw [hW7']; exact hB6.alloc (by have := hB6.size; simpa using this) _
  obtain ⟨k1, k2, k3, k4, k5⟩ := tri_at hB7
  have z45 := hb5.size
  have z56 := hb6.size
  simp only [World.size_alloc] at z45 z56
  have b67 : Below w6.heap.size w6 W7 := by rw [hW7']; exact (Below.refl _ _).alloc (Nat.le_refl _) _
  have b57 : Below (w5.alloc (.cells #[.int .u8 y'.k, .string y'.t, .slice y'.la y'.l.length y'.lc, .slice y'.ka y'.ks.length y'.kc] 48)).heap.size (w5.alloc (.cells #[.int .u8 y'.k, .string y'.t, .slice y'.la y'.l.length y'.lc, .slice y'.ka y'.ks.length y'.kc] 48)) W7 := below_via hb6 b67
  have b57' : Below w5.heap.size w5 W7 := ((Below.refl _ _).alloc (Nat.le_refl _) _).trans (b57.mono (by simp))
  have b47 : Below (w4.alloc (.cells #[.int .u8 x'.k, .string x'.t, .slice x'.la x'.l.length x'.lc, .slice x'.ka x'.ks.length x'.kc] 48)).heap.size (w4.alloc (.cells #[.int .u8 x'.k, .string x'.t, .slice x'.la x'.l.length x'.lc, .slice x'.ka x'.ks.length x'.kc] 48)) W7 := below_via hb5 b57'
  have b47' : Below w4.heap.size w4 W7 := ((Below.refl _ _).alloc (Nat.le_refl _) _).trans (b47.mono (by simp))
  have t1 : W7.heap[w4.heap.size]? = some (.cells #[.int .u8 x'.k, .string x'.t, .slice x'.la x'.l.length x'.lc, .slice x'.ka x'.ks.length x'.kc] 48 (0, 0)) := (b47.block _ (by simp)).trans (heap_alloc_new w4 _)
  have t2 : W7.heap[w5.heap.size]? = some (.cells #[.int .u8 y'.k, .string y'.t, .slice y'.la y'.l.length y'.lc, .slice y'.ka y'.ks.length y'.kc] 48 (0, 0)) := (b57.block _ (by simp)).trans (heap_alloc_new w5 _)
  have t3 : W7.heap[w6.heap.size]? = some (.cells #[.int .u8 z'.k, .string z'.t, .slice z'.la z'.l.length z'.lc, .slice z'.ka z'.ks.length z'.kc] 48 (0, 0)) := by rw [hW7']; exact heap_alloc_new w6 _
  have htx7 := (htx.widen (Nat.zero_le _) (Nat.le_refl _)).up b47'
  have hty7 := (hty.widen (Nat.zero_le _) (Nat.le_refl _)).up b57'
  have htz7 := (htz.widen (Nat.zero_le _) (Nat.le_refl _)).up b67
  have hwx' : x'.w ≤ 1048576 := by show x'.v.w ≤ _; rw [hxv]; exact hwx
  have hwy' : y'.w ≤ 1048576 := by show y'.v.w ≤ _; rw [hyv]; exact hwy
  have hwz' : z'.w ≤ 1048576 := by show z'.v.w ≤ _; rw [hzv]; exact hwz
  have K5 := Lib.hid k5
  have N1 : w.heap.size < W7.heap.size := by omega
  have N2 : w.heap.size + 1 < W7.heap.size := by omega
  have N3 : w.heap.size + 1 + 1 < W7.heap.size := by omega
  have N4 := lt_of_blk t1
  have N5 := lt_of_blk t2
  have N6 := lt_of_blk t3
  have LD := Lib.hid (show ∀ W, Below W7.heap.size W7 W → _ from fun W (h : Below W7.heap.size W7 W) => And.intro (vbox4 (blk_up h k1)) (And.intro (vbox4 (blk_up h k2)) (And.intro (vbox4 (blk_up h k3)) (And.intro (vbox4 (blk_up h t1)) (And.intro (vbox4 (blk_up h t2)) (vbox4 (blk_up h t3)))))))
  have HLX := fun W (h : Below W7.heap.size W7 W) => Lib.hid (left14_c x x' W hxv (htx7.up h) (HX.out.up (below_via k5 h)) hwx)
  have HLY := fun W (h : Below W7.heap.size W7 W) => Lib.hid (left14_c y y' W hyv (hty7.up h) (HY.out.up (below_via k5 h)) hwy)
  have HLZ := fun W (h : Below W7.heap.size W7 W) => Lib.hid (left14_c z z' W hzv (htz7.up h) (HZ.out.up (below_via k5 h)) hwz)
  have HO := fun W (h : Below W7.heap.size W7 W) => Lib.hid (of_c W x' y' (htx7.up h).rd (hty7.up h).rd hwx' hwy' (hP.below (below_via k5 h)))
  have HU := fun W (h : Below W7.heap.size W7 W) => Lib.hid (ren_used_c W x' y' z' (htx7.up h).rd (hty7.up h).rd (htz7.up h).rd hwx' hwy' hwz' (hP.below (below_via k5 h)))
  have HRU := fun W (h : Below W7.heap.size W7 W) => Lib.hid (rren_used_c W x y z (HX.out.up (below_via k5 h)) (HY.out.up (below_via k5 h)) (HZ.out.up (below_via k5 h)) hwx hwy hwz)
  have HRO := fun W (h : Below W7.heap.size W7 W) => Lib.hid (rof_c W x y (HX.out.up (below_via k5 h)) (HY.out.up (below_via k5 h)) hwx hwy)
  rw [hxv, hyv] at HO
  rw [hxv, hyv, hzv] at HU
  obtain ⟨P, hPP⟩ : ∃ P, P = usedV x.v y.v z.v := ⟨_, rfl⟩
  rw [← hPP] at HU HRU hl1 hl2
  obtain ⟨T, hTT⟩ : ∃ T, T = ofV x.v y.v := ⟨_, rfl⟩
  rw [← hTT] at HO HRO hl3
  clear hPP hTT
  obtain ⟨L, M⟩ := P
  simp only at hl1 hl2
  have j7 : Below W7.heap.size W7 W7 := Below.refl _ _
  obtain ⟨⟨va0, va1, va2, va3, -, -, -, -⟩, ⟨vb0, vb1, vb2, vb3, -, -, -, -⟩, ⟨vc0, vc1, vc2, vc3, -, -, -, -⟩, ⟨vd0, vd1, vd2, vd3, -, -, -, -⟩, ⟨ve0, ve1, ve2, ve3, -, -, -, -⟩, ⟨vf0, vf1, vf2, vf3, -, -, -, -⟩⟩ := LD.out W7 j7
  clear k1 k2 k3 k4 k5 hB0 hb0 hB1 hB2 hB3 hB4 hB5 hB6 hB7 hB4' hB5' k5' k8 hb1 hb2 hb3 hb4 hb5 hb6 HGX HGY HGZ HTX HTY HTZ t1 t2 t3 hT1 htx hty htz htx7 hty7 htz7 b67 b57 b57' b47 b47' hW7' z45 z56 hxv hyv hzv hwx' hwy' hwz'
  go_wp2_with (first
      | (go_at_call 24; (with_reducible refine (HO _ j7).out.mono ?_); rintro e w8 ⟨A1, c1, rfl, s1, hb8, u1⟩
         have j8 := below_via j7 hb8
         clear va0 va1 va2 va3 vb0 vb1 vb2 vb3 vc0 vc1 vc2 vc3 vd0 vd1 vd2 vd3 ve0 ve1 ve2 ve3 vf0 vf1 vf2 vf3
         obtain ⟨⟨va0, va1, va2, va3, -, -, -, -⟩, ⟨vb0, vb1, vb2, vb3, -, -, -, -⟩, ⟨vc0, vc1, vc2, vc3, -, -, -, -⟩, ⟨vd0, vd1, vd2, vd3, -, -, -, -⟩, ⟨ve0, ve1, ve2, ve3, -, -, -, -⟩, ⟨vf0, vf1, vf2, vf3, -, -, -, -⟩⟩ := LD.out w8 j8)
      | (go_at_call 25; (with_reducible refine (HU _ j8).out.mono ?_); rintro e w9 ⟨A2, c2, A3, c3, rfl, s2, s3, hb9⟩
         have j9 := below_via j8 hb9
         clear va0 va1 va2 va3 vb0 vb1 vb2 vb3 vc0 vc1 vc2 vc3 vd0 vd1 vd2 vd3 ve0 ve1 ve2 ve3 vf0 vf1 vf2 vf3
         obtain ⟨⟨va0, va1, va2, va3, -, -, -, -⟩, ⟨vb0, vb1, vb2, vb3, -, -, -, -⟩, ⟨vc0, vc1, vc2, vc3, -, -, -, -⟩, ⟨vd0, vd1, vd2, vd3, -, -, -, -⟩, ⟨ve0, ve1, ve2, ve3, -, -, -, -⟩, ⟨vf0, vf1, vf2, vf3, -, -, -, -⟩⟩ := LD.out w9 j9)
      | (go_at_call 26; (with_reducible refine (HRU _ j9).out.mono ?_); rintro e w10 ⟨A4, c4, A5, c5, rfl, s4, s5, hb10⟩
         have j10 := below_via j9 hb10
         clear va0 va1 va2 va3 vb0 vb1 vb2 vb3 vc0 vc1 vc2 vc3 vd0 vd1 vd2 vd3 ve0 ve1 ve2 ve3 vf0 vf1 vf2 vf3
         obtain ⟨⟨va0, va1, va2, va3, -, -, -, -⟩, ⟨vb0, vb1, vb2, vb3, -, -, -, -⟩, ⟨vc0, vc1, vc2, vc3, -, -, -, -⟩, ⟨vd0, vd1, vd2, vd3, -, -, -, -⟩, ⟨ve0, ve1, ve2, ve3, -, -, -, -⟩, ⟨vf0, vf1, vf2, vf3, -, -, -, -⟩⟩ := LD.out w10 j10)
      | (go_at_call 28; (with_reducible refine (HRO _ j10).out.mono ?_); rintro e w11 ⟨A6, c6, rfl, s6, hb11⟩
         have j11 := below_via j10 hb11
         clear va0 va1 va2 va3 vb0 vb1 vb2 vb3 vc0 vc1 vc2 vc3 vd0 vd1 vd2 vd3 ve0 ve1 ve2 ve3 vf0 vf1 vf2 vf3
         obtain ⟨⟨va0, va1, va2, va3, -, -, -, -⟩, ⟨vb0, vb1, vb2, vb3, -, -, -, -⟩, ⟨vc0, vc1, vc2, vc3, -, -, -, -⟩, ⟨vd0, vd1, vd2, vd3, -, -, -, -⟩, ⟨ve0, ve1, ve2, ve3, -, -, -, -⟩, ⟨vf0, vf1, vf2, vf3, -, -, -, -⟩⟩ := LD.out w11 j11
         have hSA := Lib.hid (((s1.below' hb9).below' hb10).below' hb11)
         have hSB := Lib.hid ((s2.below' hb10).below' hb11)
         have hSC := Lib.hid ((s3.below' hb10).below' hb11)
         have hSD := Lib.hid (s4.below' hb11)
         have hSE := Lib.hid (s5.below' hb11)
         have hSF := Lib.hid s6
         clear s1 s2 s3 s4 s5 s6)
      | (go_at_call 27; first
          | ((with_reducible refine (same24_c _ A1 A6 c1 c6 T _ _ _ _ hSA.out hSF.out (by omega)).mono ?_); rintro e w12 ⟨rfl, hb12⟩
             have j12 := below_via j11 hb12
             clear va0 va1 va2 va3 vb0 vb1 vb2 vb3 vc0 vc1 vc2 vc3 vd0 vd1 vd2 vd3 ve0 ve1 ve2 ve3 vf0 vf1 vf2 vf3
             obtain ⟨⟨va0, va1, va2, va3, -, -, -, -⟩, ⟨vb0, vb1, vb2, vb3, -, -, -, -⟩, ⟨vc0, vc1, vc2, vc3, -, -, -, -⟩, ⟨vd0, vd1, vd2, vd3, -, -, -, -⟩, ⟨ve0, ve1, ve2, ve3, -, -, -, -⟩, ⟨vf0, vf1, vf2, vf3, -, -, -, -⟩⟩ := LD.out w12 j12)
          | ((with_reducible refine (same24_c _ A2 A4 c2 c4 L _ _ _ _ (hSB.out.below' hb12) (hSD.out.below' hb12) (by omega)).mono ?_); rintro e w13 ⟨rfl, hb13⟩
             have j13 := below_via j12 hb13
             clear va0 va1 va2 va3 vb0 vb1 vb2 vb3 vc0 vc1 vc2 vc3 vd0 vd1 vd2 vd3 ve0 ve1 ve2 ve3 vf0 vf1 vf2 vf3
             obtain ⟨⟨va0, va1, va2, va3, -, -, -, -⟩, ⟨vb0, vb1, vb2, vb3, -, -, -, -⟩, ⟨vc0, vc1, vc2, vc3, -, -, -, -⟩, ⟨vd0, vd1, vd2, vd3, -, -, -, -⟩, ⟨ve0, ve1, ve2, ve3, -, -, -, -⟩, ⟨vf0, vf1, vf2, vf3, -, -, -, -⟩⟩ := LD.out w13 j13)
          | ((with_reducible refine (same24_c _ A3 A5 c3 c5 M _ _ _ _ ((hSC.out.below' hb12).below' hb13) ((hSE.out.below' hb12).below' hb13) (by omega)).mono ?_); rintro e w14 ⟨rfl, hb14⟩
             have j14 := below_via j13 hb14
             clear va0 va1 va2 va3 vb0 vb1 vb2 vb3 vc0 vc1 vc2 vc3 vd0 vd1 vd2 vd3 ve0 ve1 ve2 ve3 vf0 vf1 vf2 vf3
             obtain ⟨⟨va0, va1, va2, va3, -, -, -, -⟩, ⟨vb0, vb1, vb2, vb3, -, -, -, -⟩, ⟨vc0, vc1, vc2, vc3, -, -, -, -⟩, ⟨vd0, vd1, vd2, vd3, -, -, -, -⟩, ⟨ve0, ve1, ve2, ve3, -, -, -, -⟩, ⟨vf0, vf1, vf2, vf3, -, -, -, -⟩⟩ := LD.out w14 j14))
      | (go_at_call 29; first
          | ((with_reducible refine (HLX _ j14).out.mono ?_); rintro e w15 ⟨rfl, hb15⟩
             have j15 := below_via j14 hb15
             clear va0 va1 va2 va3 vb0 vb1 vb2 vb3 vc0 vc1 vc2 vc3 vd0 vd1 vd2 vd3 ve0 ve1 ve2 ve3 vf0 vf1 vf2 vf3
             obtain ⟨⟨va0, va1, va2, va3, -, -, -, -⟩, ⟨vb0, vb1, vb2, vb3, -, -, -, -⟩, ⟨vc0, vc1, vc2, vc3, -, -, -, -⟩, ⟨vd0, vd1, vd2, vd3, -, -, -, -⟩, ⟨ve0, ve1, ve2, ve3, -, -, -, -⟩, ⟨vf0, vf1, vf2, vf3, -, -, -, -⟩⟩ := LD.out w15 j15)
          | ((with_reducible refine (HLY _ j15).out.mono ?_); rintro e w16 ⟨rfl, hb16⟩
             have j16 := below_via j15 hb16
             clear va0 va1 va2 va3 vb0 vb1 vb2 vb3 vc0 vc1 vc2 vc3 vd0 vd1 vd2 vd3 ve0 ve1 ve2 ve3 vf0 vf1 vf2 vf3
             obtain ⟨⟨va0, va1, va2, va3, -, -, -, -⟩, ⟨vb0, vb1, vb2, vb3, -, -, -, -⟩, ⟨vc0, vc1, vc2, vc3, -, -, -, -⟩, ⟨vd0, vd1, vd2, vd3, -, -, -, -⟩, ⟨ve0, ve1, ve2, ve3, -, -, -, -⟩, ⟨vf0, vf1, vf2, vf3, -, -, -, -⟩⟩ := LD.out w16 j16)
          | ((with_reducible refine (HLZ _ j16).out.mono ?_); rintro e w17 ⟨rfl, hb17⟩
             have j17 := below_via j16 hb17)))
  have b1117 := below_via (below_via (below_via (below_via (below_via hb12 hb13) hb14) hb15) hb16) hb17
  have z8 := hb8.size
  have z9 := hb9.size
  have z10 := hb10.size
  have z11 := hb11.size
  have z17 := b1117.size
  have TA := Lib.hid (hSA.out.below' b1117)
  have TD := Lib.hid (hSD.out.below' b1117)
  have TE := Lib.hid (hSE.out.below' b1117)
  have UA := Lib.hid (u1.up (below_via (below_via (below_via hb9 hb10) hb11) b1117))
  have J17 := Lib.hid j17
  clear va0 va1 va2 va3 vb0 vb1 vb2 vb3 vc0 vc1 vc2 vc3 vd0 vd1 vd2 vd3 ve0 ve1 ve2 ve3 vf0 vf1 vf2 vf3 hSA hSB hSC hSD hSE hSF u1 hb8 hb9 hb10 hb11 hb12 hb13 hb14 hb15 hb16 hb17 j7 j8 j9 j10 j11 j12 j13 j14 j15 j16 j17 b1117 HLX HLY HLZ HRU
  go_loopw [15] (fun i wr => ∃ m : Nat, m ≤ T.length ∧ i = .int .i64 m ∧ Splt W7.heap.size w8.heap.size w17.heap.size w17 wr) (fun i _ => T.length - (intOf i).toNat)
  case atStart => exact ⟨0, Nat.zero_le _, rfl, Splt.refl _ _ _ _⟩
  case round =>
    obtain ⟨m, hm, rfl, hsp⟩ := hrel
    have HSP := Lib.hid hsp
    by_cases hlt : m < T.length
    · have hk : T[m]? = some T[m] := List.getElem?_eq_getElem hlt
      generalize T[m] = t at hk
      obtain ⟨g, off, eA, h1, h2, h3, h4⟩ := TA.out (by omega)
      obtain ⟨g5, f5⟩ := UA.out g off eA
      have c0 := h4 m t hk 1 _ rfl
      have c1' := hsp.some g (off + m * 2 + 1)
      rw [c0] at c1'
      obtain ⟨u, c2'⟩ := Option.isSome_iff_exists.1 c1'
      have f6 := (hsp.cold g (off + m * 2 + 1)).trans (f5 _)
      have hlt' : (m : Int) < (T.length : Int) := by omega
      have hm0 : (0 : Int) ≤ (m : Int) := by omega
      have hwm : IntKind.i64.wrap ((m : Int) + 1) = ((m + 1 : Nat) : Int) := by rw [IntWalk.i64_in _ (by omega)]; omega
      have hgw : g < wr.heap.size := World.block_lt_of_cell? wr ⟨g, _, none⟩ c2'
      have HEA := Lib.hid eA
      have hnew := Lib.hid (fun v => hsp.set h1 (.inl h2) c2' v)
      clear hk eA c0 c1' hsp h4 f5
      rw [HEA.out]
      go_wp2_with fail
      exact ⟨⟨m + 1, by omega, by go_num, hnew.out _⟩, by simp [intOf]; omega⟩
    · obtain rfl : m = T.length := by omega
      have hge : ¬ (T.length : Int) < (T.length : Int) := by omega
      have hbl := J17.out.trans hsp.bel
      have TD' := Lib.hid (TD.out.keep hsp.bel.size fun k q1 q2 _ => hsp.mid k (by omega) (by omega))
      have TE' := Lib.hid (TE.out.keep hsp.bel.size fun k q1 q2 _ => hsp.mid k (by omega) (by omega))
      have HBL := Lib.hid hbl
      obtain ⟨⟨va0, va1, va2, va3, -, -, -, -⟩, ⟨vb0, vb1, vb2, vb3, -, -, -, -⟩, ⟨vc0, vc1, vc2, vc3, -, -, -, -⟩, ⟨vd0, vd1, vd2, vd3, -, -, -, -⟩, ⟨ve0, ve1, ve2, ve3, -, -, -, -⟩, ⟨vf0, vf1, vf2, vf3, -, -, -, -⟩⟩ := LD.out wr hbl
      clear hsp hbl
      go_wp2_with (go_at_call 25; (with_reducible refine (HU _ HBL.out).out.mono ?_); rintro e W18 ⟨A7, c7, A8, c8, rfl, s7, s8, hb18⟩)
      have J18 := Lib.hid (below_via HBL.out hb18)
      have S7 := Lib.hid s7
      have S8 := Lib.hid s8
      have S4 := Lib.hid (TD'.out.below' hb18)
      have S5 := Lib.hid (TE'.out.below' hb18)
      have z18 := J18.out.size
      clear va0 va1 va2 va3 vb0 vb1 vb2 vb3 vc0 vc1 vc2 vc3 vd0 vd1 vd2 vd3 ve0 ve1 ve2 ve3 vf0 vf1 vf2 vf3 s7 s8 hb18
      obtain ⟨⟨va0, va1, va2, va3, -, -, -, -⟩, ⟨vb0, vb1, vb2, vb3, -, -, -, -⟩, ⟨vc0, vc1, vc2, vc3, -, -, -, -⟩, ⟨vd0, vd1, vd2, vd3, -, -, -, -⟩, ⟨ve0, ve1, ve2, ve3, -, -, -, -⟩, ⟨vf0, vf1, vf2, vf3, -, -, -, -⟩⟩ := LD.out W18 J18.out
      have i1 : w.heap.size < W18.heap.size := by omega
      have i2 : w.heap.size + 1 < W18.heap.size := by omega
      have i3 : w.heap.size + 1 + 1 < W18.heap.size := by omega
      have i4 : w4.heap.size < W18.heap.size := by omega
      have i5 : w5.heap.size < W18.heap.size := by omega
      have i6 : w6.heap.size < W18.heap.size := by omega
      have hN : W18.heap.size ≤ W18.heap.size := Nat.le_refl _
      go_region_held3 (fun w' => (∀ b o, b < W18.heap.size → w'.cell? ⟨b, o, none⟩ = W18.cell? ⟨b, o, none⟩) ∧ Below W18.heap.size W18 w')
        (first | (with_reducible exact Q6.out) | (with_reducible exact Q5.out) | (with_reducible exact Q4.out) | (with_reducible exact Q3.out) | (with_reducible exact Q2.out) | (with_reducible exact Q1.out) | exact ⟨fun _ _ _ => rfl, (Below.refl _ _).drew⟩)
        (first
          | (go_at_call 24; (with_reducible refine (HO _ (below_via J18.out (s_bel (by assumption)))).out.mono ?_); rintro e w19 ⟨A9, c9, rfl, s9, hb19, -⟩
             have Q1 := Lib.hid (s_step hN (by assumption) hb19))
          | (go_at_call 28; (with_reducible refine (HRO _ (below_via J18.out (s_bel (by assumption)))).out.mono ?_); rintro e w20 ⟨A10, c10, rfl, s10, hb20⟩
             have Q2 := Lib.hid (s_step hN (by assumption) hb20)
             have s9' := s9.below' hb20)
          | (go_at_call 27; first
              | ((with_reducible refine (same24_c _ A9 A10 c9 c10 T _ _ _ _ s9' s10 (by omega)).mono ?_); rintro e w21 ⟨rfl, hb21⟩
                 have Q3 := Lib.hid (s_step hN (by assumption) hb21))
              | ((with_reducible refine (same24_c _ A7 A4 c7 c4 L _ _ _ _ (S7.out.below' (s_bel Q3.out)) (S4.out.below' (s_bel Q3.out)) (by omega)).mono ?_); rintro e w22 ⟨rfl, hb22⟩
                 have Q4 := Lib.hid (s_step hN (by assumption) hb22))
              | ((with_reducible refine (same24_c _ A8 A5 c8 c5 M _ _ _ _ (S8.out.below' (s_bel Q4.out)) (S5.out.below' (s_bel Q4.out)) (by omega)).mono ?_); rintro e w23 ⟨rfl, hb23⟩
                 have Q5 := Lib.hid (s_step hN (by assumption) hb23)))
          | (go_at_call 22; refine (HL _ (below_via K5.out (below_via J18.out (s_bel (by assumption))))).out.mono ?_; rintro e w24 ⟨rfl, hb24⟩
             have Q6 := Lib.hid (s_step hN (by assumption) hb24)))
      all_goals go_wp2_with fail
      all_goals go_ret
      all_goals exact ⟨rfl, below_via K5.out (below_via J18.out Q6.out.2)⟩
end Go.Proofs.YtcpdogjcofkpcaaGreatDoor
