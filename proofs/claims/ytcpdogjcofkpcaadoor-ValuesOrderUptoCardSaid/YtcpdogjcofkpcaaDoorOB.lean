/-
  inarchlaw14.ValuesOrder answers true. Conditions: the values lie in memory, their weight is bounded; the tables hold what their initialisers lay.
-/
import Derived.Test.YtcpdogjcofkpcaaDoorOA
import Derived.Test.YtcpdogjcofkpcaaDoorVP
import Derived.Test.YtcpdogjcofkpcaaDoorVF
namespace Go.Proofs.YtcpdogjcofkpcaaDoor
open Go.RowKit Go.Sort

theorem three_at {w W : World} {o1 o2 o3 : Obj} (hb : Below (w.heap.size + 1 + 1 + 1) (((w.alloc o1).alloc o2).alloc o3) W) : W.heap[w.heap.size]? = some o1 ∧ W.heap[w.heap.size + 1]? = some o2 ∧ W.heap[w.heap.size + 1 + 1]? = some o3 ∧ w.heap.size + 1 + 1 < W.heap.size ∧ Below w.heap.size w W := by
  have hs := hb.size
  simp only [World.size_alloc] at hs
  have h2 := heap_alloc_new (w.alloc o1) o2
  have h3 := heap_alloc_new ((w.alloc o1).alloc o2) o3
  simp only [World.size_alloc] at h2 h3
  refine ⟨(hb.block _ (by omega)).trans ?_, (hb.block _ (by omega)).trans ?_, (hb.block _ (by omega)).trans h3, by omega, ?_⟩
  · rw [heap_alloc_old _ _ _ (by simp; omega), heap_alloc_old _ _ _ (by simp)]; exact heap_alloc_new w o1
  · rw [heap_alloc_old _ _ _ (by simp)]; exact h2
  · exact (((((Below.refl _ _).alloc (Nat.le_refl _) _).alloc (by simp) _).alloc (by simp; omega) _)).trans (hb.mono (by omega))
theorem three_0 {w : World} {o1 o2 o3 : Obj} : Below (w.heap.size + 1 + 1 + 1) (((w.alloc o1).alloc o2).alloc o3) (((w.alloc o1).alloc o2).alloc o3) := Below.refl _ _
theorem three_b {w : World} {o1 o2 o3 : Obj} : Below w.heap.size w (((w.alloc o1).alloc o2).alloc o3) := (((Below.refl _ _).alloc (Nat.le_refl _) _).alloc (by simp) _).alloc (by simp; omega) _
theorem three_step {N : Nat} {A W W' : World} (h : Below N A W) (hb : Below W.heap.size W W') (hN : N ≤ A.heap.size) : Below N A W' := h.trans (hb.mono (Nat.le_trans hN h.size))
set_option maxRecDepth 100000 in
set_option maxHeartbeats 3200000 in
theorem vorder_out0 (w : World) (x y z : AV) (hx : Rd w x) (hy : Rd w y) (hz : Rd w z) (hwx : x.w ≤ 1048576) (hwy : y.w ≤ 1048576) (hwz : z.w ≤ 1048576) (hS : Shorts w) (h0 : 1500 < x.v.w) :
    Calls Tryd.prog 3 #[x.val, y.val, z.val] w (Ret (.bool true) w) := by
  have HGX := fun W (h : Below w.heap.size w W) => Lib.hid (great14_c x W (hx.up h) hwx)
  have HGY := fun W (h : Below w.heap.size w W) => Lib.hid (great14_c y W (hy.up h) hwy)
  have HGZ := fun W (h : Below w.heap.size w W) => Lib.hid (great14_c z W (hz.up h) hwz)
  have HMX := fun W (h : Below w.heap.size w W) => Lib.hid (may_c W x (hx.up h) hwx)
  have HMY := fun W (h : Below w.heap.size w W) => Lib.hid (may_c W y (hy.up h) hwy)
  have HMZ := fun W (h : Below w.heap.size w W) => Lib.hid (may_c W z (hz.up h) hwz)
  have HL := fun W (h : Below w.heap.size w W) => Lib.hid (lives14_c W (hS.below h))
  have hB0 := three_0 (w := w) (o1 := .cells #[.int .u8 x.k, .string x.t, .slice x.la x.l.length x.lc, .slice x.ka x.ks.length x.kc] 26) (o2 := .cells #[.int .u8 y.k, .string y.t, .slice y.la y.l.length y.lc, .slice y.ka y.ks.length y.kc] 26) (o3 := .cells #[.int .u8 z.k, .string z.t, .slice z.la z.l.length z.lc, .slice z.ka z.ks.length z.kc] 26)
  have hb0 := three_b (w := w) (o1 := .cells #[.int .u8 x.k, .string x.t, .slice x.la x.l.length x.lc, .slice x.ka x.ks.length x.kc] 26) (o2 := .cells #[.int .u8 y.k, .string y.t, .slice y.la y.l.length y.lc, .slice y.ka y.ks.length y.kc] 26) (o3 := .cells #[.int .u8 z.k, .string z.t, .slice z.la z.l.length z.lc, .slice z.ka z.ks.length z.kc] 26)
  rw [decide_eq_true h0] at HGX
  clear h0
  go_enter Tryd.func3, Tryd.ntmps3
  go_wp2_with (first
      | (go_at_call 7; first
          | ((with_reducible refine (HGX _ (by assumption)).out.mono ?_); rintro e w1g ⟨rfl, hb1g⟩
             have hB1g := three_step (N := w.heap.size + 1 + 1 + 1) (by assumption) hb1g (by simp)
             obtain ⟨k1, k2, k3, k4, k5⟩ := three_at hB1g
             obtain ⟨q0, q1, q2, q3, -, -, -, -⟩ := vbox4 k1
             obtain ⟨p0, p1, p2, p3, -, -, -, -⟩ := vbox4 k2
             obtain ⟨r0, r1, r2, r3, -, -, -, -⟩ := vbox4 k3))
      | (go_at_call 9; refine (HL _ (by assumption)).out.mono ?_; rintro e w9 ⟨rfl, hb9⟩))
  go_ret
  exact ⟨rfl, below_via (by assumption) hb9⟩

set_option maxRecDepth 100000 in
set_option maxHeartbeats 3200000 in
theorem vorder_out1 (w : World) (x y z : AV) (hx : Rd w x) (hy : Rd w y) (hz : Rd w z) (hwx : x.w ≤ 1048576) (hwy : y.w ≤ 1048576) (hwz : z.w ≤ 1048576) (hS : Shorts w) (h0 : ¬ 1500 < x.v.w) (h1 : 1500 < y.v.w) :
    Calls Tryd.prog 3 #[x.val, y.val, z.val] w (Ret (.bool true) w) := by
  have HGX := fun W (h : Below w.heap.size w W) => Lib.hid (great14_c x W (hx.up h) hwx)
  have HGY := fun W (h : Below w.heap.size w W) => Lib.hid (great14_c y W (hy.up h) hwy)
  have HGZ := fun W (h : Below w.heap.size w W) => Lib.hid (great14_c z W (hz.up h) hwz)
  have HMX := fun W (h : Below w.heap.size w W) => Lib.hid (may_c W x (hx.up h) hwx)
  have HMY := fun W (h : Below w.heap.size w W) => Lib.hid (may_c W y (hy.up h) hwy)
  have HMZ := fun W (h : Below w.heap.size w W) => Lib.hid (may_c W z (hz.up h) hwz)
  have HL := fun W (h : Below w.heap.size w W) => Lib.hid (lives14_c W (hS.below h))
  have hB0 := three_0 (w := w) (o1 := .cells #[.int .u8 x.k, .string x.t, .slice x.la x.l.length x.lc, .slice x.ka x.ks.length x.kc] 26) (o2 := .cells #[.int .u8 y.k, .string y.t, .slice y.la y.l.length y.lc, .slice y.ka y.ks.length y.kc] 26) (o3 := .cells #[.int .u8 z.k, .string z.t, .slice z.la z.l.length z.lc, .slice z.ka z.ks.length z.kc] 26)
  have hb0 := three_b (w := w) (o1 := .cells #[.int .u8 x.k, .string x.t, .slice x.la x.l.length x.lc, .slice x.ka x.ks.length x.kc] 26) (o2 := .cells #[.int .u8 y.k, .string y.t, .slice y.la y.l.length y.lc, .slice y.ka y.ks.length y.kc] 26) (o3 := .cells #[.int .u8 z.k, .string z.t, .slice z.la z.l.length z.lc, .slice z.ka z.ks.length z.kc] 26)
  rw [decide_eq_false h0] at HGX
  rw [decide_eq_true h1] at HGY
  clear h0 h1
  go_enter Tryd.func3, Tryd.ntmps3
  go_wp2_with (first
      | (go_at_call 7; first
          | ((with_reducible refine (HGX _ (by assumption)).out.mono ?_); rintro e w1g ⟨rfl, hb1g⟩
             have hB1g := three_step (N := w.heap.size + 1 + 1 + 1) (by assumption) hb1g (by simp)
             obtain ⟨k1, k2, k3, k4, k5⟩ := three_at hB1g
             obtain ⟨q0, q1, q2, q3, -, -, -, -⟩ := vbox4 k1
             obtain ⟨p0, p1, p2, p3, -, -, -, -⟩ := vbox4 k2
             obtain ⟨r0, r1, r2, r3, -, -, -, -⟩ := vbox4 k3)
          | ((with_reducible refine (HGY _ (by assumption)).out.mono ?_); rintro e w2g ⟨rfl, hb2g⟩
             have hB2g := three_step (N := w.heap.size + 1 + 1 + 1) (by assumption) hb2g (by simp)
             obtain ⟨k1, k2, k3, k4, k5⟩ := three_at hB2g
             obtain ⟨q0, q1, q2, q3, -, -, -, -⟩ := vbox4 k1
             obtain ⟨p0, p1, p2, p3, -, -, -, -⟩ := vbox4 k2
             obtain ⟨r0, r1, r2, r3, -, -, -, -⟩ := vbox4 k3))
      | (go_at_call 9; refine (HL _ (by assumption)).out.mono ?_; rintro e w9 ⟨rfl, hb9⟩))
  go_ret
  exact ⟨rfl, below_via (by assumption) hb9⟩

set_option maxRecDepth 100000 in
set_option maxHeartbeats 3200000 in
theorem vorder_out2 (w : World) (x y z : AV) (hx : Rd w x) (hy : Rd w y) (hz : Rd w z) (hwx : x.w ≤ 1048576) (hwy : y.w ≤ 1048576) (hwz : z.w ≤ 1048576) (hS : Shorts w) (h0 : ¬ 1500 < x.v.w) (h1 : ¬ 1500 < y.v.w) (h2 : 1500 < z.v.w) :
    Calls Tryd.prog 3 #[x.val, y.val, z.val] w (Ret (.bool true) w) := by
  have HGX := fun W (h : Below w.heap.size w W) => Lib.hid (great14_c x W (hx.up h) hwx)
  have HGY := fun W (h : Below w.heap.size w W) => Lib.hid (great14_c y W (hy.up h) hwy)
  have HGZ := fun W (h : Below w.heap.size w W) => Lib.hid (great14_c z W (hz.up h) hwz)
  have HMX := fun W (h : Below w.heap.size w W) => Lib.hid (may_c W x (hx.up h) hwx)
  have HMY := fun W (h : Below w.heap.size w W) => Lib.hid (may_c W y (hy.up h) hwy)
  have HMZ := fun W (h : Below w.heap.size w W) => Lib.hid (may_c W z (hz.up h) hwz)
  have HL := fun W (h : Below w.heap.size w W) => Lib.hid (lives14_c W (hS.below h))
  have hB0 := three_0 (w := w) (o1 := .cells #[.int .u8 x.k, .string x.t, .slice x.la x.l.length x.lc, .slice x.ka x.ks.length x.kc] 26) (o2 := .cells #[.int .u8 y.k, .string y.t, .slice y.la y.l.length y.lc, .slice y.ka y.ks.length y.kc] 26) (o3 := .cells #[.int .u8 z.k, .string z.t, .slice z.la z.l.length z.lc, .slice z.ka z.ks.length z.kc] 26)
  have hb0 := three_b (w := w) (o1 := .cells #[.int .u8 x.k, .string x.t, .slice x.la x.l.length x.lc, .slice x.ka x.ks.length x.kc] 26) (o2 := .cells #[.int .u8 y.k, .string y.t, .slice y.la y.l.length y.lc, .slice y.ka y.ks.length y.kc] 26) (o3 := .cells #[.int .u8 z.k, .string z.t, .slice z.la z.l.length z.lc, .slice z.ka z.ks.length z.kc] 26)
  rw [decide_eq_false h0] at HGX
  rw [decide_eq_false h1] at HGY
  rw [decide_eq_true h2] at HGZ
  clear h0 h1 h2
  go_enter Tryd.func3, Tryd.ntmps3
  go_wp2_with (first
      | (go_at_call 7; first
          | ((with_reducible refine (HGX _ (by assumption)).out.mono ?_); rintro e w1g ⟨rfl, hb1g⟩
             have hB1g := three_step (N := w.heap.size + 1 + 1 + 1) (by assumption) hb1g (by simp)
             obtain ⟨k1, k2, k3, k4, k5⟩ := three_at hB1g
             obtain ⟨q0, q1, q2, q3, -, -, -, -⟩ := vbox4 k1
             obtain ⟨p0, p1, p2, p3, -, -, -, -⟩ := vbox4 k2
             obtain ⟨r0, r1, r2, r3, -, -, -, -⟩ := vbox4 k3)
          | ((with_reducible refine (HGY _ (by assumption)).out.mono ?_); rintro e w2g ⟨rfl, hb2g⟩
             have hB2g := three_step (N := w.heap.size + 1 + 1 + 1) (by assumption) hb2g (by simp)
             obtain ⟨k1, k2, k3, k4, k5⟩ := three_at hB2g
             obtain ⟨q0, q1, q2, q3, -, -, -, -⟩ := vbox4 k1
             obtain ⟨p0, p1, p2, p3, -, -, -, -⟩ := vbox4 k2
             obtain ⟨r0, r1, r2, r3, -, -, -, -⟩ := vbox4 k3)
          | ((with_reducible refine (HGZ _ (by assumption)).out.mono ?_); rintro e w3g ⟨rfl, hb3g⟩
             have hB3g := three_step (N := w.heap.size + 1 + 1 + 1) (by assumption) hb3g (by simp)
             obtain ⟨k1, k2, k3, k4, k5⟩ := three_at hB3g
             obtain ⟨q0, q1, q2, q3, -, -, -, -⟩ := vbox4 k1
             obtain ⟨p0, p1, p2, p3, -, -, -, -⟩ := vbox4 k2
             obtain ⟨r0, r1, r2, r3, -, -, -, -⟩ := vbox4 k3))
      | (go_at_call 9; refine (HL _ (by assumption)).out.mono ?_; rintro e w9 ⟨rfl, hb9⟩))
  go_ret
  exact ⟨rfl, below_via (by assumption) hb9⟩

set_option maxRecDepth 100000 in
set_option maxHeartbeats 3200000 in
theorem vorder_out3 (w : World) (x y z : AV) (hx : Rd w x) (hy : Rd w y) (hz : Rd w z) (hwx : x.w ≤ 1048576) (hwy : y.w ≤ 1048576) (hwz : z.w ≤ 1048576) (hS : Shorts w) (h0 : ¬ 1500 < x.v.w) (h1 : ¬ 1500 < y.v.w) (h2 : ¬ 1500 < z.v.w) (h3 : x.v.may = false) :
    Calls Tryd.prog 3 #[x.val, y.val, z.val] w (Ret (.bool true) w) := by
  have HGX := fun W (h : Below w.heap.size w W) => Lib.hid (great14_c x W (hx.up h) hwx)
  have HGY := fun W (h : Below w.heap.size w W) => Lib.hid (great14_c y W (hy.up h) hwy)
  have HGZ := fun W (h : Below w.heap.size w W) => Lib.hid (great14_c z W (hz.up h) hwz)
  have HMX := fun W (h : Below w.heap.size w W) => Lib.hid (may_c W x (hx.up h) hwx)
  have HMY := fun W (h : Below w.heap.size w W) => Lib.hid (may_c W y (hy.up h) hwy)
  have HMZ := fun W (h : Below w.heap.size w W) => Lib.hid (may_c W z (hz.up h) hwz)
  have HL := fun W (h : Below w.heap.size w W) => Lib.hid (lives14_c W (hS.below h))
  have hB0 := three_0 (w := w) (o1 := .cells #[.int .u8 x.k, .string x.t, .slice x.la x.l.length x.lc, .slice x.ka x.ks.length x.kc] 26) (o2 := .cells #[.int .u8 y.k, .string y.t, .slice y.la y.l.length y.lc, .slice y.ka y.ks.length y.kc] 26) (o3 := .cells #[.int .u8 z.k, .string z.t, .slice z.la z.l.length z.lc, .slice z.ka z.ks.length z.kc] 26)
  have hb0 := three_b (w := w) (o1 := .cells #[.int .u8 x.k, .string x.t, .slice x.la x.l.length x.lc, .slice x.ka x.ks.length x.kc] 26) (o2 := .cells #[.int .u8 y.k, .string y.t, .slice y.la y.l.length y.lc, .slice y.ka y.ks.length y.kc] 26) (o3 := .cells #[.int .u8 z.k, .string z.t, .slice z.la z.l.length z.lc, .slice z.ka z.ks.length z.kc] 26)
  rw [decide_eq_false h0] at HGX
  rw [decide_eq_false h1] at HGY
  rw [decide_eq_false h2] at HGZ
  rw [h3] at HMX
  clear h0 h1 h2 h3
  go_enter Tryd.func3, Tryd.ntmps3
  go_wp2_with (first
      | (go_at_call 7; first
          | ((with_reducible refine (HGX _ (by assumption)).out.mono ?_); rintro e w1g ⟨rfl, hb1g⟩
             have hB1g := three_step (N := w.heap.size + 1 + 1 + 1) (by assumption) hb1g (by simp)
             obtain ⟨k1, k2, k3, k4, k5⟩ := three_at hB1g
             obtain ⟨q0, q1, q2, q3, -, -, -, -⟩ := vbox4 k1
             obtain ⟨p0, p1, p2, p3, -, -, -, -⟩ := vbox4 k2
             obtain ⟨r0, r1, r2, r3, -, -, -, -⟩ := vbox4 k3)
          | ((with_reducible refine (HGY _ (by assumption)).out.mono ?_); rintro e w2g ⟨rfl, hb2g⟩
             have hB2g := three_step (N := w.heap.size + 1 + 1 + 1) (by assumption) hb2g (by simp)
             obtain ⟨k1, k2, k3, k4, k5⟩ := three_at hB2g
             obtain ⟨q0, q1, q2, q3, -, -, -, -⟩ := vbox4 k1
             obtain ⟨p0, p1, p2, p3, -, -, -, -⟩ := vbox4 k2
             obtain ⟨r0, r1, r2, r3, -, -, -, -⟩ := vbox4 k3)
          | ((with_reducible refine (HGZ _ (by assumption)).out.mono ?_); rintro e w3g ⟨rfl, hb3g⟩
             have hB3g := three_step (N := w.heap.size + 1 + 1 + 1) (by assumption) hb3g (by simp)
             obtain ⟨k1, k2, k3, k4, k5⟩ := three_at hB3g
             obtain ⟨q0, q1, q2, q3, -, -, -, -⟩ := vbox4 k1
             obtain ⟨p0, p1, p2, p3, -, -, -, -⟩ := vbox4 k2
             obtain ⟨r0, r1, r2, r3, -, -, -, -⟩ := vbox4 k3))
      | (go_at_call 8; first
          | ((with_reducible refine (HMX _ (by assumption)).out.mono ?_); rintro e w1m ⟨rfl, hb1m⟩
             have hB1m := three_step (N := w.heap.size + 1 + 1 + 1) (by assumption) hb1m (by simp)
             obtain ⟨k1, k2, k3, k4, k5⟩ := three_at hB1m
             obtain ⟨q0, q1, q2, q3, -, -, -, -⟩ := vbox4 k1
             obtain ⟨p0, p1, p2, p3, -, -, -, -⟩ := vbox4 k2
             obtain ⟨r0, r1, r2, r3, -, -, -, -⟩ := vbox4 k3))
      | (go_at_call 9; refine (HL _ (by assumption)).out.mono ?_; rintro e w9 ⟨rfl, hb9⟩))
  go_ret
  exact ⟨rfl, below_via (by assumption) hb9⟩

set_option maxRecDepth 100000 in
set_option maxHeartbeats 3200000 in
theorem vorder_out4 (w : World) (x y z : AV) (hx : Rd w x) (hy : Rd w y) (hz : Rd w z) (hwx : x.w ≤ 1048576) (hwy : y.w ≤ 1048576) (hwz : z.w ≤ 1048576) (hS : Shorts w) (h0 : ¬ 1500 < x.v.w) (h1 : ¬ 1500 < y.v.w) (h2 : ¬ 1500 < z.v.w) (h3 : x.v.may = true) (h4 : y.v.may = false) :
    Calls Tryd.prog 3 #[x.val, y.val, z.val] w (Ret (.bool true) w) := by
  have HGX := fun W (h : Below w.heap.size w W) => Lib.hid (great14_c x W (hx.up h) hwx)
  have HGY := fun W (h : Below w.heap.size w W) => Lib.hid (great14_c y W (hy.up h) hwy)
  have HGZ := fun W (h : Below w.heap.size w W) => Lib.hid (great14_c z W (hz.up h) hwz)
  have HMX := fun W (h : Below w.heap.size w W) => Lib.hid (may_c W x (hx.up h) hwx)
  have HMY := fun W (h : Below w.heap.size w W) => Lib.hid (may_c W y (hy.up h) hwy)
  have HMZ := fun W (h : Below w.heap.size w W) => Lib.hid (may_c W z (hz.up h) hwz)
  have HL := fun W (h : Below w.heap.size w W) => Lib.hid (lives14_c W (hS.below h))
  have hB0 := three_0 (w := w) (o1 := .cells #[.int .u8 x.k, .string x.t, .slice x.la x.l.length x.lc, .slice x.ka x.ks.length x.kc] 26) (o2 := .cells #[.int .u8 y.k, .string y.t, .slice y.la y.l.length y.lc, .slice y.ka y.ks.length y.kc] 26) (o3 := .cells #[.int .u8 z.k, .string z.t, .slice z.la z.l.length z.lc, .slice z.ka z.ks.length z.kc] 26)
  have hb0 := three_b (w := w) (o1 := .cells #[.int .u8 x.k, .string x.t, .slice x.la x.l.length x.lc, .slice x.ka x.ks.length x.kc] 26) (o2 := .cells #[.int .u8 y.k, .string y.t, .slice y.la y.l.length y.lc, .slice y.ka y.ks.length y.kc] 26) (o3 := .cells #[.int .u8 z.k, .string z.t, .slice z.la z.l.length z.lc, .slice z.ka z.ks.length z.kc] 26)
  rw [decide_eq_false h0] at HGX
  rw [decide_eq_false h1] at HGY
  rw [decide_eq_false h2] at HGZ
  rw [h3] at HMX
  rw [h4] at HMY
  clear h0 h1 h2 h3 h4
  go_enter Tryd.func3, Tryd.ntmps3
  go_wp2_with (first
      | (go_at_call 7; first
          | ((with_reducible refine (HGX _ (by assumption)).out.mono ?_); rintro e w1g ⟨rfl, hb1g⟩
             have hB1g := three_step (N := w.heap.size + 1 + 1 + 1) (by assumption) hb1g (by simp)
             obtain ⟨k1, k2, k3, k4, k5⟩ := three_at hB1g
             obtain ⟨q0, q1, q2, q3, -, -, -, -⟩ := vbox4 k1
             obtain ⟨p0, p1, p2, p3, -, -, -, -⟩ := vbox4 k2
             obtain ⟨r0, r1, r2, r3, -, -, -, -⟩ := vbox4 k3)
          | ((with_reducible refine (HGY _ (by assumption)).out.mono ?_); rintro e w2g ⟨rfl, hb2g⟩
             have hB2g := three_step (N := w.heap.size + 1 + 1 + 1) (by assumption) hb2g (by simp)
             obtain ⟨k1, k2, k3, k4, k5⟩ := three_at hB2g
             obtain ⟨q0, q1, q2, q3, -, -, -, -⟩ := vbox4 k1
             obtain ⟨p0, p1, p2, p3, -, -, -, -⟩ := vbox4 k2
             obtain ⟨r0, r1, r2, r3, -, -, -, -⟩ := vbox4 k3)
          | ((with_reducible refine (HGZ _ (by assumption)).out.mono ?_); rintro e w3g ⟨rfl, hb3g⟩
             have hB3g := three_step (N := w.heap.size + 1 + 1 + 1) (by assumption) hb3g (by simp)
             obtain ⟨k1, k2, k3, k4, k5⟩ := three_at hB3g
             obtain ⟨q0, q1, q2, q3, -, -, -, -⟩ := vbox4 k1
             obtain ⟨p0, p1, p2, p3, -, -, -, -⟩ := vbox4 k2
             obtain ⟨r0, r1, r2, r3, -, -, -, -⟩ := vbox4 k3))
      | (go_at_call 8; first
          | ((with_reducible refine (HMX _ (by assumption)).out.mono ?_); rintro e w1m ⟨rfl, hb1m⟩
             have hB1m := three_step (N := w.heap.size + 1 + 1 + 1) (by assumption) hb1m (by simp)
             obtain ⟨k1, k2, k3, k4, k5⟩ := three_at hB1m
             obtain ⟨q0, q1, q2, q3, -, -, -, -⟩ := vbox4 k1
             obtain ⟨p0, p1, p2, p3, -, -, -, -⟩ := vbox4 k2
             obtain ⟨r0, r1, r2, r3, -, -, -, -⟩ := vbox4 k3)
          | ((with_reducible refine (HMY _ (by assumption)).out.mono ?_); rintro e w2m ⟨rfl, hb2m⟩
             have hB2m := three_step (N := w.heap.size + 1 + 1 + 1) (by assumption) hb2m (by simp)
             obtain ⟨k1, k2, k3, k4, k5⟩ := three_at hB2m
             obtain ⟨q0, q1, q2, q3, -, -, -, -⟩ := vbox4 k1
             obtain ⟨p0, p1, p2, p3, -, -, -, -⟩ := vbox4 k2
             obtain ⟨r0, r1, r2, r3, -, -, -, -⟩ := vbox4 k3))
      | (go_at_call 9; refine (HL _ (by assumption)).out.mono ?_; rintro e w9 ⟨rfl, hb9⟩))
  go_ret
  exact ⟨rfl, below_via (by assumption) hb9⟩

set_option maxRecDepth 100000 in
set_option maxHeartbeats 3200000 in
theorem vorder_out5 (w : World) (x y z : AV) (hx : Rd w x) (hy : Rd w y) (hz : Rd w z) (hwx : x.w ≤ 1048576) (hwy : y.w ≤ 1048576) (hwz : z.w ≤ 1048576) (hS : Shorts w) (h0 : ¬ 1500 < x.v.w) (h1 : ¬ 1500 < y.v.w) (h2 : ¬ 1500 < z.v.w) (h3 : x.v.may = true) (h4 : y.v.may = true) (h5 : z.v.may = false) :
    Calls Tryd.prog 3 #[x.val, y.val, z.val] w (Ret (.bool true) w) := by
  have HGX := fun W (h : Below w.heap.size w W) => Lib.hid (great14_c x W (hx.up h) hwx)
  have HGY := fun W (h : Below w.heap.size w W) => Lib.hid (great14_c y W (hy.up h) hwy)
  have HGZ := fun W (h : Below w.heap.size w W) => Lib.hid (great14_c z W (hz.up h) hwz)
  have HMX := fun W (h : Below w.heap.size w W) => Lib.hid (may_c W x (hx.up h) hwx)
  have HMY := fun W (h : Below w.heap.size w W) => Lib.hid (may_c W y (hy.up h) hwy)
  have HMZ := fun W (h : Below w.heap.size w W) => Lib.hid (may_c W z (hz.up h) hwz)
  have HL := fun W (h : Below w.heap.size w W) => Lib.hid (lives14_c W (hS.below h))
  have hB0 := three_0 (w := w) (o1 := .cells #[.int .u8 x.k, .string x.t, .slice x.la x.l.length x.lc, .slice x.ka x.ks.length x.kc] 26) (o2 := .cells #[.int .u8 y.k, .string y.t, .slice y.la y.l.length y.lc, .slice y.ka y.ks.length y.kc] 26) (o3 := .cells #[.int .u8 z.k, .string z.t, .slice z.la z.l.length z.lc, .slice z.ka z.ks.length z.kc] 26)
  have hb0 := three_b (w := w) (o1 := .cells #[.int .u8 x.k, .string x.t, .slice x.la x.l.length x.lc, .slice x.ka x.ks.length x.kc] 26) (o2 := .cells #[.int .u8 y.k, .string y.t, .slice y.la y.l.length y.lc, .slice y.ka y.ks.length y.kc] 26) (o3 := .cells #[.int .u8 z.k, .string z.t, .slice z.la z.l.length z.lc, .slice z.ka z.ks.length z.kc] 26)
  rw [decide_eq_false h0] at HGX
  rw [decide_eq_false h1] at HGY
  rw [decide_eq_false h2] at HGZ
  rw [h3] at HMX
  rw [h4] at HMY
  rw [h5] at HMZ
  clear h0 h1 h2 h3 h4 h5
  go_enter Tryd.func3, Tryd.ntmps3
  go_wp2_with (first
      | (go_at_call 7; first
          | ((with_reducible refine (HGX _ (by assumption)).out.mono ?_); rintro e w1g ⟨rfl, hb1g⟩
             have hB1g := three_step (N := w.heap.size + 1 + 1 + 1) (by assumption) hb1g (by simp)
             obtain ⟨k1, k2, k3, k4, k5⟩ := three_at hB1g
             obtain ⟨q0, q1, q2, q3, -, -, -, -⟩ := vbox4 k1
             obtain ⟨p0, p1, p2, p3, -, -, -, -⟩ := vbox4 k2
             obtain ⟨r0, r1, r2, r3, -, -, -, -⟩ := vbox4 k3)
          | ((with_reducible refine (HGY _ (by assumption)).out.mono ?_); rintro e w2g ⟨rfl, hb2g⟩
             have hB2g := three_step (N := w.heap.size + 1 + 1 + 1) (by assumption) hb2g (by simp)
             obtain ⟨k1, k2, k3, k4, k5⟩ := three_at hB2g
             obtain ⟨q0, q1, q2, q3, -, -, -, -⟩ := vbox4 k1
             obtain ⟨p0, p1, p2, p3, -, -, -, -⟩ := vbox4 k2
             obtain ⟨r0, r1, r2, r3, -, -, -, -⟩ := vbox4 k3)
          | ((with_reducible refine (HGZ _ (by assumption)).out.mono ?_); rintro e w3g ⟨rfl, hb3g⟩
             have hB3g := three_step (N := w.heap.size + 1 + 1 + 1) (by assumption) hb3g (by simp)
             obtain ⟨k1, k2, k3, k4, k5⟩ := three_at hB3g
             obtain ⟨q0, q1, q2, q3, -, -, -, -⟩ := vbox4 k1
             obtain ⟨p0, p1, p2, p3, -, -, -, -⟩ := vbox4 k2
             obtain ⟨r0, r1, r2, r3, -, -, -, -⟩ := vbox4 k3))
      | (go_at_call 8; first
          | ((with_reducible refine (HMX _ (by assumption)).out.mono ?_); rintro e w1m ⟨rfl, hb1m⟩
             have hB1m := three_step (N := w.heap.size + 1 + 1 + 1) (by assumption) hb1m (by simp)
             obtain ⟨k1, k2, k3, k4, k5⟩ := three_at hB1m
             obtain ⟨q0, q1, q2, q3, -, -, -, -⟩ := vbox4 k1
             obtain ⟨p0, p1, p2, p3, -, -, -, -⟩ := vbox4 k2
             obtain ⟨r0, r1, r2, r3, -, -, -, -⟩ := vbox4 k3)
          | ((with_reducible refine (HMY _ (by assumption)).out.mono ?_); rintro e w2m ⟨rfl, hb2m⟩
             have hB2m := three_step (N := w.heap.size + 1 + 1 + 1) (by assumption) hb2m (by simp)
             obtain ⟨k1, k2, k3, k4, k5⟩ := three_at hB2m
             obtain ⟨q0, q1, q2, q3, -, -, -, -⟩ := vbox4 k1
             obtain ⟨p0, p1, p2, p3, -, -, -, -⟩ := vbox4 k2
             obtain ⟨r0, r1, r2, r3, -, -, -, -⟩ := vbox4 k3)
          | ((with_reducible refine (HMZ _ (by assumption)).out.mono ?_); rintro e w3m ⟨rfl, hb3m⟩
             have hB3m := three_step (N := w.heap.size + 1 + 1 + 1) (by assumption) hb3m (by simp)
             obtain ⟨k1, k2, k3, k4, k5⟩ := three_at hB3m
             obtain ⟨q0, q1, q2, q3, -, -, -, -⟩ := vbox4 k1
             obtain ⟨p0, p1, p2, p3, -, -, -, -⟩ := vbox4 k2
             obtain ⟨r0, r1, r2, r3, -, -, -, -⟩ := vbox4 k3))
      | (go_at_call 9; refine (HL _ (by assumption)).out.mono ?_; rintro e w9 ⟨rfl, hb9⟩))
  go_ret
  exact ⟨rfl, below_via (by assumption) hb9⟩

set_option maxRecDepth 100000 in
set_option maxHeartbeats 12800000 in
theorem vorder_in (w : World) (x y z : AV) (hx : Rd w x) (hy : Rd w y) (hz : Rd w z) (hwx : x.w ≤ 1048576) (hwy : y.w ≤ 1048576) (hwz : z.w ≤ 1048576) (hS : Shorts w) (hP : Pow w) (h0 : ¬ 1500 < x.v.w) (h1 : ¬ 1500 < y.v.w) (h2 : ¬ 1500 < z.v.w) (h3 : x.v.may = true) (h4 : y.v.may = true) (h5 : z.v.may = true) :
    Calls Tryd.prog 3 #[x.val, y.val, z.val] w (Ret (.bool true) w) := by
  have HGX := fun W (h : Below w.heap.size w W) => Lib.hid (great14_c x W (hx.up h) hwx)
  have HGY := fun W (h : Below w.heap.size w W) => Lib.hid (great14_c y W (hy.up h) hwy)
  have HGZ := fun W (h : Below w.heap.size w W) => Lib.hid (great14_c z W (hz.up h) hwz)
  have HMX := fun W (h : Below w.heap.size w W) => Lib.hid (may_c W x (hx.up h) hwx)
  have HMY := fun W (h : Below w.heap.size w W) => Lib.hid (may_c W y (hy.up h) hwy)
  have HMZ := fun W (h : Below w.heap.size w W) => Lib.hid (may_c W z (hz.up h) hwz)
  have HL := fun W (h : Below w.heap.size w W) => Lib.hid (lives14_c W (hS.below h))
  have hB0 := three_0 (w := w) (o1 := .cells #[.int .u8 x.k, .string x.t, .slice x.la x.l.length x.lc, .slice x.ka x.ks.length x.kc] 26) (o2 := .cells #[.int .u8 y.k, .string y.t, .slice y.la y.l.length y.lc, .slice y.ka y.ks.length y.kc] 26) (o3 := .cells #[.int .u8 z.k, .string z.t, .slice z.la z.l.length z.lc, .slice z.ka z.ks.length z.kc] 26)
  have hb0 := three_b (w := w) (o1 := .cells #[.int .u8 x.k, .string x.t, .slice x.la x.l.length x.lc, .slice x.ka x.ks.length x.kc] 26) (o2 := .cells #[.int .u8 y.k, .string y.t, .slice y.la y.l.length y.lc, .slice y.ka y.ks.length y.kc] 26) (o3 := .cells #[.int .u8 z.k, .string z.t, .slice z.la z.l.length z.lc, .slice z.ka z.ks.length z.kc] 26)
  rw [decide_eq_false h0] at HGX
  rw [decide_eq_false h1] at HGY
  rw [decide_eq_false h2] at HGZ
  rw [h3] at HMX
  rw [h4] at HMY
  rw [h5] at HMZ
  have HXY := fun W (h : Below w.heap.size w W) => Lib.hid (cmp_c x y W (hx.up h) (hy.up h) hwx hwy)
  have HYZ := fun W (h : Below w.heap.size w W) => Lib.hid (cmp_c y z W (hy.up h) (hz.up h) hwy hwz)
  have HXZ := fun W (h : Below w.heap.size w W) => Lib.hid (cmp_c x z W (hx.up h) (hz.up h) hwx hwz)
  have HXX := fun W (h : Below w.heap.size w W) => Lib.hid (cmp_c x x W (hx.up h) (hx.up h) hwx hwx)
  have HYX := fun W (h : Below w.heap.size w W) => Lib.hid (cmp_c y x W (hy.up h) (hx.up h) hwy hwx)
  have HSX := fun W (h : Below w.heap.size w W) => Lib.hid (same_c x x W (hx.up h) (hx.up h) hwx hwx)
  have HSY := fun W (h : Below w.heap.size w W) => Lib.hid (same_c x y W (hx.up h) (hy.up h) hwx hwy)
  have HKX := fun W (h : Below w.heap.size w W) => Lib.hid (key_c x W (hx.up h) hwx (hP.below h))
  have HKY := fun W (h : Below w.heap.size w W) => Lib.hid (key_c y W (hy.up h) hwy (hP.below h))
  have HTX := fun W (h : Below w.heap.size w W) => Lib.hid (text_c x W (hx.up h) hwx (hS.below h))
  have HTY := fun W (h : Below w.heap.size w W) => Lib.hid (text_c y W (hy.up h) hwy (hS.below h))
  have HZX := fun W (h : Below w.heap.size w W) => Lib.hid (size_c W x (hx.up h) hwx)
  have HZY := fun W (h : Below w.heap.size w W) => Lib.hid (size_c W y (hy.up h) hwy)
  rw [ord_self h3] at HXX
  rw [ord_turn h3 h4] at HYX
  rw [same_refl h3] at HSX
  rw [h3, if_pos rfl] at HZX
  rw [h4, if_pos rfl] at HZY
  have hsm := ord_same h3 h4
  have hky := ord_key h3 h4
  have htr := ord_trans h3 h4 h5
  have hev := ord_even (c := z.v) h3 h4 h5
  have hke : x.v.key ≠ ⟨#[]⟩ := fun e => by rw [key_empty.1 e] at h3; cases h3
  have hab := sgn_cmp 256 x.v y.v
  rw [← cmpR_may h3 h4] at hab
  have hbc := sgn_cmp 256 y.v z.v
  rw [← cmpR_may h4 h5] at hbc
  have hac := sgn_cmp 256 x.v z.v
  rw [← cmpR_may h3 h5] at hac
  generalize cmpR x.v y.v = ab at *
  generalize cmpR y.v z.v = bc at *
  generalize cmpR x.v z.v = ac at *
  generalize sameV x.v y.v = sm at *
  generalize x.v.key = kx at *
  generalize y.v.key = ky at *
  generalize textR x.v = tx at *
  generalize textR y.v = ty at *
  generalize x.v.size = zx at *
  generalize y.v.size = zy at *
  clear h0 h1 h2 h3 h4 h5
  go_enter Tryd.func3, Tryd.ntmps3
  go_wp2_with (first
      | (go_at_call 7; first
          | ((with_reducible refine (HGX _ (by assumption)).out.mono ?_); rintro e w1g ⟨rfl, hb1g⟩
             have hB1g := three_step (N := w.heap.size + 1 + 1 + 1) (by assumption) hb1g (by simp)
             obtain ⟨k1, k2, k3, k4, k5⟩ := three_at hB1g
             obtain ⟨q0, q1, q2, q3, -, -, -, -⟩ := vbox4 k1
             obtain ⟨p0, p1, p2, p3, -, -, -, -⟩ := vbox4 k2
             obtain ⟨r0, r1, r2, r3, -, -, -, -⟩ := vbox4 k3)
          | ((with_reducible refine (HGY _ (by assumption)).out.mono ?_); rintro e w2g ⟨rfl, hb2g⟩
             have hB2g := three_step (N := w.heap.size + 1 + 1 + 1) (by assumption) hb2g (by simp)
             obtain ⟨k1, k2, k3, k4, k5⟩ := three_at hB2g
             obtain ⟨q0, q1, q2, q3, -, -, -, -⟩ := vbox4 k1
             obtain ⟨p0, p1, p2, p3, -, -, -, -⟩ := vbox4 k2
             obtain ⟨r0, r1, r2, r3, -, -, -, -⟩ := vbox4 k3)
          | ((with_reducible refine (HGZ _ (by assumption)).out.mono ?_); rintro e w3g ⟨rfl, hb3g⟩
             have hB3g := three_step (N := w.heap.size + 1 + 1 + 1) (by assumption) hb3g (by simp)
             obtain ⟨k1, k2, k3, k4, k5⟩ := three_at hB3g
             obtain ⟨q0, q1, q2, q3, -, -, -, -⟩ := vbox4 k1
             obtain ⟨p0, p1, p2, p3, -, -, -, -⟩ := vbox4 k2
             obtain ⟨r0, r1, r2, r3, -, -, -, -⟩ := vbox4 k3))
      | (go_at_call 8; first
          | ((with_reducible refine (HMX _ (by assumption)).out.mono ?_); rintro e w1m ⟨rfl, hb1m⟩
             have hB1m := three_step (N := w.heap.size + 1 + 1 + 1) (by assumption) hb1m (by simp)
             obtain ⟨k1, k2, k3, k4, k5⟩ := three_at hB1m
             obtain ⟨q0, q1, q2, q3, -, -, -, -⟩ := vbox4 k1
             obtain ⟨p0, p1, p2, p3, -, -, -, -⟩ := vbox4 k2
             obtain ⟨r0, r1, r2, r3, -, -, -, -⟩ := vbox4 k3)
          | ((with_reducible refine (HMY _ (by assumption)).out.mono ?_); rintro e w2m ⟨rfl, hb2m⟩
             have hB2m := three_step (N := w.heap.size + 1 + 1 + 1) (by assumption) hb2m (by simp)
             obtain ⟨k1, k2, k3, k4, k5⟩ := three_at hB2m
             obtain ⟨q0, q1, q2, q3, -, -, -, -⟩ := vbox4 k1
             obtain ⟨p0, p1, p2, p3, -, -, -, -⟩ := vbox4 k2
             obtain ⟨r0, r1, r2, r3, -, -, -, -⟩ := vbox4 k3)
          | ((with_reducible refine (HMZ _ (by assumption)).out.mono ?_); rintro e w3m ⟨rfl, hb3m⟩
             have hB3m := three_step (N := w.heap.size + 1 + 1 + 1) (by assumption) hb3m (by simp)
             obtain ⟨k1, k2, k3, k4, k5⟩ := three_at hB3m
             obtain ⟨q0, q1, q2, q3, -, -, -, -⟩ := vbox4 k1
             obtain ⟨p0, p1, p2, p3, -, -, -, -⟩ := vbox4 k2
             obtain ⟨r0, r1, r2, r3, -, -, -, -⟩ := vbox4 k3))
      | (go_at_call 10; first
          | ((with_reducible refine (HXY _ (by assumption)).out.mono ?_); rintro e wa ⟨rfl, hba⟩
             have hBa := three_step (N := w.heap.size + 1 + 1 + 1) (by assumption) hba (by simp)
             obtain ⟨k1, k2, k3, k4, k5⟩ := three_at hBa
             obtain ⟨q0, q1, q2, q3, -, -, -, -⟩ := vbox4 k1
             obtain ⟨p0, p1, p2, p3, -, -, -, -⟩ := vbox4 k2
             obtain ⟨r0, r1, r2, r3, -, -, -, -⟩ := vbox4 k3)
          | ((with_reducible refine (HYZ _ (by assumption)).out.mono ?_); rintro e wb ⟨rfl, hbb⟩
             have hBb := three_step (N := w.heap.size + 1 + 1 + 1) (by assumption) hbb (by simp)
             obtain ⟨k1, k2, k3, k4, k5⟩ := three_at hBb
             obtain ⟨q0, q1, q2, q3, -, -, -, -⟩ := vbox4 k1
             obtain ⟨p0, p1, p2, p3, -, -, -, -⟩ := vbox4 k2
             obtain ⟨r0, r1, r2, r3, -, -, -, -⟩ := vbox4 k3)
          | ((with_reducible refine (HXZ _ (by assumption)).out.mono ?_); rintro e wd ⟨rfl, hbd⟩
             have hBd := three_step (N := w.heap.size + 1 + 1 + 1) (by assumption) hbd (by simp)
             obtain ⟨k1, k2, k3, k4, k5⟩ := three_at hBd
             obtain ⟨q0, q1, q2, q3, -, -, -, -⟩ := vbox4 k1
             obtain ⟨p0, p1, p2, p3, -, -, -, -⟩ := vbox4 k2
             obtain ⟨r0, r1, r2, r3, -, -, -, -⟩ := vbox4 k3)))
  have hz : (ab == 0) = sm := by rw [← hsm]; rfl
  have hz2 : (kx.toList == ky.toList) = sm := by
    rw [← hky]
    by_cases e : kx = ky
    · subst e; simp
    · have e2 : ¬ kx.toList = ky.toList := fun h => e (bl_eq h)
      simp [e, e2]
  have hz3 : (kx.toList == []) = false := by
    have e2 : ¬ kx.toList = [] := fun h => hke (bl_eq (h.trans ByteArray.toList_empty.symm))
    simp [e2]
  have hwab : IntKind.i64.wrap (-ab) = -ab := IntWalk.i64_in _ (by unfold Sgn at hab; omega)
  have hN : w.heap.size + 1 + 1 + 1 ≤ wd.heap.size := by omega
  have HBD := Lib.hid hBd
  have K1 := Lib.hid k1
  have K2 := Lib.hid k2
  have K3 := Lib.hid k3
  have HKE := Lib.hid hke
  have HTR := Lib.hid htr
  have HEV := Lib.hid hev
  have HSM := Lib.hid hsm
  have HAB := Lib.hid hab
  have HBC := Lib.hid hbc
  have HAC := Lib.hid hac
  have hU := fun W (h : (∀ b o, b < w.heap.size + 1 + 1 + 1 → W.cell? ⟨b, o, none⟩ = wd.cell? ⟨b, o, none⟩) ∧ Below (w.heap.size + 1 + 1 + 1) wd W) => k5.trans (h.2.mono (by omega : w.heap.size ≤ w.heap.size + 1 + 1 + 1))
  clear hky hke htr hev hsm hab hbc hac hB0 hb0 hBa hBb hBd hB1g hB2g hB3g hB1m hB2m hB3m hba hbb hbd hb1g hb2g hb3g hb1m hb2m hb3m HGX HGY HGZ HMX HMY HMZ HXY HYZ HXZ k1 k2 k3
  go_region_held3 (fun w' => (∀ b o, b < w.heap.size + 1 + 1 + 1 → w'.cell? ⟨b, o, none⟩ = wd.cell? ⟨b, o, none⟩) ∧ Below (w.heap.size + 1 + 1 + 1) wd w')
    (first | (with_reducible exact Q9.out) | (with_reducible exact Q8.out) | (with_reducible exact Q7.out) | (with_reducible exact Q6.out) | (with_reducible exact Q5.out) | (with_reducible exact Q4.out) | (with_reducible exact Q3.out) | (with_reducible exact Q2.out) | (with_reducible exact Q1.out) | exact ⟨fun _ _ _ => rfl, (Below.refl _ _).drew⟩)
    (first
      | (go_at_call 11; first
          | ((with_reducible refine (HSX _ (hU _ (by assumption))).out.mono ?_); rintro e we ⟨rfl, hbe⟩; have Q1 := Lib.hid (s_step hN (by assumption) hbe))
          | ((with_reducible refine (HSY _ (hU _ (by assumption))).out.mono ?_); rintro e wf ⟨rfl, hbf⟩; have Q2 := Lib.hid (s_step hN (by assumption) hbf)))
      | (go_at_call 10; first
          | ((with_reducible refine (HXX _ (hU _ (by assumption))).out.mono ?_); rintro e wg ⟨rfl, hbg⟩; have Q3 := Lib.hid (s_step hN (by assumption) hbg))
          | ((with_reducible refine (HYX _ (hU _ (by assumption))).out.mono ?_); rintro e wh ⟨rfl, hbh⟩; have Q4 := Lib.hid (s_step hN (by assumption) hbh)))
      | (go_at_call 12; first
          | ((with_reducible refine (HKX _ (hU _ (by assumption))).out.mono ?_); rintro e wi ⟨rfl, hbi⟩; have Q5 := Lib.hid (s_step hN (by assumption) hbi))
          | ((with_reducible refine (HKY _ (hU _ (by assumption))).out.mono ?_); rintro e wj ⟨rfl, hbj⟩; have Q6 := Lib.hid (s_step hN (by assumption) hbj))))
  have h9 := Q5.out
  have hsz9 := h9.2.size
  have hbw9 := hU _ h9
  have c1 := (h9.2.block w.heap.size (by omega)).trans K1.out
  have c2 := (h9.2.block (w.heap.size + 1) (by omega)).trans K2.out
  have l1 : w.heap.size < wi.heap.size := by omega
  have l2 : w.heap.size + 1 < wi.heap.size := by omega
  have C1 := Lib.hid c1
  have C2 := Lib.hid c2
  have HBW9 := Lib.hid hbw9
  have hN9 : w.heap.size + 1 + 1 ≤ wi.heap.size := by omega
  have hV := fun W (h : (∀ b o, b < w.heap.size + 1 + 1 → W.cell? ⟨b, o, none⟩ = wi.cell? ⟨b, o, none⟩) ∧ Below (w.heap.size + 1 + 1) wi W) => HBW9.out.trans (h.2.mono (by omega : w.heap.size ≤ w.heap.size + 1 + 1))
  clear c1 c2 h9 hbw9 Q1 Q2 Q3 Q4 Q5 Q6 hU hbe hbf hbg hbh hbi hbj HBD K3 HXX HYX HSX HSY HKX HKY hz hz2 hz3 hwab
  have t := HTR.out
  by_cases hab0 : ab = 0
  · obtain ⟨e1, e2, e3⟩ := HEV.out hab0
    subst hab0; subst e1; subst e2; subst e3
    go_wp2_with fail
    all_goals first
      | (exfalso; omega)
      | (clear t
         obtain ⟨q0, q1, q2, q3, -, -, -, -⟩ := vbox4 C1.out
         obtain ⟨p0, p1, p2, p3, -, -, -, -⟩ := vbox4 C2.out
         go_region_held3 (fun w' => (∀ b o, b < w.heap.size + 1 + 1 → w'.cell? ⟨b, o, none⟩ = wi.cell? ⟨b, o, none⟩) ∧ Below (w.heap.size + 1 + 1) wi w')
           (first | (with_reducible exact Q4.out) | (with_reducible exact Q3.out) | (with_reducible exact Q2.out) | (with_reducible exact Q1.out) | exact ⟨fun _ _ _ => rfl, (Below.refl _ _).drew⟩)
           (first
             | (go_at_call 13; first
                 | ((with_reducible refine (HTX _ (hV _ (by assumption))).out.mono ?_); rintro e wk ⟨rfl, hbk⟩; have Q1 := Lib.hid (s_step hN9 (by assumption) hbk))
                 | ((with_reducible refine (HTY _ (hV _ (by assumption))).out.mono ?_); rintro e wl ⟨rfl, hbl⟩; have Q2 := Lib.hid (s_step hN9 (by assumption) hbl)))
             | (go_at_call 14; first
                 | ((with_reducible refine (HZX _ (hV _ (by assumption))).out.mono ?_); rintro e wm ⟨rfl, hbm⟩; have Q3 := Lib.hid (s_step hN9 (by assumption) hbm))
                 | ((with_reducible refine (HZY _ (hV _ (by assumption))).out.mono ?_); rintro e wn ⟨rfl, hbn⟩; have Q4 := Lib.hid (s_step hN9 (by assumption) hbn))))
         have hbf := hV _ Q4.out
         go_wp2_with (go_at_call 9; refine (HL _ hbf).out.mono ?_; rintro e w9 ⟨rfl, hb9⟩)
         go_ret
         exact ⟨rfl, below_via hbf hb9⟩)
  · have hg : (ab == 0) = false := by simp [hab0]
    go_wp2_with fail
    all_goals first
      | (exfalso; omega)
      | (clear t
         go_quiet (fail)
         go_wp2_with (go_at_call 9; refine (HL _ (below_drewN HBW9.out _)).out.mono ?_; rintro e w9 ⟨rfl, hb9⟩)
         go_ret
         exact ⟨rfl, below_via (below_drewN HBW9.out _) hb9⟩)
end Go.Proofs.YtcpdogjcofkpcaaDoor
