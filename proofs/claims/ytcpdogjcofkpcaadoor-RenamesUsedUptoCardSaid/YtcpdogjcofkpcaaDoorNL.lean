/-
  inarchlaw24.RenamesUsed answers true. Conditions: the values lie in memory, their weight is bounded; strconv's table of powers holds what its initialiser lays.
-/
import Derived.Test.YtcpdogjcofkpcaaDoorNK
namespace Go.Proofs.YtcpdogjcofkpcaaDoor
open Go.RowKit Go.Sort

theorem usedV_le1 (x y z : AV) (hw : x.w ≤ 1048576) : (usedV x.v y.v z.v).1.length ≤ 1048576 := by
  unfold usedV
  split
  · exact Nat.le_trans (List.length_filter_le _ _) (ofV_le x y)
  · simp
theorem usedV_le2 (x y z : AV) (hw : x.w ≤ 1048576) : (usedV x.v y.v z.v).2.length ≤ 1048576 := by
  unfold usedV
  split
  · exact Nat.le_trans (List.length_filter_le _ _) (ofV_le x z)
  · simp
theorem neq_ren (w : World) (p : ByteArray × ByteArray) : (binOp .neq 39 (renV p) (renV p)).run Tryd.prog w = .ok (.bool false) w := by
  rw [run_neq_struct]
  simp [go_sem]

set_option maxRecDepth 100000 in
set_option maxHeartbeats 3200000 in
theorem rused_out0 (w : World) (x y z : AV) (hx : Rd w x) (_hy : Rd w y) (_hz : Rd w z) (hwx : x.w ≤ 1048576) (_hwy : y.w ≤ 1048576) (_hwz : z.w ≤ 1048576) (hP : Pow w)  (h0 : 1500 < x.v.w) :
    Calls Tryd.prog 5 #[x.val, y.val, z.val] w (Ret (.bool true) w) := by
  have HGX := fun W (h : Below w.heap.size w W) => Lib.hid (great14_c x W (hx.up h) hwx)
  have HL := fun W (h : Below w.heap.size w W) => Lib.hid (lives24_c W (hP.below h))
  have hB0 := tri_0 (w := w) (o1 := .cells #[.int .u8 x.k, .string x.t, .slice x.la x.l.length x.lc, .slice x.ka x.ks.length x.kc] 26) (o2 := .cells #[.int .u8 y.k, .string y.t, .slice y.la y.l.length y.lc, .slice y.ka y.ks.length y.kc] 26) (o3 := .cells #[.int .u8 z.k, .string z.t, .slice z.la z.l.length z.lc, .slice z.ka z.ks.length z.kc] 26)
  have hb0 := tri_b (w := w) (o1 := .cells #[.int .u8 x.k, .string x.t, .slice x.la x.l.length x.lc, .slice x.ka x.ks.length x.kc] 26) (o2 := .cells #[.int .u8 y.k, .string y.t, .slice y.la y.l.length y.lc, .slice y.ka y.ks.length y.kc] 26) (o3 := .cells #[.int .u8 z.k, .string z.t, .slice z.la z.l.length z.lc, .slice z.ka z.ks.length z.kc] 26)
  rw [decide_eq_true h0] at HGX
  clear h0
  go_enter Tryd.func5, Tryd.ntmps5
  go_wp2_with (first
      | (go_at_call 7; first
          | ((with_reducible refine (HGX _ (by assumption)).out.mono ?_); rintro e w1 ⟨rfl, hb1⟩
             have hB1 := tri_step (N := w.heap.size + 1 + 1 + 1) (by assumption) hb1 (by simp)
             obtain ⟨k1, k2, k3, k4, k5⟩ := tri_at hB1
             obtain ⟨q0, q1, q2, q3, -, -, -, -⟩ := vbox4 k1
             obtain ⟨p0, p1, p2, p3, -, -, -, -⟩ := vbox4 k2
             obtain ⟨r0, r1, r2, r3, -, -, -, -⟩ := vbox4 k3))
      | (go_at_call 15; refine (HL _ (by assumption)).out.mono ?_; rintro e w9 ⟨rfl, hb9⟩))
  go_ret
  exact ⟨rfl, below_via (by assumption) hb9⟩

set_option maxRecDepth 100000 in
set_option maxHeartbeats 3200000 in
theorem rused_out1 (w : World) (x y z : AV) (hx : Rd w x) (hy : Rd w y) (_hz : Rd w z) (hwx : x.w ≤ 1048576) (hwy : y.w ≤ 1048576) (_hwz : z.w ≤ 1048576) (hP : Pow w) (h0 : ¬ 1500 < x.v.w) (h1 : 1500 < y.v.w) :
    Calls Tryd.prog 5 #[x.val, y.val, z.val] w (Ret (.bool true) w) := by
  have HGX := fun W (h : Below w.heap.size w W) => Lib.hid (great14_c x W (hx.up h) hwx)
  have HGY := fun W (h : Below w.heap.size w W) => Lib.hid (great14_c y W (hy.up h) hwy)
  have HL := fun W (h : Below w.heap.size w W) => Lib.hid (lives24_c W (hP.below h))
  have hB0 := tri_0 (w := w) (o1 := .cells #[.int .u8 x.k, .string x.t, .slice x.la x.l.length x.lc, .slice x.ka x.ks.length x.kc] 26) (o2 := .cells #[.int .u8 y.k, .string y.t, .slice y.la y.l.length y.lc, .slice y.ka y.ks.length y.kc] 26) (o3 := .cells #[.int .u8 z.k, .string z.t, .slice z.la z.l.length z.lc, .slice z.ka z.ks.length z.kc] 26)
  have hb0 := tri_b (w := w) (o1 := .cells #[.int .u8 x.k, .string x.t, .slice x.la x.l.length x.lc, .slice x.ka x.ks.length x.kc] 26) (o2 := .cells #[.int .u8 y.k, .string y.t, .slice y.la y.l.length y.lc, .slice y.ka y.ks.length y.kc] 26) (o3 := .cells #[.int .u8 z.k, .string z.t, .slice z.la z.l.length z.lc, .slice z.ka z.ks.length z.kc] 26)
  rw [decide_eq_false h0] at HGX
  rw [decide_eq_true h1] at HGY
  clear h0 h1
  go_enter Tryd.func5, Tryd.ntmps5
  go_wp2_with (first
      | (go_at_call 7; first
          | ((with_reducible refine (HGX _ (by assumption)).out.mono ?_); rintro e w1 ⟨rfl, hb1⟩
             have hB1 := tri_step (N := w.heap.size + 1 + 1 + 1) (by assumption) hb1 (by simp)
             obtain ⟨k1, k2, k3, k4, k5⟩ := tri_at hB1
             obtain ⟨q0, q1, q2, q3, -, -, -, -⟩ := vbox4 k1
             obtain ⟨p0, p1, p2, p3, -, -, -, -⟩ := vbox4 k2
             obtain ⟨r0, r1, r2, r3, -, -, -, -⟩ := vbox4 k3)
          | ((with_reducible refine (HGY _ (by assumption)).out.mono ?_); rintro e w2 ⟨rfl, hb2⟩
             have hB2 := tri_step (N := w.heap.size + 1 + 1 + 1) (by assumption) hb2 (by simp)
             clear k1 k2 k3 k4 k5 q0 q1 q2 q3 p0 p1 p2 p3 r0 r1 r2 r3
             obtain ⟨k1, k2, k3, k4, k5⟩ := tri_at hB2
             obtain ⟨q0, q1, q2, q3, -, -, -, -⟩ := vbox4 k1
             obtain ⟨p0, p1, p2, p3, -, -, -, -⟩ := vbox4 k2
             obtain ⟨r0, r1, r2, r3, -, -, -, -⟩ := vbox4 k3))
      | (go_at_call 15; refine (HL _ (by assumption)).out.mono ?_; rintro e w9 ⟨rfl, hb9⟩))
  go_ret
  exact ⟨rfl, below_via (by assumption) hb9⟩

set_option maxRecDepth 100000 in
set_option maxHeartbeats 3200000 in
theorem rused_out2 (w : World) (x y z : AV) (hx : Rd w x) (hy : Rd w y) (hz : Rd w z) (hwx : x.w ≤ 1048576) (hwy : y.w ≤ 1048576) (hwz : z.w ≤ 1048576) (hP : Pow w) (h0 : ¬ 1500 < x.v.w) (h1 : ¬ 1500 < y.v.w) (h2 : 1500 < z.v.w) :
    Calls Tryd.prog 5 #[x.val, y.val, z.val] w (Ret (.bool true) w) := by
  have HGX := fun W (h : Below w.heap.size w W) => Lib.hid (great14_c x W (hx.up h) hwx)
  have HGY := fun W (h : Below w.heap.size w W) => Lib.hid (great14_c y W (hy.up h) hwy)
  have HGZ := fun W (h : Below w.heap.size w W) => Lib.hid (great14_c z W (hz.up h) hwz)
  have HL := fun W (h : Below w.heap.size w W) => Lib.hid (lives24_c W (hP.below h))
  have hB0 := tri_0 (w := w) (o1 := .cells #[.int .u8 x.k, .string x.t, .slice x.la x.l.length x.lc, .slice x.ka x.ks.length x.kc] 26) (o2 := .cells #[.int .u8 y.k, .string y.t, .slice y.la y.l.length y.lc, .slice y.ka y.ks.length y.kc] 26) (o3 := .cells #[.int .u8 z.k, .string z.t, .slice z.la z.l.length z.lc, .slice z.ka z.ks.length z.kc] 26)
  have hb0 := tri_b (w := w) (o1 := .cells #[.int .u8 x.k, .string x.t, .slice x.la x.l.length x.lc, .slice x.ka x.ks.length x.kc] 26) (o2 := .cells #[.int .u8 y.k, .string y.t, .slice y.la y.l.length y.lc, .slice y.ka y.ks.length y.kc] 26) (o3 := .cells #[.int .u8 z.k, .string z.t, .slice z.la z.l.length z.lc, .slice z.ka z.ks.length z.kc] 26)
  rw [decide_eq_false h0] at HGX
  rw [decide_eq_false h1] at HGY
  rw [decide_eq_true h2] at HGZ
  clear h0 h1 h2
  go_enter Tryd.func5, Tryd.ntmps5
  go_wp2_with (first
      | (go_at_call 7; first
          | ((with_reducible refine (HGX _ (by assumption)).out.mono ?_); rintro e w1 ⟨rfl, hb1⟩
             have hB1 := tri_step (N := w.heap.size + 1 + 1 + 1) (by assumption) hb1 (by simp)
             obtain ⟨k1, k2, k3, k4, k5⟩ := tri_at hB1
             obtain ⟨q0, q1, q2, q3, -, -, -, -⟩ := vbox4 k1
             obtain ⟨p0, p1, p2, p3, -, -, -, -⟩ := vbox4 k2
             obtain ⟨r0, r1, r2, r3, -, -, -, -⟩ := vbox4 k3)
          | ((with_reducible refine (HGY _ (by assumption)).out.mono ?_); rintro e w2 ⟨rfl, hb2⟩
             have hB2 := tri_step (N := w.heap.size + 1 + 1 + 1) (by assumption) hb2 (by simp)
             clear k1 k2 k3 k4 k5 q0 q1 q2 q3 p0 p1 p2 p3 r0 r1 r2 r3
             obtain ⟨k1, k2, k3, k4, k5⟩ := tri_at hB2
             obtain ⟨q0, q1, q2, q3, -, -, -, -⟩ := vbox4 k1
             obtain ⟨p0, p1, p2, p3, -, -, -, -⟩ := vbox4 k2
             obtain ⟨r0, r1, r2, r3, -, -, -, -⟩ := vbox4 k3)
          | ((with_reducible refine (HGZ _ (by assumption)).out.mono ?_); rintro e w3 ⟨rfl, hb3⟩
             have hB3 := tri_step (N := w.heap.size + 1 + 1 + 1) (by assumption) hb3 (by simp)
             clear k1 k2 k3 k4 k5 q0 q1 q2 q3 p0 p1 p2 p3 r0 r1 r2 r3
             obtain ⟨k1, k2, k3, k4, k5⟩ := tri_at hB3
             obtain ⟨q0, q1, q2, q3, -, -, -, -⟩ := vbox4 k1
             obtain ⟨p0, p1, p2, p3, -, -, -, -⟩ := vbox4 k2
             obtain ⟨r0, r1, r2, r3, -, -, -, -⟩ := vbox4 k3))
      | (go_at_call 15; refine (HL _ (by assumption)).out.mono ?_; rintro e w9 ⟨rfl, hb9⟩))
  go_ret
  exact ⟨rfl, below_via (by assumption) hb9⟩

set_option maxRecDepth 100000 in
set_option maxHeartbeats 12800000 in
theorem rused_in (w : World) (x y z : AV) (hx : Rd w x) (hy : Rd w y) (hz : Rd w z) (hwx : x.w ≤ 1048576) (hwy : y.w ≤ 1048576) (hwz : z.w ≤ 1048576) (hP : Pow w) (h0 : ¬ 1500 < x.v.w) (h1 : ¬ 1500 < y.v.w) (h2 : ¬ 1500 < z.v.w) :
    Calls Tryd.prog 5 #[x.val, y.val, z.val] w (Ret (.bool true) w) := by
  have HGX := fun W (h : Below w.heap.size w W) => Lib.hid (great14_c x W (hx.up h) hwx)
  have HGY := fun W (h : Below w.heap.size w W) => Lib.hid (great14_c y W (hy.up h) hwy)
  have HGZ := fun W (h : Below w.heap.size w W) => Lib.hid (great14_c z W (hz.up h) hwz)
  have HL := fun W (h : Below w.heap.size w W) => Lib.hid (lives24_c W (hP.below h))
  have HU1 := fun W (h : Below w.heap.size w W) => Lib.hid (ren_used_c W x y z (hx.up h) (hy.up h) (hz.up h) hwx hwy hwz (hP.below h))
  have HU2 := fun W (h : Below w.heap.size w W) => Lib.hid (ren_used_c W x z y (hx.up h) (hz.up h) (hy.up h) hwx hwz hwy (hP.below h))
  have HU3 := fun W (h : Below w.heap.size w W) => Lib.hid (ren_used_c W x y x (hx.up h) (hy.up h) (hx.up h) hwx hwy hwx (hP.below h))
  rw [usedV_turn x.v y.v z.v] at HU2
  rw [usedV_base x.v y.v] at HU3
  have hB0 := tri_0 (w := w) (o1 := .cells #[.int .u8 x.k, .string x.t, .slice x.la x.l.length x.lc, .slice x.ka x.ks.length x.kc] 26) (o2 := .cells #[.int .u8 y.k, .string y.t, .slice y.la y.l.length y.lc, .slice y.ka y.ks.length y.kc] 26) (o3 := .cells #[.int .u8 z.k, .string z.t, .slice z.la z.l.length z.lc, .slice z.ka z.ks.length z.kc] 26)
  have hb0 := tri_b (w := w) (o1 := .cells #[.int .u8 x.k, .string x.t, .slice x.la x.l.length x.lc, .slice x.ka x.ks.length x.kc] 26) (o2 := .cells #[.int .u8 y.k, .string y.t, .slice y.la y.l.length y.lc, .slice y.ka y.ks.length y.kc] 26) (o3 := .cells #[.int .u8 z.k, .string z.t, .slice z.la z.l.length z.lc, .slice z.ka z.ks.length z.kc] 26)
  rw [decide_eq_false h0] at HGX
  rw [decide_eq_false h1] at HGY
  rw [decide_eq_false h2] at HGZ
  have hl1 := usedV_le1 x y z hwx
  have hl2 := usedV_le2 x y z hwx
  have hlaw := fun p (h : p ∈ (usedV x.v y.v z.v).1) => usedV_left (b := x.v) (l := y.v) (r := z.v) h
  have hboth := fun p q (h : p ∈ (usedV x.v y.v z.v).1) (h2 : q ∈ (usedV x.v y.v z.v).2) => usedV_both (b := x.v) (l := y.v) (r := z.v) h h2
  obtain ⟨P, hPP⟩ : ∃ P, P = usedV x.v y.v z.v := ⟨_, rfl⟩
  rw [← hPP] at HU1 HU2 hl1 hl2 hlaw hboth
  clear hPP
  obtain ⟨L, M⟩ := P
  simp only at HU2 hl1 hl2 hlaw hboth
  have HLAW := Lib.hid hlaw
  have HBOTH := Lib.hid hboth
  have e0 : (((([] : List (ByteArray × ByteArray)).length : Int) + (([] : List (ByteArray × ByteArray)).length : Int)) != 0) = false := rfl
  have e1 : ((L.length : Int) != (L.length : Int)) = false := by simp
  have e2 : ((M.length : Int) != (M.length : Int)) = false := by simp
  clear h0 h1 h2 hlaw hboth
  go_enter Tryd.func5, Tryd.ntmps5
  go_wp2_with (first
      | (go_at_call 7; first
          | ((with_reducible refine (HGX _ (by assumption)).out.mono ?_); rintro e w1 ⟨rfl, hb1⟩
             have hB1 := tri_step (N := w.heap.size + 1 + 1 + 1) (by assumption) hb1 (by simp)
             obtain ⟨k1, k2, k3, k4, k5⟩ := tri_at hB1
             obtain ⟨q0, q1, q2, q3, -, -, -, -⟩ := vbox4 k1
             obtain ⟨p0, p1, p2, p3, -, -, -, -⟩ := vbox4 k2
             obtain ⟨r0, r1, r2, r3, -, -, -, -⟩ := vbox4 k3)
          | ((with_reducible refine (HGY _ (by assumption)).out.mono ?_); rintro e w2 ⟨rfl, hb2⟩
             have hB2 := tri_step (N := w.heap.size + 1 + 1 + 1) (by assumption) hb2 (by simp)
             clear k1 k2 k3 k4 k5 q0 q1 q2 q3 p0 p1 p2 p3 r0 r1 r2 r3
             obtain ⟨k1, k2, k3, k4, k5⟩ := tri_at hB2
             obtain ⟨q0, q1, q2, q3, -, -, -, -⟩ := vbox4 k1
             obtain ⟨p0, p1, p2, p3, -, -, -, -⟩ := vbox4 k2
             obtain ⟨r0, r1, r2, r3, -, -, -, -⟩ := vbox4 k3)
          | ((with_reducible refine (HGZ _ (by assumption)).out.mono ?_); rintro e w3 ⟨rfl, hb3⟩
             have hB3 := tri_step (N := w.heap.size + 1 + 1 + 1) (by assumption) hb3 (by simp)
             clear k1 k2 k3 k4 k5 q0 q1 q2 q3 p0 p1 p2 p3 r0 r1 r2 r3
             obtain ⟨k1, k2, k3, k4, k5⟩ := tri_at hB3
             obtain ⟨q0, q1, q2, q3, -, -, -, -⟩ := vbox4 k1
             obtain ⟨p0, p1, p2, p3, -, -, -, -⟩ := vbox4 k2
             obtain ⟨r0, r1, r2, r3, -, -, -, -⟩ := vbox4 k3))
      | (go_at_call 18; first
          | ((with_reducible refine (HU1 _ (by assumption)).out.mono ?_); rintro e w4 ⟨A1, c1, D1, d1, rfl, sa1, sb1, hb4⟩
             have hB4 := tri_step (N := w.heap.size + 1 + 1 + 1) hB3 hb4 (by simp)
             have sa1' := sa1.widen (Nat.zero_le _) (Nat.le_refl _)
             have sb1' := sb1.widen (Nat.zero_le _) (Nat.le_refl _)
             clear k1 k2 k3 k4 k5 q0 q1 q2 q3 p0 p1 p2 p3 r0 r1 r2 r3 sa1 sb1
             obtain ⟨k1, k2, k3, k4, k5⟩ := tri_at hB4
             obtain ⟨q0, q1, q2, q3, -, -, -, -⟩ := vbox4 k1
             obtain ⟨p0, p1, p2, p3, -, -, -, -⟩ := vbox4 k2
             obtain ⟨r0, r1, r2, r3, -, -, -, -⟩ := vbox4 k3)
          | ((with_reducible refine (HU2 _ (by assumption)).out.mono ?_); rintro e w5 ⟨A2, c2, D2, d2, rfl, sa2, sb2, hb5⟩
             have hB5 := tri_step (N := w.heap.size + 1 + 1 + 1) hB4 hb5 (by simp)
             have sa1 := sa1'.up hb5
             have sb1 := sb1'.up hb5
             have sa2' := sa2.widen (Nat.zero_le _) (Nat.le_refl _)
             have sb2' := sb2.widen (Nat.zero_le _) (Nat.le_refl _)
             clear k1 k2 k3 k4 k5 q0 q1 q2 q3 p0 p1 p2 p3 r0 r1 r2 r3 sa2 sb2 sa1' sb1'
             obtain ⟨k1, k2, k3, k4, k5⟩ := tri_at hB5
             obtain ⟨q0, q1, q2, q3, -, -, -, -⟩ := vbox4 k1
             obtain ⟨p0, p1, p2, p3, -, -, -, -⟩ := vbox4 k2
             obtain ⟨r0, r1, r2, r3, -, -, -, -⟩ := vbox4 k3)
          | ((with_reducible refine (HU3 _ (by assumption)).out.mono ?_); rintro e w6 ⟨A3, c3, D3, d3, rfl, -, -, hb6⟩
             have hB6 := tri_step (N := w.heap.size + 1 + 1 + 1) hB5 hb6 (by simp)
             have HS1 := Lib.hid (sa1.up hb6)
             have HS2 := Lib.hid (sb1.up hb6)
             have HT2 := Lib.hid (sa2'.up hb6)
             have HT1 := Lib.hid (sb2'.up hb6)
             clear k1 k2 k3 k4 k5 q0 q1 q2 q3 p0 p1 p2 p3 r0 r1 r2 r3 sa1 sb1 sa2' sb2'
             obtain ⟨k1, k2, k3, k4, k5⟩ := tri_at hB6)))
  have hN : w6.heap.size ≤ w6.heap.size := Nat.le_refl _
  have K1 := Lib.hid k1
  have K2 := Lib.hid k2
  have K3 := Lib.hid k3
  have K5 := Lib.hid k5
  have K4 := Lib.hid k4
  clear k1 k2 k3 k4 k5 hB0 hb0 hB1 hB2 hB3 hB4 hB5 hB6 hb1 hb2 hb3 hb4 hb5 hb6 HGX HGY HGZ HU1 HU2 HU3 e0 e1 e2
  go_loopw [13] (fun s13 wr => ∃ m : Nat, m ≤ L.length ∧ s13 = .int .i64 m ∧ Below w6.heap.size w6 wr) (fun s13 _ => L.length - (intOf s13).toNat)
  case atStart => exact ⟨0, Nat.zero_le _, rfl, Below.refl _ _⟩
  case round =>
    obtain ⟨m, hm, rfl, hbr⟩ := hrel
    have F : ∀ W, Below w6.heap.size w6 W → W.cell? ⟨w.heap.size, 0, none⟩ = some (.int .u8 x.k) ∧ W.cell? ⟨w.heap.size, 1, none⟩ = some (.string x.t) ∧ W.cell? ⟨w.heap.size, 2, none⟩ = some (.slice x.la x.l.length x.lc) ∧ W.cell? ⟨w.heap.size, 3, none⟩ = some (.slice x.ka x.ks.length x.kc) ∧
        W.cell? ⟨w.heap.size + 1 + 1, 0, none⟩ = some (.int .u8 z.k) ∧ W.cell? ⟨w.heap.size + 1 + 1, 1, none⟩ = some (.string z.t) ∧ W.cell? ⟨w.heap.size + 1 + 1, 2, none⟩ = some (.slice z.la z.l.length z.lc) ∧ W.cell? ⟨w.heap.size + 1 + 1, 3, none⟩ = some (.slice z.ka z.ks.length z.kc) := fun W h => by
      obtain ⟨a0, a1, a2, a3, -, -, -, -⟩ := vbox4 (blk_up h K1.out)
      obtain ⟨d0, d1, d2, d3, -, -, -, -⟩ := vbox4 (blk_up h K3.out)
      exact ⟨a0, a1, a2, a3, d0, d1, d2, d3⟩
    have HF := Lib.hid F
    clear F
    by_cases hlm : m < L.length
    · have hk : L[m]? = some L[m] := List.getElem?_eq_getElem hlm
      have hmem : L[m] ∈ L := List.getElem_mem hlm
      generalize L[m] = r at hk hmem
      obtain ⟨v, v2, g1, g2, hsame, g3, -, -, -⟩ := HLAW.out r hmem
      have hne := fun q (h : q ∈ M) => HBOTH.out r q hmem h
      obtain ⟨b, off, hka, -, -, hbl, c1', c2'⟩ := ren_at HS1.out hk
      obtain ⟨b2, off2, hka2, -, -, hbl2, u1', u2'⟩ := ren_at HT1.out hk
      have hvw := got_w g1
      have hvw2 := got_w g2
      have HG1 := fun W (h : Below w.heap.size w W) => Lib.hid (got_s g1 W (hz.up h) hwz)
      have HG2 := fun W (h : Below w.heap.size w W) => Lib.hid (got_s g2 W (hx.up h) hwx)
      have HG3 := fun W (h : Below w.heap.size w W) => Lib.hid (got_n g3 W (hz.up h) hwz)
      have HNE := Lib.hid hne
      have HBR := Lib.hid hbr
      have HC1 := Lib.hid c1'
      have HC2 := Lib.hid c2'
      have hlm' : (m : Int) < (L.length : Int) := by omega
      obtain ⟨f, t⟩ := r
      have G : ∀ W, Below w6.heap.size w6 W → W.cell? ⟨b, off + m * 2, none⟩ = some (.string f) ∧ W.cell? ⟨b, off + m * 2 + 1, none⟩ = some (.string t) := fun W h =>
        ⟨(h.cell (p := ⟨_, _, none⟩) hbl).trans HC1.out, (h.cell (p := ⟨_, _, none⟩) hbl).trans HC2.out⟩
      have HGG := Lib.hid G
      have hneq : ∀ W, (binOp .neq 39 (.agg #[.string f, .string t]) (.agg #[.string f, .string t])).run Tryd.prog W = .ok (.bool false) W := fun W => neq_ren W (f, t)
      have t0 := (hbr.cell (p := ⟨_, _, none⟩) hbl).trans c1'
      have t1 := (hbr.cell (p := ⟨_, _, none⟩) hbl).trans c2'
      have s0 := (hbr.cell (p := ⟨_, _, none⟩) hbl2).trans u1'
      have s1 := (hbr.cell (p := ⟨_, _, none⟩) hbl2).trans u2'
      have i3 : b < wr.heap.size := by have := HBR.out.size; omega
      have i4 : b2 < wr.heap.size := by have := HBR.out.size; omega
      have hm0 : (0 : Int) ≤ (m : Int) := by omega
      have HKA := Lib.hid hka
      have HKA2 := Lib.hid hka2
      clear hk hmem hne g1 g2 g3 hbr c1' c2' u1' u2' G hN
      subst hka hka2
      clear HKA HKA2
      go_upto_region 11 with fail
      go_quiet (fail)
      go_wp2_with fail
      clear s0 s1 t0 t1 i4 i3 hneq
      go_loopw [14] (fun s14 wi => ∃ k : Nat, k ≤ M.length ∧ s14 = .int .i64 k ∧ Below w6.heap.size w6 wi) (fun s14 _ => M.length - (intOf s14).toNat)
      case atStart => exact ⟨0, Nat.zero_le _, rfl, below_drewN HBR.out _⟩
      case round =>
        obtain ⟨k, hkl, rfl, hbi⟩ := hrel
        clear HBR
        obtain ⟨W4, hW4⟩ : ∃ W4, W4 = wr := ⟨_, rfl⟩
        subst hW4
        have hsi := hbi.size
        have HBI := Lib.hid hbi
        by_cases hkM : k < M.length
        · have hk' : M[k]? = some M[k] := List.getElem?_eq_getElem hkM
          have hmk : M[k] ∈ M := List.getElem_mem hkM
          have hkM' : (k : Int) < (M.length : Int) := by omega
          have hk0 : (0 : Int) ≤ (k : Int) := by omega
          generalize M[k] = q at hk' hmk
          have hqn := HNE.out q hmk
          obtain ⟨b3, off3, hka3, -, -, hbl3, v0', -⟩ := ren_at HS2.out hk'
          have v0 := (hbi.cell (p := ⟨_, _, none⟩) hbl3).trans v0'
          obtain ⟨t0, -⟩ := HGG.out _ hbi
          obtain ⟨qf, qt⟩ := q
          have e1 : (f.toList == qf.toList) = false := by rw [str_beq]; exact decide_eq_false hqn
          have e2 : decide (f = qf) = false := decide_eq_false hqn
          have i3 : b < W4.heap.size := by omega
          have i5 : b3 < W4.heap.size := by omega
          subst hka3
          clear hk' hmk hqn v0' hbi HNE
          go_wp2_with fail
          go_quiet (fail)
          go_wp2_with fail
          exact ⟨⟨k + 1, by omega, by go_num, below_drewN HBI.out _⟩, by simp [intOf]; omega⟩
        · obtain rfl : k = M.length := by omega
          have hge : ¬ (M.length : Int) < (M.length : Int) := by omega
          clear hbi hkM hkl HNE
          have hG1 := fun W (h : Below W4.heap.size W4 W) => HG1 W (below_via (below_via K5.out HBI.out) h)
          obtain ⟨q0, q1, q2, q3, r0, r1, r2, r3⟩ := HF.out W4 HBI.out
          obtain ⟨t0, t1⟩ := HGG.out W4 HBI.out
          have i1 : w.heap.size < W4.heap.size := by have := (HBI.out).size; have := K4.out; omega
          have i2 : w.heap.size + 1 + 1 < W4.heap.size := by have := (HBI.out).size; have := K4.out; omega
          have i3 : b < W4.heap.size := by have := (HBI.out).size; omega
          have hN : W4.heap.size ≤ W4.heap.size := Nat.le_refl _
          go_wp2_with fail
          go_cut [15, 16] (fun s6 s7 wx => ∃ g z, s6 = .pointer (some ⟨g, 0, none⟩) ∧ s7 = .bool true ∧ wx.heap[g]? = some (.cells #[.int .u8 z.k, .string z.t, .slice z.la z.l.length z.lc, .slice z.ka z.ks.length z.kc] 26 (0, 0)) ∧ Rd wx z ∧ z.v = v ∧ Below W4.heap.size W4 wx)
          case first =>
            go_region_held3 (fun w' => (∀ b o, b < W4.heap.size → w'.cell? ⟨b, o, none⟩ = W4.cell? ⟨b, o, none⟩) ∧ Below W4.heap.size W4 w')
              (first
                | (with_reducible exact Q1.out)
                | (with_reducible exact s_alloc hN Q1.out _)
                | (with_reducible exact s_put4 hN Q1.out (by omega))
                | (with_reducible exact s_alloc0 hN _)
                | (with_reducible refine s_alloc hN (by assumption) _)
                | exact ⟨fun _ _ _ => rfl, (Below.refl _ _).drew⟩)
              (first
                | (go_at_call 17; refine (hG1 _ (s_bel (by assumption))).out.mono ?_; rintro e w6 ⟨z, rfl, hzv, hzi, hb6⟩; have Q1 := Lib.hid (s_step hN (by assumption) hb6)
                   obtain ⟨bs1, bs2⟩ := bcell hb6
                   have hss := hb6.size
                   try simp only [World.size_drew, World.size_alloc] at hss
                   first | (have l1 : W4.heap.size < w6.heap.size := by omega) | skip))
            all_goals go_wp2_with fail
            all_goals go_meet
            · have hba := (Below.refl w6.heap.size w6).alloc (Nat.le_refl _) (.cells #[.int .u8 z.k, .string z.t, .slice z.la z.l.length z.lc, .slice z.ka z.ks.length z.kc] 26)
              exact ⟨w6.heap.size, z, rfl, rfl, heap_alloc_new w6 _, Rd.up (hzi.widen (Nat.zero_le _) (Nat.le_refl _)) hba, hzv, (s_alloc hN Q1.out _).2⟩
            · simp only [World.size_drew, World.size_alloc] at hzi
              have hbk := heap_alloc_new W4 (.cells #[.int .u8 0, .string ⟨#[]⟩, .slice none 0 0, .slice none 0 0] 26)
              exact ⟨W4.heap.size, z, rfl, rfl, put4_box ((hb6.block W4.heap.size (by simp)).trans hbk), (hzi.kept (Nat.le_of_eq put4_size.symm) fun q h1 _ _ => put4_old (by omega)).widen (Nat.zero_le _) (Nat.le_of_eq put4_size.symm), hzv, (s_put4 hN Q1.out (by omega)).2⟩
          case rest =>
            obtain ⟨g, y1, rfl, rfl, hgb, hz', hzv, hbc⟩ := hcut
            obtain ⟨W5, hWn⟩ : ∃ W5, W5 = wc := ⟨_, rfl⟩
            subst hWn
            have B_W5 := Lib.hid hbc
            have J_W5 := Lib.hid (tri_step HBI.out hbc (Nat.le_refl _))
            have HGB := Lib.hid hgb
            have HZ1 := Lib.hid hz'
            have HZV1 := Lib.hid hzv
            clear hgb hz' hzv hbc hG1 HG1
            clear q0 q1 q2 q3 r0 r1 r2 r3 t0 t1 i1 i2 i3 hN
            have hG2 := fun W (h : Below W5.heap.size W5 W) => HG2 W (below_via (below_via K5.out J_W5.out) h)
            obtain ⟨q0, q1, q2, q3, r0, r1, r2, r3⟩ := HF.out W5 J_W5.out
            obtain ⟨t0, t1⟩ := HGG.out W5 J_W5.out
            have i1 : w.heap.size < W5.heap.size := by have := (J_W5.out).size; have := K4.out; omega
            have i2 : w.heap.size + 1 + 1 < W5.heap.size := by have := (J_W5.out).size; have := K4.out; omega
            have i3 : b < W5.heap.size := by have := (J_W5.out).size; omega
            have hN : W5.heap.size ≤ W5.heap.size := Nat.le_refl _
            go_wp2_with fail
            go_cut [17] (fun s6 wx => ∃ g z, s6 = .pointer (some ⟨g, 0, none⟩) ∧ wx.heap[g]? = some (.cells #[.int .u8 z.k, .string z.t, .slice z.la z.l.length z.lc, .slice z.ka z.ks.length z.kc] 26 (0, 0)) ∧ Rd wx z ∧ z.v = v2 ∧ Below W5.heap.size W5 wx)
            case first =>
              go_region_held3 (fun w' => (∀ b o, b < W5.heap.size → w'.cell? ⟨b, o, none⟩ = W5.cell? ⟨b, o, none⟩) ∧ Below W5.heap.size W5 w')
                (first
                  | (with_reducible exact Q1.out)
                  | (with_reducible exact s_alloc hN Q1.out _)
                  | (with_reducible exact s_put4 hN Q1.out (by omega))
                  | (with_reducible exact s_alloc0 hN _)
                  | (with_reducible refine s_alloc hN (by assumption) _)
                  | exact ⟨fun _ _ _ => rfl, (Below.refl _ _).drew⟩)
                (first
                  | (go_at_call 17; refine (hG2 _ (s_bel (by assumption))).out.mono ?_; rintro e w6 ⟨z, rfl, hzv, hzi, hb6⟩; have Q1 := Lib.hid (s_step hN (by assumption) hb6)
                     obtain ⟨bs1, bs2⟩ := bcell hb6
                     have hss := hb6.size
                     try simp only [World.size_drew, World.size_alloc] at hss
                     first | (have l1 : W5.heap.size < w6.heap.size := by omega) | skip))
              all_goals go_wp2_with fail
              all_goals go_meet
              · have hba := (Below.refl w6.heap.size w6).alloc (Nat.le_refl _) (.cells #[.int .u8 z.k, .string z.t, .slice z.la z.l.length z.lc, .slice z.ka z.ks.length z.kc] 26)
                exact ⟨w6.heap.size, z, rfl, heap_alloc_new w6 _, Rd.up (hzi.widen (Nat.zero_le _) (Nat.le_refl _)) hba, hzv, (s_alloc hN Q1.out _).2⟩
              · simp only [World.size_drew, World.size_alloc] at hzi
                have hbk := heap_alloc_new W5 (.cells #[.int .u8 0, .string ⟨#[]⟩, .slice none 0 0, .slice none 0 0] 26)
                exact ⟨W5.heap.size, z, rfl, put4_box ((hb6.block W5.heap.size (by simp)).trans hbk), (hzi.kept (Nat.le_of_eq put4_size.symm) fun q h1 _ _ => put4_old (by omega)).widen (Nat.zero_le _) (Nat.le_of_eq put4_size.symm), hzv, (s_put4 hN Q1.out (by omega)).2⟩
            case rest =>
              obtain ⟨g2, y2, rfl, hgb, hz', hzv, hbc⟩ := hcut
              obtain ⟨W6, hWn⟩ : ∃ W6, W6 = wc := ⟨_, rfl⟩
              subst hWn
              have B_W6 := Lib.hid hbc
              have J_W6 := Lib.hid (tri_step J_W5.out hbc (Nat.le_refl _))
              have HGB2 := Lib.hid hgb
              have HZ2 := Lib.hid hz'
              have HZV2 := Lib.hid hzv
              clear hgb hz' hzv hbc hG2 HG2
              clear q0 q1 q2 q3 r0 r1 r2 r3 t0 t1 i1 i2 i3 hN
              have hG3 := fun W (h : Below W6.heap.size W6 W) => HG3 W (below_via (below_via K5.out J_W6.out) h)
              obtain ⟨q0, q1, q2, q3, r0, r1, r2, r3⟩ := HF.out W6 J_W6.out
              obtain ⟨t0, t1⟩ := HGG.out W6 J_W6.out
              have i1 : w.heap.size < W6.heap.size := by have := (J_W6.out).size; have := K4.out; omega
              have i2 : w.heap.size + 1 + 1 < W6.heap.size := by have := (J_W6.out).size; have := K4.out; omega
              have i3 : b < W6.heap.size := by have := (J_W6.out).size; omega
              have hN : W6.heap.size ≤ W6.heap.size := Nat.le_refl _
              go_wp2_with fail
              go_cut [20] (fun s7 wx => s7 = .bool false ∧ Below W6.heap.size W6 wx)
              case first =>
                go_region_held3 (fun w' => (∀ b o, b < W6.heap.size → w'.cell? ⟨b, o, none⟩ = W6.cell? ⟨b, o, none⟩) ∧ Below W6.heap.size W6 w')
                  (first
                    | (with_reducible exact Q1.out)
                    | (with_reducible exact s_alloc hN Q1.out _)
                    | (with_reducible exact s_put4 hN Q1.out (by omega))
                    | (with_reducible exact s_alloc0 hN _)
                    | (with_reducible refine s_alloc hN (by assumption) _)
                    | exact ⟨fun _ _ _ => rfl, (Below.refl _ _).drew⟩)
                  (first
                    | (go_at_call 17; refine (hG3 _ (s_bel (by assumption))).out.mono ?_; rintro e w6 ⟨rfl, hb6⟩; have Q1 := Lib.hid (s_step hN (by assumption) hb6)
                       obtain ⟨bs1, bs2⟩ := bcell hb6
                       have hss := hb6.size
                       try simp only [World.size_drew, World.size_alloc] at hss
                       first | (have l1 : W6.heap.size < w6.heap.size := by omega) | skip))
                all_goals go_wp2_with fail
                all_goals go_meet
                · exact ⟨rfl, (s_alloc hN Q1.out _).2⟩
                · exact ⟨rfl, (s_put4 hN Q1.out (by omega)).2⟩
              case rest =>
                obtain ⟨rfl, hbc⟩ := hcut
                obtain ⟨W7, hWn⟩ : ∃ W7, W7 = wc := ⟨_, rfl⟩
                subst hWn
                have B_W7 := Lib.hid hbc
                have J_W7 := Lib.hid (tri_step J_W6.out hbc (Nat.le_refl _))
                clear hbc hG3 HG3
                clear q0 q1 q2 q3 r0 r1 r2 r3 t0 t1 i1 i2 i3 hN
                have U1 := Lib.hid (below_via B_W6.out B_W7.out)
                have hbz := blk_up U1.out HGB.out
                have hbz2 := blk_up B_W7.out HGB2.out
                have hgl := lt_of_blk hbz
                have hgl2 := lt_of_blk hbz2
                obtain ⟨q0, q1, q2, q3, -, -, -, -⟩ := vbox4 hbz
                obtain ⟨p0, p1, p2, p3, -, -, -, -⟩ := vbox4 hbz2
                have hzw : y1.w ≤ 1048576 := by show y1.v.w ≤ _; rw [HZV1.out]; omega
                have hzw2 : y2.w ≤ 1048576 := by show y2.v.w ≤ _; rw [HZV2.out]; omega
                have HSM := fun W (h : Below W7.heap.size W7 W) => Lib.hid (show Calls Tryd.prog 11 #[y1.val, y2.val] W (Ret (.bool false) W) by
                  have := same_c y1 y2 W ((HZ1.out.up U1.out).up h) ((HZ2.out.up B_W7.out).up h) hzw hzw2; rwa [HZV1.out, HZV2.out, hsame] at this)
                clear hbz hbz2
                go_wp2_with (go_at_call 11; (with_reducible refine (HSM _ (Below.refl _ _)).out.mono ?_); rintro e wa ⟨rfl, hba⟩)
                exact ⟨⟨m + 1, by omega, by go_num, tri_step J_W7.out hba (Nat.le_refl _)⟩, by simp [intOf]; omega⟩
    · obtain rfl : m = L.length := by omega
      have hge : ¬ (L.length : Int) < (L.length : Int) := by omega
      have HBR := Lib.hid hbr
      clear hbr hm hlm HLAW HBOTH
      go_wp2_with fail
      go_loopw [21] (fun s21 wi => ∃ k : Nat, k ≤ M.length ∧ s21 = .int .i64 k ∧ Below w6.heap.size w6 wi) (fun s21 _ => M.length - (intOf s21).toNat)
      case atStart => exact ⟨0, Nat.zero_le _, rfl, HBR.out⟩
      case round =>
        obtain ⟨k, hkl, rfl, hbi⟩ := hrel
        have hsi := hbi.size
        have HBI := Lib.hid hbi
        by_cases hkM : k < M.length
        · have hk' : M[k]? = some M[k] := List.getElem?_eq_getElem hkM
          have hkM' : (k : Int) < (M.length : Int) := by omega
          have hk0 : (0 : Int) ≤ (k : Int) := by omega
          generalize M[k] = q at hk'
          obtain ⟨b3, off3, hka3, -, -, hbl3, v0', v1'⟩ := ren_at HS2.out hk'
          obtain ⟨b4, off4, hka4, -, -, hbl4, u0', u1'⟩ := ren_at HT2.out hk'
          have v0 := (hbi.cell (p := ⟨_, _, none⟩) hbl3).trans v0'
          have v1 := (hbi.cell (p := ⟨_, _, none⟩) hbl3).trans v1'
          have u0 := (hbi.cell (p := ⟨_, _, none⟩) hbl4).trans u0'
          have u1 := (hbi.cell (p := ⟨_, _, none⟩) hbl4).trans u1'
          obtain ⟨qf, qt⟩ := q
          have hneq : ∀ W, (binOp .neq 39 (.agg #[.string qf, .string qt]) (.agg #[.string qf, .string qt])).run Tryd.prog W = .ok (.bool false) W := fun W => neq_ren W (qf, qt)
          subst hka3 hka4
          clear hk' v0' v1' u0' u1' hbi
          go_wp2_with fail
          go_quiet (fail)
          go_wp2_with fail
          exact ⟨⟨k + 1, by omega, by go_num, below_drewN HBI.out _⟩, by simp [intOf]; omega⟩
        · obtain rfl : k = M.length := by omega
          have hge2 : ¬ (M.length : Int) < (M.length : Int) := by omega
          clear hbi
          go_wp2_with (go_at_call 15; refine (HL _ (below_via K5.out HBI.out)).out.mono ?_; rintro e w9 ⟨rfl, hb9⟩)
          go_ret
          exact ⟨rfl, below_via (below_via K5.out HBI.out) hb9⟩
end Go.Proofs.YtcpdogjcofkpcaaDoor
