/-
  inarchlaw14.ValuesParts: the ways out ahead of its loop. Conditions: the values lie in memory, their weight is bounded; the table of short escapes holds what its initialiser lays.
-/
import Derived.Test.YtdapimjhjnbfdaaDoorVU
import Derived.Test.YtdapimjhjnbfdaaDoorVT
import Derived.Test.YtdapimjhjnbfdaaDoorVP
import Derived.Test.YtdapimjhjnbfdaaDoorVF
namespace Go.Proofs.YtdapimjhjnbfdaaDoor
open Go.RowKit Go.Sort

theorem two_at {w W : World} {o1 o2 : Obj} (hb : Below (w.heap.size + 1 + 1) ((w.alloc o1).alloc o2) W) : W.heap[w.heap.size]? = some o1 ∧ W.heap[w.heap.size + 1]? = some o2 ∧ w.heap.size + 1 < W.heap.size ∧ w.heap.size < W.heap.size ∧ Below w.heap.size w W := by
  obtain ⟨h1, h2, h3, h4⟩ := two_new (W := W) (w := w) (o1 := o1) (o2 := o2) (hb.mono (by simp))
  exact ⟨h1, h2, h3, by omega, h4⟩
theorem two_0 {w : World} {o1 o2 : Obj} : Below (w.heap.size + 1 + 1) ((w.alloc o1).alloc o2) ((w.alloc o1).alloc o2) := Below.refl _ _
theorem two_step {N : Nat} {A W W' : World} (h : Below N A W) (hb : Below W.heap.size W W') (hN : N ≤ A.heap.size) : Below N A W' := h.trans (hb.mono (Nat.le_trans hN h.size))

set_option maxRecDepth 100000 in
set_option maxHeartbeats 3200000 in
theorem parts_out (w : World) (x y : AV) (hx : Rd w x) (hy : Rd w y) (hwx : x.w ≤ 1048576) (hwy : y.w ≤ 1048576) (hS : Shorts w) (hout : 1500 < x.v.w ∨ 1500 < y.v.w ∨ x.v.may = false ∨ y.v.may = false) :
    Calls Tryd.prog 8 #[x.val, y.val] w (Ret (.bool true) w) := by
  have HGX := fun W h => Lib.hid (great14_c x W h hwx)
  have HGY := fun W h => Lib.hid (great14_c y W h hwy)
  have HMX := fun W h => Lib.hid (may_c W x h hwx)
  have HMY := fun W h => Lib.hid (may_c W y h hwy)
  have HL := fun W h => Lib.hid (lives14_c W h)
  have hB0 := two_0 (w := w) (o1 := .cells #[.int .u8 x.k, .string x.t, .slice x.la x.l.length x.lc, .slice x.ka x.ks.length x.kc] 41) (o2 := .cells #[.int .u8 y.k, .string y.t, .slice y.la y.l.length y.lc, .slice y.ka y.ks.length y.kc] 41)
  have hb0 : Below w.heap.size w ((w.alloc (.cells #[.int .u8 x.k, .string x.t, .slice x.la x.l.length x.lc, .slice x.ka x.ks.length x.kc] 41)).alloc (.cells #[.int .u8 y.k, .string y.t, .slice y.la y.l.length y.lc, .slice y.ka y.ks.length y.kc] 41)) := ((Below.refl _ _).alloc (Nat.le_refl _) _).alloc (by simp) _
  by_cases hgx : 1500 < x.v.w
  · rw [decide_eq_true hgx] at HGX
    clear hout hgx
    go_enter Tryd.func8, Tryd.ntmps8
    go_wp2_with (first
      | (go_at_call 25; first
          | ((with_reducible refine (HGX _ (hx.up (by assumption))).out.mono ?_); rintro e w1 ⟨rfl, hb1⟩
             have hB1 := two_step (N := w.heap.size + 1 + 1) (by assumption) hb1 (by simp)
             obtain ⟨k1, k2, k3, k4, k5⟩ := two_at hB1
             obtain ⟨q0, q1, q2, q3, -, -, -, -⟩ := vbox4 k1
             obtain ⟨p0, p1, p2, p3, -, -, -, -⟩ := vbox4 k2))
      | (go_at_call 27; refine (HL _ (hS.below (by assumption))).out.mono ?_; rintro e w5 ⟨rfl, hb5⟩))
    go_ret
    exact ⟨rfl, below_via (by assumption) hb5⟩
  · rw [decide_eq_false hgx] at HGX
    by_cases hgy : 1500 < y.v.w
    · rw [decide_eq_true hgy] at HGY
      clear hout hgx hgy
      go_enter Tryd.func8, Tryd.ntmps8
      go_wp2_with (first
      | (go_at_call 25; first
          | ((with_reducible refine (HGX _ (hx.up (by assumption))).out.mono ?_); rintro e w1 ⟨rfl, hb1⟩
             have hB1 := two_step (N := w.heap.size + 1 + 1) (by assumption) hb1 (by simp)
             obtain ⟨k1, k2, k3, k4, k5⟩ := two_at hB1
             obtain ⟨q0, q1, q2, q3, -, -, -, -⟩ := vbox4 k1
             obtain ⟨p0, p1, p2, p3, -, -, -, -⟩ := vbox4 k2)
          | ((with_reducible refine (HGY _ (hy.up (by assumption))).out.mono ?_); rintro e w2 ⟨rfl, hb2⟩
             have hB2 := two_step (N := w.heap.size + 1 + 1) (by assumption) hb2 (by simp)
             obtain ⟨k1, k2, k3, k4, k5⟩ := two_at hB2
             obtain ⟨q0, q1, q2, q3, -, -, -, -⟩ := vbox4 k1
             obtain ⟨p0, p1, p2, p3, -, -, -, -⟩ := vbox4 k2))
      | (go_at_call 27; refine (HL _ (hS.below (by assumption))).out.mono ?_; rintro e w5 ⟨rfl, hb5⟩))
      go_ret
      exact ⟨rfl, below_via (by assumption) hb5⟩
    · rw [decide_eq_false hgy] at HGY
      by_cases hmx : x.v.may = false
      · rw [hmx] at HMX
        clear hout hgx hgy hmx
        go_enter Tryd.func8, Tryd.ntmps8
        go_wp2_with (first
      | (go_at_call 25; first
          | ((with_reducible refine (HGX _ (hx.up (by assumption))).out.mono ?_); rintro e w1 ⟨rfl, hb1⟩
             have hB1 := two_step (N := w.heap.size + 1 + 1) (by assumption) hb1 (by simp)
             obtain ⟨k1, k2, k3, k4, k5⟩ := two_at hB1
             obtain ⟨q0, q1, q2, q3, -, -, -, -⟩ := vbox4 k1
             obtain ⟨p0, p1, p2, p3, -, -, -, -⟩ := vbox4 k2)
          | ((with_reducible refine (HGY _ (hy.up (by assumption))).out.mono ?_); rintro e w2 ⟨rfl, hb2⟩
             have hB2 := two_step (N := w.heap.size + 1 + 1) (by assumption) hb2 (by simp)
             obtain ⟨k1, k2, k3, k4, k5⟩ := two_at hB2
             obtain ⟨q0, q1, q2, q3, -, -, -, -⟩ := vbox4 k1
             obtain ⟨p0, p1, p2, p3, -, -, -, -⟩ := vbox4 k2))
      | (go_at_call 39; first
          | ((with_reducible refine (HMX _ (hx.up (by assumption))).out.mono ?_); rintro e w3 ⟨rfl, hb3⟩
             have hB3 := two_step (N := w.heap.size + 1 + 1) (by assumption) hb3 (by simp)
             obtain ⟨k1, k2, k3, k4, k5⟩ := two_at hB3
             obtain ⟨q0, q1, q2, q3, -, -, -, -⟩ := vbox4 k1
             obtain ⟨p0, p1, p2, p3, -, -, -, -⟩ := vbox4 k2))
      | (go_at_call 27; refine (HL _ (hS.below (by assumption))).out.mono ?_; rintro e w5 ⟨rfl, hb5⟩))
        go_ret
        exact ⟨rfl, below_via (by assumption) hb5⟩
      · rw [show x.v.may = true from by cases e : x.v.may; exact absurd e hmx; rfl] at HMX
        have hmy : y.v.may = false := hout.resolve_left hgx |>.resolve_left hgy |>.resolve_left hmx
        rw [hmy] at HMY
        clear hout hgx hgy hmx hmy
        go_enter Tryd.func8, Tryd.ntmps8
        go_wp2_with (first
      | (go_at_call 25; first
          | ((with_reducible refine (HGX _ (hx.up (by assumption))).out.mono ?_); rintro e w1 ⟨rfl, hb1⟩
             have hB1 := two_step (N := w.heap.size + 1 + 1) (by assumption) hb1 (by simp)
             obtain ⟨k1, k2, k3, k4, k5⟩ := two_at hB1
             obtain ⟨q0, q1, q2, q3, -, -, -, -⟩ := vbox4 k1
             obtain ⟨p0, p1, p2, p3, -, -, -, -⟩ := vbox4 k2)
          | ((with_reducible refine (HGY _ (hy.up (by assumption))).out.mono ?_); rintro e w2 ⟨rfl, hb2⟩
             have hB2 := two_step (N := w.heap.size + 1 + 1) (by assumption) hb2 (by simp)
             obtain ⟨k1, k2, k3, k4, k5⟩ := two_at hB2
             obtain ⟨q0, q1, q2, q3, -, -, -, -⟩ := vbox4 k1
             obtain ⟨p0, p1, p2, p3, -, -, -, -⟩ := vbox4 k2))
      | (go_at_call 39; first
          | ((with_reducible refine (HMX _ (hx.up (by assumption))).out.mono ?_); rintro e w3 ⟨rfl, hb3⟩
             have hB3 := two_step (N := w.heap.size + 1 + 1) (by assumption) hb3 (by simp)
             obtain ⟨k1, k2, k3, k4, k5⟩ := two_at hB3
             obtain ⟨q0, q1, q2, q3, -, -, -, -⟩ := vbox4 k1
             obtain ⟨p0, p1, p2, p3, -, -, -, -⟩ := vbox4 k2)
          | ((with_reducible refine (HMY _ (hy.up (by assumption))).out.mono ?_); rintro e w4 ⟨rfl, hb4⟩
             have hB4 := two_step (N := w.heap.size + 1 + 1) (by assumption) hb4 (by simp)
             obtain ⟨k1, k2, k3, k4, k5⟩ := two_at hB4
             obtain ⟨q0, q1, q2, q3, -, -, -, -⟩ := vbox4 k1
             obtain ⟨p0, p1, p2, p3, -, -, -, -⟩ := vbox4 k2))
      | (go_at_call 27; refine (HL _ (hS.below (by assumption))).out.mono ?_; rintro e w5 ⟨rfl, hb5⟩))
        go_ret
        exact ⟨rfl, below_via (by assumption) hb5⟩
end Go.Proofs.YtdapimjhjnbfdaaDoor
