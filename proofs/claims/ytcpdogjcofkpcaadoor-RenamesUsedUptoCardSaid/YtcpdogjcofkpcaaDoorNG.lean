/-
  renames.Used: contract. Conditions: the trees lie in memory, their weights are bounded; strconv's table of powers holds what its initialiser lays.
-/
import Derived.Test.YtcpdogjcofkpcaaDoorNF
namespace Go.Proofs.YtcpdogjcofkpcaaDoor
open Go.RowKit Go.Sort

theorem tri_at {w W : World} {o1 o2 o3 : Obj} (hb : Below (w.heap.size + 1 + 1 + 1) (((w.alloc o1).alloc o2).alloc o3) W) : W.heap[w.heap.size]? = some o1 ∧ W.heap[w.heap.size + 1]? = some o2 ∧ W.heap[w.heap.size + 1 + 1]? = some o3 ∧ w.heap.size + 1 + 1 < W.heap.size ∧ Below w.heap.size w W := by
  have hs := hb.size
  simp only [World.size_alloc] at hs
  have h2 := heap_alloc_new (w.alloc o1) o2
  have h3 := heap_alloc_new ((w.alloc o1).alloc o2) o3
  simp only [World.size_alloc] at h2 h3
  refine ⟨(hb.block _ (by omega)).trans ?_, (hb.block _ (by omega)).trans ?_, (hb.block _ (by omega)).trans h3, by omega, ?_⟩
  · rw [heap_alloc_old _ _ _ (by simp; omega), heap_alloc_old _ _ _ (by simp)]; exact heap_alloc_new w o1
  · rw [heap_alloc_old _ _ _ (by simp)]; exact h2
  · exact (((((Below.refl _ _).alloc (Nat.le_refl _) _).alloc (by simp) _).alloc (by simp; omega) _)).trans (hb.mono (by omega))
theorem tri_0 {w : World} {o1 o2 o3 : Obj} : Below (w.heap.size + 1 + 1 + 1) (((w.alloc o1).alloc o2).alloc o3) (((w.alloc o1).alloc o2).alloc o3) := Below.refl _ _
theorem tri_b {w : World} {o1 o2 o3 : Obj} : Below w.heap.size w (((w.alloc o1).alloc o2).alloc o3) := (((Below.refl _ _).alloc (Nat.le_refl _) _).alloc (by simp) _).alloc (by simp; omega) _
theorem tri_step {N : Nat} {A W W' : World} (h : Below N A W) (hb : Below W.heap.size W W') (hN : N ≤ A.heap.size) : Below N A W' := h.trans (hb.mono (Nat.le_trans hN h.size))
theorem ofV_le (x y : AV) (hw : x.w ≤ 1048576 := by assumption) : (ofV x.v y.v).length ≤ 1048576 := by
  unfold ofV
  split
  · have h1 := ofL_len x.v y.v (x.v.ks.zip x.v.l)
    have h2 := x.w_ks
    rw [List.length_zip] at h1
    have e : x.v.ks.length = x.ks.length := by rw [AV.v_ks]
    show (ofL x.v y.v (x.v.ks.zip x.v.l)).length ≤ _
    omega
  · simp
/-- What Used hands back. -/
def UsedPost (P : List (ByteArray × ByteArray) × List (ByteArray × ByteArray)) (w : World) (e : Ending) (w' : World) : Prop :=
  ∃ A c B d, e = .returned (.tuple #[.slice A P.1.length c, .slice B P.2.length d]) ∧ SlE renE 2 w' w.heap.size w'.heap.size A P.1 ∧ SlE renE 2 w' w.heap.size w'.heap.size B P.2 ∧ Below w.heap.size w w'
set_option maxRecDepth 100000 in
set_option maxHeartbeats 3200000 in
theorem ren_used_out0 (w : World) (x y z : AV) (hx : Rd w x) (hy : Rd w y) (hz : Rd w z) (hwx : x.w ≤ 1048576) (hwy : y.w ≤ 1048576) (hwz : z.w ≤ 1048576) (h0 : x.v.isMap = false) :
    Calls Tryd.prog 18 #[x.val, y.val, z.val] w (UsedPost (usedV x.v y.v z.v) w) := by
  have HF := Lib.hid (show usedV x.v y.v z.v = ([], []) by unfold usedV; rw [h0]; simp)
  have HMX := fun W (h : Below w.heap.size w W) => Lib.hid (ismap_c W x (hx.up h) hwx)
  have HMY := fun W (h : Below w.heap.size w W) => Lib.hid (ismap_c W y (hy.up h) hwy)
  have HMZ := fun W (h : Below w.heap.size w W) => Lib.hid (ismap_c W z (hz.up h) hwz)
  have hB0 := tri_0 (w := w) (o1 := .cells #[.int .u8 x.k, .string x.t, .slice x.la x.l.length x.lc, .slice x.ka x.ks.length x.kc] 26) (o2 := .cells #[.int .u8 y.k, .string y.t, .slice y.la y.l.length y.lc, .slice y.ka y.ks.length y.kc] 26) (o3 := .cells #[.int .u8 z.k, .string z.t, .slice z.la z.l.length z.lc, .slice z.ka z.ks.length z.kc] 26)
  have hb0 := tri_b (w := w) (o1 := .cells #[.int .u8 x.k, .string x.t, .slice x.la x.l.length x.lc, .slice x.ka x.ks.length x.kc] 26) (o2 := .cells #[.int .u8 y.k, .string y.t, .slice y.la y.l.length y.lc, .slice y.ka y.ks.length y.kc] 26) (o3 := .cells #[.int .u8 z.k, .string z.t, .slice z.la z.l.length z.lc, .slice z.ka z.ks.length z.kc] 26)
  rw [h0] at HMX
  clear h0
  go_enter Tryd.func18, Tryd.ntmps18
  go_wp2_with (go_at_call 31; first
          | ((with_reducible refine (HMX _ (by assumption)).out.mono ?_); rintro e w1 ⟨rfl, hb1⟩
             have hB1 := tri_step (N := w.heap.size + 1 + 1 + 1) (by assumption) hb1 (by simp)
             obtain ⟨k1, k2, k3, k4, k5⟩ := tri_at hB1
             obtain ⟨q0, q1, q2, q3, -, -, -, -⟩ := vbox4 k1
             obtain ⟨p0, p1, p2, p3, -, -, -, -⟩ := vbox4 k2
             obtain ⟨r0, r1, r2, r3, -, -, -, -⟩ := vbox4 k3))
  refine bodyPost_ret (v := .tuple #[.slice none 0 0, .slice none 0 0]) (by simp [results, Tryd.results18, go_sem]) rfl ⟨none, 0, none, 0, by rw [HF.out]; rfl, by rw [HF.out]; exact .nil, by rw [HF.out]; exact .nil, k5⟩

set_option maxRecDepth 100000 in
set_option maxHeartbeats 3200000 in
theorem ren_used_out1 (w : World) (x y z : AV) (hx : Rd w x) (hy : Rd w y) (hz : Rd w z) (hwx : x.w ≤ 1048576) (hwy : y.w ≤ 1048576) (hwz : z.w ≤ 1048576) (h0 : x.v.isMap = true) (h1 : y.v.isMap = false) :
    Calls Tryd.prog 18 #[x.val, y.val, z.val] w (UsedPost (usedV x.v y.v z.v) w) := by
  have HF := Lib.hid (show usedV x.v y.v z.v = ([], []) by unfold usedV; rw [h0, h1]; simp)
  have HMX := fun W (h : Below w.heap.size w W) => Lib.hid (ismap_c W x (hx.up h) hwx)
  have HMY := fun W (h : Below w.heap.size w W) => Lib.hid (ismap_c W y (hy.up h) hwy)
  have HMZ := fun W (h : Below w.heap.size w W) => Lib.hid (ismap_c W z (hz.up h) hwz)
  have hB0 := tri_0 (w := w) (o1 := .cells #[.int .u8 x.k, .string x.t, .slice x.la x.l.length x.lc, .slice x.ka x.ks.length x.kc] 26) (o2 := .cells #[.int .u8 y.k, .string y.t, .slice y.la y.l.length y.lc, .slice y.ka y.ks.length y.kc] 26) (o3 := .cells #[.int .u8 z.k, .string z.t, .slice z.la z.l.length z.lc, .slice z.ka z.ks.length z.kc] 26)
  have hb0 := tri_b (w := w) (o1 := .cells #[.int .u8 x.k, .string x.t, .slice x.la x.l.length x.lc, .slice x.ka x.ks.length x.kc] 26) (o2 := .cells #[.int .u8 y.k, .string y.t, .slice y.la y.l.length y.lc, .slice y.ka y.ks.length y.kc] 26) (o3 := .cells #[.int .u8 z.k, .string z.t, .slice z.la z.l.length z.lc, .slice z.ka z.ks.length z.kc] 26)
  rw [h0] at HMX
  rw [h1] at HMY
  clear h0 h1
  go_enter Tryd.func18, Tryd.ntmps18
  go_wp2_with (go_at_call 31; first
          | ((with_reducible refine (HMX _ (by assumption)).out.mono ?_); rintro e w1 ⟨rfl, hb1⟩
             have hB1 := tri_step (N := w.heap.size + 1 + 1 + 1) (by assumption) hb1 (by simp)
             obtain ⟨k1, k2, k3, k4, k5⟩ := tri_at hB1
             obtain ⟨q0, q1, q2, q3, -, -, -, -⟩ := vbox4 k1
             obtain ⟨p0, p1, p2, p3, -, -, -, -⟩ := vbox4 k2
             obtain ⟨r0, r1, r2, r3, -, -, -, -⟩ := vbox4 k3)
          | ((with_reducible refine (HMY _ (by assumption)).out.mono ?_); rintro e w2 ⟨rfl, hb2⟩
             have hB2 := tri_step (N := w.heap.size + 1 + 1 + 1) (by assumption) hb2 (by simp)
             obtain ⟨k1, k2, k3, k4, k5⟩ := tri_at hB2
             obtain ⟨q0, q1, q2, q3, -, -, -, -⟩ := vbox4 k1
             obtain ⟨p0, p1, p2, p3, -, -, -, -⟩ := vbox4 k2
             obtain ⟨r0, r1, r2, r3, -, -, -, -⟩ := vbox4 k3))
  refine bodyPost_ret (v := .tuple #[.slice none 0 0, .slice none 0 0]) (by simp [results, Tryd.results18, go_sem]) rfl ⟨none, 0, none, 0, by rw [HF.out]; rfl, by rw [HF.out]; exact .nil, by rw [HF.out]; exact .nil, k5⟩

set_option maxRecDepth 100000 in
set_option maxHeartbeats 3200000 in
theorem ren_used_out2 (w : World) (x y z : AV) (hx : Rd w x) (hy : Rd w y) (hz : Rd w z) (hwx : x.w ≤ 1048576) (hwy : y.w ≤ 1048576) (hwz : z.w ≤ 1048576) (h0 : x.v.isMap = true) (h1 : y.v.isMap = true) (h2 : z.v.isMap = false) :
    Calls Tryd.prog 18 #[x.val, y.val, z.val] w (UsedPost (usedV x.v y.v z.v) w) := by
  have HF := Lib.hid (show usedV x.v y.v z.v = ([], []) by unfold usedV; rw [h0, h1, h2]; simp)
  have HMX := fun W (h : Below w.heap.size w W) => Lib.hid (ismap_c W x (hx.up h) hwx)
  have HMY := fun W (h : Below w.heap.size w W) => Lib.hid (ismap_c W y (hy.up h) hwy)
  have HMZ := fun W (h : Below w.heap.size w W) => Lib.hid (ismap_c W z (hz.up h) hwz)
  have hB0 := tri_0 (w := w) (o1 := .cells #[.int .u8 x.k, .string x.t, .slice x.la x.l.length x.lc, .slice x.ka x.ks.length x.kc] 26) (o2 := .cells #[.int .u8 y.k, .string y.t, .slice y.la y.l.length y.lc, .slice y.ka y.ks.length y.kc] 26) (o3 := .cells #[.int .u8 z.k, .string z.t, .slice z.la z.l.length z.lc, .slice z.ka z.ks.length z.kc] 26)
  have hb0 := tri_b (w := w) (o1 := .cells #[.int .u8 x.k, .string x.t, .slice x.la x.l.length x.lc, .slice x.ka x.ks.length x.kc] 26) (o2 := .cells #[.int .u8 y.k, .string y.t, .slice y.la y.l.length y.lc, .slice y.ka y.ks.length y.kc] 26) (o3 := .cells #[.int .u8 z.k, .string z.t, .slice z.la z.l.length z.lc, .slice z.ka z.ks.length z.kc] 26)
  rw [h0] at HMX
  rw [h1] at HMY
  rw [h2] at HMZ
  clear h0 h1 h2
  go_enter Tryd.func18, Tryd.ntmps18
  go_wp2_with (go_at_call 31; first
          | ((with_reducible refine (HMX _ (by assumption)).out.mono ?_); rintro e w1 ⟨rfl, hb1⟩
             have hB1 := tri_step (N := w.heap.size + 1 + 1 + 1) (by assumption) hb1 (by simp)
             obtain ⟨k1, k2, k3, k4, k5⟩ := tri_at hB1
             obtain ⟨q0, q1, q2, q3, -, -, -, -⟩ := vbox4 k1
             obtain ⟨p0, p1, p2, p3, -, -, -, -⟩ := vbox4 k2
             obtain ⟨r0, r1, r2, r3, -, -, -, -⟩ := vbox4 k3)
          | ((with_reducible refine (HMY _ (by assumption)).out.mono ?_); rintro e w2 ⟨rfl, hb2⟩
             have hB2 := tri_step (N := w.heap.size + 1 + 1 + 1) (by assumption) hb2 (by simp)
             obtain ⟨k1, k2, k3, k4, k5⟩ := tri_at hB2
             obtain ⟨q0, q1, q2, q3, -, -, -, -⟩ := vbox4 k1
             obtain ⟨p0, p1, p2, p3, -, -, -, -⟩ := vbox4 k2
             obtain ⟨r0, r1, r2, r3, -, -, -, -⟩ := vbox4 k3)
          | ((with_reducible refine (HMZ _ (by assumption)).out.mono ?_); rintro e w3 ⟨rfl, hb3⟩
             have hB3 := tri_step (N := w.heap.size + 1 + 1 + 1) (by assumption) hb3 (by simp)
             obtain ⟨k1, k2, k3, k4, k5⟩ := tri_at hB3
             obtain ⟨q0, q1, q2, q3, -, -, -, -⟩ := vbox4 k1
             obtain ⟨p0, p1, p2, p3, -, -, -, -⟩ := vbox4 k2
             obtain ⟨r0, r1, r2, r3, -, -, -, -⟩ := vbox4 k3))
  refine bodyPost_ret (v := .tuple #[.slice none 0 0, .slice none 0 0]) (by simp [results, Tryd.results18, go_sem]) rfl ⟨none, 0, none, 0, by rw [HF.out]; rfl, by rw [HF.out]; exact .nil, by rw [HF.out]; exact .nil, k5⟩

set_option maxRecDepth 100000 in
set_option maxHeartbeats 6400000 in
theorem ren_used_in (w : World) (x y z : AV) (hx : Rd w x) (hy : Rd w y) (hz : Rd w z) (hwx : x.w ≤ 1048576) (hwy : y.w ≤ 1048576) (hwz : z.w ≤ 1048576) (hP : Pow w) (h0 : x.v.isMap = true) (h1 : y.v.isMap = true) (h2 : z.v.isMap = true) :
    Calls Tryd.prog 18 #[x.val, y.val, z.val] w (UsedPost (usedV x.v y.v z.v) w) := by
  have HF := Lib.hid (show usedV x.v y.v z.v = (usedP (ofV x.v y.v) x.v z.v, usedP (ofV x.v z.v) x.v y.v) by unfold usedV; rw [h0, h1, h2]; rfl)
  have HMX := fun W (h : Below w.heap.size w W) => Lib.hid (ismap_c W x (hx.up h) hwx)
  have HMY := fun W (h : Below w.heap.size w W) => Lib.hid (ismap_c W y (hy.up h) hwy)
  have HMZ := fun W (h : Below w.heap.size w W) => Lib.hid (ismap_c W z (hz.up h) hwz)
  have hB0 := tri_0 (w := w) (o1 := .cells #[.int .u8 x.k, .string x.t, .slice x.la x.l.length x.lc, .slice x.ka x.ks.length x.kc] 26) (o2 := .cells #[.int .u8 y.k, .string y.t, .slice y.la y.l.length y.lc, .slice y.ka y.ks.length y.kc] 26) (o3 := .cells #[.int .u8 z.k, .string z.t, .slice z.la z.l.length z.lc, .slice z.ka z.ks.length z.kc] 26)
  have hb0 := tri_b (w := w) (o1 := .cells #[.int .u8 x.k, .string x.t, .slice x.la x.l.length x.lc, .slice x.ka x.ks.length x.kc] 26) (o2 := .cells #[.int .u8 y.k, .string y.t, .slice y.la y.l.length y.lc, .slice y.ka y.ks.length y.kc] 26) (o3 := .cells #[.int .u8 z.k, .string z.t, .slice z.la z.l.length z.lc, .slice z.ka z.ks.length z.kc] 26)
  have HO1 := fun W (h : Below w.heap.size w W) => Lib.hid (of_c W x y (hx.up h) (hy.up h) hwx hwy (hP.below h))
  have HO2 := fun W (h : Below w.heap.size w W) => Lib.hid (of_c W x z (hx.up h) (hz.up h) hwx hwz (hP.below h))
  have HU1 := fun W (h : Below w.heap.size w W) A c (hs : SlE renE 2 W 0 W.heap.size A (ofV x.v y.v)) => Lib.hid (used_c W A c (ofV x.v y.v) hs (ofV_le x y) x z (hx.up h) (hz.up h) hwx hwz (fun r hr => by obtain ⟨v, _, h, _⟩ := ofV_ren hr; exact ⟨v, h⟩))
  have HU2 := fun W (h : Below w.heap.size w W) A c (hs : SlE renE 2 W 0 W.heap.size A (ofV x.v z.v)) => Lib.hid (used_c W A c (ofV x.v z.v) hs (ofV_le x z) x y (hx.up h) (hy.up h) hwx hwy (fun r hr => by obtain ⟨v, _, h, _⟩ := ofV_ren hr; exact ⟨v, h⟩))
  rw [h0] at HMX
  rw [h1] at HMY
  rw [h2] at HMZ
  clear h0 h1 h2
  go_enter Tryd.func18, Tryd.ntmps18
  go_wp2_with (go_at_call 31; first
          | ((with_reducible refine (HMX _ (by assumption)).out.mono ?_); rintro e w1 ⟨rfl, hb1⟩
             have hB1 := tri_step (N := w.heap.size + 1 + 1 + 1) (by assumption) hb1 (by simp)
             obtain ⟨k1, k2, k3, k4, k5⟩ := tri_at hB1
             obtain ⟨q0, q1, q2, q3, -, -, -, -⟩ := vbox4 k1
             obtain ⟨p0, p1, p2, p3, -, -, -, -⟩ := vbox4 k2
             obtain ⟨r0, r1, r2, r3, -, -, -, -⟩ := vbox4 k3)
          | ((with_reducible refine (HMY _ (by assumption)).out.mono ?_); rintro e w2 ⟨rfl, hb2⟩
             have hB2 := tri_step (N := w.heap.size + 1 + 1 + 1) (by assumption) hb2 (by simp)
             obtain ⟨k1, k2, k3, k4, k5⟩ := tri_at hB2
             obtain ⟨q0, q1, q2, q3, -, -, -, -⟩ := vbox4 k1
             obtain ⟨p0, p1, p2, p3, -, -, -, -⟩ := vbox4 k2
             obtain ⟨r0, r1, r2, r3, -, -, -, -⟩ := vbox4 k3)
          | ((with_reducible refine (HMZ _ (by assumption)).out.mono ?_); rintro e w3 ⟨rfl, hb3⟩
             have hB3 := tri_step (N := w.heap.size + 1 + 1 + 1) (by assumption) hb3 (by simp)
             obtain ⟨k1, k2, k3, k4, k5⟩ := tri_at hB3
             obtain ⟨q0, q1, q2, q3, -, -, -, -⟩ := vbox4 k1
             obtain ⟨p0, p1, p2, p3, -, -, -, -⟩ := vbox4 k2
             obtain ⟨r0, r1, r2, r3, -, -, -, -⟩ := vbox4 k3))
  have hN : w3.heap.size ≤ w3.heap.size := Nat.le_refl _
  have l1 : w.heap.size < w3.heap.size := by omega
  have l2 : w.heap.size + 1 < w3.heap.size := by omega
  have HK5 := Lib.hid k5
  clear k1 k2 k3 hB0 hb0 hB1 hB2 hB3 hb1 hb2 hb3 HMX HMY HMZ
  go_region_held3 (fun w' => (∀ b o, b < w3.heap.size → w'.cell? ⟨b, o, none⟩ = w3.cell? ⟨b, o, none⟩) ∧ Below w3.heap.size w3 w')
    (first | (with_reducible exact Q4.out) | (with_reducible exact Q3.out) | (with_reducible exact Q2.out) | (with_reducible exact Q1.out) | exact ⟨fun _ _ _ => rfl, (Below.refl _ _).drew⟩)
    (first
      | (go_at_call 16; first
          | ((with_reducible refine (HO1 _ (below_via HK5.out (And.right (by assumption)))).out.mono ?_); rintro e w4 ⟨A1, c1, rfl, hs4, hb4, -⟩
             have Q1 := Lib.hid (s_step hN (by assumption) hb4)
             have hs4' := hs4.widen (Nat.zero_le _) (Nat.le_refl _))
          | ((with_reducible refine (HO2 _ (below_via HK5.out (And.right (by assumption)))).out.mono ?_); rintro e w6 ⟨A3, c3, rfl, hs6, hb6, -⟩
             have Q3 := Lib.hid (s_step hN (by assumption) hb6)
             have hs5' := hs5.below' hb6
             have hs6' := hs6.widen (Nat.zero_le _) (Nat.le_refl _)))
      | (go_at_call 36; first
          | ((with_reducible refine (HU1 _ (below_via HK5.out (And.right (by assumption))) A1 c1 hs4').out.mono ?_); rintro e w5 ⟨A2, c2, rfl, hs5, hb5, -⟩
             have hz5 := (And.right (by assumption) : Below w3.heap.size w3 w4).size
             have Q2 := Lib.hid (s_step hN (by assumption) hb5))
          | ((with_reducible refine (HU2 _ (below_via HK5.out (And.right (by assumption))) A3 c3 hs6').out.mono ?_); rintro e w7 ⟨A4, c4, rfl, hs7, hb7, -⟩
             have hz7 := (And.right (by assumption) : Below w3.heap.size w3 w6).size
             have hs5'' := hs5'.below' hb7
             have Q4 := Lib.hid (s_step hN (by assumption) hb7))))
  have hz := HK5.out.size
  have hz2 := Q4.out.2.size
  have hz6 := hb6.size
  have hz7' := hb7.size
  go_wp2_with fail
  refine bodyPost_ret (v := .tuple #[.slice A2 (usedP (ofV x.v y.v) x.v z.v).length c2, .slice A4 (usedP (ofV x.v z.v) x.v y.v).length c4]) (by simp [results, Tryd.results18, go_sem]) rfl ⟨A2, c2, A4, c4, by rw [HF.out], ?_, ?_, below_via HK5.out Q4.out.2⟩
  · rw [HF.out]; exact hs5''.widen (by omega) (by omega)
  · rw [HF.out]; exact hs7.widen (by omega) (by omega)
theorem ren_used_c (w : World) (x y z : AV) (hx : Rd w x) (hy : Rd w y) (hz : Rd w z) (hwx : x.w ≤ 1048576) (hwy : y.w ≤ 1048576) (hwz : z.w ≤ 1048576) (hP : Pow w) :
    Calls Tryd.prog 18 #[x.val, y.val, z.val] w (UsedPost (usedV x.v y.v z.v) w) := by
  cases h0 : x.v.isMap with
  | false => exact ren_used_out0 w x y z hx hy hz hwx hwy hwz h0
  | true =>
    cases h1 : y.v.isMap with
    | false => exact ren_used_out1 w x y z hx hy hz hwx hwy hwz h0 h1
    | true =>
      cases h2 : z.v.isMap with
      | false => exact ren_used_out2 w x y z hx hy hz hwx hwy hwz h0 h1 h2
      | true => exact ren_used_in w x y z hx hy hz hwx hwy hwz hP h0 h1 h2
end Go.Proofs.YtcpdogjcofkpcaaDoor
