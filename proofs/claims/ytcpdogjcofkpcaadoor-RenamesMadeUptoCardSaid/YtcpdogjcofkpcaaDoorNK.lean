/-
  inarchlaw24.RenamesOnce answers true. Conditions: the values lie in memory, their weight is bounded; strconv's table of powers holds what its initialiser lays.
-/
import Derived.Test.YtcpdogjcofkpcaaDoorNJ
import Derived.Test.YtcpdogjcofkpcaaDoorVF
import Derived.Test.YtcpdogjcofkpcaaDoorVN
namespace Go.Proofs.YtcpdogjcofkpcaaDoor
open Go.RowKit Go.Sort

theorem s_bel {N : Nat} {W2 w' : World} (h : (∀ b o, b < N → w'.cell? ⟨b, o, none⟩ = W2.cell? ⟨b, o, none⟩) ∧ Below N W2 w') : Below N W2 w' := h.2
theorem lt_of_blk {W : World} {i : Nat} {o : Obj} (hk : W.heap[i]? = some o) : i < W.heap.size := by
  rcases Nat.lt_or_ge i W.heap.size with h | h
  · exact h
  · rw [Array.getElem?_eq_none h] at hk; cases hk
theorem duo_at {w W : World} {o1 o2 : Obj} (hb : Below (w.heap.size + 1 + 1) ((w.alloc o1).alloc o2) W) : W.heap[w.heap.size]? = some o1 ∧ W.heap[w.heap.size + 1]? = some o2 ∧ w.heap.size + 1 < W.heap.size ∧ Below w.heap.size w W := by
  have hs := hb.size
  simp only [World.size_alloc] at hs
  have h2 := heap_alloc_new (w.alloc o1) o2
  simp only [World.size_alloc] at h2
  refine ⟨(hb.block _ (by omega)).trans ?_, (hb.block _ (by omega)).trans h2, by omega, ?_⟩
  · rw [heap_alloc_old _ _ _ (by simp)]; exact heap_alloc_new w o1
  · exact ((((Below.refl _ _).alloc (Nat.le_refl _) _).alloc (by simp) _)).trans (hb.mono (by omega))
theorem duo_0 {w : World} {o1 o2 : Obj} : Below (w.heap.size + 1 + 1) ((w.alloc o1).alloc o2) ((w.alloc o1).alloc o2) := Below.refl _ _
theorem duo_b {w : World} {o1 o2 : Obj} : Below w.heap.size w ((w.alloc o1).alloc o2) := ((Below.refl _ _).alloc (Nat.le_refl _) _).alloc (by simp) _
set_option maxRecDepth 100000 in
set_option maxHeartbeats 3200000 in
theorem ronce_out0 (w : World) (x y : AV) (hx : Rd w x) (_hy : Rd w y) (hwx : x.w ≤ 1048576) (_hwy : y.w ≤ 1048576) (hP : Pow w) (h0 : 1500 < x.v.w) :
    Calls Tryd.prog 4 #[x.val, y.val] w (Ret (.bool true) w) := by
  have HGX := fun W (h : Below w.heap.size w W) => Lib.hid (great14_c x W (hx.up h) hwx)
  have HL := fun W (h : Below w.heap.size w W) => Lib.hid (lives24_c W (hP.below h))
  have hB0 := duo_0 (w := w) (o1 := .cells #[.int .u8 x.k, .string x.t, .slice x.la x.l.length x.lc, .slice x.ka x.ks.length x.kc] 26) (o2 := .cells #[.int .u8 y.k, .string y.t, .slice y.la y.l.length y.lc, .slice y.ka y.ks.length y.kc] 26)
  have hb0 := duo_b (w := w) (o1 := .cells #[.int .u8 x.k, .string x.t, .slice x.la x.l.length x.lc, .slice x.ka x.ks.length x.kc] 26) (o2 := .cells #[.int .u8 y.k, .string y.t, .slice y.la y.l.length y.lc, .slice y.ka y.ks.length y.kc] 26)
  rw [decide_eq_true h0] at HGX
  clear h0
  go_enter Tryd.func4, Tryd.ntmps4
  go_wp2_with (first
      | (go_at_call 7; first
          | ((with_reducible refine (HGX _ (by assumption)).out.mono ?_); rintro e w1 ⟨rfl, hb1⟩
             have hB1 := tri_step (N := w.heap.size + 1 + 1) (by assumption) hb1 (by simp)
             obtain ⟨k1, k2, k3, k4⟩ := duo_at hB1
             obtain ⟨q0, q1, q2, q3, -, -, -, -⟩ := vbox4 k1
             obtain ⟨p0, p1, p2, p3, -, -, -, -⟩ := vbox4 k2))
      | (go_at_call 15; refine (HL _ (by assumption)).out.mono ?_; rintro e w9 ⟨rfl, hb9⟩))
  go_ret
  exact ⟨rfl, below_via (by assumption) hb9⟩

set_option maxRecDepth 100000 in
set_option maxHeartbeats 3200000 in
theorem ronce_out1 (w : World) (x y : AV) (hx : Rd w x) (hy : Rd w y) (hwx : x.w ≤ 1048576) (hwy : y.w ≤ 1048576) (hP : Pow w) (h0 : ¬ 1500 < x.v.w) (h1 : 1500 < y.v.w) :
    Calls Tryd.prog 4 #[x.val, y.val] w (Ret (.bool true) w) := by
  have HGX := fun W (h : Below w.heap.size w W) => Lib.hid (great14_c x W (hx.up h) hwx)
  have HGY := fun W (h : Below w.heap.size w W) => Lib.hid (great14_c y W (hy.up h) hwy)
  have HL := fun W (h : Below w.heap.size w W) => Lib.hid (lives24_c W (hP.below h))
  have hB0 := duo_0 (w := w) (o1 := .cells #[.int .u8 x.k, .string x.t, .slice x.la x.l.length x.lc, .slice x.ka x.ks.length x.kc] 26) (o2 := .cells #[.int .u8 y.k, .string y.t, .slice y.la y.l.length y.lc, .slice y.ka y.ks.length y.kc] 26)
  have hb0 := duo_b (w := w) (o1 := .cells #[.int .u8 x.k, .string x.t, .slice x.la x.l.length x.lc, .slice x.ka x.ks.length x.kc] 26) (o2 := .cells #[.int .u8 y.k, .string y.t, .slice y.la y.l.length y.lc, .slice y.ka y.ks.length y.kc] 26)
  rw [decide_eq_false h0] at HGX
  rw [decide_eq_true h1] at HGY
  clear h0 h1
  go_enter Tryd.func4, Tryd.ntmps4
  go_wp2_with (first
      | (go_at_call 7; first
          | ((with_reducible refine (HGX _ (by assumption)).out.mono ?_); rintro e w1 ⟨rfl, hb1⟩
             have hB1 := tri_step (N := w.heap.size + 1 + 1) (by assumption) hb1 (by simp)
             obtain ⟨k1, k2, k3, k4⟩ := duo_at hB1
             obtain ⟨q0, q1, q2, q3, -, -, -, -⟩ := vbox4 k1
             obtain ⟨p0, p1, p2, p3, -, -, -, -⟩ := vbox4 k2)
          | ((with_reducible refine (HGY _ (by assumption)).out.mono ?_); rintro e w2 ⟨rfl, hb2⟩
             have hB2 := tri_step (N := w.heap.size + 1 + 1) (by assumption) hb2 (by simp)
             obtain ⟨k1, k2, k3, k4⟩ := duo_at hB2
             obtain ⟨q0, q1, q2, q3, -, -, -, -⟩ := vbox4 k1
             obtain ⟨p0, p1, p2, p3, -, -, -, -⟩ := vbox4 k2))
      | (go_at_call 15; refine (HL _ (by assumption)).out.mono ?_; rintro e w9 ⟨rfl, hb9⟩))
  go_ret
  exact ⟨rfl, below_via (by assumption) hb9⟩

set_option maxRecDepth 100000 in
set_option maxHeartbeats 3200000 in
theorem ronce_in (w : World) (x y : AV) (hx : Rd w x) (hy : Rd w y) (hwx : x.w ≤ 1048576) (hwy : y.w ≤ 1048576) (hP : Pow w) (h0 : ¬ 1500 < x.v.w) (h1 : ¬ 1500 < y.v.w) :
    Calls Tryd.prog 4 #[x.val, y.val] w (Ret (.bool true) w) := by
  have HGX := fun W (h : Below w.heap.size w W) => Lib.hid (great14_c x W (hx.up h) hwx)
  have HGY := fun W (h : Below w.heap.size w W) => Lib.hid (great14_c y W (hy.up h) hwy)
  have HL := fun W (h : Below w.heap.size w W) => Lib.hid (lives24_c W (hP.below h))
  have HO1 := fun W (h : Below w.heap.size w W) => Lib.hid (of_c W x y (hx.up h) (hy.up h) hwx hwy (hP.below h))
  have HO2 := fun W (h : Below w.heap.size w W) => Lib.hid (of_c W y x (hy.up h) (hx.up h) hwy hwx (hP.below h))
  have hB0 := duo_0 (w := w) (o1 := .cells #[.int .u8 x.k, .string x.t, .slice x.la x.l.length x.lc, .slice x.ka x.ks.length x.kc] 26) (o2 := .cells #[.int .u8 y.k, .string y.t, .slice y.la y.l.length y.lc, .slice y.ka y.ks.length y.kc] 26)
  have hb0 := duo_b (w := w) (o1 := .cells #[.int .u8 x.k, .string x.t, .slice x.la x.l.length x.lc, .slice x.ka x.ks.length x.kc] 26) (o2 := .cells #[.int .u8 y.k, .string y.t, .slice y.la y.l.length y.lc, .slice y.ka y.ks.length y.kc] 26)
  rw [decide_eq_false h0] at HGX
  rw [decide_eq_false h1] at HGY
  have hlen := ofV_len x.v y.v
  have hl1 := ofV_le x y
  obtain ⟨L, hL⟩ : ∃ L, L = ofV x.v y.v := ⟨_, rfl⟩
  obtain ⟨M, hM⟩ : ∃ M, M = ofV y.v x.v := ⟨_, rfl⟩
  rw [← hL] at HO1 hl1 hlen
  rw [← hM] at HO2 hlen
  have HLN := Lib.hid hlen
  have HLL := Lib.hid hL
  have HMM := Lib.hid hM
  have hlt : ((L.length : Int) != (M.length : Int)) = false := by rw [bne_eq_false_iff_eq]; omega
  clear h0 h1 hL hM hlen
  go_enter Tryd.func4, Tryd.ntmps4
  go_wp2_with (first
      | (go_at_call 7; first
          | ((with_reducible refine (HGX _ (by assumption)).out.mono ?_); rintro e w1 ⟨rfl, hb1⟩
             have hB1 := tri_step (N := w.heap.size + 1 + 1) (by assumption) hb1 (by simp)
             obtain ⟨k1, k2, k3, k4⟩ := duo_at hB1
             obtain ⟨q0, q1, q2, q3, -, -, -, -⟩ := vbox4 k1
             obtain ⟨p0, p1, p2, p3, -, -, -, -⟩ := vbox4 k2)
          | ((with_reducible refine (HGY _ (by assumption)).out.mono ?_); rintro e w2 ⟨rfl, hb2⟩
             have hB2 := tri_step (N := w.heap.size + 1 + 1) (by assumption) hb2 (by simp)
             clear k1 k2 k3 k4 q0 q1 q2 q3 p0 p1 p2 p3
             obtain ⟨k1, k2, k3, k4⟩ := duo_at hB2
             obtain ⟨q0, q1, q2, q3, -, -, -, -⟩ := vbox4 k1
             obtain ⟨p0, p1, p2, p3, -, -, -, -⟩ := vbox4 k2))
      | (go_at_call 16; first
          | ((with_reducible refine (HO1 _ k4).out.mono ?_); rintro e w3 ⟨A1, c1, rfl, hs1, hb3, -⟩
             have hB3 := tri_step (N := w.heap.size + 1 + 1) hB2 hb3 (by simp)
             have hs1' := hs1.widen (Nat.zero_le _) (Nat.le_refl _)
             clear k1 k2 k3 k4 q0 q1 q2 q3 p0 p1 p2 p3 hs1
             obtain ⟨k1, k2, k3, k4⟩ := duo_at hB3
             obtain ⟨q0, q1, q2, q3, -, -, -, -⟩ := vbox4 k1
             obtain ⟨p0, p1, p2, p3, -, -, -, -⟩ := vbox4 k2)
          | ((with_reducible refine (HO2 _ k4).out.mono ?_); rintro e w4 ⟨A2, c2, rfl, hs2, hb4, -⟩
             have hB4 := tri_step (N := w.heap.size + 1 + 1) hB3 hb4 (by simp)
             have hs2' := hs2.widen (Nat.zero_le _) (Nat.le_refl _)
             have hs3' := hs1'.up hb4
             clear k1 k2 k3 k4 q0 q1 q2 q3 p0 p1 p2 p3 hs2 hs1'
             obtain ⟨k1, k2, k3, k4⟩ := duo_at hB4)))
  have hN : w4.heap.size ≤ w4.heap.size := Nat.le_refl _
  have K1 := Lib.hid k1
  have K2 := Lib.hid k2
  have K4 := Lib.hid k4
  have HS1 := Lib.hid hs3'
  have HS2 := Lib.hid hs2'
  clear k1 k2 k4 hs3' hs2' hB0 hb0 hB1 hB2 hB3 hB4 hb1 hb2 hb3 hb4 HGX HGY HO1 HO2
  go_loopw [7] (fun s7 wr => ∃ m : Nat, m ≤ L.length ∧ s7 = .int .i64 m ∧ Below w4.heap.size w4 wr) (fun s7 _ => L.length - (intOf s7).toNat)
  case atStart => exact ⟨0, Nat.zero_le _, rfl, Below.refl _ _⟩
  case round =>
    obtain ⟨m, hm, rfl, hbr⟩ := hrel
    by_cases hlm : m < L.length
    · have hk : L[m]? = some L[m] := List.getElem?_eq_getElem hlm
      have hmem : L[m] ∈ L := List.getElem_mem hlm
      generalize L[m] = r at hk hmem
      obtain ⟨v, v2, g1, g2, g3, g4, hsame, hsz, hvm, hvm2, -, -, -, -⟩ := ofV_ren (by rw [← HLL.out]; exact hmem)
      obtain ⟨b, off, hka, -, -, hbl, c1', c2'⟩ := ren_at HS1.out hk
      have htn := ofV_turn (by rw [← HLL.out]; exact hmem)
      rw [← HMM.out] at htn
      have hvw := got_w g1
      have hvw2 := got_w g2
      have F : ∀ W, Below w4.heap.size w4 W → W.cell? ⟨w.heap.size, 0, none⟩ = some (.int .u8 x.k) ∧ W.cell? ⟨w.heap.size, 1, none⟩ = some (.string x.t) ∧ W.cell? ⟨w.heap.size, 2, none⟩ = some (.slice x.la x.l.length x.lc) ∧ W.cell? ⟨w.heap.size, 3, none⟩ = some (.slice x.ka x.ks.length x.kc) ∧
          W.cell? ⟨w.heap.size + 1, 0, none⟩ = some (.int .u8 y.k) ∧ W.cell? ⟨w.heap.size + 1, 1, none⟩ = some (.string y.t) ∧ W.cell? ⟨w.heap.size + 1, 2, none⟩ = some (.slice y.la y.l.length y.lc) ∧ W.cell? ⟨w.heap.size + 1, 3, none⟩ = some (.slice y.ka y.ks.length y.kc) ∧ W.cell? ⟨b, off + m * 2, none⟩ = some (.string r.1) ∧ W.cell? ⟨b, off + m * 2 + 1, none⟩ = some (.string r.2) := fun W h => by
        obtain ⟨a0, a1, a2, a3, -, -, -, -⟩ := vbox4 (blk_up h K1.out)
        obtain ⟨d0, d1, d2, d3, -, -, -, -⟩ := vbox4 (blk_up h K2.out)
        exact ⟨a0, a1, a2, a3, d0, d1, d2, d3, (h.cell (p := ⟨_, _, none⟩) hbl).trans c1', (h.cell (p := ⟨_, _, none⟩) hbl).trans c2'⟩
      have HG1 := fun W (h : Below w.heap.size w W) => Lib.hid (got_s g1 W (hx.up h) hwx)
      have HG2 := fun W (h : Below w.heap.size w W) => Lib.hid (got_s g2 W (hy.up h) hwy)
      have HG3 := fun W (h : Below w.heap.size w W) => Lib.hid (got_n g3 W (hy.up h) hwy)
      have HG4 := fun W (h : Below w.heap.size w W) => Lib.hid (got_n g4 W (hx.up h) hwx)
      have HK := Lib.hid hk
      have HTN := Lib.hid htn
      have HBR := Lib.hid hbr
      have HKA := Lib.hid hka
      have hlm' : (m : Int) < (L.length : Int) := by omega
      obtain ⟨q0, q1, q2, q3, p0, p1, p2, p3, t0, t1⟩ := F _ hbr
      clear hk hmem hka htn g1 g2 g3 g4 c1' c2'
      obtain ⟨f, t⟩ := r
      rw [HKA.out]
      have hG1 := fun W (h : Below wr.heap.size wr W) => HG1 W (below_via (below_via K4.out HBR.out) h)
      clear q0 q1 q2 q3 p0 p1 p2 p3 t0 t1 hN
      obtain ⟨q0, q1, q2, q3, p0, p1, p2, p3, t0, t1⟩ := F wr HBR.out
      have i1 : w.heap.size < wr.heap.size := by have := HBR.out.size; omega
      have i2 : w.heap.size + 1 < wr.heap.size := by have := HBR.out.size; omega
      have i3 : b < wr.heap.size := by have := HBR.out.size; omega
      have hN : wr.heap.size ≤ wr.heap.size := Nat.le_refl _
      go_wp2_with fail
      go_cut [8, 9] (fun s6 s7 wx => ∃ g z, s6 = .pointer (some ⟨g, 0, none⟩) ∧ s7 = .bool true ∧ wx.heap[g]? = some (.cells #[.int .u8 z.k, .string z.t, .slice z.la z.l.length z.lc, .slice z.ka z.ks.length z.kc] 26 (0, 0)) ∧ Rd wx z ∧ z.v = v ∧ Below wr.heap.size wr wx)
      case first =>
        go_region_held3 (fun w' => (∀ b o, b < wr.heap.size → w'.cell? ⟨b, o, none⟩ = wr.cell? ⟨b, o, none⟩) ∧ Below wr.heap.size wr w')
          (first
            | (with_reducible exact Q1.out)
            | (with_reducible exact s_alloc hN Q1.out _)
            | (with_reducible exact s_put4 hN Q1.out (by omega))
            | (with_reducible exact s_alloc0 hN _)
            | (with_reducible refine s_alloc hN (by assumption) _)
            | exact ⟨fun _ _ _ => rfl, (Below.refl _ _).drew⟩)
          (first
            | (go_at_call 17; refine (hG1 _ (s_bel (by assumption))).out.mono ?_; rintro e w6 ⟨z, rfl, hzv, hzi, hb6⟩; have Q1 := Lib.hid (s_step hN (by assumption) hb6)
               obtain ⟨bs1, bs2⟩ := bcell hb6
               have hss := hb6.size
               try simp only [World.size_drew, World.size_alloc] at hss
               first | (have l1 : wr.heap.size < w6.heap.size := by omega) | skip))
        all_goals go_wp2_with fail
        all_goals go_meet
        · have hba := (Below.refl w6.heap.size w6).alloc (Nat.le_refl _) (.cells #[.int .u8 z.k, .string z.t, .slice z.la z.l.length z.lc, .slice z.ka z.ks.length z.kc] 26)
          exact ⟨w6.heap.size, z, rfl, rfl, heap_alloc_new w6 _, Rd.up (hzi.widen (Nat.zero_le _) (Nat.le_refl _)) hba, hzv, (s_alloc hN Q1.out _).2⟩
        · simp only [World.size_drew, World.size_alloc] at hzi
          have hbk := heap_alloc_new wr (.cells #[.int .u8 0, .string ⟨#[]⟩, .slice none 0 0, .slice none 0 0] 26)
          exact ⟨wr.heap.size, z, rfl, rfl, put4_box ((hb6.block wr.heap.size (by simp)).trans hbk), (hzi.kept (Nat.le_of_eq put4_size.symm) fun q h1 _ _ => put4_old (by omega)).widen (Nat.zero_le _) (Nat.le_of_eq put4_size.symm), hzv, (s_put4 hN Q1.out (by omega)).2⟩
      case rest =>
        obtain ⟨g, z, rfl, rfl, hgb, hz, hzv, hbc⟩ := hcut
        obtain ⟨W5, hW5⟩ : ∃ W5, W5 = wc := ⟨_, rfl⟩
        subst hW5
        have J5 := Lib.hid (tri_step HBR.out hbc (Nat.le_refl _))
        have hG2 := fun W (h : Below W5.heap.size W5 W) => HG2 W (below_via (below_via K4.out J5.out) h)
        have HGB := Lib.hid hgb
        have HZ := Lib.hid hz
        have HZV := Lib.hid hzv
        clear hgb hz hzv hbc HG1 hG1
        clear q0 q1 q2 q3 p0 p1 p2 p3 t0 t1 i1 i2 i3 hN
        obtain ⟨q0, q1, q2, q3, p0, p1, p2, p3, t0, t1⟩ := F W5 J5.out
        have i1 : w.heap.size < W5.heap.size := by have := J5.out.size; omega
        have i2 : w.heap.size + 1 < W5.heap.size := by have := J5.out.size; omega
        have i3 : b < W5.heap.size := by have := J5.out.size; omega
        have hN : W5.heap.size ≤ W5.heap.size := Nat.le_refl _
        go_wp2_with fail
        go_cut [10, 11] (fun s6 s7 wx => ∃ g z, s6 = .pointer (some ⟨g, 0, none⟩) ∧ s7 = .bool true ∧ wx.heap[g]? = some (.cells #[.int .u8 z.k, .string z.t, .slice z.la z.l.length z.lc, .slice z.ka z.ks.length z.kc] 26 (0, 0)) ∧ Rd wx z ∧ z.v = v2 ∧ Below W5.heap.size W5 wx)
        case first =>
          go_region_held3 (fun w' => (∀ b o, b < W5.heap.size → w'.cell? ⟨b, o, none⟩ = W5.cell? ⟨b, o, none⟩) ∧ Below W5.heap.size W5 w')
            (first
              | (with_reducible exact Q1.out)
              | (with_reducible exact s_alloc hN Q1.out _)
              | (with_reducible exact s_put4 hN Q1.out (by omega))
              | (with_reducible exact s_alloc0 hN _)
              | (with_reducible refine s_alloc hN (by assumption) _)
              | exact ⟨fun _ _ _ => rfl, (Below.refl _ _).drew⟩)
            (first
              | (go_at_call 17; refine (hG2 _ (s_bel (by assumption))).out.mono ?_; rintro e w6 ⟨z, rfl, hzv, hzi, hb6⟩; have Q1 := Lib.hid (s_step hN (by assumption) hb6)
                 obtain ⟨bs1, bs2⟩ := bcell hb6
                 have hss := hb6.size
                 try simp only [World.size_drew, World.size_alloc] at hss
                 first | (have l1 : W5.heap.size < w6.heap.size := by omega) | skip))
          all_goals go_wp2_with fail
          all_goals go_meet
          · have hba := (Below.refl w6.heap.size w6).alloc (Nat.le_refl _) (.cells #[.int .u8 z.k, .string z.t, .slice z.la z.l.length z.lc, .slice z.ka z.ks.length z.kc] 26)
            exact ⟨w6.heap.size, z, rfl, rfl, heap_alloc_new w6 _, Rd.up (hzi.widen (Nat.zero_le _) (Nat.le_refl _)) hba, hzv, (s_alloc hN Q1.out _).2⟩
          · simp only [World.size_drew, World.size_alloc] at hzi
            have hbk := heap_alloc_new W5 (.cells #[.int .u8 0, .string ⟨#[]⟩, .slice none 0 0, .slice none 0 0] 26)
            exact ⟨W5.heap.size, z, rfl, rfl, put4_box ((hb6.block W5.heap.size (by simp)).trans hbk), (hzi.kept (Nat.le_of_eq put4_size.symm) fun q h1 _ _ => put4_old (by omega)).widen (Nat.zero_le _) (Nat.le_of_eq put4_size.symm), hzv, (s_put4 hN Q1.out (by omega)).2⟩
        case rest =>
          obtain ⟨g2, z2, rfl, rfl, hgb2, hz2, hzv2, hbc⟩ := hcut
          obtain ⟨W6, hW6⟩ : ∃ W6, W6 = wc := ⟨_, rfl⟩
          subst hW6
          have J6 := Lib.hid (tri_step J5.out hbc (Nat.le_refl _))
          have hG3 := fun W (h : Below W6.heap.size W6 W) => HG3 W (below_via (below_via K4.out J6.out) h)
          have HGB2 := Lib.hid hgb2
          have HZ2 := Lib.hid hz2
          have HZV2 := Lib.hid hzv2
          have B6 := Lib.hid hbc
          clear hgb2 hz2 hzv2 hbc HG2 hG2
          clear q0 q1 q2 q3 p0 p1 p2 p3 t0 t1 i1 i2 i3 hN
          obtain ⟨q0, q1, q2, q3, p0, p1, p2, p3, t0, t1⟩ := F W6 J6.out
          have i1 : w.heap.size < W6.heap.size := by have := J6.out.size; omega
          have i2 : w.heap.size + 1 < W6.heap.size := by have := J6.out.size; omega
          have i3 : b < W6.heap.size := by have := J6.out.size; omega
          have hN : W6.heap.size ≤ W6.heap.size := Nat.le_refl _
          go_wp2_with fail
          go_cut [13] (fun s7 wx => s7 = .bool false ∧ Below W6.heap.size W6 wx)
          case first =>
            go_region_held3 (fun w' => (∀ b o, b < W6.heap.size → w'.cell? ⟨b, o, none⟩ = W6.cell? ⟨b, o, none⟩) ∧ Below W6.heap.size W6 w')
              (first
                | (with_reducible exact Q1.out)
                | (with_reducible exact s_alloc hN Q1.out _)
                | (with_reducible exact s_put4 hN Q1.out (by omega))
                | (with_reducible exact s_alloc0 hN _)
                | (with_reducible refine s_alloc hN (by assumption) _)
                | exact ⟨fun _ _ _ => rfl, (Below.refl _ _).drew⟩)
              (first
                | (go_at_call 17; refine (hG3 _ (s_bel (by assumption))).out.mono ?_; rintro e w6 ⟨rfl, hb6⟩; have Q1 := Lib.hid (s_step hN (by assumption) hb6)
                   obtain ⟨bs1, bs2⟩ := bcell hb6
                   have hss := hb6.size
                   try simp only [World.size_drew, World.size_alloc] at hss
                   first | (have l1 : W6.heap.size < w6.heap.size := by omega) | skip))
            all_goals go_wp2_with fail
            all_goals go_meet
            · exact ⟨rfl, (s_alloc hN Q1.out _).2⟩
            · exact ⟨rfl, (s_put4 hN Q1.out (by omega)).2⟩
          case rest =>
            obtain ⟨rfl, hbc⟩ := hcut
            obtain ⟨W7, hW7⟩ : ∃ W7, W7 = wc := ⟨_, rfl⟩
            subst hW7
            have J7 := Lib.hid (tri_step J6.out hbc (Nat.le_refl _))
            have hG4 := fun W (h : Below W7.heap.size W7 W) => HG4 W (below_via (below_via K4.out J7.out) h)
            have B7 := Lib.hid hbc
            clear hbc HG3 hG3
            clear q0 q1 q2 q3 p0 p1 p2 p3 t0 t1 i1 i2 i3 hN
            obtain ⟨q0, q1, q2, q3, p0, p1, p2, p3, t0, t1⟩ := F W7 J7.out
            have i1 : w.heap.size < W7.heap.size := by have := J7.out.size; omega
            have i2 : w.heap.size + 1 < W7.heap.size := by have := J7.out.size; omega
            have i3 : b < W7.heap.size := by have := J7.out.size; omega
            have hN : W7.heap.size ≤ W7.heap.size := Nat.le_refl _
            go_wp2_with fail
            go_cut [15] (fun s7 wx => s7 = .bool false ∧ Below W7.heap.size W7 wx)
            case first =>
              go_region_held3 (fun w' => (∀ b o, b < W7.heap.size → w'.cell? ⟨b, o, none⟩ = W7.cell? ⟨b, o, none⟩) ∧ Below W7.heap.size W7 w')
                (first
                  | (with_reducible exact Q1.out)
                  | (with_reducible exact s_alloc hN Q1.out _)
                  | (with_reducible exact s_put4 hN Q1.out (by omega))
                  | (with_reducible exact s_alloc0 hN _)
                  | (with_reducible refine s_alloc hN (by assumption) _)
                  | exact ⟨fun _ _ _ => rfl, (Below.refl _ _).drew⟩)
                (first
                  | (go_at_call 17; refine (hG4 _ (s_bel (by assumption))).out.mono ?_; rintro e w6 ⟨rfl, hb6⟩; have Q1 := Lib.hid (s_step hN (by assumption) hb6)
                     obtain ⟨bs1, bs2⟩ := bcell hb6
                     have hss := hb6.size
                     try simp only [World.size_drew, World.size_alloc] at hss
                     first | (have l1 : W7.heap.size < w6.heap.size := by omega) | skip))
              all_goals go_wp2_with fail
              all_goals go_meet
              · exact ⟨rfl, (s_alloc hN Q1.out _).2⟩
              · exact ⟨rfl, (s_put4 hN Q1.out (by omega)).2⟩
            case rest =>
              obtain ⟨rfl, hbc⟩ := hcut
              obtain ⟨W8, hW8⟩ : ∃ W8, W8 = wc := ⟨_, rfl⟩
              subst hW8
              have J8 := Lib.hid (tri_step J7.out hbc (Nat.le_refl _))
              have B8 := Lib.hid hbc
              clear hbc HG4 hG4
              clear q0 q1 q2 q3 p0 p1 p2 p3 t0 t1 i1 i2 i3 hN
              have J8z := Lib.hid (below_via B6.out (below_via B7.out B8.out))
              have J8z2 := Lib.hid (below_via B7.out B8.out)
              have hbz := blk_up J8z.out HGB.out
              have hbz2 := blk_up J8z2.out HGB2.out
              have hgl := lt_of_blk hbz
              have hgl2 := lt_of_blk hbz2
              obtain ⟨q0, q1, q2, q3, -, -, -, -⟩ := vbox4 hbz
              obtain ⟨p0, p1, p2, p3, -, -, -, -⟩ := vbox4 hbz2
              have hN : W8.heap.size ≤ W8.heap.size := Nat.le_refl _
              have hzw : z.w ≤ 1048576 := by show z.v.w ≤ _; rw [HZV.out]; omega
              have hzw2 : z2.w ≤ 1048576 := by show z2.v.w ≤ _; rw [HZV2.out]; omega
              have HSM := fun W (h : Below W8.heap.size W8 W) => Lib.hid (show Calls Tryd.prog 11 #[z.val, z2.val] W (Ret (.bool true) W) by
                have := same_c z z2 W ((HZ.out.up J8z.out).up h) ((HZ2.out.up J8z2.out).up h) hzw hzw2; rwa [HZV.out, HZV2.out, hsame] at this)
              have HSZ := fun W (h : Below W8.heap.size W8 W) => Lib.hid (show Calls Tryd.prog 14 #[z.val] W (Ret (.int .i64 (v.sz : Int)) W) by
                have := size_c W z ((HZ.out.up J8z.out).up h) hzw; rwa [sz_size, HZV.out] at this)
              have hs2 : decide ((v.sz : Int) < 2) = false := by rw [decide_eq_false_iff_not]; omega
              generalize v.sz = sv at *
              have HZB := Lib.hid hbz
              clear hbz hbz2
              go_wp2_with (first
                | (go_at_call 11; (with_reducible refine (HSM _ (Below.refl _ _)).out.mono ?_); rintro e wa ⟨rfl, hba⟩
                   obtain ⟨v0, v1, v2, v3, -, -, -, -⟩ := vbox4 (blk_up hba HZB.out))
                | (go_at_call 14; (with_reducible refine (HSZ _ hba).out.mono ?_); rintro e W9 ⟨rfl, hbb⟩))
              have J9 := Lib.hid (tri_step J8.out (below_via hba hbb) (Nat.le_refl _))
              have hML : 0 < M.length := by rw [← HLN.out]; omega
              obtain ⟨b2, off2, hA2, -, -, hbl2, -, -⟩ := ren_at HS2.out (List.getElem?_eq_getElem hML)
              have hMl : M.length ≤ 1048576 := by rw [← HLN.out]; exact hl1
              have hW49 := J9.out.size
              subst hA2
              clear q0 q1 q2 q3 p0 p1 p2 p3 v0 v1 v2 v3 hN HSM HSZ hgl hgl2 hs2 hba hbb hzw hzw2
              go_loopw [16, 17] (fun s16 s17 wi => ∃ k : Nat, k ≤ M.length ∧ s16 = .bool ((M.take k).any fun q => decide (q = (t, f))) ∧ s17 = .int .i64 k ∧ Below W9.heap.size W9 wi) (fun _ s17 _ => M.length - (intOf s17).toNat)
              case atStart => exact ⟨0, Nat.zero_le _, by simp, rfl, Below.refl _ _⟩
              case round =>
                obtain ⟨k, hkl, rfl, rfl, hbi⟩ := hrel
                have JI := tri_step J9.out hbi (Nat.le_refl _)
                have hsi := hbi.size
                by_cases hkM : k < M.length
                · have hk' := List.getElem?_eq_getElem hkM
                  have hkM' : (k : Int) < (M.length : Int) := by omega
                  have hkL : k < L.length := by rw [HLN.out]; exact hkM
                  have hkL' : (k : Int) < (L.length : Int) := by omega
                  have hk2 := List.getElem?_eq_getElem hkL
                  have hk0 : (0 : Int) ≤ (k : Int) := by omega
                  have hm0 : (0 : Int) ≤ (m : Int) := by omega
                  have hT := List.take_add_one (l := M) (i := k)
                  rw [hk'] at hT
                  generalize M[k] = pk at hk' hT
                  generalize L[k] = lk at hk2
                  obtain ⟨bq, oq, eq, -, -, -, u0, u1⟩ := ren_at HS2.out hk'
                  cases eq
                  obtain ⟨b3, o3, eq3, -, -, -, v0, v1⟩ := ren_at HS1.out hk2
                  have eq4 := HKA.out.symm.trans eq3
                  cases eq4
                  obtain ⟨-, -, -, -, -, -, -, -, t0, t1⟩ := F _ JI
                  have HV0 := Lib.hid v0
                  have HV1 := Lib.hid v1
                  have u0 := (JI.cell (p := ⟨_, _, none⟩) hbl2).trans u0
                  have u1 := (JI.cell (p := ⟨_, _, none⟩) hbl2).trans u1
                  have v0 := (JI.cell (p := ⟨_, _, none⟩) hbl).trans v0
                  have v1 := (JI.cell (p := ⟨_, _, none⟩) hbl).trans v1
                  have htwo : k < m → lk.1 ≠ f ∧ lk.2 ≠ t := fun h => ofV_two (by rw [← HLL.out]; exact hk2) (by rw [← HLL.out]; exact HK.out) h
                  obtain ⟨mf, mt⟩ := pk
                  obtain ⟨lf, lt⟩ := lk
                  have heq : ∀ W, (binOp .eql 39 (.agg #[.string mf, .string mt]) (.agg #[.string t, .string f])).run Tryd.prog W = .ok (.bool (decide ((mf, mt) = (t, f)))) W := fun W => eql_ren W (mf, mt) (t, f)
                  have hstep : ((M.take (k + 1)).any fun q => decide (q = (t, f))) = (((M.take k).any fun q => decide (q = (t, f))) || decide ((mf, mt) = (t, f))) := by
                    rw [hT, List.any_append]
                    simp
                  generalize ((M.take k).any fun q => decide (q = (t, f))) = d1 at *
                  generalize decide ((mf, mt) = (t, f)) = d2 at *
                  have HST := Lib.hid hstep
                  have HBI := Lib.hid hbi
                  have hW9i := JI.size
                  clear hT hk' hk2 hstep eq3 JI
                  go_wp2_with fail
                  go_cut [16] (fun s16 wx => s16 = .bool (d1 || d2) ∧ Below W9.heap.size W9 wx)
                  case first =>
                    cases d1 <;> cases d2
                    all_goals go_quiet (fail)
                    all_goals go_wp2_with fail
                    all_goals go_meet
                    all_goals exact ⟨rfl, below_drewN HBI.out _⟩
                  case rest =>
                    obtain ⟨rfl, hbc⟩ := hcut
                    have JC := tri_step J9.out hbc (Nat.le_refl _)
                    have hsc := JC.size
                    clear u0 u1 v0 v1 t0 t1
                    obtain ⟨-, -, -, -, -, -, -, -, t0, t1⟩ := F _ JC
                    have v0 := (JC.cell (p := ⟨_, _, none⟩) hbl).trans HV0.out
                    have v1 := (JC.cell (p := ⟨_, _, none⟩) hbl).trans HV1.out
                    have HBC := Lib.hid hbc
                    have hbw : b < wc.heap.size := by omega
                    clear hbc JC
                    rw [← HST.out]
                    obtain ⟨d3, hd3⟩ : ∃ d3, d3 = ((M.take (k + 1)).any fun q => decide (q = (t, f))) := ⟨_, rfl⟩
                    rw [← hd3]
                    have HD3 := Lib.hid hd3
                    clear hd3
                    by_cases hkm : k < m
                    · obtain ⟨n1, n2⟩ := htwo hkm
                      have hkm' : (k : Int) < (m : Int) := by omega
                      have hkd : decide ((k : Int) < (m : Int)) = true := decide_eq_true hkm'
                      have e1 : (lf.toList == f.toList) = false := by rw [str_beq]; exact decide_eq_false n1
                      have e2 : (lt.toList == t.toList) = false := by rw [str_beq]; exact decide_eq_false n2
                      have e3 : decide (lf = f) = false := decide_eq_false n1
                      have e4 : decide (lt = t) = false := decide_eq_false n2
                      clear htwo n1 n2
                      go_wp2_with fail
                      go_quiet (fail)
                      go_wp2_with fail
                      exact ⟨⟨k + 1, by omega, by rw [HD3.out], by go_num, below_drewN HBC.out _⟩, by simp [intOf]; omega⟩
                    · have hkm' : ¬ (k : Int) < (m : Int) := by omega
                      have hkd : decide ((k : Int) < (m : Int)) = false := decide_eq_false hkm'
                      clear htwo
                      go_wp2_with fail
                      go_quiet (fail)
                      go_wp2_with fail
                      exact ⟨⟨k + 1, by omega, by rw [HD3.out], by go_num, below_drewN HBC.out _⟩, by simp [intOf]; omega⟩
                · obtain rfl : k = M.length := by omega
                  have hge : ¬ (M.length : Int) < (M.length : Int) := by omega
                  have hd : ((M.take M.length).any fun q => decide (q = (t, f))) = true := by rw [List.take_length]; exact List.any_eq_true.2 ⟨(t, f), HTN.out, decide_eq_true rfl⟩
                  rw [hd]
                  clear hd
                  go_wp2_with fail
                  exact ⟨⟨m + 1, by omega, by go_num, JI⟩, by simp [intOf]; omega⟩
    · obtain rfl : m = L.length := by omega
      have hge : ¬ (L.length : Int) < (L.length : Int) := by omega
      go_wp2_with (go_at_call 15; refine (HL _ (below_via K4.out hbr)).out.mono ?_; rintro e w9 ⟨rfl, hb9⟩)
      go_ret
      exact ⟨rfl, below_via (below_via K4.out hbr) hb9⟩
end Go.Proofs.YtcpdogjcofkpcaaDoor
