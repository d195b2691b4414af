/-
  AlikesNear's walk. Conditions: the value and the list lie in memory, weights and the length are bounded. (Printed by gen_ev.py.)
-/
import Derived.Test.YtmhkacafilpliaaEU
import Derived.Test.YtmhkacafilpliaaET
import Derived.Test.YtmhkacafilpliaaEJ
import Derived.Test.YtmhkacafilpliaaLA
namespace Go.Proofs.Ytmhkacafilpliaa
open Go.RowKit Go.Sort Go.Shelf Go.BigFrame

theorem sizeV_c (w : World) (x : AV) (hx : Rd w x) (hw : x.w ≤ 1048576) : Calls Try.prog 31 #[x.val] w (Ret (.int .i64 (szV x.v : Nat)) w) := by
  have := size_c w x hx hw
  rwa [show (if x.v.may then (x.v.size : Int) else 0) = ((szV x.v : Nat) : Int) by unfold szV; split <;> rfl] at this
theorem gr_yes {w : World} {x : AV} (h : 1500 < x.v.w) (hx : Rd w x) (hw : x.w ≤ 1048576) : Calls Try.prog 12 #[x.val] w (Ret (.bool true) w) := by
  have := great14_c x w hx hw; rwa [decide_eq_true h] at this
theorem gr_no {w : World} {x : AV} (h : ¬ 1500 < x.v.w) (hx : Rd w x) (hw : x.w ≤ 1048576) : Calls Try.prog 12 #[x.val] w (Ret (.bool false) w) := by
  have := great14_c x w hx hw; rwa [decide_eq_false h] at this
theorem may_is {w : World} {x : AV} {b : Bool} (h : x.v.may = b) (hx : Rd w x) (hw : x.w ≤ 1048576) : Calls Try.prog 30 #[x.val] w (Ret (.bool b) w) := by
  have := may_c w x hx hw; rwa [h] at this
set_option maxRecDepth 100000 in
set_option maxHeartbeats 12800000 in
theorem anear (w : World) (x : AV) (y : LA) (hx : Rd w x) (hwx : x.w ≤ 1048576) (hy : y.Rd w) : Calls Try.prog 10 #[x.val, .slice y.a y.l.length y.c] w (Ret (.bool true) w) := by
  have HRX := Lib.hid (show ∀ W, Below w.heap.size w W → Rd W x from fun W h => hx.up h)
  have HKD := Lib.hid (show ∀ z ∈ y.l, (∀ W, Below w.heap.size w W → Rd W z) ∧ z.w ≤ 1048576 from fun z hz => ⟨fun W h => (hy.kids z hz).1.up h, (hy.kids z hz).2⟩)
  have HLI := fun W => Lib.hid (lives21_c W)
  have HSL := Lib.hid hy.sl
  have hlen := hy.len
  obtain ⟨P, hP⟩ : ∃ P, P = (nearP x.v (y.l.map AV.v) (y.l.map AV.v).length).1 := ⟨_, rfl⟩
  have HN := Lib.hid (show ∀ W, Below w.heap.size w W → Calls Try.prog 40 #[x.val, .slice y.a y.l.length y.c] W (Ret (.int .i64 P) W) from fun W h => by
    have := nearest_c W x y.a y.c y.l (hy.sl.up h) hy.len (hx.up h) hwx (fun z hz => ⟨(hy.kids z hz).1.up h, (hy.kids z hz).2⟩)
    rwa [hP, List.length_map])
  have hra := near_range x.v (y.l.map AV.v)
  rw [← hP, List.length_map] at hra
  have HP := Lib.hid hP
  have HRA := Lib.hid hra
  obtain ⟨lo, hlo⟩ : ∃ lo, lo = y.a := ⟨_, rfl⟩
  clear hx hy hP hra hlo lo
  go_enter Try.func10, Try.ntmps10
  go_upto_region 1 with fail
  go_name_world W0 hW0
  have HX0 := Lib.hid (show W0.heap[w.heap.size]? = some (.cells #[.int .u8 x.k, .string x.t, .slice x.la x.l.length x.lc, .slice x.ka x.ks.length x.kc] 26 (0, 0)) by rw [← hW0]; exact heap_alloc_new w _)
  have HB0 := Lib.hid (show Below w.heap.size w W0 by rw [← hW0]; exact below_al (Below.refl _ _))
  obtain ⟨p0, p1, p2, p3⟩ := vb4 HX0.out
  clear hW0
  by_cases c1 : 1500 < x.v.w
  · have HG := Lib.hid (gr_yes c1 (HRX.out W0 HB0.out) hwx)
    clear c1
    go_wp2_with (first
      | (go_at_call 39; (with_reducible refine (HLI _).out.mono ?_); rintro e w9 ⟨rfl, h9⟩)
      | (go_at_call 12; (with_reducible refine (HG).out.mono ?_); rintro e w1 ⟨rfl, h1⟩; have HX1 := Lib.hid (blk_via h1 HX0.out); have HB1 := Lib.hid (below_via HB0.out h1); clear p0 p1 p2 p3; obtain ⟨p0, p1, p2, p3⟩ := vb4 HX1.out; clear h1))
    go_ret
    exact ⟨rfl, below_via HB1.out h9⟩
  have HG := Lib.hid (gr_no c1 (HRX.out W0 HB0.out) hwx)
  clear c1
  by_cases c2 : 8 < y.l.length
  · have c2' : (8 : Int) < (y.l.length : Int) := by omega
    go_wp2_with (first
      | (go_at_call 39; (with_reducible refine (HLI _).out.mono ?_); rintro e w9 ⟨rfl, h9⟩)
      | (go_at_call 12; (with_reducible refine (HG).out.mono ?_); rintro e w1 ⟨rfl, h1⟩; have HX1 := Lib.hid (blk_via h1 HX0.out); have HB1 := Lib.hid (below_via HB0.out h1); clear p0 p1 p2 p3; obtain ⟨p0, p1, p2, p3⟩ := vb4 HX1.out; clear h1))
    go_ret
    exact ⟨rfl, below_via HB1.out h9⟩
  have c2' : ¬ (8 : Int) < (y.l.length : Int) := by omega
  by_cases c3 : x.v.may = false
  · have HM := fun W h => Lib.hid (may_is c3 (HRX.out W h) hwx)
    clear c3
    go_wp2_with (first
      | (go_at_call 39; (with_reducible refine (HLI _).out.mono ?_); rintro e w9 ⟨rfl, h9⟩)
      | (go_at_call 30; (with_reducible refine (HM _ HB1.out).out.mono ?_); rintro e w2 ⟨rfl, h2⟩; have HX2 := Lib.hid (blk_via h2 HX1.out); have HB2 := Lib.hid (below_via HB1.out h2); clear p0 p1 p2 p3; obtain ⟨p0, p1, p2, p3⟩ := vb4 HX2.out; clear h2)
      | (go_at_call 12; (with_reducible refine (HG).out.mono ?_); rintro e w1 ⟨rfl, h1⟩; have HX1 := Lib.hid (blk_via h1 HX0.out); have HB1 := Lib.hid (below_via HB0.out h1); clear p0 p1 p2 p3; obtain ⟨p0, p1, p2, p3⟩ := vb4 HX1.out; clear h1))
    go_ret
    exact ⟨rfl, below_via HB2.out h9⟩
  have c3' : x.v.may = true := by simpa using c3
  have HM := fun W h => Lib.hid (may_is c3' (HRX.out W h) hwx)
  have HMX := Lib.hid c3'
  clear c3 c3'
  go_upto_region 4 with (first
      | (go_at_call 40; (with_reducible refine (Lib.hid (HN.out _ HB2.out)).out.mono ?_); rintro e w3 ⟨rfl, h3⟩; have HX3 := Lib.hid (blk_via h3 HX2.out); have HB3 := Lib.hid (below_via HB2.out h3); clear p0 p1 p2 p3; obtain ⟨p0, p1, p2, p3⟩ := vb4 HX3.out; clear h3)
      | (go_at_call 30; (with_reducible refine (HM _ HB1.out).out.mono ?_); rintro e w2 ⟨rfl, h2⟩; have HX2 := Lib.hid (blk_via h2 HX1.out); have HB2 := Lib.hid (below_via HB1.out h2); clear p0 p1 p2 p3; obtain ⟨p0, p1, p2, p3⟩ := vb4 HX2.out; clear h2)
      | (go_at_call 12; (with_reducible refine (HG).out.mono ?_); rintro e w1 ⟨rfl, h1⟩; have HX1 := Lib.hid (blk_via h1 HX0.out); have HB1 := Lib.hid (below_via HB0.out h1); clear p0 p1 p2 p3; obtain ⟨p0, p1, p2, p3⟩ := vb4 HX1.out; clear h1))
  have hP1 : decide (P < -1) = false := decide_eq_false (by have := HRA.out; omega)
  have hP2 : decide ((y.l.length : Int) ≤ P) = false := decide_eq_false (by have := HRA.out; omega)
  clear HG HM p0 p1 p2 p3
  go_wp2_with fail
  clear hP1 hP2
  go_loopw [6] (fun s6 wr => ∃ k : Nat, k ≤ y.l.length ∧ s6 = .int .i64 (k : Int) ∧ Hid (Below w.heap.size w wr) ∧ Hid (wr.heap[w.heap.size]? = some (.cells #[.int .u8 x.k, .string x.t, .slice x.la x.l.length x.lc, .slice x.ka x.ks.length x.kc] 26 (0, 0)))) (fun s6 _ => y.l.length - (intOf s6).toNat)
  case atStart => exact ⟨0, Nat.zero_le _, rfl, HB3, HX3⟩
  case round =>
    obtain ⟨k, hk, rfl, HBR, HXR⟩ := hrel
    by_cases hlt : k < y.l.length
    · have hks : y.l[k]? = some y.l[k] := List.getElem?_eq_getElem hlt
      generalize y.l[k] = z at *
      have hlt' : (k : Int) < (y.l.length : Int) := by omega
      have hk0 : (0 : Int) ≤ (k : Int) := by omega
      have HKS := Lib.hid hks
      obtain ⟨b, off, hla, -, -, hbw, -⟩ := vals_at HSL.out hks
      have HBW := Lib.hid hbw
      have HCL := Lib.hid (show ∀ W, Below w.heap.size w W → ∀ j u, y.l[j]? = some u → W.cell? ⟨b, off + j * 4, none⟩ = some (.int .u8 u.k) ∧ W.cell? ⟨b, off + j * 4 + 1, none⟩ = some (.string u.t) ∧ W.cell? ⟨b, off + j * 4 + 2, none⟩ = some (.slice u.la u.l.length u.lc) ∧ W.cell? ⟨b, off + j * 4 + 3, none⟩ = some (.slice u.ka u.ks.length u.kc) from fun W h j u hu => by
        obtain ⟨b', off', hla', -, -, hb', c0, c1, c2, c3⟩ := vals_at HSL.out hu
        rw [hla] at hla'
        injection hla' with hla'
        injection hla' with e1 e2
        subst e1
        subst e2
        exact ⟨blkv h c0, blkv h c1, blkv h c2, blkv h c3⟩)
      obtain ⟨c0, c1, c2, c3⟩ := HCL.out wr HBR.out k z hks
      have HRZ := Lib.hid (HKD.out z (List.mem_of_getElem? hks)).1
      have hwz := (HKD.out z (List.mem_of_getElem? hks)).2
      rw [hla] at HN ⊢
      clear hla hbw hks
      go_upto_region 10 with fail
      go_name_world W3 hW3
      obtain ⟨BZ1, hBZ⟩ : ∃ BZ1, BZ1 = wr.heap.size := ⟨_, rfl⟩
      have HX4 := Lib.hid (show W3.heap[w.heap.size]? = some (.cells #[.int .u8 x.k, .string x.t, .slice x.la x.l.length x.lc, .slice x.ka x.ks.length x.kc] 26 (0, 0)) by rw [← hW3]; exact blk_al HXR.out)
      have HZ4 := Lib.hid (show W3.heap[BZ1]? = some (.cells #[.int .u8 z.k, .string z.t, .slice z.la z.l.length z.lc, .slice z.ka z.ks.length z.kc] 26 (0, 0)) by rw [← hW3, hBZ]; exact heap_alloc_new wr _)
      have HB4 := Lib.hid (show Below w.heap.size w W3 by rw [← hW3]; exact below_al HBR.out)
      rw [← hBZ]
      obtain ⟨p0, p1, p2, p3⟩ := vb4 HX4.out
      obtain ⟨q0, q1, q2, q3⟩ := vb4 HZ4.out
      clear hW3 hBZ c0 c1 c2 c3
      have LD := Lib.hid (fun W (h : Below W3.heap.size W3 W) => And.intro (blkv h p0) (And.intro (blkv h p1) (And.intro (blkv h p2) (And.intro (blkv h p3) (And.intro (blkv h q0) (And.intro (blkv h q1) (And.intro (blkv h q2) (blkv h q3))))))))
      by_cases g1 : 1500 < z.v.w
      · have HH1 := fun W (h : Below W3.heap.size W3 W) => Lib.hid (gr_yes g1 (HRZ.out W (below_via HB4.out h)) hwz)
        clear g1 p0 p1 p2 p3 q0 q1 q2 q3
        refine wp_region_bl (by kernel_rfl) (by kernel_rfl) ?_
        repeat (first | go_big_quiet_skip | (go_big_quiet_want; go_big_quiet_op; first | go_big_quiet_on | (refine ⟨_, fun _ _ => (by with_reducible rfl), ?_⟩; go_big_quiet_on) | (apply Exists.intro; refine ⟨fun w' hC => (by simp only [LD.out w' hC, Result.andThen]; exact ⟨trivial, rfl⟩), ?_⟩; go_big_quiet_on) | (apply Exists.intro; refine ⟨fun w' hC => (by (with_reducible refine (HH1 w' hC).out.mono ?_); exact fun e w2 ⟨he, hb⟩ => ⟨he, hC.trans (hb.mono hC.size)⟩), ?_⟩; go_big_quiet_on)))
        refine wpQuiet_nil ?_; intro wz hbz
        go_wp2_with (go_at_call 39; (with_reducible refine (HLI _).out.mono ?_); rintro e w9 ⟨rfl, h9⟩)
        go_ret
        exact ⟨rfl, below_via (below_via HB4.out hbz) h9⟩
      have HH1 := fun W (h : Below W3.heap.size W3 W) => Lib.hid (gr_no g1 (HRZ.out W (below_via HB4.out h)) hwz)
      obtain ⟨N, hN⟩ : ∃ N, N = szV x.v := ⟨_, rfl⟩
      obtain ⟨M, hM⟩ : ∃ M, M = szV z.v := ⟨_, rfl⟩
      have HSX := Lib.hid (show ∀ W, Below w.heap.size w W → Calls Try.prog 31 #[x.val] W (Ret (.int .i64 (N : Nat)) W) from fun W h => by rw [hN]; exact sizeV_c W x (HRX.out W h) hwx)
      have HSZ := Lib.hid (show ∀ W, Below w.heap.size w W → Calls Try.prog 31 #[z.val] W (Ret (.int .i64 (M : Nat)) W) from fun W h => by rw [hM]; exact sizeV_c W z (HRZ.out W h) hwz)
      have bN : N ≤ 1048576 := by have := szV_le x.v; have e : x.v.w = x.w := rfl; omega
      have bM : M ≤ 1048576 := by have := szV_le z.v; have e : z.v.w = z.w := rfl; omega
      have HNM := Lib.hid (And.intro hN hM)
      have hNM : N * M ≤ 1048576 * 1048576 := Nat.mul_le_mul bN bM
      have hNM2 : (N : Int) * (M : Int) = ((N * M : Nat) : Int) := by simp
      have hw1 : IntKind.i64.wrap ((N : Int) * (M : Int)) = (N : Int) * (M : Int) := IntWalk.i64_in _ (by rw [hNM2]; omega)
      have HH2 := fun W (h : Below W3.heap.size W3 W) => Lib.hid (HSX.out W (below_via HB4.out h))
      have HH3 := fun W (h : Below W3.heap.size W3 W) => Lib.hid (HSZ.out W (below_via HB4.out h))
      clear g1 hN hM
      by_cases g2 : 4096 < N * M
      · have g2' : decide ((4096 : Int) < (N : Int) * (M : Int)) = true := decide_eq_true (by rw [hNM2]; omega)
        clear p0 p1 p2 p3 q0 q1 q2 q3 hNM hNM2 g2
        refine wp_region_bl (by kernel_rfl) (by kernel_rfl) ?_
        repeat (first | go_big_quiet_skip | (go_big_quiet_want; go_big_quiet_op; first | go_big_quiet_on | (refine ⟨_, fun _ _ => (by with_reducible rfl), ?_⟩; go_big_quiet_on) | (apply Exists.intro; refine ⟨fun w' hC => (by simp only [LD.out w' hC, Result.andThen]; exact ⟨trivial, rfl⟩), ?_⟩; go_big_quiet_on) | (apply Exists.intro; refine ⟨fun w' hC => (by (with_reducible refine (HH1 w' hC).out.mono ?_); exact fun e w2 ⟨he, hb⟩ => ⟨he, hC.trans (hb.mono hC.size)⟩), ?_⟩; go_big_quiet_on) | (apply Exists.intro; refine ⟨fun w' hC => (by (with_reducible refine (HH2 w' hC).out.mono ?_); exact fun e w2 ⟨he, hb⟩ => ⟨he, hC.trans (hb.mono hC.size)⟩), ?_⟩; go_big_quiet_on) | (apply Exists.intro; refine ⟨fun w' hC => (by (with_reducible refine (HH3 w' hC).out.mono ?_); exact fun e w2 ⟨he, hb⟩ => ⟨he, hC.trans (hb.mono hC.size)⟩), ?_⟩; go_big_quiet_on)))
        refine wpQuiet_nil ?_; intro wz hbz
        go_wp2_with (go_at_call 39; (with_reducible refine (HLI _).out.mono ?_); rintro e w9 ⟨rfl, h9⟩)
        go_ret
        exact ⟨rfl, below_via (below_via HB4.out hbz) h9⟩
      have g2' : decide ((4096 : Int) < (N : Int) * (M : Int)) = false := decide_eq_false (by rw [hNM2]; omega)
      have HG2 := Lib.hid g2
      clear p0 p1 p2 p3 q0 q1 q2 q3 hNM hNM2 g2
      refine wp_region_bl (by kernel_rfl) (by kernel_rfl) ?_
      repeat (first | go_big_quiet_skip | (go_big_quiet_want; go_big_quiet_op; first | go_big_quiet_on | (refine ⟨_, fun _ _ => (by with_reducible rfl), ?_⟩; go_big_quiet_on) | (apply Exists.intro; refine ⟨fun w' hC => (by simp only [LD.out w' hC, Result.andThen]; exact ⟨trivial, rfl⟩), ?_⟩; go_big_quiet_on) | (apply Exists.intro; refine ⟨fun w' hC => (by (with_reducible refine (HH1 w' hC).out.mono ?_); exact fun e w2 ⟨he, hb⟩ => ⟨he, hC.trans (hb.mono hC.size)⟩), ?_⟩; go_big_quiet_on) | (apply Exists.intro; refine ⟨fun w' hC => (by (with_reducible refine (HH2 w' hC).out.mono ?_); exact fun e w2 ⟨he, hb⟩ => ⟨he, hC.trans (hb.mono hC.size)⟩), ?_⟩; go_big_quiet_on) | (apply Exists.intro; refine ⟨fun w' hC => (by (with_reducible refine (HH3 w' hC).out.mono ?_); exact fun e w2 ⟨he, hb⟩ => ⟨he, hC.trans (hb.mono hC.size)⟩), ?_⟩; go_big_quiet_on)))
      refine wpQuiet_nil ?_; intro wz hbz
      have HX5 := Lib.hid (blk_via hbz HX4.out)
      have HZ5 := Lib.hid (blk_via hbz HZ4.out)
      have HB5 := Lib.hid (below_via HB4.out hbz)
      obtain ⟨p0, p1, p2, p3⟩ := vb4 HX5.out
      obtain ⟨q0, q1, q2, q3⟩ := vb4 HZ5.out
      clear hbz LD HH1 HH2 HH3 hw1 g2' HX4 HZ4
      obtain ⟨ia, hia⟩ : ∃ ia, ia = (nearI x.v z.v != -1) := ⟨_, rfl⟩
      have HAR := fun W (h : Below w.heap.size w W) => Lib.hid (show Calls Try.prog 41 #[x.val, z.val] W (Ret (.bool ia) W) by rw [hia]; exact are21_c W x z (HRX.out W h) (HRZ.out W h) hwx hwz)
      have HIA := Lib.hid hia
      have HKV := Lib.hid (show (y.l.map AV.v)[k]? = some z.v by rw [List.getElem?_map, HKS.out]; rfl)
      clear hia
      cases hm : z.v.may with
      | false =>
        have HM := fun W h => Lib.hid (may_is hm (HRZ.out W h) hwz)
        have hf : ia = false := by rw [HIA.out, near_bad hm]; rfl
        subst hf
        have hne : (P == (k : Int)) = false := by
          rw [beq_eq_false_iff_ne]
          intro e
          exact near_at HKV.out (by rw [← HP.out]; exact e) (near_bad hm)
        clear hm HN
        go_wp2_with (first
          | (go_at_call 30; (with_reducible refine (HM _ HB6.out).out.mono ?_); rintro e w7 ⟨rfl, h7⟩; have HX7 := Lib.hid (blk_via h7 HX6.out); have HB7 := Lib.hid (below_via HB6.out h7); have HZ7 := Lib.hid (blk_via h7 HZ6.out); clear p0 p1 p2 p3; obtain ⟨p0, p1, p2, p3⟩ := vb4 HX7.out; clear q0 q1 q2 q3; obtain ⟨q0, q1, q2, q3⟩ := vb4 HZ7.out; clear h7)
          | (go_at_call 41; (with_reducible refine (HAR _ HB5.out).out.mono ?_); rintro e w6 ⟨rfl, h6⟩; have HX6 := Lib.hid (blk_via h6 HX5.out); have HB6 := Lib.hid (below_via HB5.out h6); have HZ6 := Lib.hid (blk_via h6 HZ5.out); clear p0 p1 p2 p3; obtain ⟨p0, p1, p2, p3⟩ := vb4 HX6.out; clear q0 q1 q2 q3; obtain ⟨q0, q1, q2, q3⟩ := vb4 HZ6.out; clear h6))
        exact ⟨⟨k + 1, by omega, by go_num, HB7, HX7⟩, by simp [intOf]; omega⟩
      | true =>
        have HM := fun W h => Lib.hid (may_is hm (HRZ.out W h) hwz)
        obtain ⟨d, hd⟩ : ∃ d, d = farV x.v z.v := ⟨_, rfl⟩
        have hnf := near_facts HMX.out hm (by rw [← HNM.out.1, ← HNM.out.2]; have := HG2.out; omega)
        rw [← HIA.out, ← HNM.out.1, ← HNM.out.2, ← hd] at hnf
        have HFA := fun W (h : Below w.heap.size w W) => Lib.hid (show Calls Try.prog 26 #[x.val, z.val] W (Ret (.int .i64 (d : Nat)) W) by rw [← hnf.1]; exact far_c W x z (HRX.out W h) (HRZ.out W h) hwx hwz)
        have HNF := Lib.hid hnf.2
        have bd : d ≤ 2097152 := by
          have := farV_lt HMX.out hm
          have e1 := szV_posm HMX.out
          have e2 := (szV_may (a := x.v) (by omega)).2
          have e3 := szV_posm hm
          have e4 := (szV_may (a := z.v) (by omega)).2
          have := HNM.out
          omega
        have HAS := Lib.hid (fun h => near_asks HMX.out hm (by rw [← HNM.out.1, ← HNM.out.2]; have := HG2.out; omega) HKV.out h)
        rw [← HP.out, ← hd] at HAS
        have HAT := Lib.hid (show P = (k : Int) → ia = true by
          intro e
          rw [HIA.out, bne_iff_ne]
          exact near_at HKV.out (by rw [← HP.out]; exact e))
        clear hnf hm hd HN
        go_upto_region 17 with (first
          | (go_at_call 26; (with_reducible refine (HFA _ HB7.out).out.mono ?_); rintro e w8 ⟨rfl, h8⟩; have HX8 := Lib.hid (blk_via h8 HX7.out); have HB8 := Lib.hid (below_via HB7.out h8); have HZ8 := Lib.hid (blk_via h8 HZ7.out); clear p0 p1 p2 p3; obtain ⟨p0, p1, p2, p3⟩ := vb4 HX8.out; clear q0 q1 q2 q3; obtain ⟨q0, q1, q2, q3⟩ := vb4 HZ8.out; clear h8)
          | (go_at_call 30; (with_reducible refine (HM _ HB6.out).out.mono ?_); rintro e w7 ⟨rfl, h7⟩; have HX7 := Lib.hid (blk_via h7 HX6.out); have HB7 := Lib.hid (below_via HB6.out h7); have HZ7 := Lib.hid (blk_via h7 HZ6.out); clear p0 p1 p2 p3; obtain ⟨p0, p1, p2, p3⟩ := vb4 HX7.out; clear q0 q1 q2 q3; obtain ⟨q0, q1, q2, q3⟩ := vb4 HZ7.out; clear h7)
          | (go_at_call 41; (with_reducible refine (HAR _ HB5.out).out.mono ?_); rintro e w6 ⟨rfl, h6⟩; have HX6 := Lib.hid (blk_via h6 HX5.out); have HB6 := Lib.hid (below_via HB5.out h6); have HZ6 := Lib.hid (blk_via h6 HZ5.out); clear p0 p1 p2 p3; obtain ⟨p0, p1, p2, p3⟩ := vb4 HX6.out; clear q0 q1 q2 q3; obtain ⟨q0, q1, q2, q3⟩ := vb4 HZ6.out; clear h6))
        clear HM HAR HFA
        obtain ⟨kb, hkb⟩ : ∃ kb, kb = kindB x.v z.v := ⟨_, rfl⟩
        rw [← hkb] at HNF
        have e1 : kb = (decide (x.k = z.k) && (decide (x.k = 7) || decide (x.k = 8))) := by rw [hkb, kindB, AV.v_k, AV.v_k]
        clear hkb
        go_cut [10] (fun s10 wx => s10 = .bool kb ∧ wx = w8)
        case first =>
          by_cases t1 : x.k = z.k
          · have t1' : (x.k == z.k) = true := by simp [t1]
            by_cases t7 : x.k = 7
            · rw [decide_eq_true t1, decide_eq_true t7] at e1
              have t7' : (x.k == 7) = true := by simp [t7]
              clear t1 t7
              go_wp2_with fail
              go_meet
              exact ⟨by rw [e1]; rfl, rfl⟩
            · have t7' : (x.k == 7) = false := by simp [t7]
              by_cases t8 : x.k = 8
              · rw [decide_eq_true t1, decide_eq_false t7, decide_eq_true t8] at e1
                have t8' : (x.k == 8) = true := by simp [t8]
                clear t1 t7 t8
                go_wp2_with fail
                go_meet
                exact ⟨by rw [e1]; rfl, rfl⟩
              · rw [decide_eq_true t1, decide_eq_false t7, decide_eq_false t8] at e1
                have t8' : (x.k == 8) = false := by simp [t8]
                clear t1 t7 t8
                go_wp2_with fail
                go_meet
                exact ⟨by rw [e1]; rfl, rfl⟩
          · rw [decide_eq_false t1] at e1
            have t1' : (x.k == z.k) = false := by simp [t1]
            clear t1
            go_wp2_with fail
            go_meet
            exact ⟨by rw [e1]; rfl, rfl⟩
        case rest =>
          obtain ⟨rfl, e8⟩ := hcut
          obtain rfl := e8.symm
          clear e1
          have LD := Lib.hid (fun W (h : Below w8.heap.size w8 W) => And.intro (blkv h p0) (And.intro (blkv h p1) (And.intro (blkv h p2) (And.intro (blkv h p3) (And.intro (blkv h q0) (And.intro (blkv h q1) (And.intro (blkv h q2) (blkv h q3))))))))
          clear p0 p1 p2 p3 q0 q1 q2 q3
          go_upto_region 18 with fail
          go_cut [102] (fun s102 wx => s102 = .bool false ∧ Hid (Below w8.heap.size w8 wx))
          case first =>
            have HH2 := fun W (h : Below w8.heap.size w8 W) => Lib.hid (HSX.out W (below_via HB8.out h))
            have HH3 := fun W (h : Below w8.heap.size w8 W) => Lib.hid (HSZ.out W (below_via HB8.out h))
            by_cases d0 : d = 0
            · have hia : ia = true := by rw [HNF.out, decide_eq_true d0]; rfl
              have d0' : ((d : Int) == 0) = true := by simp [d0]
              subst hia
              clear d0
              refine wp_region_bl (by kernel_rfl) (by kernel_rfl) ?_
              repeat (first | go_big_quiet_skip | (go_big_quiet_want; go_big_quiet_op; first | go_big_quiet_on | (refine ⟨_, fun _ _ => (by with_reducible rfl), ?_⟩; go_big_quiet_on) | (apply Exists.intro; refine ⟨fun w' hC => (by simp only [LD.out w' hC, Result.andThen]; exact ⟨trivial, rfl⟩), ?_⟩; go_big_quiet_on) | (apply Exists.intro; refine ⟨fun w' hC => (by (with_reducible refine (HH2 w' hC).out.mono ?_); exact fun e w2 ⟨he, hb⟩ => ⟨he, hC.trans (hb.mono hC.size)⟩), ?_⟩; go_big_quiet_on) | (apply Exists.intro; refine ⟨fun w' hC => (by (with_reducible refine (HH3 w' hC).out.mono ?_); exact fun e w2 ⟨he, hb⟩ => ⟨he, hC.trans (hb.mono hC.size)⟩), ?_⟩; go_big_quiet_on)))
              refine wpQuiet_nil ?_; intro wz hbz
              go_wp2_with fail
              go_meet
              exact ⟨rfl, Lib.hid hbz⟩
            have d0' : ((d : Int) == 0) = false := by simp [d0]
            cases kb with
            | false =>
              have hia : ia = false := by rw [HNF.out, decide_eq_false d0]; rfl
              subst hia
              clear d0
              refine wp_region_bl (by kernel_rfl) (by kernel_rfl) ?_
              repeat (first | go_big_quiet_skip | (go_big_quiet_want; go_big_quiet_op; first | go_big_quiet_on | (refine ⟨_, fun _ _ => (by with_reducible rfl), ?_⟩; go_big_quiet_on) | (apply Exists.intro; refine ⟨fun w' hC => (by simp only [LD.out w' hC, Result.andThen]; exact ⟨trivial, rfl⟩), ?_⟩; go_big_quiet_on) | (apply Exists.intro; refine ⟨fun w' hC => (by (with_reducible refine (HH2 w' hC).out.mono ?_); exact fun e w2 ⟨he, hb⟩ => ⟨he, hC.trans (hb.mono hC.size)⟩), ?_⟩; go_big_quiet_on) | (apply Exists.intro; refine ⟨fun w' hC => (by (with_reducible refine (HH3 w' hC).out.mono ?_); exact fun e w2 ⟨he, hb⟩ => ⟨he, hC.trans (hb.mono hC.size)⟩), ?_⟩; go_big_quiet_on)))
              refine wpQuiet_nil ?_; intro wz hbz
              go_wp2_with fail
              go_meet
              exact ⟨rfl, Lib.hid hbz⟩
            | true =>
              have hw2 : IntKind.i64.wrap (2 * (d : Int)) = 2 * (d : Int) := IntWalk.i64_in _ (by omega)
              obtain ⟨m, hm⟩ : ∃ m : Int, m = max (N : Int) (M : Int) := ⟨_, rfl⟩
              have hmm : max (N : Int) (M : Int) = m := hm.symm
              have hia : ia = decide (2 * (d : Int) ≤ m) := by
                rw [HNF.out, decide_eq_false d0, Bool.false_or, Bool.true_and, hm]
                exact decide_eq_decide.2 (by omega)
              clear d0 hm
              cases hdm : decide (2 * (d : Int) ≤ m) with
              | true =>
                rw [hdm] at hia
                subst hia
                refine wp_region_bl (by kernel_rfl) (by kernel_rfl) ?_
                repeat (first | go_big_quiet_skip | (go_big_quiet_want; go_big_quiet_op; first | go_big_quiet_on | (refine ⟨_, fun _ _ => (by with_reducible rfl), ?_⟩; go_big_quiet_on) | (apply Exists.intro; refine ⟨fun w' hC => (by simp only [LD.out w' hC, Result.andThen]; exact ⟨trivial, rfl⟩), ?_⟩; go_big_quiet_on) | (apply Exists.intro; refine ⟨fun w' hC => (by (with_reducible refine (HH2 w' hC).out.mono ?_); exact fun e w2 ⟨he, hb⟩ => ⟨he, hC.trans (hb.mono hC.size)⟩), ?_⟩; go_big_quiet_on) | (apply Exists.intro; refine ⟨fun w' hC => (by (with_reducible refine (HH3 w' hC).out.mono ?_); exact fun e w2 ⟨he, hb⟩ => ⟨he, hC.trans (hb.mono hC.size)⟩), ?_⟩; go_big_quiet_on)))
                refine wpQuiet_nil ?_; intro wz hbz
                go_wp2_with fail
                go_meet
                exact ⟨rfl, Lib.hid hbz⟩
              | false =>
                rw [hdm] at hia
                subst hia
                refine wp_region_bl (by kernel_rfl) (by kernel_rfl) ?_
                repeat (first | go_big_quiet_skip | (go_big_quiet_want; go_big_quiet_op; first | go_big_quiet_on | (refine ⟨_, fun _ _ => (by with_reducible rfl), ?_⟩; go_big_quiet_on) | (apply Exists.intro; refine ⟨fun w' hC => (by simp only [LD.out w' hC, Result.andThen]; exact ⟨trivial, rfl⟩), ?_⟩; go_big_quiet_on) | (apply Exists.intro; refine ⟨fun w' hC => (by (with_reducible refine (HH2 w' hC).out.mono ?_); exact fun e w2 ⟨he, hb⟩ => ⟨he, hC.trans (hb.mono hC.size)⟩), ?_⟩; go_big_quiet_on) | (apply Exists.intro; refine ⟨fun w' hC => (by (with_reducible refine (HH3 w' hC).out.mono ?_); exact fun e w2 ⟨he, hb⟩ => ⟨he, hC.trans (hb.mono hC.size)⟩), ?_⟩; go_big_quiet_on)))
                refine wpQuiet_nil ?_; intro wz hbz
                go_wp2_with fail
                go_meet
                exact ⟨rfl, Lib.hid hbz⟩
          case rest =>
            obtain ⟨rfl, HC⟩ := hcut
            go_upto_region 20 with fail
            obtain ⟨W9, hW9⟩ : ∃ W9, W9 = wc := ⟨_, rfl⟩
            subst hW9
            have HB9 := Lib.hid (below_via HB8.out HC.out)
            have HX9 := Lib.hid (blk_via HC.out HX8.out)
            clear LD HC HSX HSZ HNF
            obtain ⟨p0, p1, p2, p3⟩ := vb4 HX9.out
            go_cut [156] (fun s156 wx => s156 = .bool false ∧ Hid (Below W9.heap.size W9 wx))
            case first =>
              cases ia with
              | false =>
                have hne : (P == (k : Int)) = false := by
                  rw [beq_eq_false_iff_ne]
                  intro e
                  have := HAT.out e
                  cases this
                have LD := Lib.hid (fun W (h : Below W9.heap.size W9 W) => And.intro (blkv h p0) (And.intro (blkv h p1) (And.intro (blkv h p2) (blkv h p3))))
                clear p0 p1 p2 p3
                refine wp_region_bl (by kernel_rfl) (by kernel_rfl) ?_
                repeat (first | go_big_quiet_skip | (go_big_quiet_want; go_big_quiet_op; first | go_big_quiet_on | (refine ⟨_, fun _ _ => (by with_reducible rfl), ?_⟩; go_big_quiet_on) | (apply Exists.intro; refine ⟨fun w' hC => (by simp only [LD.out w' hC, Result.andThen]; exact ⟨trivial, rfl⟩), ?_⟩; go_big_quiet_on)))
                refine wpQuiet_nil ?_; intro wz hbz
                go_wp2_with fail
                go_meet
                exact ⟨rfl, Lib.hid hbz⟩
              | true =>
                obtain ⟨t, c, hPt, hct, hcase⟩ := HAS.out (by have := HIA.out.symm; rwa [bne_iff_ne] at this)
                rw [List.getElem?_map, Option.map_eq_some_iff] at hct
                obtain ⟨u, hu, hue⟩ := hct
                have hru := (HKD.out u (List.mem_of_getElem? hu))
                obtain ⟨fc, hfc⟩ : ∃ fc, fc = farI x.v c := ⟨_, rfl⟩
                have HFC := fun W (h : Below W9.heap.size W9 W) => Lib.hid (show Calls Try.prog 26 #[x.val, u.val] W (Ret (.int .i64 fc) W) by rw [hfc, ← hue]; exact far_c W x u (HRX.out W (below_via HB9.out h)) (hru.1 W (below_via HB9.out h)) hwx hru.2)
                obtain ⟨r0, r1, r2, r3⟩ := HCL.out W9 HB9.out t u hu
                have LD := Lib.hid (fun W (h : Below W9.heap.size W9 W) => And.intro (blkv h p0) (And.intro (blkv h p1) (And.intro (blkv h p2) (And.intro (blkv h p3) (And.intro (blkv h r0) (And.intro (blkv h r1) (And.intro (blkv h r2) (blkv h r3))))))))
                have htl : t < y.l.length := (List.getElem?_eq_some_iff.1 hu).1
                have htl' : (t : Int) < (y.l.length : Int) := by omega
                have ht0 : (0 : Int) ≤ (t : Int) := by omega
                have ht1 : decide ((t : Int) < 0) = false := decide_eq_false (by omega)
                rw [← hfc] at hcase
                subst hPt
                clear p0 p1 p2 p3 r0 r1 r2 r3 hu hue hfc hru
                by_cases htk : t = k
                · subst htk
                  clear hcase HFC
                  refine wp_region_bl (by kernel_rfl) (by kernel_rfl) ?_
                  repeat (first | go_big_quiet_skip | (go_big_quiet_want; go_big_quiet_op; first | go_big_quiet_on | (refine ⟨_, fun _ _ => (by with_reducible rfl), ?_⟩; go_big_quiet_on) | (apply Exists.intro; refine ⟨fun w' hC => (by simp only [LD.out w' hC, Result.andThen]; exact ⟨trivial, rfl⟩), ?_⟩; go_big_quiet_on)))
                  refine wpQuiet_nil ?_; intro wz hbz
                  go_wp2_with fail
                  go_meet
                  exact ⟨rfl, Lib.hid hbz⟩
                obtain ⟨n1, n2⟩ := hcase.resolve_left htk
                have e1 : ((t : Int) == (k : Int)) = false := beq_eq_false_iff_ne.2 (by omega)
                have e2 : ((t : Int) != (k : Int)) = true := by rw [bne, e1]; rfl
                have e3 : decide ((d : Int) < fc) = false := decide_eq_false (by omega)
                by_cases hkt : k < t
                · have e4 : decide ((k : Int) < (t : Int)) = true := decide_eq_true (by omega)
                  have e6 : decide (k < t) = true := decide_eq_true hkt
                  have e5 : ((d : Int) == fc) = false := beq_eq_false_iff_ne.2 (n2 hkt)
                  clear n1 n2 hcase htk hkt
                  refine wp_region_bl (by kernel_rfl) (by kernel_rfl) ?_
                  repeat (first | go_big_quiet_skip | (go_big_quiet_want; go_big_quiet_op; first | go_big_quiet_on | (refine ⟨_, fun _ _ => (by with_reducible rfl), ?_⟩; go_big_quiet_on) | (apply Exists.intro; refine ⟨fun w' hC => (by simp only [LD.out w' hC, Result.andThen]; exact ⟨trivial, rfl⟩), ?_⟩; go_big_quiet_on) | (apply Exists.intro; refine ⟨fun w' hC => (by (with_reducible refine (HFC w' hC).out.mono ?_); exact fun e w2 ⟨he, hb⟩ => ⟨he, hC.trans (hb.mono hC.size)⟩), ?_⟩; go_big_quiet_on)))
                  refine wpQuiet_nil ?_; intro wz hbz
                  go_wp2_with fail
                  go_meet
                  exact ⟨rfl, Lib.hid hbz⟩
                · have e4 : decide ((k : Int) < (t : Int)) = false := decide_eq_false (by omega)
                  have e6 : decide (k < t) = false := decide_eq_false hkt
                  clear n1 n2 hcase htk hkt
                  refine wp_region_bl (by kernel_rfl) (by kernel_rfl) ?_
                  repeat (first | go_big_quiet_skip | (go_big_quiet_want; go_big_quiet_op; first | go_big_quiet_on | (refine ⟨_, fun _ _ => (by with_reducible rfl), ?_⟩; go_big_quiet_on) | (apply Exists.intro; refine ⟨fun w' hC => (by simp only [LD.out w' hC, Result.andThen]; exact ⟨trivial, rfl⟩), ?_⟩; go_big_quiet_on) | (apply Exists.intro; refine ⟨fun w' hC => (by (with_reducible refine (HFC w' hC).out.mono ?_); exact fun e w2 ⟨he, hb⟩ => ⟨he, hC.trans (hb.mono hC.size)⟩), ?_⟩; go_big_quiet_on)))
                  refine wpQuiet_nil ?_; intro wz hbz
                  go_wp2_with fail
                  go_meet
                  exact ⟨rfl, Lib.hid hbz⟩
            case rest =>
              obtain ⟨rfl, HC2⟩ := hcut
              clear p0 p1 p2 p3
              go_wp2_with fail
              exact ⟨⟨k + 1, by omega, by go_num, Lib.hid (below_via HB9.out HC2.out), Lib.hid (blk_via HC2.out HX9.out)⟩, by simp [intOf]; omega⟩
    · have hkl : k = y.l.length := by omega
      have hge : ¬ (k : Int) < (y.l.length : Int) := by omega
      go_wp2_with (go_at_call 39; (with_reducible refine (HLI _).out.mono ?_); rintro e w9 ⟨rfl, h9⟩)
      go_ret
      exact ⟨rfl, below_via HBR.out h9⟩
end Go.Proofs.Ytmhkacafilpliaa
