/-
  EditsFar's walk. Conditions: both values lie in memory, their weights are bounded. (Printed by gen_fd.py.)
-/
import Derived.Test.YtmhkacafilpliaaFC
import Derived.Test.YtmhkacafilpliaaEJ
import Derived.Test.YtmhkacafilpliaaTC
namespace Go.Proofs.Ytmhkacafilpliaa
open Go.RowKit Go.Sort Go.Shelf Go.BigFrame

theorem farI_geF (a b : Val) : -1 ≤ farI a b := by
  rw [farI]; split <;> omega
set_option maxRecDepth 100000 in
set_option maxHeartbeats 12800000 in
theorem efar (w : World) (x y : AV) (most : Int) (hx : Rd w x) (hy : Rd w y) (hwx : x.w ≤ 1048576) (hwy : y.w ≤ 1048576) :
    Calls Try.prog 5 #[x.val, y.val, .int .i64 most] w (Ret (.bool true) w) := by
  have HRX := Lib.hid (show ∀ W, Below w.heap.size w W → Rd W x from fun W h => hx.up h)
  have HRY := Lib.hid (show ∀ W, Below w.heap.size w W → Rd W y from fun W h => hy.up h)
  have HLI := fun W => Lib.hid (lives20_c W)
  obtain ⟨gx, hgx⟩ : ∃ g, g = decide (1500 < x.v.w) := ⟨_, rfl⟩
  obtain ⟨gy, hgy⟩ : ∃ g, g = decide (1500 < y.v.w) := ⟨_, rfl⟩
  have HGX := fun W (h : Below w.heap.size w W) => Lib.hid (show Calls Try.prog 12 #[x.val] W (Ret (.bool gx) W) by rw [hgx]; exact great14_c x W (HRX.out W h) hwx)
  have HGY := fun W (h : Below w.heap.size w W) => Lib.hid (show Calls Try.prog 12 #[y.val] W (Ret (.bool gy) W) by rw [hgy]; exact great14_c y W (HRY.out W h) hwy)
  obtain ⟨N, hN⟩ : ∃ N, N = szV x.v := ⟨_, rfl⟩
  obtain ⟨M, hM⟩ : ∃ M, M = szV y.v := ⟨_, rfl⟩
  have bN : N ≤ 1048576 := by have := szV_le x.v; have e : x.v.w = x.w := rfl; omega
  have bM : M ≤ 1048576 := by have := szV_le y.v; have e : y.v.w = y.w := rfl; omega
  have HSX := fun W (h : Below w.heap.size w W) => Lib.hid (show Calls Try.prog 25 #[x.val] W (Ret (.int .i64 (N : Int)) W) by rw [hN]; exact rsizeV_c x W (HRX.out W h) hwx)
  have HSY := fun W (h : Below w.heap.size w W) => Lib.hid (show Calls Try.prog 25 #[y.val] W (Ret (.int .i64 (M : Int)) W) by rw [hM]; exact rsizeV_c y W (HRY.out W h) hwy)
  have hNM : N * M ≤ 1048576 * 1048576 := Nat.mul_le_mul bN bM
  have hNM2 : (N : Int) * (M : Int) = ((N * M : Nat) : Int) := by simp
  have hw1 : IntKind.i64.wrap ((N : Int) * (M : Int)) = (N : Int) * (M : Int) := IntWalk.i64_in _ (by rw [hNM2]; omega)
  have HW1 := Lib.hid hw1
  have HTX := fun W (h : Below w.heap.size w W) => Lib.hid (twin14_c x W (HRX.out W h) hwx)
  have HTY := fun W (h : Below w.heap.size w W) => Lib.hid (twin14_c y W (HRY.out W h) hwy)
  clear hx hy hgx hgy hN hM hNM hw1 hNM2
  go_enter Try.func5, Try.ntmps5
  go_upto_region 1 with fail
  go_name_world W1 hW1
  have HX1 := Lib.hid (show W1.heap[w.heap.size]? = some (.cells #[.int .u8 x.k, .string x.t, .slice x.la x.l.length x.lc, .slice x.ka x.ks.length x.kc] 26 (0, 0)) by rw [← hW1]; exact blk_al (heap_alloc_new w _))
  have HY1 := Lib.hid (show W1.heap[w.heap.size + 1]? = some (.cells #[.int .u8 y.k, .string y.t, .slice y.la y.l.length y.lc, .slice y.ka y.ks.length y.kc] 26 (0, 0)) by rw [← hW1]; exact blk_new2 w _ _)
  have HB1 := Lib.hid (show Below w.heap.size w W1 by rw [← hW1]; exact below_al (below_al (Below.refl _ _)))
  obtain ⟨p0, p1, p2, p3⟩ := vb4 HX1.out
  obtain ⟨q0, q1, q2, q3⟩ := vb4 HY1.out
  clear hW1
  cases gx with
  | true =>
    go_wp2_with (first
      | (go_at_call 24; (with_reducible refine (HLI _).out.mono ?_); rintro e w99 ⟨rfl, h99⟩)
      | (go_at_call 12; (with_reducible refine (HGX _ HB1.out).out.mono ?_); rintro e w2 ⟨rfl, h2⟩; have HB2 := Lib.hid (below_via HB1.out h2); have HX2 := Lib.hid (blk_via h2 HX1.out); clear p0 p1 p2 p3; obtain ⟨p0, p1, p2, p3⟩ := vb4 HX2.out; have HY2 := Lib.hid (blk_via h2 HY1.out); clear q0 q1 q2 q3; obtain ⟨q0, q1, q2, q3⟩ := vb4 HY2.out; clear h2))
    go_ret
    exact ⟨rfl, below_via HB2.out h99⟩
  | false =>
  cases gy with
  | true =>
    go_wp2_with (first
      | (go_at_call 24; (with_reducible refine (HLI _).out.mono ?_); rintro e w99 ⟨rfl, h99⟩)
      | (go_at_call 12; (with_reducible refine (HGY _ HB2.out).out.mono ?_); rintro e w3 ⟨rfl, h3⟩; have HB3 := Lib.hid (below_via HB2.out h3); have HX3 := Lib.hid (blk_via h3 HX2.out); clear p0 p1 p2 p3; obtain ⟨p0, p1, p2, p3⟩ := vb4 HX3.out; have HY3 := Lib.hid (blk_via h3 HY2.out); clear q0 q1 q2 q3; obtain ⟨q0, q1, q2, q3⟩ := vb4 HY3.out; clear h3)
      | (go_at_call 12; (with_reducible refine (HGX _ HB1.out).out.mono ?_); rintro e w2 ⟨rfl, h2⟩; have HB2 := Lib.hid (below_via HB1.out h2); have HX2 := Lib.hid (blk_via h2 HX1.out); clear p0 p1 p2 p3; obtain ⟨p0, p1, p2, p3⟩ := vb4 HX2.out; have HY2 := Lib.hid (blk_via h2 HY1.out); clear q0 q1 q2 q3; obtain ⟨q0, q1, q2, q3⟩ := vb4 HY2.out; clear h2))
    go_ret
    exact ⟨rfl, below_via HB3.out h99⟩
  | false =>
  go_upto_region 3 with (first
    | (go_at_call 12; (with_reducible refine (HGY _ HB2.out).out.mono ?_); rintro e w3 ⟨rfl, h3⟩; have HB3 := Lib.hid (below_via HB2.out h3); have HX3 := Lib.hid (blk_via h3 HX2.out); clear p0 p1 p2 p3; obtain ⟨p0, p1, p2, p3⟩ := vb4 HX3.out; have HY3 := Lib.hid (blk_via h3 HY2.out); clear q0 q1 q2 q3; obtain ⟨q0, q1, q2, q3⟩ := vb4 HY3.out; clear h3)
    | (go_at_call 12; (with_reducible refine (HGX _ HB1.out).out.mono ?_); rintro e w2 ⟨rfl, h2⟩; have HB2 := Lib.hid (below_via HB1.out h2); have HX2 := Lib.hid (blk_via h2 HX1.out); clear p0 p1 p2 p3; obtain ⟨p0, p1, p2, p3⟩ := vb4 HX2.out; have HY2 := Lib.hid (blk_via h2 HY1.out); clear q0 q1 q2 q3; obtain ⟨q0, q1, q2, q3⟩ := vb4 HY2.out; clear h2))
  have LD := Lib.hid (fun W (h : Below w3.heap.size w3 W) => And.intro (blkv h p0) (And.intro (blkv h p1) (And.intro (blkv h p2) (And.intro (blkv h p3) (And.intro (blkv h q0) (And.intro (blkv h q1) (And.intro (blkv h q2) (blkv h q3))))))))
  have HH1 := fun W (h : Below w3.heap.size w3 W) => Lib.hid (HSX W (below_via HB3.out h)).out
  have HH2 := fun W (h : Below w3.heap.size w3 W) => Lib.hid (HSY W (below_via HB3.out h)).out
  have hw1 := HW1.out
  clear p0 p1 p2 p3 q0 q1 q2 q3
  refine wp_region_bl (by kernel_rfl) (by kernel_rfl) ?_
  repeat (first | go_big_quiet_skip | (go_big_quiet_want; go_big_quiet_op; first | go_big_quiet_on | (refine ⟨_, fun _ _ => (by with_reducible rfl), ?_⟩; go_big_quiet_on) | (apply Exists.intro; refine ⟨fun w' hC => (by simp only [LD.out w' hC, Result.andThen]; exact ⟨trivial, rfl⟩), ?_⟩; go_big_quiet_on) | (apply Exists.intro; refine ⟨fun w' hC => (by (with_reducible refine (HH1 w' hC).out.mono ?_); exact fun e w2 ⟨he, hb⟩ => ⟨he, hC.trans (hb.mono hC.size)⟩), ?_⟩; go_big_quiet_on) | (apply Exists.intro; refine ⟨fun w' hC => (by (with_reducible refine (HH2 w' hC).out.mono ?_); exact fun e w2 ⟨he, hb⟩ => ⟨he, hC.trans (hb.mono hC.size)⟩), ?_⟩; go_big_quiet_on)))
  refine wpQuiet_nil ?_; intro wz hbz
  obtain ⟨W4, hW4⟩ : ∃ W, W = wz := ⟨_, rfl⟩
  subst hW4
  have HB4 := Lib.hid (below_via HB3.out hbz)
  have HX4 := Lib.hid (blk_via hbz HX3.out)
  have HY4 := Lib.hid (blk_via hbz HY3.out)
  obtain ⟨P, hP⟩ : ∃ P : Int, P = (N : Int) * (M : Int) := ⟨_, rfl⟩
  rw [← hP]
  clear hbz LD HH1 HH2 hw1 HW1 hP HSX HSY HGX HGY bN bM
  go_upto_region 4 with fail
  go_cut [29] (fun s29 wx => ∃ b, s29 = .bool b ∧ wx = W4)
  case first =>
    go_wp2_with fail
    all_goals go_meet
    all_goals exact ⟨_, rfl, rfl⟩
  case rest =>
  obtain ⟨b29, rfl, e29⟩ := hcut
  obtain rfl := e29.symm
  cases b29 with
  | true =>
    go_wp2_with (go_at_call 24; (with_reducible refine (HLI _).out.mono ?_); rintro e w99 ⟨rfl, h99⟩)
    go_ret
    exact ⟨rfl, below_via HB4.out h99⟩
  | false =>
  obtain ⟨p0, p1, p2, p3⟩ := vb4 HX4.out
  go_upto_region 7 with (go_at_call 14; (with_reducible refine (HTX _ HB4.out).out.mono ?_); rintro e w5 ⟨t, rfl, htv, htT, h5⟩)
  go_name_world W6 hW6
  obtain ⟨BT, hBT⟩ : ∃ B, B = w5.heap.size := ⟨_, rfl⟩
  have hb46 : Below W4.heap.size W4 W6 := by rw [← hW6]; exact below_al h5
  have HT6 := Lib.hid (show W6.heap[BT]? = some (.cells #[.int .u8 t.k, .string t.t, .slice t.la t.l.length t.lc, .slice t.ka t.ks.length t.kc] 26 (0, 0)) by rw [← hW6, hBT]; exact heap_alloc_new w5 _)
  have hT6 : t.Tw W6 0 W6.heap.size := (htT.widen (Nat.zero_le _) (Nat.le_refl _)).up (by rw [← hW6]; exact below_al (Below.refl _ _))
  have HB6 := Lib.hid (below_via HB4.out hb46)
  have HX6 := Lib.hid (blk_via hb46 HX4.out)
  have HY6 := Lib.hid (blk_via hb46 HY4.out)
  have HTW := Lib.hid hT6
  have HTV := Lib.hid htv
  rw [← hBT]
  clear hW6 hBT hb46 h5 htv htT hT6 p0 p1 p2 p3
  obtain ⟨q0, q1, q2, q3⟩ := vb4 HY6.out
  go_upto_region 8 with (go_at_call 14; (with_reducible refine (HTY _ HB6.out).out.mono ?_); rintro e w7 ⟨u, rfl, huv, huT, h7⟩)
  go_name_world W8 hW8
  obtain ⟨BU, hBU⟩ : ∃ B, B = w7.heap.size := ⟨_, rfl⟩
  have hb68 : Below W6.heap.size W6 W8 := by rw [← hW8]; exact below_al h7
  have HU20 := Lib.hid (show W8.heap[BU]? = some (.cells #[.int .u8 u.k, .string u.t, .slice u.la u.l.length u.lc, .slice u.ka u.ks.length u.kc] 26 (0, 0)) by rw [← hW8, hBU]; exact heap_alloc_new w7 _)
  have hU8 : u.Tw W8 0 W8.heap.size := (huT.widen (Nat.zero_le _) (Nat.le_refl _)).up (by rw [← hW8]; exact below_al (Below.refl _ _))
  have hT8 : t.Tw W8 0 W8.heap.size := HTW.out.up hb68
  have HB8 := Lib.hid (below_via HB6.out hb68)
  have HX20 := Lib.hid (blk_via hb68 HX6.out)
  have HY20 := Lib.hid (blk_via hb68 HY6.out)
  have HT20 := Lib.hid (blk_via hb68 HT6.out)
  have HUV := Lib.hid huv
  have HTT := Lib.hid (show ∀ W, Below W8.heap.size W8 W → t.Tw W 0 W.heap.size from fun W h => hT8.up h)
  have HUT := Lib.hid (show ∀ W, Below W8.heap.size W8 W → u.Tw W 0 W.heap.size from fun W h => hU8.up h)
  have hwt : t.w ≤ 1048576 := by show t.v.w ≤ _; rw [HTV.out]; exact hwx
  have hwu : u.w ≤ 1048576 := by show u.v.w ≤ _; rw [huv]; exact hwy
  rw [← hBU]
  obtain ⟨F, hF⟩ : ∃ F, F = farI x.v y.v := ⟨_, rfl⟩
  have hF1 : -1 ≤ F := by rw [hF]; exact farI_geF _ _
  have HFT := fun W (h : Below W8.heap.size W8 W) => Lib.hid (show Calls Try.prog 26 #[t.val, u.val] W (Ret (.int .i64 F) W) by
    have := far_c W t u (AV.Tw.rd t (HTT.out W h)) (AV.Tw.rd u (HUT.out W h)) hwt hwu
    rwa [HTV.out, HUV.out, ← hF] at this)
  have HFR := fun W (h : Below W8.heap.size W8 W) => Lib.hid (show Calls Try.prog 27 #[x.val, y.val] W (Ret (.int .i64 F) W) by
    rw [hF]; exact rfar20_c W x y (HRX.out W (below_via HB8.out h)) (HRY.out W (below_via HB8.out h)) hwx hwy)
  obtain ⟨wi, hwi⟩ : ∃ wi, wi = (F != -1 && decide (F ≤ most)) := ⟨_, rfl⟩
  have HWI := fun W (h : Below W8.heap.size W8 W) => Lib.hid (show Calls Try.prog 28 #[t.val, u.val, .int .i64 most] W (Ret (.bool wi) W) by
    have := within20_c W t u most (AV.Tw.rd t (HTT.out W h)) (AV.Tw.rd u (HUT.out W h)) hwt hwu
    rwa [HTV.out, HUV.out, withinI, ← hF, ← hwi] at this)
  have HL1 := fun W (h : Below W8.heap.size W8 W) => Lib.hid (left14_c x t W HTV.out (HTT.out W h) (HRX.out W (below_via HB8.out h)) hwx)
  have HL2 := fun W (h : Below W8.heap.size W8 W) => Lib.hid (left14_c y u W HUV.out (HUT.out W h) (HRY.out W (below_via HB8.out h)) hwy)
  have HD20 := Lib.hid (Below.refl W8.heap.size W8)
  obtain ⟨p0, p1, p2, p3⟩ := vb4 HX20.out
  clear q0 q1 q2 q3
  obtain ⟨q0, q1, q2, q3⟩ := vb4 HY20.out
  obtain ⟨r0, r1, r2, r3⟩ := vb4 HT20.out
  obtain ⟨s0, s1, s2, s3⟩ := vb4 HU20.out
  clear hW8 hBU hb68 h7 huv huT hU8 hT8 hF HB4 HB6 HX4 HY4 HX6 HY6 HT6 HTW HB1 HB2 HB3 HX1 HX2 HX3 HY1 HY2 HY3 HTX HTY
  by_cases c1 : 0 ≤ F
  · have c1' : decide (0 ≤ F) = true := decide_eq_true c1
    cases hd : decide (F ≤ most) with
    | true =>
      have hwi2 : wi = true := by rw [hwi, hd]; simp; omega
      subst hwi2
      clear hwi c1 hF1
      go_wp2_with (first
        | (go_at_call 24; (with_reducible refine (HLI _).out.mono ?_); rintro e w99 ⟨rfl, h99⟩)
        | (go_at_call 18; (with_reducible refine (HL2 _ HD24.out).out.mono ?_); rintro e w25 ⟨rfl, h25⟩; have HD25 := Lib.hid (below_via HD24.out h25); have HX25 := Lib.hid (blk_via h25 HX24.out); clear p0 p1 p2 p3; obtain ⟨p0, p1, p2, p3⟩ := vb4 HX25.out; have HY25 := Lib.hid (blk_via h25 HY24.out); clear q0 q1 q2 q3; obtain ⟨q0, q1, q2, q3⟩ := vb4 HY25.out; have HT25 := Lib.hid (blk_via h25 HT24.out); clear r0 r1 r2 r3; obtain ⟨r0, r1, r2, r3⟩ := vb4 HT25.out; have HU25 := Lib.hid (blk_via h25 HU24.out); clear s0 s1 s2 s3; obtain ⟨s0, s1, s2, s3⟩ := vb4 HU25.out; clear h25)
        | (go_at_call 18; (with_reducible refine (HL1 _ HD23.out).out.mono ?_); rintro e w24 ⟨rfl, h24⟩; have HD24 := Lib.hid (below_via HD23.out h24); have HX24 := Lib.hid (blk_via h24 HX23.out); clear p0 p1 p2 p3; obtain ⟨p0, p1, p2, p3⟩ := vb4 HX24.out; have HY24 := Lib.hid (blk_via h24 HY23.out); clear q0 q1 q2 q3; obtain ⟨q0, q1, q2, q3⟩ := vb4 HY24.out; have HT24 := Lib.hid (blk_via h24 HT23.out); clear r0 r1 r2 r3; obtain ⟨r0, r1, r2, r3⟩ := vb4 HT24.out; have HU24 := Lib.hid (blk_via h24 HU23.out); clear s0 s1 s2 s3; obtain ⟨s0, s1, s2, s3⟩ := vb4 HU24.out; clear h24)
        | (go_at_call 28; (with_reducible refine (HWI _ HD22.out).out.mono ?_); rintro e w23 ⟨rfl, h23⟩; have HD23 := Lib.hid (below_via HD22.out h23); have HX23 := Lib.hid (blk_via h23 HX22.out); clear p0 p1 p2 p3; obtain ⟨p0, p1, p2, p3⟩ := vb4 HX23.out; have HY23 := Lib.hid (blk_via h23 HY22.out); clear q0 q1 q2 q3; obtain ⟨q0, q1, q2, q3⟩ := vb4 HY23.out; have HT23 := Lib.hid (blk_via h23 HT22.out); clear r0 r1 r2 r3; obtain ⟨r0, r1, r2, r3⟩ := vb4 HT23.out; have HU23 := Lib.hid (blk_via h23 HU22.out); clear s0 s1 s2 s3; obtain ⟨s0, s1, s2, s3⟩ := vb4 HU23.out; clear h23)
        | (go_at_call 27; (with_reducible refine (HFR _ HD21.out).out.mono ?_); rintro e w22 ⟨rfl, h22⟩; have HD22 := Lib.hid (below_via HD21.out h22); have HX22 := Lib.hid (blk_via h22 HX21.out); clear p0 p1 p2 p3; obtain ⟨p0, p1, p2, p3⟩ := vb4 HX22.out; have HY22 := Lib.hid (blk_via h22 HY21.out); clear q0 q1 q2 q3; obtain ⟨q0, q1, q2, q3⟩ := vb4 HY22.out; have HT22 := Lib.hid (blk_via h22 HT21.out); clear r0 r1 r2 r3; obtain ⟨r0, r1, r2, r3⟩ := vb4 HT22.out; have HU22 := Lib.hid (blk_via h22 HU21.out); clear s0 s1 s2 s3; obtain ⟨s0, s1, s2, s3⟩ := vb4 HU22.out; clear h22)
        | (go_at_call 26; (with_reducible refine (HFT _ HD20.out).out.mono ?_); rintro e w21 ⟨rfl, h21⟩; have HD21 := Lib.hid (below_via HD20.out h21); have HX21 := Lib.hid (blk_via h21 HX20.out); clear p0 p1 p2 p3; obtain ⟨p0, p1, p2, p3⟩ := vb4 HX21.out; have HY21 := Lib.hid (blk_via h21 HY20.out); clear q0 q1 q2 q3; obtain ⟨q0, q1, q2, q3⟩ := vb4 HY21.out; have HT21 := Lib.hid (blk_via h21 HT20.out); clear r0 r1 r2 r3; obtain ⟨r0, r1, r2, r3⟩ := vb4 HT21.out; have HU21 := Lib.hid (blk_via h21 HU20.out); clear s0 s1 s2 s3; obtain ⟨s0, s1, s2, s3⟩ := vb4 HU21.out; clear h21))
      go_ret
      exact ⟨rfl, below_via (below_via HB8.out HD25.out) h99⟩
    | false =>
      have hwi2 : wi = false := by rw [hwi, hd]; simp
      subst hwi2
      clear hwi c1 hF1
      go_wp2_with (first
        | (go_at_call 24; (with_reducible refine (HLI _).out.mono ?_); rintro e w99 ⟨rfl, h99⟩)
        | (go_at_call 18; (with_reducible refine (HL2 _ HD24.out).out.mono ?_); rintro e w25 ⟨rfl, h25⟩; have HD25 := Lib.hid (below_via HD24.out h25); have HX25 := Lib.hid (blk_via h25 HX24.out); clear p0 p1 p2 p3; obtain ⟨p0, p1, p2, p3⟩ := vb4 HX25.out; have HY25 := Lib.hid (blk_via h25 HY24.out); clear q0 q1 q2 q3; obtain ⟨q0, q1, q2, q3⟩ := vb4 HY25.out; have HT25 := Lib.hid (blk_via h25 HT24.out); clear r0 r1 r2 r3; obtain ⟨r0, r1, r2, r3⟩ := vb4 HT25.out; have HU25 := Lib.hid (blk_via h25 HU24.out); clear s0 s1 s2 s3; obtain ⟨s0, s1, s2, s3⟩ := vb4 HU25.out; clear h25)
        | (go_at_call 18; (with_reducible refine (HL1 _ HD23.out).out.mono ?_); rintro e w24 ⟨rfl, h24⟩; have HD24 := Lib.hid (below_via HD23.out h24); have HX24 := Lib.hid (blk_via h24 HX23.out); clear p0 p1 p2 p3; obtain ⟨p0, p1, p2, p3⟩ := vb4 HX24.out; have HY24 := Lib.hid (blk_via h24 HY23.out); clear q0 q1 q2 q3; obtain ⟨q0, q1, q2, q3⟩ := vb4 HY24.out; have HT24 := Lib.hid (blk_via h24 HT23.out); clear r0 r1 r2 r3; obtain ⟨r0, r1, r2, r3⟩ := vb4 HT24.out; have HU24 := Lib.hid (blk_via h24 HU23.out); clear s0 s1 s2 s3; obtain ⟨s0, s1, s2, s3⟩ := vb4 HU24.out; clear h24)
        | (go_at_call 28; (with_reducible refine (HWI _ HD22.out).out.mono ?_); rintro e w23 ⟨rfl, h23⟩; have HD23 := Lib.hid (below_via HD22.out h23); have HX23 := Lib.hid (blk_via h23 HX22.out); clear p0 p1 p2 p3; obtain ⟨p0, p1, p2, p3⟩ := vb4 HX23.out; have HY23 := Lib.hid (blk_via h23 HY22.out); clear q0 q1 q2 q3; obtain ⟨q0, q1, q2, q3⟩ := vb4 HY23.out; have HT23 := Lib.hid (blk_via h23 HT22.out); clear r0 r1 r2 r3; obtain ⟨r0, r1, r2, r3⟩ := vb4 HT23.out; have HU23 := Lib.hid (blk_via h23 HU22.out); clear s0 s1 s2 s3; obtain ⟨s0, s1, s2, s3⟩ := vb4 HU23.out; clear h23)
        | (go_at_call 27; (with_reducible refine (HFR _ HD21.out).out.mono ?_); rintro e w22 ⟨rfl, h22⟩; have HD22 := Lib.hid (below_via HD21.out h22); have HX22 := Lib.hid (blk_via h22 HX21.out); clear p0 p1 p2 p3; obtain ⟨p0, p1, p2, p3⟩ := vb4 HX22.out; have HY22 := Lib.hid (blk_via h22 HY21.out); clear q0 q1 q2 q3; obtain ⟨q0, q1, q2, q3⟩ := vb4 HY22.out; have HT22 := Lib.hid (blk_via h22 HT21.out); clear r0 r1 r2 r3; obtain ⟨r0, r1, r2, r3⟩ := vb4 HT22.out; have HU22 := Lib.hid (blk_via h22 HU21.out); clear s0 s1 s2 s3; obtain ⟨s0, s1, s2, s3⟩ := vb4 HU22.out; clear h22)
        | (go_at_call 26; (with_reducible refine (HFT _ HD20.out).out.mono ?_); rintro e w21 ⟨rfl, h21⟩; have HD21 := Lib.hid (below_via HD20.out h21); have HX21 := Lib.hid (blk_via h21 HX20.out); clear p0 p1 p2 p3; obtain ⟨p0, p1, p2, p3⟩ := vb4 HX21.out; have HY21 := Lib.hid (blk_via h21 HY20.out); clear q0 q1 q2 q3; obtain ⟨q0, q1, q2, q3⟩ := vb4 HY21.out; have HT21 := Lib.hid (blk_via h21 HT20.out); clear r0 r1 r2 r3; obtain ⟨r0, r1, r2, r3⟩ := vb4 HT21.out; have HU21 := Lib.hid (blk_via h21 HU20.out); clear s0 s1 s2 s3; obtain ⟨s0, s1, s2, s3⟩ := vb4 HU21.out; clear h21))
      go_ret
      exact ⟨rfl, below_via (below_via HB8.out HD25.out) h99⟩
  · have c1' : decide (0 ≤ F) = false := decide_eq_false c1
    have hwi2 : wi = false := by rw [hwi, show F = -1 by omega]; rfl
    subst hwi2
    clear hwi c1 hF1
    go_wp2_with (first
        | (go_at_call 24; (with_reducible refine (HLI _).out.mono ?_); rintro e w99 ⟨rfl, h99⟩)
        | (go_at_call 18; (with_reducible refine (HL2 _ HD24.out).out.mono ?_); rintro e w25 ⟨rfl, h25⟩; have HD25 := Lib.hid (below_via HD24.out h25); have HX25 := Lib.hid (blk_via h25 HX24.out); clear p0 p1 p2 p3; obtain ⟨p0, p1, p2, p3⟩ := vb4 HX25.out; have HY25 := Lib.hid (blk_via h25 HY24.out); clear q0 q1 q2 q3; obtain ⟨q0, q1, q2, q3⟩ := vb4 HY25.out; have HT25 := Lib.hid (blk_via h25 HT24.out); clear r0 r1 r2 r3; obtain ⟨r0, r1, r2, r3⟩ := vb4 HT25.out; have HU25 := Lib.hid (blk_via h25 HU24.out); clear s0 s1 s2 s3; obtain ⟨s0, s1, s2, s3⟩ := vb4 HU25.out; clear h25)
        | (go_at_call 18; (with_reducible refine (HL1 _ HD23.out).out.mono ?_); rintro e w24 ⟨rfl, h24⟩; have HD24 := Lib.hid (below_via HD23.out h24); have HX24 := Lib.hid (blk_via h24 HX23.out); clear p0 p1 p2 p3; obtain ⟨p0, p1, p2, p3⟩ := vb4 HX24.out; have HY24 := Lib.hid (blk_via h24 HY23.out); clear q0 q1 q2 q3; obtain ⟨q0, q1, q2, q3⟩ := vb4 HY24.out; have HT24 := Lib.hid (blk_via h24 HT23.out); clear r0 r1 r2 r3; obtain ⟨r0, r1, r2, r3⟩ := vb4 HT24.out; have HU24 := Lib.hid (blk_via h24 HU23.out); clear s0 s1 s2 s3; obtain ⟨s0, s1, s2, s3⟩ := vb4 HU24.out; clear h24)
        | (go_at_call 28; (with_reducible refine (HWI _ HD22.out).out.mono ?_); rintro e w23 ⟨rfl, h23⟩; have HD23 := Lib.hid (below_via HD22.out h23); have HX23 := Lib.hid (blk_via h23 HX22.out); clear p0 p1 p2 p3; obtain ⟨p0, p1, p2, p3⟩ := vb4 HX23.out; have HY23 := Lib.hid (blk_via h23 HY22.out); clear q0 q1 q2 q3; obtain ⟨q0, q1, q2, q3⟩ := vb4 HY23.out; have HT23 := Lib.hid (blk_via h23 HT22.out); clear r0 r1 r2 r3; obtain ⟨r0, r1, r2, r3⟩ := vb4 HT23.out; have HU23 := Lib.hid (blk_via h23 HU22.out); clear s0 s1 s2 s3; obtain ⟨s0, s1, s2, s3⟩ := vb4 HU23.out; clear h23)
        | (go_at_call 27; (with_reducible refine (HFR _ HD21.out).out.mono ?_); rintro e w22 ⟨rfl, h22⟩; have HD22 := Lib.hid (below_via HD21.out h22); have HX22 := Lib.hid (blk_via h22 HX21.out); clear p0 p1 p2 p3; obtain ⟨p0, p1, p2, p3⟩ := vb4 HX22.out; have HY22 := Lib.hid (blk_via h22 HY21.out); clear q0 q1 q2 q3; obtain ⟨q0, q1, q2, q3⟩ := vb4 HY22.out; have HT22 := Lib.hid (blk_via h22 HT21.out); clear r0 r1 r2 r3; obtain ⟨r0, r1, r2, r3⟩ := vb4 HT22.out; have HU22 := Lib.hid (blk_via h22 HU21.out); clear s0 s1 s2 s3; obtain ⟨s0, s1, s2, s3⟩ := vb4 HU22.out; clear h22)
        | (go_at_call 26; (with_reducible refine (HFT _ HD20.out).out.mono ?_); rintro e w21 ⟨rfl, h21⟩; have HD21 := Lib.hid (below_via HD20.out h21); have HX21 := Lib.hid (blk_via h21 HX20.out); clear p0 p1 p2 p3; obtain ⟨p0, p1, p2, p3⟩ := vb4 HX21.out; have HY21 := Lib.hid (blk_via h21 HY20.out); clear q0 q1 q2 q3; obtain ⟨q0, q1, q2, q3⟩ := vb4 HY21.out; have HT21 := Lib.hid (blk_via h21 HT20.out); clear r0 r1 r2 r3; obtain ⟨r0, r1, r2, r3⟩ := vb4 HT21.out; have HU21 := Lib.hid (blk_via h21 HU20.out); clear s0 s1 s2 s3; obtain ⟨s0, s1, s2, s3⟩ := vb4 HU21.out; clear h21))
    go_ret
    exact ⟨rfl, below_via (below_via HB8.out HD25.out) h99⟩
end Go.Proofs.Ytmhkacafilpliaa
