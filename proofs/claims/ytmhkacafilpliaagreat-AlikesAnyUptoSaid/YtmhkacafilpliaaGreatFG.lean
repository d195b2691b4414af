/-
  Chapter 21's document: who is alike, which one is the nearest; and what the law goes through. Conditions: the values lie in memory, weights and the length are bounded. (Printed by gen_ff.py.)
  AlikesAny's walk. Conditions: the value and the list lie in memory, weights and the length are bounded. (Printed by gen_fg.py.)
-/
import Derived.Test.YtmhkacafilpliaaGreatEU
import Derived.Test.YtmhkacafilpliaaGreatFC
import Derived.Test.YtmhkacafilpliaaGreatRD
import Derived.Test.YtmhkacafilpliaaGreatLA
import Derived.Test.YtmhkacafilpliaaGreatVF
import Derived.Test.YtmhkacafilpliaaGreatET
import Derived.Test.YtmhkacafilpliaaGreatEW
import Derived.Test.YtmhkacafilpliaaGreatTC
namespace Go.Proofs.YtmhkacafilpliaaGreat
open Go.RowKit Go.Sort Go.Shelf Go.BigFrame

theorem farI_le (a b : Val) : farI a b ≤ (szV a : Int) + (szV b : Int) := by
  rw [farI]
  split
  · omega
  · rename_i hc
    have h1 : szV a ≠ 0 := fun e => hc (.inl e)
    have h2 : szV b ≠ 0 := fun e => hc (.inr (.inl e))
    obtain ⟨m1, e1⟩ := szV_may h1
    obtain ⟨m2, e2⟩ := szV_may h2
    have := farV_lt m1 m2
    omega
set_option maxRecDepth 100000 in
set_option maxHeartbeats 6400000 in
theorem rare_c (w : World) (x y : AV) (hx : Rd w x) (hy : Rd w y) (hwx : x.w ≤ 1048576) (hwy : y.w ≤ 1048576) : Calls Tryz.prog 14 #[x.val, y.val] w (Ret (.bool (nearI x.v y.v != -1)) w) := by
  have HRX := Lib.hid (show ∀ W, Below w.heap.size w W → Rd W x from fun W h => hx.up h)
  have HRY := Lib.hid (show ∀ W, Below w.heap.size w W → Rd W y from fun W h => hy.up h)
  obtain ⟨r, hr⟩ : ∃ r, r = (nearI x.v y.v != -1) := ⟨_, rfl⟩
  have hra := hr
  rw [are_ref] at hra
  obtain ⟨s, hs⟩ : ∃ s, s = sameV x.v y.v := ⟨_, rfl⟩
  obtain ⟨F, hF⟩ : ∃ F, F = farI x.v y.v := ⟨_, rfl⟩
  obtain ⟨N, hN⟩ : ∃ N, N = szV x.v := ⟨_, rfl⟩
  obtain ⟨M, hM⟩ : ∃ M, M = szV y.v := ⟨_, rfl⟩
  have bN : N ≤ 1048576 := by have := szV_le x.v; have e : x.v.w = x.w := rfl; omega
  have bM : M ≤ 1048576 := by have := szV_le y.v; have e : y.v.w = y.w := rfl; omega
  have bF1 : -1 ≤ F := by rw [hF]; exact farI_ge _ _
  have bF2 : F ≤ (N : Int) + (M : Int) := by rw [hF, hN, hM]; exact farI_le _ _
  have HSM := fun W (h : Below w.heap.size w W) => Lib.hid (show Calls Tryz.prog 33 #[x.val, y.val] W (Ret (.bool s) W) by rw [hs]; exact rsame_c x y W (HRX.out W h) (HRY.out W h) hwx hwy)
  have HFA := fun W (h : Below w.heap.size w W) => Lib.hid (show Calls Tryz.prog 34 #[x.val, y.val] W (Ret (.int .i64 F) W) by rw [hF]; exact rfar20_c W x y (HRX.out W h) (HRY.out W h) hwx hwy)
  have HSX := fun W (h : Below w.heap.size w W) => Lib.hid (show Calls Tryz.prog 27 #[x.val] W (Ret (.int .i64 (N : Int)) W) by rw [hN]; exact rsizeV_c x W (HRX.out W h) hwx)
  have HSY := fun W (h : Below w.heap.size w W) => Lib.hid (show Calls Tryz.prog 27 #[y.val] W (Ret (.int .i64 (M : Int)) W) by rw [hM]; exact rsizeV_c y W (HRY.out W h) hwy)
  have e1 : kindB x.v y.v = (decide (x.k = y.k) && (decide (x.k = 7) || decide (x.k = 8))) := by rw [kindB, AV.v_k, AV.v_k]
  rw [← hs, ← hF, ← hN, ← hM, e1] at hra
  rw [← hr]
  clear hx hy hr hs hF hN hM e1
  go_enter Tryz.func14, Tryz.ntmps14
  go_upto_region 1 with fail
  go_name_world W1 hW1
  have HX1 := Lib.hid (show W1.heap[w.heap.size]? = some (.cells #[.int .u8 x.k, .string x.t, .slice x.la x.l.length x.lc, .slice x.ka x.ks.length x.kc] 26 (0, 0)) by rw [← hW1]; exact blk_al (heap_alloc_new w _))
  have HY1 := Lib.hid (show W1.heap[w.heap.size + 1]? = some (.cells #[.int .u8 y.k, .string y.t, .slice y.la y.l.length y.lc, .slice y.ka y.ks.length y.kc] 26 (0, 0)) by rw [← hW1]; exact blk_new2 w _ _)
  have HB1 := Lib.hid (show Below w.heap.size w W1 by rw [← hW1]; exact below_al (below_al (Below.refl _ _)))
  obtain ⟨p0, p1, p2, p3⟩ := vb4 HX1.out
  obtain ⟨q0, q1, q2, q3⟩ := vb4 HY1.out
  clear hW1
  have HRA := Lib.hid hra
  clear hra
  cases s with
  | true =>
    have hr : r = true := by rw [HRA.out]; rfl
    subst hr
    go_wp2_with (go_at_call 33; (with_reducible refine (HSM _ HB1.out).out.mono ?_); rintro e w2 ⟨rfl, h2⟩)
    go_ret
    exact ⟨rfl, below_via HB1.out h2⟩
  | false =>
  go_upto_region 3 with (go_at_call 33; (with_reducible refine (HSM _ HB1.out).out.mono ?_); rintro e w2 ⟨rfl, h2⟩)
  have HB2 := Lib.hid (below_via HB1.out h2)
  have HX2 := Lib.hid (blk_via h2 HX1.out)
  have HY2 := Lib.hid (blk_via h2 HY1.out)
  clear p0 p1 p2 p3 q0 q1 q2 q3 h2 HX1 HY1 HB1 HSM
  obtain ⟨p0, p1, p2, p3⟩ := vb4 HX2.out
  obtain ⟨q0, q1, q2, q3⟩ := vb4 HY2.out
  obtain ⟨kb, hkb⟩ : ∃ kb, kb = (decide (x.k = y.k) && (decide (x.k = 7) || decide (x.k = 8))) := ⟨_, rfl⟩
  rw [← hkb] at HRA
  go_cut [23] (fun s23 wx => s23 = .bool (!kb) ∧ wx = w2)
  case first =>
    by_cases t1 : x.k = y.k
    · have t1' : (x.k != y.k) = false := by simp [t1]
      by_cases t7 : x.k = 7
      · have t7' : (x.k != 7) = false := by simp [t7]
        rw [decide_eq_true t1, decide_eq_true t7] at hkb
        clear t1 t7
        go_wp2_with fail
        go_meet
        exact ⟨by rw [hkb]; rfl, rfl⟩
      · have t7' : (x.k != 7) = true := by simp [t7]
        by_cases t8 : x.k = 8
        · have t8' : (x.k != 8) = false := by simp [t8]
          rw [decide_eq_true t1, decide_eq_false t7, decide_eq_true t8] at hkb
          clear t1 t7 t8
          go_wp2_with fail
          go_meet
          exact ⟨by rw [hkb]; rfl, rfl⟩
        · have t8' : (x.k != 8) = true := by simp [t8]
          rw [decide_eq_true t1, decide_eq_false t7, decide_eq_false t8] at hkb
          clear t1 t7 t8
          go_wp2_with fail
          go_meet
          exact ⟨by rw [hkb]; rfl, rfl⟩
    · have t1' : (x.k != y.k) = true := by simp [t1]
      rw [decide_eq_false t1] at hkb
      clear t1
      go_wp2_with fail
      go_meet
      exact ⟨by rw [hkb]; rfl, rfl⟩
  case rest =>
  obtain ⟨rfl, e2⟩ := hcut
  obtain rfl := e2.symm
  clear hkb
  cases kb with
  | false =>
    have hr : r = false := by rw [HRA.out]; rfl
    subst hr
    go_wp2_with fail
    go_ret
    exact ⟨rfl, HB2.out⟩
  | true =>
  go_upto_region 6 with (go_at_call 34; (with_reducible refine (HFA _ HB2.out).out.mono ?_); rintro e w3 ⟨rfl, h3⟩)
  have HB3 := Lib.hid (below_via HB2.out h3)
  have HX3 := Lib.hid (blk_via h3 HX2.out)
  have HY3 := Lib.hid (blk_via h3 HY2.out)
  clear p0 p1 p2 p3 q0 q1 q2 q3 h3
  obtain ⟨p0, p1, p2, p3⟩ := vb4 HX3.out
  obtain ⟨q0, q1, q2, q3⟩ := vb4 HY3.out
  have LD := Lib.hid (fun W (h : Below w3.heap.size w3 W) => And.intro (blkv h p0) (And.intro (blkv h p1) (And.intro (blkv h p2) (And.intro (blkv h p3) (And.intro (blkv h q0) (And.intro (blkv h q1) (And.intro (blkv h q2) (blkv h q3))))))))
  have HH1 := fun W (h : Below w3.heap.size w3 W) => Lib.hid (HSX W (below_via HB3.out h)).out
  have HH2 := fun W (h : Below w3.heap.size w3 W) => Lib.hid (HSY W (below_via HB3.out h)).out
  have hw : IntKind.i64.wrap (2 * F) = 2 * F := IntWalk.i64_in _ (by omega)
  have hra := HRA.out
  simp only [Bool.false_or, Bool.true_and] at hra
  obtain ⟨m, hm⟩ : ∃ m : Int, m = max (N : Int) (M : Int) := ⟨_, rfl⟩
  have hmm : max (N : Int) (M : Int) = m := hm.symm
  have hm2 : ((max N M : Nat) : Int) = m := by rw [hm]; omega
  rw [hm2] at hra
  clear p0 p1 p2 p3 q0 q1 q2 q3 bF1 bF2 hm hm2 bN bM HRA
  by_cases c0 : 0 ≤ F
  · have c0' : decide (0 ≤ F) = true := decide_eq_true c0
    rw [c0', Bool.true_and] at hra
    have HR := Lib.hid hra
    clear c0 hra
    refine wp_region_bl (by kernel_rfl) (by kernel_rfl) ?_
    repeat (first | go_big_quiet_skip | (go_big_quiet_want; go_big_quiet_op; first | go_big_quiet_on | (refine ⟨_, fun _ _ => (by with_reducible rfl), ?_⟩; go_big_quiet_on) | (apply Exists.intro; refine ⟨fun w' hC => (by simp only [LD.out w' hC, Result.andThen]; exact ⟨trivial, rfl⟩), ?_⟩; go_big_quiet_on) | (apply Exists.intro; refine ⟨fun w' hC => (by (with_reducible refine (HH1 w' hC).out.mono ?_); exact fun e w2 ⟨he, hb⟩ => ⟨he, hC.trans (hb.mono hC.size)⟩), ?_⟩; go_big_quiet_on) | (apply Exists.intro; refine ⟨fun w' hC => (by (with_reducible refine (HH2 w' hC).out.mono ?_); exact fun e w2 ⟨he, hb⟩ => ⟨he, hC.trans (hb.mono hC.size)⟩), ?_⟩; go_big_quiet_on)))
    refine wpQuiet_nil ?_; intro wz hbz
    go_wp2_with fail
    go_ret
    exact ⟨by rw [HR.out]; rfl, below_via HB3.out hbz⟩
  · have c0' : decide (0 ≤ F) = false := decide_eq_false c0
    rw [c0', Bool.false_and] at hra
    subst hra
    clear c0
    refine wp_region_bl (by kernel_rfl) (by kernel_rfl) ?_
    repeat (first | go_big_quiet_skip | (go_big_quiet_want; go_big_quiet_op; first | go_big_quiet_on | (refine ⟨_, fun _ _ => (by with_reducible rfl), ?_⟩; go_big_quiet_on) | (apply Exists.intro; refine ⟨fun w' hC => (by simp only [LD.out w' hC, Result.andThen]; exact ⟨trivial, rfl⟩), ?_⟩; go_big_quiet_on) | (apply Exists.intro; refine ⟨fun w' hC => (by (with_reducible refine (HH1 w' hC).out.mono ?_); exact fun e w2 ⟨he, hb⟩ => ⟨he, hC.trans (hb.mono hC.size)⟩), ?_⟩; go_big_quiet_on) | (apply Exists.intro; refine ⟨fun w' hC => (by (with_reducible refine (HH2 w' hC).out.mono ?_); exact fun e w2 ⟨he, hb⟩ => ⟨he, hC.trans (hb.mono hC.size)⟩), ?_⟩; go_big_quiet_on)))
    refine wpQuiet_nil ?_; intro wz hbz
    go_wp2_with fail
    go_ret
    exact ⟨rfl, below_via HB3.out hbz⟩
set_option maxRecDepth 100000 in
set_option maxHeartbeats 12800000 in
theorem rnearest_c (w : World) (x : AV) (y : LA) (hx : Rd w x) (hwx : x.w ≤ 1048576) (hy : y.Rd w) : Calls Tryz.prog 11 #[x.val, .slice y.a y.l.length y.c] w (Ret (.int .i64 (nearP x.v (y.l.map AV.v) y.l.length).1) w) := by
  have HRX := Lib.hid (show ∀ W, Below w.heap.size w W → Rd W x from fun W h => hx.up h)
  have HKD := Lib.hid (show ∀ z ∈ y.l, (∀ W, Below w.heap.size w W → Rd W z) ∧ z.w ≤ 1048576 from fun z hz => ⟨fun W h => (hy.kids z hz).1.up h, (hy.kids z hz).2⟩)
  have HSL := Lib.hid hy.sl
  have hlen := hy.len
  obtain ⟨P, hP⟩ : ∃ P, P = nearP x.v (y.l.map AV.v) := ⟨_, rfl⟩
  have P0 := Lib.hid (show P 0 = (-1, 0) by rw [hP]; rfl)
  have PS := Lib.hid (show ∀ k s, y.l[k]? = some s → P (k + 1) = better k (nearI x.v s.v) (P k).1 (P k).2 from fun k s h => by rw [hP]; exact nearP_succ h)
  have PG := Lib.hid (show ∀ n, n ≤ y.l.length → -1 ≤ (P n).1 from fun n hn => by rw [hP]; exact nearP_ge _ _ n (by rw [List.length_map]; exact hn))
  have PF := Lib.hid (show ∀ i z, y.l[i]? = some z → sameV x.v z.v = true → (∀ j u, j < i → y.l[j]? = some u → sameV x.v u.v = false) → (P y.l.length).1 = (i : Nat) from fun i z hi hs h => by
    have := near_first (a := x.v) (l := y.l.map AV.v) (i := i) (b := z.v) (by rw [List.getElem?_map, hi]; rfl) hs (fun j c hj hc => by
      rw [List.getElem?_map, Option.map_eq_some_iff] at hc
      obtain ⟨u, hu, rfl⟩ := hc
      exact h j u hj hu)
    rw [List.length_map] at this
    rw [hP]; exact this)
  rw [← hP]
  clear hx hy hP
  go_enter Tryz.func11, Tryz.ntmps11
  go_wp2_with fail
  go_loopw [5] (fun s5 wr => ∃ k : Nat, k ≤ y.l.length ∧ s5 = .int .i64 (k : Int) ∧ Hid (Below w.heap.size w wr) ∧ Hid (wr.heap[w.heap.size]? = some (.cells #[.int .u8 x.k, .string x.t, .slice x.la x.l.length x.lc, .slice x.ka x.ks.length x.kc] 26 (0, 0))) ∧ Hid (∀ j u, j < k → y.l[j]? = some u → sameV x.v u.v = false)) (fun s5 _ => y.l.length - (intOf s5).toNat)
  case atStart => exact ⟨0, Nat.zero_le _, rfl, Lib.hid (below_al (Below.refl _ _)), Lib.hid (heap_alloc_new w _), Lib.hid (fun j u h => absurd h (Nat.not_lt_zero _))⟩
  case round =>
    obtain ⟨k, hk, rfl, HBR, HXR, HNO⟩ := hrel
    by_cases hlt : k < y.l.length
    · have hks : y.l[k]? = some y.l[k] := List.getElem?_eq_getElem hlt
      generalize y.l[k] = z at *
      have hlt' : (k : Int) < (y.l.length : Int) := by omega
      have hk0 : (0 : Int) ≤ (k : Int) := by omega
      have HKS := Lib.hid hks
      obtain ⟨b, off, hla, -, -, hbw, -⟩ := vals_at HSL.out hks
      have HCL := Lib.hid (show ∀ W, Below w.heap.size w W → ∀ j u, y.l[j]? = some u → W.cell? ⟨b, off + j * 4, none⟩ = some (.int .u8 u.k) ∧ W.cell? ⟨b, off + j * 4 + 1, none⟩ = some (.string u.t) ∧ W.cell? ⟨b, off + j * 4 + 2, none⟩ = some (.slice u.la u.l.length u.lc) ∧ W.cell? ⟨b, off + j * 4 + 3, none⟩ = some (.slice u.ka u.ks.length u.kc) from fun W h j u hu => by
        obtain ⟨b', off', hla', -, -, hb', c0, c1, c2, c3⟩ := vals_at HSL.out hu
        rw [hla] at hla'
        injection hla' with hla'
        injection hla' with e1 e2
        subst e1
        subst e2
        exact ⟨blkv h c0, blkv h c1, blkv h c2, blkv h c3⟩)
      obtain ⟨c0, c1, c2, c3⟩ := HCL.out wr HBR.out k z hks
      obtain ⟨p0, p1, p2, p3⟩ := vb4 HXR.out
      have HRZ := Lib.hid (HKD.out z (List.mem_of_getElem? hks)).1
      have hwz := (HKD.out z (List.mem_of_getElem? hks)).2
      rw [hla]
      obtain ⟨s, hs⟩ : ∃ s, s = sameV x.v z.v := ⟨_, rfl⟩
      have HH1 := fun W (h : Below wr.heap.size wr W) => Lib.hid (show Calls Tryz.prog 33 #[x.val, z.val] W (Ret (.bool s) W) by rw [hs]; exact rsame_c x z W (HRX.out W (below_via HBR.out h)) (HRZ.out W (below_via HBR.out h)) hwx hwz)
      have LD := Lib.hid (fun W (h : Below wr.heap.size wr W) => And.intro (blkv h p0) (And.intro (blkv h p1) (And.intro (blkv h p2) (And.intro (blkv h p3) (And.intro (blkv h c0) (And.intro (blkv h c1) (And.intro (blkv h c2) (blkv h c3))))))))
      have HS := Lib.hid hs
      clear hla hbw hks c0 c1 c2 c3 p0 p1 p2 p3 hs
      go_upto_region 4 with fail
      cases s with
      | true =>
        refine wp_region_bl (by kernel_rfl) (by kernel_rfl) ?_
        repeat (first | go_big_quiet_skip | (go_big_quiet_want; go_big_quiet_op; first | go_big_quiet_on | (refine ⟨_, fun _ _ => (by with_reducible rfl), ?_⟩; go_big_quiet_on) | (apply Exists.intro; refine ⟨fun w' hC => (by simp only [LD.out w' hC, Result.andThen]; exact ⟨trivial, rfl⟩), ?_⟩; go_big_quiet_on) | (apply Exists.intro; refine ⟨fun w' hC => (by (with_reducible refine (HH1 w' hC).out.mono ?_); exact fun e w2 ⟨he, hb⟩ => ⟨he, hC.trans (hb.mono hC.size)⟩), ?_⟩; go_big_quiet_on)))
        refine wpQuiet_nil ?_; intro wz hbz
        go_wp2_with fail
        go_ret
        exact ⟨by rw [PF.out k z HKS.out HS.out.symm HNO.out]; rfl, below_via HBR.out hbz⟩
      | false =>
        refine wp_region_bl (by kernel_rfl) (by kernel_rfl) ?_
        repeat (first | go_big_quiet_skip | (go_big_quiet_want; go_big_quiet_op; first | go_big_quiet_on | (refine ⟨_, fun _ _ => (by with_reducible rfl), ?_⟩; go_big_quiet_on) | (apply Exists.intro; refine ⟨fun w' hC => (by simp only [LD.out w' hC, Result.andThen]; exact ⟨trivial, rfl⟩), ?_⟩; go_big_quiet_on) | (apply Exists.intro; refine ⟨fun w' hC => (by (with_reducible refine (HH1 w' hC).out.mono ?_); exact fun e w2 ⟨he, hb⟩ => ⟨he, hC.trans (hb.mono hC.size)⟩), ?_⟩; go_big_quiet_on)))
        refine wpQuiet_nil ?_; intro wz hbz
        go_wp2_with fail
        exact ⟨⟨k + 1, by omega, by go_num, Lib.hid (below_via HBR.out hbz), Lib.hid (blk_via hbz HXR.out), Lib.hid (fun j u hj hu => by
          by_cases hjk : j < k
          · exact HNO.out j u hjk hu
          · obtain rfl : j = k := by omega
            rw [HKS.out] at hu
            injection hu with hu
            subst hu
            exact HS.out.symm)⟩, by simp [intOf]; omega⟩
    · have hkl : k = y.l.length := by omega
      subst hkl
      have hge : ¬ (y.l.length : Int) < (y.l.length : Int) := by omega
      obtain ⟨WA, hWA⟩ : ∃ W, W = wr := ⟨_, rfl⟩
      subst hWA
      go_wp2_with fail
      go_loopw [6, 7, 8] (fun s6 s7 s8 wr => ∃ k : Nat, k ≤ y.l.length ∧ s6 = .int .i64 (P k).1 ∧ s7 = .int .i64 (P k).2 ∧ s8 = .int .i64 (k : Int) ∧ Hid (Below w.heap.size w wr) ∧ Hid (wr.heap[w.heap.size]? = some (.cells #[.int .u8 x.k, .string x.t, .slice x.la x.l.length x.lc, .slice x.ka x.ks.length x.kc] 26 (0, 0)))) (fun _ _ s8 _ => y.l.length - (intOf s8).toNat)
      case atStart => exact ⟨0, Nat.zero_le _, by rw [P0.out], by rw [P0.out], rfl, HBR, HXR⟩
      case round =>
        clear HBR HXR
        obtain ⟨k, hk, rfl, rfl, rfl, HBR, HXR⟩ := hrel
        by_cases hlt : k < y.l.length
        · have hks : y.l[k]? = some y.l[k] := List.getElem?_eq_getElem hlt
          generalize y.l[k] = z at *
          have hlt' : (k : Int) < (y.l.length : Int) := by omega
          have hk0 : (0 : Int) ≤ (k : Int) := by omega
          have HKS := Lib.hid hks
          obtain ⟨b, off, hla, -, -, hbw, -⟩ := vals_at HSL.out hks
          have HCL := Lib.hid (show ∀ W, Below w.heap.size w W → ∀ j u, y.l[j]? = some u → W.cell? ⟨b, off + j * 4, none⟩ = some (.int .u8 u.k) ∧ W.cell? ⟨b, off + j * 4 + 1, none⟩ = some (.string u.t) ∧ W.cell? ⟨b, off + j * 4 + 2, none⟩ = some (.slice u.la u.l.length u.lc) ∧ W.cell? ⟨b, off + j * 4 + 3, none⟩ = some (.slice u.ka u.ks.length u.kc) from fun W h j u hu => by
        obtain ⟨b', off', hla', -, -, hb', c0, c1, c2, c3⟩ := vals_at HSL.out hu
        rw [hla] at hla'
        injection hla' with hla'
        injection hla' with e1 e2
        subst e1
        subst e2
        exact ⟨blkv h c0, blkv h c1, blkv h c2, blkv h c3⟩)
          obtain ⟨c0, c1, c2, c3⟩ := HCL.out wr HBR.out k z hks
          obtain ⟨p0, p1, p2, p3⟩ := vb4 HXR.out
          have HRZ := Lib.hid (HKD.out z (List.mem_of_getElem? hks)).1
          have hwz := (HKD.out z (List.mem_of_getElem? hks)).2
          have hpg := PG.out k hk
          have hps := PS.out k z hks
          have hnf := fun hs h => near_not_same (a := x.v) (b := z.v) hs h
          have hns := HNO.out k z hlt hks
          obtain ⟨p, hp⟩ : ∃ p, p = (P k).1 := ⟨_, rfl⟩
          obtain ⟨q, hq⟩ : ∃ q, q = (P k).2 := ⟨_, rfl⟩
          obtain ⟨d, hd⟩ : ∃ d, d = nearI x.v z.v := ⟨_, rfl⟩
          obtain ⟨F, hF⟩ : ∃ F, F = farI x.v z.v := ⟨_, rfl⟩
          rw [← hp, ← hq, ← hd] at hps
          rw [← hp] at hpg
          rw [← hd, ← hF] at hnf
          rw [hla, ← hp, ← hq]
          obtain ⟨ia, hia⟩ : ∃ ia, ia = (d != -1) := ⟨_, rfl⟩
          have HH1 := fun W (h : Below wr.heap.size wr W) => Lib.hid (show Calls Tryz.prog 14 #[x.val, z.val] W (Ret (.bool ia) W) by rw [hia, hd]; exact rare_c W x z (HRX.out W (below_via HBR.out h)) (HRZ.out W (below_via HBR.out h)) hwx hwz)
          have HFA := Lib.hid (show ∀ W, Below w.heap.size w W → Calls Tryz.prog 34 #[x.val, z.val] W (Ret (.int .i64 F) W) from fun W h => by rw [hF]; exact rfar20_c W x z (HRX.out W h) (HRZ.out W h) hwx hwz)
          have LD := Lib.hid (fun W (h : Below wr.heap.size wr W) => And.intro (blkv h p0) (And.intro (blkv h p1) (And.intro (blkv h p2) (And.intro (blkv h p3) (And.intro (blkv h c0) (And.intro (blkv h c1) (And.intro (blkv h c2) (blkv h c3))))))))
          have HPS := Lib.hid hps
          have HNF := Lib.hid (hnf hns)
          have HPG := Lib.hid hpg
          have HIA := Lib.hid hia
          have HCK := Lib.hid (fun W h => HCL.out W h k z hks)
          clear hla hbw hks c0 c1 c2 c3 p0 p1 p2 p3 hpg hps hnf hns hp hq hd hF hia HCL
          go_upto_region 11 with fail
          cases ia with
          | false =>
            have hd1 : d = -1 := by have := HIA.out.symm; simpa using this
            refine wp_region_bl (by kernel_rfl) (by kernel_rfl) ?_
            repeat (first | go_big_quiet_skip | (go_big_quiet_want; go_big_quiet_op; first | go_big_quiet_on | (refine ⟨_, fun _ _ => (by with_reducible rfl), ?_⟩; go_big_quiet_on) | (apply Exists.intro; refine ⟨fun w' hC => (by simp only [LD.out w' hC, Result.andThen]; exact ⟨trivial, rfl⟩), ?_⟩; go_big_quiet_on) | (apply Exists.intro; refine ⟨fun w' hC => (by (with_reducible refine (HH1 w' hC).out.mono ?_); exact fun e w2 ⟨he, hb⟩ => ⟨he, hC.trans (hb.mono hC.size)⟩), ?_⟩; go_big_quiet_on)))
            refine wpQuiet_nil ?_; intro wz hbz
            go_wp2_with fail
            exact ⟨⟨k + 1, by omega, by rw [HPS.out]; simp [better, hd1], by rw [HPS.out]; simp [better, hd1], by go_num, Lib.hid (below_via HBR.out hbz), Lib.hid (blk_via hbz HXR.out)⟩, by simp [intOf]; omega⟩
          | true =>
            refine wp_region_bl (by kernel_rfl) (by kernel_rfl) ?_
            repeat (first | go_big_quiet_skip | (go_big_quiet_want; go_big_quiet_op; first | go_big_quiet_on | (refine ⟨_, fun _ _ => (by with_reducible rfl), ?_⟩; go_big_quiet_on) | (apply Exists.intro; refine ⟨fun w' hC => (by simp only [LD.out w' hC, Result.andThen]; exact ⟨trivial, rfl⟩), ?_⟩; go_big_quiet_on) | (apply Exists.intro; refine ⟨fun w' hC => (by (with_reducible refine (HH1 w' hC).out.mono ?_); exact fun e w2 ⟨he, hb⟩ => ⟨he, hC.trans (hb.mono hC.size)⟩), ?_⟩; go_big_quiet_on)))
            refine wpQuiet_nil ?_; intro wz hbz
            obtain ⟨W4, hW4⟩ : ∃ W, W = wz := ⟨_, rfl⟩
            subst hW4
            have HB4 := Lib.hid (below_via HBR.out hbz)
            have HX4 := Lib.hid (blk_via hbz HXR.out)
            clear hbz LD HH1
            obtain ⟨c0, c1, c2, c3⟩ := HCK.out W4 HB4.out
            obtain ⟨p0, p1, p2, p3⟩ := vb4 HX4.out
            have LD := Lib.hid (fun W (h : Below W4.heap.size W4 W) => And.intro (blkv h p0) (And.intro (blkv h p1) (And.intro (blkv h p2) (And.intro (blkv h p3) (And.intro (blkv h c0) (And.intro (blkv h c1) (And.intro (blkv h c2) (blkv h c3))))))))
            have HH2 := fun W (h : Below W4.heap.size W4 W) => Lib.hid (HFA.out W (below_via HB4.out h))
            clear c0 c1 c2 c3 p0 p1 p2 p3
            go_upto_region 12 with fail
            refine wp_region_bl (by kernel_rfl) (by kernel_rfl) ?_
            repeat (first | go_big_quiet_skip | (go_big_quiet_want; go_big_quiet_op; first | go_big_quiet_on | (refine ⟨_, fun _ _ => (by with_reducible rfl), ?_⟩; go_big_quiet_on) | (apply Exists.intro; refine ⟨fun w' hC => (by simp only [LD.out w' hC, Result.andThen]; exact ⟨trivial, rfl⟩), ?_⟩; go_big_quiet_on) | (apply Exists.intro; refine ⟨fun w' hC => (by (with_reducible refine (HH2 w' hC).out.mono ?_); exact fun e w2 ⟨he, hb⟩ => ⟨he, hC.trans (hb.mono hC.size)⟩), ?_⟩; go_big_quiet_on)))
            refine wpQuiet_nil ?_; intro wz hbz
            have hdn : d ≠ -1 := by have := HIA.out.symm; simpa using this
            have hdF := HNF.out hdn
            have hg := HPG.out
            by_cases c1 : p < 0
            · have c1' : decide (p < 0) = true := decide_eq_true c1
              have e : better (k : Int) d p q = ((k : Int), d) := by simp [better, hdn, show p = -1 by omega]
              have HE := Lib.hid (HPS.out.trans e)
              have HDF := Lib.hid hdF
              clear c1 hdn hdF hg e
              go_wp2_with fail
              exact ⟨⟨k + 1, by omega, by rw [HE.out], by rw [HE.out, HDF.out], by go_num, Lib.hid (below_via HB4.out hbz), Lib.hid (blk_via hbz HX4.out)⟩, by simp [intOf]; omega⟩
            · have c1' : decide (p < 0) = false := decide_eq_false c1
              by_cases c2 : F < q
              · have c2' : decide (F < q) = true := decide_eq_true c2
                have e : better (k : Int) d p q = ((k : Int), d) := by have hFn : F ≠ -1 := hdF ▸ hdn; simp [better, hdF, hFn, c2]
                have HE := Lib.hid (HPS.out.trans e)
                have HDF := Lib.hid hdF
                clear c1 c2 hdn hdF hg e
                go_wp2_with fail
                exact ⟨⟨k + 1, by omega, by rw [HE.out], by rw [HE.out, HDF.out], by go_num, Lib.hid (below_via HB4.out hbz), Lib.hid (blk_via hbz HX4.out)⟩, by simp [intOf]; omega⟩
              · have c2' : decide (F < q) = false := decide_eq_false c2
                have e : better (k : Int) d p q = (p, q) := by have hFn : F ≠ -1 := hdF ▸ hdn; simp [better, hdF, hFn, c2, show ¬ p = -1 by omega]
                have HE := Lib.hid (HPS.out.trans e)
                clear c1 c2 hdn hdF hg e
                go_wp2_with fail
                exact ⟨⟨k + 1, by omega, by rw [HE.out], by rw [HE.out], by go_num, Lib.hid (below_via HB4.out hbz), Lib.hid (blk_via hbz HX4.out)⟩, by simp [intOf]; omega⟩
        · have hkl : k = y.l.length := by omega
          subst hkl
          have hge2 : ¬ (y.l.length : Int) < (y.l.length : Int) := by omega
          go_wp2_with fail
          go_ret
          exact ⟨rfl, HBR.out⟩
/-- Whether the law goes on: whatever it says. -/
def GreatAny (w : World) (e : Ending) (w' : World) : Prop := ∃ r : Bool, e = .returned (.bool r) ∧ Below w.heap.size w w'
set_option maxRecDepth 100000 in
set_option maxHeartbeats 12800000 in
theorem great21_c (w : World) (x : AV) (y : LA) (hx : Rd w x) (hwx : x.w ≤ 1048576) (hy : y.Rd w) : Calls Tryz.prog 7 #[x.val, .slice y.a y.l.length y.c] w (GreatAny w) := by
  have HRX := Lib.hid (show ∀ W, Below w.heap.size w W → Rd W x from fun W h => hx.up h)
  have HKD := Lib.hid (show ∀ z ∈ y.l, (∀ W, Below w.heap.size w W → Rd W z) ∧ z.w ≤ 1048576 from fun z hz => ⟨fun W h => (hy.kids z hz).1.up h, (hy.kids z hz).2⟩)
  have HSL := Lib.hid hy.sl
  have hlen := hy.len
  obtain ⟨gx, hgx⟩ : ∃ g, g = decide (1500 < x.v.w) := ⟨_, rfl⟩
  have HGX := fun W (h : Below w.heap.size w W) => Lib.hid (show Calls Tryz.prog 26 #[x.val] W (Ret (.bool gx) W) by rw [hgx]; exact great14_c x W (HRX.out W h) hwx)
  obtain ⟨N, hN⟩ : ∃ N, N = szV x.v := ⟨_, rfl⟩
  have bN : N ≤ 1048576 := by have := szV_le x.v; have e : x.v.w = x.w := rfl; omega
  have HSX := Lib.hid (show ∀ W, Below w.heap.size w W → Calls Tryz.prog 27 #[x.val] W (Ret (.int .i64 (N : Int)) W) from fun W h => by rw [hN]; exact rsizeV_c x W (HRX.out W h) hwx)
  clear hx hy hgx hN
  go_enter Tryz.func7, Tryz.ntmps7
  go_upto_region 1 with fail
  go_name_world W1 hW1
  have HX1 := Lib.hid (show W1.heap[w.heap.size]? = some (.cells #[.int .u8 x.k, .string x.t, .slice x.la x.l.length x.lc, .slice x.ka x.ks.length x.kc] 26 (0, 0)) by rw [← hW1]; exact heap_alloc_new w _)
  have HB1 := Lib.hid (show Below w.heap.size w W1 by rw [← hW1]; exact below_al (Below.refl _ _))
  obtain ⟨p0, p1, p2, p3⟩ := vb4 HX1.out
  clear hW1
  cases gx with
  | true =>
    go_wp2_with (go_at_call 26; (with_reducible refine (HGX _ HB1.out).out.mono ?_); rintro e w2 ⟨rfl, h2⟩)
    go_ret
    exact ⟨true, rfl, below_via HB1.out h2⟩
  | false =>
  by_cases n8 : 8 < y.l.length
  · have n8' : (8 : Int) < (y.l.length : Int) := by omega
    go_wp2_with (go_at_call 26; (with_reducible refine (HGX _ HB1.out).out.mono ?_); rintro e w2 ⟨rfl, h2⟩)
    go_ret
    exact ⟨true, rfl, below_via HB1.out h2⟩
  have n8' : ¬ (8 : Int) < (y.l.length : Int) := by omega
  clear n8
  go_wp2_with (go_at_call 26; (with_reducible refine (HGX _ HB1.out).out.mono ?_); rintro e w2 ⟨rfl, h2⟩)
  have HB2 := Lib.hid (below_via HB1.out h2)
  have HX2 := Lib.hid (blk_via h2 HX1.out)
  clear h2 p0 p1 p2 p3 HGX
  go_loopw [5] (fun s5 wr => ∃ k : Nat, k ≤ y.l.length ∧ s5 = .int .i64 (k : Int) ∧ Hid (Below w.heap.size w wr) ∧ Hid (wr.heap[w.heap.size]? = some (.cells #[.int .u8 x.k, .string x.t, .slice x.la x.l.length x.lc, .slice x.ka x.ks.length x.kc] 26 (0, 0)))) (fun s5 _ => y.l.length - (intOf s5).toNat)
  case atStart => exact ⟨0, Nat.zero_le _, rfl, HB2, HX2⟩
  case round =>
    obtain ⟨k, hk, rfl, HBR, HXR⟩ := hrel
    by_cases hlt : k < y.l.length
    · have hks : y.l[k]? = some y.l[k] := List.getElem?_eq_getElem hlt
      generalize y.l[k] = z at *
      have hlt' : (k : Int) < (y.l.length : Int) := by omega
      have hk0 : (0 : Int) ≤ (k : Int) := by omega
      obtain ⟨b, off, hla, -, -, hbw, -⟩ := vals_at HSL.out hks
      have HCL := Lib.hid (show ∀ W, Below w.heap.size w W → ∀ j u, y.l[j]? = some u → W.cell? ⟨b, off + j * 4, none⟩ = some (.int .u8 u.k) ∧ W.cell? ⟨b, off + j * 4 + 1, none⟩ = some (.string u.t) ∧ W.cell? ⟨b, off + j * 4 + 2, none⟩ = some (.slice u.la u.l.length u.lc) ∧ W.cell? ⟨b, off + j * 4 + 3, none⟩ = some (.slice u.ka u.ks.length u.kc) from fun W h j u hu => by
        obtain ⟨b', off', hla', -, -, hb', c0, c1, c2, c3⟩ := vals_at HSL.out hu
        rw [hla] at hla'
        injection hla' with hla'
        injection hla' with e1 e2
        subst e1
        subst e2
        exact ⟨blkv h c0, blkv h c1, blkv h c2, blkv h c3⟩)
      obtain ⟨c0, c1, c2, c3⟩ := HCL.out wr HBR.out k z hks
      obtain ⟨p0, p1, p2, p3⟩ := vb4 HXR.out
      have HRZ := Lib.hid (HKD.out z (List.mem_of_getElem? hks)).1
      have hwz := (HKD.out z (List.mem_of_getElem? hks)).2
      rw [hla]
      obtain ⟨M, hM⟩ : ∃ M, M = szV z.v := ⟨_, rfl⟩
      have bM : M ≤ 1048576 := by have := szV_le z.v; have e : z.v.w = z.w := rfl; omega
      have hNM : N * M ≤ 1048576 * 1048576 := Nat.mul_le_mul bN bM
      have hNM2 : (N : Int) * (M : Int) = ((N * M : Nat) : Int) := by simp
      have hw1 : IntKind.i64.wrap ((N : Int) * (M : Int)) = (N : Int) * (M : Int) := IntWalk.i64_in _ (by rw [hNM2]; omega)
      obtain ⟨gz, hgz⟩ : ∃ g, g = decide (1500 < z.v.w) := ⟨_, rfl⟩
      have HGZ := Lib.hid (show ∀ W, Below w.heap.size w W → Calls Tryz.prog 26 #[z.val] W (Ret (.bool gz) W) from fun W h => by rw [hgz]; exact great14_c z W (HRZ.out W h) hwz)
      have HH1 := fun W (h : Below wr.heap.size wr W) => Lib.hid (HSX.out W (below_via HBR.out h))
      have HH2 := fun W (h : Below wr.heap.size wr W) => Lib.hid (show Calls Tryz.prog 27 #[z.val] W (Ret (.int .i64 (M : Int)) W) by rw [hM]; exact rsizeV_c z W (HRZ.out W (below_via HBR.out h)) hwz)
      have LD := Lib.hid (fun W (h : Below wr.heap.size wr W) => And.intro (blkv h p0) (And.intro (blkv h p1) (And.intro (blkv h p2) (And.intro (blkv h p3) (And.intro (blkv h c0) (And.intro (blkv h c1) (And.intro (blkv h c2) (blkv h c3))))))))
      have HCK := Lib.hid (fun W h => HCL.out W h k z hks)
      clear hla hbw hks c0 c1 c2 c3 p0 p1 p2 p3 hNM hNM2 hM hgz HCL
      go_upto_region 6 with fail
      refine wp_region_bl (by kernel_rfl) (by kernel_rfl) ?_
      repeat (first | go_big_quiet_skip | (go_big_quiet_want; go_big_quiet_op; first | go_big_quiet_on | (refine ⟨_, fun _ _ => (by with_reducible rfl), ?_⟩; go_big_quiet_on) | (apply Exists.intro; refine ⟨fun w' hC => (by simp only [LD.out w' hC, Result.andThen]; exact ⟨trivial, rfl⟩), ?_⟩; go_big_quiet_on) | (apply Exists.intro; refine ⟨fun w' hC => (by (with_reducible refine (HH1 w' hC).out.mono ?_); exact fun e w2 ⟨he, hb⟩ => ⟨he, hC.trans (hb.mono hC.size)⟩), ?_⟩; go_big_quiet_on) | (apply Exists.intro; refine ⟨fun w' hC => (by (with_reducible refine (HH2 w' hC).out.mono ?_); exact fun e w2 ⟨he, hb⟩ => ⟨he, hC.trans (hb.mono hC.size)⟩), ?_⟩; go_big_quiet_on)))
      refine wpQuiet_nil ?_; intro wz hbz
      obtain ⟨W4, hW4⟩ : ∃ W, W = wz := ⟨_, rfl⟩
      subst hW4
      have HB4 := Lib.hid (below_via HBR.out hbz)
      have HX4 := Lib.hid (blk_via hbz HXR.out)
      obtain ⟨pr, hpr⟩ : ∃ pr : Int, pr = (N : Int) * (M : Int) := ⟨_, rfl⟩
      rw [← hpr]
      clear hbz LD HH1 HH2 hw1 hpr
      obtain ⟨c0, c1, c2, c3⟩ := HCK.out W4 HB4.out
      cases gz with
      | true =>
        go_wp2_with (go_at_call 26; (with_reducible refine (HGZ.out _ HB4.out).mono ?_); rintro e w5 ⟨rfl, h5⟩)
        go_ret
        exact ⟨true, rfl, below_via HB4.out h5⟩
      | false =>
        go_upto_region 7 with fail
        go_cut [40] (fun s40 wx => ∃ r, s40 = .bool r ∧ Hid (Below W4.heap.size W4 wx))
        case first =>
          go_wp2_with (go_at_call 26; (with_reducible refine (HGZ.out _ HB4.out).mono ?_); rintro e w5 ⟨rfl, h5⟩)
          all_goals go_meet
          all_goals exact ⟨_, rfl, Lib.hid h5⟩
        case rest =>
          obtain ⟨r, rfl, HC⟩ := hcut
          clear c0 c1 c2 c3
          cases r with
          | true =>
            go_wp2_with fail
            go_ret
            exact ⟨true, rfl, below_via HB4.out HC.out⟩
          | false =>
            go_wp2_with fail
            exact ⟨⟨k + 1, by omega, by go_num, Lib.hid (below_via HB4.out HC.out), Lib.hid (blk_via HC.out HX4.out)⟩, by simp [intOf]; omega⟩
    · have hkl : k = y.l.length := by omega
      subst hkl
      have hge : ¬ (y.l.length : Int) < (y.l.length : Int) := by omega
      go_wp2_with fail
      go_ret
      exact ⟨false, rfl, HBR.out⟩
end Go.Proofs.YtmhkacafilpliaaGreat

namespace Go.Proofs.YtmhkacafilpliaaGreat
open Go.RowKit Go.Sort Go.Shelf Go.BigFrame

/-- A row of the call's own, its elements twins apart from it. -/
def TTrees (base : Nat) (w : World) (u : LA) : Prop := OwnV w base (.slice u.a u.l.length u.c) u.l ∧ ∀ r ∈ u.l, ∃ lo hi, r.Tw w lo hi ∧ base ≤ lo ∧ hi ≤ w.heap.size ∧ ∀ q, (Value.slice u.a u.l.length u.c).ownBlock = some q → ¬ (lo ≤ q ∧ q < hi)
theorem ttrees_nil (base : Nat) (w : World) : TTrees base w ⟨none, [], 0⟩ := ⟨World.ownsRow_nil _ _ _ _, fun _r hr => absurd hr List.not_mem_nil⟩
theorem TTrees.tw {base : Nat} {w : World} {u : LA} (h : TTrees base w u) {r : AV} (hr : r ∈ u.l) : r.Tw w 0 w.heap.size := by
  obtain ⟨lo, hi, h2, h3, h4, -⟩ := h.2 r hr
  exact h2.widen (Nat.zero_le _) h4
theorem TTrees.rd {base : Nat} {w w0 : World} {u x : LA} (h : TTrees base w u) (he : u.v = x.v) (hx : x.Rd w0) : u.Rd w := by
  refine ⟨(own_sl AV.enc_len h.1).widen (Nat.zero_le _) (Nat.le_refl _), ?_, fun y hy => ⟨(h.tw hy).rd, ?_⟩⟩
  · have := congrArg List.length he
    rw [LA.v, LA.v, List.length_map, List.length_map] at this
    rw [this]; exact hx.len
  · have hm : y.v ∈ x.v := by rw [← he, LA.v]; exact List.mem_map_of_mem hy
    obtain ⟨z, hz, e⟩ := List.mem_map.1 hm
    have : y.w = z.w := by show y.v.w = z.v.w; rw [e]
    rw [this]; exact (hx.kids z hz).2
theorem ttrees_add {base : Nat} {w w2 : World} {u : LA} {z : AV} (ht : TTrees base w u) (hbase : base ≤ w.heap.size) (hb : Below w.heap.size w w2) (hz : z.Tw w2 w.heap.size w2.heap.size) (hl : u.l.length ≤ 1048576) :
    ∃ (u' : LA) (W' : World), (∀ ty, (Builtin.append_ #[23, 23] ty #[.slice u.a u.l.length u.c, .slice (some ⟨w2.heap.size, 0, none⟩) 1 1]).run Tryz.prog (w2.alloc (.cells #[.int .u8 z.k, .string z.t, .slice z.la z.l.length z.lc, .slice z.ka z.ks.length z.kc] 26)) = .ok (.slice u'.a u'.l.length u'.c) W') ∧
      u'.l = u.l ++ [z] ∧ TTrees base W' u' ∧ Below base w W' := by
  obtain ⟨ho, hk⟩ := ht
  have hsz := hb.size
  have hlit : SlE AV.enc 4 (w2.alloc (.cells #[.int .u8 z.k, .string z.t, .slice z.la z.l.length z.lc, .slice z.ka z.ks.length z.kc] 26)) w2.heap.size (w2.heap.size + 1) (some ⟨w2.heap.size, 0, none⟩) [z] := lit_sl (enc := AV.enc) (size := 4) (l := [z]) (t := 26) (fr := (0, 0)) AV.enc_len (heap_alloc_new _ _)
  obtain ⟨v', W', hrun, hown', hgr, hat⟩ := app_val (c := 1) (own_below (own_below ho hb) ((Below.refl _ _).alloc (Nat.le_refl _) _)) hlit (by simp; omega) (by simp; omega)
  obtain ⟨a', c', rfl⟩ := own_formE hown'
  have hgl : ∀ q, (Value.slice u.a u.l.length u.c).ownBlock = some q → base ≤ q ∧ q < w.heap.size := World.ownsRow.lt ho
  have hsz3 := hgr.size
  rw [World.size_alloc] at hsz3
  have hnew : ∀ q, (Value.slice a' (u.l ++ [z]).length c').ownBlock = some q → (Value.slice u.a u.l.length u.c).ownBlock = some q ∨ q = w2.heap.size + 1 := fun q hq => by
    rcases hat with e | e
    · exact .inl (e ▸ hq)
    · rw [hq, World.size_alloc] at e
      injection e with e
      exact .inr e
  have hblk : ∀ q, q < w2.heap.size → (∀ g, (Value.slice u.a u.l.length u.c).ownBlock = some g → q ≠ g) → W'.heap[q]? = w2.heap[q]? := fun q hq hne => by
    rw [hgr.block q (by rw [World.size_alloc]; omega) (fun e => hne q e.symm rfl), old_al _ hq]
  have key : ∀ (r : AV) lo hi, r.Tw w2 lo hi → base ≤ lo → hi ≤ w2.heap.size → (∀ q, (Value.slice u.a u.l.length u.c).ownBlock = some q → ¬ (lo ≤ q ∧ q < hi)) → ∃ lo hi, r.Tw W' lo hi ∧ base ≤ lo ∧ hi ≤ W'.heap.size ∧ ∀ q, (Value.slice a' (u.l ++ [z]).length c').ownBlock = some q → ¬ (lo ≤ q ∧ q < hi) := by
    intro r lo hi h1 h2 h3 h4
    refine ⟨lo, hi, h1.kept (by omega) (fun q q1 q2 q3 => hblk q q3 fun g hg e => h4 g hg ⟨by omega, by omega⟩), h2, by omega, fun q hq hc => ?_⟩
    rcases hnew q hq with e | e
    · exact h4 q e hc
    · omega
  refine ⟨⟨a', u.l ++ [z], c'⟩, W', hrun, rfl, ⟨hown', fun r hr => ?_⟩, ((hb.mono hbase).trans ((Below.refl _ _).alloc (by omega) _)).grown hgr (by simp; omega) (fun q hq => (hgl q hq).1)⟩
  rcases List.mem_append.1 hr with hr | hr
  · obtain ⟨lo, hi, h1, h2, h3, h4⟩ := hk r hr
    exact key r lo hi (h1.blw hb h3) h2 (by omega) h4
  · simp at hr; subst hr
    exact key _ w.heap.size w2.heap.size hz hbase (Nat.le_refl _) fun q hq hc => by have := hgl q hq; omega
set_option maxRecDepth 100000 in
set_option maxHeartbeats 12800000 in
theorem aany (w : World) (x : AV) (y : LA) (hx : Rd w x) (hwx : x.w ≤ 1048576) (hy : y.Rd w) : Calls Tryz.prog 3 #[x.val, .slice y.a y.l.length y.c] w (Ret (.bool true) w) := by
  have HRX := Lib.hid (show ∀ W, Below w.heap.size w W → Rd W x from fun W h => hx.up h)
  have HYR := Lib.hid (show ∀ W, Below w.heap.size w W → y.Rd W from fun W h => hy.up h)
  have HY := Lib.hid hy
  have HSL := Lib.hid hy.sl
  have hlen := hy.len
  have HLI := fun W => Lib.hid (lives21_c W)
  have HTX := fun W (h : Below w.heap.size w W) => Lib.hid (twin14_c x W (HRX.out W h) hwx)
  have HGR := fun W (h : Below w.heap.size w W) => Lib.hid (great21_c W x y (HRX.out W h) hwx (HYR.out W h))
  clear hx hy
  go_enter Tryz.func3, Tryz.ntmps3
  go_upto_region 1 with fail
  go_name_world W1 hW1
  have HX1 := Lib.hid (show W1.heap[w.heap.size]? = some (.cells #[.int .u8 x.k, .string x.t, .slice x.la x.l.length x.lc, .slice x.ka x.ks.length x.kc] 26 (0, 0)) by rw [← hW1]; exact heap_alloc_new w _)
  have HB1 := Lib.hid (show Below w.heap.size w W1 by rw [← hW1]; exact below_al (Below.refl _ _))
  obtain ⟨p0, p1, p2, p3⟩ := vb4 HX1.out
  clear hW1
  go_upto_region 3 with (first
    | (go_at_call 8; (with_reducible refine (HLI _).out.mono ?_); rintro e w99 ⟨rfl, h99⟩)
    | (go_at_call 7; (with_reducible refine (HGR _ HB1.out).out.mono ?_); rintro e w2 ⟨r, rfl, h2⟩; have HB2 := Lib.hid (below_via HB1.out h2); have HX2 := Lib.hid (blk_via h2 HX1.out); clear h2 p0 p1 p2 p3; cases r))
  all_goals first
    | (go_ret; exact ⟨rfl, below_via HB2.out h99⟩)
    | skip
  obtain ⟨p0, p1, p2, p3⟩ := vb4 HX2.out
  go_upto_region 4 with (go_at_call 9; (with_reducible refine (HTX _ HB2.out).out.mono ?_); rintro e w3 ⟨t, rfl, htv, htT, h3⟩)
  go_name_world W4 hW4
  obtain ⟨BT, hBT⟩ : ∃ B, B = w3.heap.size := ⟨_, rfl⟩
  have hb24 : Below w2.heap.size w2 W4 := by rw [← hW4]; exact below_al h3
  have HT4 := Lib.hid (show W4.heap[BT]? = some (.cells #[.int .u8 t.k, .string t.t, .slice t.la t.l.length t.lc, .slice t.ka t.ks.length t.kc] 26 (0, 0)) by rw [← hW4, hBT]; exact heap_alloc_new w3 _)
  have hT4 : t.Tw W4 0 W4.heap.size := (htT.widen (Nat.zero_le _) (Nat.le_refl _)).up (by rw [← hW4]; exact below_al (Below.refl _ _))
  have HB4 := Lib.hid (below_via HB2.out hb24)
  have HX4 := Lib.hid (blk_via hb24 HX2.out)
  have HTV := Lib.hid htv
  have HTT := Lib.hid (show ∀ W, Below W4.heap.size W4 W → t.Tw W 0 W.heap.size from fun W h => hT4.up h)
  have hwt : t.w ≤ 1048576 := by show t.v.w ≤ _; rw [htv]; exact hwx
  rw [← hBT]
  clear hW4 hBT hb24 h3 htv htT hT4 p0 p1 p2 p3 HTX HGR HB1 HB2 HX1 HX2
  go_wp2_with fail
  go_loopw [6, 7] (fun s6 s7 wr => ∃ (k : Nat) (u : LA), k ≤ y.l.length ∧ s7 = .int .i64 (k : Int) ∧ s6 = .slice u.a u.l.length u.c ∧ Hid (TTrees W4.heap.size wr u) ∧ Hid (u.l.map AV.v = (y.l.take k).map AV.v) ∧ Hid (Below W4.heap.size W4 wr)) (fun _ s7 _ => y.l.length - (intOf s7).toNat)
  case atStart => exact ⟨0, ⟨none, [], 0⟩, Nat.zero_le _, rfl, rfl, Lib.hid (ttrees_nil _ _), Lib.hid rfl, Lib.hid (Below.refl _ _)⟩
  case round =>
    obtain ⟨k, u, hk, rfl, rfl, HU, HUV, HDR⟩ := hrel
    have HBR := Lib.hid (below_via HB4.out HDR.out)
    by_cases hlt : k < y.l.length
    · have hks : y.l[k]? = some y.l[k] := List.getElem?_eq_getElem hlt
      generalize y.l[k] = z at *
      have hlt' : (k : Int) < (y.l.length : Int) := by omega
      have hk0 : (0 : Int) ≤ (k : Int) := by omega
      have HKS := Lib.hid hks
      obtain ⟨b, off, hla, -, -, hbw, c0, c1, c2, c3⟩ := vals_at HSL.out hks
      replace c0 := blkv HBR.out c0
      replace c1 := blkv HBR.out c1
      replace c2 := blkv HBR.out c2
      replace c3 := blkv HBR.out c3
      have HTZ := Lib.hid (twin14_c z wr ((HY.out.kids z (List.mem_of_getElem? hks)).1.up HBR.out) (HY.out.kids z (List.mem_of_getElem? hks)).2)
      have hul : u.l.length ≤ 1048576 := by
        have := congrArg List.length HUV.out
        rw [List.length_map, List.length_map, List.length_take] at this
        omega
      rw [hla]
      clear hla hbw hks
      go_wp2_with (first
        | (at_builtin; refine wl_append (s := .tmp 22) (x := .tmp 28) rfl rfl (hr _) ?_; clear hr)
        | (go_at_call 9; (with_reducible refine HTZ.out.mono ?_); rintro e w5 ⟨z', rfl, hzv, hzT, h5⟩
           obtain ⟨u', W', hr, hu', hut, hbw⟩ := ttrees_add HU.out HDR.out.size h5 hzT hul
           have HU' := Lib.hid hut
           have HL' := Lib.hid hu'
           have HB' := Lib.hid (HDR.out.trans hbw)
           have HZV := Lib.hid hzv
           clear hut hu' hbw hzv hzT h5))
      exact ⟨⟨k + 1, u', by omega, by go_num, rfl, HU', Lib.hid (by rw [HL'.out, List.map_append, HUV.out, List.take_add_one, HKS.out, List.map_append]; simp [HZV.out]), HB'⟩, by simp [intOf]; omega⟩
    · have hkl : k = y.l.length := by omega
      subst hkl
      have hge : ¬ (y.l.length : Int) < (y.l.length : Int) := by omega
      obtain ⟨W9, hW9⟩ : ∃ W, W = wr := ⟨_, rfl⟩
      subst hW9
      have huv : u.l.map AV.v = y.l.map AV.v := by rw [HUV.out, List.take_length]
      have hulen : u.l.length = y.l.length := by
        have := congrArg List.length huv
        rwa [List.length_map, List.length_map] at this
      have HUR := Lib.hid (show ∀ W, Below W9.heap.size W9 W → u.Rd W from fun W h => ⟨((own_sl AV.enc_len HU.out.1).widen (Nat.zero_le _) (Nat.le_refl _)).up h, by rw [hulen]; exact hlen, fun r hr => by
        have hm : r.v ∈ y.l.map AV.v := by rw [← huv]; exact List.mem_map_of_mem hr
        obtain ⟨z, hz, e⟩ := List.mem_map.1 hm
        have e2 : r.w = z.w := by show r.v.w = z.v.w; rw [e]
        exact ⟨AV.Tw.rd r ((HU.out.tw hr).up h), by rw [e2]; exact (HY.out.kids z hz).2⟩⟩)
      have HUT := Lib.hid (show ∀ r ∈ u.l, ∀ W, Below W9.heap.size W9 W → r.Tw W 0 W.heap.size from fun r hr W h => (HU.out.tw hr).up h)
      have HUL := Lib.hid (And.intro huv hulen)
      have HX9 := Lib.hid (blk_via HDR.out HX4.out)
      have HT9 := Lib.hid (blk_via HDR.out HT4.out)
      have HD9 := HDR
      obtain ⟨ma, hma⟩ : ∃ m, m = x.v.may := ⟨_, rfl⟩
      obtain ⟨P, hP⟩ : ∃ P, P = (nearP x.v (y.l.map AV.v) y.l.length).1 := ⟨_, rfl⟩
      have HH1 := fun W (h : Below W9.heap.size W9 W) => Lib.hid (show Calls Tryz.prog 10 #[t.val, .slice u.a u.l.length u.c] W (Ret (.int .i64 P) W) by
        have hu := HUR.out W h
        have := nearest_c W t u.a u.c u.l hu.sl hu.len (AV.Tw.rd t (HTT.out W (below_via HD9.out h))) hwt hu.kids
        rwa [HTV.out, HUL.out.1, HUL.out.2, ← hP, ← HUL.out.2] at this)
      have HH2 := fun W (h : Below W9.heap.size W9 W) => Lib.hid (show Calls Tryz.prog 11 #[x.val, .slice y.a y.l.length y.c] W (Ret (.int .i64 P) W) by
        have := rnearest_c W x y (HRX.out W (below_via HBR.out h)) hwx (HYR.out W (below_via HBR.out h))
        rwa [← hP] at this)
      have HH3 := fun W (h : Below W9.heap.size W9 W) => Lib.hid (show Calls Tryz.prog 12 #[t.val, t.val] W (Ret (.bool ma) W) by
        have hr := AV.Tw.rd t (HTT.out W (below_via HD9.out h))
        have := are21_c W t t hr hr hwt hwt
        rwa [are_self, HTV.out, ← hma] at this)
      have HH4 := fun W (h : Below W9.heap.size W9 W) => Lib.hid (show Calls Tryz.prog 13 #[x.val] W (Ret (.bool ma) W) by
        rw [hma]; exact rmay_c x W (HRX.out W (below_via HBR.out h)) hwx)
      have hpp : (P != P) = false := by simp
      obtain ⟨p0, p1, p2, p3⟩ := vb4 HX9.out
      obtain ⟨q0, q1, q2, q3⟩ := vb4 HT9.out
      have LD := Lib.hid (fun W (h : Below W9.heap.size W9 W) => And.intro (blkv h p0) (And.intro (blkv h p1) (And.intro (blkv h p2) (And.intro (blkv h p3) (And.intro (blkv h q0) (And.intro (blkv h q1) (And.intro (blkv h q2) (blkv h q3))))))))
      clear huv hulen hma hP p0 p1 p2 p3 q0 q1 q2 q3
      go_upto_region 9 with fail
      go_cut [46] (fun s46 wx => s46 = .bool false ∧ Hid (Below W9.heap.size W9 wx))
      case first =>
        cases ma with
        | true =>
          refine wp_region_bl (by kernel_rfl) (by kernel_rfl) ?_
          repeat (first | go_big_quiet_skip | (go_big_quiet_want; go_big_quiet_op; first | go_big_quiet_on | (refine ⟨_, fun _ _ => (by with_reducible rfl), ?_⟩; go_big_quiet_on) | (apply Exists.intro; refine ⟨fun w' hC => (by simp only [LD.out w' hC, Result.andThen]; exact ⟨trivial, rfl⟩), ?_⟩; go_big_quiet_on) | (apply Exists.intro; refine ⟨fun w' hC => (by (with_reducible refine (HH1 w' hC).out.mono ?_); exact fun e w2 ⟨he, hb⟩ => ⟨he, hC.trans (hb.mono hC.size)⟩), ?_⟩; go_big_quiet_on) | (apply Exists.intro; refine ⟨fun w' hC => (by (with_reducible refine (HH2 w' hC).out.mono ?_); exact fun e w2 ⟨he, hb⟩ => ⟨he, hC.trans (hb.mono hC.size)⟩), ?_⟩; go_big_quiet_on) | (apply Exists.intro; refine ⟨fun w' hC => (by (with_reducible refine (HH3 w' hC).out.mono ?_); exact fun e w2 ⟨he, hb⟩ => ⟨he, hC.trans (hb.mono hC.size)⟩), ?_⟩; go_big_quiet_on) | (apply Exists.intro; refine ⟨fun w' hC => (by (with_reducible refine (HH4 w' hC).out.mono ?_); exact fun e w2 ⟨he, hb⟩ => ⟨he, hC.trans (hb.mono hC.size)⟩), ?_⟩; go_big_quiet_on)))
          refine wpQuiet_nil ?_; intro wz hbz
          go_wp2_with fail
          go_meet
          exact ⟨rfl, Lib.hid hbz⟩
        | false =>
          refine wp_region_bl (by kernel_rfl) (by kernel_rfl) ?_
          repeat (first | go_big_quiet_skip | (go_big_quiet_want; go_big_quiet_op; first | go_big_quiet_on | (refine ⟨_, fun _ _ => (by with_reducible rfl), ?_⟩; go_big_quiet_on) | (apply Exists.intro; refine ⟨fun w' hC => (by simp only [LD.out w' hC, Result.andThen]; exact ⟨trivial, rfl⟩), ?_⟩; go_big_quiet_on) | (apply Exists.intro; refine ⟨fun w' hC => (by (with_reducible refine (HH1 w' hC).out.mono ?_); exact fun e w2 ⟨he, hb⟩ => ⟨he, hC.trans (hb.mono hC.size)⟩), ?_⟩; go_big_quiet_on) | (apply Exists.intro; refine ⟨fun w' hC => (by (with_reducible refine (HH2 w' hC).out.mono ?_); exact fun e w2 ⟨he, hb⟩ => ⟨he, hC.trans (hb.mono hC.size)⟩), ?_⟩; go_big_quiet_on) | (apply Exists.intro; refine ⟨fun w' hC => (by (with_reducible refine (HH3 w' hC).out.mono ?_); exact fun e w2 ⟨he, hb⟩ => ⟨he, hC.trans (hb.mono hC.size)⟩), ?_⟩; go_big_quiet_on) | (apply Exists.intro; refine ⟨fun w' hC => (by (with_reducible refine (HH4 w' hC).out.mono ?_); exact fun e w2 ⟨he, hb⟩ => ⟨he, hC.trans (hb.mono hC.size)⟩), ?_⟩; go_big_quiet_on)))
          refine wpQuiet_nil ?_; intro wz hbz
          go_wp2_with fail
          go_meet
          exact ⟨rfl, Lib.hid hbz⟩
      case rest =>
        obtain ⟨rfl, HC9⟩ := hcut
        clear HH1 HH2 HH3 HH4 LD hpp
        go_wp2_with fail
        obtain ⟨WB, hWB⟩ : ∃ W, W = wc := ⟨_, rfl⟩
        subst hWB
        go_loopw [8] (fun s8 wr => ∃ k : Nat, k ≤ y.l.length ∧ s8 = .int .i64 (k : Int) ∧ Hid (Below W9.heap.size W9 wr)) (fun s8 _ => y.l.length - (intOf s8).toNat)
        case atStart => exact ⟨0, Nat.zero_le _, rfl, HC9⟩
        case round =>
          obtain ⟨k, hk, rfl, HDK⟩ := hrel
          by_cases hlt : k < y.l.length
          · have hks : y.l[k]? = some y.l[k] := List.getElem?_eq_getElem hlt
            generalize y.l[k] = z at *
            have hlu : k < u.l.length := by rw [HUL.out.2]; exact hlt
            have hku : u.l[k]? = some u.l[k] := List.getElem?_eq_getElem hlu
            generalize u.l[k] = v at *
            have hvz : v.v = z.v := by
              have h1 : (u.l.map AV.v)[k]? = some v.v := by rw [List.getElem?_map, hku]; rfl
              rw [HUL.out.1, List.getElem?_map, hks] at h1
              injection h1 with h1
              exact h1.symm
            have hlt' : (k : Int) < (y.l.length : Int) := by omega
            have hlu' : (k : Int) < (u.l.length : Int) := by omega
            have hk0 : (0 : Int) ≤ (k : Int) := by omega
            obtain ⟨b, off, hla, -, -, -, c0, c1, c2, c3⟩ := vals_at HSL.out hks
            obtain ⟨b2, off2, hla2, -, -, -, d0, d1, d2, d3⟩ := vals_at (HUR.out W9 (Below.refl _ _)).sl hku
            have HCL := Lib.hid (show ∀ W, Below W9.heap.size W9 W → (W.cell? ⟨b, off + k * 4, none⟩ = some (.int .u8 z.k) ∧ W.cell? ⟨b, off + k * 4 + 1, none⟩ = some (.string z.t) ∧ W.cell? ⟨b, off + k * 4 + 2, none⟩ = some (.slice z.la z.l.length z.lc) ∧ W.cell? ⟨b, off + k * 4 + 3, none⟩ = some (.slice z.ka z.ks.length z.kc)) ∧ (W.cell? ⟨b2, off2 + k * 4, none⟩ = some (.int .u8 v.k) ∧ W.cell? ⟨b2, off2 + k * 4 + 1, none⟩ = some (.string v.t) ∧ W.cell? ⟨b2, off2 + k * 4 + 2, none⟩ = some (.slice v.la v.l.length v.lc) ∧ W.cell? ⟨b2, off2 + k * 4 + 3, none⟩ = some (.slice v.ka v.ks.length v.kc)) from fun W h =>
              ⟨⟨blkv (below_via HBR.out h) c0, blkv (below_via HBR.out h) c1, blkv (below_via HBR.out h) c2, blkv (below_via HBR.out h) c3⟩, blkv h d0, blkv h d1, blkv h d2, blkv h d3⟩)
            have hwz := (HY.out.kids z (List.mem_of_getElem? hks)).2
            have hwv : v.w ≤ 1048576 := by show v.v.w ≤ _; rw [hvz]; exact hwz
            have HRZ := Lib.hid (show ∀ W, Below W9.heap.size W9 W → Rd W z from fun W h => (HY.out.kids z (List.mem_of_getElem? hks)).1.up (below_via HBR.out h))
            have HTW := Lib.hid (HUT.out v (List.mem_of_getElem? hku))
            have HVZ := Lib.hid hvz
            rw [hla, hla2]
            obtain ⟨ia, hia⟩ : ∃ i, i = (nearI x.v z.v != -1) := ⟨_, rfl⟩
            have HRA := Lib.hid (show ∀ W, Below W9.heap.size W9 W → Calls Tryz.prog 14 #[x.val, z.val] W (Ret (.bool ia) W) from fun W h => by rw [hia]; exact rare_c W x z (HRX.out W (below_via HBR.out h)) (HRZ.out W h) hwx hwz)
            have HA1 := Lib.hid (show ∀ W, Below W9.heap.size W9 W → Calls Tryz.prog 12 #[t.val, v.val] W (Ret (.bool ia) W) from fun W h => by
              have := are21_c W t v (AV.Tw.rd t (HTT.out W (below_via HD9.out h))) (AV.Tw.rd v (HTW.out W h)) hwt hwv
              rwa [HTV.out, HVZ.out, ← hia] at this)
            have HA2 := Lib.hid (show ∀ W, Below W9.heap.size W9 W → Calls Tryz.prog 12 #[v.val, t.val] W (Ret (.bool ia) W) from fun W h => by
              have := are21_c W v t (AV.Tw.rd v (HTW.out W h)) (AV.Tw.rd t (HTT.out W (below_via HD9.out h))) hwv hwt
              rwa [HTV.out, HVZ.out, are_symm, ← hia] at this)
            have HLF := Lib.hid (show ∀ W, Below W9.heap.size W9 W → Calls Tryz.prog 15 #[v.val, z.val] W (Ret (.bool true) W) from fun W h => left14_c z v W HVZ.out (HTW.out W h) (HRZ.out W h) hwz)
            have HXK := Lib.hid (blk_via HDK.out HX9.out)
            obtain ⟨⟨e0, e1, e2, e3⟩, -⟩ := HCL.out wr HDK.out
            obtain ⟨p0, p1, p2, p3⟩ := vb4 HXK.out
            have LD := Lib.hid (fun W (h : Below wr.heap.size wr W) => And.intro (blkv h p0) (And.intro (blkv h p1) (And.intro (blkv h p2) (And.intro (blkv h p3) (And.intro (blkv h e0) (And.intro (blkv h e1) (And.intro (blkv h e2) (blkv h e3))))))))
            have HH1 := fun W (h : Below wr.heap.size wr W) => Lib.hid (HRA.out W (below_via HDK.out h))
            clear hvz hia hla hla2 hks hku c0 c1 c2 c3 d0 d1 d2 d3 e0 e1 e2 e3 p0 p1 p2 p3 hlu
            go_upto_region 14 with fail
            refine wp_region_bl (by kernel_rfl) (by kernel_rfl) ?_
            repeat (first | go_big_quiet_skip | (go_big_quiet_want; go_big_quiet_op; first | go_big_quiet_on | (refine ⟨_, fun _ _ => (by with_reducible rfl), ?_⟩; go_big_quiet_on) | (apply Exists.intro; refine ⟨fun w' hC => (by simp only [LD.out w' hC, Result.andThen]; exact ⟨trivial, rfl⟩), ?_⟩; go_big_quiet_on) | (apply Exists.intro; refine ⟨fun w' hC => (by (with_reducible refine (HH1 w' hC).out.mono ?_); exact fun e w2 ⟨he, hb⟩ => ⟨he, hC.trans (hb.mono hC.size)⟩), ?_⟩; go_big_quiet_on)))
            refine wpQuiet_nil ?_; intro wz hbz
            obtain ⟨WC, hWC⟩ : ∃ W, W = wz := ⟨_, rfl⟩
            subst hWC
            have HDC := Lib.hid (below_via HDK.out hbz)
            clear hbz LD HH1
            obtain ⟨⟨e0, e1, e2, e3⟩, d0, d1, d2, d3⟩ := HCL.out WC HDC.out
            obtain ⟨q0, q1, q2, q3⟩ := vb4 (blk_via HDC.out HT9.out)
            have LD := Lib.hid (fun W (h : Below WC.heap.size WC W) => And.intro (blkv h q0) (And.intro (blkv h q1) (And.intro (blkv h q2) (And.intro (blkv h q3) (And.intro (blkv h e0) (And.intro (blkv h e1) (And.intro (blkv h e2) (And.intro (blkv h e3) (And.intro (blkv h d0) (And.intro (blkv h d1) (And.intro (blkv h d2) (blkv h d3))))))))))))
            have HH2 := fun W (h : Below WC.heap.size WC W) => Lib.hid (HA1.out W (below_via HDC.out h))
            have HH3 := fun W (h : Below WC.heap.size WC W) => Lib.hid (HA2.out W (below_via HDC.out h))
            have HH4 := fun W (h : Below WC.heap.size WC W) => Lib.hid (HLF.out W (below_via HDC.out h))
            clear e0 e1 e2 e3 d0 d1 d2 d3 q0 q1 q2 q3
            go_upto_region 15 with fail
            cases ia with
            | true =>
              refine wp_region_bl (by kernel_rfl) (by kernel_rfl) ?_
              repeat (first | go_big_quiet_skip | (go_big_quiet_want; go_big_quiet_op; first | go_big_quiet_on | (refine ⟨_, fun _ _ => (by with_reducible rfl), ?_⟩; go_big_quiet_on) | (apply Exists.intro; refine ⟨fun w' hC => (by simp only [LD.out w' hC, Result.andThen]; exact ⟨trivial, rfl⟩), ?_⟩; go_big_quiet_on) | (apply Exists.intro; refine ⟨fun w' hC => (by (with_reducible refine (HH2 w' hC).out.mono ?_); exact fun e w2 ⟨he, hb⟩ => ⟨he, hC.trans (hb.mono hC.size)⟩), ?_⟩; go_big_quiet_on) | (apply Exists.intro; refine ⟨fun w' hC => (by (with_reducible refine (HH3 w' hC).out.mono ?_); exact fun e w2 ⟨he, hb⟩ => ⟨he, hC.trans (hb.mono hC.size)⟩), ?_⟩; go_big_quiet_on) | (apply Exists.intro; refine ⟨fun w' hC => (by (with_reducible refine (HH4 w' hC).out.mono ?_); exact fun e w2 ⟨he, hb⟩ => ⟨he, hC.trans (hb.mono hC.size)⟩), ?_⟩; go_big_quiet_on)))
              refine wpQuiet_nil ?_; intro wz hbz
              go_wp2_with fail
              exact ⟨⟨k + 1, by omega, by go_num, Lib.hid (below_via HDC.out hbz)⟩, by simp [intOf]; omega⟩
            | false =>
              refine wp_region_bl (by kernel_rfl) (by kernel_rfl) ?_
              repeat (first | go_big_quiet_skip | (go_big_quiet_want; go_big_quiet_op; first | go_big_quiet_on | (refine ⟨_, fun _ _ => (by with_reducible rfl), ?_⟩; go_big_quiet_on) | (apply Exists.intro; refine ⟨fun w' hC => (by simp only [LD.out w' hC, Result.andThen]; exact ⟨trivial, rfl⟩), ?_⟩; go_big_quiet_on) | (apply Exists.intro; refine ⟨fun w' hC => (by (with_reducible refine (HH2 w' hC).out.mono ?_); exact fun e w2 ⟨he, hb⟩ => ⟨he, hC.trans (hb.mono hC.size)⟩), ?_⟩; go_big_quiet_on) | (apply Exists.intro; refine ⟨fun w' hC => (by (with_reducible refine (HH3 w' hC).out.mono ?_); exact fun e w2 ⟨he, hb⟩ => ⟨he, hC.trans (hb.mono hC.size)⟩), ?_⟩; go_big_quiet_on) | (apply Exists.intro; refine ⟨fun w' hC => (by (with_reducible refine (HH4 w' hC).out.mono ?_); exact fun e w2 ⟨he, hb⟩ => ⟨he, hC.trans (hb.mono hC.size)⟩), ?_⟩; go_big_quiet_on)))
              refine wpQuiet_nil ?_; intro wz hbz
              go_wp2_with fail
              exact ⟨⟨k + 1, by omega, by go_num, Lib.hid (below_via HDC.out hbz)⟩, by simp [intOf]; omega⟩
          · have hkl : k = y.l.length := by omega
            subst hkl
            have hge2 : ¬ (y.l.length : Int) < (y.l.length : Int) := by omega
            have HLF := Lib.hid (left14_c x t wr HTV.out (HTT.out wr (below_via HD9.out HDK.out)) (HRX.out wr (below_via HBR.out HDK.out)) hwx)
            obtain ⟨p0, p1, p2, p3⟩ := vb4 (blk_via HDK.out HX9.out)
            obtain ⟨q0, q1, q2, q3⟩ := vb4 (blk_via HDK.out HT9.out)
            go_wp2_with (first
              | (go_at_call 8; (with_reducible refine (HLI _).out.mono ?_); rintro e w99 ⟨rfl, h99⟩)
              | (go_at_call 15; (with_reducible refine HLF.out.mono ?_); rintro e w20 ⟨rfl, h20⟩))
            go_ret
            exact ⟨rfl, below_via (below_via (below_via HBR.out HDK.out) h20) h99⟩
end Go.Proofs.YtmhkacafilpliaaGreat
