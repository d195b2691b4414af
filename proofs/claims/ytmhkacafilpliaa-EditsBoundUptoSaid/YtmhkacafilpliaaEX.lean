/-
  EditsBound's walk. Conditions: the values and the list lie in memory, their weights and the length are bounded. (Printed by gen_ex.py.)
-/
import Derived.Test.YtmhkacafilpliaaEW
import Derived.Test.YtmhkacafilpliaaEJ
import Derived.Test.YtmhkacafilpliaaED
namespace Go.Proofs.Ytmhkacafilpliaa
open Go.RowKit Go.Sort Go.Shelf Go.BigFrame

theorem FR127 : List.range 127 = [0, 1, 2, 3, 4, 5, 6, 7, 8, 9, 10, 11, 12, 13, 14, 15, 16, 17, 18, 19, 20, 21, 22, 23, 24, 25, 26, 27, 28, 29, 30, 31, 32, 33, 34, 35, 36, 37, 38, 39, 40, 41, 42, 43, 44, 45, 46, 47, 48, 49, 50, 51, 52, 53, 54, 55, 56, 57, 58, 59, 60, 61, 62, 63, 64, 65, 66, 67, 68, 69, 70, 71, 72, 73, 74, 75, 76, 77, 78, 79, 80, 81, 82, 83, 84, 85, 86, 87, 88, 89, 90, 91, 92, 93, 94, 95, 96, 97, 98, 99, 100, 101, 102, 103, 104, 105, 106, 107, 108, 109, 110, 111, 112, 113, 114, 115, 116, 117, 118, 119, 120, 121, 122, 123, 124, 125, 126] := rfl
theorem listV_wl (l : List AV) : (listV (l.map AV.v)).w = 1 + (l.map AV.w).sum := by
  rw [listV_w, List.map_map]; rfl
set_option maxRecDepth 100000 in
set_option maxHeartbeats 12800000 in
theorem ebound (w : World) (x y : AV) (l : LA) (hx : Rd w x) (hy : Rd w y) (hl : l.Rd w) (hlc : l.l.length ≤ l.c) (hs : x.w + y.w + (l.l.map AV.w).sum ≤ 1048576) :
    Calls Try.prog 6 #[x.val, y.val, .slice l.a l.l.length l.c] w (Ret (.bool true) w) := by
  have hwx : x.w ≤ 1048576 := by omega
  have hwy : y.w ≤ 1048576 := by omega
  have HRX := Lib.hid (show ∀ W, Below w.heap.size w W → Rd W x from fun W h => hx.up h)
  have HRY := Lib.hid (show ∀ W, Below w.heap.size w W → Rd W y from fun W h => hy.up h)
  have HLI := fun W => Lib.hid (lives20_c W)
  have HSL := Lib.hid (show ∀ W, Below w.heap.size w W → SlE AV.enc 4 W 0 W.heap.size l.a l.l from fun W h => hl.sl.up h)
  have HKD := Lib.hid (show ∀ z ∈ l.l, (∀ W, Below w.heap.size w W → Rd W z) ∧ z.w ≤ 1048576 from fun z hz => ⟨fun W h => (hl.kids z hz).1.up h, (hl.kids z hz).2⟩)
  have HLC := Lib.hid hlc
  have HSM := Lib.hid hs
  obtain ⟨gr, hgr⟩ : ∃ gr, gr = greatB x.v y.v := ⟨_, rfl⟩
  obtain ⟨ma, hma⟩ : ∃ ma, ma = x.v.may := ⟨_, rfl⟩
  obtain ⟨mb, hmb⟩ : ∃ mb, mb = y.v.may := ⟨_, rfl⟩
  have HGR := fun W (h : Below w.heap.size w W) => Lib.hid (show Calls Try.prog 29 #[x.val, y.val] W (Ret (.bool gr) W) by rw [hgr]; exact great20_c W x y (HRX.out W h) (HRY.out W h) hwx hwy)
  have HMA := fun W (h : Below w.heap.size w W) => Lib.hid (show Calls Try.prog 30 #[x.val] W (Ret (.bool ma) W) by rw [hma]; exact may_c W x (HRX.out W h) hwx)
  have HMB := fun W (h : Below w.heap.size w W) => Lib.hid (show Calls Try.prog 30 #[y.val] W (Ret (.bool mb) W) by rw [hmb]; exact may_c W y (HRY.out W h) hwy)
  have HGM := Lib.hid (And.intro hgr (And.intro hma hmb))
  clear hx hy hl hlc hs hgr hma hmb
  go_enter Try.func6, Try.ntmps6
  go_upto_region 1 with fail
  go_name_world W1 hW1
  have HX1 := Lib.hid (show W1.heap[w.heap.size]? = some (.cells #[.int .u8 x.k, .string x.t, .slice x.la x.l.length x.lc, .slice x.ka x.ks.length x.kc] 26 (0, 0)) by rw [← hW1]; exact blk_al (heap_alloc_new w _))
  have HY1 := Lib.hid (show W1.heap[w.heap.size + 1]? = some (.cells #[.int .u8 y.k, .string y.t, .slice y.la y.l.length y.lc, .slice y.ka y.ks.length y.kc] 26 (0, 0)) by rw [← hW1]; exact blk_new2 w _ _)
  have HB1 := Lib.hid (show Below w.heap.size w W1 by rw [← hW1]; exact below_al (below_al (Below.refl _ _)))
  obtain ⟨p0, p1, p2, p3⟩ := vb4 HX1.out
  obtain ⟨q0, q1, q2, q3⟩ := vb4 HY1.out
  clear hW1
  cases gr with
  | true =>
    go_wp2_with (first
      | (go_at_call 24; (with_reducible refine (HLI _).out.mono ?_); rintro e w99 ⟨rfl, h99⟩)
      | (go_at_call 29; (with_reducible refine (HGR _ HB1.out).out.mono ?_); rintro e w2 ⟨rfl, h2⟩; have HB2 := Lib.hid (below_via HB1.out h2); have HX2 := Lib.hid (blk_via h2 HX1.out); clear p0 p1 p2 p3; obtain ⟨p0, p1, p2, p3⟩ := vb4 HX2.out; have HY2 := Lib.hid (blk_via h2 HY1.out); clear q0 q1 q2 q3; obtain ⟨q0, q1, q2, q3⟩ := vb4 HY2.out; clear h2))
    go_ret
    exact ⟨rfl, below_via HB2.out h99⟩
  | false =>
  cases ma with
  | false =>
    go_wp2_with (first
      | (go_at_call 24; (with_reducible refine (HLI _).out.mono ?_); rintro e w99 ⟨rfl, h99⟩)
      | (go_at_call 30; (with_reducible refine (HMA _ HB2.out).out.mono ?_); rintro e w3 ⟨rfl, h3⟩; have HB3 := Lib.hid (below_via HB2.out h3); have HX3 := Lib.hid (blk_via h3 HX2.out); clear p0 p1 p2 p3; obtain ⟨p0, p1, p2, p3⟩ := vb4 HX3.out; have HY3 := Lib.hid (blk_via h3 HY2.out); clear q0 q1 q2 q3; obtain ⟨q0, q1, q2, q3⟩ := vb4 HY3.out; clear h3)
      | (go_at_call 29; (with_reducible refine (HGR _ HB1.out).out.mono ?_); rintro e w2 ⟨rfl, h2⟩; have HB2 := Lib.hid (below_via HB1.out h2); have HX2 := Lib.hid (blk_via h2 HX1.out); clear p0 p1 p2 p3; obtain ⟨p0, p1, p2, p3⟩ := vb4 HX2.out; have HY2 := Lib.hid (blk_via h2 HY1.out); clear q0 q1 q2 q3; obtain ⟨q0, q1, q2, q3⟩ := vb4 HY2.out; clear h2))
    go_ret
    exact ⟨rfl, below_via HB3.out h99⟩
  | true =>
  cases mb with
  | false =>
    go_wp2_with (first
      | (go_at_call 24; (with_reducible refine (HLI _).out.mono ?_); rintro e w99 ⟨rfl, h99⟩)
      | (go_at_call 30; (with_reducible refine (HMB _ HB3.out).out.mono ?_); rintro e w4 ⟨rfl, h4⟩; have HB4 := Lib.hid (below_via HB3.out h4); have HX4 := Lib.hid (blk_via h4 HX3.out); clear p0 p1 p2 p3; obtain ⟨p0, p1, p2, p3⟩ := vb4 HX4.out; have HY4 := Lib.hid (blk_via h4 HY3.out); clear q0 q1 q2 q3; obtain ⟨q0, q1, q2, q3⟩ := vb4 HY4.out; clear h4)
      | (go_at_call 30; (with_reducible refine (HMA _ HB2.out).out.mono ?_); rintro e w3 ⟨rfl, h3⟩; have HB3 := Lib.hid (below_via HB2.out h3); have HX3 := Lib.hid (blk_via h3 HX2.out); clear p0 p1 p2 p3; obtain ⟨p0, p1, p2, p3⟩ := vb4 HX3.out; have HY3 := Lib.hid (blk_via h3 HY2.out); clear q0 q1 q2 q3; obtain ⟨q0, q1, q2, q3⟩ := vb4 HY3.out; clear h3)
      | (go_at_call 29; (with_reducible refine (HGR _ HB1.out).out.mono ?_); rintro e w2 ⟨rfl, h2⟩; have HB2 := Lib.hid (below_via HB1.out h2); have HX2 := Lib.hid (blk_via h2 HX1.out); clear p0 p1 p2 p3; obtain ⟨p0, p1, p2, p3⟩ := vb4 HX2.out; have HY2 := Lib.hid (blk_via h2 HY1.out); clear q0 q1 q2 q3; obtain ⟨q0, q1, q2, q3⟩ := vb4 HY2.out; clear h2))
    go_ret
    exact ⟨rfl, below_via HB4.out h99⟩
  | true =>
  by_cases c10 : 10 < l.l.length
  · have c10' : (10 : Int) < (l.l.length : Int) := by omega
    go_wp2_with (first
      | (go_at_call 24; (with_reducible refine (HLI _).out.mono ?_); rintro e w99 ⟨rfl, h99⟩)
      | (go_at_call 30; (with_reducible refine (HMB _ HB3.out).out.mono ?_); rintro e w4 ⟨rfl, h4⟩; have HB4 := Lib.hid (below_via HB3.out h4); have HX4 := Lib.hid (blk_via h4 HX3.out); clear p0 p1 p2 p3; obtain ⟨p0, p1, p2, p3⟩ := vb4 HX4.out; have HY4 := Lib.hid (blk_via h4 HY3.out); clear q0 q1 q2 q3; obtain ⟨q0, q1, q2, q3⟩ := vb4 HY4.out; clear h4)
      | (go_at_call 30; (with_reducible refine (HMA _ HB2.out).out.mono ?_); rintro e w3 ⟨rfl, h3⟩; have HB3 := Lib.hid (below_via HB2.out h3); have HX3 := Lib.hid (blk_via h3 HX2.out); clear p0 p1 p2 p3; obtain ⟨p0, p1, p2, p3⟩ := vb4 HX3.out; have HY3 := Lib.hid (blk_via h3 HY2.out); clear q0 q1 q2 q3; obtain ⟨q0, q1, q2, q3⟩ := vb4 HY3.out; clear h3)
      | (go_at_call 29; (with_reducible refine (HGR _ HB1.out).out.mono ?_); rintro e w2 ⟨rfl, h2⟩; have HB2 := Lib.hid (below_via HB1.out h2); have HX2 := Lib.hid (blk_via h2 HX1.out); clear p0 p1 p2 p3; obtain ⟨p0, p1, p2, p3⟩ := vb4 HX2.out; have HY2 := Lib.hid (blk_via h2 HY1.out); clear q0 q1 q2 q3; obtain ⟨q0, q1, q2, q3⟩ := vb4 HY2.out; clear h2))
    go_ret
    exact ⟨rfl, below_via HB4.out h99⟩
  have c10' : ¬ (10 : Int) < (l.l.length : Int) := by omega
  obtain ⟨k, hk⟩ : ∃ k, k = farV x.v y.v := ⟨_, rfl⟩
  obtain ⟨n, hn⟩ : ∃ n, n = szV x.v := ⟨_, rfl⟩
  obtain ⟨m, hm⟩ : ∃ m, m = szV y.v := ⟨_, rfl⟩
  have hfx := apart_facts HGM.out.1.symm HGM.out.2.1.symm HGM.out.2.2.symm
  rw [← hk] at hfx
  have hnn : n = x.v.size := by rw [hn, szV, ← HGM.out.2.1]; rfl
  have hmm : m = y.v.size := by rw [hm, szV, ← HGM.out.2.2]; rfl
  have hlow := farV_low HGM.out.2.1.symm HGM.out.2.2.symm
  have hlt := farV_lt HGM.out.2.1.symm HGM.out.2.2.symm
  rw [← hk, ← hnn, ← hmm] at hlow hlt
  have bN : n ≤ 1048576 := by have := szV_le x.v; have e : x.v.w = x.w := rfl; omega
  have bM : m ≤ 1048576 := by have := szV_le y.v; have e : y.v.w = y.w := rfl; omega
  have hn0 : 0 < n := by rw [hnn]; exact size_pos _
  have HFA := fun W (h : Below w.heap.size w W) => Lib.hid (show Calls Try.prog 26 #[x.val, y.val] W (Ret (.int .i64 (k : Nat)) W) by rw [← hfx.1]; exact far_c W x y (HRX.out W h) (HRY.out W h) hwx hwy)
  have HSX := fun W (h : Below w.heap.size w W) => Lib.hid (show Calls Try.prog 31 #[x.val] W (Ret (.int .i64 (n : Nat)) W) by
    have := size_c W x (HRX.out W h) hwx
    rwa [show (if x.v.may then (x.v.size : Int) else 0) = (n : Int) by rw [hn, szV]; split <;> rfl] at this)
  have HSY := fun W (h : Below w.heap.size w W) => Lib.hid (show Calls Try.prog 31 #[y.val] W (Ret (.int .i64 (m : Nat)) W) by
    have := size_c W y (HRY.out W h) hwy
    rwa [show (if y.v.may then (y.v.size : Int) else 0) = (m : Int) by rw [hm, szV]; split <;> rfl] at this)
  have HKN := Lib.hid (And.intro hk (And.intro hnn hmm))
  have HFX := Lib.hid hfx
  clear hk hn hm hfx hnn hmm
  go_upto_region 6 with (first
      | (go_at_call 26; (with_reducible refine (HFA _ HB6.out).out.mono ?_); rintro e w7 ⟨rfl, h7⟩; have HB7 := Lib.hid (below_via HB6.out h7); have HX7 := Lib.hid (blk_via h7 HX6.out); clear p0 p1 p2 p3; obtain ⟨p0, p1, p2, p3⟩ := vb4 HX7.out; have HY7 := Lib.hid (blk_via h7 HY6.out); clear q0 q1 q2 q3; obtain ⟨q0, q1, q2, q3⟩ := vb4 HY7.out; clear h7)
      | (go_at_call 31; (with_reducible refine (HSY _ HB5.out).out.mono ?_); rintro e w6 ⟨rfl, h6⟩; have HB6 := Lib.hid (below_via HB5.out h6); have HX6 := Lib.hid (blk_via h6 HX5.out); clear p0 p1 p2 p3; obtain ⟨p0, p1, p2, p3⟩ := vb4 HX6.out; have HY6 := Lib.hid (blk_via h6 HY5.out); clear q0 q1 q2 q3; obtain ⟨q0, q1, q2, q3⟩ := vb4 HY6.out; clear h6)
      | (go_at_call 31; (with_reducible refine (HSX _ HB4.out).out.mono ?_); rintro e w5 ⟨rfl, h5⟩; have HB5 := Lib.hid (below_via HB4.out h5); have HX5 := Lib.hid (blk_via h5 HX4.out); clear p0 p1 p2 p3; obtain ⟨p0, p1, p2, p3⟩ := vb4 HX5.out; have HY5 := Lib.hid (blk_via h5 HY4.out); clear q0 q1 q2 q3; obtain ⟨q0, q1, q2, q3⟩ := vb4 HY5.out; clear h5)
      | (go_at_call 30; (with_reducible refine (HMB _ HB3.out).out.mono ?_); rintro e w4 ⟨rfl, h4⟩; have HB4 := Lib.hid (below_via HB3.out h4); have HX4 := Lib.hid (blk_via h4 HX3.out); clear p0 p1 p2 p3; obtain ⟨p0, p1, p2, p3⟩ := vb4 HX4.out; have HY4 := Lib.hid (blk_via h4 HY3.out); clear q0 q1 q2 q3; obtain ⟨q0, q1, q2, q3⟩ := vb4 HY4.out; clear h4)
      | (go_at_call 30; (with_reducible refine (HMA _ HB2.out).out.mono ?_); rintro e w3 ⟨rfl, h3⟩; have HB3 := Lib.hid (below_via HB2.out h3); have HX3 := Lib.hid (blk_via h3 HX2.out); clear p0 p1 p2 p3; obtain ⟨p0, p1, p2, p3⟩ := vb4 HX3.out; have HY3 := Lib.hid (blk_via h3 HY2.out); clear q0 q1 q2 q3; obtain ⟨q0, q1, q2, q3⟩ := vb4 HY3.out; clear h3)
      | (go_at_call 29; (with_reducible refine (HGR _ HB1.out).out.mono ?_); rintro e w2 ⟨rfl, h2⟩; have HB2 := Lib.hid (below_via HB1.out h2); have HX2 := Lib.hid (blk_via h2 HX1.out); clear p0 p1 p2 p3; obtain ⟨p0, p1, p2, p3⟩ := vb4 HX2.out; have HY2 := Lib.hid (blk_via h2 HY1.out); clear q0 q1 q2 q3; obtain ⟨q0, q1, q2, q3⟩ := vb4 HY2.out; clear h2))
  have hv1 : IntKind.i64.wrap ((n : Int) - (m : Int)) = (n : Int) - (m : Int) := IntWalk.i64_in _ (by omega)
  have hv2 : IntKind.i64.wrap ((m : Int) - (n : Int)) = (m : Int) - (n : Int) := IntWalk.i64_in _ (by omega)
  have hv3 : IntKind.i64.wrap ((n : Int) + (m : Int)) = (n : Int) + (m : Int) := IntWalk.i64_in _ (by omega)
  have hd1 : decide ((k : Int) < max ((n : Int) - (m : Int)) ((m : Int) - (n : Int))) = false := decide_eq_false (by omega)
  have hd2 : decide ((n : Int) + (m : Int) ≤ (k : Int)) = false := decide_eq_false (by omega)
  have HNL := Lib.hid hn0
  clear hlow hlt
  go_upto_region 8 with fail
  obtain ⟨at_, hat⟩ : ∃ at_, at_ = n % (l.l.length + 1) := ⟨_, rfl⟩
  have hatl : at_ ≤ l.l.length := by have := Nat.mod_lt n (show 0 < l.l.length + 1 by omega); omega
  have hv4 : IntKind.i64.wrap ((l.l.length : Int) + 1) = (l.l.length : Int) + 1 := IntWalk.i64_in _ (by omega)
  have hmod : Int.tmod (n : Int) ((l.l.length : Int) + 1) = (at_ : Int) := by rw [hat, show (l.l.length : Int) + 1 = ((l.l.length + 1 : Nat) : Int) by omega]; exact (Int.ofNat_tmod _ _).symm
  have hnz : ¬ (l.l.length : Int) + 1 = 0 := by omega
  clear hat hd1 hd2 hv1 hv2 hv3
  go_upto_region 9 with fail
  clear hv4 hmod hnz
  obtain ⟨LT, LR, hpart, hat⟩ : ∃ LT LR, l.l = LT ++ LR ∧ at_ = LT.length := ⟨l.l.take at_, l.l.drop at_, (List.take_append_drop _ _).symm, by rw [List.length_take]; omega⟩
  subst hat
  have hlen : l.l.length = LT.length + LR.length := by rw [hpart, List.length_append]
  obtain ⟨A1, hA1, hA1s⟩ := run_to l.a l.l.length l.c LT.length (by have := HLC.out; omega)
  obtain ⟨A2, hA2, hA2s⟩ := run_from l.a l.l.length l.c LT.length hatl
  rw [show l.l.length - LT.length = LR.length by omega] at hA2
  have HSL1 := Lib.hid hA1
  have HSL2 := Lib.hid hA2
  have HPT := Lib.hid hpart
  have HST := Lib.hid (show ∀ W, Below w.heap.size w W → SlE AV.enc 4 W 0 W.heap.size A1 LT from fun W h => by
    have := hA1s l.l W 0 W.heap.size (HSL.out W h)
    rwa [hpart, List.take_left'] at this
    rfl)
  have HSR := Lib.hid (show ∀ W, Below w.heap.size w W → SlE AV.enc 4 W 0 W.heap.size A2 LR from fun W h => by
    have := hA2s l.l W 0 W.heap.size rfl HLC.out (HSL.out W h)
    rwa [hpart, List.drop_left'] at this
    rfl)
  obtain ⟨L2, hL2⟩ : ∃ L2, LT ++ [x] = L2 := ⟨_, rfl⟩
  obtain ⟨L3, hL3⟩ : ∃ L3, L2 ++ LR = L3 := ⟨_, rfl⟩
  have HLN := Lib.hid (show LT.length ≤ 16777216 ∧ LT.length + 1 ≤ 16777216 ∧ L2.length + LR.length ≤ 16777216 from ⟨by omega, by omega, by rw [← hL2, List.length_append]; simp; omega⟩)
  have HL2 := Lib.hid hL2
  have HL3 := Lib.hid hL3
  have HL10 := Lib.hid (And.intro hlen c10)
  clear hL2 hL3 hA1 hA2 hA1s hA2s hpart hlen hatl c10 c10'
  obtain ⟨W0, hW0⟩ : ∃ W0, W0 = w7 := ⟨_, rfl⟩
  rw [← hW0] at p0 p1 p2 p3 q0 q1 q2 q3 HX7 HY7 HB7 ⊢
  clear hW0
  obtain ⟨N, hN⟩ : ∃ N, N = W0.heap.size := ⟨_, rfl⟩
  have HNE := Lib.hid hN
  clear hN
  have HS1 := Lib.hid (show ∀ W, Below W0.heap.size W0 W → SlE AV.enc 4 W 0 W.heap.size A1 LT from fun W h => HST.out W (below_via HB7.out h))
  have HS2 := Lib.hid (show ∀ W, Below W0.heap.size W0 W → SlE AV.enc 4 W 0 W.heap.size A2 LR from fun W h => HSR.out W (below_via HB7.out h))
  have HKT := Lib.hid (show ∀ r ∈ LT, KidOk N W0 r from fun r hr => have h := HKD.out r (by rw [HPT.out]; simp [hr]); ⟨fun W hW => h.1 W (below_via HB7.out (HNE.out ▸ hW)), h.2⟩)
  have HKR := Lib.hid (show ∀ r ∈ LR, KidOk N W0 r from fun r hr => have h := HKD.out r (by rw [HPT.out]; simp [hr]); ⟨fun W hW => h.1 W (below_via HB7.out (HNE.out ▸ hW)), h.2⟩)
  have HKX := Lib.hid (show KidOk N W0 x from ⟨fun W hW => HRX.out W (below_via HB7.out (HNE.out ▸ hW)), hwx⟩)
  go_cut [11] (fun s11 wx => ∃ B z, s11 = .pointer (some ⟨B, 0, none⟩) ∧ Hid (wx.heap[B]? = some (.cells #[.int .u8 z.k, .string z.t, .slice z.la z.l.length z.lc, .slice z.ka z.ks.length z.kc] 26 (0, 0)) ∧ z.v = listV (L3.map AV.v) ∧ Rd wx z ∧ Below W0.heap.size W0 wx))
  case first =>
    rename_i J K' hRJ hMK
    have HRJ := Lib.hid hRJ
    have HMK := Lib.hid hMK
    clear hRJ hMK
    refine wp_region_uses (by kernel_rfl) (S := GS W0) (G := GKden N W0 [.cst (.slice l.a l.l.length l.c), .cst (.int .i64 (LT.length : Int)), .cst (.slice A1 LT.length l.c), .own (LT), .cst (x.val), .one x, .own (L2), .cst (.slice l.a l.l.length l.c), .cst (.int .i64 (LT.length : Int)), .cst (.slice A2 LR.length (l.c - LT.length)), .own (L3), .lst (L3), .box]) (GE [6, 10] 12 N) (fun _ => false) none (by kernel_rfl) (by kernel_rfl) (by kernel_rfl) (by kernel_rfl) (by simp) (GK.hup (by kernel_rfl)) ⟨(Below.refl _ _).drew, fun _ h => by cases h⟩ ?_
    refine ⟨?_, ?_, ?_, ?_, ?_, ?_, ?_, ?_, ?_, ?_, ?_, ?_, ?_, ?_⟩
    · intro g a w F D
      have o2 := get_of (F.at 2 (by kernel_rfl)) (by simp [undef])
      refine ⟨wanted_none rfl, fun K hK => ?_⟩
      have HK := Lib.hid hK
      have FC := Lib.hid F.cls
      clear hK D F
      go_simp
      exact HK.out g _ _ FC.out (ge_pure (Below.refl _ _) (FC.out.hN HNE.out) FC.out.2) rfl
    · intro g a w F D
      have o10 := get_of (F.at 10 (by kernel_rfl)) (by simp [undef])
      refine ⟨wanted_none rfl, fun K hK => ?_⟩
      have HK := Lib.hid hK
      have FC := Lib.hid F.cls
      clear hK D F
      go_simp
      exact HK.out g _ _ FC.out (ge_pure (Below.refl _ _) (FC.out.hN HNE.out) FC.out.2) rfl
    · intro g a w F D
      have g61 : a.tmps.getD 61 undef = .slice l.a l.l.length l.c := (D ⟨0, .data⟩ (by simp) rfl _ _ rfl rfl)
      have g62 : a.tmps.getD 62 undef = .int .i64 (LT.length : Int) := (D ⟨1, .data⟩ (by simp) rfl _ _ rfl rfl)
      refine ⟨wanted_none rfl, fun K hK => ?_⟩
      refine op_slice (sv := .slice l.a l.l.length l.c) (lv := none) (hv := some (.int .i64 (LT.length : Int))) rfl g61 rfl (congrArg some g62) (HSL1.out w) ?_
      exact hK g _ _ F.cls (ge_pure (Below.refl _ _) (F.cls.hN HNE.out) F.cls.2) rfl
    · intro g a w F D
      have g63 : a.tmps.getD 63 undef = .slice A1 LT.length l.c := (D ⟨2, .data⟩ (by simp) rfl _ _ rfl rfl)
      obtain ⟨v', w', hr, hg, hb⟩ := app_first (N := N) (W0 := W0) (g := g) (HS1.out w F.cls.1) HKT.out HLN.out.1 (F.cls.hN HNE.out) F.cls.2
      refine ⟨wanted_none rfl, fun K hK => ?_⟩
      refine op_append (s := .const (.slice none 0 0)) (x := .tmp 63) rfl rfl g63 hr ?_
      exact hK g _ _ (F.cls.via hb) (ge_pure hb (F.cls.hN HNE.out) F.cls.2) hg
    · intro g a w F D
      have o3 := get_of (F.at 3 (by kernel_rfl)) (by simp [undef])
      have c0 := blkv F.cls.1 p0
      have c1 := blkv F.cls.1 p1
      have c2 := blkv F.cls.1 p2
      have c3 := blkv F.cls.1 p3
      refine ⟨wanted_none rfl, fun K hK => ?_⟩
      have HK := Lib.hid hK
      have FC := Lib.hid F.cls
      clear hK D F
      go_simp
      exact HK.out g _ _ FC.out (ge_pure (Below.refl _ _) (FC.out.hN HNE.out) FC.out.2) rfl
    · intro g a w F D
      have g65 : a.tmps.getD 65 undef = x.val := (D ⟨4, .data⟩ (by simp) rfl _ _ rfl rfl)
      replace g65 := get_of g65 (by simp [AV.val, undef])
      refine ⟨wanted_none rfl, fun K hK => ?_⟩
      have HK := Lib.hid hK
      have FC := Lib.hid F.cls
      clear hK D F
      go_simp
      exact HK.out g _ _ (FC.out.via (below_al (Below.refl _ _))) (ge_pure (below_al (Below.refl _ _)) (FC.out.hN HNE.out) FC.out.2) ⟨_, rfl, FC.out.hN HNE.out, heap_alloc_new _ _, HKX.out⟩
    · intro g a w F D
      have g64 : GOwn N W0 g LT (a.tmps.getD 64 undef) w := (D ⟨3, .data⟩ (by simp) rfl _ _ rfl rfl)
      have g66 : GOne N W0 x (a.tmps.getD 66 undef) w := (D ⟨5, .data⟩ (by simp) rfl _ _ rfl rfl)
      obtain ⟨v', w', hr, hg, hb, hbx⟩ := app_one g64 g66 HLN.out.2.1 (F.cls.hN HNE.out) F.cls.2
      refine ⟨wanted_none rfl, fun K hK => ?_⟩
      refine op_append (s := .tmp 64) (x := .tmp 66) rfl rfl rfl hr ?_
      rw [HL2.out] at hg
      exact hK g _ _ (F.cls.wild HNE.out hb) (ge_wild hb hbx rfl) hg
    · intro g a w F D
      have o2 := get_of (F.at 2 (by kernel_rfl)) (by simp [undef])
      refine ⟨wanted_none rfl, fun K hK => ?_⟩
      have HK := Lib.hid hK
      have FC := Lib.hid F.cls
      clear hK D F
      go_simp
      exact HK.out g _ _ FC.out (ge_pure (Below.refl _ _) (FC.out.hN HNE.out) FC.out.2) rfl
    · intro g a w F D
      have o10 := get_of (F.at 10 (by kernel_rfl)) (by simp [undef])
      refine ⟨wanted_none rfl, fun K hK => ?_⟩
      have HK := Lib.hid hK
      have FC := Lib.hid F.cls
      clear hK D F
      go_simp
      exact HK.out g _ _ FC.out (ge_pure (Below.refl _ _) (FC.out.hN HNE.out) FC.out.2) rfl
    · intro g a w F D
      have g68 : a.tmps.getD 68 undef = .slice l.a l.l.length l.c := (D ⟨7, .data⟩ (by simp) rfl _ _ rfl rfl)
      have g69 : a.tmps.getD 69 undef = .int .i64 (LT.length : Int) := (D ⟨8, .data⟩ (by simp) rfl _ _ rfl rfl)
      refine ⟨wanted_none rfl, fun K hK => ?_⟩
      refine op_slice (sv := .slice l.a l.l.length l.c) (lv := some (.int .i64 (LT.length : Int))) (hv := none) rfl g68 (congrArg some g69) rfl (HSL2.out w) ?_
      exact hK g _ _ F.cls (ge_pure (Below.refl _ _) (F.cls.hN HNE.out) F.cls.2) rfl
    · intro g a w F D
      have g67 : GOwn N W0 g L2 (a.tmps.getD 67 undef) w := (D ⟨6, .data⟩ (by simp) rfl _ _ rfl rfl)
      have g70 : a.tmps.getD 70 undef = .slice A2 LR.length (l.c - LT.length) := (D ⟨9, .data⟩ (by simp) rfl _ _ rfl rfl)
      obtain ⟨v', w', hr, hg, hb, hbx⟩ := app_more g67 (HS2.out w F.cls.1) HKR.out HLN.out.2.2 (F.cls.hN HNE.out) F.cls.2
      refine ⟨wanted_none rfl, fun K hK => ?_⟩
      refine op_append (s := .tmp 67) (x := .tmp 70) rfl rfl g70 hr ?_
      rw [HL3.out] at hg
      exact hK g _ _ (F.cls.wild HNE.out hb) (ge_wild hb hbx rfl) hg
    · intro g a w F D
      have g71 : GOwn N W0 g L3 (a.tmps.getD 71 undef) w := (D ⟨10, .data⟩ (by simp) rfl _ _ rfl rfl)
      obtain ⟨a71, c71, e71⟩ := g71.1
      rw [e71] at g71
      replace e71 := get_of e71 (by simp [undef])
      have GG := Lib.hid g71
      clear g71
      refine ⟨wanted_none rfl, fun K hK => ?_⟩
      have HK := Lib.hid hK
      have FC := Lib.hid F.cls
      clear hK D F
      go_simp
      refine (list20_ex w a71 _ c71).mono ?_
      rintro e w' ⟨rfl, hb⟩
      exact HK.out g _ _ (FC.out.via hb) (ge_pure hb (FC.out.hN HNE.out) FC.out.2) ⟨a71, c71, rfl, GG.out.up hb (.inl rfl)⟩
    · intro g a w F D
      refine ⟨wanted_none rfl, fun K hK => ?_⟩
      have HK := Lib.hid hK
      have FC := Lib.hid F.cls
      clear hK D F
      go_simp
      exact HK.out (some w.heap.size) _ _ (FC.out.box _) (ge_box (below_al (Below.refl _ _)) rfl) ⟨_, rfl, rfl, FC.out.hN HNE.out, heap_alloc_new _ _⟩
    · intro g a w F D _
      obtain ⟨a72, c72, e72, g72⟩ : ∃ a0 c0, a.tmps.getD 72 undef = aggL a0 (L3).length c0 ∧ GOwn N W0 g (L3) (.slice a0 (L3).length c0) w := (D ⟨11, .data⟩ (by simp) rfl _ _ rfl rfl)
      obtain ⟨B, eB, rfl, hB, hz⟩ : ∃ b, a.tmps.getD 11 undef = .pointer (some ⟨b, 0, none⟩) ∧ g = some b ∧ N ≤ b ∧ w.heap[b]? = some zeroV := (D ⟨12, .data⟩ (by simp) rfl _ _ rfl rfl)
      obtain ⟨z0, z1, z2, z3, f0, f1, f2, f3⟩ := vbox4 hz
      have EB := Lib.hid eB
      replace e72 := get_of e72 (by simp [undef])
      replace eB := get_of eB (by simp [undef])
      have GG := Lib.hid g72
      have HZ := Lib.hid hz
      have FF := Lib.hid F
      clear g72 hz
      refine ⟨wanted_none rfl, fun K hK => ?_⟩
      have HK := Lib.hid hK
      have FC := Lib.hid F.cls
      clear hK D F
      obtain ⟨tm, df⟩ := a
      go_simp
      refine HK.out _ _ (HMK.out _ _ (Met.intro (HRJ.out _ _ ?_)))
      have F := FF.out
      repeat apply Exists.intro
      refine ⟨?rel, ?eq⟩
      case eq =>
        have hdf : df = [] := F.defers
        subst hdf
        refine congrArg (fun t => Act.mk t []) ?_
        refine (arr_lit (n := 127) F.len).trans (congrArg List.toArray ?_)
        simp only [FR127, List.map_cons, List.map_nil]
        refine cons_eq ((F.at 0 (by kernel_rfl)).trans rfl) ?_
        refine cons_eq ((F.at 1 (by kernel_rfl)).trans rfl) ?_
        refine cons_eq ((F.at 2 (by kernel_rfl)).trans rfl) ?_
        refine cons_eq ((F.at 3 (by kernel_rfl)).trans rfl) ?_
        refine cons_eq ((F.at 4 (by kernel_rfl)).trans rfl) ?_
        refine cons_eq ((F.at 5 (by kernel_rfl)).trans rfl) ?_
        refine cons_eq ((F.at 6 (by kernel_rfl)).trans rfl) ?_
        refine cons_eq ((F.at 7 (by kernel_rfl)).trans rfl) ?_
        refine cons_eq ((F.at 8 (by kernel_rfl)).trans rfl) ?_
        refine cons_eq ((F.at 9 (by kernel_rfl)).trans rfl) ?_
        refine cons_eq ((F.at 10 (by kernel_rfl)).trans rfl) ?_
        refine cons_eq rfl ?_
        refine cons_eq ((F.at 12 (by kernel_rfl)).trans rfl) ?_
        refine cons_eq ((F.at 13 (by kernel_rfl)).trans rfl) ?_
        refine cons_eq ((F.at 14 (by kernel_rfl)).trans rfl) ?_
        refine cons_eq ((F.at 15 (by kernel_rfl)).trans rfl) ?_
        refine cons_eq ((F.at 16 (by kernel_rfl)).trans rfl) ?_
        refine cons_eq ((F.at 17 (by kernel_rfl)).trans rfl) ?_
        refine cons_eq ((F.at 18 (by kernel_rfl)).trans rfl) ?_
        refine cons_eq ((F.at 19 (by kernel_rfl)).trans rfl) ?_
        refine cons_eq ((F.at 20 (by kernel_rfl)).trans rfl) ?_
        refine cons_eq ((F.at 21 (by kernel_rfl)).trans rfl) ?_
        refine cons_eq ((F.at 22 (by kernel_rfl)).trans rfl) ?_
        refine cons_eq ((F.at 23 (by kernel_rfl)).trans rfl) ?_
        refine cons_eq ((F.at 24 (by kernel_rfl)).trans rfl) ?_
        refine cons_eq ((F.at 25 (by kernel_rfl)).trans rfl) ?_
        refine cons_eq ((F.at 26 (by kernel_rfl)).trans rfl) ?_
        refine cons_eq ((F.at 27 (by kernel_rfl)).trans rfl) ?_
        refine cons_eq ((F.at 28 (by kernel_rfl)).trans rfl) ?_
        refine cons_eq ((F.at 29 (by kernel_rfl)).trans rfl) ?_
        refine cons_eq ((F.at 30 (by kernel_rfl)).trans rfl) ?_
        refine cons_eq ((F.at 31 (by kernel_rfl)).trans rfl) ?_
        refine cons_eq ((F.at 32 (by kernel_rfl)).trans rfl) ?_
        refine cons_eq ((F.at 33 (by kernel_rfl)).trans rfl) ?_
        refine cons_eq ((F.at 34 (by kernel_rfl)).trans rfl) ?_
        refine cons_eq ((F.at 35 (by kernel_rfl)).trans rfl) ?_
        refine cons_eq ((F.at 36 (by kernel_rfl)).trans rfl) ?_
        refine cons_eq ((F.at 37 (by kernel_rfl)).trans rfl) ?_
        refine cons_eq ((F.at 38 (by kernel_rfl)).trans rfl) ?_
        refine cons_eq ((F.at 39 (by kernel_rfl)).trans rfl) ?_
        refine cons_eq ((F.at 40 (by kernel_rfl)).trans rfl) ?_
        refine cons_eq ((F.at 41 (by kernel_rfl)).trans rfl) ?_
        refine cons_eq ((F.at 42 (by kernel_rfl)).trans rfl) ?_
        refine cons_eq ((F.at 43 (by kernel_rfl)).trans rfl) ?_
        refine cons_eq ((F.at 44 (by kernel_rfl)).trans rfl) ?_
        refine cons_eq ((F.at 45 (by kernel_rfl)).trans rfl) ?_
        refine cons_eq ((F.at 46 (by kernel_rfl)).trans rfl) ?_
        refine cons_eq ((F.at 47 (by kernel_rfl)).trans rfl) ?_
        refine cons_eq ((F.at 48 (by kernel_rfl)).trans rfl) ?_
        refine cons_eq ((F.at 49 (by kernel_rfl)).trans rfl) ?_
        refine cons_eq ((F.at 50 (by kernel_rfl)).trans rfl) ?_
        refine cons_eq ((F.at 51 (by kernel_rfl)).trans rfl) ?_
        refine cons_eq ((F.at 52 (by kernel_rfl)).trans rfl) ?_
        refine cons_eq ((F.at 53 (by kernel_rfl)).trans rfl) ?_
        refine cons_eq ((F.at 54 (by kernel_rfl)).trans rfl) ?_
        refine cons_eq ((F.at 55 (by kernel_rfl)).trans rfl) ?_
        refine cons_eq ((F.at 56 (by kernel_rfl)).trans rfl) ?_
        refine cons_eq ((F.at 57 (by kernel_rfl)).trans rfl) ?_
        refine cons_eq ((F.at 58 (by kernel_rfl)).trans rfl) ?_
        refine cons_eq ((F.at 59 (by kernel_rfl)).trans rfl) ?_
        refine cons_eq ((F.at 60 (by kernel_rfl)).trans rfl) ?_
        refine cons_eq rfl ?_
        refine cons_eq rfl ?_
        refine cons_eq rfl ?_
        refine cons_eq rfl ?_
        refine cons_eq rfl ?_
        refine cons_eq rfl ?_
        refine cons_eq rfl ?_
        refine cons_eq rfl ?_
        refine cons_eq rfl ?_
        refine cons_eq rfl ?_
        refine cons_eq rfl ?_
        refine cons_eq rfl ?_
        refine cons_eq ((F.at 73 (by kernel_rfl)).trans rfl) ?_
        refine cons_eq ((F.at 74 (by kernel_rfl)).trans rfl) ?_
        refine cons_eq ((F.at 75 (by kernel_rfl)).trans rfl) ?_
        refine cons_eq ((F.at 76 (by kernel_rfl)).trans rfl) ?_
        refine cons_eq ((F.at 77 (by kernel_rfl)).trans rfl) ?_
        refine cons_eq ((F.at 78 (by kernel_rfl)).trans rfl) ?_
        refine cons_eq ((F.at 79 (by kernel_rfl)).trans rfl) ?_
        refine cons_eq ((F.at 80 (by kernel_rfl)).trans rfl) ?_
        refine cons_eq ((F.at 81 (by kernel_rfl)).trans rfl) ?_
        refine cons_eq ((F.at 82 (by kernel_rfl)).trans rfl) ?_
        refine cons_eq ((F.at 83 (by kernel_rfl)).trans rfl) ?_
        refine cons_eq ((F.at 84 (by kernel_rfl)).trans rfl) ?_
        refine cons_eq ((F.at 85 (by kernel_rfl)).trans rfl) ?_
        refine cons_eq ((F.at 86 (by kernel_rfl)).trans rfl) ?_
        refine cons_eq ((F.at 87 (by kernel_rfl)).trans rfl) ?_
        refine cons_eq ((F.at 88 (by kernel_rfl)).trans rfl) ?_
        refine cons_eq ((F.at 89 (by kernel_rfl)).trans rfl) ?_
        refine cons_eq ((F.at 90 (by kernel_rfl)).trans rfl) ?_
        refine cons_eq ((F.at 91 (by kernel_rfl)).trans rfl) ?_
        refine cons_eq ((F.at 92 (by kernel_rfl)).trans rfl) ?_
        refine cons_eq ((F.at 93 (by kernel_rfl)).trans rfl) ?_
        refine cons_eq ((F.at 94 (by kernel_rfl)).trans rfl) ?_
        refine cons_eq ((F.at 95 (by kernel_rfl)).trans rfl) ?_
        refine cons_eq ((F.at 96 (by kernel_rfl)).trans rfl) ?_
        refine cons_eq ((F.at 97 (by kernel_rfl)).trans rfl) ?_
        refine cons_eq ((F.at 98 (by kernel_rfl)).trans rfl) ?_
        refine cons_eq ((F.at 99 (by kernel_rfl)).trans rfl) ?_
        refine cons_eq ((F.at 100 (by kernel_rfl)).trans rfl) ?_
        refine cons_eq ((F.at 101 (by kernel_rfl)).trans rfl) ?_
        refine cons_eq ((F.at 102 (by kernel_rfl)).trans rfl) ?_
        refine cons_eq ((F.at 103 (by kernel_rfl)).trans rfl) ?_
        refine cons_eq ((F.at 104 (by kernel_rfl)).trans rfl) ?_
        refine cons_eq ((F.at 105 (by kernel_rfl)).trans rfl) ?_
        refine cons_eq ((F.at 106 (by kernel_rfl)).trans rfl) ?_
        refine cons_eq ((F.at 107 (by kernel_rfl)).trans rfl) ?_
        refine cons_eq ((F.at 108 (by kernel_rfl)).trans rfl) ?_
        refine cons_eq ((F.at 109 (by kernel_rfl)).trans rfl) ?_
        refine cons_eq ((F.at 110 (by kernel_rfl)).trans rfl) ?_
        refine cons_eq ((F.at 111 (by kernel_rfl)).trans rfl) ?_
        refine cons_eq ((F.at 112 (by kernel_rfl)).trans rfl) ?_
        refine cons_eq ((F.at 113 (by kernel_rfl)).trans rfl) ?_
        refine cons_eq ((F.at 114 (by kernel_rfl)).trans rfl) ?_
        refine cons_eq ((F.at 115 (by kernel_rfl)).trans rfl) ?_
        refine cons_eq ((F.at 116 (by kernel_rfl)).trans rfl) ?_
        refine cons_eq ((F.at 117 (by kernel_rfl)).trans rfl) ?_
        refine cons_eq ((F.at 118 (by kernel_rfl)).trans rfl) ?_
        refine cons_eq ((F.at 119 (by kernel_rfl)).trans rfl) ?_
        refine cons_eq ((F.at 120 (by kernel_rfl)).trans rfl) ?_
        refine cons_eq ((F.at 121 (by kernel_rfl)).trans rfl) ?_
        refine cons_eq ((F.at 122 (by kernel_rfl)).trans rfl) ?_
        refine cons_eq ((F.at 123 (by kernel_rfl)).trans rfl) ?_
        refine cons_eq ((F.at 124 (by kernel_rfl)).trans rfl) ?_
        refine cons_eq ((F.at 125 (by kernel_rfl)).trans rfl) ?_
        refine cons_eq ((F.at 126 (by kernel_rfl)).trans rfl) ?_
        rfl
      case rel =>
        obtain ⟨hrd, hbl⟩ := lst_fill GG.out FC.out.1 HNE.out hB
        exact ⟨B, ⟨7, ⟨#[]⟩, a72, c72, L3, none, 0, []⟩, EB.out, Lib.hid ⟨box_fill HZ.out, by rw [AV.v_eq]; rfl, hrd, hbl⟩⟩
  case rest =>
    obtain ⟨B1, z1, rfl, HZ1⟩ := hcut
    have HB8 := Lib.hid (below_via HB7.out HZ1.out.2.2.2)
    have HY8 := Lib.hid (blk_via HZ1.out.2.2.2 HY7.out)
    clear p0 p1 p2 p3 q0 q1 q2 q3 HX7 HY7 HB7 HS1 HS2 HKT HKR HKX HNE HLN
    obtain ⟨q0, q1, q2, q3⟩ := vb4 HY8.out
    obtain ⟨W0, hW0⟩ : ∃ W, W = wc := ⟨_, rfl⟩
    subst hW0
    obtain ⟨N, hN⟩ : ∃ N, N = W0.heap.size := ⟨_, rfl⟩
    have HNE := Lib.hid hN
    clear hN
    have HS1 := Lib.hid (show ∀ W, Below W0.heap.size W0 W → SlE AV.enc 4 W 0 W.heap.size A1 LT from fun W h => HST.out W (below_via HB8.out h))
    have HS2 := Lib.hid (show ∀ W, Below W0.heap.size W0 W → SlE AV.enc 4 W 0 W.heap.size A2 LR from fun W h => HSR.out W (below_via HB8.out h))
    have HKT := Lib.hid (show ∀ r ∈ LT, KidOk N W0 r from fun r hr => have h := HKD.out r (by rw [HPT.out]; simp [hr]); ⟨fun W hW => h.1 W (below_via HB8.out (HNE.out ▸ hW)), h.2⟩)
    have HKR := Lib.hid (show ∀ r ∈ LR, KidOk N W0 r from fun r hr => have h := HKD.out r (by rw [HPT.out]; simp [hr]); ⟨fun W hW => h.1 W (below_via HB8.out (HNE.out ▸ hW)), h.2⟩)
    have HKY := Lib.hid (show KidOk N W0 y from ⟨fun W hW => HRY.out W (below_via HB8.out (HNE.out ▸ hW)), hwy⟩)
    obtain ⟨K2, hK2⟩ : ∃ L2, LT ++ [y] = L2 := ⟨_, rfl⟩
    obtain ⟨K3, hK3⟩ : ∃ L3, K2 ++ LR = L3 := ⟨_, rfl⟩
    have HLN := Lib.hid (show LT.length ≤ 16777216 ∧ LT.length + 1 ≤ 16777216 ∧ K2.length + LR.length ≤ 16777216 from ⟨by have := HL10.out; omega, by have := HL10.out; omega, by have := HL10.out; rw [← hK2, List.length_append]; simp; omega⟩)
    have HK2 := Lib.hid hK2
    have HK3 := Lib.hid hK3
    clear hK2 hK3
    go_upto_region 10 with fail
    go_cut [12] (fun s12 wx => ∃ B z, s12 = .pointer (some ⟨B, 0, none⟩) ∧ Hid (wx.heap[B]? = some (.cells #[.int .u8 z.k, .string z.t, .slice z.la z.l.length z.lc, .slice z.ka z.ks.length z.kc] 26 (0, 0)) ∧ z.v = listV (K3.map AV.v) ∧ Rd wx z ∧ Below W0.heap.size W0 wx))
    case first =>
      rename_i J K' hRJ hMK
      have HRJ := Lib.hid hRJ
      have HMK := Lib.hid hMK
      clear hRJ hMK
      refine wp_region_uses (by kernel_rfl) (S := GS W0) (G := GKden N W0 [.cst (.slice l.a l.l.length l.c), .cst (.int .i64 (LT.length : Int)), .cst (.slice A1 LT.length l.c), .own (LT), .cst (y.val), .one y, .own (K2), .cst (.slice l.a l.l.length l.c), .cst (.int .i64 (LT.length : Int)), .cst (.slice A2 LR.length (l.c - LT.length)), .own (K3), .lst (K3), .box]) (GE [6, 10] 12 N) (fun _ => false) none (by kernel_rfl) (by kernel_rfl) (by kernel_rfl) (by kernel_rfl) (by simp) (GK.hup (by kernel_rfl)) ⟨(Below.refl _ _).drew, fun _ h => by cases h⟩ ?_
      refine ⟨?_, ?_, ?_, ?_, ?_, ?_, ?_, ?_, ?_, ?_, ?_, ?_, ?_, ?_⟩
      · intro g a w F D
        have o2 := get_of (F.at 2 (by kernel_rfl)) (by simp [undef])
        refine ⟨wanted_none rfl, fun K hK => ?_⟩
        have HK := Lib.hid hK
        have FC := Lib.hid F.cls
        clear hK D F
        go_simp
        exact HK.out g _ _ FC.out (ge_pure (Below.refl _ _) (FC.out.hN HNE.out) FC.out.2) rfl
      · intro g a w F D
        have o10 := get_of (F.at 10 (by kernel_rfl)) (by simp [undef])
        refine ⟨wanted_none rfl, fun K hK => ?_⟩
        have HK := Lib.hid hK
        have FC := Lib.hid F.cls
        clear hK D F
        go_simp
        exact HK.out g _ _ FC.out (ge_pure (Below.refl _ _) (FC.out.hN HNE.out) FC.out.2) rfl
      · intro g a w F D
        have g73 : a.tmps.getD 73 undef = .slice l.a l.l.length l.c := (D ⟨0, .data⟩ (by simp) rfl _ _ rfl rfl)
        have g74 : a.tmps.getD 74 undef = .int .i64 (LT.length : Int) := (D ⟨1, .data⟩ (by simp) rfl _ _ rfl rfl)
        refine ⟨wanted_none rfl, fun K hK => ?_⟩
        refine op_slice (sv := .slice l.a l.l.length l.c) (lv := none) (hv := some (.int .i64 (LT.length : Int))) rfl g73 rfl (congrArg some g74) (HSL1.out w) ?_
        exact hK g _ _ F.cls (ge_pure (Below.refl _ _) (F.cls.hN HNE.out) F.cls.2) rfl
      · intro g a w F D
        have g75 : a.tmps.getD 75 undef = .slice A1 LT.length l.c := (D ⟨2, .data⟩ (by simp) rfl _ _ rfl rfl)
        obtain ⟨v', w', hr, hg, hb⟩ := app_first (N := N) (W0 := W0) (g := g) (HS1.out w F.cls.1) HKT.out HLN.out.1 (F.cls.hN HNE.out) F.cls.2
        refine ⟨wanted_none rfl, fun K hK => ?_⟩
        refine op_append (s := .const (.slice none 0 0)) (x := .tmp 75) rfl rfl g75 hr ?_
        exact hK g _ _ (F.cls.via hb) (ge_pure hb (F.cls.hN HNE.out) F.cls.2) hg
      · intro g a w F D
        have o4 := get_of (F.at 4 (by kernel_rfl)) (by simp [undef])
        have c0 := blkv F.cls.1 q0
        have c1 := blkv F.cls.1 q1
        have c2 := blkv F.cls.1 q2
        have c3 := blkv F.cls.1 q3
        refine ⟨wanted_none rfl, fun K hK => ?_⟩
        have HK := Lib.hid hK
        have FC := Lib.hid F.cls
        clear hK D F
        go_simp
        exact HK.out g _ _ FC.out (ge_pure (Below.refl _ _) (FC.out.hN HNE.out) FC.out.2) rfl
      · intro g a w F D
        have g77 : a.tmps.getD 77 undef = y.val := (D ⟨4, .data⟩ (by simp) rfl _ _ rfl rfl)
        replace g77 := get_of g77 (by simp [AV.val, undef])
        refine ⟨wanted_none rfl, fun K hK => ?_⟩
        have HK := Lib.hid hK
        have FC := Lib.hid F.cls
        clear hK D F
        go_simp
        exact HK.out g _ _ (FC.out.via (below_al (Below.refl _ _))) (ge_pure (below_al (Below.refl _ _)) (FC.out.hN HNE.out) FC.out.2) ⟨_, rfl, FC.out.hN HNE.out, heap_alloc_new _ _, HKY.out⟩
      · intro g a w F D
        have g76 : GOwn N W0 g LT (a.tmps.getD 76 undef) w := (D ⟨3, .data⟩ (by simp) rfl _ _ rfl rfl)
        have g78 : GOne N W0 y (a.tmps.getD 78 undef) w := (D ⟨5, .data⟩ (by simp) rfl _ _ rfl rfl)
        obtain ⟨v', w', hr, hg, hb, hbx⟩ := app_one g76 g78 HLN.out.2.1 (F.cls.hN HNE.out) F.cls.2
        refine ⟨wanted_none rfl, fun K hK => ?_⟩
        refine op_append (s := .tmp 76) (x := .tmp 78) rfl rfl rfl hr ?_
        rw [HK2.out] at hg
        exact hK g _ _ (F.cls.wild HNE.out hb) (ge_wild hb hbx rfl) hg
      · intro g a w F D
        have o2 := get_of (F.at 2 (by kernel_rfl)) (by simp [undef])
        refine ⟨wanted_none rfl, fun K hK => ?_⟩
        have HK := Lib.hid hK
        have FC := Lib.hid F.cls
        clear hK D F
        go_simp
        exact HK.out g _ _ FC.out (ge_pure (Below.refl _ _) (FC.out.hN HNE.out) FC.out.2) rfl
      · intro g a w F D
        have o10 := get_of (F.at 10 (by kernel_rfl)) (by simp [undef])
        refine ⟨wanted_none rfl, fun K hK => ?_⟩
        have HK := Lib.hid hK
        have FC := Lib.hid F.cls
        clear hK D F
        go_simp
        exact HK.out g _ _ FC.out (ge_pure (Below.refl _ _) (FC.out.hN HNE.out) FC.out.2) rfl
      · intro g a w F D
        have g80 : a.tmps.getD 80 undef = .slice l.a l.l.length l.c := (D ⟨7, .data⟩ (by simp) rfl _ _ rfl rfl)
        have g81 : a.tmps.getD 81 undef = .int .i64 (LT.length : Int) := (D ⟨8, .data⟩ (by simp) rfl _ _ rfl rfl)
        refine ⟨wanted_none rfl, fun K hK => ?_⟩
        refine op_slice (sv := .slice l.a l.l.length l.c) (lv := some (.int .i64 (LT.length : Int))) (hv := none) rfl g80 (congrArg some g81) rfl (HSL2.out w) ?_
        exact hK g _ _ F.cls (ge_pure (Below.refl _ _) (F.cls.hN HNE.out) F.cls.2) rfl
      · intro g a w F D
        have g79 : GOwn N W0 g K2 (a.tmps.getD 79 undef) w := (D ⟨6, .data⟩ (by simp) rfl _ _ rfl rfl)
        have g82 : a.tmps.getD 82 undef = .slice A2 LR.length (l.c - LT.length) := (D ⟨9, .data⟩ (by simp) rfl _ _ rfl rfl)
        obtain ⟨v', w', hr, hg, hb, hbx⟩ := app_more g79 (HS2.out w F.cls.1) HKR.out HLN.out.2.2 (F.cls.hN HNE.out) F.cls.2
        refine ⟨wanted_none rfl, fun K hK => ?_⟩
        refine op_append (s := .tmp 79) (x := .tmp 82) rfl rfl g82 hr ?_
        rw [HK3.out] at hg
        exact hK g _ _ (F.cls.wild HNE.out hb) (ge_wild hb hbx rfl) hg
      · intro g a w F D
        have g83 : GOwn N W0 g K3 (a.tmps.getD 83 undef) w := (D ⟨10, .data⟩ (by simp) rfl _ _ rfl rfl)
        obtain ⟨a83, c83, e83⟩ := g83.1
        rw [e83] at g83
        replace e83 := get_of e83 (by simp [undef])
        have GG := Lib.hid g83
        clear g83
        refine ⟨wanted_none rfl, fun K hK => ?_⟩
        have HK := Lib.hid hK
        have FC := Lib.hid F.cls
        clear hK D F
        go_simp
        refine (list20_ex w a83 _ c83).mono ?_
        rintro e w' ⟨rfl, hb⟩
        exact HK.out g _ _ (FC.out.via hb) (ge_pure hb (FC.out.hN HNE.out) FC.out.2) ⟨a83, c83, rfl, GG.out.up hb (.inl rfl)⟩
      · intro g a w F D
        refine ⟨wanted_none rfl, fun K hK => ?_⟩
        have HK := Lib.hid hK
        have FC := Lib.hid F.cls
        clear hK D F
        go_simp
        exact HK.out (some w.heap.size) _ _ (FC.out.box _) (ge_box (below_al (Below.refl _ _)) rfl) ⟨_, rfl, rfl, FC.out.hN HNE.out, heap_alloc_new _ _⟩
      · intro g a w F D _
        obtain ⟨a84, c84, e84, g84⟩ : ∃ a0 c0, a.tmps.getD 84 undef = aggL a0 (K3).length c0 ∧ GOwn N W0 g (K3) (.slice a0 (K3).length c0) w := (D ⟨11, .data⟩ (by simp) rfl _ _ rfl rfl)
        obtain ⟨B, eB, rfl, hB, hz⟩ : ∃ b, a.tmps.getD 12 undef = .pointer (some ⟨b, 0, none⟩) ∧ g = some b ∧ N ≤ b ∧ w.heap[b]? = some zeroV := (D ⟨12, .data⟩ (by simp) rfl _ _ rfl rfl)
        obtain ⟨z0, z1, z2, z3, f0, f1, f2, f3⟩ := vbox4 hz
        have EB := Lib.hid eB
        replace e84 := get_of e84 (by simp [undef])
        replace eB := get_of eB (by simp [undef])
        have GG := Lib.hid g84
        have HZ := Lib.hid hz
        have FF := Lib.hid F
        clear g84 hz
        refine ⟨wanted_none rfl, fun K hK => ?_⟩
        have HK := Lib.hid hK
        have FC := Lib.hid F.cls
        clear hK D F
        obtain ⟨tm, df⟩ := a
        go_simp
        refine HK.out _ _ (HMK.out _ _ (Met.intro (HRJ.out _ _ ?_)))
        have F := FF.out
        repeat apply Exists.intro
        refine ⟨?rel, ?eq⟩
        case eq =>
          have hdf : df = [] := F.defers
          subst hdf
          refine congrArg (fun t => Act.mk t []) ?_
          refine (arr_lit (n := 127) F.len).trans (congrArg List.toArray ?_)
          simp only [FR127, List.map_cons, List.map_nil]
          refine cons_eq ((F.at 0 (by kernel_rfl)).trans rfl) ?_
          refine cons_eq ((F.at 1 (by kernel_rfl)).trans rfl) ?_
          refine cons_eq ((F.at 2 (by kernel_rfl)).trans rfl) ?_
          refine cons_eq ((F.at 3 (by kernel_rfl)).trans rfl) ?_
          refine cons_eq ((F.at 4 (by kernel_rfl)).trans rfl) ?_
          refine cons_eq ((F.at 5 (by kernel_rfl)).trans rfl) ?_
          refine cons_eq ((F.at 6 (by kernel_rfl)).trans rfl) ?_
          refine cons_eq ((F.at 7 (by kernel_rfl)).trans rfl) ?_
          refine cons_eq ((F.at 8 (by kernel_rfl)).trans rfl) ?_
          refine cons_eq ((F.at 9 (by kernel_rfl)).trans rfl) ?_
          refine cons_eq ((F.at 10 (by kernel_rfl)).trans rfl) ?_
          refine cons_eq ((F.at 11 (by kernel_rfl)).trans rfl) ?_
          refine cons_eq rfl ?_
          refine cons_eq ((F.at 13 (by kernel_rfl)).trans rfl) ?_
          refine cons_eq ((F.at 14 (by kernel_rfl)).trans rfl) ?_
          refine cons_eq ((F.at 15 (by kernel_rfl)).trans rfl) ?_
          refine cons_eq ((F.at 16 (by kernel_rfl)).trans rfl) ?_
          refine cons_eq ((F.at 17 (by kernel_rfl)).trans rfl) ?_
          refine cons_eq ((F.at 18 (by kernel_rfl)).trans rfl) ?_
          refine cons_eq ((F.at 19 (by kernel_rfl)).trans rfl) ?_
          refine cons_eq ((F.at 20 (by kernel_rfl)).trans rfl) ?_
          refine cons_eq ((F.at 21 (by kernel_rfl)).trans rfl) ?_
          refine cons_eq ((F.at 22 (by kernel_rfl)).trans rfl) ?_
          refine cons_eq ((F.at 23 (by kernel_rfl)).trans rfl) ?_
          refine cons_eq ((F.at 24 (by kernel_rfl)).trans rfl) ?_
          refine cons_eq ((F.at 25 (by kernel_rfl)).trans rfl) ?_
          refine cons_eq ((F.at 26 (by kernel_rfl)).trans rfl) ?_
          refine cons_eq ((F.at 27 (by kernel_rfl)).trans rfl) ?_
          refine cons_eq ((F.at 28 (by kernel_rfl)).trans rfl) ?_
          refine cons_eq ((F.at 29 (by kernel_rfl)).trans rfl) ?_
          refine cons_eq ((F.at 30 (by kernel_rfl)).trans rfl) ?_
          refine cons_eq ((F.at 31 (by kernel_rfl)).trans rfl) ?_
          refine cons_eq ((F.at 32 (by kernel_rfl)).trans rfl) ?_
          refine cons_eq ((F.at 33 (by kernel_rfl)).trans rfl) ?_
          refine cons_eq ((F.at 34 (by kernel_rfl)).trans rfl) ?_
          refine cons_eq ((F.at 35 (by kernel_rfl)).trans rfl) ?_
          refine cons_eq ((F.at 36 (by kernel_rfl)).trans rfl) ?_
          refine cons_eq ((F.at 37 (by kernel_rfl)).trans rfl) ?_
          refine cons_eq ((F.at 38 (by kernel_rfl)).trans rfl) ?_
          refine cons_eq ((F.at 39 (by kernel_rfl)).trans rfl) ?_
          refine cons_eq ((F.at 40 (by kernel_rfl)).trans rfl) ?_
          refine cons_eq ((F.at 41 (by kernel_rfl)).trans rfl) ?_
          refine cons_eq ((F.at 42 (by kernel_rfl)).trans rfl) ?_
          refine cons_eq ((F.at 43 (by kernel_rfl)).trans rfl) ?_
          refine cons_eq ((F.at 44 (by kernel_rfl)).trans rfl) ?_
          refine cons_eq ((F.at 45 (by kernel_rfl)).trans rfl) ?_
          refine cons_eq ((F.at 46 (by kernel_rfl)).trans rfl) ?_
          refine cons_eq ((F.at 47 (by kernel_rfl)).trans rfl) ?_
          refine cons_eq ((F.at 48 (by kernel_rfl)).trans rfl) ?_
          refine cons_eq ((F.at 49 (by kernel_rfl)).trans rfl) ?_
          refine cons_eq ((F.at 50 (by kernel_rfl)).trans rfl) ?_
          refine cons_eq ((F.at 51 (by kernel_rfl)).trans rfl) ?_
          refine cons_eq ((F.at 52 (by kernel_rfl)).trans rfl) ?_
          refine cons_eq ((F.at 53 (by kernel_rfl)).trans rfl) ?_
          refine cons_eq ((F.at 54 (by kernel_rfl)).trans rfl) ?_
          refine cons_eq ((F.at 55 (by kernel_rfl)).trans rfl) ?_
          refine cons_eq ((F.at 56 (by kernel_rfl)).trans rfl) ?_
          refine cons_eq ((F.at 57 (by kernel_rfl)).trans rfl) ?_
          refine cons_eq ((F.at 58 (by kernel_rfl)).trans rfl) ?_
          refine cons_eq ((F.at 59 (by kernel_rfl)).trans rfl) ?_
          refine cons_eq ((F.at 60 (by kernel_rfl)).trans rfl) ?_
          refine cons_eq ((F.at 61 (by kernel_rfl)).trans rfl) ?_
          refine cons_eq ((F.at 62 (by kernel_rfl)).trans rfl) ?_
          refine cons_eq ((F.at 63 (by kernel_rfl)).trans rfl) ?_
          refine cons_eq ((F.at 64 (by kernel_rfl)).trans rfl) ?_
          refine cons_eq ((F.at 65 (by kernel_rfl)).trans rfl) ?_
          refine cons_eq ((F.at 66 (by kernel_rfl)).trans rfl) ?_
          refine cons_eq ((F.at 67 (by kernel_rfl)).trans rfl) ?_
          refine cons_eq ((F.at 68 (by kernel_rfl)).trans rfl) ?_
          refine cons_eq ((F.at 69 (by kernel_rfl)).trans rfl) ?_
          refine cons_eq ((F.at 70 (by kernel_rfl)).trans rfl) ?_
          refine cons_eq ((F.at 71 (by kernel_rfl)).trans rfl) ?_
          refine cons_eq ((F.at 72 (by kernel_rfl)).trans rfl) ?_
          refine cons_eq rfl ?_
          refine cons_eq rfl ?_
          refine cons_eq rfl ?_
          refine cons_eq rfl ?_
          refine cons_eq rfl ?_
          refine cons_eq rfl ?_
          refine cons_eq rfl ?_
          refine cons_eq rfl ?_
          refine cons_eq rfl ?_
          refine cons_eq rfl ?_
          refine cons_eq rfl ?_
          refine cons_eq rfl ?_
          refine cons_eq ((F.at 85 (by kernel_rfl)).trans rfl) ?_
          refine cons_eq ((F.at 86 (by kernel_rfl)).trans rfl) ?_
          refine cons_eq ((F.at 87 (by kernel_rfl)).trans rfl) ?_
          refine cons_eq ((F.at 88 (by kernel_rfl)).trans rfl) ?_
          refine cons_eq ((F.at 89 (by kernel_rfl)).trans rfl) ?_
          refine cons_eq ((F.at 90 (by kernel_rfl)).trans rfl) ?_
          refine cons_eq ((F.at 91 (by kernel_rfl)).trans rfl) ?_
          refine cons_eq ((F.at 92 (by kernel_rfl)).trans rfl) ?_
          refine cons_eq ((F.at 93 (by kernel_rfl)).trans rfl) ?_
          refine cons_eq ((F.at 94 (by kernel_rfl)).trans rfl) ?_
          refine cons_eq ((F.at 95 (by kernel_rfl)).trans rfl) ?_
          refine cons_eq ((F.at 96 (by kernel_rfl)).trans rfl) ?_
          refine cons_eq ((F.at 97 (by kernel_rfl)).trans rfl) ?_
          refine cons_eq ((F.at 98 (by kernel_rfl)).trans rfl) ?_
          refine cons_eq ((F.at 99 (by kernel_rfl)).trans rfl) ?_
          refine cons_eq ((F.at 100 (by kernel_rfl)).trans rfl) ?_
          refine cons_eq ((F.at 101 (by kernel_rfl)).trans rfl) ?_
          refine cons_eq ((F.at 102 (by kernel_rfl)).trans rfl) ?_
          refine cons_eq ((F.at 103 (by kernel_rfl)).trans rfl) ?_
          refine cons_eq ((F.at 104 (by kernel_rfl)).trans rfl) ?_
          refine cons_eq ((F.at 105 (by kernel_rfl)).trans rfl) ?_
          refine cons_eq ((F.at 106 (by kernel_rfl)).trans rfl) ?_
          refine cons_eq ((F.at 107 (by kernel_rfl)).trans rfl) ?_
          refine cons_eq ((F.at 108 (by kernel_rfl)).trans rfl) ?_
          refine cons_eq ((F.at 109 (by kernel_rfl)).trans rfl) ?_
          refine cons_eq ((F.at 110 (by kernel_rfl)).trans rfl) ?_
          refine cons_eq ((F.at 111 (by kernel_rfl)).trans rfl) ?_
          refine cons_eq ((F.at 112 (by kernel_rfl)).trans rfl) ?_
          refine cons_eq ((F.at 113 (by kernel_rfl)).trans rfl) ?_
          refine cons_eq ((F.at 114 (by kernel_rfl)).trans rfl) ?_
          refine cons_eq ((F.at 115 (by kernel_rfl)).trans rfl) ?_
          refine cons_eq ((F.at 116 (by kernel_rfl)).trans rfl) ?_
          refine cons_eq ((F.at 117 (by kernel_rfl)).trans rfl) ?_
          refine cons_eq ((F.at 118 (by kernel_rfl)).trans rfl) ?_
          refine cons_eq ((F.at 119 (by kernel_rfl)).trans rfl) ?_
          refine cons_eq ((F.at 120 (by kernel_rfl)).trans rfl) ?_
          refine cons_eq ((F.at 121 (by kernel_rfl)).trans rfl) ?_
          refine cons_eq ((F.at 122 (by kernel_rfl)).trans rfl) ?_
          refine cons_eq ((F.at 123 (by kernel_rfl)).trans rfl) ?_
          refine cons_eq ((F.at 124 (by kernel_rfl)).trans rfl) ?_
          refine cons_eq ((F.at 125 (by kernel_rfl)).trans rfl) ?_
          refine cons_eq ((F.at 126 (by kernel_rfl)).trans rfl) ?_
          rfl
        case rel =>
          obtain ⟨hrd, hbl⟩ := lst_fill GG.out FC.out.1 HNE.out hB
          exact ⟨B, ⟨7, ⟨#[]⟩, a84, c84, K3, none, 0, []⟩, EB.out, Lib.hid ⟨box_fill HZ.out, by rw [AV.v_eq]; rfl, hrd, hbl⟩⟩
    case rest =>
      obtain ⟨B2, z2, rfl, HZ2⟩ := hcut
      have HB20 := Lib.hid (below_via HB8.out HZ2.out.2.2.2)
      have HP20 := Lib.hid (blk_via HZ2.out.2.2.2 HZ1.out.1)
      have HQ20 := Lib.hid HZ2.out.1
      have hrz1 := HZ1.out.2.2.1.up HZ2.out.2.2.2
      have hrz2 := HZ2.out.2.2.1
      have HV12 := Lib.hid (And.intro HZ1.out.2.1 HZ2.out.2.1)
      clear q0 q1 q2 q3 HY8 HB8 HS1 HS2 HKT HKR HKY HNE HLN HZ1 HZ2 HSL1 HSL2 HST HSR
      have HLS := fun W (h : Below w.heap.size w W) => Lib.hid (list20_row W l.a l.c l.l (HSL.out W h) (fun r hr => (HKD.out r hr).1 W h))
      obtain ⟨W20, hW20⟩ : ∃ W, W = wc := ⟨_, rfl⟩
      subst hW20
      have HRZ1 := Lib.hid (show ∀ W, Below W20.heap.size W20 W → Rd W z1 from fun W h => hrz1.up h)
      have HRZ2 := Lib.hid (show ∀ W, Below W20.heap.size W20 W → Rd W z2 from fun W h => hrz2.up h)
      clear hrz1 hrz2
      go_upto_region 12 with (go_at_call 32; (with_reducible refine (HLS _ HB20.out).out.mono ?_); rintro e w21 ⟨z3, rfl, hv3, hr3, h21⟩)
      go_name_world W22 hW22
      have hb22 : Below W20.heap.size W20 W22 := by rw [← hW22]; exact below_al h21
      have HP22 := Lib.hid (show W22.heap[B1]? = some (.cells #[.int .u8 z1.k, .string z1.t, .slice z1.la z1.l.length z1.lc, .slice z1.ka z1.ks.length z1.kc] 26 (0, 0)) from blk_via hb22 HP20.out)
      have HQ22 := Lib.hid (show W22.heap[B2]? = some (.cells #[.int .u8 z2.k, .string z2.t, .slice z2.la z2.l.length z2.lc, .slice z2.ka z2.ks.length z2.kc] 26 (0, 0)) from blk_via hb22 HQ20.out)
      obtain ⟨B3, hB3⟩ : ∃ B3, B3 = w21.heap.size := ⟨_, rfl⟩
      have HR22 := Lib.hid (show W22.heap[B3]? = some (.cells #[.int .u8 z3.k, .string z3.t, .slice z3.la z3.l.length z3.lc, .slice z3.ka z3.ks.length z3.kc] 26 (0, 0)) by rw [← hW22, hB3]; exact heap_alloc_new w21 _)
      have hr3' : Rd W22 z3 := by rw [← hW22]; exact hr3.up (below_al (Below.refl _ _))
      have HB22 := Lib.hid (below_via HB20.out hb22)
      rw [← hB3]
      have HRZ1' := Lib.hid (show ∀ W, Below W22.heap.size W22 W → Rd W z1 from fun W h => HRZ1.out W (below_via hb22 h))
      have HRZ2' := Lib.hid (show ∀ W, Below W22.heap.size W22 W → Rd W z2 from fun W h => HRZ2.out W (below_via hb22 h))
      have HRZ3' := Lib.hid (show ∀ W, Below W22.heap.size W22 W → Rd W z3 from fun W h => hr3'.up h)
      have ew1 : z1.w = 1 + (l.l.map AV.w).sum + x.w := by
        show z1.v.w = _
        rw [HV12.out.1, listV_wl, ← HL3.out, ← HL2.out, HPT.out]; simp; omega
      have ew2 : z2.w = 1 + (l.l.map AV.w).sum + y.w := by
        show z2.v.w = _
        rw [HV12.out.2, listV_wl, ← HK3.out, ← HK2.out, HPT.out]; simp; omega
      have ew3 : z3.w = 1 + (l.l.map AV.w).sum := by
        show z3.v.w = _
        rw [hv3, listV_wl]
      have px : 0 < x.w := Val.w_pos x.v
      have py : 0 < y.w := Val.w_pos y.v
      have hw1 : z1.w ≤ 1048576 := by have := HSM.out; omega
      have hw2 : z2.w ≤ 1048576 := by have := HSM.out; omega
      have hw3 : z3.w ≤ 1048576 := by have := HSM.out; omega
      have HV3 := Lib.hid hv3
      obtain ⟨g1, hg1⟩ : ∃ g, g = greatB z1.v z2.v := ⟨_, rfl⟩
      obtain ⟨g2, hg2⟩ : ∃ g, g = greatB z1.v z3.v := ⟨_, rfl⟩
      obtain ⟨m1, hm1⟩ : ∃ g, g = z1.v.may := ⟨_, rfl⟩
      obtain ⟨m2, hm2⟩ : ∃ g, g = z2.v.may := ⟨_, rfl⟩
      have HG12 := fun W (h : Below W22.heap.size W22 W) => Lib.hid (show Calls Try.prog 29 #[z1.val, z2.val] W (Ret (.bool g1) W) by rw [hg1]; exact great20_c W z1 z2 (HRZ1'.out W h) (HRZ2'.out W h) hw1 hw2)
      have HG13 := fun W (h : Below W22.heap.size W22 W) => Lib.hid (show Calls Try.prog 29 #[z1.val, z3.val] W (Ret (.bool g2) W) by rw [hg2]; exact great20_c W z1 z3 (HRZ1'.out W h) (HRZ3'.out W h) hw1 hw3)
      have HM1 := fun W (h : Below W22.heap.size W22 W) => Lib.hid (show Calls Try.prog 30 #[z1.val] W (Ret (.bool m1) W) by rw [hm1]; exact may_c W z1 (HRZ1'.out W h) hw1)
      have HM2 := fun W (h : Below W22.heap.size W22 W) => Lib.hid (show Calls Try.prog 30 #[z2.val] W (Ret (.bool m2) W) by rw [hm2]; exact may_c W z2 (HRZ2'.out W h) hw2)
      have HQQ := Lib.hid (And.intro hg1 (And.intro hg2 (And.intro hm1 hm2)))
      have HD22 := Lib.hid (Below.refl W22.heap.size W22)
      obtain ⟨p0, p1, p2, p3⟩ := vb4 HP22.out
      obtain ⟨q0, q1, q2, q3⟩ := vb4 HQ22.out
      obtain ⟨r0, r1, r2, r3⟩ := vb4 HR22.out
      clear hW22 hb22 h21 hv3 hr3 hr3' hB3 hg1 hg2 hm1 hm2 ew1 ew2 ew3 px py HRZ1 HRZ2 HRX HRY HP20 HQ20 HB20
      cases g1 with
      | true =>
        go_wp2_with (first
          | (go_at_call 24; (with_reducible refine (HLI _).out.mono ?_); rintro e w99 ⟨rfl, h99⟩)
          | (go_at_call 29; (with_reducible refine (HG12 _ HD22.out).out.mono ?_); rintro e w23 ⟨rfl, h23⟩; have HD23 := Lib.hid (below_via HD22.out h23); have HP23 := Lib.hid (blk_via h23 HP22.out); clear p0 p1 p2 p3; obtain ⟨p0, p1, p2, p3⟩ := vb4 HP23.out; have HQ23 := Lib.hid (blk_via h23 HQ22.out); clear q0 q1 q2 q3; obtain ⟨q0, q1, q2, q3⟩ := vb4 HQ23.out; have HR23 := Lib.hid (blk_via h23 HR22.out); clear r0 r1 r2 r3; obtain ⟨r0, r1, r2, r3⟩ := vb4 HR23.out; clear h23))
        go_ret
        exact ⟨rfl, below_via (below_via HB22.out HD23.out) h99⟩
      | false =>
      cases g2 with
      | true =>
        go_wp2_with (first
          | (go_at_call 24; (with_reducible refine (HLI _).out.mono ?_); rintro e w99 ⟨rfl, h99⟩)
          | (go_at_call 29; (with_reducible refine (HG13 _ HD23.out).out.mono ?_); rintro e w24 ⟨rfl, h24⟩; have HD24 := Lib.hid (below_via HD23.out h24); have HP24 := Lib.hid (blk_via h24 HP23.out); clear p0 p1 p2 p3; obtain ⟨p0, p1, p2, p3⟩ := vb4 HP24.out; have HQ24 := Lib.hid (blk_via h24 HQ23.out); clear q0 q1 q2 q3; obtain ⟨q0, q1, q2, q3⟩ := vb4 HQ24.out; have HR24 := Lib.hid (blk_via h24 HR23.out); clear r0 r1 r2 r3; obtain ⟨r0, r1, r2, r3⟩ := vb4 HR24.out; clear h24)
          | (go_at_call 29; (with_reducible refine (HG12 _ HD22.out).out.mono ?_); rintro e w23 ⟨rfl, h23⟩; have HD23 := Lib.hid (below_via HD22.out h23); have HP23 := Lib.hid (blk_via h23 HP22.out); clear p0 p1 p2 p3; obtain ⟨p0, p1, p2, p3⟩ := vb4 HP23.out; have HQ23 := Lib.hid (blk_via h23 HQ22.out); clear q0 q1 q2 q3; obtain ⟨q0, q1, q2, q3⟩ := vb4 HQ23.out; have HR23 := Lib.hid (blk_via h23 HR22.out); clear r0 r1 r2 r3; obtain ⟨r0, r1, r2, r3⟩ := vb4 HR23.out; clear h23))
        go_ret
        exact ⟨rfl, below_via (below_via HB22.out HD24.out) h99⟩
      | false =>
      cases m1 with
      | false =>
        go_wp2_with (first
          | (go_at_call 24; (with_reducible refine (HLI _).out.mono ?_); rintro e w99 ⟨rfl, h99⟩)
          | (go_at_call 30; (with_reducible refine (HM1 _ HD24.out).out.mono ?_); rintro e w25 ⟨rfl, h25⟩; have HD25 := Lib.hid (below_via HD24.out h25); have HP25 := Lib.hid (blk_via h25 HP24.out); clear p0 p1 p2 p3; obtain ⟨p0, p1, p2, p3⟩ := vb4 HP25.out; have HQ25 := Lib.hid (blk_via h25 HQ24.out); clear q0 q1 q2 q3; obtain ⟨q0, q1, q2, q3⟩ := vb4 HQ25.out; have HR25 := Lib.hid (blk_via h25 HR24.out); clear r0 r1 r2 r3; obtain ⟨r0, r1, r2, r3⟩ := vb4 HR25.out; clear h25)
          | (go_at_call 29; (with_reducible refine (HG13 _ HD23.out).out.mono ?_); rintro e w24 ⟨rfl, h24⟩; have HD24 := Lib.hid (below_via HD23.out h24); have HP24 := Lib.hid (blk_via h24 HP23.out); clear p0 p1 p2 p3; obtain ⟨p0, p1, p2, p3⟩ := vb4 HP24.out; have HQ24 := Lib.hid (blk_via h24 HQ23.out); clear q0 q1 q2 q3; obtain ⟨q0, q1, q2, q3⟩ := vb4 HQ24.out; have HR24 := Lib.hid (blk_via h24 HR23.out); clear r0 r1 r2 r3; obtain ⟨r0, r1, r2, r3⟩ := vb4 HR24.out; clear h24)
          | (go_at_call 29; (with_reducible refine (HG12 _ HD22.out).out.mono ?_); rintro e w23 ⟨rfl, h23⟩; have HD23 := Lib.hid (below_via HD22.out h23); have HP23 := Lib.hid (blk_via h23 HP22.out); clear p0 p1 p2 p3; obtain ⟨p0, p1, p2, p3⟩ := vb4 HP23.out; have HQ23 := Lib.hid (blk_via h23 HQ22.out); clear q0 q1 q2 q3; obtain ⟨q0, q1, q2, q3⟩ := vb4 HQ23.out; have HR23 := Lib.hid (blk_via h23 HR22.out); clear r0 r1 r2 r3; obtain ⟨r0, r1, r2, r3⟩ := vb4 HR23.out; clear h23))
        go_ret
        exact ⟨rfl, below_via (below_via HB22.out HD25.out) h99⟩
      | true =>
      cases m2 with
      | false =>
        go_wp2_with (first
          | (go_at_call 24; (with_reducible refine (HLI _).out.mono ?_); rintro e w99 ⟨rfl, h99⟩)
          | (go_at_call 30; (with_reducible refine (HM2 _ HD25.out).out.mono ?_); rintro e w26 ⟨rfl, h26⟩; have HD26 := Lib.hid (below_via HD25.out h26); have HP26 := Lib.hid (blk_via h26 HP25.out); clear p0 p1 p2 p3; obtain ⟨p0, p1, p2, p3⟩ := vb4 HP26.out; have HQ26 := Lib.hid (blk_via h26 HQ25.out); clear q0 q1 q2 q3; obtain ⟨q0, q1, q2, q3⟩ := vb4 HQ26.out; have HR26 := Lib.hid (blk_via h26 HR25.out); clear r0 r1 r2 r3; obtain ⟨r0, r1, r2, r3⟩ := vb4 HR26.out; clear h26)
          | (go_at_call 30; (with_reducible refine (HM1 _ HD24.out).out.mono ?_); rintro e w25 ⟨rfl, h25⟩; have HD25 := Lib.hid (below_via HD24.out h25); have HP25 := Lib.hid (blk_via h25 HP24.out); clear p0 p1 p2 p3; obtain ⟨p0, p1, p2, p3⟩ := vb4 HP25.out; have HQ25 := Lib.hid (blk_via h25 HQ24.out); clear q0 q1 q2 q3; obtain ⟨q0, q1, q2, q3⟩ := vb4 HQ25.out; have HR25 := Lib.hid (blk_via h25 HR24.out); clear r0 r1 r2 r3; obtain ⟨r0, r1, r2, r3⟩ := vb4 HR25.out; clear h25)
          | (go_at_call 29; (with_reducible refine (HG13 _ HD23.out).out.mono ?_); rintro e w24 ⟨rfl, h24⟩; have HD24 := Lib.hid (below_via HD23.out h24); have HP24 := Lib.hid (blk_via h24 HP23.out); clear p0 p1 p2 p3; obtain ⟨p0, p1, p2, p3⟩ := vb4 HP24.out; have HQ24 := Lib.hid (blk_via h24 HQ23.out); clear q0 q1 q2 q3; obtain ⟨q0, q1, q2, q3⟩ := vb4 HQ24.out; have HR24 := Lib.hid (blk_via h24 HR23.out); clear r0 r1 r2 r3; obtain ⟨r0, r1, r2, r3⟩ := vb4 HR24.out; clear h24)
          | (go_at_call 29; (with_reducible refine (HG12 _ HD22.out).out.mono ?_); rintro e w23 ⟨rfl, h23⟩; have HD23 := Lib.hid (below_via HD22.out h23); have HP23 := Lib.hid (blk_via h23 HP22.out); clear p0 p1 p2 p3; obtain ⟨p0, p1, p2, p3⟩ := vb4 HP23.out; have HQ23 := Lib.hid (blk_via h23 HQ22.out); clear q0 q1 q2 q3; obtain ⟨q0, q1, q2, q3⟩ := vb4 HQ23.out; have HR23 := Lib.hid (blk_via h23 HR22.out); clear r0 r1 r2 r3; obtain ⟨r0, r1, r2, r3⟩ := vb4 HR23.out; clear h23))
        go_ret
        exact ⟨rfl, below_via (below_via HB22.out HD26.out) h99⟩
      | true =>
      obtain ⟨d, hd⟩ : ∃ d, d = farV z1.v z2.v := ⟨_, rfl⟩
      have e1 : z1.v = listV (LT.map AV.v ++ x.v :: LR.map AV.v) := by rw [HV12.out.1, ← HL3.out, ← HL2.out]; simp
      have e2 : z2.v = listV (LT.map AV.v ++ y.v :: LR.map AV.v) := by rw [HV12.out.2, ← HK3.out, ← HK2.out]; simp
      have e3 : z3.v = listV (LT.map AV.v ++ LR.map AV.v) := by rw [HV3.out, HPT.out]; simp
      have y1 : z1.v.may = true := HQQ.out.2.2.1.symm
      have y2 : z2.v.may = true := HQQ.out.2.2.2.symm
      have hdk : d ≤ k := by
        rw [hd, e1, e2, HKN.out.1]
        exact far_swap (listV_may.1 (e1 ▸ y1) _ (by simp)) (listV_may.1 (e2 ▸ y2) _ (by simp))
      have hm3 := far_more_one (l1 := LT.map AV.v) (l2 := LR.map AV.v) (a := x.v) (e1 ▸ y1)
      rw [← e3, ← e1, ← HKN.out.2.1] at hm3
      have f12 := (apart_facts HQQ.out.1.symm y1 y2).1
      have f13 := (apart_facts HQQ.out.2.1.symm y1 hm3.1).1
      rw [← hd] at f12
      rw [hm3.2] at f13
      have HF12 := fun W (h : Below W22.heap.size W22 W) => Lib.hid (show Calls Try.prog 26 #[z1.val, z2.val] W (Ret (.int .i64 (d : Nat)) W) by rw [← f12]; exact far_c W z1 z2 (HRZ1'.out W h) (HRZ2'.out W h) hw1 hw2)
      have HF13 := fun W (h : Below W22.heap.size W22 W) => Lib.hid (show Calls Try.prog 26 #[z1.val, z3.val] W (Ret (.int .i64 (n : Nat)) W) by rw [← f13]; exact far_c W z1 z3 (HRZ1'.out W h) (HRZ3'.out W h) hw1 hw3)
      have c1 : decide ((d : Int) ≤ (k : Int)) = true := decide_eq_true (by omega)
      have c1' : decide (d ≤ k) = true := decide_eq_true hdk
      clear hd e1 e2 e3 y1 y2 hdk hm3 f12 f13
      go_upto_region 14 with (first
        | (go_at_call 30; (with_reducible refine (HM2 _ HD25.out).out.mono ?_); rintro e w26 ⟨rfl, h26⟩; have HD26 := Lib.hid (below_via HD25.out h26); have HP26 := Lib.hid (blk_via h26 HP25.out); clear p0 p1 p2 p3; obtain ⟨p0, p1, p2, p3⟩ := vb4 HP26.out; have HQ26 := Lib.hid (blk_via h26 HQ25.out); clear q0 q1 q2 q3; obtain ⟨q0, q1, q2, q3⟩ := vb4 HQ26.out; have HR26 := Lib.hid (blk_via h26 HR25.out); clear r0 r1 r2 r3; obtain ⟨r0, r1, r2, r3⟩ := vb4 HR26.out; clear h26)
        | (go_at_call 30; (with_reducible refine (HM1 _ HD24.out).out.mono ?_); rintro e w25 ⟨rfl, h25⟩; have HD25 := Lib.hid (below_via HD24.out h25); have HP25 := Lib.hid (blk_via h25 HP24.out); clear p0 p1 p2 p3; obtain ⟨p0, p1, p2, p3⟩ := vb4 HP25.out; have HQ25 := Lib.hid (blk_via h25 HQ24.out); clear q0 q1 q2 q3; obtain ⟨q0, q1, q2, q3⟩ := vb4 HQ25.out; have HR25 := Lib.hid (blk_via h25 HR24.out); clear r0 r1 r2 r3; obtain ⟨r0, r1, r2, r3⟩ := vb4 HR25.out; clear h25)
        | (go_at_call 29; (with_reducible refine (HG13 _ HD23.out).out.mono ?_); rintro e w24 ⟨rfl, h24⟩; have HD24 := Lib.hid (below_via HD23.out h24); have HP24 := Lib.hid (blk_via h24 HP23.out); clear p0 p1 p2 p3; obtain ⟨p0, p1, p2, p3⟩ := vb4 HP24.out; have HQ24 := Lib.hid (blk_via h24 HQ23.out); clear q0 q1 q2 q3; obtain ⟨q0, q1, q2, q3⟩ := vb4 HQ24.out; have HR24 := Lib.hid (blk_via h24 HR23.out); clear r0 r1 r2 r3; obtain ⟨r0, r1, r2, r3⟩ := vb4 HR24.out; clear h24)
        | (go_at_call 29; (with_reducible refine (HG12 _ HD22.out).out.mono ?_); rintro e w23 ⟨rfl, h23⟩; have HD23 := Lib.hid (below_via HD22.out h23); have HP23 := Lib.hid (blk_via h23 HP22.out); clear p0 p1 p2 p3; obtain ⟨p0, p1, p2, p3⟩ := vb4 HP23.out; have HQ23 := Lib.hid (blk_via h23 HQ22.out); clear q0 q1 q2 q3; obtain ⟨q0, q1, q2, q3⟩ := vb4 HQ23.out; have HR23 := Lib.hid (blk_via h23 HR22.out); clear r0 r1 r2 r3; obtain ⟨r0, r1, r2, r3⟩ := vb4 HR23.out; clear h23))
      go_wp2_with (first
        | (go_at_call 24; (with_reducible refine (HLI _).out.mono ?_); rintro e w99 ⟨rfl, h99⟩)
        | (go_at_call 26; (with_reducible refine (HF13 _ HD28.out).out.mono ?_); rintro e w29 ⟨rfl, h29⟩; have HD29 := Lib.hid (below_via HD28.out h29); have HP29 := Lib.hid (blk_via h29 HP28.out); clear p0 p1 p2 p3; obtain ⟨p0, p1, p2, p3⟩ := vb4 HP29.out; have HQ29 := Lib.hid (blk_via h29 HQ28.out); clear q0 q1 q2 q3; obtain ⟨q0, q1, q2, q3⟩ := vb4 HQ29.out; have HR29 := Lib.hid (blk_via h29 HR28.out); clear r0 r1 r2 r3; obtain ⟨r0, r1, r2, r3⟩ := vb4 HR29.out; clear h29)
        | (go_at_call 26; (with_reducible refine (HF12 _ HD27.out).out.mono ?_); rintro e w28 ⟨rfl, h28⟩; have HD28 := Lib.hid (below_via HD27.out h28); have HP28 := Lib.hid (blk_via h28 HP27.out); clear p0 p1 p2 p3; obtain ⟨p0, p1, p2, p3⟩ := vb4 HP28.out; have HQ28 := Lib.hid (blk_via h28 HQ27.out); clear q0 q1 q2 q3; obtain ⟨q0, q1, q2, q3⟩ := vb4 HQ28.out; have HR28 := Lib.hid (blk_via h28 HR27.out); clear r0 r1 r2 r3; obtain ⟨r0, r1, r2, r3⟩ := vb4 HR28.out; clear h28)
        | (go_at_call 26; (with_reducible refine (HF12 _ HD26.out).out.mono ?_); rintro e w27 ⟨rfl, h27⟩; have HD27 := Lib.hid (below_via HD26.out h27); have HP27 := Lib.hid (blk_via h27 HP26.out); clear p0 p1 p2 p3; obtain ⟨p0, p1, p2, p3⟩ := vb4 HP27.out; have HQ27 := Lib.hid (blk_via h27 HQ26.out); clear q0 q1 q2 q3; obtain ⟨q0, q1, q2, q3⟩ := vb4 HQ27.out; have HR27 := Lib.hid (blk_via h27 HR26.out); clear r0 r1 r2 r3; obtain ⟨r0, r1, r2, r3⟩ := vb4 HR27.out; clear h27))
      go_ret
      exact ⟨rfl, below_via (below_via HB22.out HD29.out) h99⟩
end Go.Proofs.Ytmhkacafilpliaa
