/-
  Chapter 29: PicksOne's walk. Conditions: the lists lie in memory, weights and lengths are bounded. (Printed by gen_fm.py.)
-/
import Derived.Test.YtmhkacafilpliaaGreatFL
namespace Go.Proofs.YtmhkacafilpliaaGreat
open Go.RowKit Go.Sort Go.Shelf Go.BigFrame

theorem pick_pair (b l r : List Val) : (pickO b l r = 0 ∧ pickO b r l = 0) ∨ (pickO b l r = 0 ∧ pickO b r l = 1) ∨ (pickO b l r = 1 ∧ pickO b r l = 0) ∨ (pickO b l r = 1 ∧ pickO b r l = 1) ∨ (pickO b l r = 2 ∧ pickO b r l = 2) ∨ (pickO b l r = 3 ∧ pickO b r l = 3) := by
  rw [pickO, pickO, eqlW_sym r l, Bool.and_comm (eqlW areB b r)]
  generalize eqlW sameV l r = p
  generalize eqlW sameV b l = q
  generalize eqlW sameV b r = s
  generalize (eqlW areB b l && eqlW areB b r) = t
  cases p <;> cases q <;> cases s <;> cases t <;> decide
set_option maxRecDepth 100000 in
set_option maxHeartbeats 12800000 in
theorem pone (w : World) (x y z : LA) (hx : x.Rd w) (hy : y.Rd w) (hz : z.Rd w) : Calls Tryz.prog 5 #[.slice x.a x.l.length x.c, .slice y.a y.l.length y.c, .slice z.a z.l.length z.c] w (Ret (.bool true) w) := by
  have HLV := fun W => Lib.hid (lives29_c W)
  have hxl := hx.len
  have hyl := hy.len
  have hzl := hz.len
  have hba := (Below.refl w.heap.size w).alloc (Nat.le_refl _) (.cells #[.slice x.a x.l.length x.c, .slice y.a y.l.length y.c, .slice z.a z.l.length z.c] 23)
  have HG := Lib.hid (show Calls Tryz.prog 16 #[.slice (some ⟨w.heap.size, 0, none⟩) 3 3] _ (RetB _) from
    great29_c (w.alloc (.cells #[.slice x.a x.l.length x.c, .slice y.a y.l.length y.c, .slice z.a z.l.length z.c] 23)) (some ⟨w.heap.size, 0, none⟩) 3 [x, y, z] ((lit_sl (enc := LA.enc) (size := 1) (l := [x, y, z]) (t := 23) (fr := (0, 0)) (fun _ => rfl) (heap_alloc_new w _)).widen (Nat.zero_le _) (by simp)) (fun v hv => by
      simp only [List.mem_cons, List.not_mem_nil, or_false] at hv
      rcases hv with rfl | rfl | rfl
      · exact hx.up hba
      · exact hy.up hba
      · exact hz.up hba) (by simp))
  obtain ⟨f1, hf1⟩ : ∃ b, b = fineB x.v := ⟨_, rfl⟩
  obtain ⟨f2, hf2⟩ : ∃ b, b = fineB y.v := ⟨_, rfl⟩
  obtain ⟨f3, hf3⟩ : ∃ b, b = fineB z.v := ⟨_, rfl⟩
  have HF1 := Lib.hid (show ∀ W, Below w.heap.size w W → Calls Tryz.prog 24 #[.slice x.a x.l.length x.c] W (Ret (.bool f1) W) from fun W h => by rw [hf1]; exact fine29_c W x (hx.up h))
  have HF2 := Lib.hid (show ∀ W, Below w.heap.size w W → Calls Tryz.prog 24 #[.slice y.a y.l.length y.c] W (Ret (.bool f2) W) from fun W h => by rw [hf2]; exact fine29_c W y (hy.up h))
  have HF3 := Lib.hid (show ∀ W, Below w.heap.size w W → Calls Tryz.prog 24 #[.slice z.a z.l.length z.c] W (Ret (.bool f3) W) from fun W h => by rw [hf3]; exact fine29_c W z (hz.up h))
  have E1 := Lib.hid hf1
  have E2 := Lib.hid hf2
  have HX := Lib.hid hx
  have HY := Lib.hid hy
  have HZ := Lib.hid hz
  have HBA := Lib.hid hba
  clear hx hy hz hba hf1 hf2 hf3
  go_enter Tryz.func5, Tryz.ntmps5
  go_upto_if 31 with (first
    | (go_at_call 24; first
        | ((with_reducible refine (HF1.out _ HB.out).mono ?_); rintro e w5 ⟨rfl, h5⟩; have HB := Lib.hid (below_via HB.out h5); clear h5; cases f1)
        | ((with_reducible refine (HF2.out _ HB.out).mono ?_); rintro e w5 ⟨rfl, h5⟩; have HB := Lib.hid (below_via HB.out h5); clear h5; cases f2)
        | ((with_reducible refine (HF3.out _ HB.out).mono ?_); rintro e w5 ⟨rfl, h5⟩; have HB := Lib.hid (below_via HB.out h5); clear h5; cases f3))
    | (go_at_call 16; refine HG.out.mono ?_; rintro e w1 ⟨g, rfl, hb1⟩; have HB := Lib.hid (below_via HBA.out hb1); clear hb1; cases g))
  · go_wp2_with (go_at_call 17; (with_reducible refine (HLV _).out.mono ?_); rintro e w9 ⟨rfl, h9⟩)
    go_ret
    exact ⟨rfl, below_via HB.out h9⟩
  · go_wp2_with (go_at_call 17; (with_reducible refine (HLV _).out.mono ?_); rintro e w9 ⟨rfl, h9⟩)
    go_ret
    exact ⟨rfl, below_via HB.out h9⟩
  · go_wp2_with (go_at_call 17; (with_reducible refine (HLV _).out.mono ?_); rintro e w9 ⟨rfl, h9⟩)
    go_ret
    exact ⟨rfl, below_via HB.out h9⟩
  rotate_left
  · go_wp2_with (go_at_call 17; (with_reducible refine (HLV _).out.mono ?_); rintro e w9 ⟨rfl, h9⟩)
    go_ret
    exact ⟨rfl, below_via HB.out h9⟩
  have hx := HX.out
  have hy := HY.out
  have hz := HZ.out
  have mx := fineB_yes E1.out.symm
  have my := fineB_yes E2.out.symm
  obtain ⟨X, hX⟩ : ∃ X, X = pickO x.v y.v z.v := ⟨_, rfl⟩
  obtain ⟨Y, hY⟩ : ∃ Y, Y = pickO x.v z.v y.v := ⟨_, rfl⟩
  obtain ⟨E, hE⟩ : ∃ E, E = eqlW sameV x.v z.v := ⟨_, rfl⟩
  have HO1 := Lib.hid (show ∀ W, Below w.heap.size w W → Calls Tryz.prog 21 #[.slice x.a x.l.length x.c, .slice y.a y.l.length y.c, .slice z.a z.l.length z.c] W (Ret (.int .u8 (X)) W) from fun W h => by
    have := pof29_c W x y z (hx.up h) (hy.up h) (hz.up h)
    rwa [hX])
  have HO2 := Lib.hid (show ∀ W, Below w.heap.size w W → Calls Tryz.prog 21 #[.slice x.a x.l.length x.c, .slice z.a z.l.length z.c, .slice y.a y.l.length y.c] W (Ret (.int .u8 (Y)) W) from fun W h => by
    have := pof29_c W x z y (hx.up h) (hz.up h) (hy.up h)
    rwa [hY])
  have HO3 := Lib.hid (show ∀ W, Below w.heap.size w W → Calls Tryz.prog 21 #[.slice x.a x.l.length x.c, .slice y.a y.l.length y.c, .slice y.a y.l.length y.c] W (Ret (.int .u8 (0)) W) from fun W h => by
    have := pof29_c W x y y (hx.up h) (hy.up h) (hy.up h)
    rwa [pick_both my] at this)
  have HO4 := Lib.hid (show ∀ W, Below w.heap.size w W → Calls Tryz.prog 21 #[.slice x.a x.l.length x.c, .slice x.a x.l.length x.c, .slice x.a x.l.length x.c] W (Ret (.int .u8 (0)) W) from fun W h => by
    have := pof29_c W x x x (hx.up h) (hx.up h) (hx.up h)
    rwa [pick_both mx] at this)
  have HO5 := Lib.hid (show ∀ W, Below w.heap.size w W → Calls Tryz.prog 21 #[.slice x.a x.l.length x.c, .slice y.a y.l.length y.c, .slice x.a x.l.length x.c] W (Ret (.int .u8 (0)) W) from fun W h => by
    have := pof29_c W x y x (hx.up h) (hy.up h) (hx.up h)
    rwa [pick_left mx] at this)
  have HO6 := Lib.hid (show ∀ W, Below w.heap.size w W → Calls Tryz.prog 21 #[.slice x.a x.l.length x.c, .slice x.a x.l.length x.c, .slice z.a z.l.length z.c] W (Ret (.int .u8 (if E then 0 else 1)) W) from fun W h => by
    have := pof29_c W x x z (hx.up h) (hx.up h) (hz.up h)
    rwa [pick_right mx, ← hE] at this)
  have hXY : (X = 0 ∧ Y = 0) ∨ (X = 0 ∧ Y = 1) ∨ (X = 1 ∧ Y = 0) ∨ (X = 1 ∧ Y = 1) ∨ (X = 2 ∧ Y = 2) ∨ (X = 3 ∧ Y = 3) := by
    rw [hX, hY]; exact pick_pair x.v y.v z.v
  have hll : ((x.l.length : Int) == (z.l.length : Int)) = decide (x.l.length = z.l.length) := by
    by_cases h : x.l.length = z.l.length
    · rw [h]; simp
    · have : ¬ (x.l.length : Int) = (z.l.length : Int) := by omega
      rw [decide_eq_false h]; simpa using this
  have HE := Lib.hid hE
  clear hX hY hE hx hy hz mx my HF1 HF2 HF3 HG HBA E1 E2
  rcases hXY with ⟨rfl, rfl⟩ | ⟨rfl, rfl⟩ | ⟨rfl, rfl⟩ | ⟨rfl, rfl⟩ | ⟨rfl, rfl⟩ | ⟨rfl, rfl⟩
  all_goals
    go_wp2_with (go_at_call 21; first
        | ((with_reducible refine (HO1.out _ HB.out).mono ?_); rintro e w5 ⟨rfl, h5⟩; have HB := Lib.hid (below_via HB.out h5); clear h5)
        | ((with_reducible refine (HO2.out _ HB.out).mono ?_); rintro e w5 ⟨rfl, h5⟩; have HB := Lib.hid (below_via HB.out h5); clear h5)
        | ((with_reducible refine (HO3.out _ HB.out).mono ?_); rintro e w5 ⟨rfl, h5⟩; have HB := Lib.hid (below_via HB.out h5); clear h5)
        | ((with_reducible refine (HO4.out _ HB.out).mono ?_); rintro e w5 ⟨rfl, h5⟩; have HB := Lib.hid (below_via HB.out h5); clear h5)
        | ((with_reducible refine (HO5.out _ HB.out).mono ?_); rintro e w5 ⟨rfl, h5⟩; have HB := Lib.hid (below_via HB.out h5); clear h5))
    clear hll HO1 HO2 HO3 HO4 HO5
    go_loopw [9, 10] (fun s9 s10 wr => ∃ (k : Nat) (sv : Bool), k ≤ x.l.length ∧ s10 = .int .i64 (k : Int) ∧ s9 = .bool sv ∧ Hid (Below w.heap.size w wr) ∧ Hid (sv = true → x.l.length = z.l.length ∧ ∀ (j : Nat) (u v : Val), j < k → x.v[j]? = some u → z.v[j]? = some v → sameV u v = true) ∧ Hid (sv = false → eqlW sameV x.v z.v = false)) (fun _ s10 _ => x.l.length - (intOf s10).toNat)
    case atStart => exact ⟨0, _, Nat.zero_le _, rfl, rfl, HB, Lib.hid (fun h => ⟨of_decide_eq_true h, fun j u v h => absurd h (Nat.not_lt_zero _)⟩), Lib.hid (fun h => eqlW_len (by rw [LA.v, LA.v, List.length_map, List.length_map]; exact of_decide_eq_false h))⟩
    case round =>
      obtain ⟨k, sv, hk, rfl, rfl, HB, HT, HN⟩ := hrel
      cases sv with
      | false =>
        obtain rfl : E = false := HE.out.trans (HN.out rfl)
        have HO6 := Lib.hid (show ∀ W, Below w.heap.size w W → Calls Tryz.prog 21 #[.slice x.a x.l.length x.c, .slice x.a x.l.length x.c, .slice z.a z.l.length z.c] W (Ret (.int .u8 1) W) from HO6.out)
        by_cases hlt : k < x.l.length
        · have hlt' : (k : Int) < (x.l.length : Int) := by omega
          go_wp2_with (first
            | (go_at_call 17; (with_reducible refine (HLV _).out.mono ?_); rintro e w9 ⟨rfl, h9⟩)
            | (go_at_call 21; first
        | ((with_reducible refine (HO6.out _ HB.out).mono ?_); rintro e w5 ⟨rfl, h5⟩; have HB := Lib.hid (below_via HB.out h5); clear h5)))
          go_ret
          exact ⟨rfl, below_via HB.out h9⟩
        · obtain rfl : k = x.l.length := by omega
          have hge : ¬ (x.l.length : Int) < (x.l.length : Int) := by omega
          go_wp2_with (first
            | (go_at_call 17; (with_reducible refine (HLV _).out.mono ?_); rintro e w9 ⟨rfl, h9⟩)
            | (go_at_call 21; first
        | ((with_reducible refine (HO6.out _ HB.out).mono ?_); rintro e w5 ⟨rfl, h5⟩; have HB := Lib.hid (below_via HB.out h5); clear h5)))
          go_ret
          exact ⟨rfl, below_via HB.out h9⟩
      | true =>
        obtain ⟨hll, hyes⟩ := HT.out rfl
        have HYES := Lib.hid hyes
        have HL := Lib.hid hll
        clear hyes
        by_cases hlt : k < x.l.length
        · have hlz : k < z.l.length := by omega
          have hks : x.l[k]? = some x.l[k] := List.getElem?_eq_getElem hlt
          have hkz : z.l[k]? = some z.l[k] := List.getElem?_eq_getElem hlz
          clear hll
          generalize x.l[k] = u at *
          generalize z.l[k] = v at *
          have hlt' : (k : Int) < (x.l.length : Int) := by omega
          have hlz' : (k : Int) < (z.l.length : Int) := by omega
          have hk0 : (0 : Int) ≤ (k : Int) := by omega
          obtain ⟨ru, wu⟩ := HX.out.kids u (List.mem_of_getElem? hks)
          obtain ⟨rv, wv⟩ := HZ.out.kids v (List.mem_of_getElem? hkz)
          have hp0 := HX.out.sl
          have hq0 := HZ.out.sl
          obtain ⟨b, off, hla, -, -, -, c0, c1, c2, c3⟩ := vals_at hp0 hks
          obtain ⟨b2, off2, hla2, -, -, -, d0, d1, d2, d3⟩ := vals_at hq0 hkz
          have k1 := blkv HB.out c0
          have k2 := blkv HB.out c1
          have k3 := blkv HB.out c2
          have k4 := blkv HB.out c3
          have m1 := blkv HB.out d0
          have m2 := blkv HB.out d1
          have m3 := blkv HB.out d2
          have m4 := blkv HB.out d3
          obtain ⟨s, hs⟩ : ∃ s, s = sameV u.v v.v := ⟨_, rfl⟩
          have HC := fun W (h : Below wr.heap.size wr W) => Lib.hid (show Calls Tryz.prog 25 #[u.val, v.val] W (Ret (.bool s) W) by rw [hs]; exact same_c u v W (ru.up (below_via HB.out h)) (rv.up (below_via HB.out h)) wu wv)
          have HS := Lib.hid hs
          have HKS := Lib.hid (show x.v[k]? = some u.v by rw [LA.v, List.getElem?_map, hks]; rfl)
          have HKZ := Lib.hid (show z.v[k]? = some v.v by rw [LA.v, List.getElem?_map, hkz]; rfl)
          rw [hla, hla2]
          clear c0 c1 c2 c3 d0 d1 d2 d3 hla hla2 hks hkz hs ru rv hp0 hq0
          go_upto_region 15 with fail
          have LD := Lib.hid (fun W (h : Below wr.heap.size wr W) => And.intro (blkv h k1) (And.intro (blkv h k2) (And.intro (blkv h k3) (And.intro (blkv h k4) (And.intro (blkv h m1) (And.intro (blkv h m2) (And.intro (blkv h m3) (blkv h m4))))))))
          clear k1 k2 k3 k4 m1 m2 m3 m4
          refine wp_region_bl (by kernel_rfl) (by kernel_rfl) ?_
          repeat (first | go_big_quiet_skip | (go_big_quiet_want; go_big_quiet_op; first | go_big_quiet_on | (refine ⟨_, fun _ _ => (by with_reducible rfl), ?_⟩; go_big_quiet_on) | (apply Exists.intro; refine ⟨fun w' hC => (by simp only [LD.out w' hC, Result.andThen]; exact ⟨trivial, rfl⟩), ?_⟩; go_big_quiet_on) | (apply Exists.intro; refine ⟨fun w' hC => (by (with_reducible refine (HC w' hC).out.mono ?_); exact fun e w2 ⟨he, hb⟩ => ⟨he, hC.trans (hb.mono hC.size)⟩), ?_⟩; go_big_quiet_on)))
          refine wpQuiet_nil ?_; intro wz hbz
          have HBZ := Lib.hid hbz
          clear hbz LD
          go_wp2_with fail
          exact ⟨⟨k + 1, s, by omega, by go_num, rfl, Lib.hid (below_via HB.out HBZ.out), Lib.hid (fun h => ⟨HL.out, fun j a c hj ha hc => by
            by_cases hjk : j < k
            · exact HYES.out j a c hjk ha hc
            · obtain rfl : j = k := by omega
              rw [HKS.out] at ha
              rw [HKZ.out] at hc
              injection ha with ha
              injection hc with hc
              subst ha
              subst hc
              exact HS.out.symm.trans h⟩), Lib.hid (fun h => eqlW_no HKS.out HKZ.out (HS.out.symm.trans h))⟩, by simp [intOf]; omega⟩
        · obtain rfl : k = x.l.length := by omega
          have hge : ¬ (x.l.length : Int) < (x.l.length : Int) := by omega
          obtain rfl : E = true := by
            refine HE.out.trans (eqlW_yes (by rw [LA.v, LA.v, List.length_map, List.length_map]; exact hll) fun i u v h1 h2 => HYES.out i u v ?_ h1 h2)
            have := (List.getElem?_eq_some_iff.1 h1).1
            rwa [LA.v, List.length_map] at this
          have HO6 := Lib.hid (show ∀ W, Below w.heap.size w W → Calls Tryz.prog 21 #[.slice x.a x.l.length x.c, .slice x.a x.l.length x.c, .slice z.a z.l.length z.c] W (Ret (.int .u8 0) W) from HO6.out)
          clear hll
          go_wp2_with (first
            | (go_at_call 17; (with_reducible refine (HLV _).out.mono ?_); rintro e w9 ⟨rfl, h9⟩)
            | (go_at_call 21; first
        | ((with_reducible refine (HO6.out _ HB.out).mono ?_); rintro e w5 ⟨rfl, h5⟩; have HB := Lib.hid (below_via HB.out h5); clear h5)))
          go_ret
          exact ⟨rfl, below_via HB.out h9⟩
end Go.Proofs.YtmhkacafilpliaaGreat
