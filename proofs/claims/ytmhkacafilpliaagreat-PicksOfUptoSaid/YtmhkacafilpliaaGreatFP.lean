/-
  Chapter 29: the document's Same. Conditions: the lists lie in memory, weights and lengths are bounded.
  Chapter 29: the document's Rest, and a list's twin; PicksOf's walk. Conditions: the lists lie in memory, weights and lengths are bounded. (Printed by gen_fp.py.)
-/
import Derived.Test.YtmhkacafilpliaaGreatFL
import Derived.Test.YtmhkacafilpliaaGreatFG
import Derived.Test.YtmhkacafilpliaaGreatRB
namespace Go.Proofs.YtmhkacafilpliaaGreat
open Go.RowKit Go.Sort Go.Shelf Go.BigFrame

set_option maxRecDepth 100000 in
set_option maxHeartbeats 6400000 in
theorem rsame29_c (w : World) (p q : LA) (hp : p.Rd w) (hq : q.Rd w) : Calls Tryz.prog 49 #[.slice p.a p.l.length p.c, .slice q.a q.l.length q.c] w (Ret (.bool (eqlW sameV p.v q.v)) w) := by
  have HP := Lib.hid hp
  have HQ := Lib.hid hq
  have hpl := hp.len
  have hql := hq.len
  obtain ⟨r, hr⟩ : ∃ r, r = eqlW sameV p.v q.v := ⟨_, rfl⟩
  have HR := Lib.hid hr
  rw [← hr]
  clear hp hq hr
  by_cases hl : p.l.length = q.l.length
  · have hl' : ((p.l.length : Int) != (q.l.length : Int)) = false := by simp [hl]
    have HL := Lib.hid hl
    clear hl
    go_enter Tryz.func49, Tryz.ntmps49
    go_wp2_with fail
    clear hl'
    go_loopw [5] (fun s5 wr => ∃ k : Nat, k ≤ p.l.length ∧ s5 = .int .i64 (k : Int) ∧ Hid (Below w.heap.size w wr) ∧ Hid (∀ (j : Nat) (u v : Val), j < k → p.v[j]? = some u → q.v[j]? = some v → sameV u v = true)) (fun s5 _ => p.l.length - (intOf s5).toNat)
    case atStart => exact ⟨0, Nat.zero_le _, rfl, Lib.hid (Below.refl _ _), Lib.hid (fun j u v h => absurd h (Nat.not_lt_zero _))⟩
    case round =>
      obtain ⟨k, hk, rfl, HBR, HYES⟩ := hrel
      by_cases hlt : k < p.l.length
      · have hlq : k < q.l.length := by rw [← HL.out]; exact hlt
        have hks : p.l[k]? = some p.l[k] := List.getElem?_eq_getElem hlt
        have hkq : q.l[k]? = some q.l[k] := List.getElem?_eq_getElem hlq
        generalize p.l[k] = u at *
        generalize q.l[k] = v at *
        have hlt' : (k : Int) < (p.l.length : Int) := by omega
        have hlq' : (k : Int) < (q.l.length : Int) := by omega
        have hk0 : (0 : Int) ≤ (k : Int) := by omega
        obtain ⟨b, off, hla, -, -, -, k1, k2, k3, k4⟩ := vals_at (HP.out.up HBR.out).sl hks
        obtain ⟨b2, off2, hla2, -, -, -, m1, m2, m3, m4⟩ := vals_at (HQ.out.up HBR.out).sl hkq
        obtain ⟨ru, wu⟩ := (HP.out.up HBR.out).kids u (List.mem_of_getElem? hks)
        obtain ⟨rv, wv⟩ := (HQ.out.up HBR.out).kids v (List.mem_of_getElem? hkq)
        obtain ⟨s, hs⟩ : ∃ s, s = sameV u.v v.v := ⟨_, rfl⟩
        have HC := fun W (h : Below wr.heap.size wr W) => Lib.hid (show Calls Tryz.prog 33 #[u.val, v.val] W (Ret (.bool s) W) by rw [hs]; exact rsame_c u v W (ru.up h) (rv.up h) wu wv)
        have HS := Lib.hid hs
        have HKS := Lib.hid (show p.v[k]? = some u.v by rw [LA.v, List.getElem?_map, hks]; rfl)
        have HKQ := Lib.hid (show q.v[k]? = some v.v by rw [LA.v, List.getElem?_map, hkq]; rfl)
        rw [hla, hla2]
        clear hla hla2 hks hkq hs ru rv
        go_upto_region 6 with fail
        have LD := Lib.hid (fun W (h : Below wr.heap.size wr W) => And.intro (blkv h k1) (And.intro (blkv h k2) (And.intro (blkv h k3) (And.intro (blkv h k4) (And.intro (blkv h m1) (And.intro (blkv h m2) (And.intro (blkv h m3) (blkv h m4))))))))
        clear k1 k2 k3 k4 m1 m2 m3 m4
        refine wp_region_bl (by kernel_rfl) (by kernel_rfl) ?_
        repeat (first | go_big_quiet_skip | (go_big_quiet_want; go_big_quiet_op; first | go_big_quiet_on | (refine ⟨_, fun _ _ => (by with_reducible rfl), ?_⟩; go_big_quiet_on) | (apply Exists.intro; refine ⟨fun w' hC => (by simp only [LD.out w' hC, Result.andThen]; exact ⟨trivial, rfl⟩), ?_⟩; go_big_quiet_on) | (apply Exists.intro; refine ⟨fun w' hC => (by (with_reducible refine (HC w' hC).out.mono ?_); exact fun e w2 ⟨he, hb⟩ => ⟨he, hC.trans (hb.mono hC.size)⟩), ?_⟩; go_big_quiet_on)))
        refine wpQuiet_nil ?_; intro wz hbz
        have HBZ := Lib.hid (below_via HBR.out hbz)
        clear hbz LD
        cases s with
        | true =>
          go_wp2_with fail
          exact ⟨⟨k + 1, by omega, by go_num, HBZ, Lib.hid (fun j a c hj ha hc => by
            by_cases hjk : j < k
            · exact HYES.out j a c hjk ha hc
            · obtain rfl : j = k := by omega
              rw [HKS.out] at ha
              rw [HKQ.out] at hc
              injection ha with ha
              injection hc with hc
              subst ha
              subst hc
              exact HS.out.symm)⟩, by simp [intOf]; omega⟩
        | false =>
          obtain rfl : r = false := by rw [HR.out]; exact eqlW_no HKS.out HKQ.out HS.out.symm
          go_wp2_with fail
          go_ret
          exact ⟨rfl, HBZ.out⟩
      · have hkl : k = p.l.length := by omega
        subst hkl
        have hge : ¬ (p.l.length : Int) < (p.l.length : Int) := by omega
        obtain rfl : r = true := by
          rw [HR.out]
          refine eqlW_yes (by rw [LA.v, LA.v, List.length_map, List.length_map]; exact HL.out) fun i u v h1 h2 => HYES.out i u v ?_ h1 h2
          have := (List.getElem?_eq_some_iff.1 h1).1
          rwa [LA.v, List.length_map] at this
        go_wp2_with fail
        go_ret
        exact ⟨rfl, HBR.out⟩
  · have hl' : ((p.l.length : Int) != (q.l.length : Int)) = true := by simp; omega
    obtain rfl : r = false := by rw [HR.out]; exact eqlW_len (by rw [LA.v, LA.v, List.length_map, List.length_map]; exact hl)
    clear hl
    go_enter Tryz.func49, Tryz.ntmps49
    go_wp2_with fail
    go_ret
    exact ⟨rfl, Below.refl _ _⟩
set_option maxRecDepth 100000 in
set_option maxHeartbeats 6400000 in
theorem rof29_c (w : World) (x y z : LA) (hx : x.Rd w) (hy : y.Rd w) (hz : z.Rd w) : Calls Tryz.prog 22 #[.slice x.a x.l.length x.c, .slice y.a y.l.length y.c, .slice z.a z.l.length z.c] w (Ret (.int .i64 (pickO x.v y.v z.v)) w) := by
  have HX := Lib.hid hx
  have HY := Lib.hid hy
  have HZ := Lib.hid hz
  have hxl := hx.len
  have hyl := hy.len
  have hzl := hz.len
  obtain ⟨x1, e1⟩ : ∃ b, b = eqlW sameV y.v z.v := ⟨_, rfl⟩
  obtain ⟨x2, e2⟩ : ∃ b, b = eqlW sameV x.v y.v := ⟨_, rfl⟩
  obtain ⟨x3, e3⟩ : ∃ b, b = eqlW sameV x.v z.v := ⟨_, rfl⟩
  obtain ⟨x4, e4⟩ : ∃ b, b = (eqlW areB x.v y.v && eqlW areB x.v z.v) := ⟨_, rfl⟩
  obtain ⟨Z, eZ⟩ : ∃ Z, Z = pickO x.v y.v z.v := ⟨_, rfl⟩
  have HS1 := Lib.hid (show ∀ W, Below w.heap.size w W → Calls Tryz.prog 49 #[.slice y.a y.l.length y.c, .slice z.a z.l.length z.c] W (Ret (.bool x1) W) from fun W h => by rw [e1]; exact rsame29_c W y z (hy.up h) (hz.up h))
  have HS2 := Lib.hid (show ∀ W, Below w.heap.size w W → Calls Tryz.prog 49 #[.slice x.a x.l.length x.c, .slice y.a y.l.length y.c] W (Ret (.bool x2) W) from fun W h => by rw [e2]; exact rsame29_c W x y (hx.up h) (hy.up h))
  have HS3 := Lib.hid (show ∀ W, Below w.heap.size w W → Calls Tryz.prog 49 #[.slice x.a x.l.length x.c, .slice z.a z.l.length z.c] W (Ret (.bool x3) W) from fun W h => by rw [e3]; exact rsame29_c W x z (hx.up h) (hz.up h))
  have HR := Lib.hid (show Z = if x1 then 0 else if x2 then 1 else if x3 then 0 else if x4 then 2 else 3 by rw [eZ, pickO, e1, e2, e3, e4])
  rw [← eZ]
  have E4 := Lib.hid e4
  have HB := Lib.hid (Below.refl w.heap.size w)
  clear hx hy hz e1 e2 e3 e4 eZ
  go_enter Tryz.func22, Tryz.ntmps22
  cases x1 with
  | true =>
    obtain rfl : Z = 0 := by rw [HR.out]; rfl
    go_wp2_with (go_at_call 49; first
      | ((with_reducible refine (HS1.out _ HB.out).mono ?_); rintro e w5 ⟨rfl, h5⟩; have HB := Lib.hid (below_via HB.out h5); clear h5))
    go_ret
    exact ⟨rfl, HB.out⟩
  | false =>
  cases x2 with
  | true =>
    obtain rfl : Z = 1 := by rw [HR.out]; rfl
    go_wp2_with (go_at_call 49; first
      | ((with_reducible refine (HS1.out _ HB.out).mono ?_); rintro e w5 ⟨rfl, h5⟩; have HB := Lib.hid (below_via HB.out h5); clear h5)
      | ((with_reducible refine (HS2.out _ HB.out).mono ?_); rintro e w5 ⟨rfl, h5⟩; have HB := Lib.hid (below_via HB.out h5); clear h5))
    go_ret
    exact ⟨rfl, HB.out⟩
  | false =>
  cases x3 with
  | true =>
    obtain rfl : Z = 0 := by rw [HR.out]; rfl
    go_wp2_with (go_at_call 49; first
      | ((with_reducible refine (HS1.out _ HB.out).mono ?_); rintro e w5 ⟨rfl, h5⟩; have HB := Lib.hid (below_via HB.out h5); clear h5)
      | ((with_reducible refine (HS2.out _ HB.out).mono ?_); rintro e w5 ⟨rfl, h5⟩; have HB := Lib.hid (below_via HB.out h5); clear h5)
      | ((with_reducible refine (HS3.out _ HB.out).mono ?_); rintro e w5 ⟨rfl, h5⟩; have HB := Lib.hid (below_via HB.out h5); clear h5))
    go_ret
    exact ⟨rfl, HB.out⟩
  | false =>
  go_upto_region 7 with (go_at_call 49; first
      | ((with_reducible refine (HS1.out _ HB.out).mono ?_); rintro e w5 ⟨rfl, h5⟩; have HB := Lib.hid (below_via HB.out h5); clear h5)
      | ((with_reducible refine (HS2.out _ HB.out).mono ?_); rintro e w5 ⟨rfl, h5⟩; have HB := Lib.hid (below_via HB.out h5); clear h5)
      | ((with_reducible refine (HS3.out _ HB.out).mono ?_); rintro e w5 ⟨rfl, h5⟩; have HB := Lib.hid (below_via HB.out h5); clear h5))
  clear HS1 HS2 HS3
  by_cases hl1 : x.l.length = y.l.length
  · by_cases hl2 : x.l.length = z.l.length
    · have q1 : ((x.l.length : Int) != (y.l.length : Int)) = false := by simp [hl1]
      have q2 : ((x.l.length : Int) != (z.l.length : Int)) = false := by simp [hl2]
      have HL1 := Lib.hid hl1
      have HL2 := Lib.hid hl2
      clear hl1 hl2
      go_wp2_with fail
      clear q1 q2
      obtain ⟨W1, hW1⟩ : ∃ W, W = w5 := ⟨_, rfl⟩
      subst hW1
      go_loopw [7] (fun s7 wr => ∃ k : Nat, k ≤ x.l.length ∧ s7 = .int .i64 (k : Int) ∧ Hid (Below W1.heap.size W1 wr) ∧ Hid (∀ (j : Nat) (u v t : Val), j < k → x.v[j]? = some u → y.v[j]? = some v → z.v[j]? = some t → areB u v = true ∧ areB u t = true)) (fun s7 _ => x.l.length - (intOf s7).toNat)
      case atStart => exact ⟨0, Nat.zero_le _, rfl, Lib.hid (Below.refl _ _), Lib.hid (fun j u v t h => absurd h (Nat.not_lt_zero _))⟩
      case round =>
        obtain ⟨k, hk, rfl, HBR, HYES⟩ := hrel
        have HBW := Lib.hid (below_via HB.out HBR.out)
        by_cases hlt : k < x.l.length
        · have hly : k < y.l.length := by rw [← HL1.out]; exact hlt
          have hlz : k < z.l.length := by rw [← HL2.out]; exact hlt
          have hks : x.l[k]? = some x.l[k] := List.getElem?_eq_getElem hlt
          have hky : y.l[k]? = some y.l[k] := List.getElem?_eq_getElem hly
          have hkz : z.l[k]? = some z.l[k] := List.getElem?_eq_getElem hlz
          generalize x.l[k] = u at *
          generalize y.l[k] = v at *
          generalize z.l[k] = t at *
          have hlt' : (k : Int) < (x.l.length : Int) := by omega
          have hly' : (k : Int) < (y.l.length : Int) := by omega
          have hlz' : (k : Int) < (z.l.length : Int) := by omega
          have hk0 : (0 : Int) ≤ (k : Int) := by omega
          obtain ⟨b1, o1, hla1, -, -, -, k1, k2, k3, k4⟩ := vals_at (HX.out.up HBW.out).sl hks
          obtain ⟨b2, o2, hla2, -, -, -, m1, m2, m3, m4⟩ := vals_at (HY.out.up HBW.out).sl hky
          obtain ⟨b3, o3, hla3, -, -, -, n1, n2, n3, n4⟩ := vals_at (HZ.out.up HBW.out).sl hkz
          obtain ⟨ru, wu⟩ := (HX.out.up HBW.out).kids u (List.mem_of_getElem? hks)
          obtain ⟨rv, wv⟩ := (HY.out.up HBW.out).kids v (List.mem_of_getElem? hky)
          obtain ⟨rt, wt⟩ := (HZ.out.up HBW.out).kids t (List.mem_of_getElem? hkz)
          obtain ⟨s1, hs1⟩ : ∃ s, s = areB u.v v.v := ⟨_, rfl⟩
          obtain ⟨s2, hs2⟩ : ∃ s, s = areB u.v t.v := ⟨_, rfl⟩
          have HC1 := fun W (h : Below wr.heap.size wr W) => Lib.hid (show Calls Tryz.prog 14 #[u.val, v.val] W (Ret (.bool s1) W) by rw [hs1]; exact rare_c W u v (ru.up h) (rv.up h) wu wv)
          have HC2 := fun W (h : Below wr.heap.size wr W) => Lib.hid (show Calls Tryz.prog 14 #[u.val, t.val] W (Ret (.bool s2) W) by rw [hs2]; exact rare_c W u t (ru.up h) (rt.up h) wu wt)
          have HA1 := Lib.hid hs1
          have HA2 := Lib.hid hs2
          have HKX := Lib.hid (show x.v[k]? = some u.v by rw [LA.v, List.getElem?_map, hks]; rfl)
          have HKY := Lib.hid (show y.v[k]? = some v.v by rw [LA.v, List.getElem?_map, hky]; rfl)
          have HKZ := Lib.hid (show z.v[k]? = some t.v by rw [LA.v, List.getElem?_map, hkz]; rfl)
          rw [hla1, hla2, hla3]
          clear hla1 hla2 hla3 hks hky hkz hs1 hs2 ru rv rt
          cases s1 with
          | false =>
            obtain rfl : Z = 3 := by
              rw [HR.out, E4.out, eqlW_no HKX.out HKY.out HA1.out.symm]
              rfl
            go_upto_region 12 with fail
            have LD := Lib.hid (fun W (h : Below wr.heap.size wr W) => And.intro (blkv h k1) (And.intro (blkv h k2) (And.intro (blkv h k3) (And.intro (blkv h k4) (And.intro (blkv h m1) (And.intro (blkv h m2) (And.intro (blkv h m3) (And.intro (blkv h m4) (And.intro (blkv h n1) (And.intro (blkv h n2) (And.intro (blkv h n3) (blkv h n4))))))))))))
            clear k1 k2 k3 k4 m1 m2 m3 m4 n1 n2 n3 n4
            refine wp_region_bl (by kernel_rfl) (by kernel_rfl) ?_
            repeat (first | go_big_quiet_skip | (go_big_quiet_want; go_big_quiet_op; first | go_big_quiet_on | (refine ⟨_, fun _ _ => (by with_reducible rfl), ?_⟩; go_big_quiet_on) | (apply Exists.intro; refine ⟨fun w' hC => (by simp only [LD.out w' hC, Result.andThen]; exact ⟨trivial, rfl⟩), ?_⟩; go_big_quiet_on) | (apply Exists.intro; refine ⟨fun w' hC => (by (with_reducible refine (HC1 w' hC).out.mono ?_); exact fun e w2 ⟨he, hb⟩ => ⟨he, hC.trans (hb.mono hC.size)⟩), ?_⟩; go_big_quiet_on)))
            refine wpQuiet_nil ?_; intro wz hbz
            have HBZ := Lib.hid (below_via HBR.out hbz)
            clear hbz LD
            go_wp2_with fail
            go_ret
            exact ⟨rfl, below_via HB.out HBZ.out⟩
          | true =>
            cases s2 with
            | false =>
              obtain rfl : Z = 3 := by
                rw [HR.out, E4.out, eqlW_no HKX.out HKZ.out HA2.out.symm, Bool.and_false]
                rfl
              go_upto_region 12 with fail
              have LD := Lib.hid (fun W (h : Below wr.heap.size wr W) => And.intro (blkv h k1) (And.intro (blkv h k2) (And.intro (blkv h k3) (And.intro (blkv h k4) (And.intro (blkv h m1) (And.intro (blkv h m2) (And.intro (blkv h m3) (And.intro (blkv h m4) (And.intro (blkv h n1) (And.intro (blkv h n2) (And.intro (blkv h n3) (blkv h n4))))))))))))
              clear k1 k2 k3 k4 m1 m2 m3 m4 n1 n2 n3 n4
              refine wp_region_bl (by kernel_rfl) (by kernel_rfl) ?_
              repeat (first | go_big_quiet_skip | (go_big_quiet_want; go_big_quiet_op; first | go_big_quiet_on | (refine ⟨_, fun _ _ => (by with_reducible rfl), ?_⟩; go_big_quiet_on) | (apply Exists.intro; refine ⟨fun w' hC => (by simp only [LD.out w' hC, Result.andThen]; exact ⟨trivial, rfl⟩), ?_⟩; go_big_quiet_on) | (apply Exists.intro; refine ⟨fun w' hC => (by (with_reducible refine (HC1 w' hC).out.mono ?_); exact fun e w2 ⟨he, hb⟩ => ⟨he, hC.trans (hb.mono hC.size)⟩), ?_⟩; go_big_quiet_on) | (apply Exists.intro; refine ⟨fun w' hC => (by (with_reducible refine (HC2 w' hC).out.mono ?_); exact fun e w2 ⟨he, hb⟩ => ⟨he, hC.trans (hb.mono hC.size)⟩), ?_⟩; go_big_quiet_on)))
              refine wpQuiet_nil ?_; intro wz hbz
              have HBZ := Lib.hid (below_via HBR.out hbz)
              clear hbz LD
              go_wp2_with fail
              go_ret
              exact ⟨rfl, below_via HB.out HBZ.out⟩
            | true =>
              go_upto_region 12 with fail
              have LD := Lib.hid (fun W (h : Below wr.heap.size wr W) => And.intro (blkv h k1) (And.intro (blkv h k2) (And.intro (blkv h k3) (And.intro (blkv h k4) (And.intro (blkv h m1) (And.intro (blkv h m2) (And.intro (blkv h m3) (And.intro (blkv h m4) (And.intro (blkv h n1) (And.intro (blkv h n2) (And.intro (blkv h n3) (blkv h n4))))))))))))
              clear k1 k2 k3 k4 m1 m2 m3 m4 n1 n2 n3 n4
              refine wp_region_bl (by kernel_rfl) (by kernel_rfl) ?_
              repeat (first | go_big_quiet_skip | (go_big_quiet_want; go_big_quiet_op; first | go_big_quiet_on | (refine ⟨_, fun _ _ => (by with_reducible rfl), ?_⟩; go_big_quiet_on) | (apply Exists.intro; refine ⟨fun w' hC => (by simp only [LD.out w' hC, Result.andThen]; exact ⟨trivial, rfl⟩), ?_⟩; go_big_quiet_on) | (apply Exists.intro; refine ⟨fun w' hC => (by (with_reducible refine (HC1 w' hC).out.mono ?_); exact fun e w2 ⟨he, hb⟩ => ⟨he, hC.trans (hb.mono hC.size)⟩), ?_⟩; go_big_quiet_on) | (apply Exists.intro; refine ⟨fun w' hC => (by (with_reducible refine (HC2 w' hC).out.mono ?_); exact fun e w2 ⟨he, hb⟩ => ⟨he, hC.trans (hb.mono hC.size)⟩), ?_⟩; go_big_quiet_on)))
              refine wpQuiet_nil ?_; intro wz hbz
              have HBZ := Lib.hid (below_via HBR.out hbz)
              clear hbz LD
              go_wp2_with fail
              exact ⟨⟨k + 1, by omega, by go_num, HBZ, Lib.hid (fun j a b' c hj ha hb hc => by
                by_cases hjk : j < k
                · exact HYES.out j a b' c hjk ha hb hc
                · obtain rfl : j = k := by omega
                  rw [HKX.out] at ha
                  rw [HKY.out] at hb
                  rw [HKZ.out] at hc
                  injection ha with ha
                  injection hb with hb
                  injection hc with hc
                  subst ha
                  subst hb
                  subst hc
                  exact ⟨HA1.out.symm, HA2.out.symm⟩)⟩, by simp [intOf]; omega⟩
        · obtain rfl : k = x.l.length := by omega
          have hge : ¬ (x.l.length : Int) < (x.l.length : Int) := by omega
          have hv : ∀ (i : Nat) (u : Val), x.v[i]? = some u → i < x.l.length := fun i u h => by
            have := (List.getElem?_eq_some_iff.1 h).1
            rwa [LA.v, List.length_map] at this
          obtain rfl : Z = 2 := by
            have g1 : eqlW areB x.v y.v = true := eqlW_yes (by rw [LA.v, LA.v, List.length_map, List.length_map]; exact HL1.out) fun i u v h1 h2 => (HYES.out i u v (z.v[i]'(by rw [LA.v, List.length_map, ← HL2.out]; exact hv i u h1)) (hv i u h1) h1 h2 (List.getElem?_eq_getElem _)).1
            have g2 : eqlW areB x.v z.v = true := eqlW_yes (by rw [LA.v, LA.v, List.length_map, List.length_map]; exact HL2.out) fun i u t h1 h2 => (HYES.out i u (y.v[i]'(by rw [LA.v, List.length_map, ← HL1.out]; exact hv i u h1)) t (hv i u h1) h1 (List.getElem?_eq_getElem _) h2).2
            rw [HR.out, E4.out, g1, g2]
            rfl
          go_wp2_with fail
          go_ret
          exact ⟨rfl, HBW.out⟩
    · have q1 : ((x.l.length : Int) != (y.l.length : Int)) = false := by simp [hl1]
      have q2 : ((x.l.length : Int) != (z.l.length : Int)) = true := by simp; omega
      obtain rfl : Z = 3 := by
        rw [HR.out, E4.out, eqlW_len (a := x.v) (b := z.v) (by rw [LA.v, LA.v, List.length_map, List.length_map]; exact hl2), Bool.and_false]
        rfl
      clear hl1 hl2
      go_wp2_with fail
      go_ret
      exact ⟨rfl, HB.out⟩
  · have q1 : ((x.l.length : Int) != (y.l.length : Int)) = true := by simp; omega
    obtain rfl : Z = 3 := by
      rw [HR.out, E4.out, eqlW_len (a := x.v) (b := y.v) (by rw [LA.v, LA.v, List.length_map, List.length_map]; exact hl1)]
      rfl
    clear hl1
    go_wp2_with fail
    go_ret
    exact ⟨rfl, HB.out⟩
end Go.Proofs.YtmhkacafilpliaaGreat

namespace Go.Proofs.YtmhkacafilpliaaGreat
open Go.RowKit Go.Sort Go.Shelf Go.BigFrame

/-- A list of twins, as it lies: behind it there is room, and a mark. -/
structure LA.Tw (w : World) (lo hi : Nat) (x : LA) : Prop where
  sl : SlE AV.enc 4 w lo hi x.a (x.l ++ [mAV])
  cap : x.l.length < x.c
  kid : ∀ y ∈ x.l, y.Tw w lo hi
theorem LA.Tw.up {w w' : World} {x : LA} (h : x.Tw w 0 w.heap.size) (hb : Below w.heap.size w w') : x.Tw w' 0 w'.heap.size := ⟨h.sl.up hb, h.cap, fun y hy => (h.kid y hy).up hb⟩
theorem LA.Tw.widen {w : World} {lo hi lo' hi' : Nat} {x : LA} (h : x.Tw w lo hi) (h1 : lo' ≤ lo) (h2 : hi ≤ hi') : x.Tw w lo' hi' := ⟨h.sl.widen h1 h2, h.cap, fun y hy => (h.kid y hy).widen h1 h2⟩
def TwinsPost (v : List Val) (w : World) (e : Ending) (w' : World) : Prop := ∃ y : LA, e = .returned (.slice y.a y.l.length y.c) ∧ y.v = v ∧ y.Tw w' w.heap.size w'.heap.size ∧ Below w.heap.size w w'
theorem lit_oV (W : World) (_o : Obj) : SlE AV.enc 4 (W.alloc (.cells #[.int .u8 0, .string mkS, .slice none 0 0, .slice none 0 0] 26)) W.heap.size (W.heap.size + 1) (some ⟨W.heap.size, 0, none⟩) [mAV] := lit_markV W

set_option maxRecDepth 100000 in
set_option maxHeartbeats 3200000 in
theorem twin23_c (w : World) (x : LA) (hx : x.Rd w) : Calls Tryz.prog 18 #[.slice x.a x.l.length x.c] w (TwinsPost x.v w) := by
  have hlb := hx.len
  obtain ⟨mc, hmk⟩ := make_val (x.l.length + 1) (by omega)
  have hr1 : (Instr.makeSlice 23 (.int .i64 0) (.int .i64 ((x.l.length : Int) + 1))).run Tryz.prog w = .ok (.slice (some ⟨w.heap.size, 0, none⟩) 0 (x.l.length + 1)) (w.alloc (.cells mc 26)) := (hmk w).1
  have HO1 := Lib.hid ((hmk w).2 w.heap.size (Nat.le_refl _))
  have hw1 : IntKind.i64.wrap ((x.l.length : Int) + 1) = (x.l.length : Int) + 1 := IntWalk.i64_in _ (by omega)
  have HX := Lib.hid hx
  have HI := fun (y : AV) (hy : y ∈ x.l) (W : World) (hb : Below w.heap.size w W) => Lib.hid (twin14_c y W (((hx.kids y hy).1).up hb) (hx.kids y hy).2)
  clear hmk hx
  go_enter Tryz.func18, Tryz.ntmps18
  go_wp2_with fail
  go_loopw [3, 4] (fun s3 i wr => ∃ (m : Nat) (ys : List AV) (a : Option Addr) (c : Nat), m ≤ x.l.length ∧ i = .int .i64 m ∧ ys.length = m ∧ ys.map AV.v = (x.l.map AV.v).take m ∧ s3 = .slice a ys.length c ∧ OwnV wr w.heap.size (.slice a ys.length c) ys ∧ (∀ y ∈ ys, ∃ lo hi, y.Tw wr lo hi ∧ w.heap.size ≤ lo ∧ hi ≤ wr.heap.size ∧ ∀ q, (Value.slice a ys.length c).ownBlock = some q → ¬ (lo ≤ q ∧ q < hi)) ∧ Below w.heap.size w wr) (fun _ i _ => x.l.length - (intOf i).toNat)
  case atStart => exact ⟨0, [], some ⟨w.heap.size, 0, none⟩, x.l.length + 1, Nat.zero_le _, by go_num, rfl, rfl, rfl, HO1.out, fun y hy => absurd hy List.not_mem_nil, (Below.refl _ _).alloc (Nat.le_refl _) _⟩
  case round =>
    obtain ⟨m, ys, a, c, hml, rfl, hyl, hyv, rfl, hown, hyr, hwr⟩ := hrel
    have hzr := hwr.size
    have HYL := Lib.hid hyl
    have HYV := Lib.hid hyv
    have HOW := Lib.hid hown
    have HYR := Lib.hid hyr
    have HWR := Lib.hid hwr
    clear hyl hyv hown hyr hwr hr1
    have hgl : ∀ q, (Value.slice a ys.length c).ownBlock = some q → w.heap.size ≤ q ∧ q < wr.heap.size := World.ownsRow.lt HOW.out
    have HGL := Lib.hid hgl
    clear hgl
    by_cases hlt : m < x.l.length
    · have hk : x.l[m]? = some x.l[m] := List.getElem?_eq_getElem hlt
      have hmem : x.l[m] ∈ x.l := List.getElem_mem hlt
      generalize x.l[m] = y at *
      obtain ⟨b, off, hla, -, hb1, hb2, h0, h1, h2, h3⟩ := vals_at HX.out.sl hk
      rw [← HWR.out.cell (p := ⟨_, _, none⟩) hb2] at h0 h1 h2 h3
      have hbb : b < wr.heap.size := Nat.lt_of_lt_of_le hb2 HWR.out.size
      have hlt' : (m : Int) < (x.l.length : Int) := by omega
      have hm0 : (0 : Int) ≤ (m : Int) := by omega
      have HC := fun W h => HI y hmem W h
      have HK := Lib.hid hk
      rw [hla]
      clear hk hmem HI
      go_wp2_with (first
        | (go_at_call 9; refine (HC _ HWR.out).out.mono ?_; rintro e w2 ⟨z, rfl, hzv, hzi, hb⟩
           have hsz2 := hb.size
           have hlit : SlE AV.enc 4 (w2.alloc (.cells #[.int .u8 z.k, .string z.t, .slice z.la z.l.length z.lc, .slice z.ka z.ks.length z.kc] 26)) w2.heap.size (w2.heap.size + 1) (some ⟨w2.heap.size, 0, none⟩) [z] := lit_sl (enc := AV.enc) (size := 4) (l := [z]) (t := 26) (fr := (0, 0)) AV.enc_len (heap_alloc_new _ _)
           obtain ⟨v', W', hrun, hown', hgr, hat⟩ := app_val (c := 1) (own_below (own_below HOW.out hb) ((Below.refl _ _).alloc (Nat.le_refl _) _)) hlit (by have := HYL.out; simp; omega) (by simp; omega)
           obtain ⟨ys', hys'⟩ : ∃ ys', ys' = ys ++ [z] := ⟨_, rfl⟩
           rw [← hys'] at hown'
           obtain ⟨a', c', rfl⟩ := own_formV hown'
           have HYS' := Lib.hid hys'
           have HOW' := Lib.hid hown'
           have HZI := Lib.hid hzi
           have HZV := Lib.hid hzv
           have HB := Lib.hid hb
           have HGR := Lib.hid hgr
           have HAT := Lib.hid hat
           clear hys' hown' hlit hzi hzv hb hgr hat)
        | (at_builtin; refine wl_append (s := .tmp 15) (x := .tmp 21) rfl rfl (hrun _) ?_; clear hrun))
      have hgr := HGR.out
      have hsz3 := hgr.size
      rw [World.size_alloc] at hsz3
      have hnew : ∀ q, (Value.slice a' ys'.length c').ownBlock = some q → (Value.slice a ys.length c).ownBlock = some q ∨ q = w2.heap.size + 1 := fun q hq => by
        rcases HAT.out with e | e
        · exact .inl (e ▸ hq)
        · rw [hq, World.size_alloc] at e
          injection e with e
          exact .inr e
      have hblk : ∀ q, q < w2.heap.size → (∀ g, (Value.slice a ys.length c).ownBlock = some g → q ≠ g) → W'.heap[q]? = w2.heap[q]? := fun q hq hne => by
        rw [hgr.block q (by rw [World.size_alloc]; omega) (fun e => hne q e.symm rfl), heap_alloc_old _ _ _ hq]
      refine ⟨⟨m + 1, ys', a', c', by omega, by go_num, by rw [HYS'.out]; simp [HYL.out], ?_, rfl, HOW'.out, ?_, ?_⟩, by simp [intOf]; omega⟩
      · rw [HYS'.out, List.map_append, HYV.out, List.take_add_one, List.getElem?_map, HK.out, List.map_singleton, HZV.out]; rfl
      · have key : ∀ (r : AV) lo hi, r.Tw w2 lo hi → w.heap.size ≤ lo → hi ≤ w2.heap.size → (∀ q, (Value.slice a ys.length c).ownBlock = some q → ¬ (lo ≤ q ∧ q < hi)) → ∃ lo hi, r.Tw W' lo hi ∧ w.heap.size ≤ lo ∧ hi ≤ W'.heap.size ∧ ∀ q, (Value.slice a' ys'.length c').ownBlock = some q → ¬ (lo ≤ q ∧ q < hi) := by
          intro r lo hi h1 h2 h3 h4
          refine ⟨lo, hi, h1.kept (by omega) (fun q q1 q2 q3 => hblk q q3 fun g hg e => h4 g hg ⟨by omega, by omega⟩), h2, by omega, fun q hq hc => ?_⟩
          rcases hnew q hq with e | e
          · exact h4 q e hc
          · omega
        intro r hr
        rw [HYS'.out] at hr
        rcases List.mem_append.1 hr with hr | hr
        · obtain ⟨lo, hi, h1, h2, h3, h4⟩ := HYR.out r hr
          exact key r lo hi (h1.blw HB.out h3) h2 (by omega) h4
        · simp at hr; subst hr
          exact key _ wr.heap.size w2.heap.size HZI.out hzr (Nat.le_refl _) fun q hq hc => by have := HGL.out q hq; omega
      · exact (HWR.out.trans ((HB.out.mono hzr).trans ((Below.refl _ _).alloc (by omega) _))).grown hgr (by simp; omega) (fun q hq => (HGL.out q hq).1)
    · obtain rfl : m = x.l.length := by omega
      have hge : ¬ (x.l.length : Int) < (x.l.length : Int) := by omega
      have hyl7 : ys.length + 1 ≤ 16777216 := by have := HYL.out; omega
      have hys : ys.map AV.v = x.l.map AV.v := by rw [HYV.out]; exact List.take_of_length_le (by simp)
      have hba : Below wr.heap.size wr (wr.alloc (.cells #[.int .u8 0, .string ⟨#[109, 97, 114, 107]⟩, .slice none 0 0, .slice none 0 0] 26)) := (Below.refl _ _).alloc (Nat.le_refl _) _
      obtain ⟨v', W', hrun, hown', hgr, hat⟩ := app_val (c := 1) (own_below HOW.out hba) (lit_markV wr) (by simp; omega) (by simp; omega)
      obtain ⟨g, c3, rfl, hg1, hg2⟩ := World.ownsRow.form hown' (by simp)
      rw [List.length_append, List.length_singleton, HYL.out] at hrun
      have hcap := own_cap hown' rfl
      rw [List.length_append, List.length_singleton, HYL.out] at hcap
      have hcap' : (x.l.length : Int) ≤ (c3 : Int) := by omega
      have HYS := Lib.hid hys
      have HOW' := Lib.hid hown'
      have HGR := Lib.hid hgr
      have hst := hgr.size
      rw [World.size_alloc] at hst
      have HBA := Lib.hid hba
      clear hys hown' hgr hat HI hba hyl7
      rw [HYL.out]
      go_wp2_with (at_builtin; refine wl_append (s := .tmp 23) (x := .tmp 25) rfl rfl (hrun _) ?_; clear hrun)
      go_ret
      refine ⟨⟨some ⟨g, 0, none⟩, ys, c3⟩, ?_, HYS.out, ⟨own_sl AV.enc_len HOW'.out, by show ys.length < c3; rw [HYL.out]; exact hcap, fun u hu => ?_⟩, ?_⟩
      · show _ = Ending.returned (.slice (some ⟨g, 0, none⟩) ys.length c3)
        rw [HYL.out]; rfl
      · obtain ⟨lo, hi, h1, h2, h3, h4⟩ := HYR.out u hu
        exact ((h1.blw HBA.out h3).kept (by rw [World.size_alloc]; exact hst) fun q q1 q2 q3 => HGR.out.block q q3 fun e => h4 q e.symm ⟨q1, q2⟩).widen h2 (by omega)
      · exact (HWR.out.trans (HBA.out.mono hzr)).grown HGR.out (by simp; omega) (fun q hq => (HGL.out q hq).1)

set_option maxRecDepth 100000 in
set_option maxHeartbeats 3200000 in
theorem left23_c (w : World) (x t : LA) (he : t.v = x.v) (ht : t.Tw w 0 w.heap.size) (hx : x.Rd w) : Calls Tryz.prog 23 #[.slice t.a t.l.length t.c, .slice x.a x.l.length x.c] w (Ret (.bool true) w) := by
  obtain ⟨ta, l, tc⟩ := t
  have hlb := hx.len
  have hlen : l.length = x.l.length := by have := congrArg List.length he; simpa [LA.v] using this
  have hcap := ht.cap
  have hsl := ht.sl
  have hkid := fun y hy => ht.kid y hy
  simp only at hcap hsl hkid
  obtain ⟨lb, lo, rfl, -, -, hlb1, hlc⟩ := hsl (by simp)
  have ml : w.cell? ⟨lb, lo + l.length * 4 + 1, none⟩ = some (.string ⟨#[109, 97, 114, 107]⟩) := hlc l.length mAV (by simp) 1 _ rfl
  rw [hlen] at ml hcap
  have HL := Lib.hid (show SlE AV.enc 4 w 0 w.heap.size (some ⟨lb, lo, none⟩) l from sl_front hsl)
  have HX := Lib.hid hx
  have HLEN := Lib.hid hlen
  have HE3 := Lib.hid he
  have HI := fun (y y' : AV) (hy : y ∈ x.l) (hy' : y' ∈ l) (hv : y'.v = y.v) (W : World) (hb : Below w.heap.size w W) => Lib.hid (left14_c y y' W hv ((hkid y' hy').up hb) (((hx.kids y hy).1).up hb) (hx.kids y hy).2)
  show Calls Tryz.prog 23 #[.slice (some ⟨lb, lo, none⟩) l.length tc, .slice x.a x.l.length x.c] w (Ret (.bool true) w)
  rw [hlen]
  have hw1 : IntKind.i64.wrap ((x.l.length : Int) + 1) = (x.l.length : Int) + 1 := IntWalk.i64_in _ (by omega)
  have hn1 : (0 : Int) ≤ (x.l.length : Int) + 1 := by omega
  have hn3 : (x.l.length : Int) + 1 ≤ (tc : Int) := by omega
  clear hsl hkid hlc he hlen ht hx
  go_enter Tryz.func23, Tryz.ntmps23
  go_wp2_with fail
  go_loopw [5] (fun i wr => ∃ m : Nat, m ≤ x.l.length ∧ i = .int .i64 m ∧ Below w.heap.size w wr) (fun i _ => x.l.length - (intOf i).toNat)
  case atStart => exact ⟨0, Nat.zero_le _, by go_num, Below.refl _ _⟩
  case round =>
    obtain ⟨m2, hm2, rfl, hbw⟩ := hrel
    have hsr := hbw.size
    have HBWR2 := Lib.hid hbw
    by_cases hlt2 : m2 < x.l.length
    · have hk : x.l[m2]? = some x.l[m2] := List.getElem?_eq_getElem hlt2
      have hmem : x.l[m2] ∈ x.l := List.getElem_mem hlt2
      generalize x.l[m2] = y at hk hmem
      obtain ⟨y', hk', hv⟩ : ∃ y', l[m2]? = some y' ∧ y'.v = y.v := by
        have h := congrArg (fun q => q[m2]?) HE3.out
        simp only [LA.v, List.getElem?_map, hk, Option.map_some] at h
        cases hy : l[m2]? with
        | none => rw [hy] at h; cases h
        | some y' => rw [hy] at h; exact ⟨y', rfl, by simpa using h⟩
      have hmem' : y' ∈ l := List.mem_of_getElem? hk'
      obtain ⟨b1, o1, h1, -, -, g1, c0, c1, c2, c3⟩ := vals_at HL.out hk'
      obtain ⟨b2, o2, h2, -, -, g2, d0, d1, d2, d3⟩ := vals_at HX.out.sl hk
      cases h1
      rw [← hbw.cell (p := ⟨_, _, none⟩) g1] at c0 c1 c2 c3
      rw [← hbw.cell (p := ⟨_, _, none⟩) g2] at d0 d1 d2 d3
      have hlt2' : (m2 : Int) < (x.l.length : Int) := by omega
      have hm0 : (0 : Int) ≤ (m2 : Int) := by omega
      have g1' : lb < wr.heap.size := by omega
      have g2' : b2 < wr.heap.size := by omega
      have hwm : IntKind.i64.wrap ((m2 : Int) + 1) = ((m2 + 1 : Nat) : Int) := by rw [IntWalk.i64_in _ (by omega)]; omega
      have HC := fun W h => HI y y' hmem hmem' hv W h
      have H2 := Lib.hid h2
      clear hbw hk hk' hmem hmem' hv HI h2 ml
      rw [H2.out]
      go_upto_region 6 with fail
      go_region_held3 (fun w' => (∀ b o, b < wr.heap.size → w'.cell? ⟨b, o, none⟩ = wr.cell? ⟨b, o, none⟩) ∧ Below wr.heap.size wr w')
        (first | (with_reducible exact Q1.out) | exact ⟨fun _ _ _ => rfl, (Below.refl _ _).drew⟩)
        (first | (go_at_call 15; refine (HC _ (s_below (N := wr.heap.size) HBWR2.out (by omega) (by assumption))).out.mono ?_; rintro e w4 ⟨rfl, hb4⟩; have Q1 := Lib.hid (s_step (Nat.le_refl _) (by assumption) hb4)))
      go_wp2_with fail
      exact ⟨⟨m2 + 1, by omega, by go_num, HBWR2.out.trans (Q1.out.2.mono hsr)⟩, by simp [intOf]; omega⟩
    · have hge2 : ¬ (m2 : Int) < (x.l.length : Int) := by omega
      clear hbw
      go_wp2_with fail
      go_ret
      exact ⟨rfl, HBWR2.out⟩
theorem LA.Tw.rd {w w2 : World} {t x : LA} (h : t.Tw w 0 w.heap.size) (he : t.v = x.v) (hx : x.Rd w2) : t.Rd w := by
  refine ⟨sl_front h.sl, ?_, fun y hy => ⟨(h.kid y hy).rd, ?_⟩⟩
  · have := congrArg List.length he
    rw [LA.v, LA.v, List.length_map, List.length_map] at this
    rw [this]; exact hx.len
  · have hm : y.v ∈ x.v := by rw [← he, LA.v]; exact List.mem_map_of_mem hy
    obtain ⟨z, hz, e⟩ := List.mem_map.1 hm
    have : y.w = z.w := by show y.v.w = z.v.w; rw [e]
    rw [this]; exact (hx.kids z hz).2
theorem la_len {x y : LA} (h : y.v = x.v) : y.l.length = x.l.length := by
  have := congrArg List.length h
  rwa [LA.v, LA.v, List.length_map, List.length_map] at this
def RRestPost (p : List Nat) (w : World) (e : Ending) (w' : World) : Prop :=
  ∃ a c, e = .returned (.slice a p.length c) ∧ SlE natE 1 w' w.heap.size w'.heap.size a p ∧ Below w.heap.size w w'
set_option maxRecDepth 100000 in
set_option maxHeartbeats 6400000 in
theorem rrest29_c (w : World) (p q : LA) (hp : p.Rd w) (hq : q.Rd w) :
    Calls Tryz.prog 20 #[.slice p.a p.l.length p.c, .slice q.a q.l.length q.c] w (RRestPost (restN p.v q.v q.l.length) w) := by
  have HP := Lib.hid hp
  have HQ := Lib.hid hq
  have hpl := hp.len
  have hql := hq.len
  clear hp hq
  go_enter Tryz.func20, Tryz.ntmps20
  go_wp2_with fail
  go_loopw [5, 6] (fun s5 s6 wr => ∃ (k : Nat) (a : Option Addr) (c : Nat), k ≤ q.l.length ∧ s6 = .int .i64 (k : Int) ∧ s5 = .slice a (restN p.v q.v k).length c ∧ Hid (wr.ownsRow w.heap.size 3 1 (.slice a (restN p.v q.v k).length c) (restN p.v q.v k).length ((restN p.v q.v k).flatMap natE)) ∧ Hid (Below w.heap.size w wr)) (fun _ s6 _ => q.l.length - (intOf s6).toNat)
  case atStart => exact ⟨0, none, 0, Nat.zero_le _, rfl, rfl, Lib.hid (World.ownsRow_nil _ _ _ _), Lib.hid (Below.refl _ _)⟩
  case round =>
    obtain ⟨k, a, c, hk, rfl, rfl, HO, HBR⟩ := hrel
    have hrl := restN_len p.v q.v k
    by_cases hlt : k < q.l.length
    · have hks : q.l[k]? = some q.l[k] := List.getElem?_eq_getElem hlt
      generalize q.l[k] = u at *
      have hlt' : (k : Int) < (q.l.length : Int) := by omega
      have hk0 : (0 : Int) ≤ (k : Int) := by omega
      have HKS := Lib.hid (show q.v[k]? = some u.v by rw [LA.v, List.getElem?_map, hks]; rfl)
      have HKM := Lib.hid hks
      clear hks
      obtain ⟨W1, hW1⟩ : ∃ W, W = wr := ⟨_, rfl⟩
      subst hW1
      go_upto_region 8 with fail
      go_loopw [7, 8] (fun s7 s8 wr => ∃ (m : Nat) (h : Bool), m ≤ p.l.length ∧ s8 = .int .i64 (m : Int) ∧ s7 = .bool h ∧ Hid (Below W1.heap.size W1 wr) ∧ Hid (h = true → hasV u.v p.v = true) ∧ Hid (h = false → ∀ (j : Nat) (y : Val), j < m → p.v[j]? = some y → sameV u.v y = false)) (fun _ s8 _ => p.l.length - (intOf s8).toNat)
      case atStart => exact ⟨0, false, Nat.zero_le _, rfl, rfl, Lib.hid (Below.refl _ _), Lib.hid (fun h => absurd h Bool.false_ne_true), Lib.hid (fun _ j y h => absurd h (Nat.not_lt_zero _))⟩
      case round =>
        obtain ⟨m, h, hm, rfl, rfl, HBI, HH, HN⟩ := hrel
        by_cases hlm : m < p.l.length
        · have hms : p.l[m]? = some p.l[m] := List.getElem?_eq_getElem hlm
          generalize p.l[m] = v at *
          have hlm' : (m : Int) < (p.l.length : Int) := by omega
          have hm0 : (0 : Int) ≤ (m : Int) := by omega
          cases h with
          | true =>
            clear hms
            go_upto_region 9 with fail
            refine wp_region_bl (by kernel_rfl) (by kernel_rfl) ?_
            repeat (first | go_big_quiet_skip | (go_big_quiet_want; go_big_quiet_op; first | go_big_quiet_on | (refine ⟨_, fun _ _ => (by with_reducible rfl), ?_⟩; go_big_quiet_on)))
            refine wpQuiet_nil ?_; intro wz hbz
            have HBZ := Lib.hid (below_via HBI.out hbz)
            clear hbz
            go_wp2_with fail
            exact ⟨⟨m + 1, true, by omega, by go_num, rfl, HBZ, HH, Lib.hid (fun h => absurd h (by decide))⟩, by simp [intOf]; omega⟩
          | false =>
            obtain ⟨ru, wu⟩ := (HQ.out.up (below_via HBR.out HBI.out)).kids u (List.mem_of_getElem? HKM.out)
            obtain ⟨rv, wv⟩ := (HP.out.up (below_via HBR.out HBI.out)).kids v (List.mem_of_getElem? hms)
            obtain ⟨b, off, hla, -, -, -, k1, k2, k3, k4⟩ := vals_at (HQ.out.up (below_via HBR.out HBI.out)).sl HKM.out
            obtain ⟨b2, off2, hla2, -, -, -, m1, m2, m3, m4⟩ := vals_at (HP.out.up (below_via HBR.out HBI.out)).sl hms
            obtain ⟨s, hs⟩ : ∃ s, s = sameV v.v u.v := ⟨_, rfl⟩
            have HC := fun W (h : Below wr.heap.size wr W) => Lib.hid (show Calls Tryz.prog 33 #[v.val, u.val] W (Ret (.bool s) W) by rw [hs]; exact rsame_c v u W (rv.up h) (ru.up h) wv wu)
            have HS := Lib.hid (show sameV u.v v.v = s by rw [hs, sameV_sym])
            have HMS := Lib.hid (show p.v[m]? = some v.v by rw [LA.v, List.getElem?_map, hms]; rfl)
            rw [hla, hla2]
            clear hla hla2 hms hs ru rv
            go_upto_region 9 with fail
            have LD := Lib.hid (fun W (h : Below wr.heap.size wr W) => And.intro (blkv h k1) (And.intro (blkv h k2) (And.intro (blkv h k3) (And.intro (blkv h k4) (And.intro (blkv h m1) (And.intro (blkv h m2) (And.intro (blkv h m3) (blkv h m4))))))))
            clear k1 k2 k3 k4 m1 m2 m3 m4
            refine wp_region_bl (by kernel_rfl) (by kernel_rfl) ?_
            repeat (first | go_big_quiet_skip | (go_big_quiet_want; go_big_quiet_op; first | go_big_quiet_on | (refine ⟨_, fun _ _ => (by with_reducible rfl), ?_⟩; go_big_quiet_on) | (apply Exists.intro; refine ⟨fun w' hC => (by simp only [LD.out w' hC, Result.andThen]; exact ⟨trivial, rfl⟩), ?_⟩; go_big_quiet_on) | (apply Exists.intro; refine ⟨fun w' hC => (by (with_reducible refine (HC w' hC).out.mono ?_); exact fun e w2 ⟨he, hb⟩ => ⟨he, hC.trans (hb.mono hC.size)⟩), ?_⟩; go_big_quiet_on)))
            refine wpQuiet_nil ?_; intro wz hbz
            have HBZ := Lib.hid (below_via HBI.out hbz)
            clear hbz LD
            go_wp2_with fail
            exact ⟨⟨m + 1, s, by omega, by go_num, rfl, HBZ, Lib.hid (fun h => hasV_yes HMS.out (HS.out.trans h)), Lib.hid (fun h j y hj hy => by
              by_cases hjm : j < m
              · exact HN.out rfl j y hjm hy
              · obtain rfl : j = m := by omega
                rw [HMS.out] at hy
                injection hy with hy
                subst hy
                exact HS.out.trans h)⟩, by simp [intOf]; omega⟩
        · obtain rfl : m = p.l.length := by omega
          have hge : ¬ (p.l.length : Int) < (p.l.length : Int) := by omega
          have HBW := Lib.hid (below_via HBR.out HBI.out)
          have hsw := HBW.out.size
          have HOW := Lib.hid (own_below HO.out HBI.out)
          cases h with
          | true =>
            have e := restN_no HKS.out (HH.out rfl)
            go_wp2_with fail
            exact ⟨⟨k + 1, a, c, by omega, by go_num, by rw [e], Lib.hid (by rw [e]; exact HOW.out), HBW⟩, by simp [intOf]; omega⟩
          | false =>
            have HE := Lib.hid (restN_yes HKS.out (hasV_no fun j y hy => HN.out rfl j y (by have := (List.getElem?_eq_some_iff.1 hy).1; rwa [LA.v, List.length_map] at this) hy))
            have hlit : SlE natE 1 (wr.alloc (.cells #[.int .i64 (k : Int)] 3)) wr.heap.size (wr.heap.size + 1) (some ⟨wr.heap.size, 0, none⟩) [k] := lit_sl (enc := natE) (size := 1) (l := [k]) (t := 3) (fr := (0, 0)) (fun _ => rfl) (heap_alloc_new _ _)
            obtain ⟨v', W', hrun, hown', hgr, -⟩ := app_in (c := 1) (own_below HOW.out ((Below.refl _ _).alloc (Nat.le_refl _) (.cells #[.int .i64 (k : Int)] 3))) hlit (by simp; omega) (by simp; omega)
            rw [← HE.out] at hown'
            obtain ⟨a', c', rfl⟩ := own_formI hown'
            have hb2 : Below w.heap.size w W' := (HBW.out.trans ((Below.refl _ _).alloc hsw _)).grown hgr (by simp; omega) (fun q hq => (HOW.out.lt q hq).1)
            have HOW' := Lib.hid hown'
            have HB2 := Lib.hid hb2
            simp only [List.length_singleton] at hrun
            clear hlit hown' hgr hb2 hsw
            go_wp2_with (at_builtin; refine wl_append (s := .tmp 35) (x := .tmp 37) rfl rfl (hrun _) ?_; clear hrun)
            exact ⟨⟨k + 1, a', c', by omega, by go_num, rfl, HOW', HB2⟩, by simp [intOf]; omega⟩
    · obtain rfl : k = q.l.length := by omega
      have hge : ¬ (q.l.length : Int) < (q.l.length : Int) := by omega
      go_wp2_with fail
      go_ret
      exact ⟨a, c, rfl, own_sl (enc := natE) (size := 1) (fun _ => rfl) HO.out, HBR.out⟩

theorem pick_four (b l r : List Val) : pickO b l r = 0 ∨ pickO b l r = 1 ∨ pickO b l r = 2 ∨ pickO b l r = 3 := by
  rw [pickO]
  generalize eqlW sameV l r = p
  generalize eqlW sameV b l = q
  generalize eqlW sameV b r = s
  generalize (eqlW areB b l && eqlW areB b r) = t
  cases p <;> cases q <;> cases s <;> cases t <;> decide
set_option maxRecDepth 100000 in
set_option maxHeartbeats 12800000 in
theorem pkof (w : World) (x y z : LA) (hx : x.Rd w) (hy : y.Rd w) (hz : z.Rd w) : Calls Tryz.prog 4 #[.slice x.a x.l.length x.c, .slice y.a y.l.length y.c, .slice z.a z.l.length z.c] w (Ret (.bool true) w) := by
  have HLV := fun W => Lib.hid (lives29_c W)
  have hxl := hx.len
  have hyl := hy.len
  have hzl := hz.len
  have hba := (Below.refl w.heap.size w).alloc (Nat.le_refl _) (.cells #[.slice x.a x.l.length x.c, .slice y.a y.l.length y.c, .slice z.a z.l.length z.c] 23)
  have HG := Lib.hid (show Calls Tryz.prog 16 #[.slice (some ⟨w.heap.size, 0, none⟩) 3 3] _ (RetB _) from
    great29_c (w.alloc (.cells #[.slice x.a x.l.length x.c, .slice y.a y.l.length y.c, .slice z.a z.l.length z.c] 23)) (some ⟨w.heap.size, 0, none⟩) 3 [x, y, z] ((lit_sl (enc := LA.enc) (size := 1) (l := [x, y, z]) (t := 23) (fr := (0, 0)) (fun _ => rfl) (heap_alloc_new w _)).widen (Nat.zero_le _) (by simp)) (fun v hv => by
      simp only [List.mem_cons, List.not_mem_nil, or_false] at hv
      rcases hv with rfl | rfl | rfl
      · exact hx.up hba
      · exact hy.up hba
      · exact hz.up hba) (by simp))
  have HT1 := Lib.hid (show ∀ W, Below w.heap.size w W → Calls Tryz.prog 18 #[.slice x.a x.l.length x.c] W (TwinsPost x.v W) from fun W h => twin23_c W x (hx.up h))
  have HT2 := Lib.hid (show ∀ W, Below w.heap.size w W → Calls Tryz.prog 18 #[.slice y.a y.l.length y.c] W (TwinsPost y.v W) from fun W h => twin23_c W y (hy.up h))
  have HT3 := Lib.hid (show ∀ W, Below w.heap.size w W → Calls Tryz.prog 18 #[.slice z.a z.l.length z.c] W (TwinsPost z.v W) from fun W h => twin23_c W z (hz.up h))
  obtain ⟨P, hP⟩ : ∃ P, P = restN y.v z.v z.l.length := ⟨_, rfl⟩
  have hPl : P.length ≤ z.l.length := by rw [hP]; exact restN_len _ _ _
  obtain ⟨K, hK⟩ : ∃ K, K = pickO x.v y.v z.v := ⟨_, rfl⟩
  have hK4 : K = 0 ∨ K = 1 ∨ K = 2 ∨ K = 3 := by rw [hK]; exact pick_four _ _ _
  have HR := Lib.hid (show ∀ W, Below w.heap.size w W → Calls Tryz.prog 20 #[.slice y.a y.l.length y.c, .slice z.a z.l.length z.c] W (RRestPost P W) from fun W h => by rw [hP]; exact rrest29_c W y z (hy.up h) (hz.up h))
  have HO := Lib.hid (show ∀ W, Below w.heap.size w W → Calls Tryz.prog 22 #[.slice x.a x.l.length x.c, .slice y.a y.l.length y.c, .slice z.a z.l.length z.c] W (Ret (.int .i64 K) W) from fun W h => by rw [hK]; exact rof29_c W x y z (hx.up h) (hy.up h) (hz.up h))
  have HPE := Lib.hid hP
  have HKE := Lib.hid hK
  have HX := Lib.hid hx
  have HY := Lib.hid hy
  have HZ := Lib.hid hz
  have HBA := Lib.hid hba
  clear hx hy hz hba hP hK
  go_enter Tryz.func4, Tryz.ntmps4
  go_upto_if 17 with (go_at_call 16; refine HG.out.mono ?_; rintro e w1 ⟨g, rfl, hb1⟩; have HB1 := Lib.hid (below_via HBA.out hb1); clear hb1; cases g)
  rotate_left
  · go_wp2_with (go_at_call 17; (with_reducible refine (HLV _).out.mono ?_); rintro e w9 ⟨rfl, h9⟩)
    go_ret
    exact ⟨rfl, below_via HB1.out h9⟩
  go_upto_region 8 with (first
    | (go_at_call 20; refine (HR.out _ HB5.out).mono ?_; rintro e w6 ⟨ar, cr, rfl, hsr, hb6⟩
       have HSR := Lib.hid (hsr.widen (Nat.zero_le _) (Nat.le_refl _))
       have HSP6 := Lib.hid (HSP.out.up hb6)
       have HB46 := Lib.hid (below_via HB45.out hb6)
       have HB6 := Lib.hid (below_via HB5.out hb6)
       clear hsr hb6)
    | (go_at_call 19; refine HRE.out.mono ?_; rintro e w5 ⟨ap, rfl, hsl, hb5⟩
       have HSP := Lib.hid (hsl.widen (Nat.zero_le _) (Nat.le_refl _))
       have HB45 := Lib.hid hb5
       have HB5 := Lib.hid (below_via HB4.out hb5)
       clear hsl hb5)
    | (go_at_call 18; first
        | (have k1 := HB3; (with_reducible refine (HT3.out _ HB3.out).mono ?_); rintro e w4 ⟨Z, rfl, hvz, hTz, hb4⟩
           have HB4 := Lib.hid (below_via HB3.out hb4)
           have HVZ := Lib.hid hvz
           have HTZ := Lib.hid (hTz.widen (Nat.zero_le _) (Nat.le_refl _))
           have HTX4 := Lib.hid (HTX3.out.up hb4)
           have HTY4 := Lib.hid (HTY.out.up hb4)
           have HXR := Lib.hid (HTX4.out.rd HVX.out HX.out)
           have HYR := Lib.hid (HTY4.out.rd HVY.out HY.out)
           have HZR := Lib.hid (HTZ.out.rd HVZ.out HZ.out)
           have HRE := Lib.hid (show Calls Tryz.prog 19 #[.slice Y.a Y.l.length Y.c, .slice Z.a Z.l.length Z.c] w4 (RestPost P w4) from by
             have h := prest_c w4 Y Z HYR.out.rw HZR.out
             have e : restN Y.v Z.v Z.l.length = P := by rw [HPE.out, HVY.out, HVZ.out, la_len HVZ.out]
             rwa [e] at h)
           clear hvz hTz hb4)
        | (have k1 := HB2; (with_reducible refine (HT2.out _ HB2.out).mono ?_); rintro e w3 ⟨Y, rfl, hvy, hTy, hb3⟩
           have HB3 := Lib.hid (below_via HB2.out hb3)
           have HVY := Lib.hid hvy
           have HTY := Lib.hid (hTy.widen (Nat.zero_le _) (Nat.le_refl _))
           have HTX3 := Lib.hid (HTX.out.up hb3)
           clear hvy hTy hb3)
        | ((with_reducible refine (HT1.out _ HB1.out).mono ?_); rintro e w2 ⟨X, rfl, hvx, hTx, hb2⟩
           have HB2 := Lib.hid (below_via HB1.out hb2)
           have HVX := Lib.hid hvx
           have HTX := Lib.hid (hTx.widen (Nat.zero_le _) (Nat.le_refl _))
           clear hvx hTx hb2)))
  have HPO := Lib.hid (show ∀ W, Below w4.heap.size w4 W → Calls Tryz.prog 21 #[.slice X.a X.l.length X.c, .slice Y.a Y.l.length Y.c, .slice Z.a Z.l.length Z.c] W (Ret (.int .u8 K) W) from fun W h => by
    have h := pof29_c W X Y Z (HXR.out.up h) (HYR.out.up h) (HZR.out.up h)
    have e : pickO X.v Y.v Z.v = K := by rw [HKE.out, HVX.out, HVY.out, HVZ.out]
    rwa [e] at h)
  clear HRE HR HT1 HT2 HT3 HKE HPE HTX HTX3 HTY HXR HYR HZR
  rcases hK4 with rfl | rfl | rfl | rfl
  all_goals
    go_wp2_with (first
      | (go_at_call 22; refine (HO.out _ HB7.out).mono ?_; rintro e w8 ⟨rfl, h8⟩
         have HB78 := Lib.hid (below_via HB67.out h8)
         have HB8 := Lib.hid (below_via HB7.out h8)
         clear h8)
      | (go_at_call 21; refine (HPO.out _ HB46.out).mono ?_; rintro e w7 ⟨rfl, h7⟩
         have HB67 := Lib.hid h7
         have HB7 := Lib.hid (below_via HB6.out h7)
         clear h7))
    have HPP := Lib.hid (HSP6.out.up HB78.out)
    have HRR := Lib.hid (HSR.out.up HB78.out)
    have HB48 := Lib.hid (below_via HB46.out HB78.out)
    clear HO HPO HB67 HB78 HSP HSP6 HSR
    go_loopw [12] (fun s12 wr => ∃ k : Nat, k ≤ P.length ∧ s12 = .int .i64 (k : Int) ∧ Hid (Below w8.heap.size w8 wr)) (fun s12 _ => P.length - (intOf s12).toNat)
    case atStart => exact ⟨0, Nat.zero_le _, rfl, Lib.hid (Below.refl _ _)⟩
    case round =>
      obtain ⟨k, hk, rfl, HBR⟩ := hrel
      by_cases hlt : k < P.length
      · have hks : P[k]? = some P[k] := List.getElem?_eq_getElem hlt
        generalize P[k] = i at *
        obtain ⟨b, off, hap, -, -, -, c0⟩ := nat_at (HPP.out.up HBR.out) hks
        obtain ⟨b2, off2, har, -, -, -, d0⟩ := nat_at (HRR.out.up HBR.out) hks
        have hlt' : (k : Int) < (P.length : Int) := by omega
        have hk0 : (0 : Int) ≤ (k : Int) := by omega
        rw [hap, har]
        clear hap har hks
        go_upto_region 13 with fail
        have LD := Lib.hid (fun W (h : Below wr.heap.size wr W) => And.intro (blkv h c0) (blkv h d0))
        clear c0 d0
        refine wp_region_bl (by kernel_rfl) (by kernel_rfl) ?_
        repeat (first | go_big_quiet_skip | (go_big_quiet_want; go_big_quiet_op; first | go_big_quiet_on | (refine ⟨_, fun _ _ => (by with_reducible rfl), ?_⟩; go_big_quiet_on) | (apply Exists.intro; refine ⟨fun w' hC => (by simp only [LD.out w' hC, Result.andThen]; exact ⟨trivial, rfl⟩), ?_⟩; go_big_quiet_on)))
        refine wpQuiet_nil ?_; intro wz hbz
        have HBZ := Lib.hid (below_via HBR.out hbz)
        clear hbz LD
        go_wp2_with fail
        exact ⟨⟨k + 1, by omega, by go_num, HBZ⟩, by simp [intOf]; omega⟩
      · obtain rfl : k = P.length := by omega
        have hge : ¬ (P.length : Int) < (P.length : Int) := by omega
        have HBW := Lib.hid (below_via HB48.out HBR.out)
        have HBA := Lib.hid (below_via HB8.out HBR.out)
        have HL1 := Lib.hid (show ∀ W, Below wr.heap.size wr W → Calls Tryz.prog 23 #[.slice X.a X.l.length X.c, .slice x.a x.l.length x.c] W (Ret (.bool true) W) from fun W h => left23_c W x X HVX.out (HTX4.out.up (below_via HBW.out h)) (HX.out.up (below_via HBA.out h)))
        have HL2 := Lib.hid (show ∀ W, Below wr.heap.size wr W → Calls Tryz.prog 23 #[.slice Y.a Y.l.length Y.c, .slice y.a y.l.length y.c] W (Ret (.bool true) W) from fun W h => left23_c W y Y HVY.out (HTY4.out.up (below_via HBW.out h)) (HY.out.up (below_via HBA.out h)))
        have HL3 := Lib.hid (show ∀ W, Below wr.heap.size wr W → Calls Tryz.prog 23 #[.slice Z.a Z.l.length Z.c, .slice z.a z.l.length z.c] W (Ret (.bool true) W) from fun W h => left23_c W z Z HVZ.out (HTZ.out.up (below_via HBW.out h)) (HZ.out.up (below_via HBA.out h)))
        have HBL := Lib.hid (Below.refl wr.heap.size wr)
        clear HPP HRR
        go_wp2_with (first
          | (go_at_call 17; (with_reducible refine (HLV _).out.mono ?_); rintro e w9 ⟨rfl, h9⟩)
          | (go_at_call 23; first
              | ((with_reducible refine (HL1.out _ HBL.out).mono ?_); rintro e w5 ⟨rfl, h5⟩; have HBL := Lib.hid (below_via HBL.out h5); clear h5)
              | ((with_reducible refine (HL2.out _ HBL.out).mono ?_); rintro e w5 ⟨rfl, h5⟩; have HBL := Lib.hid (below_via HBL.out h5); clear h5)
              | ((with_reducible refine (HL3.out _ HBL.out).mono ?_); rintro e w5 ⟨rfl, h5⟩; have HBL := Lib.hid (below_via HBL.out h5); clear h5)))
        go_ret
        exact ⟨rfl, below_via HBA.out (below_via HBL.out h9)⟩
end Go.Proofs.YtmhkacafilpliaaGreat
