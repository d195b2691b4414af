/-
  edits.Far: what it costs to put a label for another one, and the distance of two values. Conditions: both values lie in memory, their weights are bounded.
-/
import Derived.Test.YtmhkacafilpliaaGreatEF
import Derived.Test.YtmhkacafilpliaaGreatJO0
import Derived.Test.YtmhkacafilpliaaGreatED
import Derived.Lib.ItoaWalk
namespace Go.Proofs.YtmhkacafilpliaaGreat
open Go.RowKit Go.Sort Go.Shelf Go.BigFrame

set_option maxRecDepth 100000 in
set_option maxHeartbeats 3200000 in
theorem relabel_c (w : World) (tb : Nat) (al bl : Option Addr) (ca cb : Nat) (v1 v2 v4 v5 v6 v7 : Value) (LA LB : List Lab) (i k : Nat)
    (hbx : w.heap[tb]? = some (.cells #[.slice al LA.length ca, v1, v2, .slice bl LB.length cb, v4, v5, v6, v7] 90 (0, 0)))
    (ha : SlE Lab.enc 4 w 0 w.heap.size al LA) (hb : SlE Lab.enc 4 w 0 w.heap.size bl LB) (hi : i < LA.length) (hk : k < LB.length) :
    Calls Tryz.prog 88 #[.pointer (some ⟨tb, 0, none⟩), .int .i64 (i : Int), .int .i64 (k : Int)] w (Ret (.int .i64 (rel (labAt LA i) (labAt LB k) : Nat)) w) := by
  have e1 := lab_get hi
  have e2 := lab_get hk
  obtain ⟨x, hx⟩ : ∃ x, x = labAt LA i := ⟨_, rfl⟩
  obtain ⟨y, hy⟩ : ∃ y, y = labAt LB k := ⟨_, rfl⟩
  rw [← hx] at e1 ⊢
  rw [← hy] at e2 ⊢
  obtain ⟨b1, o1, ea, -, hb1, -, c0, c1, c2, c3⟩ := lab_at ha e1
  obtain ⟨b2, o2, eb, -, hb2, -, d0, d1, d2, d3⟩ := lab_at hb e2
  obtain ⟨p0, p1, p2, p3, p4, p5, p6, p7⟩ := eight hbx
  rw [ea] at p0
  rw [eb] at p3
  have hi1 : (i : Int) < (LA.length : Int) := by omega
  have hk1 : (k : Int) < (LB.length : Int) := by omega
  have hi0 : (0 : Int) ≤ (i : Int) := by omega
  have hk0 : (0 : Int) ≤ (k : Int) := by omega
  have heq : ∀ W : World, (binOp .eql 110 x.val y.val).run Tryz.prog W = .ok (.bool (decide (x = y))) W := fun W => eql_lab W x y
  clear hx hy e1 e2 ea eb ha hb hbx p1 p2 p4 p5 p6 p7
  by_cases e : x = y
  · have hr : rel x y = 0 := by rw [e, rel_self]
    rw [decide_eq_true e] at heq
    rw [hr]
    clear e hr
    go_enter Tryz.func88, Tryz.ntmps88
    go_wp2_with fail
    go_quiet (fail)
    go_wp2_with fail
    go_ret
    exact ⟨rfl, by (repeat' first | exact Below.refl _ _ | refine Below.drew ?_ | refine below_drewN ?_ _)⟩
  · have hr : rel x y = 1 := by rw [rel, if_neg e]
    rw [decide_eq_false e] at heq
    rw [hr]
    clear e hr
    go_enter Tryz.func88, Tryz.ntmps88
    go_wp2_with fail
    go_quiet (fail)
    go_wp2_with fail
    go_ret
    exact ⟨rfl, by (repeat' first | exact Below.refl _ _ | refine Below.drew ?_ | refine below_drewN ?_ _)⟩

/-- How big a value is that may be. -/
def szV (v : Val) : Nat := if v.may then v.size else 0
/-- What edits.Far answers. -/
def farI (a b : Val) : Int := if szV a = 0 ∨ szV b = 0 ∨ 4096 < szV a ∨ 4096 < szV a * szV b then -1 else (farV a b : Nat)
theorem farI_yes {a b : Val} (h1 : szV a ≠ 0) (h2 : szV b ≠ 0) (h3 : ¬ 4096 < szV a) (h4 : ¬ 4096 < szV a * szV b) : farI a b = (farV a b : Nat) := by rw [farI, if_neg (by omega)]
theorem farI_no {a b : Val} (h : szV a = 0 ∨ szV b = 0 ∨ 4096 < szV a ∨ 4096 < szV a * szV b) : farI a b = -1 := by rw [farI, if_pos h]
theorem szV_may {a : Val} (h : szV a ≠ 0) : a.may = true ∧ szV a = a.size := by
  unfold szV at h ⊢
  cases hm : a.may with
  | true => exact ⟨rfl, rfl⟩
  | false => rw [hm] at h; simp at h
theorem szV_le (v : Val) : szV v ≤ v.w := by
  unfold szV
  split
  · exact v.size_le
  · omega
theorem eightf {w : World} {g : Nat} {v0 v1 v2 v3 v4 v5 v6 v7 : Value} {t : TypeId} (h : w.heap[g]? = some (.cells #[v0, v1, v2, v3, v4, v5, v6, v7] t (0, 0))) (o : Nat) : w.frozen? ⟨g, o, none⟩ = false := by
  simp [World.frozen?, h]
theorem tset0 {w : World} {g : Nat} {v0 v1 v2 v3 v4 v5 v6 v7 b0 b1 b2 : Value} {t : TypeId} (h : w.heap[g]? = some (.cells #[v0, v1, v2, v3, v4, v5, v6, v7] t (0, 0))) :
    (((w.setCell ⟨g, 0, none⟩ b0).setCell ⟨g, 1, none⟩ b1).setCell ⟨g, 2, none⟩ b2).heap[g]? = some (.cells #[b0, b1, b2, v3, v4, v5, v6, v7] t (0, 0)) :=
  Go.Joins.block_setCell (Go.Joins.block_setCell (Go.Joins.block_setCell h (i := 0) b0) (i := 1) b1) (i := 2) b2
theorem tset3 {w : World} {g : Nat} {v0 v1 v2 v3 v4 v5 v6 v7 b0 b1 b2 : Value} {t : TypeId} (h : w.heap[g]? = some (.cells #[v0, v1, v2, v3, v4, v5, v6, v7] t (0, 0))) :
    (((w.setCell ⟨g, 3, none⟩ b0).setCell ⟨g, 4, none⟩ b1).setCell ⟨g, 5, none⟩ b2).heap[g]? = some (.cells #[v0, v1, v2, b0, b1, b2, v6, v7] t (0, 0)) :=
  Go.Joins.block_setCell (Go.Joins.block_setCell (Go.Joins.block_setCell h (i := 3) b0) (i := 4) b1) (i := 5) b2
theorem old3 {w : World} {g o0 o1 o2 : Nat} {b0 b1 b2 : Value} {k : Nat} (hk : k ≠ g) : (((w.setCell ⟨g, o0, none⟩ b0).setCell ⟨g, o1, none⟩ b1).setCell ⟨g, o2, none⟩ b2).heap[k]? = w.heap[k]? := by
  rw [Below.heap_setCell _ _ _ k hk, Below.heap_setCell _ _ _ k hk, Below.heap_setCell _ _ _ k hk]
theorem rowz {w : World} {lo hi : Nat} {a : Option Addr} {l : List Nat} (h : SlE i64Z 1 w lo hi a (intsL l)) (h0 : 0 < l.length) : ∃ b o, a = some ⟨b, o, none⟩ ∧ lo ≤ b ∧ b < w.heap.size ∧ ∀ (i v : Nat), l[i]? = some v → w.cell? ⟨b, o + i, none⟩ = some (.int .i64 (v : Int)) := by
  obtain ⟨b, o, e, g1, g2, g3, g4⟩ := h (by simpa using h0)
  refine ⟨b, o, e, g1, g3, fun i v hv => ?_⟩
  have := g4 i (v : Int) (by rw [List.getElem?_map, hv]; rfl) 0 _ rfl
  rw [Nat.mul_one, Nat.add_zero] at this
  exact this
theorem splitN_at {l : List Nat} {p r : Nat} (h : l[p]? = some r) : l = l.take p ++ r :: l.drop (p + 1) := by
  have h1 := List.getElem?_eq_some_iff.1 h
  obtain ⟨hp, e⟩ := h1
  rw [← e, List.getElem_cons_drop]
  exact (List.take_append_drop p l).symm
set_option maxRecDepth 100000 in
set_option maxHeartbeats 6400000 in
theorem far_c (w : World) (x y : AV) (hx : Rd w x) (hy : Rd w y) (hwx : x.w ≤ 1048576) (hwy : y.w ≤ 1048576) : Calls Tryz.prog 55 #[x.val, y.val] w (Ret (.int .i64 (farI x.v y.v)) w) := by
  have bN := szV_le x.v
  have bM := szV_le y.v
  have hxw : x.v.w = x.w := rfl
  have hyw : y.v.w = y.w := rfl
  have HSX := fun W (h : Below w.heap.size w W) => Lib.hid (show Calls Tryz.prog 52 #[x.val] W (Ret (.int .i64 (szV x.v : Nat)) W) by
    have := size_c W x (hx.up h) hwx
    rwa [show (if x.v.may then (x.v.size : Int) else 0) = ((szV x.v : Nat) : Int) by unfold szV; split <;> rfl] at this)
  have HSY := fun W (h : Below w.heap.size w W) => Lib.hid (show Calls Tryz.prog 52 #[y.val] W (Ret (.int .i64 (szV y.v : Nat)) W) by
    have := size_c W y (hy.up h) hwy
    rwa [show (if y.v.may then (y.v.size : Int) else 0) = ((szV y.v : Nat) : Int) by unfold szV; split <;> rfl] at this)
  have HX := Lib.hid hx
  have HY := Lib.hid hy
  obtain ⟨N, hN⟩ : ∃ N, N = szV x.v := ⟨_, rfl⟩
  obtain ⟨M, hM⟩ : ∃ M, M = szV y.v := ⟨_, rfl⟩
  rw [← hN] at bN HSX
  rw [← hM] at bM HSY
  have HN := Lib.hid hN
  have HM := Lib.hid hM
  clear hx hy hN hM
  go_enter Tryz.func55, Tryz.ntmps55
  go_upto_region 1 with fail
  go_name_world W0 hW0
  obtain ⟨hx0, hy0, hs0, hb0⟩ := two_at (show Below ((w.alloc (.cells #[.int .u8 x.k, .string x.t, .slice x.la x.l.length x.lc, .slice x.ka x.ks.length x.kc] 26)).alloc (.cells #[.int .u8 y.k, .string y.t, .slice y.la y.l.length y.lc, .slice y.ka y.ks.length y.kc] 26)).heap.size ((w.alloc (.cells #[.int .u8 x.k, .string x.t, .slice x.la x.l.length x.lc, .slice x.ka x.ks.length x.kc] 26)).alloc (.cells #[.int .u8 y.k, .string y.t, .slice y.la y.l.length y.lc, .slice y.ka y.ks.length y.kc] 26)) W0 by rw [← hW0]; exact Below.refl _ _)
  obtain ⟨p0, p1, p2, p3⟩ := vb4 hx0
  obtain ⟨q0, q1, q2, q3⟩ := vb4 hy0
  have LD := Lib.hid (fun W (h : Below W0.heap.size W0 W) => And.intro (blkv h p0) (And.intro (blkv h p1) (And.intro (blkv h p2) (And.intro (blkv h p3) (And.intro (blkv h q0) (And.intro (blkv h q1) (And.intro (blkv h q2) (blkv h q3))))))))
  have HH1 := fun W (h : Below W0.heap.size W0 W) => Lib.hid ((HSX W (below_via hb0 h)).out)
  have HH2 := fun W (h : Below W0.heap.size W0 W) => Lib.hid ((HSY W (below_via hb0 h)).out)
  have HX0 := Lib.hid hx0
  have HY0 := Lib.hid hy0
  have HB0 := Lib.hid hb0
  clear p0 p1 p2 p3 q0 q1 q2 q3 hx0 hy0 hb0 hW0
  refine wp_region_bl (by kernel_rfl) (by kernel_rfl) ?_
  repeat (first | go_big_quiet_skip | (go_big_quiet_want; go_big_quiet_op; first | go_big_quiet_on | (refine ⟨_, fun _ _ => (by with_reducible rfl), ?_⟩; go_big_quiet_on) | (apply Exists.intro; refine ⟨fun w' hC => (by simp only [LD.out w' hC, Result.andThen]; exact ⟨trivial, rfl⟩), ?_⟩; go_big_quiet_on) | (apply Exists.intro; refine ⟨fun w' hC => (by (with_reducible refine (HH1 w' hC).out.mono ?_); exact fun e w2 ⟨he, hb⟩ => ⟨he, hC.trans (hb.mono hC.size)⟩), ?_⟩; go_big_quiet_on) | (apply Exists.intro; refine ⟨fun w' hC => (by (with_reducible refine (HH2 w' hC).out.mono ?_); exact fun e w2 ⟨he, hb⟩ => ⟨he, hC.trans (hb.mono hC.size)⟩), ?_⟩; go_big_quiet_on)))
  refine wpQuiet_nil ?_; intro wz hbz
  have HBZ := Lib.hid (below_via HB0.out hbz)
  have HXZ := Lib.hid (blk_via hbz HX0.out)
  have HYZ := Lib.hid (blk_via hbz HY0.out)
  clear hbz LD HH1 HH2 HSX HSY
  by_cases c1 : N = 0
  · have d1 : ((N : Int) == 0) = true := by simp; omega
    have hf := farI_no (a := x.v) (b := y.v) (.inl (by rw [← HN.out]; exact c1))
    clear c1
    go_wp2_with fail
    go_ret
    exact ⟨by first | (rw [hf]; rfl) | rfl, HBZ.out⟩
  have d1 : ((N : Int) == 0) = false := by simp; omega
  by_cases c2 : M = 0
  · have d2 : ((M : Int) == 0) = true := by simp; omega
    have hf := farI_no (a := x.v) (b := y.v) (.inr (.inl (by rw [← HM.out]; exact c2)))
    clear c2
    go_wp2_with fail
    go_ret
    exact ⟨by first | (rw [hf]; rfl) | rfl, HBZ.out⟩
  have d2 : ((M : Int) == 0) = false := by simp; omega
  by_cases c3 : 4096 < N
  · have d3 : (4096 : Int) < (N : Int) := by omega
    have hf := farI_no (a := x.v) (b := y.v) (.inr (.inr (.inl (by rw [← HN.out]; exact c3))))
    go_wp2_with fail
    go_ret
    exact ⟨by first | (rw [hf]; rfl) | rfl, HBZ.out⟩
  have d3 : ¬ (4096 : Int) < (N : Int) := by omega
  have hNM : N * M ≤ 4096 * 1048576 := Nat.mul_le_mul (by omega) (by omega)
  have hNM2 : (N : Int) * (M : Int) = ((N * M : Nat) : Int) := by simp
  have hw1 : IntKind.i64.wrap ((N : Int) * (M : Int)) = (N : Int) * (M : Int) := IntWalk.i64_in _ (by rw [hNM2]; omega)
  by_cases c4 : 4096 < N * M
  · have d4 : (4096 : Int) < (N : Int) * (M : Int) := by rw [hNM2]; omega
    have hf := farI_no (a := x.v) (b := y.v) (.inr (.inr (.inr (by rw [← HN.out, ← HM.out]; exact c4))))
    clear hNM2
    go_wp2_with fail
    go_ret
    exact ⟨by first | (rw [hf]; rfl) | rfl, HBZ.out⟩
  have d4 : ¬ (4096 : Int) < (N : Int) * (M : Int) := by rw [hNM2]; omega
  have hf := farI_yes (a := x.v) (b := y.v) (by rw [← HN.out]; exact c1) (by rw [← HM.out]; exact c2) (by rw [← HN.out]; exact c3) (by rw [← HN.out, ← HM.out]; exact c4)
  have hM4 : M ≤ 4096 := Nat.le_trans (Nat.le_mul_of_pos_left M (by omega)) (by omega : N * M ≤ 4096)
  have hN4 : N ≤ 4096 := by omega
  obtain ⟨N1, hN1⟩ : ∃ N1, N1 = N + 1 := ⟨_, rfl⟩
  obtain ⟨M1, hM1⟩ : ∃ M1, M1 = M + 1 := ⟨_, rfl⟩
  have HZ1 := fun W => Lib.hid (esized_c W N M (by omega) (by omega))
  have HZ2 := fun W => Lib.hid (show Calls Tryz.prog 70 #[.int .i64 ((N : Int) + 1), .int .i64 ((M : Int) + 1)] W (SizedPost N1 M1 W) by
    have := esized_c W N1 M1 (by omega) (by omega)
    rwa [show (N1 : Int) = (N : Int) + 1 by omega, show (M1 : Int) = (M : Int) + 1 by omega] at this)
  have HN1 := Lib.hid hN1
  have HM1 := Lib.hid hM1
  have HF := Lib.hid hf
  have HC := Lib.hid (And.intro c1 c2)
  clear hNM2 hN1 hM1 hf c1 c2 c3 c4
  go_upto_region 5 with (first
    | (go_at_call 70; (with_reducible refine (HZ2 _).out.mono ?_); rintro e w2 ⟨rfl, hm2, hz2, hb2⟩
       have HM2 := Lib.hid hm2
       have HZS2 := Lib.hid hz2
       have HB2 := Lib.hid hb2
       clear hm2 hz2 hb2)
    | (go_at_call 70; (with_reducible refine (HZ1 _).out.mono ?_); rintro e w1 ⟨rfl, hm1, hz1, hb1⟩
       have HM1' := Lib.hid hm1
       have HZS1 := Lib.hid hz1
       have HB1 := Lib.hid hb1
       clear hm1 hz1 hb1))
  go_name_world W4 hW4
  obtain ⟨tb, htb⟩ : ∃ tb, tb = w2.heap.size := ⟨_, rfl⟩
  obtain ⟨TB, hTB⟩ : ∃ TB, TB = wz.heap.size := ⟨_, rfl⟩
  obtain ⟨FB, hFB⟩ : ∃ FB, FB = w1.heap.size := ⟨_, rfl⟩
  have hz1 : FB = TB + 1 + N := by have := HZS1.out; omega
  have hz2 : tb = FB + 1 + N1 := by have := HZS2.out; omega
  have ht4 : W4.heap[tb]? = some (.cells #[.slice none 0 0, .slice none 0 0, .slice none 0 0, .slice none 0 0, .slice none 0 0, .slice none 0 0, .slice (some ⟨TB, 0, none⟩) N N, .slice (some ⟨FB, 0, none⟩) N1 N1] 90 (0, 0)) := by rw [← hW4, htb, hTB, hFB]; exact heap_alloc_new w2 _
  have hb24 : Below w2.heap.size w2 W4 := by rw [← hW4]; exact below_al (Below.refl _ _)
  have hs4 : W4.heap.size = tb + 1 := by rw [← hW4, htb]; simp
  have hMT4 : Mat W4 TB N M (fun _ _ => 0) := by
    rw [hTB]
    exact HM1'.out.keep fun k h1 h2 => (below_via HB2.out hb24).block k (by have := HZS1.out; omega)
  have hMF4 : Mat W4 FB N1 M1 (fun _ _ => 0) := by
    rw [hFB]
    exact HM2.out.keep fun k h1 h2 => hb24.block k (by have := HZS2.out; omega)
  have hb4 : Below w.heap.size w W4 := below_via (below_via (below_via HBZ.out HB1.out) HB2.out) hb24
  have hbz4 := below_via (below_via HB1.out HB2.out) hb24
  rw [← htb, ← hTB, ← hFB]
  obtain ⟨p0, p1, p2, p3⟩ := vb4 (blk_via hbz4 HXZ.out)
  have HYZ4 := Lib.hid (blk_via hbz4 HYZ.out)
  have HPX := Lib.hid (pof_u W4 x (HX.out.up hb4) hwx)
  have hwT : w.heap.size + 1 < TB := by rw [hTB]; exact (Array.getElem?_eq_some_iff.1 HYZ.out).1
  have HT4 := Lib.hid ht4
  have HB4 := Lib.hid hb4
  have HMT4 := Lib.hid hMT4
  have HMF4 := Lib.hid hMF4
  have HZ12 := Lib.hid (And.intro hz1 hz2)
  have HS4 := Lib.hid hs4
  clear hW4 htb hTB hFB hz1 hz2 ht4 hb24 hs4 hMT4 hMF4 hb4 hbz4 HZS1 HZS2 HM1' HM2 HB1 HB2 HXZ HYZ HBZ HX0 HY0 HB0
  go_upto_region 6 with (first
    | (go_at_call 71; (with_reducible refine HPX.out.mono ?_); rintro e w5 ⟨al, af, ar, rfl, hpa, hwa, hb5⟩
       have ht5 := blk_via hb5 HT4.out
       have e0 := eight ht5
       have f0 := eightf ht5
       have HT5 := Lib.hid ht5
       have HPA := Lib.hid hpa
       have HB5 := Lib.hid hb5
       clear hpa hwa hb5 ht5 p0 p1 p2 p3))
  clear e0 f0
  go_name_world W6 hW6
  have ht6 : W6.heap[tb]? = some (.cells #[.slice al x.v.labs0.length x.v.labs0.length, .slice af x.v.labs0.length x.v.labs0.length, .slice ar (rootsL x.v.lefts0).length (rootsL x.v.lefts0).length, .slice none 0 0, .slice none 0 0, .slice none 0 0, .slice (some ⟨TB, 0, none⟩) N N, .slice (some ⟨FB, 0, none⟩) N1 N1] 90 (0, 0)) := by rw [← hW6]; exact tset0 HT5.out
  have hk6 : ∀ k, k ≠ tb → W6.heap[k]? = w5.heap[k]? := fun k hk => by rw [← hW6]; exact old3 hk
  have hs6 : W6.heap.size = w5.heap.size := by rw [← hW6]; simp
  have ho6 : W6.os = w5.os ∧ W6.tape = w5.tape ∧ W6.output = w5.output := by rw [← hW6]; exact ⟨rfl, rfl, rfl⟩
  have hs45 : tb + 1 ≤ w5.heap.size := by have := HB5.out.size; have := HS4.out; omega
  have hz12 := HZ12.out
  have hwT1 : w.heap.size + 1 < TB := hwT
  have hold : ∀ k, k < tb → W6.heap[k]? = W4.heap[k]? := fun k hk => (hk6 k (by omega)).trans (HB5.out.block k (by have := HS4.out; omega))
  have hb6 : Below w.heap.size w W6 := ⟨ho6.1.trans (HB5.out.os.trans HB4.out.os), ho6.2.1.trans (HB5.out.tape.trans HB4.out.tape), ho6.2.2.trans (HB5.out.output.trans HB4.out.output), by have := HB4.out.size; have := HB5.out.size; omega, fun k hk => (hold k (by omega)).trans (HB4.out.block k hk)⟩
  obtain ⟨p0, p1, p2, p3⟩ := vb4 ((hold (w.heap.size + 1) (by omega)).trans HYZ4.out)
  have HPY := Lib.hid (pof_u W6 y (HY.out.up hb6) hwy)
  have HMT6 := Lib.hid (HMT4.out.keep (w' := W6) fun k h1 h2 => hold k (by omega))
  have HMF6 := Lib.hid (HMF4.out.keep (w' := W6) fun k h1 h2 => hold k (by omega))
  have HPA6 := Lib.hid (HPA.out.kept (w' := W6) (by omega) fun q h1 h2 => hk6 q (by have := HS4.out; omega))
  have HT6 := Lib.hid ht6
  have HB6 := Lib.hid hb6
  have HS6 := Lib.hid (And.intro hs6 hs45)
  clear hW6 ht6 hk6 hs6 ho6 hs45 hz12 hold hb6 HT5 HPA HB5 HMT4 HMF4 HT4 HB4 HYZ4 HPX
  go_upto_region 7 with (first
    | (go_at_call 71; (with_reducible refine HPY.out.mono ?_); rintro e w7 ⟨bl, bf, br, rfl, hpb, hwb, hb7⟩
       have ht7 := blk_via hb7 HT6.out
       have e0 := eight ht7
       have f0 := eightf ht7
       have HT7 := Lib.hid ht7
       have HPB := Lib.hid hpb
       have HB7 := Lib.hid hb7
       clear hpb hwb hb7 ht7 p0 p1 p2 p3))
  clear e0 f0
  go_name_world W8 hW8
  have ht8 : W8.heap[tb]? = some (.cells #[.slice al x.v.labs0.length x.v.labs0.length, .slice af x.v.labs0.length x.v.labs0.length, .slice ar (rootsL x.v.lefts0).length (rootsL x.v.lefts0).length, .slice bl y.v.labs0.length y.v.labs0.length, .slice bf y.v.labs0.length y.v.labs0.length, .slice br (rootsL y.v.lefts0).length (rootsL y.v.lefts0).length, .slice (some ⟨TB, 0, none⟩) N N, .slice (some ⟨FB, 0, none⟩) N1 N1] 90 (0, 0)) := by rw [← hW8]; exact tset3 HT7.out
  have hk8 : ∀ k, k ≠ tb → W8.heap[k]? = w7.heap[k]? := fun k hk => by rw [← hW8]; exact old3 hk
  have hs8 : W8.heap.size = w7.heap.size := by rw [← hW8]; simp
  have ho8 : W8.os = w7.os ∧ W8.tape = w7.tape ∧ W8.output = w7.output := by rw [← hW8]; exact ⟨rfl, rfl, rfl⟩
  have hs67 := HB7.out.size
  have hs6' := HS6.out
  have hz12 := HZ12.out
  have hwT1 : w.heap.size + 1 < TB := hwT
  have hold : ∀ k, k < tb → W8.heap[k]? = W6.heap[k]? := fun k hk => (hk8 k (by omega)).trans (HB7.out.block k (by omega))
  have hb8 : Below w.heap.size w W8 := ⟨ho8.1.trans (HB7.out.os.trans HB6.out.os), ho8.2.1.trans (HB7.out.tape.trans HB6.out.tape), ho8.2.2.trans (HB7.out.output.trans HB6.out.output), by have := HB6.out.size; omega, fun k hk => (hold k (by omega)).trans (HB6.out.block k hk)⟩
  have HMT8 := Lib.hid (HMT6.out.keep (w' := W8) fun k h1 h2 => hold k (by omega))
  have HMF8 := Lib.hid (HMF6.out.keep (w' := W8) fun k h1 h2 => hold k (by omega))
  have HPA8 := Lib.hid (HPA6.out.kept (w' := W8) (by omega) fun q h1 h2 => (hk8 q (by have := HS4.out; omega)).trans (HB7.out.block q h2))
  have HPB8 := Lib.hid (HPB.out.kept (w' := W8) (by omega) fun q h1 h2 => hk8 q (by omega))
  have HT8 := Lib.hid ht8
  have HB8 := Lib.hid hb8
  have HS8 := Lib.hid (show tb + 1 ≤ W6.heap.size by omega)
  clear hW8 ht8 hk8 hs8 ho8 hs67 hs6' hold hb8 HT7 HPA6 HPB HB7 HMT6 HMF6 HT6 HB6 HPY HS6
  have hmx := szV_may (a := x.v) (by rw [← HN.out]; exact HC.out.1)
  have hmy := szV_may (a := y.v) (by rw [← HM.out]; exact HC.out.2)
  have e1 : x.v.labs0 = x.v.labs := by rw [Val.labs0, hmx.1]; rfl
  have e2 : x.v.lefts0 = x.v.lefts := by rw [Val.lefts0, hmx.1]; rfl
  have e3 : y.v.labs0 = y.v.labs := by rw [Val.labs0, hmy.1]; rfl
  have e4 : y.v.lefts0 = y.v.lefts := by rw [Val.lefts0, hmy.1]; rfl
  have ht8 := HT8.out
  have hpa8 := HPA8.out
  have hpb8 := HPB8.out
  rw [e1, e2] at hpa8 ht8
  rw [e3, e4] at hpb8 ht8
  obtain ⟨T, hT⟩ : ∃ T, T = twoV x.v y.v hmx.1 hmy.1 := ⟨_, rfl⟩
  have hTn : T.n = x.v.labs.length := by rw [hT]; rfl
  have hTm : T.m = y.v.labs.length := by rw [hT]; rfl
  have hTfa : T.fa = numAt x.v.lefts := by rw [hT]; rfl
  have hTfb : T.fb = numAt y.v.lefts := by rw [hT]; rfl
  have hTla : T.la = labAt x.v.labs := by rw [hT]; rfl
  have hTlb : T.lb = labAt y.v.labs := by rw [hT]; rfl
  have hTf : T.far 0 T.n 0 T.m = farV x.v y.v := by rw [hT]; exact twoV_far hmx.1 hmy.1
  have hNT : N = T.n := by rw [HN.out, hmx.2, hTn, labs_size hmx.1]
  have hMT : M = T.m := by rw [HM.out, hmy.2, hTm, labs_size hmy.1]
  have hlx : x.v.lefts.length = T.n := by rw [hTn]; exact lefts_labs _
  have hly : y.v.lefts.length = T.m := by rw [hTm]; exact lefts_labs _
  have hRx : 0 < (rootsL x.v.lefts).length := by
    obtain ⟨r, hr, -⟩ := root_any (F := x.v.lefts) (i := 0) (by rw [hlx, hTn]; exact labs_pos _)
    exact List.length_pos_of_mem hr
  have hRy : 0 < (rootsL y.v.lefts).length := by
    obtain ⟨r, hr, -⟩ := root_any (F := y.v.lefts) (i := 0) (by rw [hly, hTm]; exact labs_pos _)
    exact List.length_pos_of_mem hr
  have hT0 := lefts_top x.v
  have hT1 := lefts_top y.v
  rw [← hTn, ← hTfa] at hT0
  rw [← hTm, ← hTfb] at hT1
  have hnp : 0 < T.n := by rw [hTn]; exact labs_pos _
  have hmp : 0 < T.m := by rw [hTm]; exact labs_pos _
  rw [← hTn, ← hTm] at ht8
  have hLlx : x.v.labs.length = T.n := hTn.symm
  have hLly : y.v.labs.length = T.m := hTm.symm
  have hlamx : Lam (numAt x.v.lefts) x.v.lefts.length := by have := T.ha; rwa [hTfa, ← hlx] at this
  have hlamy : Lam (numAt y.v.lefts) y.v.lefts.length := by have := T.hb; rwa [hTfb, ← hly] at this
  obtain ⟨bra, ora, era, gra, -, hra⟩ := rowz hpa8.r hRx
  obtain ⟨brb, orb, erb, grb, -, hrb⟩ := rowz hpb8.r hRy
  obtain ⟨bfa, ofa, efa, gfa, gfa2, hfa⟩ := rowz hpa8.f (by omega)
  obtain ⟨bfb, ofb, efb, gfb, gfb2, hfb⟩ := rowz hpb8.f (by omega)
  rw [era, erb, efa, efb] at ht8
  have hz4 := HS4.out
  have hz6 := HS8.out
  have lra := World.block_lt_of_cell? W8 _ (hra 0 _ (List.getElem?_eq_getElem hRx))
  have lrb := World.block_lt_of_cell? W8 _ (hrb 0 _ (List.getElem?_eq_getElem hRy))
  simp only at lra lrb
  have htl : tb < W8.heap.size := (Array.getElem?_eq_some_iff.1 ht8).1
  have HTBX := Lib.hid (show ∀ W, KpM TB tb W8 W → _ from fun W h => (h.2.2.2.2 tb htl (.inr (Nat.le_refl _))).trans ht8)
  have HRA := Lib.hid (show ∀ W, KpM TB tb W8 W → ∀ p r, (rootsL x.v.lefts)[p]? = some r → _ from fun W h p r hr => (h.cell lra (.inr (by omega))).trans (hra p r hr))
  have HRB := Lib.hid (show ∀ W, KpM TB tb W8 W → ∀ p r, (rootsL y.v.lefts)[p]? = some r → _ from fun W h p r hr => (h.cell lrb (.inr (by omega))).trans (hrb p r hr))
  have hfa' : ∀ i, i < T.n → W8.cell? ⟨bfa, ofa + i, none⟩ = some (.int .i64 (T.fa i : Nat)) := fun i hi => by rw [hTfa]; exact hfa i _ (num_get (by omega))
  have hfb' : ∀ i, i < T.m → W8.cell? ⟨bfb, ofb + i, none⟩ = some (.int .i64 (T.fb i : Nat)) := fun i hi => by rw [hTfb]; exact hfb i _ (num_get (by omega))
  have hrel : ∀ W i k, KpM TB tb W8 W → i < T.n → k < T.m → Calls Tryz.prog 88 #[.pointer (some ⟨tb, 0, none⟩), .int .i64 (i : Int), .int .i64 (k : Int)] W (Ret (.int .i64 (rel (T.la i) (T.lb k) : Nat)) W) := fun W i k h hi hk => by
    rw [hTla, hTlb]
    have hb := HTBX.out W h
    rw [← hLlx, ← hLly] at hb
    exact relabel_c W tb al bl _ _ _ _ _ _ _ _ x.v.labs y.v.labs i k hb ((hpa8.kept h.2.2.2.1 fun q h1 h2 => h.2.2.2.2 q h2 (.inr (by omega))).l.widen (Nat.zero_le _) (Nat.le_refl _)) ((hpb8.kept h.2.2.2.1 fun q h1 h2 => h.2.2.2.2 q h2 (.inr (by omega))).l.widen (Nat.zero_le _) (Nat.le_refl _)) (by omega) (by omega)
  obtain ⟨c1', c2'⟩ := HC.out
  subst hNT hMT
  have HFILL := Lib.hid (show ∀ W (x' y' : Nat) (Mx fx : Nat → Nat → Int), KpM TB tb W8 W → Mat W TB T.n T.m Mx → Mat W FB N1 M1 fx → x' < T.n → y' < T.m → (∀ i k, T.fa x' ≤ i → i ≤ x' → T.fb y' ≤ k → k ≤ y' → ¬ (T.fa i = T.fa x' ∧ T.fb k = T.fb y') → Mx i k = (T.tree i k : Nat)) →
      Calls Tryz.prog 72 #[.pointer (some ⟨tb, 0, none⟩), .int .i64 (x' : Int), .int .i64 (y' : Int)] W (FillPost T TB FB tb N1 M1 x' y' Mx W) from fun W x' y' Mx fx h m1 m2 h1 h2 hk =>
    fill_c W T tb TB FB tb N1 M1 bfa ofa bfb ofb _ _ _ _ _ _ x' y' Mx fx (HTBX.out W h) hN4 hM4 HN1.out HM1.out (by omega) (by have := HN1.out; omega) (Nat.le_refl _) (by omega) (Nat.lt_of_lt_of_le gfa2 h.2.2.2.1) (by omega) (Nat.lt_of_lt_of_le gfb2 h.2.2.2.1)
      (fun i hi => (h.cell gfa2 (.inr (by omega))).trans (hfa' i hi)) (fun k hk => (h.cell gfb2 (.inr (by omega))).trans (hfb' k hk)) (fun W' i k h' hi hk => hrel W' i k (h.trans h') hi hk) m1 m2 h1 h2 hk)
  have HLA := Lib.hid (And.intro hlamx (And.intro hlamy (And.intro hTfa hTfb)))
  have HLN := Lib.hid (And.intro hlx hly)
  have HTOP := Lib.hid (And.intro hT0 (And.intro hT1 hTf))
  obtain ⟨p0, p1, p2, p3, p4, p5, p6, p7⟩ := eight ht8
  have hRA1 : 0 < (rootsL x.v.lefts).length := hRx
  obtain ⟨RA, hRA⟩ : ∃ RA, RA = rootsL x.v.lefts := ⟨_, rfl⟩
  obtain ⟨RB, hRB⟩ : ∃ RB, RB = rootsL y.v.lefts := ⟨_, rfl⟩
  rw [← hRA] at HRA p2
  rw [← hRB] at HRB p5
  have hrle : RA.length ≤ T.n := by rw [hRA, ← hlx]; exact rootsL_le _
  have hsle : RB.length ≤ T.m := by rw [hRB, ← hly]; exact rootsL_le _
  have HREQ := Lib.hid (And.intro hRA hRB)
  have i1 : TB + T.n < FB := by omega
  have i2 : FB + N1 < tb := by omega
  clear hz12 hz4 hz6 hwT1
  clear ht8 hpa8 hpb8 hT hTn hTm hTfa hTfb hTla hTlb hTf hlx hly hT0 hT1 hLlx hLly hlamx hlamy era erb efa efb hra hrb hfa hfb hfa' hfb' hrel hRA hRB hRx hRy hRA1 e1 e2 e3 e4 HPA8 HPB8 HT8 HC HN HM hmx hmy
  go_wp2_with fail
  clear p0 p1 p2 p3 p4 p5 p6 p7
  go_loopw [64] (fun s64 wr => ∃ (p : Nat) (Mx fx : Nat → Nat → Int), p ≤ RA.length ∧ s64 = .int .i64 (p : Int) ∧ Hid (Mat wr TB T.n T.m Mx) ∧ Hid (Mat wr FB N1 M1 fx) ∧ Hid (∀ z, T.Good Mx (RA.take p) z []) ∧ Hid (KpM TB tb W8 wr)) (fun s64 _ => RA.length - (intOf s64).toNat)
  case atStart => exact ⟨0, _, _, Nat.zero_le _, rfl, HMT8, HMF8, Lib.hid (fun z => by rw [List.take_zero]; exact Two.Good.start T _ z), Lib.hid KpM.refl⟩
  case round =>
    obtain ⟨p, Mx, fx, hp, rfl, HT, HFo, HG, HK⟩ := hrel
    obtain ⟨p0, p1, p2, p3, p4, p5, p6, p7⟩ := eight (HTBX.out wr HK.out)
    by_cases hlt : p < RA.length
    · have hlt1 : (p : Int) < (RA.length : Int) := by omega
      have hp0 : (0 : Int) ≤ (p : Int) := by omega
      have hwp : IntKind.i64.wrap ((p : Int) + 1) = ((p + 1 : Nat) : Int) := by rw [IntWalk.i64_in _ (by omega)]; omega
      have hr : RA[p]? = some RA[p] := List.getElem?_eq_getElem hlt
      generalize RA[p] = r at hr
      have cr := HRA.out wr HK.out p r hr
      have HR := Lib.hid hr
      obtain ⟨W9, hW9⟩ : ∃ W9, W9 = wr := ⟨_, rfl⟩
      subst hW9
      clear hr
      rw [← HREQ.out.2] at p5
      have hrT : r < T.n := by
        have hm := List.mem_of_getElem? HR.out
        rw [HREQ.out.1] at hm
        have := (roots_mem.1 hm).1
        rwa [HLN.out.1] at this
      clear p0 p1 p2 p3 p4 p6 p7
      go_wp2_with fail
      clear p5 cr
      go_loopw [74] (fun s74 wr => ∃ (q : Nat) (Mx fx : Nat → Nat → Int), q ≤ RB.length ∧ s74 = .int .i64 (q : Int) ∧ Hid (Mat wr TB T.n T.m Mx) ∧ Hid (Mat wr FB N1 M1 fx) ∧ Hid (T.Good Mx (RA.take p) r (RB.take q)) ∧ Hid (KpM TB tb W8 wr)) (fun s74 _ => RB.length - (intOf s74).toNat)
      case atStart => exact ⟨0, Mx, fx, Nat.zero_le _, rfl, HT, HFo, Lib.hid (by rw [List.take_zero]; exact HG.out r), HK⟩
      case round =>
        clear HT HFo HG HK
        obtain ⟨q, Mx, fx, hq, rfl, HT, HFo, HG, HK⟩ := hrel
        by_cases hqt : q < RB.length
        · have hlt2 : (q : Int) < (RB.length : Int) := by omega
          have hq0 : (0 : Int) ≤ (q : Int) := by omega
          have hwq : IntKind.i64.wrap ((q : Int) + 1) = ((q + 1 : Nat) : Int) := by rw [IntWalk.i64_in _ (by omega)]; omega
          have hs : RB[q]? = some RB[q] := List.getElem?_eq_getElem hqt
          generalize RB[q] = s at hs
          have cs := HRB.out wr HK.out q s hs
          have hmB := List.mem_of_getElem? hs
          rw [HREQ.out.2] at hmB
          have hsT : s < T.m := by
            have := (roots_mem.1 hmB).1
            rwa [HLN.out.2] at this
          have hmA := List.mem_of_getElem? HR.out
          rw [HREQ.out.1] at hmA
          have hspA : rootsL x.v.lefts = RA.take p ++ r :: RA.drop (p + 1) := by rw [← HREQ.out.1]; exact (splitN_at HR.out)
          have hspB : rootsL y.v.lefts = RB.take q ++ s :: RB.drop (q + 1) := by rw [← HREQ.out.2]; exact (splitN_at hs)
          have hc := HFILL.out wr r s Mx fx HK.out HT.out HFo.out hrT hsT fun i k h1 h2 h3 h4 hn => by
            have hin : i < T.n := by omega
            have hkm : k < T.m := by omega
            rcases root_ahead HLA.out.1 hspA (x := r) (i := i) (by rw [← HLA.out.2.2.1]; exact h1) h2 with ea | ⟨r', hr', ea⟩
            · rcases root_ahead HLA.out.2.1 hspB (x := s) (i := k) (by rw [← HLA.out.2.2.2]; exact h3) h4 with eb | ⟨s', hs', eb⟩
              · exact absurd ⟨by rw [HLA.out.2.2.1]; exact ea, by rw [HLA.out.2.2.2]; exact eb⟩ hn
              · exact HG.out.some i k hin hkm (by rw [HLA.out.2.2.1]; exact ea) ⟨s', hs', by rw [HLA.out.2.2.2]; exact eb⟩
            · exact HG.out.all i k hin hkm ⟨r', hr', by rw [HLA.out.2.2.1]; exact ea⟩
          have HCF := Lib.hid hc
          have HSB := Lib.hid (And.intro hmA (And.intro hmB hs))
          clear hs hmA hmB hspA hspB hc
          go_wp2_with (first | (go_at_call 72; (with_reducible refine HCF.out.mono ?_); rintro e w9 ⟨rfl, M', f', hmt, hmf, hfd, hkp⟩))
          refine ⟨⟨q + 1, M', f', by omega, by go_num, Lib.hid hmt, Lib.hid hmf, Lib.hid ?_, Lib.hid (HK.out.trans hkp)⟩, by simp [intOf]; omega⟩
          have hts : RB.take (q + 1) = RB.take q ++ [s] := by rw [List.take_add_one, HSB.out.2.2]; rfl
          rw [hts]
          exact HG.out.fill hfd (fun i hi e => root_top HSB.out.1 (by rw [HLN.out.1]; exact hi) (by rw [← HLA.out.2.2.1]; exact e)) (fun k hk e => root_top HSB.out.2.1 (by rw [HLN.out.2]; exact hk) (by rw [← HLA.out.2.2.2]; exact e))
        · obtain rfl : q = RB.length := by omega
          have hge : ¬ (RB.length : Int) < (RB.length : Int) := by omega
          have hgr := fun z => HG.out.row (fun k hk => by
            rw [List.take_length, HREQ.out.2]
            obtain ⟨s', h1, h2⟩ := root_any (F := y.v.lefts) (i := k) (by rw [HLN.out.2]; exact hk)
            exact ⟨s', h1, by rw [HLA.out.2.2.2]; exact h2⟩) z
          have HGR := Lib.hid hgr
          clear hgr
          go_wp2_with fail
          refine ⟨⟨p + 1, Mx, fx, by omega, by go_num, HT, HFo, Lib.hid fun z => ?_, HK⟩, by simp [intOf]; omega⟩
          have hts : RA.take (p + 1) = RA.take p ++ [r] := by rw [List.take_add_one, HR.out]; rfl
          rw [hts]
          exact HGR.out z
    · obtain rfl : p = RA.length := by omega
      have hge : ¬ (RA.length : Int) < (RA.length : Int) := by omega
      obtain ⟨kn, hkn⟩ : ∃ kn, T.n = kn + 1 := ⟨T.n - 1, by omega⟩
      obtain ⟨km, hkm⟩ : ∃ km, T.m = km + 1 := ⟨T.m - 1, by omega⟩
      have w1' : (T.n : Int) - 1 = (kn : Int) := by omega
      have w2' : (T.m : Int) - 1 = (km : Int) := by omega
      have v1 : IntKind.i64.wrap (kn : Int) = (kn : Int) := IntWalk.i64_in _ (by omega)
      have v2 : IntKind.i64.wrap (km : Int) = (km : Int) := IntWalk.i64_in _ (by omega)
      have c1 := HT.out.top.cell (j := kn) (by omega)
      have c2 := (HT.out.row kn (by omega)).cell (j := km) (by omega)
      have g1 : (kn : Int) < (T.n : Int) := by omega
      have g2 : (km : Int) < (T.m : Int) := by omega
      have g3 : (0 : Int) ≤ (kn : Int) := by omega
      have g4 : (0 : Int) ≤ (km : Int) := by omega
      have hval : Mx kn km = farI x.v y.v := by
        have hg := (HG.out 0).all kn km (by omega) (by omega) (by
          rw [List.take_length, HREQ.out.1]
          obtain ⟨r', h1, h2⟩ := root_any (F := x.v.lefts) (i := kn) (by rw [HLN.out.1]; omega)
          exact ⟨r', h1, by rw [HLA.out.2.2.1]; exact h2⟩)
        rw [hg, HF.out]
        have e1 : T.fa kn = 0 := by have := HTOP.out.1; rwa [show T.n - 1 = kn by omega] at this
        have e2 : T.fb km = 0 := by have := HTOP.out.2.1; rwa [show T.m - 1 = km by omega] at this
        rw [Two.tree, e1, e2, ← hkn, ← hkm, HTOP.out.2.2]
      have HVAL := Lib.hid hval
      have HBE := Lib.hid (HB8.out.trans ((HK.out.below (by omega)).mono (by omega : w.heap.size ≤ TB)))
      clear hval hkn hkm p0 p1 p2 p3 p4 p5 p7
      go_wp2_with fail
      go_ret
      exact ⟨by rw [← HVAL.out]; rfl, HBE.out⟩
end Go.Proofs.YtmhkacafilpliaaGreat
