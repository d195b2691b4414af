/-
  inarchref14.Size, and the document's distance of two values. Conditions: the values lie in memory, their weights are bounded.
-/
import Derived.Test.YtmhkacafilpliaaFB
import Derived.Test.YtmhkacafilpliaaVE
namespace Go.Proofs.Ytmhkacafilpliaa
open Go.RowKit Go.Sort Go.Shelf Go.BigFrame

theorem tri_stepF {N : Nat} {A W W' : World} (h : Below N A W) (hb : Below W.heap.size W W') (hN : N ≤ A.heap.size) : Below N A W' := h.trans (hb.mono (Nat.le_trans hN h.size))
theorem sum_partF {α : Type} (f : α → Nat) {l : List α} {k : Nat} {x : α} (hk : l[k]? = some x) : ((l.take k).map f).sum + f x ≤ (l.map f).sum := by
  have h : ((l.take (k + 1)).map f).sum ≤ (l.map f).sum := by
    conv => rhs; rw [← List.take_append_drop (k + 1) l]
    rw [List.map_append, List.sum_append]
    omega
  rw [List.take_add_one, hk, List.map_append, List.sum_append] at h
  simpa using h
theorem take_sumF {α : Type} (f : α → Nat) {l : List α} {k : Nat} {x : α} (hk : l[k]? = some x) : ((l.take (k + 1)).map f).sum = ((l.take k).map f).sum + f x := by
  rw [List.take_add_one, hk]; simp
set_option maxRecDepth 100000 in
set_option maxHeartbeats 3200000 in
theorem rsizeV_c : ∀ (x : AV) (w : World), Rd w x → x.w ≤ 1048576 → Calls Try.prog 25 #[x.val] w (Ret (.int .i64 (szV x.v : Int)) w) := AV.ind fun x ih w hx hw => by
  have hll := x.w_l
  have HM := fun W (h : Below w.heap.size w W) => Lib.hid (rmay_c x W (hx.up h) hw)
  have hB0 : Below (w.heap.size + 1) (w.alloc (.cells #[.int .u8 x.k, .string x.t, .slice x.la x.l.length x.lc, .slice x.ka x.ks.length x.kc] 26)) (w.alloc (.cells #[.int .u8 x.k, .string x.t, .slice x.la x.l.length x.lc, .slice x.ka x.ks.length x.kc] 26)) := Below.refl _ _
  have hb0 : Below w.heap.size w (w.alloc (.cells #[.int .u8 x.k, .string x.t, .slice x.la x.l.length x.lc, .slice x.ka x.ks.length x.kc] 26)) := (Below.refl _ _).alloc (Nat.le_refl _) _
  cases mx : x.v.may with
  | false =>
    have HF := Lib.hid (show szV x.v = 0 by unfold szV; rw [mx]; rfl)
    rw [mx] at HM
    clear mx ih
    go_enter Try.func25, Try.ntmps25
    go_wp2_with (go_at_call 47; refine (HM _ (by assumption)).out.mono ?_; rintro e w1 ⟨rfl, hb1⟩)
    go_ret
    exact ⟨by rw [HF.out]; rfl, below_via hb0 hb1⟩
  | true =>
    have HF := Lib.hid (show szV x.v = x.v.size by unfold szV; rw [mx]; rfl)
    have hkm : ∀ y ∈ x.l, y.v.may = true := fun y hy => (may_kid mx (by rw [AV.v_l]; exact List.mem_map_of_mem hy)).2
    have hsz := x.v.size_le
    have hxw : x.v.w ≤ 1048576 := hw
    have hse := Val.size_eq x.v
    rw [AV.v_l] at hse
    have HKM := Lib.hid hkm
    have HI := Lib.hid ih
    have HX := Lib.hid hx
    have HSE := Lib.hid hse
    rw [mx] at HM
    clear mx ih hkm hx hse
    go_enter Try.func25, Try.ntmps25
    go_wp2_with (go_at_call 47; refine (HM _ (by assumption)).out.mono ?_; rintro e w1 ⟨rfl, hb1⟩)
    have hB1 := tri_stepF (N := w.heap.size + 1) hB0 hb1 (by simp)
    have HB1 := Lib.hid hB1
    clear hB1 hB0 hb0 hb1 HM
    go_loopw [3, 4] (fun s3 s4 wr => ∃ (m n : Nat), m ≤ x.l.length ∧ n = 1 + (((x.l.map AV.v).take m).map Val.size).sum ∧ s3 = .int .i64 n ∧ s4 = .int .i64 m ∧ Below (w.heap.size + 1) (w.alloc (.cells #[.int .u8 x.k, .string x.t, .slice x.la x.l.length x.lc, .slice x.ka x.ks.length x.kc] 26)) wr) (fun _ s4 _ => x.l.length - (intOf s4).toNat)
    case atStart => exact ⟨0, 1, Nat.zero_le _, rfl, rfl, rfl, HB1.out⟩
    case round =>
      obtain ⟨m, n, hm, hn, rfl, rfl, hbr⟩ := hrel
      have hsr := hbr.size
      rw [World.size_alloc] at hsr
      obtain ⟨q0, q1, q2, q3⟩ := bx hbr
      have hl0 : w.heap.size < wr.heap.size := by omega
      have HBR := Lib.hid hbr
      have HN := Lib.hid hn
      have HBW := Lib.hid (bx_w hbr)
      clear hbr hn
      by_cases hlt : m < x.l.length
      · have he : x.l[m]? = some x.l[m] := List.getElem?_eq_getElem hlt
        have hem : x.l[m] ∈ x.l := List.getElem_mem hlt
        generalize x.l[m] = e at he hem
        obtain ⟨be, oe, hla, -, -, ge, e0, e1, e2, e3⟩ := vals_at (HX.out.up HBW.out).sl he
        have hew := AV.w_kid hem
        have hev : (x.l.map AV.v)[m]? = some e.v := by rw [List.getElem?_map, he]; rfl
        have hp := sum_partF Val.size hev
        have hnn : n + e.v.size ≤ x.v.size := by rw [HN.out, HSE.out]; omega
        have hes : (szV e.v) = e.v.size := by unfold szV; rw [HKM.out e hem]; rfl
        have HC := HI.out e hem
        rw [hes] at HC
        have HCC := fun W (h : Below w.heap.size w W) => Lib.hid (HC W (Rd.up (HX.out.kid hem) h) (by omega))
        have hNX : n + e.v.size = 1 + (((x.l.map AV.v).take (m + 1)).map Val.size).sum := by rw [take_sumF Val.size hev, HN.out]; omega
        have HNX := Lib.hid hNX
        have hlt' : (m : Int) < (x.l.length : Int) := by omega
        have hm0 : (0 : Int) ≤ (m : Int) := by omega
        have hwm : IntKind.i64.wrap ((m : Int) + 1) = ((m + 1 : Nat) : Int) := by rw [IntWalk.i64_in _ (by omega)]; omega
        generalize e.v.size = es at *
        have hwn : IntKind.i64.wrap ((n : Int) + (es : Int)) = ((n + es : Nat) : Int) := by rw [IntWalk.i64_in _ (by omega)]; omega
        rw [hla] at q2
        clear he hem hev hp hes hla hNX HC
        go_wp2_with (go_at_call 25; refine (HCC _ HBW.out).out.mono ?_; rintro e2' w2 ⟨rfl, hb2⟩)
        exact ⟨⟨m + 1, n + es, by omega, HNX.out, by go_num, by go_num, tri_stepF HBR.out hb2 (by simp)⟩, by simp [intOf]; omega⟩
      · obtain rfl : m = x.l.length := by omega
        have hge : ¬ (x.l.length : Int) < (x.l.length : Int) := by omega
        have hnF : n = x.v.size := by rw [HN.out, List.take_of_length_le (by rw [List.length_map]; exact Nat.le_refl _), HSE.out]
        have HNF := Lib.hid hnF
        clear hnF
        go_wp2_with fail
        go_ret
        exact ⟨by rw [HF.out, ← HNF.out]; rfl, HBW.out⟩

theorem seven {w : World} {g : Nat} {v0 v1 v2 v3 v4 v5 v6 : Value} {t : TypeId} (h : w.heap[g]? = some (.cells #[v0, v1, v2, v3, v4, v5, v6] t (0, 0))) :
    w.cell? ⟨g, 0, none⟩ = some v0 ∧ w.cell? ⟨g, 1, none⟩ = some v1 ∧ w.cell? ⟨g, 2, none⟩ = some v2 ∧ w.cell? ⟨g, 3, none⟩ = some v3 ∧ w.cell? ⟨g, 4, none⟩ = some v4 ∧ w.cell? ⟨g, 5, none⟩ = some v5 ∧ w.cell? ⟨g, 6, none⟩ = some v6 := by
  refine ⟨?_, ?_, ?_, ?_, ?_, ?_, ?_⟩ <;> simp [World.cell?, h]
theorem sevenf {w : World} {g : Nat} {c : Array Value} {t : TypeId} (h : w.heap[g]? = some (.cells c t (0, 0))) (o : Nat) : w.frozen? ⟨g, o, none⟩ = false := by simp [World.frozen?, h]
theorem labs0_yes {v : Val} (h : v.may = true) : v.labs0 = v.labs ∧ v.lefts0 = v.lefts := ⟨by rw [Val.labs0, h]; rfl, by rw [Val.lefts0, h]; rfl⟩
set_option maxRecDepth 100000 in
set_option maxHeartbeats 6400000 in
theorem rfar20_c (w : World) (x y : AV) (hx : Rd w x) (hy : Rd w y) (hwx : x.w ≤ 1048576) (hwy : y.w ≤ 1048576) : Calls Try.prog 27 #[x.val, y.val] w (Ret (.int .i64 (farI x.v y.v)) w) := by
  have bN := szV_le x.v
  have bM := szV_le y.v
  have hxw : x.v.w = x.w := rfl
  have hyw : y.v.w = y.w := rfl
  have HRX := Lib.hid (show ∀ W, Below w.heap.size w W → Rd W x from fun W h => hx.up h)
  have HRY := Lib.hid (show ∀ W, Below w.heap.size w W → Rd W y from fun W h => hy.up h)
  obtain ⟨F, hF⟩ : ∃ F, F = farI x.v y.v := ⟨_, rfl⟩
  obtain ⟨N, hN⟩ : ∃ N, N = szV x.v := ⟨_, rfl⟩
  obtain ⟨M, hM⟩ : ∃ M, M = szV y.v := ⟨_, rfl⟩
  have HSX := fun W (h : Below w.heap.size w W) => Lib.hid (show Calls Try.prog 25 #[x.val] W (Ret (.int .i64 (N : Int)) W) by rw [hN]; exact rsizeV_c x W (HRX.out W h) hwx)
  have HSY := fun W (h : Below w.heap.size w W) => Lib.hid (show Calls Try.prog 25 #[y.val] W (Ret (.int .i64 (M : Int)) W) by rw [hM]; exact rsizeV_c y W (HRY.out W h) hwy)
  rw [← hF]
  rw [← hN] at bN
  rw [← hM] at bM
  have HNM := Lib.hid (And.intro hF (And.intro hN hM))
  have hNM : N * M ≤ 1048576 * 1048576 := Nat.mul_le_mul (by omega) (by omega)
  have hNM2 : (N : Int) * (M : Int) = ((N * M : Nat) : Int) := by simp
  have hw1 : IntKind.i64.wrap ((N : Int) * (M : Int)) = (N : Int) * (M : Int) := IntWalk.i64_in _ (by rw [hNM2]; omega)
  clear hx hy hF hN hM
  go_enter Try.func27, Try.ntmps27
  go_upto_region 1 with fail
  go_name_world W1 hW1
  have HX1 := Lib.hid (show W1.heap[w.heap.size]? = some (.cells #[.int .u8 x.k, .string x.t, .slice x.la x.l.length x.lc, .slice x.ka x.ks.length x.kc] 26 (0, 0)) by rw [← hW1]; exact blk_al (heap_alloc_new w _))
  have HY1 := Lib.hid (show W1.heap[w.heap.size + 1]? = some (.cells #[.int .u8 y.k, .string y.t, .slice y.la y.l.length y.lc, .slice y.ka y.ks.length y.kc] 26 (0, 0)) by rw [← hW1]; exact blk_new2 w _ _)
  have HB1 := Lib.hid (show Below w.heap.size w W1 by rw [← hW1]; exact below_al (below_al (Below.refl _ _)))
  obtain ⟨p0, p1, p2, p3⟩ := vb4 HX1.out
  obtain ⟨q0, q1, q2, q3⟩ := vb4 HY1.out
  clear hW1
  go_upto_region 3 with (first
    | (have kq := HB2; go_at_call 25; (with_reducible refine (HSY _ HB2.out).out.mono ?_); rintro e w3 ⟨rfl, h3⟩; have HB3 := Lib.hid (below_via HB2.out h3); have HX3 := Lib.hid (blk_via h3 HX2.out); have HY3 := Lib.hid (blk_via h3 HY2.out); clear h3)
    | (go_at_call 25; (with_reducible refine (HSX _ HB1.out).out.mono ?_); rintro e w2 ⟨rfl, h2⟩; have HB2 := Lib.hid (below_via HB1.out h2); have HX2 := Lib.hid (blk_via h2 HX1.out); have HY2 := Lib.hid (blk_via h2 HY1.out); clear p0 p1 p2 p3 q0 q1 q2 q3; obtain ⟨q0, q1, q2, q3⟩ := vb4 HY2.out; clear h2))
  clear q0 q1 q2 q3
  by_cases n0 : N = 0
  · have n0' : ((N : Int) == 0) = true := by simp [n0]
    have hF : F = -1 := by rw [HNM.out.1]; exact farI_no (.inl (by rw [← HNM.out.2.1]; exact n0))
    subst hF
    clear n0
    go_wp2_with fail
    go_ret
    exact ⟨rfl, HB3.out⟩
  have n0' : ((N : Int) == 0) = false := by simp [n0]
  by_cases m0 : M = 0
  · have m0' : ((M : Int) == 0) = true := by simp [m0]
    have hF : F = -1 := by rw [HNM.out.1]; exact farI_no (.inr (.inl (by rw [← HNM.out.2.2]; exact m0)))
    subst hF
    clear n0 m0
    go_wp2_with fail
    go_ret
    exact ⟨rfl, HB3.out⟩
  have m0' : ((M : Int) == 0) = false := by simp [m0]
  by_cases n4 : 4096 < N
  · have n4' : (4096 : Int) < (N : Int) := by omega
    have hF : F = -1 := by rw [HNM.out.1]; exact farI_no (.inr (.inr (.inl (by rw [← HNM.out.2.1]; exact n4))))
    subst hF
    clear n0 m0 n4
    go_wp2_with fail
    go_ret
    exact ⟨rfl, HB3.out⟩
  have n4' : ¬ (4096 : Int) < (N : Int) := by omega
  by_cases p4 : 4096 < N * M
  · have p4' : (4096 : Int) < (N : Int) * (M : Int) := by rw [hNM2]; omega
    have hF : F = -1 := by rw [HNM.out.1]; exact farI_no (.inr (.inr (.inr (by rw [← HNM.out.2.1, ← HNM.out.2.2]; exact p4))))
    subst hF
    clear n0 m0 n4 p4 hNM2
    go_wp2_with fail
    go_ret
    exact ⟨rfl, HB3.out⟩
  have p4' : ¬ (4096 : Int) < (N : Int) * (M : Int) := by rw [hNM2]; omega
  have hF : F = (farV x.v y.v : Nat) := by rw [HNM.out.1]; exact farI_yes (by rw [← HNM.out.2.1]; exact n0) (by rw [← HNM.out.2.2]; exact m0) (by rw [← HNM.out.2.1]; exact n4) (by rw [← HNM.out.2.1, ← HNM.out.2.2]; exact p4)
  obtain ⟨mx, ex⟩ := szV_may (a := x.v) (by rw [← HNM.out.2.1]; exact n0)
  obtain ⟨my, ey⟩ := szV_may (a := y.v) (by rw [← HNM.out.2.2]; exact m0)
  have hm4 : M ≤ 4096 := by
    have : M ≤ N * M := Nat.le_mul_of_pos_left _ (by omega)
    omega
  have elx : x.v.labs.length = N := by rw [labs_size mx, ← ex, ← HNM.out.2.1]
  have ely : y.v.labs.length = M := by rw [labs_size my, ← ey, ← HNM.out.2.2]
  have efx : x.v.lefts.length = N := by rw [lefts_labs]; exact elx
  have efy : y.v.lefts.length = M := by rw [lefts_labs]; exact ely
  have hOX := fun W (h : Below w.heap.size w W) => rof_u W x (HRX.out W h) hwx
  have hOY := fun W (h : Below w.heap.size w W) => rof_u W y (HRY.out W h) hwy
  unfold ROfU at hOX hOY
  rw [(labs0_yes mx).1, (labs0_yes mx).2] at hOX
  rw [(labs0_yes my).1, (labs0_yes my).2] at hOY
  have HOX := Lib.hid hOX
  have HOY := Lib.hid hOY
  have HM2 := Lib.hid (And.intro mx my)
  have HLN := Lib.hid (And.intro elx (And.intro ely (And.intro efx efy)))
  have HF := Lib.hid hF
  have hw2 : IntKind.i64.wrap ((N : Int) - 1) = (N : Int) - 1 := IntWalk.i64_in _ (by omega)
  have hw3 : IntKind.i64.wrap ((M : Int) - 1) = (M : Int) - 1 := IntWalk.i64_in _ (by omega)
  have HN4 := Lib.hid (show N ≤ 4096 ∧ M ≤ 4096 by omega)
  clear mx my ex ey hm4 elx ely efx efy hOX hOY hF n0 m0 n4 p4 hNM2
  have hmm := @run_makeMap Try.prog
  go_upto_region 6 with fail
  go_name_world W5 hW5
  obtain ⟨G, hG⟩ : ∃ G, G = w3.heap.size + 1 := ⟨_, rfl⟩
  obtain ⟨MB, hMB⟩ : ∃ MB, MB = w3.heap.size := ⟨_, rfl⟩
  have hM5 : W5.heap[MB]? = some (.map #[] 0) := by rw [← hW5, hMB]; exact blk_al (heap_alloc_new w3 _)
  have hG5 : W5.heap[G]? = some (.cells #[.slice none 0 0, .slice none 0 0, .slice none 0 0, .slice none 0 0, .slice none 0 0, .slice none 0 0, .map (some MB)] 91 (0, 0)) := by rw [← hW5, hG, hMB]; exact blk_new2 w3 _ _
  have hb5 : Below w3.heap.size w3 W5 := by rw [← hW5]; exact below_al (below_al (Below.refl _ _))
  have hsz5 : W5.heap.size = G + 1 := by rw [← hW5, hG]; simp
  have HGM := Lib.hid (show G = MB + 1 by omega)
  have HMW := Lib.hid hMB
  rw [← hG, ← hMB]
  have HX5 := Lib.hid (blk_via hb5 HX3.out)
  have HY5 := Lib.hid (blk_via hb5 HY3.out)
  have HB5 := Lib.hid (below_via HB3.out hb5)
  have HD5 := Lib.hid hb5
  have HM5 := Lib.hid hM5
  have HG5 := Lib.hid hG5
  have HZ5 := Lib.hid hsz5
  obtain ⟨p0, p1, p2, p3⟩ := vb4 HX5.out
  have hw50 : w.heap.size ≠ G := by have := (Array.getElem?_eq_some_iff.1 HX3.out).1; omega
  have hw51 : w.heap.size + 1 ≠ G := by have := (Array.getElem?_eq_some_iff.1 HY3.out).1; omega
  have HNEQ := Lib.hid (And.intro hw50 hw51)
  clear hW5 hG hMB hM5 hG5 hb5 hsz5 hmm hw50 hw51 n0' m0' n4' p4' hw1 HSX HSY
  go_upto_region 7 with (go_at_call 16; refine (HOX.out _ HB5.out).mono ?_; rintro e w6 ⟨al, cl, af, cf, ar, cr, rfl, o6, h6⟩; obtain ⟨s0, s1, s2, s3, s4, s5, s6⟩ := seven (blk_via h6 HG5.out); have f0 := sevenf (blk_via h6 HG5.out) 0; have f1 := sevenf (blk_via h6 HG5.out) 1; have f2 := sevenf (blk_via h6 HG5.out) 2)
  go_name_world W6 hW6
  have hG6 : W6.heap[G]? = some (.cells #[.slice al x.v.labs.length cl, .slice af x.v.labs.length cf, .slice ar (rootsL x.v.lefts).length cr, .slice none 0 0, .slice none 0 0, .slice none 0 0, .map (some MB)] 91 (0, 0)) := by
    rw [← hW6]
    exact Go.Joins.block_setCell (Go.Joins.block_setCell (Go.Joins.block_setCell (blk_via h6 HG5.out) (i := 0) _) (i := 1) _) (i := 2) _
  have hne6 : ∀ k, k ≠ G → W6.heap[k]? = w6.heap[k]? := fun k hk => by
    rw [← hW6, Below.heap_setCell _ _ _ k hk, Below.heap_setCell _ _ _ k hk, Below.heap_setCell _ _ _ k hk]
  have hM6 : W6.heap[MB]? = some (.map #[] 0) := by rw [hne6 MB (by have := HGM.out; omega)]; exact blk_via h6 HM5.out
  have hb6 : Below w3.heap.size w3 W6 := by
    have hg : w3.heap.size ≤ G := by have := HGM.out; have := HMW.out; omega
    rw [← hW6]
    exact (((HD5.out.trans (h6.mono HD5.out.size)).setCell (p := ⟨G, 0, none⟩) hg _).setCell (p := ⟨G, 1, none⟩) hg _).setCell (p := ⟨G, 2, none⟩) hg _
  have hs6 : W6.heap.size = w6.heap.size := by rw [← hW6]; simp
  have o6' := o6.kept (w' := W6) (by omega) (fun q hq _ => hne6 q (by have := HZ5.out; omega))
  have HZ6 := Lib.hid (show G < W6.heap.size from (Array.getElem?_eq_some_iff.1 hG6).1)
  have HO6 := Lib.hid o6'
  have HY6 := Lib.hid (blk_via hb6 HY3.out)
  have HB6 := Lib.hid (below_via HB3.out hb6)
  have HD6 := Lib.hid hb6
  have HM6 := Lib.hid hM6
  have HG6 := Lib.hid hG6
  clear hW6 hG6 hne6 hM6 hb6 hs6 o6 o6' h6 s0 s1 s2 s3 s4 s5 s6 f0 f1 f2 p0 p1 p2 p3
  obtain ⟨q0, q1, q2, q3⟩ := vb4 HY6.out
  go_upto_region 8 with (go_at_call 16; refine (HOY.out _ HB6.out).mono ?_; rintro e w7 ⟨bl, dl, bf, df, br, dr, rfl, o7, h7⟩; obtain ⟨s0, s1, s2, s3, s4, s5, s6⟩ := seven (blk_via h7 HG6.out); have f3 := sevenf (blk_via h7 HG6.out) 3; have f4 := sevenf (blk_via h7 HG6.out) 4; have f5 := sevenf (blk_via h7 HG6.out) 5)
  go_name_world W7 hW7
  have hG7 : W7.heap[G]? = some (.cells #[.slice al x.v.labs.length cl, .slice af x.v.labs.length cf, .slice ar (rootsL x.v.lefts).length cr, .slice bl y.v.labs.length dl, .slice bf y.v.labs.length df, .slice br (rootsL y.v.lefts).length dr, .map (some MB)] 91 (0, 0)) := by
    rw [← hW7]
    exact Go.Joins.block_setCell (Go.Joins.block_setCell (Go.Joins.block_setCell (blk_via h7 HG6.out) (i := 3) _) (i := 4) _) (i := 5) _
  have hne7 : ∀ k, k ≠ G → W7.heap[k]? = w7.heap[k]? := fun k hk => by
    rw [← hW7, Below.heap_setCell _ _ _ k hk, Below.heap_setCell _ _ _ k hk, Below.heap_setCell _ _ _ k hk]
  have hM7 : W7.heap[MB]? = some (.map #[] 0) := by rw [hne7 MB (by have := HGM.out; omega)]; exact blk_via h7 HM6.out
  have hb7 : Below w3.heap.size w3 W7 := by
    have hg : w3.heap.size ≤ G := by have := HGM.out; have := HMW.out; omega
    rw [← hW7]
    exact (((HD6.out.trans (h7.mono HD6.out.size)).setCell (p := ⟨G, 3, none⟩) hg _).setCell (p := ⟨G, 4, none⟩) hg _).setCell (p := ⟨G, 5, none⟩) hg _
  have hs7 : W7.heap.size = w7.heap.size := by rw [← hW7]; simp
  have h67 := h7.size
  have oy := o7.kept (w' := W7) (by omega) (fun q hq _ => hne7 q (by have := HZ6.out; omega))
  have ox := HO6.out.kept (w' := W7) (by omega) (fun q hq hq2 => (hne7 q (by have := HZ5.out; omega)).trans (h7.block q hq2))
  obtain ⟨mx, my⟩ := HM2.out
  obtain ⟨elx, ely, efx, efy⟩ := HLN.out
  have hP : PairAt (twoV x.v y.v mx my) G MB al af ar bl bf br cl cf (rootsL x.v.lefts).length cr dl df (rootsL y.v.lefts).length dr x.v.labs y.v.labs x.v.lefts y.v.lefts W7 := by
    have hg := HGM.out
    have hz5 := HZ5.out
    have hz6 := HZ6.out
    have hn4 := HN4.out
    refine ⟨by rw [efx, efy, ← elx, ← ely]; exact hG7, by omega, ox.l.widen (by omega) (Nat.le_refl _), ox.f.widen (by omega) (Nat.le_refl _), oy.l.widen (by omega) (Nat.le_refl _), oy.f.widen (by omega) (Nat.le_refl _), ⟨rfl, by show x.v.labs.length = _; omega, by show x.v.labs.length ≤ _; omega⟩, ⟨rfl, by show y.v.labs.length = _; omega, by show y.v.labs.length ≤ _; omega⟩, fun i hi => ⟨lab_get hi, num_get (by rw [lefts_labs]; exact hi)⟩, fun i hi => ⟨lab_get hi, num_get (by rw [lefts_labs]; exact hi)⟩⟩
  have hme : Memo (twoV x.v y.v mx my) MB W7 := ⟨#[], 0, hM7, ⟨by simp, Go.MapKept.stamped_empty 0, by simp⟩, by simp⟩
  have hok : OkR (twoV x.v y.v mx my) 0 N 0 M := ⟨Nat.zero_le _, by show N ≤ x.v.labs.length; omega, Nat.zero_le _, by show M ≤ y.v.labs.length; omega, fun u _ _ => Nat.zero_le _, fun u _ _ => Nat.zero_le _⟩
  have hcall := rfar_c hP ((N - 0) + (M - 0)) 0 N 0 M (Nat.le_refl _) hok W7 KpM.refl hme
  have hfar : (twoV x.v y.v mx my).far 0 N 0 M = farV x.v y.v := by rw [← elx, ← ely]; exact twoV_far mx my
  rw [hfar] at hcall
  unfold keyV at hcall
  have HC := Lib.hid hcall
  have HB7 := Lib.hid hb7
  have HMS := Lib.hid (show MB ≤ W7.heap.size by have := hb7.size; have := HMW.out; omega)
  clear hW7 hG7 hne7 hM7 hb7 hs7 h67 oy ox elx ely efx efy hP hme hok hcall hfar o7 h7 s0 s1 s2 s3 s4 s5 s6 f3 f4 f5 q0 q1 q2 q3
  go_wp2_with (go_at_call 55; refine HC.out.mono ?_; rintro e w8 ⟨rfl, h8, -⟩)
  go_ret
  exact ⟨by rw [HF.out]; rfl, below_via HB3.out (HB7.out.trans (HMW.out ▸ h8.below HMS.out))⟩
end Go.Proofs.Ytmhkacafilpliaa
