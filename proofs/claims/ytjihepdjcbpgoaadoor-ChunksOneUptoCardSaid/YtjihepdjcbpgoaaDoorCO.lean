/-
  inarchlaw23.ChunksOne answers true. Conditions: the lists lie in memory, lengths and weights are bounded; strconv's table of powers holds what its initialiser lays.
-/
import Derived.Test.YtjihepdjcbpgoaaDoorCE
namespace Go.Proofs.YtjihepdjcbpgoaaDoor
open Go.RowKit Go.Sort

theorem one_diag {x : LA} (hm : allMay x.v = true) {P : List (Nat × Nat)} (hP : Early (labs 0 x.v) (labs 1 x.v) 0 0 P) : P = diag x.l.length := by
  have h := early_fine hm hP
  rwa [show x.v.length = x.l.length from List.length_map _] at h
theorem one_eq (n m : Nat) (Q : List (Nat × Nat)) : ∀ c ∈ chunksL (anc (diag n) Q) n ⟨n, n, m⟩, c.f.b = c.f.l ∧ c.t.b = c.t.l := chunks_eq (fun i a h => by
  obtain ⟨h1, h2, -⟩ := anc_some.1 h
  rw [part_diag] at h2
  split at h2
  · injection h2 with h2; omega
  · cases h2) n rfl
theorem ck_at {w : World} {lo hi : Nat} {a : Option Addr} {C : List Ck} (h : SlE Ck.enc 7 w lo hi a C) {k : Nat} {c : Ck} (hk : C[k]? = some c) :
    ∃ b off, a = some ⟨b, off, none⟩ ∧ lo ≤ b ∧ b < w.heap.size ∧ ∀ j u, c.enc[j]? = some u → w.cell? ⟨b, off + k * 7 + j, none⟩ = some u := by
  have hl : k < C.length := (List.getElem?_eq_some_iff.1 hk).1
  obtain ⟨b, off, e, g1, g2, g3, g4⟩ := h (by omega)
  exact ⟨b, off, e, g1, g3, fun j u hu => g4 k c hk j u hu⟩
theorem neq_span (w : World) (p q : Nat) : (binOp .neq 47 (.agg #[.int .i64 p, .int .i64 q]) (.agg #[.int .i64 p, .int .i64 q])).run Tryd.prog w = .ok (.bool false) w := by
  rw [run_neq_struct]
  simp [go_sem]
theorem one_all {n : Nat} (h : 0 < n) : chunksL (anc (diag n) (diag n)) n ⟨n, n, n⟩ = [⟨true, T3.zero, ⟨n, n, n⟩⟩] := by rw [chunks_all, if_neg (by omega)]
theorem one_own {w : World} {base cap n : Nat} {a : Option Addr} (h : OwnCk w base (.slice a 1 cap) [⟨true, T3.zero, ⟨n, n, n⟩⟩]) : ∃ g, a = some ⟨g, 0, none⟩ ∧ g < w.heap.size ∧ ∀ W : World, W.heap[g]? = w.heap[g]? → W.cell? ⟨g, 0, none⟩ = some (.bool true) ∧ W.cell? ⟨g, 1, none⟩ = some (.int .i64 0) ∧ W.cell? ⟨g, 2, none⟩ = some (.int .i64 n) ∧ W.cell? ⟨g, 3, none⟩ = some (.int .i64 0) ∧ W.cell? ⟨g, 4, none⟩ = some (.int .i64 n) ∧ W.cell? ⟨g, 5, none⟩ = some (.int .i64 0) ∧ W.cell? ⟨g, 6, none⟩ = some (.int .i64 n) := by
  obtain ⟨g, cap', hv, h1, h2⟩ := h.form (by simp)
  cases hv
  refine ⟨g, rfl, h2, fun W hW => ?_⟩
  have q := fun (j : Nat) (hj : j < 7) => (World.cell?_of_block (a := ⟨g, j, none⟩) hW).trans (World.ownsRow.cellAt h j hj)
  exact ⟨q 0 (by omega), q 1 (by omega), q 2 (by omega), q 3 (by omega), q 4 (by omega), q 5 (by omega), q 6 (by omega)⟩
set_option maxRecDepth 100000 in
set_option maxHeartbeats 3200000 in
theorem one (w : World) (x z : LA) (hx : x.Rd w) (hz : z.Rd w) (hP : Pow w) :
    Calls Tryd.prog 6 #[.slice x.a x.l.length x.c, .slice z.a z.l.length z.c] w (Ret (.bool true) w) := by
  have hxl := hx.len
  have HLV := fun W (h : Below w.heap.size w W) => Lib.hid (lives23_c W (hP.below h))
  have HO1 := fun W (h : Below w.heap.size w W) => Lib.hid (of_c W x x z (hx.up h) (hx.up h) (hz.up h) (hP.below h))
  have HO2 := fun W (h : Below w.heap.size w W) => Lib.hid (of_c W x x x (hx.up h) (hx.up h) (hx.up h) (hP.below h))
  have HM := fun (y : AV) (hy : y ∈ x.l) W (h : Below w.heap.size w W) => Lib.hid (may_c W y ((hx.kids y hy).1.up h) (hx.kids y hy).2)
  have hba := (Below.refl w.heap.size w).alloc (Nat.le_refl _) (.cells #[.slice x.a x.l.length x.c, .slice z.a z.l.length z.c] 22)
  have HG := Lib.hid (show Calls Tryd.prog 21 #[.slice (some ⟨w.heap.size, 0, none⟩) 2 2] _ (RetB _) from
    great23_c (w.alloc (.cells #[.slice x.a x.l.length x.c, .slice z.a z.l.length z.c] 22)) (some ⟨w.heap.size, 0, none⟩) 2 [x, z] ((lit_sl (enc := LA.enc) (size := 1) (l := [x, z]) (t := 22) (fr := (0, 0)) (fun _ => rfl) (heap_alloc_new w _)).widen (Nat.zero_le _) (by simp)) (fun v hv => by
      simp only [List.mem_cons, List.not_mem_nil, or_false] at hv
      rcases hv with rfl | rfl
      · exact hx.up hba
      · exact hz.up hba) (by simp))
  have HX := Lib.hid hx
  have HBA := Lib.hid hba
  clear hx hz hP hba
  go_enter Tryd.func6, Tryd.ntmps6
  go_upto_if 13 with (
    go_at_call 21
    refine HG.out.mono ?_
    rintro e w1 ⟨r, rfl, hb1⟩
    have HB1 := Lib.hid (below_via HBA.out hb1)
    clear hb1
    cases r)
  · go_wp2_with fail
    go_loopw [4, 5] (fun _ s5 wr => ∃ k : Nat, k ≤ x.l.length ∧ s5 = .int .i64 k ∧ (∀ y ∈ x.l.take k, y.v.may = true) ∧ Below w.heap.size w wr) (fun _ s5 _ => x.l.length - (intOf s5).toNat)
    case atStart => exact ⟨0, Nat.zero_le _, by go_num, by simp, HB1.out⟩
    case round =>
      obtain ⟨k, hk, rfl, hall, hb⟩ := hrel
      have HB := Lib.hid hb
      have HALL := Lib.hid hall
      by_cases hkl : k < x.l.length
      · have hkl' : (k : Int) < (x.l.length : Int) := by omega
        have hk2 : x.l[k]? = some x.l[k] := List.getElem?_eq_getElem hkl
        have hmem : x.l[k] ∈ x.l := List.getElem_mem hkl
        generalize x.l[k] = y at hk2 hmem
        obtain ⟨b2, off2, hla2, -, -, hc2, g0, g1, g2, g3⟩ := vals_at HX.out.sl hk2
        rw [← hb.cell (p := ⟨_, _, none⟩) hc2] at g0 g1 g2 g3
        have hbb2 : b2 < wr.heap.size := Nat.lt_of_lt_of_le hc2 hb.size
        have HMY := HM y hmem
        have HLA := Lib.hid hla2
        have HK := Lib.hid hk2
        have hk0 : (0 : Int) ≤ (k : Int) := by omega
        have hwk : IntKind.i64.wrap ((k : Int) + 1) = ((k + 1 : Nat) : Int) := by rw [IntWalk.i64_in _ (by omega)]; omega
        clear hb hk2 hmem hla2 hall HM
        rw [HLA.out]
        cases hy : y.v.may with
        | true =>
          rw [hy] at HMY
          have HY := Lib.hid hy
          clear hy
          go_wp2_with (go_at_call 19; refine (HMY _ HB.out).out.mono ?_; rintro e w1 ⟨rfl, hb1⟩)
          refine ⟨⟨k + 1, by omega, by go_num, fun u hu => ?_, below_via HB.out hb1⟩, by simp [intOf]; omega⟩
          rw [List.take_add_one, HK.out] at hu
          rcases List.mem_append.1 hu with hu | hu
          · exact HALL.out u hu
          · simp at hu; subst hu; exact HY.out
        | false =>
          rw [hy] at HMY
          clear hy
          go_wp2_with (first
            | (go_at_call 19; refine (HMY _ HB.out).out.mono ?_; rintro e w1 ⟨rfl, hb1⟩
               have HB2 := Lib.hid (below_via HB.out hb1))
            | (go_at_call 22; refine (HLV _ HB2.out).out.mono ?_; rintro e w5 ⟨rfl, hb5⟩))
          go_ret
          exact ⟨rfl, below_via HB2.out hb5⟩
      · obtain rfl : k = x.l.length := by omega
        have hge : ¬ (x.l.length : Int) < (x.l.length : Int) := by omega
        have HAM := Lib.hid (show allMay x.v = true by
          rw [List.take_length] at hall
          rw [allMay, List.all_eq_true]
          intro v hv
          obtain ⟨y, hy, rfl⟩ := List.mem_map.1 hv
          exact hall y hy)
        clear hall hb HM HALL
        go_wp2_with (
          go_at_call 23
          refine (HO1 _ HB.out).out.mono ?_
          rintro e w2 ⟨P, Q, C, a, cap, heP, heQ, hC, hCl, rfl, hown, hb2⟩
          have HCE := Lib.hid (show ∀ c ∈ C, c.f.b = c.f.l ∧ c.t.b = c.t.l by rw [hC, one_diag HAM.out heP]; exact one_eq _ _ _)
          have HSL := Lib.hid (own_sl Ck.enc_len hown)
          have HB2 := Lib.hid (below_via HB.out hb2)
          clear heP heQ hC hown hb2)
        go_loopw [4, 7] (fun _ s7 wr => ∃ k : Nat, k ≤ C.length ∧ s7 = .int .i64 k ∧ Below w2.heap.size w2 wr) (fun _ s7 _ => C.length - (intOf s7).toNat)
        case atStart => exact ⟨0, Nat.zero_le _, by go_num, Below.refl _ _⟩
        case round =>
          obtain ⟨k, hk, rfl, hb⟩ := hrel
          have HB3 := Lib.hid hb
          have hwk : IntKind.i64.wrap ((k : Int) + 1) = ((k + 1 : Nat) : Int) := by rw [IntWalk.i64_in _ (by omega)]; omega
          by_cases hkl : k < C.length
          · have hkl' : (k : Int) < (C.length : Int) := by omega
            have hk0 : (0 : Int) ≤ (k : Int) := by omega
            have hk2 : C[k]? = some C[k] := List.getElem?_eq_getElem hkl
            obtain ⟨e1, e2⟩ := HCE.out C[k] (List.getElem_mem hkl)
            generalize C[k] = c at hk2 e1 e2
            obtain ⟨g, off, hla, -, hg, hcel⟩ := ck_at HSL.out hk2
            have d1 := (hb.cell (p := ⟨g, off + k * 7 + 1, none⟩) hg).trans (hcel 1 _ rfl)
            have d2 := (hb.cell (p := ⟨g, off + k * 7 + 2, none⟩) hg).trans (hcel 2 _ rfl)
            have d3 := (hb.cell (p := ⟨g, off + k * 7 + 3, none⟩) hg).trans (hcel 3 _ rfl)
            have d4 := (hb.cell (p := ⟨g, off + k * 7 + 4, none⟩) hg).trans (hcel 4 _ rfl)
            rw [← e1] at d3
            rw [← e2] at d4
            have hgr : g < wr.heap.size := Nat.lt_of_lt_of_le hg hb.size
            have hneq := fun W => neq_span W c.f.b c.t.b
            clear hb hk2 hcel e1 e2
            subst hla
            go_upto_region 12 with fail
            go_region
            go_wp2_with fail
            exact ⟨⟨k + 1, by omega, by go_num, HB3.out.drew⟩, by simp [intOf]; omega⟩
          · obtain rfl : k = C.length := by omega
            have hge2 : ¬ (C.length : Int) < (C.length : Int) := by omega
            have HB4 := Lib.hid (below_via HB2.out HB3.out)
            clear hb
            rcases Nat.eq_zero_or_pos x.l.length with h0 | h0
            · have hz0 : ((x.l.length : Int) == 0) = true := by rw [h0]; rfl
              have HZ := Lib.hid h0
              clear h0
              go_wp2_with (first
                | (go_at_call 23; refine (HO2 _ HB4.out).out.mono ?_; rintro e w6 ⟨P2, Q2, D, a2, cap2, heP2, heQ2, hD, -, rfl, hown2, hb6⟩
                   have hDe : D = [] := by rw [hD, one_diag HAM.out heP2, one_diag HAM.out heQ2, chunks_all, if_pos HZ.out]
                   subst hDe
                   have HB6 := Lib.hid (below_via HB4.out hb6)
                   clear heP2 heQ2 hD hown2 hb6)
                | (go_at_call 22; refine (HLV _ HB6.out).out.mono ?_; rintro e w5 ⟨rfl, hb5⟩))
              go_ret
              exact ⟨rfl, below_via HB6.out hb5⟩
            · have hz0 : ((x.l.length : Int) == 0) = false := beq_false_of_ne (by omega)
              have HZ := Lib.hid h0
              clear h0
              go_upto_region 18 with (first
                | (go_at_call 23; refine (HO2 _ HB4.out).out.mono ?_; rintro e w6 ⟨P2, Q2, D, a2, cap2, heP2, heQ2, hD, -, rfl, hown2, hb6⟩
                   have hDe := hD
                   rw [one_diag HAM.out heP2, one_diag HAM.out heQ2, one_all HZ.out] at hDe
                   subst hDe
                   obtain ⟨g, rfl, hg, hcel⟩ := one_own hown2
                   rw [show [Ck.mk true T3.zero ⟨x.l.length, x.l.length, x.l.length⟩].length = 1 from rfl]
                   have HB6 := Lib.hid (below_via HB4.out hb6)
                   have HCEL := Lib.hid hcel
                   clear heP2 heQ2 hD hown2 hb6 hcel)
                | (go_at_call 24; refine (span_c _ _ _).mono ?_; rintro e w7 ⟨rfl, hb7⟩))
              have hba8 := (Below.refl w7.heap.size w7).alloc (Nat.le_refl _) (.cells #[.int .i64 0, .int .i64 (x.l.length : Int)] 47)
              have e8 : (w7.alloc (.cells #[.int .i64 0, .int .i64 (x.l.length : Int)] 47)).heap[w7.heap.size]? = some (.cells #[.int .i64 0, .int .i64 (x.l.length : Int)] 47 (0, 0)) := heap_alloc_new w7 _
              have hb8 := below_via hb7 hba8
              obtain ⟨W8, hW8⟩ : ∃ W8, W8 = w7.alloc (.cells #[.int .i64 0, .int .i64 (x.l.length : Int)] 47) := ⟨_, rfl⟩
              rw [← hW8] at hba8 e8 hb8 ⊢
              have hl8 := lt_of_block e8
              have hg8 : g < W8.heap.size := Nat.lt_of_lt_of_le hg hb8.size
              obtain ⟨s0, s1⟩ := pbox e8
              have heq : ∀ W : World, (Op.equalIn 10000 49 (.agg #[.bool true, .int .i64 0, .int .i64 (x.l.length : Int), .int .i64 0, .int .i64 (x.l.length : Int), .int .i64 0, .int .i64 (x.l.length : Int)]) (.agg #[.bool true, .int .i64 0, .int .i64 (x.l.length : Int), .int .i64 0, .int .i64 (x.l.length : Int), .int .i64 0, .int .i64 (x.l.length : Int)])).run Tryd.prog W = .ok true W := fun W => (eqi_ck W ⟨true, T3.zero, ⟨x.l.length, x.l.length, x.l.length⟩⟩ ⟨true, T3.zero, ⟨x.l.length, x.l.length, x.l.length⟩⟩).trans (by rw [decide_eq_true rfl])
              have LD := Lib.hid (fun W (h : Below W8.heap.size W8 W) => And.intro (HCEL.out W ((h.block g hg8).trans (hb8.block g hg))) (And.intro ((h.cell (p := ⟨w7.heap.size, 0, none⟩) hl8).trans s0) (And.intro ((h.cell (p := ⟨w7.heap.size, 1, none⟩) hl8).trans s1) (heq W))))
              have HB8 := Lib.hid (below_via HB6.out hb8)
              have HLZ := fun W (h : Below W8.heap.size W8 W) => HLV W (below_via HB8.out h)
              clear hW8 hba8 e8 hb8 s0 s1 heq HCEL hb7
              refine wp_region_bl (by kernel_rfl) (by kernel_rfl) ?_
              repeat (first | go_big_quiet_skip | (go_big_quiet_want; go_big_quiet_op; first | go_big_quiet_on | (refine ⟨_, fun _ _ => (by with_reducible rfl), ?_⟩; go_big_quiet_on) | (apply Exists.intro; refine ⟨fun w' hC => (by simp only [LD.out w' hC, Result.andThen]; exact ⟨trivial, rfl⟩), ?_⟩; go_big_quiet_on) | (apply Exists.intro; refine ⟨fun w' hC => (by (with_reducible refine (HLZ w' hC).out.mono ?_); exact fun e w2 ⟨he, hb⟩ => ⟨he, hC.trans (hb.mono hC.size)⟩), ?_⟩; go_big_quiet_on)))
              refine wpQuiet_nil ?_; intro wz hbz
              go_wp2_with fail
              go_ret
              exact ⟨rfl, below_via HB8.out hbz⟩
  · go_wp2_with (go_at_call 22; refine (HLV _ HB1.out).out.mono ?_; rintro e w5 ⟨rfl, hb5⟩)
    go_ret
    exact ⟨rfl, below_via HB1.out hb5⟩
end Go.Proofs.YtjihepdjcbpgoaaDoor
