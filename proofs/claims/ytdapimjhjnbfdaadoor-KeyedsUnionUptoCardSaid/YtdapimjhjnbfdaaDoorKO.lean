/-
  inarchlaw28.KeyedsUnion answers true. Conditions: the lists lie in memory, lengths and weights are bounded; the table of short escapes holds what its initialiser lays.
-/
import Derived.Test.YtdapimjhjnbfdaaDoorKL
import Derived.Test.YtdapimjhjnbfdaaDoorKN
namespace Go.Proofs.YtdapimjhjnbfdaaDoor
open Go.RowKit Go.Sort

theorem three_cell {w : World} {b : Nat} {v0 v1 v2 : Value} {t : TypeId} (h : w.heap[b]? = some (.cells #[v0, v1, v2] t (0, 0))) : w.cell? ⟨b, 0, none⟩ = some v0 ∧ w.cell? ⟨b, 1, none⟩ = some v1 ∧ w.cell? ⟨b, 2, none⟩ = some v2 := by
  refine ⟨?_, ?_, ?_⟩ <;> simp [World.cell?, h]
theorem five_cell {w : World} {b : Nat} {v0 v1 v2 v3 v4 : Value} {t : TypeId} (h : w.heap[b]? = some (.cells #[v0, v1, v2, v3, v4] t (0, 0))) : w.cell? ⟨b, 0, none⟩ = some v0 ∧ w.cell? ⟨b, 1, none⟩ = some v1 ∧ w.cell? ⟨b, 2, none⟩ = some v2 ∧ w.cell? ⟨b, 3, none⟩ = some v3 ∧ w.cell? ⟨b, 4, none⟩ = some v4 := by
  refine ⟨?_, ?_, ?_, ?_, ?_⟩ <;> simp [World.cell?, h]

set_option maxRecDepth 100000 in
set_option maxHeartbeats 12800000 in
theorem kunion (w : World) (x y z : LA) (hx : x.Rd w) (hy : y.Rd w) (hz : z.Rd w) (at_ : Bool) (sh pr u : Int) (f : ByteArray) (hu : 0 ≤ u ∧ u ≤ 255) (hf : f.size ≤ 1048576) (hS : Shorts w) :
    Calls Tryd.prog 7 #[.agg #[.slice x.a x.l.length x.c, .slice y.a y.l.length y.c, .slice z.a z.l.length z.c], .agg #[.bool at_, .int .u8 sh, .string f, .int .u8 pr, .int .u8 u]] w (Ret (.bool true) w) := by
  have HL := fun W (h : Below w.heap.size w W) => Lib.hid (lives28_c W (hS.below h))
  have HG := fun W (B : Nat) (h : Below w.heap.size w W) (hb : W.heap[B]? = some (.cells #[.slice x.a x.l.length x.c, .slice y.a y.l.length y.c, .slice z.a z.l.length z.c] 38 (0, 0))) (hB : B < W.heap.size) => Lib.hid (show Calls Tryd.prog 35 #[.slice (some ⟨B, 0, none⟩) 3 3] W (RetB W) from
    great23_c W (some ⟨B, 0, none⟩) 3 [x, y, z] ((lit_sl (enc := LA.enc) (size := 1) (l := [x, y, z]) (t := 38) (fr := (0, 0)) (fun _ => rfl) hb).widen (Nat.zero_le _) (by omega)) (fun v hv => by
      simp only [List.mem_cons, List.not_mem_nil, or_false] at hv
      rcases hv with rfl | rfl | rfl
      · exact hx.up h
      · exact hy.up h
      · exact hz.up h) (by simp))
  have HPL := fun W (h : Below w.heap.size w W) => Lib.hid (plan_c W x y z (hx.up h) (hy.up h) (hz.up h) at_ sh pr u f (hS.below h))
  have hA : Below w.heap.size w (((w.alloc (.cells #[.slice x.a x.l.length x.c, .slice y.a y.l.length y.c, .slice z.a z.l.length z.c] 53)).alloc (.cells #[.bool at_, .int .u8 sh, .string f, .int .u8 pr, .int .u8 u] 57)).alloc (.cells #[.slice x.a x.l.length x.c, .slice y.a y.l.length y.c, .slice z.a z.l.length z.c] 38)) := (((Below.refl _ _).alloc (Nat.le_refl _) _).alloc (by simp) _).alloc (by simp; omega) _
  have hk1 : (((w.alloc (.cells #[.slice x.a x.l.length x.c, .slice y.a y.l.length y.c, .slice z.a z.l.length z.c] 53)).alloc (.cells #[.bool at_, .int .u8 sh, .string f, .int .u8 pr, .int .u8 u] 57)).alloc (.cells #[.slice x.a x.l.length x.c, .slice y.a y.l.length y.c, .slice z.a z.l.length z.c] 38)).heap[w.heap.size]? = some (.cells #[.slice x.a x.l.length x.c, .slice y.a y.l.length y.c, .slice z.a z.l.length z.c] 53 (0, 0)) := (heap_alloc_old _ _ _ (by simp; omega)).trans ((heap_alloc_old _ _ _ (by simp)).trans (heap_alloc_new w _))
  have hk2 : (((w.alloc (.cells #[.slice x.a x.l.length x.c, .slice y.a y.l.length y.c, .slice z.a z.l.length z.c] 53)).alloc (.cells #[.bool at_, .int .u8 sh, .string f, .int .u8 pr, .int .u8 u] 57)).alloc (.cells #[.slice x.a x.l.length x.c, .slice y.a y.l.length y.c, .slice z.a z.l.length z.c] 38)).heap[w.heap.size + 1]? = some (.cells #[.bool at_, .int .u8 sh, .string f, .int .u8 pr, .int .u8 u] 57 (0, 0)) := (heap_alloc_old _ _ _ (by simp)).trans (by have := heap_alloc_new (w.alloc (.cells #[.slice x.a x.l.length x.c, .slice y.a y.l.length y.c, .slice z.a z.l.length z.c] 53)) (.cells #[.bool at_, .int .u8 sh, .string f, .int .u8 pr, .int .u8 u] 57); rwa [World.size_alloc] at this)
  have hn : (((w.alloc (.cells #[.slice x.a x.l.length x.c, .slice y.a y.l.length y.c, .slice z.a z.l.length z.c] 53)).alloc (.cells #[.bool at_, .int .u8 sh, .string f, .int .u8 pr, .int .u8 u] 57)).alloc (.cells #[.slice x.a x.l.length x.c, .slice y.a y.l.length y.c, .slice z.a z.l.length z.c] 38)).heap[w.heap.size + 1 + 1]? = some (.cells #[.slice x.a x.l.length x.c, .slice y.a y.l.length y.c, .slice z.a z.l.length z.c] 38 (0, 0)) := by have := heap_alloc_new ((w.alloc (.cells #[.slice x.a x.l.length x.c, .slice y.a y.l.length y.c, .slice z.a z.l.length z.c] 53)).alloc (.cells #[.bool at_, .int .u8 sh, .string f, .int .u8 pr, .int .u8 u] 57)) (.cells #[.slice x.a x.l.length x.c, .slice y.a y.l.length y.c, .slice z.a z.l.length z.c] 38); simpa using this
  have HA := Lib.hid hA
  have HK1 := Lib.hid hk1
  have HK2 := Lib.hid hk2
  have HN := Lib.hid hn
  clear hA hk1 hk2 hn
  by_cases hf1 : 1000 < f.size
  · have hf1' : (1000 : Int) < (f.size : Int) := by omega
    go_enter Tryd.func7, Tryd.ntmps7
    go_upto_region 2 with (
      go_at_call 35
      refine (HG _ _ HA.out HN.out (by simp)).out.mono ?_
      rintro e w1 ⟨r, rfl, hb⟩
      have hbw := below_via HA.out hb
      have hs1 := hb.size
      simp only [World.size_alloc] at hs1
      have kk1 := (hb.block w.heap.size (by first | (simp; done) | (simp; omega))).trans HK1.out
      have kk2 := (hb.block (w.heap.size + 1) (by first | (simp; done) | (simp; omega))).trans HK2.out
      have hl1 : w.heap.size < w1.heap.size := by omega
      have hl2 : w.heap.size + 1 < w1.heap.size := by omega
      obtain ⟨a0, a1, a2⟩ := three_cell kk1
      obtain ⟨r0, r1, r2, r3, r4⟩ := five_cell kk2
      cases r)
    all_goals
      go_wp2_with (go_at_call 36; refine (HL _ hbw).out.mono ?_; rintro e w5 ⟨rfl, hb5⟩)
      go_ret
      exact ⟨rfl, below_via hbw hb5⟩
  · have hf1' : ¬ (1000 : Int) < (f.size : Int) := by omega
    go_enter Tryd.func7, Tryd.ntmps7
    go_upto_if 24 with (
      go_at_call 35
      refine (HG _ _ HA.out HN.out (by simp)).out.mono ?_
      rintro e w1 ⟨r, rfl, hb⟩
      have hbw := below_via HA.out hb
      have hs1 := hb.size
      simp only [World.size_alloc] at hs1
      have kk1 := (hb.block w.heap.size (by first | (simp; done) | (simp; omega))).trans HK1.out
      have kk2 := (hb.block (w.heap.size + 1) (by first | (simp; done) | (simp; omega))).trans HK2.out
      have hl1 : w.heap.size < w1.heap.size := by omega
      have hl2 : w.heap.size + 1 < w1.heap.size := by omega
      obtain ⟨a0, a1, a2⟩ := three_cell kk1
      obtain ⟨r0, r1, r2, r3, r4⟩ := five_cell kk2
      cases r)
    · go_upto_if 38 with (
        go_at_call 37
        refine (HPL _ hbw).out.mono ?_
        rintro e w2 (⟨xb, xl, xr, T, A, e1, e2, e3, hpi, rfl, hT, hb2⟩ | ⟨hno, rfl, hb2⟩)
        all_goals have hbw2 := below_via hbw hb2)
      · have hs2 := hb2.size
        have hq1 := (hb2.block w.heap.size hl1).trans kk1
        have hq2 := (hb2.block (w.heap.size + 1) hl2).trans kk2
        have hst := plan_stand (namesP_get e1).2.1 (namesP_get e2).2.1 (namesP_get e3).2.1 hpi
        have hxl : xb.length = x.l.length := by rw [(namesP_get e1).2.2, LA.v, List.length_map]
        rw [hxl] at hst
        have hT2 : SlE Tr.enc 4 w2 0 w2.heap.size A T := hT.widen (Nat.zero_le _) (Nat.le_refl _)
        have hTl : T.length ≤ 4194304 := by
          obtain ⟨g1, g2⟩ := placed_len (u := u) (xb := xb) (xl := xl) (xr := xr) (namesP_get e1).2.1
          have l2 : xl.length = y.l.length := by rw [(namesP_get e2).2.2, LA.v, List.length_map]
          have l3 : xr.length = z.l.length := by rw [(namesP_get e3).2.2, LA.v, List.length_map]
          have m1 := hx.len
          have m2 := hy.len
          have m3 := hz.len
          have hpl : T.length = (placed u xb xl xr).length := by
            rw [PlanIs] at hpi
            split at hpi
            · rw [hpi]
            · obtain ⟨S, hp, -, rfl⟩ := hpi
              rw [List.length_append, hp.length_eq, List.length_take, List.length_drop]; omega
          omega
        have HST := Lib.hid hst
        have HT2 := Lib.hid hT2
        have HQ1 := Lib.hid hq1
        have HQ2 := Lib.hid hq2
        have HBW2 := Lib.hid hbw2
        have hxlen := hx.len
        obtain ⟨c0, c1, c2⟩ := three_cell hq1
        have hm1 : w.heap.size < w2.heap.size := by omega
        have hw1 : IntKind.i64.wrap ((x.l.length : Int) + 1) = ((x.l.length + 1 : Nat) : Int) := by rw [IntWalk.i64_in _ (by omega)]; omega
        clear hst hT2 hq1 hq2 hbw2 hT hpi e1 e2 e3 hxl hb2 hb kk1 kk2 HA HN HK1 HK2 HG HPL a0 a1 a2 r0 r1 r2 r3 r4
        go_wp2_with fail
        go_loopw [7, 8, 9, 10] (fun i7 _ _ _ wr => ∃ i : Nat, x.l.length + 1 ≤ i ∧ i ≤ T.length + x.l.length + 1 ∧ i7 = .int .i64 i ∧ Below w2.heap.size w2 wr) (fun i7 _ _ _ _ => T.length - (intOf i7).toNat)
        case atStart => exact ⟨x.l.length + 1, Nat.le_refl _, by omega, by go_num, Below.refl _ _⟩
        case round =>
          obtain ⟨i, hi1, hi2, rfl, hbr⟩ := hrel
          by_cases hlt : i < T.length
          · have hlt' : (i : Int) < (T.length : Int) := by omega
            obtain ⟨j, hj⟩ : ∃ j, i = j + 1 := ⟨i - 1, by omega⟩
            have hjl : j < T.length := by omega
            have hab : Stand u T[j] T[i] := by
              have h := List.pairwise_iff_getElem.1 HST.out (j - x.l.length) (i - x.l.length) (by rw [List.length_drop]; omega) (by rw [List.length_drop]; omega) (by omega)
              rw [List.getElem_drop, List.getElem_drop] at h
              have g1 : x.l.length + (j - x.l.length) = j := by omega
              have g2 : x.l.length + (i - x.l.length) = i := by omega
              simp only [g1, g2] at h
              exact h
            have ka : T[j]? = some T[j] := List.getElem?_eq_getElem hjl
            have kb : T[i]? = some T[i] := List.getElem?_eq_getElem hlt
            generalize T[j] = ta at *
            generalize T[i] = tb at *
            obtain ⟨b, off, rfl, -, -, hbl, hc⟩ := HT2.out (by omega)
            have hbb : b < wr.heap.size := Nat.lt_of_lt_of_le hbl hbr.size
            have fa := fun q v hv => (hbr.cell (p := ⟨b, off + j * 4 + q, none⟩) hbl).trans (hc j ta ka q v hv)
            have fb := fun q v hv => (hbr.cell (p := ⟨b, off + i * 4 + q, none⟩) hbl).trans (hc i tb kb q v hv)
            have p0 := fa 0 _ rfl
            have p1 := fa 1 _ rfl
            have p2 := fa 2 _ rfl
            have p3 := fa 3 _ rfl
            have s0 := fb 0 _ rfl
            have s1 := fb 1 _ rfl
            have s2 := fb 2 _ rfl
            have s3 := fb 3 _ rfl
            rw [Nat.add_zero] at p0 s0
            have hwj : IntKind.i64.wrap ((i : Int) - 1) = (j : Int) := by rw [IntWalk.i64_in _ (by omega)]; omega
            have hj0 : (0 : Int) ≤ (j : Int) := by omega
            have hjT : (j : Int) < (T.length : Int) := by omega
            have hi0 : (0 : Int) ≤ (i : Int) := by omega
            have hwi : IntKind.i64.wrap ((i : Int) + 1) = ((i + 1 : Nat) : Int) := by rw [IntWalk.i64_in _ (by omega)]; omega
            have hsr := hbr.size
            have hm2 : w.heap.size + 1 < w2.heap.size := by omega
            have q4 : wr.cell? ⟨w.heap.size + 1, 4, none⟩ = some (.int .u8 u) := (Go.Joins.cell_of_block ((hbr.block (w.heap.size + 1) (by omega)).trans HQ2.out) 4).trans rfl
            have hm3 : w.heap.size + 1 < wr.heap.size := by omega
            have hm4 : w.heap.size < wr.heap.size := by omega
            have HBR := Lib.hid hbr
            have HJ := Lib.hid hj
            clear fa fb hc ka kb hbr hj
            rw [Stand] at hab
            by_cases hu1 : u = 1
            · subst hu1
              rw [if_pos rfl] at hab
              rcases hab with ⟨h1, h2⟩ | ⟨h1, h2, h3⟩
              · have h1' : (0 : Int) ≤ ta.l := h1
                by_cases hb0 : tb.l < 0
                · go_wp2_with fail
                  exact ⟨⟨i + 1, by omega, by omega, by go_num, ((HBR.out.alloc (by omega) _).alloc (by simp; omega) _)⟩, by simp [intOf]; omega⟩
                · have h2' : ta.l < tb.l := by
                    rcases h2 with h | h
                    · exact absurd h hb0
                    · exact h
                  go_wp2_with fail
                  exact ⟨⟨i + 1, by omega, by omega, by go_num, ((HBR.out.alloc (by omega) _).alloc (by simp; omega) _)⟩, by simp [intOf]; omega⟩
              · have h1' : ta.l < 0 := h1
                have h1'' : ¬ (0 : Int) ≤ ta.l := by omega
                have h2' : tb.l < 0 := h2
                have h3' : ta.r < tb.r := h3
                go_wp2_with fail
                exact ⟨⟨i + 1, by omega, by omega, by go_num, ((HBR.out.alloc (by omega) _).alloc (by simp; omega) _)⟩, by simp [intOf]; omega⟩
            · by_cases hu2 : u = 2
              · subst hu2
                rw [if_neg hu1, if_pos rfl] at hab
                rcases hab with ⟨h1, h2⟩ | ⟨h1, h2, h3⟩
                · have h1' : (0 : Int) ≤ ta.r := h1
                  by_cases hb0 : tb.r < 0
                  · go_wp2_with fail
                    exact ⟨⟨i + 1, by omega, by omega, by go_num, ((HBR.out.alloc (by omega) _).alloc (by simp; omega) _)⟩, by simp [intOf]; omega⟩
                  · have h2' : ta.r < tb.r := by
                      rcases h2 with h | h
                      · exact absurd h hb0
                      · exact h
                    go_wp2_with fail
                    exact ⟨⟨i + 1, by omega, by omega, by go_num, ((HBR.out.alloc (by omega) _).alloc (by simp; omega) _)⟩, by simp [intOf]; omega⟩
                · have h1' : ta.r < 0 := h1
                  have h1'' : ¬ (0 : Int) ≤ ta.r := by omega
                  have h2' : tb.r < 0 := h2
                  have h3' : ta.l < tb.l := h3
                  go_wp2_with fail
                  exact ⟨⟨i + 1, by omega, by omega, by go_num, ((HBR.out.alloc (by omega) _).alloc (by simp; omega) _)⟩, by simp [intOf]; omega⟩
              · rw [if_neg hu1, if_neg hu2] at hab
                have hfine : Op.bytesLess ta.id.toList tb.id.toList = true := by rw [bytesLess_eq]; exact decide_eq_true hab
                go_wp2_with fail
                exact ⟨⟨i + 1, by omega, by omega, by go_num, ((HBR.out.alloc (by omega) _).alloc (by simp; omega) _)⟩, by simp [intOf]; omega⟩
          · have hge : ¬ (i : Int) < (T.length : Int) := by omega
            have hbb := below_via HBW2.out hbr
            go_wp2_with (go_at_call 36; refine (HL _ hbb).out.mono ?_; rintro e w5 ⟨rfl, hb5⟩)
            go_ret
            exact ⟨rfl, below_via hbb hb5⟩
      · go_wp2_with (go_at_call 36; refine (HL _ hbw2).out.mono ?_; rintro e w5 ⟨rfl, hb5⟩)
        go_ret
        exact ⟨rfl, below_via hbw2 hb5⟩
    · go_wp2_with (go_at_call 36; refine (HL _ hbw).out.mono ?_; rintro e w5 ⟨rfl, hb5⟩)
      go_ret
      exact ⟨rfl, below_via hbw hb5⟩
end Go.Proofs.YtdapimjhjnbfdaaDoor
