/-
  inarchlaw28.KeyedsEach answers true. Conditions: the lists lie in memory, lengths and weights are bounded; the table of short escapes holds what its initialiser lays.
-/
import Derived.Test.YtdapimjhjnbfdaaDoorKL
import Derived.Test.YtdapimjhjnbfdaaDoorKT
namespace Go.Proofs.YtdapimjhjnbfdaaDoor
open Go.RowKit Go.Sort

def PYes (u : Int) (xb xl xr : List ByteArray) (w : World) (e : Ending) (w' : World) : Prop :=
  ∃ (T : List Tr) (A : Option Addr), e = .returned (.tuple #[.slice A T.length T.length, .bool true]) ∧ PlanIs u xb xl xr T ∧ SlE Tr.enc 4 w' w.heap.size w'.heap.size A T ∧ Below w.heap.size w w'
def PNo (w : World) (e : Ending) (w' : World) : Prop := e = .returned (.tuple #[.slice none 0 0, .bool false]) ∧ Below w.heap.size w w'
theorem plan_yes {w : World} {x y z : LA} (hx : x.Rd w) (hy : y.Rd w) (hz : z.Rd w) (at_ : Bool) (sh pr u : Int) {f : ByteArray} (hS : Shorts w) {xb xl xr : List ByteArray} (e1 : namesP f x.v = some xb) (e2 : namesP f y.v = some xl) (e3 : namesP f z.v = some xr) :
    Calls Tryd.prog 37 #[.slice x.a x.l.length x.c, .slice y.a y.l.length y.c, .slice z.a z.l.length z.c, .agg #[.bool at_, .int .u8 sh, .string f, .int .u8 pr, .int .u8 u]] w (PYes u xb xl xr w) := by
  refine (plan_c w x y z hx hy hz at_ sh pr u f hS).mono ?_
  rintro e w' (⟨xb', xl', xr', T, A, g1, g2, g3, hp, rfl, hT, hb⟩ | ⟨hno, -⟩)
  · rw [e1] at g1; rw [e2] at g2; rw [e3] at g3
    cases g1; cases g2; cases g3
    exact ⟨T, A, rfl, hp, hT, hb⟩
  · rw [e1, e2, e3] at hno
    simp at hno
theorem plan_no {w : World} {x y z : LA} (hx : x.Rd w) (hy : y.Rd w) (hz : z.Rd w) (at_ : Bool) (sh pr u : Int) {f : ByteArray} (hS : Shorts w) (h : namesP f x.v = none ∨ namesP f y.v = none ∨ namesP f z.v = none) :
    Calls Tryd.prog 37 #[.slice x.a x.l.length x.c, .slice y.a y.l.length y.c, .slice z.a z.l.length z.c, .agg #[.bool at_, .int .u8 sh, .string f, .int .u8 pr, .int .u8 u]] w (PNo w) := by
  refine (plan_c w x y z hx hy hz at_ sh pr u f hS).mono ?_
  rintro e w' (⟨xb', xl', xr', T, A, g1, g2, g3, -⟩ | ⟨-, rfl, hb⟩)
  · rw [g1, g2, g3] at h
    simp at h
  · exact ⟨rfl, hb⟩
def uT (v : Int) : Int := if v = 0 then 0 else 3 - v
set_option maxRecDepth 100000 in
set_option maxHeartbeats 12800000 in
theorem keach (w : World) (x y z : LA) (hx : x.Rd w) (hy : y.Rd w) (hz : z.Rd w) (at_ : Bool) (sh pr u : Int) (f : ByteArray) (hu : 0 ≤ u ∧ u ≤ 255) (hf : f.size ≤ 1048576) (hS : Shorts w) :
    Calls Tryd.prog 6 #[.agg #[.slice x.a x.l.length x.c, .slice y.a y.l.length y.c, .slice z.a z.l.length z.c], .agg #[.bool at_, .int .u8 sh, .string f, .int .u8 pr, .int .u8 u]] w (Ret (.bool true) w) := by
  have HL := fun W (h : Below w.heap.size w W) => Lib.hid (lives28_c W (hS.below h))
  have HG := fun W (B : Nat) (h : Below w.heap.size w W) (hb : W.heap[B]? = some (.cells #[.slice x.a x.l.length x.c, .slice y.a y.l.length y.c, .slice z.a z.l.length z.c] 38 (0, 0))) (hB : B < W.heap.size) => Lib.hid (show Calls Tryd.prog 35 #[.slice (some ⟨B, 0, none⟩) 3 3] W (RetB W) from
    great23_c W (some ⟨B, 0, none⟩) 3 [x, y, z] ((lit_sl (enc := LA.enc) (size := 1) (l := [x, y, z]) (t := 38) (fr := (0, 0)) (fun _ => rfl) hb).widen (Nat.zero_le _) (by omega)) (fun v hv => by
      simp only [List.mem_cons, List.not_mem_nil, or_false] at hv
      rcases hv with rfl | rfl | rfl
      · exact hx.up h
      · exact hy.up h
      · exact hz.up h) (by simp))
  have hA : Below w.heap.size w (((w.alloc (.cells #[.slice x.a x.l.length x.c, .slice y.a y.l.length y.c, .slice z.a z.l.length z.c] 53)).alloc (.cells #[.bool at_, .int .u8 sh, .string f, .int .u8 pr, .int .u8 u] 57)).alloc (.cells #[.slice x.a x.l.length x.c, .slice y.a y.l.length y.c, .slice z.a z.l.length z.c] 38)) := (((Below.refl _ _).alloc (Nat.le_refl _) _).alloc (by simp) _).alloc (by simp; omega) _
  have hk1 : (((w.alloc (.cells #[.slice x.a x.l.length x.c, .slice y.a y.l.length y.c, .slice z.a z.l.length z.c] 53)).alloc (.cells #[.bool at_, .int .u8 sh, .string f, .int .u8 pr, .int .u8 u] 57)).alloc (.cells #[.slice x.a x.l.length x.c, .slice y.a y.l.length y.c, .slice z.a z.l.length z.c] 38)).heap[w.heap.size]? = some (.cells #[.slice x.a x.l.length x.c, .slice y.a y.l.length y.c, .slice z.a z.l.length z.c] 53 (0, 0)) := (heap_alloc_old _ _ _ (by simp; omega)).trans ((heap_alloc_old _ _ _ (by simp)).trans (heap_alloc_new w _))
  have hk2 : (((w.alloc (.cells #[.slice x.a x.l.length x.c, .slice y.a y.l.length y.c, .slice z.a z.l.length z.c] 53)).alloc (.cells #[.bool at_, .int .u8 sh, .string f, .int .u8 pr, .int .u8 u] 57)).alloc (.cells #[.slice x.a x.l.length x.c, .slice y.a y.l.length y.c, .slice z.a z.l.length z.c] 38)).heap[w.heap.size + 1]? = some (.cells #[.bool at_, .int .u8 sh, .string f, .int .u8 pr, .int .u8 u] 57 (0, 0)) := (heap_alloc_old _ _ _ (by simp)).trans (by have := heap_alloc_new (w.alloc (.cells #[.slice x.a x.l.length x.c, .slice y.a y.l.length y.c, .slice z.a z.l.length z.c] 53)) (.cells #[.bool at_, .int .u8 sh, .string f, .int .u8 pr, .int .u8 u] 57); rwa [World.size_alloc] at this)
  have hn : (((w.alloc (.cells #[.slice x.a x.l.length x.c, .slice y.a y.l.length y.c, .slice z.a z.l.length z.c] 53)).alloc (.cells #[.bool at_, .int .u8 sh, .string f, .int .u8 pr, .int .u8 u] 57)).alloc (.cells #[.slice x.a x.l.length x.c, .slice y.a y.l.length y.c, .slice z.a z.l.length z.c] 38)).heap[w.heap.size + 1 + 1]? = some (.cells #[.slice x.a x.l.length x.c, .slice y.a y.l.length y.c, .slice z.a z.l.length z.c] 38 (0, 0)) := by have := heap_alloc_new ((w.alloc (.cells #[.slice x.a x.l.length x.c, .slice y.a y.l.length y.c, .slice z.a z.l.length z.c] 53)).alloc (.cells #[.bool at_, .int .u8 sh, .string f, .int .u8 pr, .int .u8 u] 57)) (.cells #[.slice x.a x.l.length x.c, .slice y.a y.l.length y.c, .slice z.a z.l.length z.c] 38); simpa using this
  have HA := Lib.hid hA
  have HK1 := Lib.hid hk1
  have HK2 := Lib.hid hk2
  have HN := Lib.hid hn
  clear hA hk1 hk2 hn
  by_cases hf1 : 1000 < f.size
  · have hf1' : (1000 : Int) < (f.size : Int) := by omega
    go_enter Tryd.func6, Tryd.ntmps6
    go_upto_region 2 with (
      go_at_call 35
      refine (HG _ _ HA.out HN.out (by simp)).out.mono ?_
      rintro e w1 ⟨r, rfl, hb⟩
      have hbw := below_via HA.out hb
      have hs1 := hb.size
      simp only [World.size_alloc] at hs1
      have kk1 := (hb.block w.heap.size (by first | (simp; done) | (simp; omega))).trans HK1.out
      have kk2 := (hb.block (w.heap.size + 1) (by first | (simp; done) | (simp; omega))).trans HK2.out
      have hl1 : w.heap.size < w1.heap.size := by omega
      have hl2 : w.heap.size + 1 < w1.heap.size := by omega
      obtain ⟨a0, a1, a2⟩ := three_cells kk1
      obtain ⟨r0, r1, r2, r3, r4⟩ := five_cells kk2
      cases r)
    all_goals
      go_wp2_with (go_at_call 36; refine (HL _ hbw).out.mono ?_; rintro e w5 ⟨rfl, hb5⟩)
      go_ret
      exact ⟨rfl, below_via hbw hb5⟩
  · have hf1' : ¬ (1000 : Int) < (f.size : Int) := by omega
    go_enter Tryd.func6, Tryd.ntmps6
    go_upto_region 3 with (
      go_at_call 35
      refine (HG _ _ HA.out HN.out (by simp)).out.mono ?_
      rintro e w1 ⟨r, rfl, hb⟩
      have hbw := below_via HA.out hb
      have hs1 := hb.size
      simp only [World.size_alloc] at hs1
      have kk1 := (hb.block w.heap.size (by first | (simp; done) | (simp; omega))).trans HK1.out
      have kk2 := (hb.block (w.heap.size + 1) (by first | (simp; done) | (simp; omega))).trans HK2.out
      have hl1 : w.heap.size < w1.heap.size := by omega
      have hl2 : w.heap.size + 1 < w1.heap.size := by omega
      obtain ⟨a0, a1, a2⟩ := three_cells kk1
      obtain ⟨r0, r1, r2, r3, r4⟩ := five_cells kk2
      have fz4 := five_fz kk2
      cases r)
    · have hu3 : 0 ≤ u % 3 ∧ u % 3 ≤ 2 := by omega
      go_upto_region 4 with fail
      go_name_world W3 hW3
      have hb3 : Below w.heap.size w W3 := by rw [← hW3]; exact hbw.setCell (p := ⟨w.heap.size + 1, 4, none⟩) (by show w.heap.size ≤ w.heap.size + 1; omega) _
      have hz3 : W3.heap.size = w1.heap.size := by rw [← hW3]; simp
      have kl1 : W3.heap[w.heap.size]? = some (.cells #[.slice x.a x.l.length x.c, .slice y.a y.l.length y.c, .slice z.a z.l.length z.c] 53 (0, 0)) := by rw [← hW3]; exact (Below.heap_setCell w1 _ _ _ (by show w.heap.size ≠ w.heap.size + 1; omega)).trans kk1
      have kl2 : W3.heap[w.heap.size + 1]? = some (.cells #[.bool at_, .int .u8 sh, .string f, .int .u8 pr, .int .u8 (u % 3)] 57 (0, 0)) := by rw [← hW3]; exact set_blk kk2 4 _
      clear hW3 a0 a1 a2 r0 r1 r2 r3 r4 fz4 HG
      have HKL1 := Lib.hid kl1
      have HKL2 := Lib.hid kl2
      obtain ⟨a0, a1, a2⟩ := three_cells kl1
      obtain ⟨r0, r1, r2, r3, r4⟩ := five_cells kl2
      have hl31 : w.heap.size < W3.heap.size := by omega
      have hl32 : w.heap.size + 1 < W3.heap.size := by omega
      have HB3 := Lib.hid hb3
      generalize u % 3 = v at *
      clear hb hb3 kk1 kk2 kl1 kl2 HA HN HK1 HK2 hs1 hl1 hl2 hz3 hbw
      by_cases hall : ∃ xb xl xr, namesP f x.v = some xb ∧ namesP f y.v = some xl ∧ namesP f z.v = some xr
      · obtain ⟨xb, xl, xr, e1, e2, e3⟩ := hall
        have HP1 := fun W (h : Below w.heap.size w W) => Lib.hid (plan_yes (hx.up h) (hy.up h) (hz.up h) at_ sh pr v (hS.below h) e1 e2 e3)
        have HP2 := fun W (h : Below w.heap.size w W) => Lib.hid (plan_yes (hx.up h) (hz.up h) (hy.up h) at_ sh pr (uT v) (hS.below h) e1 e3 e2)
        go_upto_if 49 with (
          go_at_call 37
          refine (HP1 _ HB3.out).out.mono ?_
          rintro e w2 ⟨T, A, rfl, hpi, hT, hb2⟩
          have hbw2 := below_via HB3.out hb2
          have hs2 := hb2.size
          have km1 := (hb2.block w.heap.size hl31).trans HKL1.out
          have km2 := (hb2.block (w.heap.size + 1) hl32).trans HKL2.out
          have hm1 : w.heap.size < w2.heap.size := by omega
          have hm2 : w.heap.size + 1 < w2.heap.size := by omega
          obtain ⟨b0, b1, b2⟩ := three_cells km1
          obtain ⟨s0, s1, s2, s3, s4⟩ := five_cells km2)
        go_cut [] (fun wx => wx.heap[w2.heap.size]? = some (.cells #[.bool at_, .int .u8 sh, .string f, .int .u8 pr, .int .u8 (uT v)] 57 (0, 0)) ∧ Below w2.heap.size w2 wx)
        case first =>
          have hba : Below w2.heap.size w2 (w2.alloc (.cells #[.bool at_, .int .u8 sh, .string f, .int .u8 pr, .int .u8 v] 57)) := (Below.refl _ _).alloc (Nat.le_refl _) _
          have hna := heap_alloc_new w2 (.cells #[.bool at_, .int .u8 sh, .string f, .int .u8 pr, .int .u8 v] 57)
          have HBA := Lib.hid hba
          have HNA := Lib.hid hna
          clear hba hna
          by_cases hv0 : v = 0
          · subst hv0
            go_wp2_with fail
            go_meet
            exact ⟨HNA.out, HBA.out⟩
          · have hwv : IntKind.u8.wrap (3 - v) = 3 - v := by
              have c : v = 1 ∨ v = 2 := by omega
              rcases c with rfl | rfl <;> rfl
            have hfz := five_fz HNA.out
            go_wp2_with fail
            go_meet
            exact ⟨by rw [uT, if_neg hv0]; exact heap_alloc_new w2 _, (Below.refl _ _).alloc (Nat.le_refl _) _⟩
        case rest =>
          obtain ⟨hbk, hbc⟩ := hcut
          have hlc := lt_of_block hbk
          have hbwc := below_via hbw2 hbc
          have hsc := hbc.size
          obtain ⟨d0, d1, d2, d3, d4⟩ := five_cells hbk
          have kc1 := (hbc.block w.heap.size hm1).trans km1
          obtain ⟨g0, g1, g2⟩ := three_cells kc1
          have hc1 : w.heap.size < wc.heap.size := by omega
          have HBC := Lib.hid hbc
          have HKC := Lib.hid kc1
          have HBWC := Lib.hid hbwc
          have HTT := Lib.hid hT
          have HPI := Lib.hid hpi
          have HBW2 := Lib.hid hbw2
          have kc2 := (hbc.block (w.heap.size + 1) hm2).trans km2
          have HKC2 := Lib.hid kc2
          have hc2' : w.heap.size + 1 < wc.heap.size := by omega
          have HN1 := Lib.hid (namesP_get e1).2
          have HN2 := Lib.hid (namesP_get e2).2
          have HN3 := Lib.hid (namesP_get e3).2
          have l1 : xb.length = x.l.length := by rw [HN1.out.2, LA.v, List.length_map]
          have l2 : xl.length = y.l.length := by rw [HN2.out.2, LA.v, List.length_map]
          have l3 : xr.length = z.l.length := by rw [HN3.out.2, LA.v, List.length_map]
          have hTl : T.length ≤ 4194304 := by
            have m1 := hx.len
            have m2 := hy.len
            have m3 := hz.len
            have := plan_len HN1.out.1 HPI.out
            omega
          have HE := Lib.hid (each_ok HN1.out.1 HN2.out.1 HN3.out.1 HPI.out)
          have L1 := Lib.hid l1
          have L2 := Lib.hid l2
          have L3 := Lib.hid l3
          clear l1 l2 l3
          have HQ0 := fun W (h : Below w.heap.size w W) (t : Tr) (ht : t ∈ T) => Lib.hid (named_c W x (hx.up h) t.b f t.id (hS.below h) (named_pre e1 (HE.out.pb t ht)))
          have HQ1 := fun W (h : Below w.heap.size w W) (t : Tr) (ht : t ∈ T) => Lib.hid (named_c W y (hy.up h) t.l f t.id (hS.below h) (named_pre e2 (HE.out.pl t ht)))
          have HQ2 := fun W (h : Below w.heap.size w W) (t : Tr) (ht : t ∈ T) => Lib.hid (named_c W z (hz.up h) t.r f t.id (hS.below h) (named_pre e3 (HE.out.pr t ht)))
          clear hbk hbc hbwc kc1 kc2 hT hpi km1 km2 b0 b1 b2 s0 s1 s2 s3 s4 a0 a1 a2 r0 r1 r2 r3 r4 HKL1 HKL2 hb2 hbw2 e1 e2 e3
          go_wp2_with (
            go_at_call 37
            refine (HP2 _ HBWC.out).out.mono ?_
            rintro e w3 ⟨U, A2, rfl, hpi2, hT3, hb3⟩
            have hU := plan_turn hu3 HN1.out.1 HN2.out.1 HN3.out.1 HPI.out hpi2
            subst hU
            rw [List.length_map])
          have HB4 := Lib.hid (below_via HBWC.out hb3)
          have HK4 := Lib.hid ((hb3.block w.heap.size hc1).trans HKC.out)
          have HR4 := Lib.hid ((hb3.block (w.heap.size + 1) hc2').trans HKC2.out)
          have HT4 := Lib.hid (HTT.out.up (below_via HBC.out hb3))
          have HU4 := Lib.hid hT3
          have hs3 := hb3.size
          have hk1 : w.heap.size < w3.heap.size := by omega
          have hk2 : w.heap.size + 1 < w3.heap.size := by omega
          clear hb3 hT3 hpi2 g0 g1 g2 d0 d1 d2 d3 d4 HP1 HP2 HPI HN1 HN2 HN3 HTT HBC HKC HKC2 HBWC HBW2 HB3 hs3 hc1 hc2' hlc hsc hm1 hm2 hs2 hl31 hl32
          go_loopw [11, 12, 13, 14, 15] (fun i11 _ _ _ _ wr => ∃ i : Nat, i ≤ T.length ∧ i11 = .int .i64 i ∧ Below w3.heap.size w3 wr ∧ wr.heap[w3.heap.size]? = some (.cells #[.int .i64 (cnt Tr.b T i), .int .i64 (cnt Tr.l T i), .int .i64 (cnt Tr.r T i)] 62 (0, 0))) (fun i11 _ _ _ _ _ => T.length - (intOf i11).toNat)
          case atStart => exact ⟨0, Nat.zero_le _, by go_num, (Below.refl _ _).alloc (Nat.le_refl _) _, heap_alloc_new w3 _⟩
          case round =>
            obtain ⟨wo, hwo⟩ : ∃ w0 : World, w0 = wr := ⟨_, rfl⟩
            subst hwo
            obtain ⟨i, hi2, rfl, hbr, hmany⟩ := hrel
            have hbwr := below_via HB4.out hbr
            have hsr := hbr.size
            have hMr := lt_of_block hmany
            have kr1 := (hbr.block w.heap.size hk1).trans HK4.out
            obtain ⟨g0, g1, g2⟩ := three_cells kr1
            have hj1 : w.heap.size < wo.heap.size := by omega
            have hj2 : w.heap.size + 1 < wo.heap.size := by omega
            have HBR := Lib.hid hbr
            have HBWR := Lib.hid hbwr
            by_cases hlt : i < T.length
            · have hlt' : (i : Int) < (T.length : Int) := by omega
              have hi0 : (0 : Int) ≤ (i : Int) := by omega
              have hwi : IntKind.i64.wrap ((i : Int) + 1) = ((i + 1 : Nat) : Int) := by rw [IntWalk.i64_in _ (by omega)]; omega
              have ka : T[i]? = some T[i] := List.getElem?_eq_getElem hlt
              generalize T[i] = t at ka
              have ku : (T.map Tr.swap)[i]? = some t.swap := by rw [List.getElem?_map, ka]; rfl
              obtain ⟨b, off, hA1, -, -, hbl, hc⟩ := HT4.out.up hbr (by omega)
              obtain ⟨b2, off2, hA2, -, -, hbl2, hc2⟩ := HU4.out.up hbr (by rw [List.length_map]; omega)
              subst hA1 hA2
              have p0 := hc i t ka 0 _ rfl
              have p1 := hc i t ka 1 _ rfl
              have p2 := hc i t ka 2 _ rfl
              have p3 := hc i t ka 3 _ rfl
              have s0 : wo.cell? ⟨b2, off2 + i * 4 + 0, none⟩ = some (.string t.id) := hc2 i t.swap ku 0 _ rfl
              have s1 : wo.cell? ⟨b2, off2 + i * 4 + 1, none⟩ = some (.int .i64 t.b) := hc2 i t.swap ku 1 _ rfl
              have s2 : wo.cell? ⟨b2, off2 + i * 4 + 2, none⟩ = some (.int .i64 t.r) := hc2 i t.swap ku 2 _ rfl
              have s3 : wo.cell? ⟨b2, off2 + i * 4 + 3, none⟩ = some (.int .i64 t.l) := hc2 i t.swap ku 3 _ rfl
              rw [Nat.add_zero] at p0 s0
              have HKA := Lib.hid ka
              have HM := Lib.hid hmany
              clear hc hc2 ka ku hmany hbr hbwr kr1
              go_upto_region 18 with fail
              go_name_world WX hWX
              have hX := (show WX.heap[wo.heap.size]? = some (.cells #[.string t.id, .int .i64 t.b, .int .i64 t.l, .int .i64 t.r] 64 (0, 0)) by rw [← hWX]; exact heap_alloc_new wo _)
              have hbX : Below wo.heap.size wo WX := by rw [← hWX]; exact (Below.refl _ _).alloc (Nat.le_refl _) _
              clear hWX
              have hlX := lt_of_block hX
              have u0 := (hbX.cell (p := ⟨b2, off2 + i * 4, none⟩) hbl2).trans s0
              have u1 := (hbX.cell (p := ⟨b2, off2 + i * 4 + 1, none⟩) hbl2).trans s1
              have u2 := (hbX.cell (p := ⟨b2, off2 + i * 4 + 2, none⟩) hbl2).trans s2
              have u3 := (hbX.cell (p := ⟨b2, off2 + i * 4 + 3, none⟩) hbl2).trans s3
              obtain ⟨x0, x1, x2, x3⟩ := four_cells hX
              have hl2X : b2 < WX.heap.size := by omega
              have HNQ : ∀ W : World, (binOp .neq 64 (.agg #[.string t.id, .int .i64 t.b, .int .i64 t.r, .int .i64 t.l]) (.agg #[.string t.id, .int .i64 t.b, .int .i64 t.r, .int .i64 t.l])).run Tryd.prog W = .ok (.bool false) W := fun W => neq_tr W t.swap
              have HXX := Lib.hid hX
              have HBX := Lib.hid hbX
              clear hX hbX p0 p1 p2 p3 s0 s1 s2 s3 g0 g1 g2
              go_quiet (fail)
              go_upto_region 20 with fail
              go_name_world WY hWY
              have hX := (show WY.heap[wo.heap.size]? = some (.cells #[.string t.id, .int .i64 t.b, .int .i64 t.l, .int .i64 t.r] 64 (0, 0)) by rw [← hWY]; exact HXX.out)
              have hbX : Below wo.heap.size wo WY := by rw [← hWY]; exact below_drewN HBX.out _
              clear hWY HXX HBX u0 u1 u2 u3 x0 x1 x2 x3 hlX hl2X
              have HXX := Lib.hid hX
              have HBX := Lib.hid hbX
              have hlX := lt_of_block hX
              obtain ⟨x0, x1, x2, x3⟩ := four_cells hX
              clear hX hbX
              go_wp2_with fail
              go_name_world WA hWA
              have hA := (show WA.heap[WY.heap.size]? = some (.cells #[.int .i64 t.b, .int .i64 t.l, .int .i64 t.r] 62 (0, 0)) by rw [← hWA]; exact heap_alloc_new _ _)
              have hbA : Below WY.heap.size WY WA := by rw [← hWA]; first | exact (Below.refl _ _).alloc (Nat.le_refl _) _ | exact ((Below.refl _ _).drew).alloc (Nat.le_refl _) _
              clear hWA
              have hXA := (hbA.block wo.heap.size hlX).trans HXX.out
              have hb3A : Below w3.heap.size w3 WA := (HBR.out.trans (HBX.out.mono hsr)).trans (hbA.mono (by omega))
              have hMA := (hbA.block w3.heap.size (by omega)).trans ((HBX.out.block w3.heap.size hMr).trans HM.out)
              clear hbA x0 x1 x2 x3 HNQ
              go_loopw [14] (fun i14 wv => ∃ k : Nat, k ≤ 3 ∧ i14 = .int .i64 k ∧ Below w3.heap.size w3 wv ∧ wv.heap[wo.heap.size]? = some (.cells #[.string t.id, .int .i64 t.b, .int .i64 t.l, .int .i64 t.r] 64 (0, 0)) ∧ wv.heap[WY.heap.size]? = some (.cells #[.int .i64 t.b, .int .i64 t.l, .int .i64 t.r] 62 (0, 0)) ∧ wv.heap[w3.heap.size]? = some (.cells #[.int .i64 (cnt Tr.b T (if 0 < k then i + 1 else i)), .int .i64 (cnt Tr.l T (if 1 < k then i + 1 else i)), .int .i64 (cnt Tr.r T (if 2 < k then i + 1 else i))] 62 (0, 0))) (fun i14 _ => 3 - (intOf i14).toNat)
              case atStart => exact ⟨0, by omega, by go_num, hb3A, hXA, hA, hMA⟩
              case round =>
                obtain ⟨wv, hwo⟩ : ∃ w0 : World, w0 = wr := ⟨_, rfl⟩
                subst hwo
                obtain ⟨k, hk3, rfl, hbv, hXv, hAv, hMv⟩ := hrel
                have hlv := lt_of_block hAv
                have hN : WY.heap.size + 1 ≤ wv.heap.size := hlv
                have hbwv := below_via HB4.out hbv
                have hq1 : w.heap.size < wv.heap.size := by omega
                have hq2 : w.heap.size + 1 < wv.heap.size := by omega
                have hq3 : w3.heap.size < wv.heap.size := by omega
                have hq4 : wo.heap.size < wv.heap.size := by omega
                have hn1 : w.heap.size < WY.heap.size + 1 := by omega
                have hn2 : w.heap.size < WY.heap.size := by omega
                have hn3 : wo.heap.size < WY.heap.size + 1 := by omega
                obtain ⟨x0, x1, x2, x3⟩ := four_cells hXv
                obtain ⟨a0, a1, a2⟩ := three_cells hAv
                obtain ⟨g0, g1, g2⟩ := three_cells ((hbv.block w.heap.size hk1).trans HK4.out)
                obtain ⟨-, -, r2, -, -⟩ := five_cells ((hbv.block (w.heap.size + 1) hk2).trans HR4.out)
                have HXV := Lib.hid hXv
                have HAV := Lib.hid hAv
                have HMV := Lib.hid hMv
                have HBV := Lib.hid hbv
                have HBWV := Lib.hid hbwv
                clear hXv hAv hMv hbv hbwv hA hXA hb3A hMA
                have hways : k = 0 ∨ k = 1 ∨ k = 2 ∨ k = 3 := by omega
                rcases hways with rfl | rfl | rfl | rfl
                · have hMk : wv.heap[w3.heap.size]? = some (.cells #[.int .i64 (cnt Tr.b T i), .int .i64 (cnt Tr.l T i), .int .i64 (cnt Tr.r T i)] 62 (0, 0)) := HMV.out
                  have HMK := Lib.hid hMk
                  clear hMk HMV
                  obtain ⟨m0, m1, m2⟩ := three_cells HMK.out
                  go_upto_region 24 with fail
                  go_region_held3 (fun w' => (∀ b o, b < WY.heap.size + 1 → w'.cell? ⟨b, o, none⟩ = wv.cell? ⟨b, o, none⟩) ∧ Below (WY.heap.size + 1) wv w')
                    (first | (with_reducible exact Q1.out) | exact ⟨fun _ _ _ => rfl, (Below.refl _ _).drew⟩)
                    (first | (go_at_call 38; refine (HQ0 _ (s_below (N := WY.heap.size + 1) HBWV.out (by omega) (by assumption)) t (List.mem_of_getElem? HKA.out)).out.mono ?_; rintro e w4 ⟨rfl, hb4⟩; have Q1 := Lib.hid (s_step hN (by assumption) hb4)))
                  have hb5 := Q1.out.2
                  have KA := Lib.hid ((hb5.block WY.heap.size (by omega)).trans HAV.out)
                  have KM := Lib.hid ((hb5.block w3.heap.size (by omega)).trans HMK.out)
                  have KX := Lib.hid ((hb5.block wo.heap.size (by omega)).trans HXV.out)
                  have HB6 := Lib.hid (HBV.out.trans (hb5.mono (by omega)))
                  have hs5 := hb5.size
                  clear hb5 x0 x1 x2 x3 g0 g1 g2 r2
                  obtain ⟨aa0, aa1, aa2⟩ := three_cells KA.out
                  obtain ⟨mm0, mm1, mm2⟩ := three_cells KM.out
                  obtain ⟨z0, z1, z2⟩ := three_fz KM.out
                  have hv1 : WY.heap.size < w4.heap.size := by omega
                  have hv2 : w3.heap.size < w4.heap.size := by omega
                  by_cases hat : 0 ≤ t.b
                  · have hwc : IntKind.i64.wrap (cnt Tr.b T i + 1) = cnt Tr.b T (i + 1) := by
                      rw [cnt_yes HKA.out hat]
                      have := cnt_le Tr.b T i
                      exact IntWalk.i64_in _ (by omega)
                    go_wp2_with fail
                    exact ⟨⟨1, by omega, by go_num, HB6.out.setCell (p := ⟨w3.heap.size, 0, none⟩) (Nat.le_refl _) _, (Below.heap_setCell w4 _ _ _ (by show wo.heap.size ≠ w3.heap.size; omega)).trans KX.out, (Below.heap_setCell w4 _ _ _ (by show WY.heap.size ≠ w3.heap.size; omega)).trans KA.out, set_blk KM.out 0 _⟩, by simp [intOf]⟩
                  · have hno := cnt_no HKA.out hat
                    go_wp2_with fail
                    exact ⟨⟨1, by omega, by go_num, HB6.out, KX.out, KA.out, (show w4.heap[w3.heap.size]? = some (.cells #[.int .i64 (cnt Tr.b T (i + 1)), .int .i64 (cnt Tr.l T i), .int .i64 (cnt Tr.r T i)] 62 (0, 0)) by rw [hno]; exact KM.out)⟩, by simp [intOf]⟩
                · have hMk : wv.heap[w3.heap.size]? = some (.cells #[.int .i64 (cnt Tr.b T (i + 1)), .int .i64 (cnt Tr.l T i), .int .i64 (cnt Tr.r T i)] 62 (0, 0)) := HMV.out
                  have HMK := Lib.hid hMk
                  clear hMk HMV
                  obtain ⟨m0, m1, m2⟩ := three_cells HMK.out
                  go_upto_region 24 with fail
                  go_region_held3 (fun w' => (∀ b o, b < WY.heap.size + 1 → w'.cell? ⟨b, o, none⟩ = wv.cell? ⟨b, o, none⟩) ∧ Below (WY.heap.size + 1) wv w')
                    (first | (with_reducible exact Q1.out) | exact ⟨fun _ _ _ => rfl, (Below.refl _ _).drew⟩)
                    (first | (go_at_call 38; refine (HQ1 _ (s_below (N := WY.heap.size + 1) HBWV.out (by omega) (by assumption)) t (List.mem_of_getElem? HKA.out)).out.mono ?_; rintro e w4 ⟨rfl, hb4⟩; have Q1 := Lib.hid (s_step hN (by assumption) hb4)))
                  have hb5 := Q1.out.2
                  have KA := Lib.hid ((hb5.block WY.heap.size (by omega)).trans HAV.out)
                  have KM := Lib.hid ((hb5.block w3.heap.size (by omega)).trans HMK.out)
                  have KX := Lib.hid ((hb5.block wo.heap.size (by omega)).trans HXV.out)
                  have HB6 := Lib.hid (HBV.out.trans (hb5.mono (by omega)))
                  have hs5 := hb5.size
                  clear hb5 x0 x1 x2 x3 g0 g1 g2 r2
                  obtain ⟨aa0, aa1, aa2⟩ := three_cells KA.out
                  obtain ⟨mm0, mm1, mm2⟩ := three_cells KM.out
                  obtain ⟨z0, z1, z2⟩ := three_fz KM.out
                  have hv1 : WY.heap.size < w4.heap.size := by omega
                  have hv2 : w3.heap.size < w4.heap.size := by omega
                  by_cases hat : 0 ≤ t.l
                  · have hwc : IntKind.i64.wrap (cnt Tr.l T i + 1) = cnt Tr.l T (i + 1) := by
                      rw [cnt_yes HKA.out hat]
                      have := cnt_le Tr.l T i
                      exact IntWalk.i64_in _ (by omega)
                    go_wp2_with fail
                    exact ⟨⟨2, by omega, by go_num, HB6.out.setCell (p := ⟨w3.heap.size, 1, none⟩) (Nat.le_refl _) _, (Below.heap_setCell w4 _ _ _ (by show wo.heap.size ≠ w3.heap.size; omega)).trans KX.out, (Below.heap_setCell w4 _ _ _ (by show WY.heap.size ≠ w3.heap.size; omega)).trans KA.out, set_blk KM.out 1 _⟩, by simp [intOf]⟩
                  · have hno := cnt_no HKA.out hat
                    go_wp2_with fail
                    exact ⟨⟨2, by omega, by go_num, HB6.out, KX.out, KA.out, (show w4.heap[w3.heap.size]? = some (.cells #[.int .i64 (cnt Tr.b T (i + 1)), .int .i64 (cnt Tr.l T (i + 1)), .int .i64 (cnt Tr.r T i)] 62 (0, 0)) by rw [hno]; exact KM.out)⟩, by simp [intOf]⟩
                · have hMk : wv.heap[w3.heap.size]? = some (.cells #[.int .i64 (cnt Tr.b T (i + 1)), .int .i64 (cnt Tr.l T (i + 1)), .int .i64 (cnt Tr.r T i)] 62 (0, 0)) := HMV.out
                  have HMK := Lib.hid hMk
                  clear hMk HMV
                  obtain ⟨m0, m1, m2⟩ := three_cells HMK.out
                  go_upto_region 24 with fail
                  go_region_held3 (fun w' => (∀ b o, b < WY.heap.size + 1 → w'.cell? ⟨b, o, none⟩ = wv.cell? ⟨b, o, none⟩) ∧ Below (WY.heap.size + 1) wv w')
                    (first | (with_reducible exact Q1.out) | exact ⟨fun _ _ _ => rfl, (Below.refl _ _).drew⟩)
                    (first | (go_at_call 38; refine (HQ2 _ (s_below (N := WY.heap.size + 1) HBWV.out (by omega) (by assumption)) t (List.mem_of_getElem? HKA.out)).out.mono ?_; rintro e w4 ⟨rfl, hb4⟩; have Q1 := Lib.hid (s_step hN (by assumption) hb4)))
                  have hb5 := Q1.out.2
                  have KA := Lib.hid ((hb5.block WY.heap.size (by omega)).trans HAV.out)
                  have KM := Lib.hid ((hb5.block w3.heap.size (by omega)).trans HMK.out)
                  have KX := Lib.hid ((hb5.block wo.heap.size (by omega)).trans HXV.out)
                  have HB6 := Lib.hid (HBV.out.trans (hb5.mono (by omega)))
                  have hs5 := hb5.size
                  clear hb5 x0 x1 x2 x3 g0 g1 g2 r2
                  obtain ⟨aa0, aa1, aa2⟩ := three_cells KA.out
                  obtain ⟨mm0, mm1, mm2⟩ := three_cells KM.out
                  obtain ⟨z0, z1, z2⟩ := three_fz KM.out
                  have hv1 : WY.heap.size < w4.heap.size := by omega
                  have hv2 : w3.heap.size < w4.heap.size := by omega
                  by_cases hat : 0 ≤ t.r
                  · have hwc : IntKind.i64.wrap (cnt Tr.r T i + 1) = cnt Tr.r T (i + 1) := by
                      rw [cnt_yes HKA.out hat]
                      have := cnt_le Tr.r T i
                      exact IntWalk.i64_in _ (by omega)
                    go_wp2_with fail
                    exact ⟨⟨3, by omega, by go_num, HB6.out.setCell (p := ⟨w3.heap.size, 2, none⟩) (Nat.le_refl _) _, (Below.heap_setCell w4 _ _ _ (by show wo.heap.size ≠ w3.heap.size; omega)).trans KX.out, (Below.heap_setCell w4 _ _ _ (by show WY.heap.size ≠ w3.heap.size; omega)).trans KA.out, set_blk KM.out 2 _⟩, by simp [intOf]⟩
                  · have hno := cnt_no HKA.out hat
                    go_wp2_with fail
                    exact ⟨⟨3, by omega, by go_num, HB6.out, KX.out, KA.out, (show w4.heap[w3.heap.size]? = some (.cells #[.int .i64 (cnt Tr.b T (i + 1)), .int .i64 (cnt Tr.l T (i + 1)), .int .i64 (cnt Tr.r T (i + 1))] 62 (0, 0)) by rw [hno]; exact KM.out)⟩, by simp [intOf]⟩
                · have hMk : wv.heap[w3.heap.size]? = some (.cells #[.int .i64 (cnt Tr.b T (i + 1)), .int .i64 (cnt Tr.l T (i + 1)), .int .i64 (cnt Tr.r T (i + 1))] 62 (0, 0)) := HMV.out
                  have HMK := Lib.hid hMk
                  clear hMk HMV
                  have hway : (i < x.l.length ∧ t.b = (i : Int)) ∨ (¬ i < x.l.length ∧ t.b = -1 ∧ ¬ t.l = -1) ∨ (¬ i < x.l.length ∧ t.b = -1 ∧ t.l = -1 ∧ ¬ t.r = -1) := by
                    have h := HE.out.base i t HKA.out
                    rw [L1.out] at h
                    have h' := HE.out.any t (List.mem_of_getElem? HKA.out)
                    omega
                  have HEQ := @eql_arr3
                  have hn1 : ¬ (i : Int) = -1 := by omega
                  rcases hway with ⟨hib, hbv⟩ | ⟨hib, hbv, hlv1⟩ | ⟨hib, hbv, hlv1, hrv1⟩
                  all_goals
                    have hib' := hib
                    rw [← Int.ofNat_lt (m := x.l.length)] at hib'
                    go_wp2_with fail
                    go_loopw [15] (fun i15 wl => ∃ k2 : Nat, k2 ≤ i ∧ i15 = .int .i64 k2 ∧ Below w3.heap.size w3 wl ∧ wl.heap[wo.heap.size]? = some (.cells #[.string t.id, .int .i64 t.b, .int .i64 t.l, .int .i64 t.r] 64 (0, 0)) ∧ wl.heap[w3.heap.size]? = some (.cells #[.int .i64 (cnt Tr.b T (i + 1)), .int .i64 (cnt Tr.l T (i + 1)), .int .i64 (cnt Tr.r T (i + 1))] 62 (0, 0))) (fun i15 _ => i - (intOf i15).toNat)
                    case atStart => exact ⟨0, Nat.zero_le _, by go_num, HBV.out, HXV.out, HMK.out⟩
                    case round =>
                      obtain ⟨wl, hwo⟩ : ∃ w0 : World, w0 = wr := ⟨_, rfl⟩
                      subst hwo
                      obtain ⟨k2, hk2', rfl, hbl3, hXl, hMl⟩ := hrel
                      have hll := lt_of_block hXl
                      by_cases hlt2 : k2 < i
                      · have hlt2' : (k2 : Int) < (i : Int) := by omega
                        have hk0 : (0 : Int) ≤ (k2 : Int) := by omega
                        have hkT : (k2 : Int) < (T.length : Int) := by omega
                        have hwk : IntKind.i64.wrap ((k2 : Int) + 1) = ((k2 + 1 : Nat) : Int) := by rw [IntWalk.i64_in _ (by omega)]; omega
                        have kq : T[k2]? = some T[k2] := List.getElem?_eq_getElem (by omega)
                        have hne := ids_apart HE.out.ids kq HKA.out (by omega)
                        generalize T[k2] = q at kq hne
                        obtain ⟨b3, off3, hA3, -, -, hbb3, hc3⟩ := HT4.out.up hbl3 (by omega)
                        cases hA3
                        have q0 := hc3 k2 q kq 0 _ rfl
                        rw [Nat.add_zero] at q0
                        obtain ⟨y0, -, -, -⟩ := four_cells hXl
                        have hbe : ¬ q.id.toList = t.id.toList := fun e => hne (bl_eq e)
                        have hbd : (q.id.toList == t.id.toList) = false := beq_false_of_ne hbe
                        have HBL := Lib.hid hbl3
                        have HXL := Lib.hid hXl
                        have HML := Lib.hid hMl
                        clear hc3 kq hbl3 hXl hMl x0 x1 x2 x3 a0 a1 a2 g0 g1 g2 r2
                        go_upto_region 33 with fail
                        go_quiet (fail)
                        go_wp2_with fail
                        exact ⟨⟨k2 + 1, by omega, by go_num, below_drewN HBL.out _, HXL.out, HML.out⟩, by simp [intOf]; omega⟩
                      · have hge2 : ¬ (k2 : Int) < (i : Int) := by omega
                        go_wp2_with fail
                        exact ⟨⟨i + 1, by omega, by go_num, hbl3, hMl⟩, by simp [intOf]; omega⟩
            · have hge : ¬ (i : Int) < (T.length : Int) := by omega
              obtain rfl : i = T.length := by omega
              have hmm : wo.heap[w3.heap.size]? = some (.cells #[.int .i64 (x.l.length : Int), .int .i64 (y.l.length : Int), .int .i64 (z.l.length : Int)] 62 (0, 0)) := by
                rw [hmany, cnt_all, cnt_all, cnt_all, HE.out.cb, HE.out.cl, HE.out.cr, L1.out, L2.out, L3.out]
              obtain ⟨m0, m1, m2⟩ := three_cells hmm
              have HX := @eql_arr3
              clear hmany hmm hbr kr1 hbwr
              go_wp2_with (go_at_call 36; refine (HL _ HBWR.out).out.mono ?_; rintro e w5 ⟨rfl, hb5⟩)
              go_ret
              exact ⟨rfl, below_via HBWR.out hb5⟩
      · have hno1 : namesP f x.v = none ∨ namesP f y.v = none ∨ namesP f z.v = none := by
          cases h1 : namesP f x.v with
          | none => exact .inl rfl
          | some xb =>
            cases h2 : namesP f y.v with
            | none => exact .inr (.inl rfl)
            | some xl =>
              cases h3 : namesP f z.v with
              | none => exact .inr (.inr rfl)
              | some xr => exact absurd ⟨xb, xl, xr, h1, h2, h3⟩ hall
        have hno2 : namesP f x.v = none ∨ namesP f z.v = none ∨ namesP f y.v = none := hno1.imp id Or.symm
        have HP1 := fun W (h : Below w.heap.size w W) => Lib.hid (plan_no (hx.up h) (hy.up h) (hz.up h) at_ sh pr v (hS.below h) hno1)
        have HP2 := fun W (h : Below w.heap.size w W) => Lib.hid (plan_no (hx.up h) (hz.up h) (hy.up h) at_ sh pr (uT v) (hS.below h) hno2)
        clear hno1 hno2 hall
        go_upto_if 49 with (
          go_at_call 37
          refine (HP1 _ HB3.out).out.mono ?_
          rintro e w2 ⟨rfl, hb2⟩
          have hbw2 := below_via HB3.out hb2
          have hs2 := hb2.size
          have km1 := (hb2.block w.heap.size hl31).trans HKL1.out
          have km2 := (hb2.block (w.heap.size + 1) hl32).trans HKL2.out
          have hm1 : w.heap.size < w2.heap.size := by omega
          have hm2 : w.heap.size + 1 < w2.heap.size := by omega
          obtain ⟨b0, b1, b2⟩ := three_cells km1
          obtain ⟨s0, s1, s2, s3, s4⟩ := five_cells km2)
        go_cut [] (fun wx => wx.heap[w2.heap.size]? = some (.cells #[.bool at_, .int .u8 sh, .string f, .int .u8 pr, .int .u8 (uT v)] 57 (0, 0)) ∧ Below w2.heap.size w2 wx)
        case first =>
          have hba : Below w2.heap.size w2 (w2.alloc (.cells #[.bool at_, .int .u8 sh, .string f, .int .u8 pr, .int .u8 v] 57)) := (Below.refl _ _).alloc (Nat.le_refl _) _
          have hna := heap_alloc_new w2 (.cells #[.bool at_, .int .u8 sh, .string f, .int .u8 pr, .int .u8 v] 57)
          have HBA := Lib.hid hba
          have HNA := Lib.hid hna
          clear hba hna
          by_cases hv0 : v = 0
          · subst hv0
            go_wp2_with fail
            go_meet
            exact ⟨HNA.out, HBA.out⟩
          · have hwv : IntKind.u8.wrap (3 - v) = 3 - v := by
              have c : v = 1 ∨ v = 2 := by omega
              rcases c with rfl | rfl <;> rfl
            have hfz := five_fz HNA.out
            go_wp2_with fail
            go_meet
            exact ⟨by rw [uT, if_neg hv0]; exact heap_alloc_new w2 _, (Below.refl _ _).alloc (Nat.le_refl _) _⟩
        case rest =>
          obtain ⟨hbk, hbc⟩ := hcut
          have hlc := lt_of_block hbk
          have hbwc := below_via hbw2 hbc
          have hsc := hbc.size
          obtain ⟨d0, d1, d2, d3, d4⟩ := five_cells hbk
          have kc1 := (hbc.block w.heap.size hm1).trans km1
          obtain ⟨g0, g1, g2⟩ := three_cells kc1
          have hc1 : w.heap.size < wc.heap.size := by omega
          have HBWC := Lib.hid hbwc
          clear hbk hbc hbwc kc1 km1 km2 b0 b1 b2 s0 s1 s2 s3 s4 a0 a1 a2 r0 r1 r2 r3 r4 HKL1 HKL2 hb2 hbw2
          go_wp2_with (first
            | (go_at_call 37; refine (HP2 _ HBWC.out).out.mono ?_; rintro e w3 ⟨rfl, hb3⟩; have hbw3 := below_via HBWC.out hb3)
            | (go_at_call 36; refine (HL _ hbw3).out.mono ?_; rintro e w5 ⟨rfl, hb5⟩))
          go_ret
          exact ⟨rfl, below_via hbw3 hb5⟩
    · go_wp2_with (go_at_call 36; refine (HL _ hbw).out.mono ?_; rintro e w5 ⟨rfl, hb5⟩)
      go_ret
      exact ⟨rfl, below_via hbw hb5⟩
end Go.Proofs.YtdapimjhjnbfdaaDoor
