/-
  inarchlaw22.LcsAround answers true. Conditions: the lists lie in memory, lengths and weights are bounded; strconv's table of powers holds what its initialiser lays.
-/
import Derived.Test.YtjihepdjcbpgoaaDoorMO
import Derived.Test.YtjihepdjcbpgoaaDoorVM
namespace Go.Proofs.YtjihepdjcbpgoaaDoor
open Go.RowKit Go.Sort

/-- What lets the law go on. -/
def AroundOk (x y z : LA) : Prop := (SmallQ x ∧ SmallQ y ∧ SmallQ z) ∧ x.l.length + y.l.length + z.l.length ≤ 60 ∧ allMay x.v = true ∧ allMay y.v = true ∧ allMay z.v = true

set_option maxRecDepth 100000 in
set_option maxHeartbeats 3200000 in
theorem around (w : World) (x y z : LA) (hx : x.Rd w) (hy : y.Rd w) (hz : z.Rd w) (hP : Pow w) :
    Calls Tryd.prog 4 #[.slice x.a x.l.length x.c, .slice y.a y.l.length y.c, .slice z.a z.l.length z.c] w (Ret (.bool true) w) := by
  have HG1 := fun W (h : Below w.heap.size w W) => Lib.hid (great22_s W x (hx.up h))
  have HG2 := fun W (h : Below w.heap.size w W) => Lib.hid (great22_s W y (hy.up h))
  have HG3 := fun W (h : Below w.heap.size w W) => Lib.hid (great22_s W z (hz.up h))
  have HF1 := fun W (h : Below w.heap.size w W) => Lib.hid (fine22_c W x (hx.up h))
  have HF2 := fun W (h : Below w.heap.size w W) => Lib.hid (fine22_c W y (hy.up h))
  have HF3 := fun W (h : Below w.heap.size w W) => Lib.hid (fine22_c W z (hz.up h))
  have HLV := fun W (h : Below w.heap.size w W) => Lib.hid (lives22_c W (hP.below h))
  have HPXY := fun W (h : Below w.heap.size w W) => Lib.hid (pairs_c W x y (hx.up h) (hy.up h) (hP.below h))
  have hxl := hx.len
  have hyl := hy.len
  have hzl := hz.len
  have HX := Lib.hid hx
  have HY := Lib.hid hy
  have HZ := Lib.hid hz
  have HP := Lib.hid hP
  clear hx hy hz hP
  have hw1 : IntKind.i64.wrap ((x.l.length : Int) + (y.l.length : Int)) = ((x.l.length + y.l.length : Nat) : Int) := by rw [IntWalk.i64_in _ (by omega)]; omega
  have hw2 : IntKind.i64.wrap (((x.l.length + y.l.length : Nat) : Int) + (z.l.length : Int)) = ((x.l.length + y.l.length + z.l.length : Nat) : Int) := by rw [IntWalk.i64_in _ (by omega)]; omega
  have hw3 : IntKind.i64.wrap ((x.l.length : Int) + (y.l.length : Int) + (z.l.length : Int)) = ((x.l.length + y.l.length + z.l.length : Nat) : Int) := by rw [IntWalk.i64_in _ (by omega)]; omega
  obtain ⟨s, hs⟩ : ∃ s, s = x.l.length + y.l.length + z.l.length := ⟨_, rfl⟩
  rw [← hs] at hw2 hw3
  have HS := Lib.hid hs
  clear hs
  go_enter Tryd.func4, Tryd.ntmps4
  go_upto_region 1 with fail
  go_cut [55] (fun s55 wx => ∃ r : Bool, s55 = .bool r ∧ (r = false → AroundOk x y z) ∧ Below w.heap.size w wx)
  case first =>
    obtain ⟨c1, hc1⟩ : ∃ c, allMay x.v = c := ⟨_, rfl⟩
    obtain ⟨c2, hc2⟩ : ∃ c, allMay y.v = c := ⟨_, rfl⟩
    obtain ⟨c3, hc3⟩ : ∃ c, allMay z.v = c := ⟨_, rfl⟩
    rw [hc1] at HF1
    rw [hc2] at HF2
    rw [hc3] at HF3
    have HC := Lib.hid (And.intro hc1 (And.intro hc2 hc3))
    clear hc1 hc2 hc3
    by_cases h60 : 60 < s
    · have h60' : (60 : Int) < (s : Int) := by omega
      go_wp2_with (go_at_call 8; first
        | ((with_reducible refine (HG1 _ (Below.refl _ _)).out.mono ?_); rintro e w1 ⟨r, rfl, hf1, hb1⟩
           have hbw1 := hb1
           clear hf1
           cases r)
        | ((with_reducible refine (HG2 _ hbw1).out.mono ?_); rintro e w2 ⟨r, rfl, hf2, hb2⟩
           have hbw2 := below_via hbw1 hb2
           clear hf2
           cases r)
        | ((with_reducible refine (HG3 _ hbw2).out.mono ?_); rintro e w3 ⟨r, rfl, hf3, hb3⟩
           have hbw3 := below_via hbw2 hb3
           clear hf3
           cases r))
      all_goals go_meet
      all_goals first | exact ⟨_, rfl, (fun h => by cases h), hbw3⟩ | exact ⟨_, rfl, (fun h => by cases h), hbw2⟩ | exact ⟨_, rfl, (fun h => by cases h), hbw1⟩
    · have h60' : ¬ (60 : Int) < (s : Int) := by omega
      go_wp2_with (first
        | (go_at_call 8; first
          | ((with_reducible refine (HG1 _ (Below.refl _ _)).out.mono ?_); rintro e w1 ⟨r, rfl, hf1, hb1⟩
             have hbw1 := hb1
             have HQ1 := Lib.hid hf1
             clear hf1
             cases r)
          | ((with_reducible refine (HG2 _ hbw1).out.mono ?_); rintro e w2 ⟨r, rfl, hf2, hb2⟩
             have hbw2 := below_via hbw1 hb2
             have HQ2 := Lib.hid hf2
             clear hf2
             cases r)
          | ((with_reducible refine (HG3 _ hbw2).out.mono ?_); rintro e w3 ⟨r, rfl, hf3, hb3⟩
             have hbw3 := below_via hbw2 hb3
             have HQ3 := Lib.hid hf3
             clear hf3
             cases r))
        | (go_at_call 17; first
          | ((with_reducible refine (HF1 _ hbw3).out.mono ?_); rintro e w4 ⟨rfl, hb4⟩
             have hbw4 := below_via hbw3 hb4
             cases c1)
          | ((with_reducible refine (HF2 _ hbw4).out.mono ?_); rintro e w5 ⟨rfl, hb5⟩
             have hbw5 := below_via hbw4 hb5
             cases c2)
          | ((with_reducible refine (HF3 _ hbw5).out.mono ?_); rintro e w6 ⟨rfl, hb6⟩
             have hbw6 := below_via hbw5 hb6
             cases c3)))
      all_goals go_meet
      all_goals first
        | exact ⟨_, rfl, (fun h => by cases h), hbw6⟩ | exact ⟨_, rfl, (fun h => by cases h), hbw5⟩ | exact ⟨_, rfl, (fun h => by cases h), hbw4⟩
        | exact ⟨_, rfl, (fun h => by cases h), hbw3⟩ | exact ⟨_, rfl, (fun h => by cases h), hbw2⟩ | exact ⟨_, rfl, (fun h => by cases h), hbw1⟩
        | exact ⟨_, rfl, (fun _ => ⟨⟨HQ1.out (by simp), HQ2.out (by simp), HQ3.out (by simp)⟩, by have := HS.out; omega, HC.out.1, HC.out.2.1, HC.out.2.2⟩), hbw6⟩
  case rest =>
    obtain ⟨r, rfl, hok, hb0⟩ := hcut
    have HOK := Lib.hid hok
    clear hok
    cases r with
    | true =>
      go_wp2_with (go_at_call 9; refine (HLV _ hb0).out.mono ?_; rintro e w5 ⟨rfl, hb5⟩)
      go_ret
      exact ⟨rfl, below_via hb0 hb5⟩
    | false =>
      obtain ⟨⟨sx, sy, sz⟩, hsum, mx, my, mz⟩ := HOK.out rfl
      have HM := Lib.hid (And.intro mx (And.intro my mz))
      have HSX := Lib.hid (And.intro sx sy)
      clear mx my mz sx sy sz HOK
      go_upto_region 4 with (first
        | (go_at_call 11; refine (HPXY _ hb0).out.mono ?_; rintro e w1 ⟨G, P, rfl, he, ho, hb1⟩
           have hbw1 := below_via hb0 hb1
           have hsp := pr_sl ho
           obtain ⟨PA, hPA⟩ : ∃ PA : Option Addr, PA = some ⟨G, 0, none⟩ := ⟨_, rfl⟩
           rw [← hPA] at hsp ⊢
           have hpl : P.length ≤ 60 := by rw [he.len]; exact Nat.le_trans (lcs_le_l _ _) (Nat.le_trans (Nat.le_of_eq ((labs_len 0 x.v).trans (List.length_map _))) (by omega))
           have HE := Lib.hid he
           have HSP := Lib.hid hsp
           clear he ho hsp hPA))
      have hlzx : z.l.length + x.l.length ≤ 1048576 := by omega
      have hlzy : z.l.length + y.l.length ≤ 1048576 := by omega
      have hlxz : x.l.length + z.l.length ≤ 1048576 := by omega
      have hlyz : y.l.length + z.l.length ≤ 1048576 := by omega
      go_upto_region 10 with (first
        | (obtain ⟨g1, V1, u, V2, hr1, hr2, hu, hur, -, hbu⟩ := app_two w1 z x (HZ.out.up hbw1) (HX.out.up hbw1) hlzx
           have kq1 := trivial
           at_builtin; refine wl_append (s := .const (.slice none 0 0)) (x := .tmp 60) rfl rfl (hr1 _) ?_
           clear hr1
           have HU := Lib.hid hu
           have HUR := Lib.hid hur
           have hbwu := below_via hbw1 hbu
           clear hu hur)
        | (have kq2 := kq1
           at_builtin; refine wl_append (s := .tmp 61) (x := .tmp 62) rfl rfl (hr2 _) ?_
           clear hr2)
        | (obtain ⟨g2, V3, v, V4, hr3, hr4, hv, hvr, -, hbv⟩ := app_two V2 z y (HZ.out.up hbwu) (HY.out.up hbwu) hlzy
           at_builtin; refine wl_append (s := .const (.slice none 0 0)) (x := .tmp 64) rfl rfl (hr3 _) ?_
           clear hr3
           have HV := Lib.hid hv
           have HVR := Lib.hid hvr
           have hbwv := below_via hbwu hbv
           have HUR2 := Lib.hid (HUR.out.up hbv)
           clear hv hvr)
        | (at_builtin; refine wl_append (s := .tmp 65) (x := .tmp 66) rfl rfl (hr4 _) ?_
           clear hr4)
        | (go_at_call 11; refine (pairs_c _ u v HUR2.out HVR.out (HP.out.below hbwv)).mono ?_; rintro e w5 ⟨G2, Q, rfl, he, ho, hb5⟩
           have hbw5 := below_via hbwv hb5
           have hsp := pr_sl ho
           obtain ⟨PB, hPB⟩ : ∃ PB : Option Addr, PB = some ⟨G2, 0, none⟩ := ⟨_, rfl⟩
           rw [← hPB] at hsp ⊢
           have hqe : Q = diag z.v.length ++ shP z.v.length z.v.length P := by
             have e1 : u.v = z.v ++ x.v := by rw [LA.v, HU.out, List.map_append]; rfl
             have e2 : v.v = z.v ++ y.v := by rw [LA.v, HV.out, List.map_append]; rfl
             rw [e1, e2] at he
             exact around_front HM.out.1 HM.out.2.1 HM.out.2.2 HE.out he
           have hzv : z.v.length = z.l.length := List.length_map _
           rw [hzv] at hqe
           have hql : Q.length = z.l.length + P.length := by rw [hqe, List.length_append, diag_len, shP, List.length_map]
           have hqn : ((Q.length : Int) != ((P.length + z.l.length : Nat) : Int)) = false := by simp [hql]; omega
           have hqn2 : ((Q.length : Int) != (P.length : Int) + (z.l.length : Int)) = false := by simp [hql]; omega
           have hqn3 : (Q.length != P.length + z.l.length) = false := by simp [hql]; omega
           have hwpl : IntKind.i64.wrap ((P.length : Int) + (z.l.length : Int)) = ((P.length + z.l.length : Nat) : Int) := by rw [IntWalk.i64_in _ (by omega)]; omega
           have HQE := Lib.hid hqe
           have HQL := Lib.hid hql
           have HSQ := Lib.hid hsp
           clear he ho hsp hPB hqe hzv hql)
        | (obtain ⟨g3, V5, a1, V6, hr5, hr6, ha1, har, -, hba⟩ := app_two w5 x z (HX.out.up hbw5) (HZ.out.up hbw5) hlxz
           at_builtin; refine wl_appendG (s := .const (.slice none 0 0)) (x := .tmp 81) rfl rfl (hr5 _) ?_
           clear hr5
           have HA1 := Lib.hid ha1
           have HAR := Lib.hid har
           have hbwa := below_via hbw5 hba
           clear ha1 har)
        | (at_builtin; refine wl_appendG (s := .tmp 82) (x := .tmp 83) rfl rfl (hr6 _) ?_
           clear hr6)
        | (obtain ⟨g4, V7, b1, V8, hr7, hr8, hb1', hbr, -, hbb⟩ := app_two V6 y z (HY.out.up hbwa) (HZ.out.up hbwa) hlyz
           at_builtin; refine wl_appendG (s := .const (.slice none 0 0)) (x := .tmp 85) rfl rfl (hr7 _) ?_
           clear hr7
           have HB1 := Lib.hid hb1'
           have HBR := Lib.hid hbr
           have hbwb := below_via hbwa hbb
           have HAR2 := Lib.hid (HAR.out.up hbb)
           clear hb1' hbr)
        | (at_builtin; refine wl_appendG (s := .tmp 86) (x := .tmp 87) rfl rfl (hr8 _) ?_
           clear hr8)
        | (go_at_call 13; refine (long_c _ a1 b1 HAR2.out HBR.out (HP.out.below hbwb)).mono ?_; rintro e w6 ⟨rfl, hb6⟩
           have hbw6 := below_via hbwb hb6
           have hlong : lcsL (labs 0 a1.v) (labs 1 b1.v) = P.length + z.l.length := by
             have e1 : a1.v = x.v ++ z.v := by rw [LA.v, HA1.out, List.map_append]; rfl
             have e2 : b1.v = y.v ++ z.v := by rw [LA.v, HB1.out, List.map_append]; rfl
             rw [e1, e2, around_back HM.out.1 HM.out.2.1 HM.out.2.2 HE.out]
             congr 1
             exact List.length_map _
           rw [hlong]
           have hln : (((P.length + z.l.length : Nat) : Int) != ((P.length + z.l.length : Nat) : Int)) = false := by simp
           clear hlong))
      have hb15 : Below w1.heap.size w1 w5 := below_via (below_via hbu hbv) hb5
      have hb56 : Below w5.heap.size w5 w6 := below_via (below_via hba hbb) hb6
      have HB15 := Lib.hid hb15
      obtain ⟨n, hn⟩ : ∃ n, n = z.l.length := ⟨_, rfl⟩
      have hn60 : n ≤ 60 := by omega
      have HQE2 := Lib.hid (show Q = diag n ++ shP n n P by rw [hn]; exact HQE.out)
      have hql : Q.length = n + P.length := by rw [hn]; exact HQL.out
      have HN := Lib.hid hn
      have HQL2 := Lib.hid hql
      have hql2 : Q.length ≤ 120 := by omega
      rw [← hn]
      clear hbu hbv hb5 hba hbb hb6 hb15 hqn hqn2 hqn3 hwpl hn hql hln hb1
      go_wp2_with fail
      go_loopw [12] (fun s12 wr => ∃ i : Nat, i ≤ Q.length ∧ s12 = .int .i64 i ∧ Below w5.heap.size w5 wr) (fun s12 _ => Q.length - (intOf s12).toNat)
      case atStart => exact ⟨0, Nat.zero_le _, by go_num, hb56⟩
      case round =>
        clear hb56
        obtain ⟨i, hi, rfl, hbr⟩ := hrel
        have HBR := Lib.hid hbr
        by_cases hlt : i < Q.length
        · have hlt' : (i : Int) < (Q.length : Int) := by omega
          have hi0 : (0 : Int) ≤ (i : Int) := by omega
          have hwi : IntKind.i64.wrap ((i : Int) + 1) = ((i + 1 : Nat) : Int) := by rw [IntWalk.i64_in _ (by omega)]; omega
          by_cases hin : i < n
          · have hq : Q[i]? = some (i, i) := by rw [HQE2.out, List.getElem?_append_left (by rw [diag_len]; exact hin)]; exact diag_get hin
            obtain ⟨b1, o1, e1, -, -, g1, c1, d1⟩ := pr_at HSQ.out hq
            have c2 : w5.cell? ⟨b1, o1 + i * 2, none⟩ = some (.int .i64 (i : Int)) := c1
            have d2 : w5.cell? ⟨b1, o1 + i * 2 + 1, none⟩ = some (.int .i64 (i : Int)) := d1
            rw [← hbr.cell (p := ⟨_, _, none⟩) g1] at c2 d2
            have f1 : b1 < wr.heap.size := Nat.lt_of_lt_of_le g1 hbr.size
            have hin' : (i : Int) < (n : Int) := by omega
            have hni' : ¬ (n : Int) ≤ (i : Int) := by omega
            have hneq : ∀ W, (binOp .neq 35 (.agg #[.int .i64 i, .int .i64 i]) (.agg #[.int .i64 i, .int .i64 i])).run Tryd.prog W = .ok (.bool false) W := fun W => (neq_pr (i, i) (i, i) W).trans (by rw [decide_eq_true rfl]; rfl)
            have HE1 := Lib.hid e1
            rw [HE1.out]
            go_upto_region 13 with fail
            have hn1 : decide (i < n) = true := decide_eq_true hin
            have hn2 : decide ((i : Int) < (n : Int)) = true := decide_eq_true hin'
            have hn3 : decide (n ≤ i) = false := decide_eq_false (by omega)
            have hn4 : decide ((n : Int) ≤ (i : Int)) = false := decide_eq_false hni'
            have LD := Lib.hid (show ∀ W, Below wr.heap.size wr W → _ from fun W (h : Below wr.heap.size wr W) => And.intro ((h.cell (p := ⟨_, _, none⟩) f1).trans c2) ((h.cell (p := ⟨_, _, none⟩) f1).trans d2))
            clear hbr hq c1 d1 e1 c2 d2
            refine wp_region_bl (by kernel_rfl) (by kernel_rfl) ?_
            repeat (first | go_big_quiet_skip | (go_big_quiet_want; go_big_quiet_op; first | go_big_quiet_on | (refine ⟨_, fun _ _ => (by with_reducible rfl), ?_⟩; go_big_quiet_on) | (apply Exists.intro; refine ⟨fun w' hC => (by simp only [LD.out w' hC, Result.andThen]; exact ⟨trivial, rfl⟩), ?_⟩; go_big_quiet_on) | (apply Exists.intro; refine ⟨fun w' hC => (by simp only [hneq, Result.andThen]; exact ⟨trivial, rfl⟩), ?_⟩; go_big_quiet_on)))
            refine wpQuiet_nil ?_; intro wz hbz
            go_wp2_with fail
            exact ⟨⟨i + 1, by omega, by go_num, below_via HBR.out hbz⟩, by simp [intOf]; omega⟩
          · obtain ⟨j, hj⟩ : ∃ j, j + n = i := ⟨i - n, by omega⟩
            have hjl : j < P.length := by have := HQL2.out; omega
            have hp : P[j]? = some P[j] := List.getElem?_eq_getElem hjl
            generalize P[j] = p at hp
            obtain ⟨m1, hm1⟩ : ∃ m, m = p.1 + n := ⟨_, rfl⟩
            obtain ⟨m2, hm2⟩ : ∃ m, m = p.2 + n := ⟨_, rfl⟩
            have hq : Q[i]? = some (m1, m2) := by
              rw [HQE2.out, List.getElem?_append_right (by rw [diag_len]; omega), diag_len, show i - n = j by omega, shP, List.getElem?_map, hp, hm1, hm2]; rfl
            obtain ⟨b1, o1, e1, -, -, g1, c1, d1⟩ := pr_at HSQ.out hq
            obtain ⟨b2, o2, e2, -, -, g2, c3, d3⟩ := pr_at HSP.out hp
            have hb1r : Below w1.heap.size w1 wr := below_via HB15.out hbr
            have c2 : w5.cell? ⟨b1, o1 + i * 2, none⟩ = some (.int .i64 (m1 : Int)) := c1
            have d2 : w5.cell? ⟨b1, o1 + i * 2 + 1, none⟩ = some (.int .i64 (m2 : Int)) := d1
            rw [← hbr.cell (p := ⟨_, _, none⟩) g1] at c2 d2
            rw [← hb1r.cell (p := ⟨_, _, none⟩) g2] at c3 d3
            have f1 : b1 < wr.heap.size := Nat.lt_of_lt_of_le g1 hbr.size
            have f2 : b2 < wr.heap.size := Nat.lt_of_lt_of_le g2 hb1r.size
            have hpxy := match_at0 HE.out hp
            obtain ⟨pu, pv, hpu, hpv, -⟩ := hpxy
            have hp1 : p.1 < x.l.length := (List.getElem?_eq_some_iff.1 hpu).1
            have hp2 : p.2 < y.l.length := (List.getElem?_eq_some_iff.1 hpv).1
            have hneq : ∀ W, (binOp .neq 35 (.agg #[.int .i64 m1, .int .i64 m2]) (.agg #[.int .i64 m1, .int .i64 m2])).run Tryd.prog W = .ok (.bool false) W := fun W => (neq_pr (m1, m2) (m1, m2) W).trans (by rw [decide_eq_true rfl]; rfl)
            have HE12 := Lib.hid (And.intro e1 e2)
            rw [HE12.out.1, HE12.out.2]
            clear e1 e2 hpu hpv
            go_upto_region 13 with fail
            have hin' : ¬ (i : Int) < (n : Int) := by omega
            have hni' : (n : Int) ≤ (i : Int) := by omega
            have hn1 : decide (i < n) = false := decide_eq_false hin
            have hn2 : decide ((i : Int) < (n : Int)) = false := decide_eq_false hin'
            have hn3 : decide (n ≤ i) = true := decide_eq_true (by omega)
            have hn4 : decide ((n : Int) ≤ (i : Int)) = true := decide_eq_true hni'
            have hws : IntKind.i64.wrap ((i : Int) - (n : Int)) = (j : Int) := by rw [IntWalk.i64_in _ (by omega)]; omega
            have hw1 : IntKind.i64.wrap ((p.1 : Int) + (n : Int)) = (m1 : Int) := by rw [IntWalk.i64_in _ (by omega)]; omega
            have hw2 : IntKind.i64.wrap ((p.2 : Int) + (n : Int)) = (m2 : Int) := by rw [IntWalk.i64_in _ (by omega)]; omega
            have hj0 : (0 : Int) ≤ (j : Int) := by omega
            have hjl' : (j : Int) < (P.length : Int) := by omega
            have LD := Lib.hid (show ∀ W, Below wr.heap.size wr W → _ from fun W (h : Below wr.heap.size wr W) => And.intro ((h.cell (p := ⟨_, _, none⟩) f1).trans c2) (And.intro ((h.cell (p := ⟨_, _, none⟩) f1).trans d2) (And.intro ((h.cell (p := ⟨_, _, none⟩) f2).trans c3) ((h.cell (p := ⟨_, _, none⟩) f2).trans d3))))
            have HJ := Lib.hid (And.intro hj (And.intro hm1 hm2))
            clear hbr hb1r hq hp c1 d1 c2 d2 c3 d3 hj hm1 hm2 hp1 hp2
            refine wp_region_bl (by kernel_rfl) (by kernel_rfl) ?_
            repeat (first | go_big_quiet_skip | (go_big_quiet_want; go_big_quiet_op; first | go_big_quiet_on | (refine ⟨_, fun _ _ => (by with_reducible rfl), ?_⟩; go_big_quiet_on) | (apply Exists.intro; refine ⟨fun w' hC => (by simp only [LD.out w' hC, Result.andThen]; exact ⟨trivial, rfl⟩), ?_⟩; go_big_quiet_on) | (apply Exists.intro; refine ⟨fun w' hC => (by simp only [hneq, Result.andThen]; exact ⟨trivial, rfl⟩), ?_⟩; go_big_quiet_on)))
            refine wpQuiet_nil ?_; intro wz hbz
            go_wp2_with fail
            exact ⟨⟨i + 1, by omega, by go_num, below_via HBR.out hbz⟩, by simp [intOf]; omega⟩
        · have hge : ¬ (i : Int) < (Q.length : Int) := by omega
          obtain ⟨W7, hW7⟩ : ∃ W7, W7 = wr := ⟨_, rfl⟩
          subst hW7
          have hbw7 := below_via hbw5 hbr
          have HB57 := Lib.hid hbr
          clear hbr hlt
          go_wp2_with fail
          go_loopw [13, 14] (fun s13 s14 wl => ∃ (k : Nat) (c : LA), k ≤ x.l.length ∧ s14 = .int .i64 k ∧ s13 = .slice c.a c.l.length c.c ∧ c.v = (turnAll x.v).take k ∧ Trees W7.heap.size wl c ∧ Below W7.heap.size W7 wl) (fun _ s14 _ => x.l.length - (intOf s14).toNat)
          case atStart => exact ⟨0, ⟨none, [], 0⟩, Nat.zero_le _, by go_num, rfl, by rw [List.take_zero]; rfl, trees_nil _ _, Below.refl _ _⟩
          case round =>
            obtain ⟨k, c, hk, rfl, rfl, hcv, htr, hbl⟩ := hrel
            have hcl : c.l.length = k := by
              have h := congrArg List.length hcv
              rw [LA.v, List.length_map, List.length_take, turnAll, List.length_mapIdx, LA.v, List.length_map] at h
              omega
            have HCV := Lib.hid hcv
            have HTR := Lib.hid htr
            have HBL := Lib.hid hbl
            have HCL := Lib.hid hcl
            have HW7 := Lib.hid hbw7
            have hwr : Below w.heap.size w wr := below_via hbw7 hbl
            have HWR := Lib.hid hwr
            have HB7 := Lib.hid hbl.size
            clear hcv htr hbl hcl hbw7
            by_cases hlt : k < x.l.length
            · have ht : x.l[k]? = some x.l[k] := List.getElem?_eq_getElem hlt
              generalize x.l[k] = t at ht
              have htm := List.mem_of_getElem? ht
              have hmay : t.v.may = true := may_of HM.out.1 (List.mem_map_of_mem htm)
              obtain ⟨hrd, htw⟩ := HX.out.kids t htm
              have HT := Lib.hid (turned_c k (by omega) 256 t wr (hrd.up hwr) htw (by rw [Val.may_eq]; exact hmay))
              obtain ⟨bu, ou, eu, -, -, gu, u0, u1, u2, u3⟩ := vals_at (HX.out.up hwr).sl ht
              have hlt' : (k : Int) < (x.l.length : Int) := by omega
              have hk0 : (0 : Int) ≤ (k : Int) := by omega
              have hwk : IntKind.i64.wrap ((k : Int) + 1) = ((k + 1 : Nat) : Int) := by rw [IntWalk.i64_in _ (by omega)]; omega
              have hcv8 : IntKind.u8.wrap (k : Int) = (k : Int) := IntWalk.u8_in _ (by omega)
              have HKT := Lib.hid ht
              have HTW := Lib.hid htw
              have HEU := Lib.hid eu
              clear ht htm hmay hrd htw hwr eu
              rw [HEU.out]
              go_wp2_with (first
                | (go_at_call 18; refine HT.out.mono ?_; rintro e w8 ⟨r, rfl, hrv, hri, hb8⟩
                   obtain ⟨c', W', hrun, hc', ht', hbW⟩ := trees_add HTR.out HB7.out hb8 hri (by show r.v.w ≤ _; rw [hrv, turned_w0]; exact HTW.out) (by have := HCL.out; omega)
                   have HRV := Lib.hid hrv
                   have HC' := Lib.hid hc'
                   have HT' := Lib.hid ht'
                   have HBW := Lib.hid hbW
                   clear hrv hri hc' ht' hbW)
                | (at_builtin; refine wl_append (s := .tmp 152) (x := .tmp 160) rfl rfl (hrun _) ?_; clear hrun))
              refine ⟨⟨k + 1, c', by omega, by go_num, rfl, ?_, HT'.out, HBL.out.trans HBW.out⟩, by simp [intOf]; omega⟩
              have e1 : c'.v = c.v ++ [r.v] := by rw [LA.v, HC'.out, List.map_append]; rfl
              have e2 : (turnAll x.v)[k]? = some (t.v.turned k) := by
                rw [turnAll, List.getElem?_mapIdx, LA.v, List.getElem?_map, HKT.out]
                simp only [Option.map_some]
                rw [Nat.mod_eq_of_lt (by omega)]
              rw [e1, HCV.out, List.take_add_one, e2, HRV.out]; rfl
            · have hge : ¬ (k : Int) < (x.l.length : Int) := by omega
              have hcr : c.Rd wr := HTR.out.rd (by have := HCL.out; omega)
              have hce : c.v = turnAll x.v := by
                rw [HCV.out]
                exact List.take_of_length_le (by rw [turnAll, List.length_mapIdx, LA.v, List.length_map]; omega)
              have HCR := Lib.hid hcr
              have HCE := Lib.hid hce
              clear hcr hce hwr
              go_upto_region 22 with (first
                | (go_at_call 11; refine (pairs_c _ c y HCR.out (HY.out.up HWR.out) (HP.out.below HWR.out)).mono ?_; rintro e w8 ⟨G3, R, rfl, he, ho, hb8⟩
                   have hbw8 := below_via HWR.out hb8
                   have hre : R = P := by
                     rw [HCE.out] at he
                     exact around_turn HM.out.1 HE.out he
                   subst hre
                   have hspr := pr_sl ho
                   have HSR := Lib.hid hspr
                   have HSP2 := Lib.hid ((HSP.out.up HB15.out).up (below_via HB57.out (below_via HBL.out hb8)))
                   clear he ho hspr)
                | (go_at_call 15; refine (samepr_c _ _ _ _ _ _ _ HSR.out HSP2.out (by omega) (by omega)).mono ?_; rintro e w9 ⟨rfl, hb9⟩
                   have hbw9 := below_via hbw8 hb9
                   rw [decide_eq_true rfl]))
              have hlxy : x.l.length + y.l.length ≤ 1048576 := by omega
              go_upto_region 23 with (first
                | (obtain ⟨g5, V9, o, V10, hr1, hr2, ho, -, hoo, hbo⟩ := app_two w9 x y (HX.out.up hbw9) (HY.out.up hbw9) hlxy
                   at_builtin; refine wl_append (s := .const (.slice none 0 0)) (x := .tmp 168) rfl rfl (hr1 _) ?_
                   clear hr1
                   have HO := Lib.hid ho
                   have HOO := Lib.hid hoo
                   have HBO := Lib.hid hbo
                   clear ho hoo hbo)
                | (at_builtin; refine wl_append (s := .tmp 169) (x := .tmp 170) rfl rfl (hr2 _) ?_
                   clear hr2))
              go_name_world WB hWB
              have hbx : WB.heap[V10.heap.size]? = some (boxL o) := by rw [← hWB]; exact heap_alloc_new V10 _
              have hbB : Below V10.heap.size V10 WB := by rw [← hWB]; exact (Below.refl _ _).alloc (Nat.le_refl _) _
              have hlV : V10.heap.size < WB.heap.size := by rw [← hWB]; simp
              clear hWB
              have hs9 : w9.heap.size ≤ V10.heap.size := HBO.out.size
              obtain ⟨o2, W', hrun, ho2, hbox, hset, hown2, hbW⟩ := own_step hbx (own_below HOO.out hbB) hs9 (fun e => by have := (World.ownsRow.lt HOO.out _ e).2; omega) (by omega) (by rw [HO.out, List.length_append]; omega)
              obtain ⟨q0, q1, q2, q3, f0, f1, f2, f3⟩ := vbox4 hbx
              obtain ⟨r0, r1, r2, r3, e0, e1, e2, e3⟩ := vbox4 hbox
              have HSET := Lib.hid hset
              have HOW2 := Lib.hid hown2
              have HO2 := Lib.hid ho2
              have hbF : Below w9.heap.size w9 (W'.setCell ⟨V10.heap.size, 2, none⟩ (.slice o2.a o2.l.length o2.c)) := (HBO.out.trans (hbB.mono hs9)).trans hbW
              have HBF := Lib.hid hbF
              clear hset hown2 ho2 hbF hbW hbx hbox hbB
              go_upto_region 24 with (at_builtin; refine wl_append (s := .tmp 174) (x := .tmp 176) rfl rfl (hrun _) ?_; clear hrun)
              obtain ⟨WF, hWF⟩ : ∃ WF, W'.setCell ⟨V10.heap.size, 2, none⟩ (.slice o2.a o2.l.length o2.c) = WF := ⟨_, rfl⟩
              rw [hWF] at HSET HOW2 HBF ⊢
              have he2 : o2.l = x.l ++ y.l ++ [zAV] := by rw [HO2.out, HO.out]
              have hbwF : Below w.heap.size w WF := below_via hbw9 HBF.out
              have HRDO := Lib.hid (ownA_rd HOW2.out he2 (HX.out.up hbwF) (HY.out.up hbwF))
              have HOWW := Lib.hid (ownA_w he2 HSX.out.1 HSX.out.2)
              have HOSZ := Lib.hid (ownA_size he2)
              obtain ⟨mo, hmo⟩ : ∃ c, (ownA o2).v.may = c := ⟨_, rfl⟩
              have HMAY := Lib.hid (show Calls Tryd.prog 19 #[.agg #[.int .u8 7, .string ⟨#[]⟩, .slice o2.a o2.l.length o2.c, .slice none 0 0]] WF (Ret (.bool mo) WF) by
                have h := may_c WF (ownA o2) HRDO.out HOWW.out
                rw [hmo] at h
                exact h)
              have HMO := Lib.hid hmo
              have hbx2 := HSET.out
              obtain ⟨p0, p1, p2, p3, -, -, -, -⟩ := vbox4 hbx2
              have hlF : V10.heap.size < WF.heap.size := lt_of_block hbx2
              clear q0 q1 q2 q3 f0 f1 f2 f3 r0 r1 r2 r3 e0 e1 e2 e3 hlV hWF he2 hmo hbx2
              go_wp2_with (first
                | (go_at_call 19; refine HMAY.out.mono ?_; rintro e w10 ⟨rfl, hb10⟩
                   have hbw10 := below_via hbwF hb10
                   cases mo)
                | (go_at_call 9; refine (HLV _ hbw10).out.mono ?_; rintro e w11 ⟨rfl, hb11⟩))
              · go_ret
                exact ⟨rfl, below_via hbw10 hb11⟩
              · have HB10 := Lib.hid hb10
                go_loopw [16, 17] (fun s16 s17 wl => ∃ (m : Nat) (d : LA), m ≤ x.l.length ∧ s17 = .int .i64 m ∧ s16 = .slice d.a d.l.length d.c ∧ d.l = weave (ownA o2) (x.l.take m) ∧ OwnV wl w10.heap.size (.slice d.a d.l.length d.c) d.l ∧ Below w10.heap.size w10 wl) (fun _ s17 _ => x.l.length - (intOf s17).toNat)
                case atStart => exact ⟨0, ⟨none, [], 0⟩, Nat.zero_le _, by go_num, rfl, rfl, own_nilV _ _, Below.refl _ _⟩
                case round =>
                  obtain ⟨m, d, hm, rfl, rfl, hd, hod, hbl⟩ := hrel
                  have hdl : d.l.length = 2 * m := by rw [hd, weave_len2, List.length_take]; omega
                  have HDL := Lib.hid hdl
                  have HD := Lib.hid hd
                  have HOD := Lib.hid hod
                  have HBL2 := Lib.hid hbl
                  have hbwl : Below w.heap.size w wr := below_via hbw10 hbl
                  have HBWL := Lib.hid hbwl
                  have hFl : Below WF.heap.size WF wr := below_via hb10 hbl
                  have hs10 := hbl.size
                  clear hd hod hbl hdl hb10
                  by_cases hlt2 : m < x.l.length
                  · have ht : x.l[m]? = some x.l[m] := List.getElem?_eq_getElem hlt2
                    generalize x.l[m] = t at ht
                    obtain ⟨bu, ou, eu, -, -, gu, u0, u1, u2, u3⟩ := vals_at (HX.out.up hbwl).sl ht
                    have hlt' : (m : Int) < (x.l.length : Int) := by omega
                    have hm0 : (0 : Int) ≤ (m : Int) := by omega
                    have hwm : IntKind.i64.wrap ((m : Int) + 1) = ((m + 1 : Nat) : Int) := by rw [IntWalk.i64_in _ (by omega)]; omega
                    have hlF2 : V10.heap.size < WF.heap.size := lt_of_block HSET.out
                    replace p0 := (hFl.cell (p := ⟨V10.heap.size, 0, none⟩) hlF2).trans p0
                    replace p1 := (hFl.cell (p := ⟨V10.heap.size, 1, none⟩) hlF2).trans p1
                    replace p2 := (hFl.cell (p := ⟨V10.heap.size, 2, none⟩) hlF2).trans p2
                    replace p3 := (hFl.cell (p := ⟨V10.heap.size, 3, none⟩) hlF2).trans p3
                    have hlR : V10.heap.size < wr.heap.size := Nat.lt_of_lt_of_le hlF2 hFl.size
                    have HKT := Lib.hid ht
                    have HEU := Lib.hid eu
                    clear ht eu hbwl hFl
                    rw [HEU.out]
                    go_wp2_with fail
                    go_region_law (first
                      | (obtain ⟨d', W2, hrun, hd', hod', hbW⟩ := pair_add (o := o2) (t := t) (own_below HOD.out (Below.refl _ _).drew) (by simpa using hs10) (by have := HDL.out; omega)
                         have HD' := Lib.hid hd'
                         have HOD' := Lib.hid hod'
                         have HBW := Lib.hid hbW
                         clear hd' hod' hbW
                         refine st_append (s := .tmp 189) (x := .tmp 195) rfl rfl (hrun _) ?_
                         clear hrun))
                    all_goals
                      go_wp2_with fail
                      exact ⟨⟨m + 1, d', by omega, by go_num, rfl, by rw [HD'.out, HD.out, weave_more _ HKT.out], HOD'.out, HBL2.out.trans ((Below.refl _ _).drew.trans HBW.out)⟩, by simp [intOf]; omega⟩
                  · have hge : ¬ (m : Int) < (x.l.length : Int) := by omega
                    have hmx : m = x.l.length := by omega
                    have hde : d.l = weave (ownA o2) x.l := by rw [HD.out, hmx, List.take_length]
                    have hdv : d.v = weave (ownA o2).v x.v := by rw [LA.v, hde, weave_map]; rfl
                    have hdr : d.Rd wr := own_rd HOD.out (by have := HDL.out; omega) fun r hr => by
                      rw [hde] at hr
                      obtain ⟨t, ht, hr⟩ := List.mem_flatMap.1 hr
                      simp only [List.mem_cons, List.not_mem_nil, or_false] at hr
                      rcases hr with rfl | rfl
                      · exact ⟨HRDO.out.up hFl, HOWW.out⟩
                      · exact ⟨(HX.out.kids _ ht).1.up hbwl, (HX.out.kids _ ht).2⟩
                    have HDR := Lib.hid hdr
                    have HDV := Lib.hid hdv
                    clear hmx hde hdv hdr hFl
                    go_wp2_with (first
                      | (go_at_call 11; refine (pairs_c _ d y HDR.out (HY.out.up HBWL.out) (HP.out.below HBWL.out)).mono ?_; rintro e w12 ⟨G4, S, rfl, he, ho, hb12⟩
                         have hbw12 := below_via HBWL.out hb12
                         have hse : S = R.map fun p => (2 * p.1 + 1, p.2) := by
                           rw [HDV.out] at he
                           exact around_own HM.out.1 HM.out.2.1 HMO.out HOSZ.out HE.out he
                         have hsl : S.length = R.length := by rw [hse, List.length_map]
                         have hsp := pr_sl ho
                         obtain ⟨PS, hPS⟩ : ∃ PS : Option Addr, PS = some ⟨G4, 0, none⟩ := ⟨_, rfl⟩
                         rw [← hPS] at hsp ⊢
                         have hne1 : ((S.length : Int) != (R.length : Int)) = false := by simp [hsl]
                         have hne2 : (S.length != R.length) = false := by simp [hsl]
                         have HSE := Lib.hid hse
                         have HSL := Lib.hid hsl
                         have HSS := Lib.hid hsp
                         have HSP3 := Lib.hid (((HSP.out.up HB15.out).up (below_via HB57.out (below_via HBL.out hb8))).up (below_via (below_via (below_via hb9 HBF.out) (below_via HB10.out HBL2.out)) hb12))
                         clear he ho hse hsl hsp hPS))
                    have hsl60 : S.length ≤ 60 := by have := HSL.out; omega
                    go_loopw [19] (fun s19 wl => ∃ j : Nat, j ≤ S.length ∧ s19 = .int .i64 j ∧ Below w12.heap.size w12 wl) (fun s19 _ => S.length - (intOf s19).toNat)
                    case atStart => exact ⟨0, Nat.zero_le _, by go_num, Below.refl _ _⟩
                    case round =>
                      obtain ⟨j, hj, rfl, hbr⟩ := hrel
                      have HBR2 := Lib.hid hbr
                      by_cases hlt3 : j < S.length
                      · have hjl : j < R.length := by have := HSL.out; omega
                        have hp : R[j]? = some R[j] := List.getElem?_eq_getElem hjl
                        generalize R[j] = p at hp
                        obtain ⟨m1, hm1⟩ : ∃ m, m = 2 * p.1 := ⟨_, rfl⟩
                        obtain ⟨m2, hm2⟩ : ∃ m, m = m1 + 1 := ⟨_, rfl⟩
                        have hq : S[j]? = some (m2, p.2) := by rw [HSE.out, List.getElem?_map, hp, hm2, hm1]; rfl
                        obtain ⟨b1, o1, e1, -, -, g1, c1, d1⟩ := pr_at HSS.out hq
                        obtain ⟨b2, o2', e2, -, -, g2, c3, d3⟩ := pr_at HSP3.out hp
                        have c2 : w12.cell? ⟨b1, o1 + j * 2, none⟩ = some (.int .i64 (m2 : Int)) := c1
                        have d2 : w12.cell? ⟨b1, o1 + j * 2 + 1, none⟩ = some (.int .i64 (p.2 : Int)) := d1
                        rw [← hbr.cell (p := ⟨_, _, none⟩) g1] at c2 d2
                        rw [← hbr.cell (p := ⟨_, _, none⟩) g2] at c3 d3
                        have f1 : b1 < wr.heap.size := Nat.lt_of_lt_of_le g1 hbr.size
                        have f2 : b2 < wr.heap.size := Nat.lt_of_lt_of_le g2 hbr.size
                        obtain ⟨pu, pv, hpu, hpv, -⟩ := match_at0 HE.out hp
                        have hp1 : p.1 < x.l.length := (List.getElem?_eq_some_iff.1 hpu).1
                        have hp2 : p.2 < y.l.length := (List.getElem?_eq_some_iff.1 hpv).1
                        have hneq : ∀ W, (binOp .neq 35 (.agg #[.int .i64 m2, .int .i64 p.2]) (.agg #[.int .i64 m2, .int .i64 p.2])).run Tryd.prog W = .ok (.bool false) W := fun W => (neq_pr (m2, p.2) (m2, p.2) W).trans (by rw [decide_eq_true rfl]; rfl)
                        have HE12 := Lib.hid (And.intro e1 e2)
                        rw [HE12.out.1, HE12.out.2]
                        clear e1 e2 hpu hpv
                        have hlt' : (j : Int) < (S.length : Int) := by omega
                        have hj0 : (0 : Int) ≤ (j : Int) := by omega
                        have hwj : IntKind.i64.wrap ((j : Int) + 1) = ((j + 1 : Nat) : Int) := by rw [IntWalk.i64_in _ (by omega)]; omega
                        go_upto_region 37 with fail
                        have hw1 : IntKind.i64.wrap (2 * (p.1 : Int)) = (m1 : Int) := by rw [IntWalk.i64_in _ (by omega)]; omega
                        have hw2 : IntKind.i64.wrap ((m1 : Int) + 1) = (m2 : Int) := by rw [IntWalk.i64_in _ (by omega)]; omega
                        have hjl' : (j : Int) < (R.length : Int) := by omega
                        have LD := Lib.hid (show ∀ W, Below wr.heap.size wr W → _ from fun W (h : Below wr.heap.size wr W) => And.intro ((h.cell (p := ⟨_, _, none⟩) f1).trans c2) (And.intro ((h.cell (p := ⟨_, _, none⟩) f1).trans d2) (And.intro ((h.cell (p := ⟨_, _, none⟩) f2).trans c3) ((h.cell (p := ⟨_, _, none⟩) f2).trans d3))))
                        have HJ := Lib.hid (And.intro hm1 hm2)
                        clear hbr hq hp c1 d1 c2 d2 c3 d3 hm1 hm2 hp1 hp2
                        refine wp_region_bl (by kernel_rfl) (by kernel_rfl) ?_
                        repeat (first | go_big_quiet_skip | (go_big_quiet_want; go_big_quiet_op; first | go_big_quiet_on | (refine ⟨_, fun _ _ => (by with_reducible rfl), ?_⟩; go_big_quiet_on) | (apply Exists.intro; refine ⟨fun w' hC => (by simp only [LD.out w' hC, Result.andThen]; exact ⟨trivial, rfl⟩), ?_⟩; go_big_quiet_on) | (apply Exists.intro; refine ⟨fun w' hC => (by simp only [hneq, Result.andThen]; exact ⟨trivial, rfl⟩), ?_⟩; go_big_quiet_on)))
                        refine wpQuiet_nil ?_; intro wz hbz
                        go_wp2_with fail
                        exact ⟨⟨j + 1, by omega, by go_num, below_via HBR2.out hbz⟩, by simp [intOf]; omega⟩
                      · have hge3 : ¬ (j : Int) < (S.length : Int) := by omega
                        have hbwr := below_via hbw12 hbr
                        clear hbr
                        go_wp2_with (go_at_call 9; refine (HLV _ hbwr).out.mono ?_; rintro e w13 ⟨rfl, hb13⟩)
                        go_ret
                        exact ⟨rfl, below_via hbwr hb13⟩
end Go.Proofs.YtjihepdjcbpgoaaDoor
