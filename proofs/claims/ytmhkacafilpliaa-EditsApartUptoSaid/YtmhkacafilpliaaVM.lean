/-
  The law's Turned at maps. Conditions: the tree lies in memory, its weight is bounded, it may be.
-/
import Derived.Test.YtmhkacafilpliaaVL
import Derived.Deep.DeepCutAuto
namespace Go.Proofs.Ytmhkacafilpliaa
open Go.RowKit Go.Sort

set_option maxRecDepth 100000 in
set_option maxHeartbeats 3200000 in
theorem turned_B (by_ : Nat) (hby : by_ < 256) (x : AV) (w : World) (hx : Rd w x) (hw : x.w ≤ 1048576) (hk8 : x.k = 8) (hlen : x.ks.length = x.l.length) (hev : by_ % 2 = 0)
    (ih : ∀ y ∈ x.l, ∀ W, Rd W y → Calls Try.prog 35 #[y.val, .int .u8 by_] W (TurnPost by_ y.v W)) :
    Calls Try.prog 35 #[x.val, .int .u8 by_] w (TurnPost by_ x.v w) := by
  have hll := x.w_l
  have hlk := x.w_ks
  have hkd := hx.kind
  have hlb : x.l.length ≤ 1048576 := by omega
  have hlkb : x.ks.length ≤ 1048576 := by omega
  have HX := Lib.hid hx
  have HC := fun (y : AV) (hy : y ∈ x.l) (W : World) (hb : Below w.heap.size w W) => Lib.hid (ih y hy W (hx.kid_at hb hy))
  have e8 : (x.k == 8) = true := by simp [hk8]
  have n8 : (x.k != 8) = false := by simp [hk8]
  have hv := Lib.hid (show x.v.turned by_ = ⟨x.k, x.t, turnL by_ (x.l.map fun z => z.v.turned by_), turnL by_ x.ks⟩ by rw [Val.turned_eq, AV.v_k, if_pos hk8, AV.v_t, AV.v_l, AV.v_ks, List.map_map]; rfl)
  clear hk8
  have HLE := Lib.hid hlen
  have hby2 : (by_ : Int) < 256 := by omega
  have hpar : ((by_ : Int) % 2 == 0) = true := by rw [beq_iff_eq]; omega
  have HEV := Lib.hid hev
  clear hlen hev
  clear ih hx hll hlk
  have hmk0 : Mk (((w.alloc (.cells #[.int .u8 x.k, .string x.t, .slice x.la x.l.length x.lc, .slice x.ka x.ks.length x.kc] 26)).alloc (.cells #[.int .u8 0, .string ⟨#[]⟩, .slice none 0 0, .slice none 0 0] 26)).alloc (.cells #[.int .u8 x.k, .string x.t, .slice none 0 0, .slice none 0 0] 26)) (w.heap.size + 1 + 1) (w.heap.size + 1 + 1 + 1) x.k x.t none 0 0 [] none 0 0 [] := by
    refine ⟨by omega, by simp, ?_, rfl, rfl, World.ownsRow_nil _ _ _ _, World.ownsRow_nil _ _ _ _, fun g hg => by simp [Value.ownBlock] at hg, fun y hy => by simp at hy⟩
    have h := heap_alloc_new ((w.alloc (.cells #[.int .u8 x.k, .string x.t, .slice x.la x.l.length x.lc, .slice x.ka x.ks.length x.kc] 26)).alloc (.cells #[.int .u8 0, .string ⟨#[]⟩, .slice none 0 0, .slice none 0 0] 26)) (.cells #[.int .u8 x.k, .string x.t, .slice none 0 0, .slice none 0 0] 26)
    simpa using h
  have hb0 : Below (w.heap.size + 2) ((w.alloc (.cells #[.int .u8 x.k, .string x.t, .slice x.la x.l.length x.lc, .slice x.ka x.ks.length x.kc] 26)).alloc (.cells #[.int .u8 0, .string ⟨#[]⟩, .slice none 0 0, .slice none 0 0] 26)) (((w.alloc (.cells #[.int .u8 x.k, .string x.t, .slice x.la x.l.length x.lc, .slice x.ka x.ks.length x.kc] 26)).alloc (.cells #[.int .u8 0, .string ⟨#[]⟩, .slice none 0 0, .slice none 0 0] 26)).alloc (.cells #[.int .u8 x.k, .string x.t, .slice none 0 0, .slice none 0 0] 26)) := (Below.refl _ _).alloc (by simp) _
  have HM0 := Lib.hid hmk0
  clear hmk0
  go_enter Try.func35, Try.ntmps35
  go_wp2_with fail
  go_loopw [7] (fun i wr => ∃ (m : Nat) (ys : List AV) (ks : List ByteArray) (a : Option Addr) (c : Nat) (a2 : Option Addr) (n2 c2 : Nat), m ≤ x.l.length ∧ i = .int .i64 m ∧ Mk wr (w.heap.size + 1 + 1) (w.heap.size + 1 + 1 + 1) x.k x.t a m c ys a2 n2 c2 ks ∧
      ys.map AV.v = picks true by_ x.l.length m (x.l.map fun z => z.v.turned by_) ∧ (n2 = m ∧ ks = picks true by_ x.l.length m x.ks) ∧ Below (w.heap.size + 2) ((w.alloc (.cells #[.int .u8 x.k, .string x.t, .slice x.la x.l.length x.lc, .slice x.ka x.ks.length x.kc] 26)).alloc (.cells #[.int .u8 0, .string ⟨#[]⟩, .slice none 0 0, .slice none 0 0] 26)) wr) (fun i _ => x.l.length - (intOf i).toNat)
  case atStart => exact ⟨0, [], [], none, 0, none, 0, 0, Nat.zero_le _, rfl, HM0.out, rfl, ⟨rfl, rfl⟩, hb0⟩
  clear hb0 HM0
  case round =>
    obtain ⟨m, ys, ks, a, c, a2, n2, c2, hml, rfl, hmk, hys, hks, hbx⟩ := hrel
    obtain ⟨o0, o1, o2, o3, o4, o5⟩ := hmk.cells
    have hbx1 := heap_alloc_new (w.alloc (.cells #[.int .u8 x.k, .string x.t, .slice x.la x.l.length x.lc, .slice x.ka x.ks.length x.kc] 26)) (.cells #[.int .u8 0, .string ⟨#[]⟩, .slice none 0 0, .slice none 0 0] 26)
    rw [World.size_alloc] at hbx1
    obtain ⟨q0, q1, q2, q3, -, -, -, -⟩ := vbox4 ((hbx.block w.heap.size (by omega)).trans ((heap_alloc_old _ _ _ (by simp)).trans (heap_alloc_new w (.cells #[.int .u8 x.k, .string x.t, .slice x.la x.l.length x.lc, .slice x.ka x.ks.length x.kc] 26))))
    have hrb := Lib.hid ((hbx.block (w.heap.size + 1) (by omega)).trans hbx1)
    clear hbx1
    have hbw : Below w.heap.size w wr := (((Below.refl _ _).alloc (Nat.le_refl _) _).alloc (by simp) _).trans (hbx.mono (by omega))
    have hsz := hmk.size
    have HMK := Lib.hid hmk
    have HYS := Lib.hid hys
    have HKS := Lib.hid hks
    clear hmk hys hks
    by_cases hlt : m < x.l.length
    · have hpl := pickAt_lt (k8 := true) (by_ := by_) hlt
      have hpk : x.l[pickAt true by_ x.l.length m]? = some x.l[pickAt true by_ x.l.length m] := List.getElem?_eq_getElem hpl
      have hmem : x.l[pickAt true by_ x.l.length m] ∈ x.l := List.getElem_mem hpl
      have hvs : (x.l.map fun z => z.v.turned by_)[pickAt true by_ x.l.length m]? = some (x.l[pickAt true by_ x.l.length m].v.turned by_) := by rw [List.getElem?_map, hpk]; rfl
      generalize x.l[pickAt true by_ x.l.length m] = y at *
      have HPS := Lib.hid (picks_snoc hvs)
      obtain ⟨b, off, hla, -, hb1, hb2, h0, h1, h2, h3⟩ := vals_at HX.out.sl hpk
      rw [← hbw.cell (p := ⟨_, _, none⟩) hb2] at h0 h1 h2 h3
      have hlt' : (m : Int) < (x.l.length : Int) := by omega
      have HC' := fun W h => HC y hmem W h
      have hP : pickAt true by_ x.l.length m < x.ks.length := by rw [HLE.out]; exact hpl
      have hks2 : x.ks[pickAt true by_ x.l.length m]? = some x.ks[pickAt true by_ x.l.length m] := List.getElem?_eq_getElem hP
      have hidx : (x.l.length : Int) - 1 - (m : Int) = ((pickAt true by_ x.l.length m : Nat) : Int) := by
        have := HEV.out
        unfold pickAt turnAt
        rw [if_pos rfl, if_pos this]; omega
      generalize x.ks[pickAt true by_ x.l.length m] = sk at *
      have HPK := Lib.hid (picks_snoc (k8 := true) hks2)
      obtain ⟨kb, koff, hka, -, hkb1, hkb2, hk0⟩ := key_at HX.out.keys hks2
      rw [← hbw.cell (p := ⟨_, _, none⟩) hkb2] at hk0
      generalize pickAt true by_ x.l.length m = P at *
      rw [hka] at q3
      rw [hla] at q2
      have hbb : b < wr.heap.size := Nat.lt_of_lt_of_le hb2 hbw.size
      have hkbb : kb < wr.heap.size := Nat.lt_of_lt_of_le hkb2 hbw.size
      have hP' : (P : Int) < (x.ks.length : Int) := by omega
      have hPl' : (P : Int) < (x.l.length : Int) := by omega
      clear hla hpk hmem hvs HC hka hks2 hpl
      go_upto_if 54 with fail
      obtain ⟨W00, hW00⟩ : ∃ W00, W00 = (w.alloc (.cells #[.int .u8 x.k, .string x.t, .slice x.la x.l.length x.lc, .slice x.ka x.ks.length x.kc] 26)).alloc (.cells #[.int .u8 0, .string ⟨#[]⟩, .slice none 0 0, .slice none 0 0] 26) := ⟨_, rfl⟩
      rw [← hW00] at hbx
      have HW00 := Lib.hid hW00
      clear hW00
      go_cut [] (fun wx => ∃ a3 c3, Mk wx (w.heap.size + 1 + 1) (w.heap.size + 1 + 1 + 1) x.k x.t a m c ys a3 (n2 + 1) c3 (ks ++ [sk]) ∧ Below (w.heap.size + 2) W00 wx ∧ Below w.heap.size w wx)
      case first =>
        have hn2 : n2 < 16777216 := by have := HKS.out.1; omega
        have hob : w.heap.size + 1 + 1 < wr.heap.size := by omega
        go_wp2_with fail
        go_region_law (first
          | (obtain ⟨a3, c3, W', hrun, p3, p5, hmk2, hbW, hsW⟩ := (HMK.out.below ((Below.refl _ _).drew)).key sk hn2 _ rfl
             refine st_append (s := .tmp 56) (x := .tmp 62) rfl rfl (hrun _) ?_
             clear hrun))
        all_goals
          go_wp2_with fail
          go_meet
          exact ⟨a3, c3, hmk2, hbx.drew.trans ((hbW.mono (by omega)).trans ((Below.refl _ _).setCell (p := ⟨w.heap.size + 1 + 1, 3, none⟩) (by show w.heap.size + 2 ≤ w.heap.size + 1 + 1; omega) _)),
            hbw.drew.trans ((hbW.mono (by omega)).trans ((Below.refl _ _).setCell (p := ⟨w.heap.size + 1 + 1, 3, none⟩) (by show w.heap.size ≤ w.heap.size + 1 + 1; omega) _))⟩
      case rest =>
        obtain ⟨a3, c3, hmk3, hbx3, hbw3⟩ := hcut
        have hs3 := hmk3.size
        clear o0 o1 o2 o3 o4 o5 hidx hpar hP' hkbb
        obtain ⟨o0, o1, o2, o3, o4, o5⟩ := hmk3.cells
        have e0 : ∀ o, wc.cell? ⟨b, o, none⟩ = wr.cell? ⟨b, o, none⟩ := fun o => (hbw3.cell (p := ⟨b, o, none⟩) hb2).trans (hbw.cell (p := ⟨b, o, none⟩) hb2).symm
        have e1 : wc.cell? ⟨w.heap.size, 2, none⟩ = wr.cell? ⟨w.heap.size, 2, none⟩ := (hbx3.cell (p := ⟨w.heap.size, 2, none⟩) (by show w.heap.size < w.heap.size + 2; omega)).trans (hbx.cell (p := ⟨w.heap.size, 2, none⟩) (by show w.heap.size < w.heap.size + 2; omega)).symm
        rw [← e0] at h0 h1 h2 h3
        rw [← e1] at q2
        have hbbc : b < wc.heap.size := by omega
        have HM3 := Lib.hid hmk3
        clear hmk3 e0 e1 q0 q1 q3 hk0 hrb HMK
        go_wp2_with fail
        go_region_law (first
          | (refine st_append (s := .tmp 66) (x := .tmp 74) rfl rfl (hrun _) ?_; clear hrun)
          | (go_simp; go_at_call 35; refine (HC' _ hbw3.drew).out.mono ?_; rintro e w1 ⟨z, rfl, hzv, hzi, hb⟩
             have hl1 : w.heap.size + 1 + 1 < w1.heap.size := Nat.lt_of_lt_of_le hs3 hb.size
             obtain ⟨o0, o1, o2, o3, o4, o5⟩ := ((HM3.out.below ((Below.refl _ _).drew)).below hb).cells
             obtain ⟨a', c', W', hrun, p2, p5, hmk2, hbW⟩ := (HM3.out.below ((Below.refl _ _).drew)).call hb hzi (by omega) _ rfl))
        all_goals
          go_wp2_with fail
          refine ⟨⟨m + 1, ys ++ [z], ks ++ [sk], a', c', a3, n2 + 1, c3, by omega, by go_num, hmk2, ?_, ⟨by have := HKS.out.1; omega, by rw [HPK.out, HKS.out.2]⟩, ?_⟩, by simp [intOf]; omega⟩
          · rw [List.map_append, HYS.out, HPS.out]; simp [hzv]
          · rw [← HW00.out]
            exact hbx3.drew.trans ((hbW.mono (by omega)).trans ((Below.refl _ _).setCell (p := ⟨w.heap.size + 1 + 1, 2, none⟩) (by show w.heap.size + 2 ≤ w.heap.size + 1 + 1; omega) _))
    · obtain rfl : m = x.l.length := by omega
      have hge : ¬ (x.l.length : Int) < (x.l.length : Int) := by omega
      have hvv : ys.map AV.v = turnL by_ (x.l.map fun z => z.v.turned by_) := by rw [HYS.out]; exact (by have := picks_all by_ (x.l.map fun z => z.v.turned by_); rwa [List.length_map] at this)
      obtain ⟨r0, r1, r2, r3, -, -⟩ := HMK.out.cells
      obtain ⟨s0, s1, s2, s3, f0, f1, f2, f3⟩ := vbox4 hrb.out
      have HVV := Lib.hid hvv
      have hn2 : n2 = x.ks.length := by have := HKS.out.1; have := HLE.out; omega
      have HN2 := Lib.hid hn2
      clear hvv hn2
      go_wp2_with fail
      refine bodyPost_ret (v := .agg #[.int .u8 x.k, .string x.t, .slice a x.l.length c, .slice a2 n2 c2]) (by simp [results, Try.results35, go_sem, s0, s1, s2, s3]) rfl ⟨⟨x.k, x.t, a, c, ys, a2, c2, ks⟩, ?_, ?_, ?_, ?_⟩
      · show _ = Ending.returned (.agg #[.int .u8 x.k, .string x.t, .slice a ys.length c, .slice a2 ks.length c2])
        rw [← HMK.out.len, ← HMK.out.len2]
      · have hks3 : ks = turnL by_ x.ks := by
          have := picks_all by_ x.ks
          rw [HLE.out] at this
          rw [HKS.out.2]; exact this
        rw [AV.v_eq, hv.out, HVV.out, hks3]
      · show AV.In (set4 wr (w.heap.size + 1) _ _ _ _) _ _ _
        exact (HMK.out.done hkd (Nat.le_of_eq size4.symm) (fun q hq1 _ => old4 (by omega))).widen (by omega) (Nat.le_refl _)
      · show Below _ _ (set4 wr (w.heap.size + 1) _ _ _ _)
        exact below4 hbw (by omega)
set_option maxRecDepth 100000 in
set_option maxHeartbeats 3200000 in
theorem turned_C (by_ : Nat) (hby : by_ < 256) (x : AV) (w : World) (hx : Rd w x) (hw : x.w ≤ 1048576) (hk8 : x.k = 8) (hlen : x.ks.length = x.l.length) (hev : by_ % 2 = 1)
    (ih : ∀ y ∈ x.l, ∀ W, Rd W y → Calls Try.prog 35 #[y.val, .int .u8 by_] W (TurnPost by_ y.v W)) :
    Calls Try.prog 35 #[x.val, .int .u8 by_] w (TurnPost by_ x.v w) := by
  have hll := x.w_l
  have hlk := x.w_ks
  have hkd := hx.kind
  have hlb : x.l.length ≤ 1048576 := by omega
  have hlkb : x.ks.length ≤ 1048576 := by omega
  have HX := Lib.hid hx
  have HC := fun (y : AV) (hy : y ∈ x.l) (W : World) (hb : Below w.heap.size w W) => Lib.hid (ih y hy W (hx.kid_at hb hy))
  have e8 : (x.k == 8) = true := by simp [hk8]
  have n8 : (x.k != 8) = false := by simp [hk8]
  have hv := Lib.hid (show x.v.turned by_ = ⟨x.k, x.t, turnL by_ (x.l.map fun z => z.v.turned by_), turnL by_ x.ks⟩ by rw [Val.turned_eq, AV.v_k, if_pos hk8, AV.v_t, AV.v_l, AV.v_ks, List.map_map]; rfl)
  clear hk8
  have HLE := Lib.hid hlen
  have hby2 : (by_ : Int) < 256 := by omega
  have hpar : ((by_ : Int) % 2 == 0) = false := by rw [beq_eq_false_iff_ne]; omega
  have HEV := Lib.hid hev
  clear hlen hev
  clear ih hx hll hlk
  have hmk0 : Mk (((w.alloc (.cells #[.int .u8 x.k, .string x.t, .slice x.la x.l.length x.lc, .slice x.ka x.ks.length x.kc] 26)).alloc (.cells #[.int .u8 0, .string ⟨#[]⟩, .slice none 0 0, .slice none 0 0] 26)).alloc (.cells #[.int .u8 x.k, .string x.t, .slice none 0 0, .slice none 0 0] 26)) (w.heap.size + 1 + 1) (w.heap.size + 1 + 1 + 1) x.k x.t none 0 0 [] none 0 0 [] := by
    refine ⟨by omega, by simp, ?_, rfl, rfl, World.ownsRow_nil _ _ _ _, World.ownsRow_nil _ _ _ _, fun g hg => by simp [Value.ownBlock] at hg, fun y hy => by simp at hy⟩
    have h := heap_alloc_new ((w.alloc (.cells #[.int .u8 x.k, .string x.t, .slice x.la x.l.length x.lc, .slice x.ka x.ks.length x.kc] 26)).alloc (.cells #[.int .u8 0, .string ⟨#[]⟩, .slice none 0 0, .slice none 0 0] 26)) (.cells #[.int .u8 x.k, .string x.t, .slice none 0 0, .slice none 0 0] 26)
    simpa using h
  have hb0 : Below (w.heap.size + 2) ((w.alloc (.cells #[.int .u8 x.k, .string x.t, .slice x.la x.l.length x.lc, .slice x.ka x.ks.length x.kc] 26)).alloc (.cells #[.int .u8 0, .string ⟨#[]⟩, .slice none 0 0, .slice none 0 0] 26)) (((w.alloc (.cells #[.int .u8 x.k, .string x.t, .slice x.la x.l.length x.lc, .slice x.ka x.ks.length x.kc] 26)).alloc (.cells #[.int .u8 0, .string ⟨#[]⟩, .slice none 0 0, .slice none 0 0] 26)).alloc (.cells #[.int .u8 x.k, .string x.t, .slice none 0 0, .slice none 0 0] 26)) := (Below.refl _ _).alloc (by simp) _
  have HM0 := Lib.hid hmk0
  clear hmk0
  go_enter Try.func35, Try.ntmps35
  go_wp2_with fail
  go_loopw [7] (fun i wr => ∃ (m : Nat) (ys : List AV) (ks : List ByteArray) (a : Option Addr) (c : Nat) (a2 : Option Addr) (n2 c2 : Nat), m ≤ x.l.length ∧ i = .int .i64 m ∧ Mk wr (w.heap.size + 1 + 1) (w.heap.size + 1 + 1 + 1) x.k x.t a m c ys a2 n2 c2 ks ∧
      ys.map AV.v = picks true by_ x.l.length m (x.l.map fun z => z.v.turned by_) ∧ (n2 = m ∧ ks = picks true by_ x.l.length m x.ks) ∧ Below (w.heap.size + 2) ((w.alloc (.cells #[.int .u8 x.k, .string x.t, .slice x.la x.l.length x.lc, .slice x.ka x.ks.length x.kc] 26)).alloc (.cells #[.int .u8 0, .string ⟨#[]⟩, .slice none 0 0, .slice none 0 0] 26)) wr) (fun i _ => x.l.length - (intOf i).toNat)
  case atStart => exact ⟨0, [], [], none, 0, none, 0, 0, Nat.zero_le _, rfl, HM0.out, rfl, ⟨rfl, rfl⟩, hb0⟩
  clear hb0 HM0
  case round =>
    obtain ⟨m, ys, ks, a, c, a2, n2, c2, hml, rfl, hmk, hys, hks, hbx⟩ := hrel
    obtain ⟨o0, o1, o2, o3, o4, o5⟩ := hmk.cells
    have hbx1 := heap_alloc_new (w.alloc (.cells #[.int .u8 x.k, .string x.t, .slice x.la x.l.length x.lc, .slice x.ka x.ks.length x.kc] 26)) (.cells #[.int .u8 0, .string ⟨#[]⟩, .slice none 0 0, .slice none 0 0] 26)
    rw [World.size_alloc] at hbx1
    obtain ⟨q0, q1, q2, q3, -, -, -, -⟩ := vbox4 ((hbx.block w.heap.size (by omega)).trans ((heap_alloc_old _ _ _ (by simp)).trans (heap_alloc_new w (.cells #[.int .u8 x.k, .string x.t, .slice x.la x.l.length x.lc, .slice x.ka x.ks.length x.kc] 26))))
    have hrb := Lib.hid ((hbx.block (w.heap.size + 1) (by omega)).trans hbx1)
    clear hbx1
    have hbw : Below w.heap.size w wr := (((Below.refl _ _).alloc (Nat.le_refl _) _).alloc (by simp) _).trans (hbx.mono (by omega))
    have hsz := hmk.size
    have HMK := Lib.hid hmk
    have HYS := Lib.hid hys
    have HKS := Lib.hid hks
    clear hmk hys hks
    by_cases hlt : m < x.l.length
    · have hpl := pickAt_lt (k8 := true) (by_ := by_) hlt
      have hpk : x.l[pickAt true by_ x.l.length m]? = some x.l[pickAt true by_ x.l.length m] := List.getElem?_eq_getElem hpl
      have hmem : x.l[pickAt true by_ x.l.length m] ∈ x.l := List.getElem_mem hpl
      have hvs : (x.l.map fun z => z.v.turned by_)[pickAt true by_ x.l.length m]? = some (x.l[pickAt true by_ x.l.length m].v.turned by_) := by rw [List.getElem?_map, hpk]; rfl
      generalize x.l[pickAt true by_ x.l.length m] = y at *
      have HPS := Lib.hid (picks_snoc hvs)
      obtain ⟨b, off, hla, -, hb1, hb2, h0, h1, h2, h3⟩ := vals_at HX.out.sl hpk
      rw [← hbw.cell (p := ⟨_, _, none⟩) hb2] at h0 h1 h2 h3
      have hlt' : (m : Int) < (x.l.length : Int) := by omega
      have HC' := fun W h => HC y hmem W h
      have hP : pickAt true by_ x.l.length m < x.ks.length := by rw [HLE.out]; exact hpl
      have hks2 : x.ks[pickAt true by_ x.l.length m]? = some x.ks[pickAt true by_ x.l.length m] := List.getElem?_eq_getElem hP
      have hidx : ((m : Int) + (by_ : Int) / 2) % (x.l.length : Int) = ((pickAt true by_ x.l.length m : Nat) : Int) := by
        have := HEV.out
        unfold pickAt turnAt
        rw [if_pos rfl, if_neg (by omega)]; push_cast; rfl
      have hb20 : 0 ≤ (by_ : Int) / 2 := by omega
      have hb21 : (by_ : Int) / 2 < 256 := by omega
      generalize x.ks[pickAt true by_ x.l.length m] = sk at *
      have HPK := Lib.hid (picks_snoc (k8 := true) hks2)
      obtain ⟨kb, koff, hka, -, hkb1, hkb2, hk0⟩ := key_at HX.out.keys hks2
      rw [← hbw.cell (p := ⟨_, _, none⟩) hkb2] at hk0
      generalize pickAt true by_ x.l.length m = P at *
      rw [hka] at q3
      rw [hla] at q2
      have hbb : b < wr.heap.size := Nat.lt_of_lt_of_le hb2 hbw.size
      have hkbb : kb < wr.heap.size := Nat.lt_of_lt_of_le hkb2 hbw.size
      have hP' : (P : Int) < (x.ks.length : Int) := by omega
      have hPl' : (P : Int) < (x.l.length : Int) := by omega
      clear hla hpk hmem hvs HC hka hks2 hpl
      go_upto_if 54 with fail
      obtain ⟨W00, hW00⟩ : ∃ W00, W00 = (w.alloc (.cells #[.int .u8 x.k, .string x.t, .slice x.la x.l.length x.lc, .slice x.ka x.ks.length x.kc] 26)).alloc (.cells #[.int .u8 0, .string ⟨#[]⟩, .slice none 0 0, .slice none 0 0] 26) := ⟨_, rfl⟩
      rw [← hW00] at hbx
      have HW00 := Lib.hid hW00
      clear hW00
      simp only [hidx]
      go_cut [] (fun wx => ∃ a3 c3, Mk wx (w.heap.size + 1 + 1) (w.heap.size + 1 + 1 + 1) x.k x.t a m c ys a3 (n2 + 1) c3 (ks ++ [sk]) ∧ Below (w.heap.size + 2) W00 wx ∧ Below w.heap.size w wx)
      case first =>
        have hn2 : n2 < 16777216 := by have := HKS.out.1; omega
        have hob : w.heap.size + 1 + 1 < wr.heap.size := by omega
        go_wp2_with fail
        go_region_law (first
          | (obtain ⟨a3, c3, W', hrun, p3, p5, hmk2, hbW, hsW⟩ := (HMK.out.below ((Below.refl _ _).drew)).key sk hn2 _ rfl
             refine st_append (s := .tmp 56) (x := .tmp 62) rfl rfl (hrun _) ?_
             clear hrun))
        all_goals
          go_wp2_with fail
          go_meet
          exact ⟨a3, c3, hmk2, hbx.drew.trans ((hbW.mono (by omega)).trans ((Below.refl _ _).setCell (p := ⟨w.heap.size + 1 + 1, 3, none⟩) (by show w.heap.size + 2 ≤ w.heap.size + 1 + 1; omega) _)),
            hbw.drew.trans ((hbW.mono (by omega)).trans ((Below.refl _ _).setCell (p := ⟨w.heap.size + 1 + 1, 3, none⟩) (by show w.heap.size ≤ w.heap.size + 1 + 1; omega) _))⟩
      case rest =>
        obtain ⟨a3, c3, hmk3, hbx3, hbw3⟩ := hcut
        have hs3 := hmk3.size
        clear o0 o1 o2 o3 o4 o5 hidx hpar hP' hkbb
        obtain ⟨o0, o1, o2, o3, o4, o5⟩ := hmk3.cells
        have e0 : ∀ o, wc.cell? ⟨b, o, none⟩ = wr.cell? ⟨b, o, none⟩ := fun o => (hbw3.cell (p := ⟨b, o, none⟩) hb2).trans (hbw.cell (p := ⟨b, o, none⟩) hb2).symm
        have e1 : wc.cell? ⟨w.heap.size, 2, none⟩ = wr.cell? ⟨w.heap.size, 2, none⟩ := (hbx3.cell (p := ⟨w.heap.size, 2, none⟩) (by show w.heap.size < w.heap.size + 2; omega)).trans (hbx.cell (p := ⟨w.heap.size, 2, none⟩) (by show w.heap.size < w.heap.size + 2; omega)).symm
        rw [← e0] at h0 h1 h2 h3
        rw [← e1] at q2
        have hbbc : b < wc.heap.size := by omega
        have HM3 := Lib.hid hmk3
        clear hmk3 e0 e1 q0 q1 q3 hk0 hrb HMK
        go_wp2_with fail
        go_region_law (first
          | (refine st_append (s := .tmp 66) (x := .tmp 74) rfl rfl (hrun _) ?_; clear hrun)
          | (go_simp; go_at_call 35; refine (HC' _ hbw3.drew).out.mono ?_; rintro e w1 ⟨z, rfl, hzv, hzi, hb⟩
             have hl1 : w.heap.size + 1 + 1 < w1.heap.size := Nat.lt_of_lt_of_le hs3 hb.size
             obtain ⟨o0, o1, o2, o3, o4, o5⟩ := ((HM3.out.below ((Below.refl _ _).drew)).below hb).cells
             obtain ⟨a', c', W', hrun, p2, p5, hmk2, hbW⟩ := (HM3.out.below ((Below.refl _ _).drew)).call hb hzi (by omega) _ rfl))
        all_goals
          go_wp2_with fail
          refine ⟨⟨m + 1, ys ++ [z], ks ++ [sk], a', c', a3, n2 + 1, c3, by omega, by go_num, hmk2, ?_, ⟨by have := HKS.out.1; omega, by rw [HPK.out, HKS.out.2]⟩, ?_⟩, by simp [intOf]; omega⟩
          · rw [List.map_append, HYS.out, HPS.out]; simp [hzv]
          · rw [← HW00.out]
            exact hbx3.drew.trans ((hbW.mono (by omega)).trans ((Below.refl _ _).setCell (p := ⟨w.heap.size + 1 + 1, 2, none⟩) (by show w.heap.size + 2 ≤ w.heap.size + 1 + 1; omega) _))
    · obtain rfl : m = x.l.length := by omega
      have hge : ¬ (x.l.length : Int) < (x.l.length : Int) := by omega
      have hvv : ys.map AV.v = turnL by_ (x.l.map fun z => z.v.turned by_) := by rw [HYS.out]; exact (by have := picks_all by_ (x.l.map fun z => z.v.turned by_); rwa [List.length_map] at this)
      obtain ⟨r0, r1, r2, r3, -, -⟩ := HMK.out.cells
      obtain ⟨s0, s1, s2, s3, f0, f1, f2, f3⟩ := vbox4 hrb.out
      have HVV := Lib.hid hvv
      have hn2 : n2 = x.ks.length := by have := HKS.out.1; have := HLE.out; omega
      have HN2 := Lib.hid hn2
      clear hvv hn2
      go_wp2_with fail
      refine bodyPost_ret (v := .agg #[.int .u8 x.k, .string x.t, .slice a x.l.length c, .slice a2 n2 c2]) (by simp [results, Try.results35, go_sem, s0, s1, s2, s3]) rfl ⟨⟨x.k, x.t, a, c, ys, a2, c2, ks⟩, ?_, ?_, ?_, ?_⟩
      · show _ = Ending.returned (.agg #[.int .u8 x.k, .string x.t, .slice a ys.length c, .slice a2 ks.length c2])
        rw [← HMK.out.len, ← HMK.out.len2]
      · have hks3 : ks = turnL by_ x.ks := by
          have := picks_all by_ x.ks
          rw [HLE.out] at this
          rw [HKS.out.2]; exact this
        rw [AV.v_eq, hv.out, HVV.out, hks3]
      · show AV.In (set4 wr (w.heap.size + 1) _ _ _ _) _ _ _
        exact (HMK.out.done hkd (Nat.le_of_eq size4.symm) (fun q hq1 _ => old4 (by omega))).widen (by omega) (Nat.le_refl _)
      · show Below _ _ (set4 wr (w.heap.size + 1) _ _ _ _)
        exact below4 hbw (by omega)

theorem turned_c (by_ : Nat) (hby : by_ < 256) : ∀ (N : Nat) (x : AV) (w : World), Rd w x → x.w ≤ 1048576 → x.v.within N = true → Calls Try.prog 35 #[x.val, .int .u8 by_] w (TurnPost by_ x.v w)
  | 0, x, w, hx, hw, hwi => by
    rw [Val.within_0, Bool.and_eq_true, AV.v_k] at hwi
    have hk : x.k < 7 := by simpa using hwi.2
    have hl := shape_leaf2 hwi.1 (by rw [AV.v_k]; exact hk)
    rw [AV.v_l, AV.v_ks] at hl
    exact turned_A by_ hby x w hx hw (by omega) hl.2 (fun y hy => by rw [List.map_eq_nil_iff.1 hl.1] at hy; exact absurd hy List.not_mem_nil)
  | N + 1, x, w, hx, hw, hwi => by
    obtain ⟨sh, hk⟩ := within_k hwi
    have ih : ∀ y ∈ x.l, ∀ W, Rd W y → Calls Try.prog 35 #[y.val, .int .u8 by_] W (TurnPost by_ y.v W) := fun y hy W hW =>
      turned_c by_ hby N y W hW (by have := x.w_kid hy; omega) (hk y.v (by rw [AV.v_l]; exact List.mem_map_of_mem hy))
    by_cases h8 : x.k = 8
    · obtain ⟨_, hl8, _⟩ := shape_map sh (by rw [AV.v_k]; exact h8)
      rw [AV.v_ks, AV.v_l, List.length_map] at hl8
      by_cases he : by_ % 2 = 0
      · exact turned_B by_ hby x w hx hw h8 hl8 he ih
      · exact turned_C by_ hby x w hx hw h8 hl8 (by omega) ih
    · have hks : x.ks = [] := by
        rcases shape_range sh with h | h | h
        · have := (shape_leaf2 sh h).2; rwa [AV.v_ks] at this
        · have := (shape_list sh h).2; rwa [AV.v_ks] at this
        · rw [AV.v_k] at h; exact absurd h h8
      exact turned_A by_ hby x w hx hw h8 hks ih
end Go.Proofs.Ytmhkacafilpliaa
