/-
  inarchref24.Of: as the program's Of. Conditions: the trees lie in memory, their weights are bounded.
  inarchref24.used, Used: as the program's Used. Conditions: the trees lie in memory, their weights are bounded.
  inarchref24.Used: as the program's Used. inarchlaw24.same: true of the same renames. Conditions: the trees lie in memory, their weights are bounded.
-/
import Derived.Test.YtcpdogjcofkpcaaGreatDoorNQ
namespace Go.Proofs.YtcpdogjcofkpcaaGreatDoor
open Go.RowKit Go.Sort

def RRensPost (L : List (ByteArray × ByteArray)) (w : World) (e : Ending) (w' : World) : Prop := ∃ A c, e = .returned (.slice A L.length c) ∧ SlE renE 2 w' w.heap.size w'.heap.size A L ∧ Below w.heap.size w w'
theorem refL_len (b x : Val) (l : List (ByteArray × Val)) : (refL b x l).length ≤ l.length := List.length_filterMap_le _ _
set_option maxRecDepth 100000 in
set_option maxHeartbeats 3200000 in
theorem rof_out0 (w : World) (x y : AV) (hx : Rd w x) (hwx : x.w ≤ 1048576) (h0 : x.v.isMap = false) :
    Calls Tryz.prog 28 #[x.val, y.val] w (RRensPost (ofV x.v y.v) w) := by
  have HF := Lib.hid (show ofV x.v y.v = [] by unfold ofV; rw [h0]; rfl)
  have HMX := fun W (h : Below w.heap.size w W) => Lib.hid (rismap_c W x (hx.up h) hwx)
  have hb0 := duo_b (w := w) (o1 := .cells #[.int .u8 x.k, .string x.t, .slice x.la x.l.length x.lc, .slice x.ka x.ks.length x.kc] 48) (o2 := .cells #[.int .u8 y.k, .string y.t, .slice y.la y.l.length y.lc, .slice y.ka y.ks.length y.kc] 48)
  rw [h0] at HMX
  clear h0
  go_enter Tryz.func28, Tryz.ntmps28
  go_wp2_with (go_at_call 81; refine (HMX _ (by assumption)).out.mono ?_; rintro e w1 ⟨rfl, hb1⟩)
  refine bodyPost_ret (v := .slice none 0 0) (by simp [results, Tryz.results28, go_sem]) rfl ⟨none, 0, by rw [HF.out]; rfl, by rw [HF.out]; exact .nil, below_via hb0 hb1⟩
set_option maxRecDepth 100000 in
set_option maxHeartbeats 3200000 in
theorem rof_out1 (w : World) (x y : AV) (hx : Rd w x) (hy : Rd w y) (hwx : x.w ≤ 1048576) (hwy : y.w ≤ 1048576) (h0 : x.v.isMap = true) (h1 : y.v.isMap = false) :
    Calls Tryz.prog 28 #[x.val, y.val] w (RRensPost (ofV x.v y.v) w) := by
  have HF := Lib.hid (show ofV x.v y.v = [] by unfold ofV; rw [h0, h1]; rfl)
  have HMX := fun W (h : Below w.heap.size w W) => Lib.hid (rismap_c W x (hx.up h) hwx)
  have HMY := fun W (h : Below w.heap.size w W) => Lib.hid (rismap_c W y (hy.up h) hwy)
  have hB0 := duo_0 (w := w) (o1 := .cells #[.int .u8 x.k, .string x.t, .slice x.la x.l.length x.lc, .slice x.ka x.ks.length x.kc] 48) (o2 := .cells #[.int .u8 y.k, .string y.t, .slice y.la y.l.length y.lc, .slice y.ka y.ks.length y.kc] 48)
  have hb0 := duo_b (w := w) (o1 := .cells #[.int .u8 x.k, .string x.t, .slice x.la x.l.length x.lc, .slice x.ka x.ks.length x.kc] 48) (o2 := .cells #[.int .u8 y.k, .string y.t, .slice y.la y.l.length y.lc, .slice y.ka y.ks.length y.kc] 48)
  rw [h0] at HMX
  rw [h1] at HMY
  clear h0 h1
  go_enter Tryz.func28, Tryz.ntmps28
  go_wp2_with (go_at_call 81; first
    | ((with_reducible refine (HMX _ (by assumption)).out.mono ?_); rintro e w1 ⟨rfl, hb1⟩
       have hB1 := tri_step (N := w.heap.size + 1 + 1) hB0 hb1 (by simp)
       obtain ⟨k1, k2, k3, k4⟩ := duo_at hB1
       obtain ⟨p0, p1, p2, p3, -, -, -, -⟩ := vbox4 k2)
    | ((with_reducible refine (HMY _ k4).out.mono ?_); rintro e w2 ⟨rfl, hb2⟩))
  refine bodyPost_ret (v := .slice none 0 0) (by simp [results, Tryz.results28, go_sem]) rfl ⟨none, 0, by rw [HF.out]; rfl, by rw [HF.out]; exact .nil, below_via k4 hb2⟩
set_option maxRecDepth 100000 in
set_option maxHeartbeats 6400000 in
theorem rof_in (w : World) (x y : AV) (hx : Rd w x) (hy : Rd w y) (hwx : x.w ≤ 1048576) (hwy : y.w ≤ 1048576) (h0 : x.v.isMap = true) (h1 : y.v.isMap = true) :
    Calls Tryz.prog 28 #[x.val, y.val] w (RRensPost (ofV x.v y.v) w) := by
  have hlk := x.w_ks
  have hlk2 := y.w_ks
  have hxl : x.ks.length = x.l.length := by have := (isMap_len h0).1; rwa [AV.v_ks, AV.v_l, List.length_map] at this
  have hyl : y.ks.length = y.l.length := by have := (isMap_len h1).1; rwa [AV.v_ks, AV.v_l, List.length_map] at this
  have HF := Lib.hid (show ofV x.v y.v = refL x.v y.v (x.v.ks.zip x.v.l) by unfold ofV; rw [h0, h1, refL_of h0 h1]; rfl)
  have HMX := fun W (h : Below w.heap.size w W) => Lib.hid (rismap_c W x (hx.up h) hwx)
  have HMY := fun W (h : Below w.heap.size w W) => Lib.hid (rismap_c W y (hy.up h) hwy)
  have HHAS := fun (s : ByteArray) W (h : Below w.heap.size w W) => Lib.hid (rhas_c y s W (hy.up h) (by omega))
  have HSIZE := fun (e : AV) (he : e ∈ x.l) W (h : Below w.heap.size w W) => Lib.hid (rsize_c e W (Rd.up (hx.kid he) h) (by have := AV.w_kid he; omega))
  have HONE := fun (e : AV) (he : e ∈ x.l) W (h : Below w.heap.size w W) => Lib.hid (ronly_c W x y e (hx.up h) (hy.up h) (Rd.up (hx.kid he) h) hwx hwy (by have := AV.w_kid he; omega) hxl)
  have HTWO := fun (e : AV) (he : e ∈ x.l) W (h : Below w.heap.size w W) => Lib.hid (ronly_c W y x e (hy.up h) (hx.up h) (Rd.up (hx.kid he) h) hwy hwx (by have := AV.w_kid he; omega) hyl)
  have HX := Lib.hid hx
  have HL := Lib.hid hxl
  have hB0 := duo_0 (w := w) (o1 := .cells #[.int .u8 x.k, .string x.t, .slice x.la x.l.length x.lc, .slice x.ka x.ks.length x.kc] 48) (o2 := .cells #[.int .u8 y.k, .string y.t, .slice y.la y.l.length y.lc, .slice y.ka y.ks.length y.kc] 48)
  have hb0 := duo_b (w := w) (o1 := .cells #[.int .u8 x.k, .string x.t, .slice x.la x.l.length x.lc, .slice x.ka x.ks.length x.kc] 48) (o2 := .cells #[.int .u8 y.k, .string y.t, .slice y.la y.l.length y.lc, .slice y.ka y.ks.length y.kc] 48)
  rw [h0] at HMX
  rw [h1] at HMY
  clear h0 h1 hx hy hxl hyl
  go_enter Tryz.func28, Tryz.ntmps28
  go_wp2_with (go_at_call 81; first
    | ((with_reducible refine (HMX _ (by assumption)).out.mono ?_); rintro e w1 ⟨rfl, hb1⟩
       have hB1 := tri_step (N := w.heap.size + 1 + 1) hB0 hb1 (by simp)
       obtain ⟨k1, k2, k3, k4⟩ := duo_at hB1
       obtain ⟨p0, p1, p2, p3, -, -, -, -⟩ := vbox4 k2)
    | ((with_reducible refine (HMY _ k4).out.mono ?_); rintro e W2 ⟨rfl, hb2⟩))
  have hB2 := tri_step (N := w.heap.size + 1 + 1) hB1 hb2 (by simp)
  clear k1 k2 k3 k4 p0 p1 p2 p3
  obtain ⟨k1, k2, k3, k4⟩ := duo_at hB2
  have K1 := Lib.hid k1
  have K2 := Lib.hid k2
  have K4 := Lib.hid k4
  have K3 := Lib.hid k3
  clear k1 k2 k3 k4 hB0 hb0 hB1 hB2 hb1 hb2 HMX HMY
  go_loopw [5, 6] (fun s5 s6 wr => ∃ (m : Nat) (a : Option Addr) (c : Nat) (R : List (ByteArray × ByteArray)), m ≤ x.ks.length ∧ s6 = .int .i64 m ∧ R = refL x.v y.v ((x.v.ks.zip x.v.l).take m) ∧ s5 = .slice a R.length c ∧ OwnRr wr W2.heap.size (.slice a R.length c) R ∧ Below W2.heap.size W2 wr) (fun _ s6 _ => x.ks.length - (intOf s6).toNat)
  case atStart => exact ⟨0, none, 0, [], Nat.zero_le _, rfl, rfl, rfl, ⟨rfl, .inl ⟨rfl, rfl⟩⟩, Below.refl _ _⟩
  case round =>
    obtain ⟨m, a, c, R, hm, rfl, hR, rfl, hown, hbr⟩ := hrel
    have hsr := hbr.size
    have hRl := refL_len x.v y.v ((x.v.ks.zip x.v.l).take m)
    rw [← hR, List.length_take] at hRl
    obtain ⟨q0, q1, q2, q3, -, -, -, -⟩ := vbox4 (blk_up hbr K1.out)
    have l1 : w.heap.size < wr.heap.size := by have := K3.out; omega
    have l2 : w.heap.size + 1 < wr.heap.size := by have := K3.out; omega
    have HBR := Lib.hid hbr
    have HRR := Lib.hid hR
    have HOW := Lib.hid hown
    have HBW := Lib.hid (below_via K4.out hbr)
    clear hbr hR hown
    by_cases hlt : m < x.ks.length
    · have hk : x.ks[m]? = some x.ks[m] := List.getElem?_eq_getElem hlt
      have hltl : m < x.l.length := by have := HL.out; omega
      have hkl : x.l[m]? = some x.l[m] := List.getElem?_eq_getElem hltl
      have hmem : x.l[m] ∈ x.l := List.getElem_mem hltl
      generalize x.ks[m] = k at hk
      generalize x.l[m] = e at hkl hmem
      have hz' : (x.v.ks.zip x.v.l)[m]? = some (k, e.v) := List.getElem?_zip_eq_some.2 ⟨by rw [AV.v_ks]; exact hk, by rw [AV.v_l, List.getElem?_map, hkl]; rfl⟩
      have hsn : refL x.v y.v ((x.v.ks.zip x.v.l).take (m + 1)) = if (k ∉ y.v.ks ∧ 2 ≤ e.v.sz) ∧ (onlyV x.v y.v e.v).2 = 1 ∧ (onlyV y.v x.v e.v).2 = 1 then R ++ [(k, (onlyV y.v x.v e.v).1)] else R := by
        rw [List.take_add_one, hz', HRR.out]
        exact refL_snoc x.v y.v ((x.v.ks.zip x.v.l).take m) (k, e.v)
      rw [AV.v_ks y] at hsn
      obtain ⟨bk, ok, hka, -, -, gk, ck'⟩ := key_at (HX.out.up HBW.out).keys hk
      obtain ⟨be, oe, hla, -, -, ge, e0', e1', e2', e3'⟩ := vals_at (HX.out.up HBW.out).sl hkl
      have HH := fun W (h : Below wr.heap.size wr W) => HHAS k W (below_via HBW.out h)
      have HS := fun W (h : Below wr.heap.size wr W) => HSIZE e hmem W (below_via HBW.out h)
      have HO := fun W (h : Below wr.heap.size wr W) => HONE e hmem W (below_via HBW.out h)
      have HT := fun W (h : Below wr.heap.size wr W) => HTWO e hmem W (below_via HBW.out h)
      have hlt' : (m : Int) < (x.ks.length : Int) := by omega
      have hltl' : (m : Int) < (x.l.length : Int) := by omega
      have hm0 : (0 : Int) ≤ (m : Int) := by omega
      have hwm : IntKind.i64.wrap ((m : Int) + 1) = ((m + 1 : Nat) : Int) := by rw [IntWalk.i64_in _ (by omega)]; omega
      rw [hka] at q3
      have LD := Lib.hid (show ∀ W, Below wr.heap.size wr W → _ from fun W (h : Below wr.heap.size wr W) => And.intro (vbox4 (blk_up (below_via HBR.out h) K1.out)) (And.intro (vbox4 (blk_up (below_via HBR.out h) K2.out)) (And.intro ((h.cell (p := ⟨_, _, none⟩) gk).trans ck') (And.intro ((h.cell (p := ⟨_, _, none⟩) ge).trans e0') (And.intro ((h.cell (p := ⟨_, _, none⟩) ge).trans e1') (And.intro ((h.cell (p := ⟨_, _, none⟩) ge).trans e2') ((h.cell (p := ⟨_, _, none⟩) ge).trans e3')))))))
      rw [hla, hka] at LD
      simp only [AV.val, hla, hka] at HO HT
      have HSN := Lib.hid hsn
      clear hsn hk hkl hmem hz' hla hka HHAS HSIZE HONE HTWO ck' e0' e1' e2' e3'
      by_cases hin : k ∈ y.ks
      · have HS1 := Lib.hid (show refL x.v y.v ((x.v.ks.zip x.v.l).take (m + 1)) = R by rw [HSN.out, if_neg fun h => h.1.1 hin])
        rw [decide_eq_true hin] at HH
        clear hin HSN
        go_wp2_with fail
        refine wp_region_bl (by kernel_rfl) (by kernel_rfl) ?_
        repeat (first | go_big_quiet_skip | (go_big_quiet_want; go_big_quiet_op; first | go_big_quiet_on | (refine ⟨_, fun _ _ => (by with_reducible rfl), ?_⟩; go_big_quiet_on) | (apply Exists.intro; refine ⟨fun w' hC => (by simp only [LD.out w' hC, Result.andThen]; exact ⟨trivial, rfl⟩), ?_⟩; go_big_quiet_on) | (apply Exists.intro; refine ⟨fun w' hC => (by (with_reducible refine (HH w' hC).out.mono ?_); exact fun e w2 ⟨he, hb⟩ => ⟨he, hC.trans (hb.mono hC.size)⟩), ?_⟩; go_big_quiet_on) | (apply Exists.intro; refine ⟨fun w' hC => (by (with_reducible refine (HS w' hC).out.mono ?_); exact fun e w2 ⟨he, hb⟩ => ⟨he, hC.trans (hb.mono hC.size)⟩), ?_⟩; go_big_quiet_on)))
        refine wpQuiet_nil ?_; intro wz hbz
        go_wp2_with fail
        exact ⟨⟨m + 1, a, c, R, by omega, by go_num, HS1.out.symm, rfl, own_below HOW.out hbz, below_via HBR.out hbz⟩, by simp [intOf]; omega⟩
      · rw [decide_eq_false hin] at HH
        by_cases h2 : e.v.sz < 2
        · have HS1 := Lib.hid (show refL x.v y.v ((x.v.ks.zip x.v.l).take (m + 1)) = R by rw [HSN.out, if_neg fun h => by have := h.1.2; omega])
          have hd2 : decide ((e.v.sz : Int) < 2) = true := by rw [decide_eq_true_iff]; omega
          have hd3 : (e.v.sz : Int) < 2 := by omega
          generalize e.v.sz = es at *
          clear hin HSN
          go_wp2_with fail
          refine wp_region_bl (by kernel_rfl) (by kernel_rfl) ?_
          repeat (first | go_big_quiet_skip | (go_big_quiet_want; go_big_quiet_op; first | go_big_quiet_on | (refine ⟨_, fun _ _ => (by with_reducible rfl), ?_⟩; go_big_quiet_on) | (apply Exists.intro; refine ⟨fun w' hC => (by simp only [LD.out w' hC, Result.andThen]; exact ⟨trivial, rfl⟩), ?_⟩; go_big_quiet_on) | (apply Exists.intro; refine ⟨fun w' hC => (by (with_reducible refine (HH w' hC).out.mono ?_); exact fun e w2 ⟨he, hb⟩ => ⟨he, hC.trans (hb.mono hC.size)⟩), ?_⟩; go_big_quiet_on) | (apply Exists.intro; refine ⟨fun w' hC => (by (with_reducible refine (HS w' hC).out.mono ?_); exact fun e w2 ⟨he, hb⟩ => ⟨he, hC.trans (hb.mono hC.size)⟩), ?_⟩; go_big_quiet_on)))
          refine wpQuiet_nil ?_; intro wz hbz
          go_wp2_with fail
          exact ⟨⟨m + 1, a, c, R, by omega, by go_num, HS1.out.symm, rfl, own_below HOW.out hbz, below_via HBR.out hbz⟩, by simp [intOf]; omega⟩
        · have hd2 : decide ((e.v.sz : Int) < 2) = false := by rw [decide_eq_false_iff_not]; omega
          have hd3 : ¬ (e.v.sz : Int) < 2 := by omega
          have hge2 : 2 ≤ e.v.sz := by omega
          have HC := Lib.hid (And.intro hin hge2)
          clear hin h2 hge2
          generalize e.v.sz = es at hd2 hd3 HS
          go_wp2_with fail
          refine wp_region_bl (by kernel_rfl) (by kernel_rfl) ?_
          repeat (first | go_big_quiet_skip | (go_big_quiet_want; go_big_quiet_op; first | go_big_quiet_on | (refine ⟨_, fun _ _ => (by with_reducible rfl), ?_⟩; go_big_quiet_on) | (apply Exists.intro; refine ⟨fun w' hC => (by simp only [LD.out w' hC, Result.andThen]; exact ⟨trivial, rfl⟩), ?_⟩; go_big_quiet_on) | (apply Exists.intro; refine ⟨fun w' hC => (by (with_reducible refine (HH w' hC).out.mono ?_); exact fun e w2 ⟨he, hb⟩ => ⟨he, hC.trans (hb.mono hC.size)⟩), ?_⟩; go_big_quiet_on) | (apply Exists.intro; refine ⟨fun w' hC => (by (with_reducible refine (HS w' hC).out.mono ?_); exact fun e w2 ⟨he, hb⟩ => ⟨he, hC.trans (hb.mono hC.size)⟩), ?_⟩; go_big_quiet_on)))
          refine wpQuiet_nil ?_; intro wz hbz
          have B_W7 := Lib.hid hbz
          obtain ⟨W7, hW7⟩ : ∃ W7, W7 = wz := ⟨_, rfl⟩
          subst hW7
          have LD := Lib.hid (show ∀ W, Below W7.heap.size W7 W → _ from fun W (h : Below W7.heap.size W7 W) => LD.out W (below_via B_W7.out h))
          have HO := fun W (h : Below W7.heap.size W7 W) => HO W (below_via B_W7.out h)
          have HT := fun W (h : Below W7.heap.size W7 W) => HT W (below_via B_W7.out h)
          clear hbz
          go_wp2_with fail
          cases d1 : decide ((onlyV x.v y.v e.v).2 = 1) with
          | false =>
            have HS1 := Lib.hid (show refL x.v y.v ((x.v.ks.zip x.v.l).take (m + 1)) = R by rw [HSN.out, if_neg fun h => of_decide_eq_false d1 h.2.1])
            rw [d1] at HO
            clear d1 HSN
            refine wp_region_bl (by kernel_rfl) (by kernel_rfl) ?_
            repeat (first | go_big_quiet_skip | (go_big_quiet_want; go_big_quiet_op; first | go_big_quiet_on | (refine ⟨_, fun _ _ => (by with_reducible rfl), ?_⟩; go_big_quiet_on) | (apply Exists.intro; refine ⟨fun w' hC => (by simp only [LD.out w' hC, Result.andThen]; exact ⟨trivial, rfl⟩), ?_⟩; go_big_quiet_on) | (apply Exists.intro; refine ⟨fun w' hC => (by (with_reducible refine (HO w' hC).out.mono ?_); exact fun e w2 ⟨he, hb⟩ => ⟨he, hC.trans (hb.mono hC.size)⟩), ?_⟩; go_big_quiet_on)))
            refine wpQuiet_nil ?_; intro wz hbz
            have B_W8 := Lib.hid hbz
            obtain ⟨W8, hW8⟩ : ∃ W8, W8 = wz := ⟨_, rfl⟩
            subst hW8
            have LD := Lib.hid (show ∀ W, Below W8.heap.size W8 W → _ from fun W (h : Below W8.heap.size W8 W) => LD.out W (below_via B_W8.out h))
            have HT := fun W (h : Below W8.heap.size W8 W) => HT W (below_via B_W8.out h)
            clear hbz
            go_wp2_with fail
            refine wp_region_bl (by kernel_rfl) (by kernel_rfl) ?_
            repeat (first | go_big_quiet_skip | (go_big_quiet_want; go_big_quiet_op; first | go_big_quiet_on | (refine ⟨_, fun _ _ => (by with_reducible rfl), ?_⟩; go_big_quiet_on) | (apply Exists.intro; refine ⟨fun w' hC => (by simp only [LD.out w' hC, Result.andThen]; exact ⟨trivial, rfl⟩), ?_⟩; go_big_quiet_on) | (apply Exists.intro; refine ⟨fun w' hC => (by (with_reducible refine (HT w' hC).out.mono ?_); exact fun e w2 ⟨he, hb⟩ => ⟨he, hC.trans (hb.mono hC.size)⟩), ?_⟩; go_big_quiet_on)))
            refine wpQuiet_nil ?_; intro wz hbz
            go_wp2_with fail
            have hbf := below_via B_W7.out (below_via B_W8.out hbz)
            exact ⟨⟨m + 1, a, c, R, by omega, by go_num, HS1.out.symm, rfl, own_below HOW.out hbf, below_via HBR.out hbf⟩, by simp [intOf]; omega⟩
          | true =>
            rw [d1] at HO
            cases d2 : decide ((onlyV y.v x.v e.v).2 = 1) with
            | false =>
              have HS1 := Lib.hid (show refL x.v y.v ((x.v.ks.zip x.v.l).take (m + 1)) = R by rw [HSN.out, if_neg fun h => of_decide_eq_false d2 h.2.2])
              rw [d2] at HT
              clear d1 d2 HSN
              refine wp_region_bl (by kernel_rfl) (by kernel_rfl) ?_
              repeat (first | go_big_quiet_skip | (go_big_quiet_want; go_big_quiet_op; first | go_big_quiet_on | (refine ⟨_, fun _ _ => (by with_reducible rfl), ?_⟩; go_big_quiet_on) | (apply Exists.intro; refine ⟨fun w' hC => (by simp only [LD.out w' hC, Result.andThen]; exact ⟨trivial, rfl⟩), ?_⟩; go_big_quiet_on) | (apply Exists.intro; refine ⟨fun w' hC => (by (with_reducible refine (HO w' hC).out.mono ?_); exact fun e w2 ⟨he, hb⟩ => ⟨he, hC.trans (hb.mono hC.size)⟩), ?_⟩; go_big_quiet_on)))
              refine wpQuiet_nil ?_; intro wz hbz
              have B_W8 := Lib.hid hbz
              obtain ⟨W8, hW8⟩ : ∃ W8, W8 = wz := ⟨_, rfl⟩
              subst hW8
              have LD := Lib.hid (show ∀ W, Below W8.heap.size W8 W → _ from fun W (h : Below W8.heap.size W8 W) => LD.out W (below_via B_W8.out h))
              have HT := fun W (h : Below W8.heap.size W8 W) => HT W (below_via B_W8.out h)
              clear hbz
              go_wp2_with fail
              refine wp_region_bl (by kernel_rfl) (by kernel_rfl) ?_
              repeat (first | go_big_quiet_skip | (go_big_quiet_want; go_big_quiet_op; first | go_big_quiet_on | (refine ⟨_, fun _ _ => (by with_reducible rfl), ?_⟩; go_big_quiet_on) | (apply Exists.intro; refine ⟨fun w' hC => (by simp only [LD.out w' hC, Result.andThen]; exact ⟨trivial, rfl⟩), ?_⟩; go_big_quiet_on) | (apply Exists.intro; refine ⟨fun w' hC => (by (with_reducible refine (HT w' hC).out.mono ?_); exact fun e w2 ⟨he, hb⟩ => ⟨he, hC.trans (hb.mono hC.size)⟩), ?_⟩; go_big_quiet_on)))
              refine wpQuiet_nil ?_; intro wz hbz
              go_wp2_with fail
              have hbf := below_via B_W7.out (below_via B_W8.out hbz)
              exact ⟨⟨m + 1, a, c, R, by omega, by go_num, HS1.out.symm, rfl, own_below HOW.out hbf, below_via HBR.out hbf⟩, by simp [intOf]; omega⟩
            | true =>
              have HS1 := Lib.hid (show refL x.v y.v ((x.v.ks.zip x.v.l).take (m + 1)) = R ++ [(k, (onlyV y.v x.v e.v).1)] by rw [HSN.out, if_pos ⟨HC.out, of_decide_eq_true d1, of_decide_eq_true d2⟩])
              rw [d2] at HT
              clear d1 d2 HSN
              generalize (onlyV y.v x.v e.v).1 = t at HT HS1
              refine wp_region_bl (by kernel_rfl) (by kernel_rfl) ?_
              repeat (first | go_big_quiet_skip | (go_big_quiet_want; go_big_quiet_op; first | go_big_quiet_on | (refine ⟨_, fun _ _ => (by with_reducible rfl), ?_⟩; go_big_quiet_on) | (apply Exists.intro; refine ⟨fun w' hC => (by simp only [LD.out w' hC, Result.andThen]; exact ⟨trivial, rfl⟩), ?_⟩; go_big_quiet_on) | (apply Exists.intro; refine ⟨fun w' hC => (by (with_reducible refine (HO w' hC).out.mono ?_); exact fun e w2 ⟨he, hb⟩ => ⟨he, hC.trans (hb.mono hC.size)⟩), ?_⟩; go_big_quiet_on)))
              refine wpQuiet_nil ?_; intro wz hbz
              have B_W8 := Lib.hid hbz
              obtain ⟨W8, hW8⟩ : ∃ W8, W8 = wz := ⟨_, rfl⟩
              subst hW8
              have LD := Lib.hid (show ∀ W, Below W8.heap.size W8 W → _ from fun W (h : Below W8.heap.size W8 W) => LD.out W (below_via B_W8.out h))
              have HT := fun W (h : Below W8.heap.size W8 W) => HT W (below_via B_W8.out h)
              clear hbz
              go_wp2_with fail
              refine wp_region_bl (by kernel_rfl) (by kernel_rfl) ?_
              repeat (first | go_big_quiet_skip | (go_big_quiet_want; go_big_quiet_op; first | go_big_quiet_on | (refine ⟨_, fun _ _ => (by with_reducible rfl), ?_⟩; go_big_quiet_on) | (apply Exists.intro; refine ⟨fun w' hC => (by simp only [LD.out w' hC, Result.andThen]; exact ⟨trivial, rfl⟩), ?_⟩; go_big_quiet_on) | (apply Exists.intro; refine ⟨fun w' hC => (by (with_reducible refine (HT w' hC).out.mono ?_); exact fun e w2 ⟨he, hb⟩ => ⟨he, hC.trans (hb.mono hC.size)⟩), ?_⟩; go_big_quiet_on)))
              refine wpQuiet_nil ?_; intro wz hbz
              have hbf := below_via B_W7.out (below_via B_W8.out hbz)
              obtain ⟨⟨q0, q1, q2, q3, -, -, -, -⟩, -, ck, -, -, -, -⟩ := LD.out wz hbz
              have i1 : w.heap.size < wz.heap.size := by have := hbf.size; omega
              have i2 : bk < wz.heap.size := by have := hbf.size; omega
              have hlit : SlE renE 2 (wz.alloc (.cells #[.string k, .string t] 124)) wz.heap.size (wz.heap.size + 1) (some ⟨wz.heap.size, 0, none⟩) [(k, t)] := lit_sl (enc := renE) (size := 2) (l := [(k, t)]) (t := 124) (fr := (0, 0)) (fun _ => rfl) (heap_alloc_new _ _)
              obtain ⟨v', W', hrun, hown', hgr, -⟩ := app_rren (c := 1) (own_below (own_below HOW.out hbf) ((Below.refl _ _).alloc (Nat.le_refl _) _)) hlit (by simp; omega) (by have := hbf.size; simp; omega)
              obtain ⟨R', hR'⟩ : ∃ R', R' = R ++ [(k, t)] := ⟨_, rfl⟩
              rw [← hR'] at hown'
              have HR' := Lib.hid hR'
              clear hR'
              obtain ⟨a', c', rfl⟩ := own_formRr hown'
              have HOW' := Lib.hid hown'
              have HGR := Lib.hid hgr
              have HBF := Lib.hid hbf
              clear hown' hlit hgr hbf hbz
              go_wp2_with (at_builtin; refine wl_append (s := .tmp 69) (x := .tmp 77) rfl rfl (hrun _) ?_; clear hrun)
              have hsf := HBF.out.size
              exact ⟨⟨m + 1, a', c', R', by omega, by go_num, by rw [HR'.out, HS1.out], rfl, HOW'.out, (HBR.out.trans ((HBF.out.mono hsr).alloc (by omega) _)).grown HGR.out (by simp; omega) (fun q hq => (World.ownsRow.lt HOW.out q hq).1)⟩, by simp [intOf]; omega⟩
    · obtain rfl : m = x.ks.length := by omega
      have hge : ¬ (x.ks.length : Int) < (x.ks.length : Int) := by omega
      have hz' : (x.v.ks.zip x.v.l).take x.ks.length = x.v.ks.zip x.v.l := List.take_of_length_le (by rw [List.length_zip, AV.v_ks]; omega)
      have hF : ofV x.v y.v = R := by rw [HF.out, HRR.out, hz']
      have HFF := Lib.hid hF
      have HSL := Lib.hid (own_sl (enc := renE) (size := 2) (fun _ => rfl) HOW.out)
      have hW2 : w.heap.size ≤ W2.heap.size := by have := K3.out; omega
      clear hz' hF
      go_wp2_with fail
      refine bodyPost_ret (v := .slice a R.length c) (by simp [results, Tryz.results28, go_sem]) rfl ⟨a, c, by rw [HFF.out], ?_, HBW.out⟩
      rw [HFF.out]
      exact HSL.out.widen hW2 (Nat.le_refl _)

theorem rof_c (w : World) (x y : AV) (hx : Rd w x) (hy : Rd w y) (hwx : x.w ≤ 1048576) (hwy : y.w ≤ 1048576) :
    Calls Tryz.prog 28 #[x.val, y.val] w (RRensPost (ofV x.v y.v) w) := by
  cases h0 : x.v.isMap with
  | false => exact rof_out0 w x y hx hwx h0
  | true =>
    cases h1 : y.v.isMap with
    | false => exact rof_out1 w x y hx hy hwx hwy h0 h1
    | true => exact rof_in w x y hx hy hwx hwy h0 h1
end Go.Proofs.YtcpdogjcofkpcaaGreatDoor

namespace Go.Proofs.YtcpdogjcofkpcaaGreatDoor
open Go.RowKit Go.Sort

theorem rgot_s {x : AV} {s : ByteArray} {v : Val} (h : x.v.get s = some v) (w : World) (hx : Rd w x) (hw : x.w ≤ 1048576) : Calls Tryz.prog 45 #[x.val, .string s] w (fun e w' => ∃ z, e = .returned (.tuple #[z.val, .bool true]) ∧ z ∈ x.l ∧ z.v = v ∧ Below w.heap.size w w') := by
  refine (rget_c x s w hx hw).mono ?_
  rintro e w' ⟨⟨z, hm, hz, rfl⟩ | ⟨hn, -⟩, hb⟩
  · rw [h] at hz; cases hz; exact ⟨z, rfl, hm, rfl, hb⟩
  · rw [h] at hn; cases hn
theorem rgot_n {x : AV} {s : ByteArray} (h : x.v.get s = none) (w : World) (hx : Rd w x) (hw : x.w ≤ 1048576) : Calls Tryz.prog 45 #[x.val, .string s] w (fun e w' => e = .returned (.tuple #[zAV.val, .bool false]) ∧ Below w.heap.size w w') := by
  refine (rget_c x s w hx hw).mono ?_
  rintro e w' ⟨⟨z, hm, hz, rfl⟩ | ⟨-, rfl⟩, hb⟩
  · rw [h] at hz; cases hz
  · exact ⟨rfl, hb⟩
set_option maxRecDepth 100000 in
set_option maxHeartbeats 12800000 in
theorem rused_c (w : World) (A : Option Addr) (cl : Nat) (L : List (ByteArray × ByteArray)) (hL : SlE renE 2 w 0 w.heap.size A L) (hLl : L.length ≤ 1048576) (x y : AV) (hx : Rd w x) (hy : Rd w y) (hwx : x.w ≤ 1048576) (hwy : y.w ≤ 1048576) (hgx : ∀ r ∈ L, ∃ v, x.v.get r.1 = some v) :
    Calls Tryz.prog 82 #[.slice A L.length cl, x.val, y.val] w (RRensPost (usedP L x.v y.v) w) := by
  have hlk2 := y.w_ks
  have HSL := Lib.hid hL
  have HHAS := fun (s : ByteArray) W (h : Below w.heap.size w W) => Lib.hid (rhas_c y s W (hy.up h) (by omega))
  have HSAME := fun (z : AV) (hz : z ∈ x.l) (z2 : AV) (hz2 : z2 ∈ y.l) W (h : Below w.heap.size w W) => Lib.hid (rsame_c z z2 W (Rd.up (hx.kid hz) h) (Rd.up (hy.kid hz2) h) (by have := AV.w_kid hz; omega) (by have := AV.w_kid hz2; omega))
  have HX := Lib.hid hx
  have HY := Lib.hid hy
  have HGET := Lib.hid hgx
  have hB0 := duo_0 (w := w) (o1 := .cells #[.int .u8 x.k, .string x.t, .slice x.la x.l.length x.lc, .slice x.ka x.ks.length x.kc] 48) (o2 := .cells #[.int .u8 y.k, .string y.t, .slice y.la y.l.length y.lc, .slice y.ka y.ks.length y.kc] 48)
  obtain ⟨W2, hW2⟩ : ∃ W2, (w.alloc (.cells #[.int .u8 x.k, .string x.t, .slice x.la x.l.length x.lc, .slice x.ka x.ks.length x.kc] 48)).alloc (.cells #[.int .u8 y.k, .string y.t, .slice y.la y.l.length y.lc, .slice y.ka y.ks.length y.kc] 48) = W2 := ⟨_, rfl⟩
  have hb2 : Below (w.heap.size + 1 + 1) ((w.alloc (.cells #[.int .u8 x.k, .string x.t, .slice x.la x.l.length x.lc, .slice x.ka x.ks.length x.kc] 48)).alloc (.cells #[.int .u8 y.k, .string y.t, .slice y.la y.l.length y.lc, .slice y.ka y.ks.length y.kc] 48)) W2 := by rw [← hW2]; exact hB0
  obtain ⟨k1, k2, k3, k4⟩ := duo_at hb2
  have K1 := Lib.hid k1
  have K2 := Lib.hid k2
  have K3 := Lib.hid k3
  have K4 := Lib.hid k4
  have HW2 := Lib.hid hW2
  clear k1 k2 k3 k4 hb2 hB0 hW2 hx hy hL hgx
  go_enter Tryz.func82, Tryz.ntmps82
  go_wp2_with fail
  rw [HW2.out]
  go_loopw [7, 8] (fun s7 s8 wr => ∃ (m : Nat) (a : Option Addr) (c : Nat) (R : List (ByteArray × ByteArray)), m ≤ L.length ∧ s8 = .int .i64 m ∧ R = usedP (L.take m) x.v y.v ∧ s7 = .slice a R.length c ∧ OwnRr wr W2.heap.size (.slice a R.length c) R ∧ Below W2.heap.size W2 wr) (fun _ s8 _ => L.length - (intOf s8).toNat)
  case atStart => exact ⟨0, none, 0, [], Nat.zero_le _, rfl, rfl, rfl, ⟨rfl, .inl ⟨rfl, rfl⟩⟩, Below.refl _ _⟩
  case round =>
    obtain ⟨m, a, c, R, hm, rfl, hR, rfl, hown, hbr⟩ := hrel
    obtain ⟨W3, hW3⟩ : ∃ W3, W3 = wr := ⟨_, rfl⟩
    subst hW3
    have hsr := hbr.size
    have hRl := usedP_len (L.take m) x.v y.v
    rw [← hR, List.length_take] at hRl
    have HBR := Lib.hid hbr
    have HRR := Lib.hid hR
    have HOW := Lib.hid hown
    have HBW := Lib.hid (below_via K4.out hbr)
    clear hbr hR hown
    by_cases hlt : m < L.length
    · have hk : L[m]? = some L[m] := List.getElem?_eq_getElem hlt
      have hmem : L[m] ∈ L := List.getElem_mem hlt
      generalize L[m] = r at hk hmem
      obtain ⟨v, hv⟩ := HGET.out r hmem
      have hsn : usedP (L.take (m + 1)) x.v y.v = R ++ usedP [r] x.v y.v := by
        rw [List.take_add_one, hk, HRR.out]
        exact usedP_snoc x.v y.v (L.take m) r
      obtain ⟨b, off, hka, -, -, g1, c0', c1'⟩ := ren_at HSL.out hk
      obtain ⟨f, t⟩ := r
      have F : ∀ W, Below W3.heap.size W3 W → W.cell? ⟨w.heap.size, 0, none⟩ = some (.int .u8 x.k) ∧ W.cell? ⟨w.heap.size, 1, none⟩ = some (.string x.t) ∧ W.cell? ⟨w.heap.size, 2, none⟩ = some (.slice x.la x.l.length x.lc) ∧ W.cell? ⟨w.heap.size, 3, none⟩ = some (.slice x.ka x.ks.length x.kc) ∧
          W.cell? ⟨w.heap.size + 1, 0, none⟩ = some (.int .u8 y.k) ∧ W.cell? ⟨w.heap.size + 1, 1, none⟩ = some (.string y.t) ∧ W.cell? ⟨w.heap.size + 1, 2, none⟩ = some (.slice y.la y.l.length y.lc) ∧ W.cell? ⟨w.heap.size + 1, 3, none⟩ = some (.slice y.ka y.ks.length y.kc) ∧ W.cell? ⟨b, off + m * 2, none⟩ = some (.string f) ∧ W.cell? ⟨b, off + m * 2 + 1, none⟩ = some (.string t) := fun W h => by
        obtain ⟨a0, a1, a2, a3, -, -, -, -⟩ := vbox4 (blk_up (below_via HBR.out h) K1.out)
        obtain ⟨d0, d1, d2, d3, -, -, -, -⟩ := vbox4 (blk_up (below_via HBR.out h) K2.out)
        exact ⟨a0, a1, a2, a3, d0, d1, d2, d3, ((below_via HBW.out h).cell (p := ⟨_, _, none⟩) g1).trans c0', ((below_via HBW.out h).cell (p := ⟨_, _, none⟩) g1).trans c1'⟩
      have HFF := Lib.hid F
      have hvw := got_w hv
      have hlt' : (m : Int) < (L.length : Int) := by omega
      have hm0 : (0 : Int) ≤ (m : Int) := by omega
      have hwm : IntKind.i64.wrap ((m : Int) + 1) = ((m + 1 : Nat) : Int) := by rw [IntWalk.i64_in _ (by omega)]; omega
      have HSN := Lib.hid hsn
      have HV := Lib.hid hv
      have hG1 := fun W (h : Below W3.heap.size W3 W) => Lib.hid (rgot_s hv W (HX.out.up (below_via HBW.out h)) hwx)
      have HA := HHAS t
      clear hk hmem hsn c0' c1' F hv HHAS HGET
      subst hka
      obtain ⟨q0, q1, q2, q3, p0, p1, p2, p3, c0, c1⟩ := HFF.out W3 (Below.refl _ _)
      have i1 : w.heap.size < W3.heap.size := by have := K3.out; omega
      have i2 : w.heap.size + 1 < W3.heap.size := by have := K3.out; omega
      have i3 : b < W3.heap.size := by have := HBW.out.size; omega
      have hN : W3.heap.size ≤ W3.heap.size := Nat.le_refl _
      go_wp2_with fail
      go_cut [9] (fun t6 wx => ∃ g z, t6 = .pointer (some ⟨g, 0, none⟩) ∧ wx.heap[g]? = some (.cells #[.int .u8 z.k, .string z.t, .slice z.la z.l.length z.lc, .slice z.ka z.ks.length z.kc] 48 (0, 0)) ∧ z ∈ x.l ∧ z.v = v ∧ Below W3.heap.size W3 wx)
      case first =>
        go_region_held3 (fun w' => (∀ b o, b < W3.heap.size → w'.cell? ⟨b, o, none⟩ = W3.cell? ⟨b, o, none⟩) ∧ Below W3.heap.size W3 w')
          (first
            | (with_reducible exact Q1.out)
            | (with_reducible exact s_alloc hN Q1.out _)
            | (with_reducible exact s_put4 hN Q1.out (by omega))
            | (with_reducible exact s_alloc0 hN _)
            | (with_reducible refine s_alloc hN (by assumption) _)
            | exact ⟨fun _ _ _ => rfl, (Below.refl _ _).drew⟩)
          (first
            | (go_at_call 45; refine (hG1 _ (s_bel (by assumption))).out.mono ?_; rintro e w6 ⟨z, rfl, hzm, hzv, hb6⟩; have Q1 := Lib.hid (s_step hN (by assumption) hb6)
               obtain ⟨bs1, bs2⟩ := bcell hb6
               have hss := hb6.size
               try simp only [World.size_drew, World.size_alloc] at hss
               first | (have l1 : W3.heap.size < w6.heap.size := by omega) | skip))
        all_goals go_wp2_with fail
        all_goals go_meet
        · exact ⟨w6.heap.size, z, rfl, heap_alloc_new w6 _, hzm, hzv, (s_alloc hN Q1.out _).2⟩
        · have hbk := heap_alloc_new W3 (.cells #[.int .u8 0, .string ⟨#[]⟩, .slice none 0 0, .slice none 0 0] 48)
          exact ⟨W3.heap.size, z, rfl, put4_box ((hb6.block W3.heap.size (by simp)).trans hbk), hzm, hzv, (s_put4 hN Q1.out (by omega)).2⟩
      case rest =>
        obtain ⟨g, y1, rfl, hgb, hy1m, hy1v, hbc⟩ := hcut
        obtain ⟨W5, hWn⟩ : ∃ W5, W5 = wc := ⟨_, rfl⟩
        subst hWn
        have B_W5 := Lib.hid hbc
        have G_W5 := Lib.hid hgb
        clear hgb hbc
        clear hG1 q0 q1 q2 q3 p0 p1 p2 p3 c0 c1 i1 i2 i3 hN
        obtain ⟨q0, q1, q2, q3, p0, p1, p2, p3, c0, c1⟩ := HFF.out W5 B_W5.out
        have i1 : w.heap.size < W5.heap.size := by have := B_W5.out.size; have := K3.out; omega
        have i2 : w.heap.size + 1 < W5.heap.size := by have := B_W5.out.size; have := K3.out; omega
        have i3 : b < W5.heap.size := by have := B_W5.out.size; have := HBW.out.size; omega
        have hN : W5.heap.size ≤ W5.heap.size := Nat.le_refl _
        have J5 := Lib.hid (below_via HBW.out B_W5.out)
        cases hg : y.v.get f with
        | none =>
          have HS := Lib.hid (show usedP (L.take (m + 1)) x.v y.v = R by rw [HSN.out]; simp [usedP, HV.out, hg])
          have hG2 := fun W (h : Below W5.heap.size W5 W) => Lib.hid (rgot_n hg W (HY.out.up (below_via J5.out h)) hwy)
          clear hg
          go_wp2_with fail
          go_cut [11, 12] (fun t6 t7 wx => ∃ g, t6 = .pointer (some ⟨g, 0, none⟩) ∧ t7 = .bool false ∧ wx.heap[g]? = some (.cells #[.int .u8 zAV.k, .string zAV.t, .slice zAV.la zAV.l.length zAV.lc, .slice zAV.ka zAV.ks.length zAV.kc] 48 (0, 0)) ∧ Below W5.heap.size W5 wx)
          case first =>
            go_region_held3 (fun w' => (∀ b o, b < W5.heap.size → w'.cell? ⟨b, o, none⟩ = W5.cell? ⟨b, o, none⟩) ∧ Below W5.heap.size W5 w')
              (first
                | (with_reducible exact Q1.out)
                | (with_reducible exact s_alloc hN Q1.out _)
                | (with_reducible exact s_put4 hN Q1.out (by omega))
                | (with_reducible exact s_alloc0 hN _)
                | (with_reducible refine s_alloc hN (by assumption) _)
                | exact ⟨fun _ _ _ => rfl, (Below.refl _ _).drew⟩)
              (first
                | (go_at_call 45; refine (hG2 _ (s_bel (by assumption))).out.mono ?_; rintro e w6 ⟨rfl, hb6⟩; have Q1 := Lib.hid (s_step hN (by assumption) hb6)
                   obtain ⟨bs1, bs2⟩ := bcell hb6
                   have hss := hb6.size
                   try simp only [World.size_drew, World.size_alloc] at hss
                   first | (have l1 : W5.heap.size < w6.heap.size := by omega) | skip))
            all_goals go_wp2_with fail
            all_goals go_meet
            · exact ⟨w6.heap.size, rfl, rfl, heap_alloc_new w6 _, (s_alloc hN Q1.out _).2⟩
            · have hbk := heap_alloc_new W5 (.cells #[.int .u8 0, .string ⟨#[]⟩, .slice none 0 0, .slice none 0 0] 48)
              exact ⟨W5.heap.size, rfl, rfl, put4_box ((hb6.block W5.heap.size (by simp)).trans hbk), (s_put4 hN Q1.out (by omega)).2⟩
          case rest =>
            obtain ⟨g2, rfl, rfl, hgb, hbc⟩ := hcut
            obtain ⟨W6, hWn⟩ : ∃ W6, W6 = wc := ⟨_, rfl⟩
            subst hWn
            have B_W6 := Lib.hid hbc
            have G_W6 := Lib.hid hgb
            clear hgb hbc
            clear hG2 q0 q1 q2 q3 p0 p1 p2 p3 c0 c1 i1 i2 i3 hN
            go_wp2_with fail
            refine wp_region_bl (by kernel_rfl) (by kernel_rfl) ?_
            repeat (first | go_big_quiet_skip | (go_big_quiet_want; go_big_quiet_op; first | go_big_quiet_on | (refine ⟨_, fun _ _ => (by with_reducible rfl), ?_⟩; go_big_quiet_on) ))
            refine wpQuiet_nil ?_; intro wz hbz
            go_wp2_with fail
            have hbf := below_via B_W5.out (below_via B_W6.out hbz)
            exact ⟨⟨m + 1, a, c, R, by omega, by go_num, HS.out.symm, rfl, own_below HOW.out hbf, below_via HBR.out hbf⟩, by simp [intOf]; omega⟩
        | some now =>
          have hone : usedP [(f, t)] x.v y.v = if sameV v now = false ∧ t ∉ y.ks then [(f, t)] else [] := by
            unfold usedP
            rw [List.filter_cons, HV.out, hg, AV.v_ks]
            by_cases h : sameV v now = false ∧ t ∉ y.ks
            · rw [if_pos h]; simp [h.1, h.2]
            · rw [if_neg h]
              by_cases h1 : sameV v now = false
              · have : t ∈ y.ks := Classical.byContradiction fun h2 => h ⟨h1, h2⟩
                simp [this]
              · simp at h1; simp [h1]
          have hsn := HSN.out
          rw [hone] at hsn
          have HSN2 := Lib.hid hsn
          have hnw := got_w hg
          have hG2 := fun W (h : Below W5.heap.size W5 W) => Lib.hid (rgot_s hg W (HY.out.up (below_via J5.out h)) hwy)
          clear hg hone hsn
          go_wp2_with fail
          go_cut [11, 12] (fun t6 t7 wx => ∃ g z, t6 = .pointer (some ⟨g, 0, none⟩) ∧ t7 = .bool true ∧ wx.heap[g]? = some (.cells #[.int .u8 z.k, .string z.t, .slice z.la z.l.length z.lc, .slice z.ka z.ks.length z.kc] 48 (0, 0)) ∧ z ∈ y.l ∧ z.v = now ∧ Below W5.heap.size W5 wx)
          case first =>
            go_region_held3 (fun w' => (∀ b o, b < W5.heap.size → w'.cell? ⟨b, o, none⟩ = W5.cell? ⟨b, o, none⟩) ∧ Below W5.heap.size W5 w')
              (first
                | (with_reducible exact Q1.out)
                | (with_reducible exact s_alloc hN Q1.out _)
                | (with_reducible exact s_put4 hN Q1.out (by omega))
                | (with_reducible exact s_alloc0 hN _)
                | (with_reducible refine s_alloc hN (by assumption) _)
                | exact ⟨fun _ _ _ => rfl, (Below.refl _ _).drew⟩)
              (first
                | (go_at_call 45; refine (hG2 _ (s_bel (by assumption))).out.mono ?_; rintro e w6 ⟨z, rfl, hzm, hzv, hb6⟩; have Q1 := Lib.hid (s_step hN (by assumption) hb6)
                   obtain ⟨bs1, bs2⟩ := bcell hb6
                   have hss := hb6.size
                   try simp only [World.size_drew, World.size_alloc] at hss
                   first | (have l1 : W5.heap.size < w6.heap.size := by omega) | skip))
            all_goals go_wp2_with fail
            all_goals go_meet
            · exact ⟨w6.heap.size, z, rfl, rfl, heap_alloc_new w6 _, hzm, hzv, (s_alloc hN Q1.out _).2⟩
            · have hbk := heap_alloc_new W5 (.cells #[.int .u8 0, .string ⟨#[]⟩, .slice none 0 0, .slice none 0 0] 48)
              exact ⟨W5.heap.size, z, rfl, rfl, put4_box ((hb6.block W5.heap.size (by simp)).trans hbk), hzm, hzv, (s_put4 hN Q1.out (by omega)).2⟩
          case rest =>
            obtain ⟨g2, y2, rfl, rfl, hgb, hy2m, hy2v, hbc⟩ := hcut
            obtain ⟨W6, hWn⟩ : ∃ W6, W6 = wc := ⟨_, rfl⟩
            subst hWn
            have B_W6 := Lib.hid hbc
            have G_W6 := Lib.hid hgb
            clear hgb hbc
            clear hG2 q0 q1 q2 q3 p0 p1 p2 p3 c0 c1 i1 i2 i3 hN
            have J6 := Lib.hid (below_via B_W5.out B_W6.out)
            have K6 := Lib.hid (below_via HBW.out J6.out)
            have hgl := lt_of_blk G_W5.out
            have hgl2 := lt_of_blk G_W6.out
            have hW56 := B_W6.out.size
            have hgl6 : g < W6.heap.size := by omega
            have LD := Lib.hid (show ∀ W, Below W6.heap.size W6 W → _ from fun W (h : Below W6.heap.size W6 W) => And.intro (vbox4 (blk_up (below_via B_W6.out h) G_W5.out)) (And.intro (vbox4 (blk_up h G_W6.out)) (And.intro (vbox4 (blk_up (below_via HBR.out (below_via J6.out h)) K2.out)) (And.intro (HFF.out W (below_via J6.out h)).2.2.2.2.2.2.2.2.1 (HFF.out W (below_via J6.out h)).2.2.2.2.2.2.2.2.2))))
            have HH := fun W (h : Below W6.heap.size W6 W) => HA W (below_via K6.out h)
            have HM := fun W (h : Below W6.heap.size W6 W) => HSAME y1 hy1m y2 hy2m W (below_via K6.out h)
            rw [hy1v, hy2v] at HM
            cases hsm : sameV v now with
            | true =>
              have HS := Lib.hid (show usedP (L.take (m + 1)) x.v y.v = R by rw [HSN2.out, hsm]; simp)
              rw [hsm] at HM
              clear hsm
              go_wp2_with fail
              refine wp_region_bl (by kernel_rfl) (by kernel_rfl) ?_
              repeat (first | go_big_quiet_skip | (go_big_quiet_want; go_big_quiet_op; first | go_big_quiet_on | (refine ⟨_, fun _ _ => (by with_reducible rfl), ?_⟩; go_big_quiet_on) | (apply Exists.intro; refine ⟨fun w' hC => (by simp only [LD.out w' hC, Result.andThen]; exact ⟨trivial, rfl⟩), ?_⟩; go_big_quiet_on) | (apply Exists.intro; refine ⟨fun w' hC => (by (with_reducible refine (HM w' hC).out.mono ?_); exact fun e w2 ⟨he, hb⟩ => ⟨he, hC.trans (hb.mono hC.size)⟩), ?_⟩; go_big_quiet_on) | (apply Exists.intro; refine ⟨fun w' hC => (by (with_reducible refine (HH w' hC).out.mono ?_); exact fun e w2 ⟨he, hb⟩ => ⟨he, hC.trans (hb.mono hC.size)⟩), ?_⟩; go_big_quiet_on)))
              refine wpQuiet_nil ?_; intro wz hbz
              go_wp2_with fail
              have hbf := below_via J6.out hbz
              exact ⟨⟨m + 1, a, c, R, by omega, by go_num, HS.out.symm, rfl, own_below HOW.out hbf, below_via HBR.out hbf⟩, by simp [intOf]; omega⟩
            | false =>
              rw [hsm] at HM
              by_cases hin : t ∈ y.ks
              · have HS := Lib.hid (show usedP (L.take (m + 1)) x.v y.v = R by rw [HSN2.out, if_neg (fun h => h.2 hin)]; simp)
                rw [decide_eq_true hin] at HH
                clear hin hsm
                go_wp2_with fail
                refine wp_region_bl (by kernel_rfl) (by kernel_rfl) ?_
                repeat (first | go_big_quiet_skip | (go_big_quiet_want; go_big_quiet_op; first | go_big_quiet_on | (refine ⟨_, fun _ _ => (by with_reducible rfl), ?_⟩; go_big_quiet_on) | (apply Exists.intro; refine ⟨fun w' hC => (by simp only [LD.out w' hC, Result.andThen]; exact ⟨trivial, rfl⟩), ?_⟩; go_big_quiet_on) | (apply Exists.intro; refine ⟨fun w' hC => (by (with_reducible refine (HM w' hC).out.mono ?_); exact fun e w2 ⟨he, hb⟩ => ⟨he, hC.trans (hb.mono hC.size)⟩), ?_⟩; go_big_quiet_on) | (apply Exists.intro; refine ⟨fun w' hC => (by (with_reducible refine (HH w' hC).out.mono ?_); exact fun e w2 ⟨he, hb⟩ => ⟨he, hC.trans (hb.mono hC.size)⟩), ?_⟩; go_big_quiet_on)))
                refine wpQuiet_nil ?_; intro wz hbz
                go_wp2_with fail
                have hbf := below_via J6.out hbz
                exact ⟨⟨m + 1, a, c, R, by omega, by go_num, HS.out.symm, rfl, own_below HOW.out hbf, below_via HBR.out hbf⟩, by simp [intOf]; omega⟩
              · have HS := Lib.hid (show usedP (L.take (m + 1)) x.v y.v = R ++ [(f, t)] by rw [HSN2.out, if_pos ⟨hsm, hin⟩])
                rw [decide_eq_false hin] at HH
                clear hin hsm
                go_wp2_with fail
                refine wp_region_bl (by kernel_rfl) (by kernel_rfl) ?_
                repeat (first | go_big_quiet_skip | (go_big_quiet_want; go_big_quiet_op; first | go_big_quiet_on | (refine ⟨_, fun _ _ => (by with_reducible rfl), ?_⟩; go_big_quiet_on) | (apply Exists.intro; refine ⟨fun w' hC => (by simp only [LD.out w' hC, Result.andThen]; exact ⟨trivial, rfl⟩), ?_⟩; go_big_quiet_on) | (apply Exists.intro; refine ⟨fun w' hC => (by (with_reducible refine (HM w' hC).out.mono ?_); exact fun e w2 ⟨he, hb⟩ => ⟨he, hC.trans (hb.mono hC.size)⟩), ?_⟩; go_big_quiet_on) | (apply Exists.intro; refine ⟨fun w' hC => (by (with_reducible refine (HH w' hC).out.mono ?_); exact fun e w2 ⟨he, hb⟩ => ⟨he, hC.trans (hb.mono hC.size)⟩), ?_⟩; go_big_quiet_on)))
                refine wpQuiet_nil ?_; intro wz hbz
                have hbf := below_via J6.out hbz
                obtain ⟨-, -, -, c0, c1⟩ := LD.out wz hbz
                have i3 : b < wz.heap.size := by have := hbf.size; have := HBW.out.size; omega
                have hlit : SlE renE 2 (wz.alloc (.cells #[.string f, .string t] 124)) wz.heap.size (wz.heap.size + 1) (some ⟨wz.heap.size, 0, none⟩) [(f, t)] := lit_sl (enc := renE) (size := 2) (l := [(f, t)]) (t := 124) (fr := (0, 0)) (fun _ => rfl) (heap_alloc_new _ _)
                obtain ⟨v', W', hrun, hown', hgr, -⟩ := app_rren (c := 1) (own_below (own_below HOW.out hbf) ((Below.refl _ _).alloc (Nat.le_refl _) _)) hlit (by simp; omega) (by have := hbf.size; simp; omega)
                obtain ⟨R', hR'⟩ : ∃ R', R' = R ++ [(f, t)] := ⟨_, rfl⟩
                rw [← hR'] at hown'
                have HR' := Lib.hid hR'
                clear hR'
                obtain ⟨a', c', rfl⟩ := own_formRr hown'
                have HOW' := Lib.hid hown'
                have HGR := Lib.hid hgr
                have HBF := Lib.hid hbf
                clear hown' hlit hgr hbf hbz
                go_wp2_with (at_builtin; refine wl_append (s := .tmp 56) (x := .tmp 61) rfl rfl (hrun _) ?_; clear hrun)
                have hsf := HBF.out.size
                exact ⟨⟨m + 1, a', c', R', by omega, by go_num, by rw [HR'.out, HS.out], rfl, HOW'.out, (HBR.out.trans ((HBF.out.mono hsr).alloc (by omega) _)).grown HGR.out (by simp; omega) (fun q hq => (World.ownsRow.lt HOW.out q hq).1)⟩, by simp [intOf]; omega⟩
    · obtain rfl : m = L.length := by omega
      have hge : ¬ (L.length : Int) < (L.length : Int) := by omega
      have hF : usedP L x.v y.v = R := by rw [HRR.out, List.take_length]
      have HFF := Lib.hid hF
      have HSL2 := Lib.hid (own_sl (enc := renE) (size := 2) (fun _ => rfl) HOW.out)
      have hW2 : w.heap.size ≤ W2.heap.size := by have := K3.out; omega
      clear hF
      go_wp2_with fail
      refine bodyPost_ret (v := .slice a R.length c) (by simp [results, Tryz.results82, go_sem]) rfl ⟨a, c, by rw [HFF.out], ?_, HBW.out⟩
      rw [HFF.out]
      exact HSL2.out.widen hW2 (Nat.le_refl _)
end Go.Proofs.YtcpdogjcofkpcaaGreatDoor

namespace Go.Proofs.YtcpdogjcofkpcaaGreatDoor
open Go.RowKit Go.Sort

set_option maxRecDepth 100000 in
set_option maxHeartbeats 3200000 in
theorem rren_used_out0 (w : World) (x y z : AV) (hx : Rd w x) (hy : Rd w y) (hz : Rd w z) (hwx : x.w ≤ 1048576) (hwy : y.w ≤ 1048576) (hwz : z.w ≤ 1048576) (h0 : x.v.isMap = false) :
    Calls Tryz.prog 26 #[x.val, y.val, z.val] w (UsedPost (usedV x.v y.v z.v) w) := by
  have HF := Lib.hid (show usedV x.v y.v z.v = ([], []) by unfold usedV; rw [h0]; simp)
  have HMX := fun W (h : Below w.heap.size w W) => Lib.hid (rismap_c W x (hx.up h) hwx)
  have HMY := fun W (h : Below w.heap.size w W) => Lib.hid (rismap_c W y (hy.up h) hwy)
  have HMZ := fun W (h : Below w.heap.size w W) => Lib.hid (rismap_c W z (hz.up h) hwz)
  have hB0 := tri_0 (w := w) (o1 := .cells #[.int .u8 x.k, .string x.t, .slice x.la x.l.length x.lc, .slice x.ka x.ks.length x.kc] 48) (o2 := .cells #[.int .u8 y.k, .string y.t, .slice y.la y.l.length y.lc, .slice y.ka y.ks.length y.kc] 48) (o3 := .cells #[.int .u8 z.k, .string z.t, .slice z.la z.l.length z.lc, .slice z.ka z.ks.length z.kc] 48)
  have hb0 := tri_b (w := w) (o1 := .cells #[.int .u8 x.k, .string x.t, .slice x.la x.l.length x.lc, .slice x.ka x.ks.length x.kc] 48) (o2 := .cells #[.int .u8 y.k, .string y.t, .slice y.la y.l.length y.lc, .slice y.ka y.ks.length y.kc] 48) (o3 := .cells #[.int .u8 z.k, .string z.t, .slice z.la z.l.length z.lc, .slice z.ka z.ks.length z.kc] 48)
  rw [h0] at HMX
  clear h0
  go_enter Tryz.func26, Tryz.ntmps26
  go_wp2_with (go_at_call 81; first
          | ((with_reducible refine (HMX _ (by assumption)).out.mono ?_); rintro e w1 ⟨rfl, hb1⟩
             have hB1 := tri_step (N := w.heap.size + 1 + 1 + 1) (by assumption) hb1 (by simp)
             obtain ⟨k1, k2, k3, k4, k5⟩ := tri_at hB1
             obtain ⟨q0, q1, q2, q3, -, -, -, -⟩ := vbox4 k1
             obtain ⟨p0, p1, p2, p3, -, -, -, -⟩ := vbox4 k2
             obtain ⟨r0, r1, r2, r3, -, -, -, -⟩ := vbox4 k3))
  refine bodyPost_ret (v := .tuple #[.slice none 0 0, .slice none 0 0]) (by simp [results, Tryz.results26, go_sem]) rfl ⟨none, 0, none, 0, by rw [HF.out]; rfl, by rw [HF.out]; exact .nil, by rw [HF.out]; exact .nil, k5⟩

set_option maxRecDepth 100000 in
set_option maxHeartbeats 3200000 in
theorem rren_used_out1 (w : World) (x y z : AV) (hx : Rd w x) (hy : Rd w y) (hz : Rd w z) (hwx : x.w ≤ 1048576) (hwy : y.w ≤ 1048576) (hwz : z.w ≤ 1048576) (h0 : x.v.isMap = true) (h1 : y.v.isMap = false) :
    Calls Tryz.prog 26 #[x.val, y.val, z.val] w (UsedPost (usedV x.v y.v z.v) w) := by
  have HF := Lib.hid (show usedV x.v y.v z.v = ([], []) by unfold usedV; rw [h0, h1]; simp)
  have HMX := fun W (h : Below w.heap.size w W) => Lib.hid (rismap_c W x (hx.up h) hwx)
  have HMY := fun W (h : Below w.heap.size w W) => Lib.hid (rismap_c W y (hy.up h) hwy)
  have HMZ := fun W (h : Below w.heap.size w W) => Lib.hid (rismap_c W z (hz.up h) hwz)
  have hB0 := tri_0 (w := w) (o1 := .cells #[.int .u8 x.k, .string x.t, .slice x.la x.l.length x.lc, .slice x.ka x.ks.length x.kc] 48) (o2 := .cells #[.int .u8 y.k, .string y.t, .slice y.la y.l.length y.lc, .slice y.ka y.ks.length y.kc] 48) (o3 := .cells #[.int .u8 z.k, .string z.t, .slice z.la z.l.length z.lc, .slice z.ka z.ks.length z.kc] 48)
  have hb0 := tri_b (w := w) (o1 := .cells #[.int .u8 x.k, .string x.t, .slice x.la x.l.length x.lc, .slice x.ka x.ks.length x.kc] 48) (o2 := .cells #[.int .u8 y.k, .string y.t, .slice y.la y.l.length y.lc, .slice y.ka y.ks.length y.kc] 48) (o3 := .cells #[.int .u8 z.k, .string z.t, .slice z.la z.l.length z.lc, .slice z.ka z.ks.length z.kc] 48)
  rw [h0] at HMX
  rw [h1] at HMY
  clear h0 h1
  go_enter Tryz.func26, Tryz.ntmps26
  go_wp2_with (go_at_call 81; first
          | ((with_reducible refine (HMX _ (by assumption)).out.mono ?_); rintro e w1 ⟨rfl, hb1⟩
             have hB1 := tri_step (N := w.heap.size + 1 + 1 + 1) (by assumption) hb1 (by simp)
             obtain ⟨k1, k2, k3, k4, k5⟩ := tri_at hB1
             obtain ⟨q0, q1, q2, q3, -, -, -, -⟩ := vbox4 k1
             obtain ⟨p0, p1, p2, p3, -, -, -, -⟩ := vbox4 k2
             obtain ⟨r0, r1, r2, r3, -, -, -, -⟩ := vbox4 k3)
          | ((with_reducible refine (HMY _ (by assumption)).out.mono ?_); rintro e w2 ⟨rfl, hb2⟩
             have hB2 := tri_step (N := w.heap.size + 1 + 1 + 1) (by assumption) hb2 (by simp)
             obtain ⟨k1, k2, k3, k4, k5⟩ := tri_at hB2
             obtain ⟨q0, q1, q2, q3, -, -, -, -⟩ := vbox4 k1
             obtain ⟨p0, p1, p2, p3, -, -, -, -⟩ := vbox4 k2
             obtain ⟨r0, r1, r2, r3, -, -, -, -⟩ := vbox4 k3))
  refine bodyPost_ret (v := .tuple #[.slice none 0 0, .slice none 0 0]) (by simp [results, Tryz.results26, go_sem]) rfl ⟨none, 0, none, 0, by rw [HF.out]; rfl, by rw [HF.out]; exact .nil, by rw [HF.out]; exact .nil, k5⟩

set_option maxRecDepth 100000 in
set_option maxHeartbeats 3200000 in
theorem rren_used_out2 (w : World) (x y z : AV) (hx : Rd w x) (hy : Rd w y) (hz : Rd w z) (hwx : x.w ≤ 1048576) (hwy : y.w ≤ 1048576) (hwz : z.w ≤ 1048576) (h0 : x.v.isMap = true) (h1 : y.v.isMap = true) (h2 : z.v.isMap = false) :
    Calls Tryz.prog 26 #[x.val, y.val, z.val] w (UsedPost (usedV x.v y.v z.v) w) := by
  have HF := Lib.hid (show usedV x.v y.v z.v = ([], []) by unfold usedV; rw [h0, h1, h2]; simp)
  have HMX := fun W (h : Below w.heap.size w W) => Lib.hid (rismap_c W x (hx.up h) hwx)
  have HMY := fun W (h : Below w.heap.size w W) => Lib.hid (rismap_c W y (hy.up h) hwy)
  have HMZ := fun W (h : Below w.heap.size w W) => Lib.hid (rismap_c W z (hz.up h) hwz)
  have hB0 := tri_0 (w := w) (o1 := .cells #[.int .u8 x.k, .string x.t, .slice x.la x.l.length x.lc, .slice x.ka x.ks.length x.kc] 48) (o2 := .cells #[.int .u8 y.k, .string y.t, .slice y.la y.l.length y.lc, .slice y.ka y.ks.length y.kc] 48) (o3 := .cells #[.int .u8 z.k, .string z.t, .slice z.la z.l.length z.lc, .slice z.ka z.ks.length z.kc] 48)
  have hb0 := tri_b (w := w) (o1 := .cells #[.int .u8 x.k, .string x.t, .slice x.la x.l.length x.lc, .slice x.ka x.ks.length x.kc] 48) (o2 := .cells #[.int .u8 y.k, .string y.t, .slice y.la y.l.length y.lc, .slice y.ka y.ks.length y.kc] 48) (o3 := .cells #[.int .u8 z.k, .string z.t, .slice z.la z.l.length z.lc, .slice z.ka z.ks.length z.kc] 48)
  rw [h0] at HMX
  rw [h1] at HMY
  rw [h2] at HMZ
  clear h0 h1 h2
  go_enter Tryz.func26, Tryz.ntmps26
  go_wp2_with (go_at_call 81; first
          | ((with_reducible refine (HMX _ (by assumption)).out.mono ?_); rintro e w1 ⟨rfl, hb1⟩
             have hB1 := tri_step (N := w.heap.size + 1 + 1 + 1) (by assumption) hb1 (by simp)
             obtain ⟨k1, k2, k3, k4, k5⟩ := tri_at hB1
             obtain ⟨q0, q1, q2, q3, -, -, -, -⟩ := vbox4 k1
             obtain ⟨p0, p1, p2, p3, -, -, -, -⟩ := vbox4 k2
             obtain ⟨r0, r1, r2, r3, -, -, -, -⟩ := vbox4 k3)
          | ((with_reducible refine (HMY _ (by assumption)).out.mono ?_); rintro e w2 ⟨rfl, hb2⟩
             have hB2 := tri_step (N := w.heap.size + 1 + 1 + 1) (by assumption) hb2 (by simp)
             obtain ⟨k1, k2, k3, k4, k5⟩ := tri_at hB2
             obtain ⟨q0, q1, q2, q3, -, -, -, -⟩ := vbox4 k1
             obtain ⟨p0, p1, p2, p3, -, -, -, -⟩ := vbox4 k2
             obtain ⟨r0, r1, r2, r3, -, -, -, -⟩ := vbox4 k3)
          | ((with_reducible refine (HMZ _ (by assumption)).out.mono ?_); rintro e w3 ⟨rfl, hb3⟩
             have hB3 := tri_step (N := w.heap.size + 1 + 1 + 1) (by assumption) hb3 (by simp)
             obtain ⟨k1, k2, k3, k4, k5⟩ := tri_at hB3
             obtain ⟨q0, q1, q2, q3, -, -, -, -⟩ := vbox4 k1
             obtain ⟨p0, p1, p2, p3, -, -, -, -⟩ := vbox4 k2
             obtain ⟨r0, r1, r2, r3, -, -, -, -⟩ := vbox4 k3))
  refine bodyPost_ret (v := .tuple #[.slice none 0 0, .slice none 0 0]) (by simp [results, Tryz.results26, go_sem]) rfl ⟨none, 0, none, 0, by rw [HF.out]; rfl, by rw [HF.out]; exact .nil, by rw [HF.out]; exact .nil, k5⟩

set_option maxRecDepth 100000 in
set_option maxHeartbeats 6400000 in
theorem rren_used_in (w : World) (x y z : AV) (hx : Rd w x) (hy : Rd w y) (hz : Rd w z) (hwx : x.w ≤ 1048576) (hwy : y.w ≤ 1048576) (hwz : z.w ≤ 1048576) (h0 : x.v.isMap = true) (h1 : y.v.isMap = true) (h2 : z.v.isMap = true) :
    Calls Tryz.prog 26 #[x.val, y.val, z.val] w (UsedPost (usedV x.v y.v z.v) w) := by
  have HF := Lib.hid (show usedV x.v y.v z.v = (usedP (ofV x.v y.v) x.v z.v, usedP (ofV x.v z.v) x.v y.v) by unfold usedV; rw [h0, h1, h2]; rfl)
  have HMX := fun W (h : Below w.heap.size w W) => Lib.hid (rismap_c W x (hx.up h) hwx)
  have HMY := fun W (h : Below w.heap.size w W) => Lib.hid (rismap_c W y (hy.up h) hwy)
  have HMZ := fun W (h : Below w.heap.size w W) => Lib.hid (rismap_c W z (hz.up h) hwz)
  have hB0 := tri_0 (w := w) (o1 := .cells #[.int .u8 x.k, .string x.t, .slice x.la x.l.length x.lc, .slice x.ka x.ks.length x.kc] 48) (o2 := .cells #[.int .u8 y.k, .string y.t, .slice y.la y.l.length y.lc, .slice y.ka y.ks.length y.kc] 48) (o3 := .cells #[.int .u8 z.k, .string z.t, .slice z.la z.l.length z.lc, .slice z.ka z.ks.length z.kc] 48)
  have hb0 := tri_b (w := w) (o1 := .cells #[.int .u8 x.k, .string x.t, .slice x.la x.l.length x.lc, .slice x.ka x.ks.length x.kc] 48) (o2 := .cells #[.int .u8 y.k, .string y.t, .slice y.la y.l.length y.lc, .slice y.ka y.ks.length y.kc] 48) (o3 := .cells #[.int .u8 z.k, .string z.t, .slice z.la z.l.length z.lc, .slice z.ka z.ks.length z.kc] 48)
  have HO1 := fun W (h : Below w.heap.size w W) => Lib.hid (rof_c W x y (hx.up h) (hy.up h) hwx hwy)
  have HO2 := fun W (h : Below w.heap.size w W) => Lib.hid (rof_c W x z (hx.up h) (hz.up h) hwx hwz)
  have HU1 := fun W (h : Below w.heap.size w W) A c (hs : SlE renE 2 W 0 W.heap.size A (ofV x.v y.v)) => Lib.hid (rused_c W A c (ofV x.v y.v) hs (ofV_le x y) x z (hx.up h) (hz.up h) hwx hwz (fun r hr => by obtain ⟨v, _, h, _⟩ := ofV_ren hr; exact ⟨v, h⟩))
  have HU2 := fun W (h : Below w.heap.size w W) A c (hs : SlE renE 2 W 0 W.heap.size A (ofV x.v z.v)) => Lib.hid (rused_c W A c (ofV x.v z.v) hs (ofV_le x z) x y (hx.up h) (hy.up h) hwx hwy (fun r hr => by obtain ⟨v, _, h, _⟩ := ofV_ren hr; exact ⟨v, h⟩))
  rw [h0] at HMX
  rw [h1] at HMY
  rw [h2] at HMZ
  clear h0 h1 h2
  go_enter Tryz.func26, Tryz.ntmps26
  go_wp2_with (go_at_call 81; first
          | ((with_reducible refine (HMX _ (by assumption)).out.mono ?_); rintro e w1 ⟨rfl, hb1⟩
             have hB1 := tri_step (N := w.heap.size + 1 + 1 + 1) (by assumption) hb1 (by simp)
             obtain ⟨k1, k2, k3, k4, k5⟩ := tri_at hB1
             obtain ⟨q0, q1, q2, q3, -, -, -, -⟩ := vbox4 k1
             obtain ⟨p0, p1, p2, p3, -, -, -, -⟩ := vbox4 k2
             obtain ⟨r0, r1, r2, r3, -, -, -, -⟩ := vbox4 k3)
          | ((with_reducible refine (HMY _ (by assumption)).out.mono ?_); rintro e w2 ⟨rfl, hb2⟩
             have hB2 := tri_step (N := w.heap.size + 1 + 1 + 1) (by assumption) hb2 (by simp)
             obtain ⟨k1, k2, k3, k4, k5⟩ := tri_at hB2
             obtain ⟨q0, q1, q2, q3, -, -, -, -⟩ := vbox4 k1
             obtain ⟨p0, p1, p2, p3, -, -, -, -⟩ := vbox4 k2
             obtain ⟨r0, r1, r2, r3, -, -, -, -⟩ := vbox4 k3)
          | ((with_reducible refine (HMZ _ (by assumption)).out.mono ?_); rintro e w3 ⟨rfl, hb3⟩
             have hB3 := tri_step (N := w.heap.size + 1 + 1 + 1) (by assumption) hb3 (by simp)
             obtain ⟨k1, k2, k3, k4, k5⟩ := tri_at hB3
             obtain ⟨q0, q1, q2, q3, -, -, -, -⟩ := vbox4 k1
             obtain ⟨p0, p1, p2, p3, -, -, -, -⟩ := vbox4 k2
             obtain ⟨r0, r1, r2, r3, -, -, -, -⟩ := vbox4 k3))
  have hN : w3.heap.size ≤ w3.heap.size := Nat.le_refl _
  have l1 : w.heap.size < w3.heap.size := by omega
  have l2 : w.heap.size + 1 < w3.heap.size := by omega
  have HK5 := Lib.hid k5
  clear k1 k2 k3 hB0 hb0 hB1 hB2 hB3 hb1 hb2 hb3 HMX HMY HMZ
  go_region_held3 (fun w' => (∀ b o, b < w3.heap.size → w'.cell? ⟨b, o, none⟩ = w3.cell? ⟨b, o, none⟩) ∧ Below w3.heap.size w3 w')
    (first | (with_reducible exact Q4.out) | (with_reducible exact Q3.out) | (with_reducible exact Q2.out) | (with_reducible exact Q1.out) | exact ⟨fun _ _ _ => rfl, (Below.refl _ _).drew⟩)
    (first
      | (go_at_call 28; first
          | ((with_reducible refine (HO1 _ (below_via HK5.out (And.right (by assumption)))).out.mono ?_); rintro e w4 ⟨A1, c1, rfl, hs4, hb4⟩
             have Q1 := Lib.hid (s_step hN (by assumption) hb4)
             have hs4' := hs4.widen (Nat.zero_le _) (Nat.le_refl _))
          | ((with_reducible refine (HO2 _ (below_via HK5.out (And.right (by assumption)))).out.mono ?_); rintro e w6 ⟨A3, c3, rfl, hs6, hb6⟩
             have Q3 := Lib.hid (s_step hN (by assumption) hb6)
             have hs5' := hs5.below' hb6
             have hs6' := hs6.widen (Nat.zero_le _) (Nat.le_refl _)))
      | (go_at_call 82; first
          | ((with_reducible refine (HU1 _ (below_via HK5.out (And.right (by assumption))) A1 c1 hs4').out.mono ?_); rintro e w5 ⟨A2, c2, rfl, hs5, hb5⟩
             have hz5 := (And.right (by assumption) : Below w3.heap.size w3 w4).size
             have Q2 := Lib.hid (s_step hN (by assumption) hb5))
          | ((with_reducible refine (HU2 _ (below_via HK5.out (And.right (by assumption))) A3 c3 hs6').out.mono ?_); rintro e w7 ⟨A4, c4, rfl, hs7, hb7⟩
             have hz7 := (And.right (by assumption) : Below w3.heap.size w3 w6).size
             have hs5'' := hs5'.below' hb7
             have Q4 := Lib.hid (s_step hN (by assumption) hb7))))
  have hz := HK5.out.size
  have hz2 := Q4.out.2.size
  have hz6 := hb6.size
  have hz7' := hb7.size
  go_wp2_with fail
  refine bodyPost_ret (v := .tuple #[.slice A2 (usedP (ofV x.v y.v) x.v z.v).length c2, .slice A4 (usedP (ofV x.v z.v) x.v y.v).length c4]) (by simp [results, Tryz.results26, go_sem]) rfl ⟨A2, c2, A4, c4, by rw [HF.out], ?_, ?_, below_via HK5.out Q4.out.2⟩
  · rw [HF.out]; exact hs5''.widen (by omega) (by omega)
  · rw [HF.out]; exact hs7.widen (by omega) (by omega)
theorem rren_used_c (w : World) (x y z : AV) (hx : Rd w x) (hy : Rd w y) (hz : Rd w z) (hwx : x.w ≤ 1048576) (hwy : y.w ≤ 1048576) (hwz : z.w ≤ 1048576) :
    Calls Tryz.prog 26 #[x.val, y.val, z.val] w (UsedPost (usedV x.v y.v z.v) w) := by
  cases h0 : x.v.isMap with
  | false => exact rren_used_out0 w x y z hx hy hz hwx hwy hwz h0
  | true =>
    cases h1 : y.v.isMap with
    | false => exact rren_used_out1 w x y z hx hy hz hwx hwy hwz h0 h1
    | true =>
      cases h2 : z.v.isMap with
      | false => exact rren_used_out2 w x y z hx hy hz hwx hwy hwz h0 h1 h2
      | true => exact rren_used_in w x y z hx hy hz hwx hwy hwz h0 h1 h2

set_option maxRecDepth 100000 in
set_option maxHeartbeats 3200000 in
theorem same24_c (w : World) (A B : Option Addr) (c d : Nat) (l : List (ByteArray × ByteArray)) (lo hi lo2 hi2 : Nat) (h : SlE renE 2 w lo hi A l) (h2 : SlE renE 2 w lo2 hi2 B l) (hl : l.length ≤ 16777216) :
    Calls Tryz.prog 27 #[.slice A l.length c, .slice B l.length d] w (Ret (.bool true) w) := by
  have HX := Lib.hid h
  have HY := Lib.hid h2
  clear h h2
  go_enter Tryz.func27, Tryz.ntmps27
  go_wp2_with fail
  go_loopw [5] (fun i wr => ∃ m : Nat, m ≤ l.length ∧ i = .int .i64 m ∧ Below w.heap.size w wr) (fun i _ => l.length - (intOf i).toNat)
  case atStart => exact ⟨0, Nat.zero_le _, by go_num, Below.refl _ _⟩
  case round =>
    obtain ⟨m, hm, rfl, hbw⟩ := hrel
    have hsr := hbw.size
    have HBW := Lib.hid hbw
    by_cases hlt : m < l.length
    · have hk : l[m]? = some l[m] := List.getElem?_eq_getElem hlt
      generalize l[m] = k at hk
      obtain ⟨b1, o1, e1, -, -, g1, c1, c1'⟩ := ren_at HX.out hk
      obtain ⟨b2, o2, e2, -, -, g2, c2, c2'⟩ := ren_at HY.out hk
      rw [← hbw.cell (p := ⟨_, _, none⟩) g1] at c1 c1'
      rw [← hbw.cell (p := ⟨_, _, none⟩) g2] at c2 c2'
      have hlt' : (m : Int) < (l.length : Int) := by omega
      have hm0 : (0 : Int) ≤ (m : Int) := by omega
      have g1' : b1 < wr.heap.size := by omega
      have g2' : b2 < wr.heap.size := by omega
      have hwm : IntKind.i64.wrap ((m : Int) + 1) = ((m + 1 : Nat) : Int) := by rw [IntWalk.i64_in _ (by omega)]; omega
      subst e1 e2
      clear hbw hk
      go_upto_region 6 with fail
      go_quiet (fail)
      go_wp2_with fail
      exact ⟨⟨m + 1, by omega, by go_num, below_drewN HBW.out _⟩, by simp [intOf]; omega⟩
    · have hge : ¬ (m : Int) < (l.length : Int) := by omega
      clear hbw
      go_wp2_with fail
      go_ret
      exact ⟨rfl, HBW.out⟩
end Go.Proofs.YtcpdogjcofkpcaaGreatDoor
