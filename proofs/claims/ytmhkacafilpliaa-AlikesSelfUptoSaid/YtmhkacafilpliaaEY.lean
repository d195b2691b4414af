/-
  AlikesSelf's walk. Conditions: the value and the list lie in memory, weights and the length are bounded. (Printed by gen_ey.py.)
-/
import Derived.Test.YtmhkacafilpliaaEV
import Derived.Test.YtmhkacafilpliaaEW
namespace Go.Proofs.Ytmhkacafilpliaa
open Go.RowKit Go.Sort Go.Shelf Go.BigFrame

theorem FR96 : List.range 96 = [0, 1, 2, 3, 4, 5, 6, 7, 8, 9, 10, 11, 12, 13, 14, 15, 16, 17, 18, 19, 20, 21, 22, 23, 24, 25, 26, 27, 28, 29, 30, 31, 32, 33, 34, 35, 36, 37, 38, 39, 40, 41, 42, 43, 44, 45, 46, 47, 48, 49, 50, 51, 52, 53, 54, 55, 56, 57, 58, 59, 60, 61, 62, 63, 64, 65, 66, 67, 68, 69, 70, 71, 72, 73, 74, 75, 76, 77, 78, 79, 80, 81, 82, 83, 84, 85, 86, 87, 88, 89, 90, 91, 92, 93, 94, 95] := rfl
theorem turned_wW (by_ : Nat) : ∀ v : Val, (v.turned by_).w = v.w := Val.ind fun v ih => by
  have h1 := ((turned_l by_ v).map Val.w).sum_nat
  have h2 := ((turned_ks by_ v).map (·.size)).sum_nat
  have h3 := (turned_ks by_ v).length_eq
  have h4 : (v.l.map (Val.turned by_)).map Val.w = v.l.map Val.w := by
    rw [List.map_map]; exact List.map_congr_left fun y hy => ih y hy
  rw [Val.w_eq, Val.w_eq v, turned_t, h1, h2, h3, h4]
theorem same_sym (a b : Val) : sameV a b = sameV b a := by
  cases h1 : sameV a b with
  | true =>
    obtain ⟨m1, m2⟩ := same_may h1
    exact ((farV_zero m2 m1).1 (by rw [farV_symm]; exact (farV_zero m1 m2).2 h1)).symm
  | false =>
    cases h2 : sameV b a with
    | false => rfl
    | true =>
      obtain ⟨m1, m2⟩ := same_may h2
      have := (farV_zero m2 m1).1 (by rw [farV_symm]; exact (farV_zero m1 m2).2 h2)
      rw [h1] at this; cases this
/-- Those of the first k elements that are not the same as a. -/
def othL (a : Val) (l : List AV) (k : Nat) : List AV := (l.take k).filter fun z => !sameV z.v a
theorem othL_succ {a : Val} {l : List AV} {k : Nat} {z : AV} (h : l[k]? = some z) : othL a l (k + 1) = if sameV z.v a = true then othL a l k else othL a l k ++ [z] := by
  rw [othL, List.take_add_one, h, List.filter_append]
  cases hs : sameV z.v a <;> simp [othL, hs]
theorem othL_len (a : Val) (l : List AV) (k : Nat) : (othL a l k).length ≤ k := Nat.le_trans (List.length_filter_le _ _) (by rw [List.length_take]; omega)
theorem othL_mem {a : Val} {l : List AV} {k : Nat} {z : AV} (h : z ∈ othL a l k) : z ∈ l ∧ sameV z.v a = false := by
  rw [othL, List.mem_filter] at h
  exact ⟨List.mem_of_mem_take h.1, by simpa using h.2⟩
set_option maxRecDepth 100000 in
set_option maxHeartbeats 12800000 in
theorem aself (w : World) (x : AV) (y : LA) (z0 z1 : Nat) (hz0 : z0 < 256) (hz1 : z1 < 256) (hx : Rd w x) (hwx : x.w ≤ 1048576) (hy : y.Rd w) : Calls Try.prog 11 #[x.val, .slice y.a y.l.length y.c, .agg #[.int .u8 (z0 : Int), .int .u8 (z1 : Int)]] w (Ret (.bool true) w) := by
  have HRX := Lib.hid (show ∀ W, Below w.heap.size w W → Rd W x from fun W h => hx.up h)
  have HKD := Lib.hid (show ∀ z ∈ y.l, (∀ W, Below w.heap.size w W → Rd W z) ∧ z.w ≤ 1048576 from fun z hz => ⟨fun W h => (hy.kids z hz).1.up h, (hy.kids z hz).2⟩)
  have HLI := fun W => Lib.hid (lives21_c W)
  have HSL := Lib.hid hy.sl
  have hlen := hy.len
  clear hx hy
  go_enter Try.func11, Try.ntmps11
  go_upto_region 1 with fail
  go_name_world W0 hW0
  have HX0 := Lib.hid (show W0.heap[w.heap.size]? = some (.cells #[.int .u8 x.k, .string x.t, .slice x.la x.l.length x.lc, .slice x.ka x.ks.length x.kc] 26 (0, 0)) by rw [← hW0]; exact blk_al (heap_alloc_new w _))
  have HZ0 := Lib.hid (show W0.heap[w.heap.size + 1]? = some (.cells #[.int .u8 (z0 : Int), .int .u8 (z1 : Int)] 68 (0, 0)) by rw [← hW0]; exact blk_new2 w _ _)
  have HB0 := Lib.hid (show Below w.heap.size w W0 by rw [← hW0]; exact below_al (below_al (Below.refl _ _)))
  obtain ⟨p0, p1, p2, p3⟩ := vb4 HX0.out
  obtain ⟨N, hN⟩ : ∃ N, N = W0.heap.size := ⟨_, rfl⟩
  have HNE := Lib.hid hN
  have hNw : N = w.heap.size + 1 + 1 := by rw [hN, ← hW0]; simp
  have HNW := Lib.hid hNw
  clear hW0 hN hNw
  by_cases c1 : 1500 < x.v.w
  · have HG := Lib.hid (gr_yes c1 (HRX.out W0 HB0.out) hwx)
    clear c1
    go_wp2_with (first
      | (go_at_call 39; (with_reducible refine (HLI _).out.mono ?_); rintro e w99 ⟨rfl, h99⟩)
      | (go_at_call 12; (with_reducible refine (HG).out.mono ?_); rintro e w1 ⟨rfl, h1⟩; have HB1 := Lib.hid (below_via HB0.out h1); have HX1 := Lib.hid (blk_via h1 HX0.out); clear p0 p1 p2 p3; obtain ⟨p0, p1, p2, p3⟩ := vb4 HX1.out; have HW1 := Lib.hid h1; clear h1))
    go_ret
    exact ⟨rfl, below_via HB1.out h99⟩
  have HG := Lib.hid (gr_no c1 (HRX.out W0 HB0.out) hwx)
  clear c1
  by_cases c2 : 8 < y.l.length
  · have c2' : (8 : Int) < (y.l.length : Int) := by omega
    go_wp2_with (first
      | (go_at_call 39; (with_reducible refine (HLI _).out.mono ?_); rintro e w99 ⟨rfl, h99⟩)
      | (go_at_call 12; (with_reducible refine (HG).out.mono ?_); rintro e w1 ⟨rfl, h1⟩; have HB1 := Lib.hid (below_via HB0.out h1); have HX1 := Lib.hid (blk_via h1 HX0.out); clear p0 p1 p2 p3; obtain ⟨p0, p1, p2, p3⟩ := vb4 HX1.out; have HW1 := Lib.hid h1; clear h1))
    go_ret
    exact ⟨rfl, below_via HB1.out h99⟩
  have c2' : ¬ (8 : Int) < (y.l.length : Int) := by omega
  have HL8 := Lib.hid c2
  clear c2
  by_cases c3 : x.v.may = false
  · have HM := fun W h => Lib.hid (may_is c3 (HRX.out W h) hwx)
    clear c3
    go_wp2_with (first
      | (go_at_call 39; (with_reducible refine (HLI _).out.mono ?_); rintro e w99 ⟨rfl, h99⟩)
      | (go_at_call 30; (with_reducible refine (HM _ HB1.out).out.mono ?_); rintro e w2 ⟨rfl, h2⟩; have HB2 := Lib.hid (below_via HB1.out h2); have HX2 := Lib.hid (blk_via h2 HX1.out); clear p0 p1 p2 p3; obtain ⟨p0, p1, p2, p3⟩ := vb4 HX2.out; have HW2 := Lib.hid (below_via HW1.out h2); clear h2)
      | (go_at_call 12; (with_reducible refine (HG).out.mono ?_); rintro e w1 ⟨rfl, h1⟩; have HB1 := Lib.hid (below_via HB0.out h1); have HX1 := Lib.hid (blk_via h1 HX0.out); clear p0 p1 p2 p3; obtain ⟨p0, p1, p2, p3⟩ := vb4 HX1.out; have HW1 := Lib.hid h1; clear h1))
    go_ret
    exact ⟨rfl, below_via HB2.out h99⟩
  have c3' : x.v.may = true := by simpa using c3
  have HM := fun W h => Lib.hid (may_is c3' (HRX.out W h) hwx)
  have HMX := Lib.hid c3'
  clear c3 c3'
  go_wp2_with (first
      | (go_at_call 39; (with_reducible refine (HLI _).out.mono ?_); rintro e w99 ⟨rfl, h99⟩)
      | (go_at_call 30; (with_reducible refine (HM _ HB1.out).out.mono ?_); rintro e w2 ⟨rfl, h2⟩; have HB2 := Lib.hid (below_via HB1.out h2); have HX2 := Lib.hid (blk_via h2 HX1.out); clear p0 p1 p2 p3; obtain ⟨p0, p1, p2, p3⟩ := vb4 HX2.out; have HW2 := Lib.hid (below_via HW1.out h2); clear h2)
      | (go_at_call 12; (with_reducible refine (HG).out.mono ?_); rintro e w1 ⟨rfl, h1⟩; have HB1 := Lib.hid (below_via HB0.out h1); have HX1 := Lib.hid (blk_via h1 HX0.out); clear p0 p1 p2 p3; obtain ⟨p0, p1, p2, p3⟩ := vb4 HX1.out; have HW1 := Lib.hid h1; clear h1))
  have HD2 := Lib.hid (show Below W0.heap.size W0 w2 from HW2.out)
  clear HG HM p0 p1 p2 p3 HX1 HX2 HB1 HB2
  go_loopw [7, 8] (fun s7 s8 wr => ∃ (k : Nat) (ua : Option Addr) (uc : Nat), k ≤ y.l.length ∧ s8 = .int .i64 (k : Int) ∧ s7 = .slice ua (othL x.v y.l k).length uc ∧ Hid (GOwn N W0 none (othL x.v y.l k) (.slice ua (othL x.v y.l k).length uc) wr) ∧ Hid (Below W0.heap.size W0 wr)) (fun _ s8 _ => y.l.length - (intOf s8).toNat)
  case atStart => exact ⟨0, none, 0, Nat.zero_le _, rfl, rfl, Lib.hid ⟨⟨none, 0, rfl⟩, World.ownsRow_nil _ _ _ _, fun r hr => absurd hr List.not_mem_nil, fun q hq => by cases hq⟩, HD2⟩
  case round =>
    obtain ⟨k, ua, uc, hk, rfl, rfl, HU, HDR⟩ := hrel
    have HBR := Lib.hid (below_via HB0.out HDR.out)
    by_cases hlt : k < y.l.length
    · have hks : y.l[k]? = some y.l[k] := List.getElem?_eq_getElem hlt
      generalize y.l[k] = z at *
      have hlt' : (k : Int) < (y.l.length : Int) := by omega
      have hk0 : (0 : Int) ≤ (k : Int) := by omega
      obtain ⟨b, off, hla, -, -, hbw, c0, c1, c2, c3⟩ := vals_at HSL.out hks
      have HCL := Lib.hid (show ∀ W, Below w.heap.size w W → W.cell? ⟨b, off + k * 4, none⟩ = some (.int .u8 z.k) ∧ W.cell? ⟨b, off + k * 4 + 1, none⟩ = some (.string z.t) ∧ W.cell? ⟨b, off + k * 4 + 2, none⟩ = some (.slice z.la z.l.length z.lc) ∧ W.cell? ⟨b, off + k * 4 + 3, none⟩ = some (.slice z.ka z.ks.length z.kc) from fun W h => ⟨blkv h c0, blkv h c1, blkv h c2, blkv h c3⟩)
      have HRZ := Lib.hid (HKD.out z (List.mem_of_getElem? hks)).1
      have hwz := (HKD.out z (List.mem_of_getElem? hks)).2
      have HOS := Lib.hid (othL_succ (a := x.v) hks)
      have hul := othL_len x.v y.l k
      obtain ⟨U, hU⟩ : ∃ U, U = othL x.v y.l k := ⟨_, rfl⟩
      rw [← hU] at HU HOS hul ⊢
      rw [hla]
      clear c0 c1 c2 c3 hla hbw hks hU
      obtain ⟨c0, c1, c2, c3⟩ := HCL.out wr HBR.out
      have HLQ := Lib.hid hul
      clear hul
      by_cases g1 : 1500 < z.v.w
      · have HG := Lib.hid (gr_yes g1 (HRZ.out wr HBR.out) hwz)
        clear g1
        go_wp2_with (first
          | (go_at_call 39; (with_reducible refine (HLI _).out.mono ?_); rintro e w99 ⟨rfl, h99⟩)
          | (go_at_call 12; (with_reducible refine HG.out.mono ?_); rintro e w5 ⟨rfl, h5⟩))
        go_ret
        exact ⟨rfl, below_via (below_via HBR.out h5) h99⟩
      have HG := Lib.hid (gr_no g1 (HRZ.out wr HBR.out) hwz)
      clear g1
      go_upto_region 9 with (go_at_call 12; (with_reducible refine HG.out.mono ?_); rintro e w5 ⟨rfl, h5⟩)
      have HD5 := Lib.hid (below_via HDR.out h5)
      have HB5 := Lib.hid (below_via HB0.out HD5.out)
      have HU5 := Lib.hid (HU.out.up h5 (.inl rfl))
      have HX5 := Lib.hid (blk_via HD5.out HX0.out)
      clear c0 c1 c2 c3 h5 HG
      obtain ⟨p0, p1, p2, p3⟩ := vb4 HX5.out
      obtain ⟨c0, c1, c2, c3⟩ := HCL.out w5 HB5.out
      have LD := Lib.hid (fun W (h : Below w5.heap.size w5 W) => And.intro (blkv h p0) (And.intro (blkv h p1) (And.intro (blkv h p2) (And.intro (blkv h p3) (And.intro (blkv h c0) (And.intro (blkv h c1) (And.intro (blkv h c2) (blkv h c3))))))))
      obtain ⟨sb, hsb⟩ : ∃ sb, sb = sameV z.v x.v := ⟨_, rfl⟩
      have HH1 := fun W (h : Below w5.heap.size w5 W) => Lib.hid (show Calls Try.prog 36 #[z.val, x.val] W (Ret (.bool sb) W) by rw [hsb]; exact same_c z x W (HRZ.out W (below_via HB5.out h)) (HRX.out W (below_via HB5.out h)) hwz hwx)
      rw [← hsb] at HOS
      clear c0 c1 c2 c3 p0 p1 p2 p3 hsb
      cases sb with
      | true =>
        refine wp_region_bl (by kernel_rfl) (by kernel_rfl) ?_
        repeat (first | go_big_quiet_skip | (go_big_quiet_want; go_big_quiet_op; first | go_big_quiet_on | (refine ⟨_, fun _ _ => (by with_reducible rfl), ?_⟩; go_big_quiet_on) | (apply Exists.intro; refine ⟨fun w' hC => (by simp only [LD.out w' hC, Result.andThen]; exact ⟨trivial, rfl⟩), ?_⟩; go_big_quiet_on) | (apply Exists.intro; refine ⟨fun w' hC => (by (with_reducible refine (HH1 w' hC).out.mono ?_); exact fun e w2 ⟨he, hb⟩ => ⟨he, hC.trans (hb.mono hC.size)⟩), ?_⟩; go_big_quiet_on)))
        refine wpQuiet_nil ?_; intro wz hbz
        go_wp2_with fail
        exact ⟨⟨k + 1, ua, uc, by omega, by go_num, by rw [HOS.out]; rfl, Lib.hid (by rw [HOS.out]; exact HU5.out.up hbz (.inl rfl)), Lib.hid (below_via HD5.out hbz)⟩, by simp [intOf]; omega⟩
      | false =>
        refine wp_region_bl (by kernel_rfl) (by kernel_rfl) ?_
        repeat (first | go_big_quiet_skip | (go_big_quiet_want; go_big_quiet_op; first | go_big_quiet_on | (refine ⟨_, fun _ _ => (by with_reducible rfl), ?_⟩; go_big_quiet_on) | (apply Exists.intro; refine ⟨fun w' hC => (by simp only [LD.out w' hC, Result.andThen]; exact ⟨trivial, rfl⟩), ?_⟩; go_big_quiet_on) | (apply Exists.intro; refine ⟨fun w' hC => (by (with_reducible refine (HH1 w' hC).out.mono ?_); exact fun e w2 ⟨he, hb⟩ => ⟨he, hC.trans (hb.mono hC.size)⟩), ?_⟩; go_big_quiet_on)))
        refine wpQuiet_nil ?_; intro wz hbz
        have HD6 := Lib.hid (below_via HD5.out hbz)
        have HB6 := Lib.hid (below_via HB0.out HD6.out)
        have HU6 := Lib.hid (HU5.out.up hbz (.inl rfl))
        clear hbz LD HH1
        obtain ⟨c0, c1, c2, c3⟩ := HCL.out wz HB6.out
        obtain ⟨v', w', hr, hg, hb, -⟩ := app_one (N := N) (W0 := W0) (g := none) (y := z) (HU6.out.up (below_al (o := .cells #[.int .u8 z.k, .string z.t, .slice z.la z.l.length z.lc, .slice z.ka z.ks.length z.kc] 26) (Below.refl _ _)) (.inl rfl)) ⟨wz.heap.size, rfl, (HNE.out ▸ HD6.out.size), heap_alloc_new _ _, ⟨fun W hW => HRZ.out W (below_via HB0.out (HNE.out ▸ hW)), hwz⟩⟩ (by have := HLQ.out; have := HL8.out; omega) (by rw [World.size_alloc]; exact Nat.le_succ_of_le (HNE.out ▸ HD6.out.size)) (fun b hb => by cases hb)
        obtain ⟨a', c', rfl⟩ := hg.1
        have HGN := Lib.hid hg
        have HWN := Lib.hid ((below_al (o := .cells #[.int .u8 z.k, .string z.t, .slice z.la z.l.length z.lc, .slice z.ka z.ks.length z.kc] 26) HD6.out).trans (HNE.out ▸ hb))
        clear hg hb
        go_wp2_with (at_builtin; refine wl_append (s := .tmp 44) (x := .tmp 49) rfl rfl (hr _) ?_)
        exact ⟨⟨k + 1, a', c', by omega, by go_num, by rw [HOS.out]; simp, Lib.hid (by rw [HOS.out]; exact HGN.out), HWN⟩, by simp [intOf]; omega⟩
    · have hkl : k = y.l.length := by omega
      subst hkl
      have hge : ¬ (y.l.length : Int) < (y.l.length : Int) := by omega
      have HX5 := Lib.hid (blk_via HDR.out HX0.out)
      have HZ5 := Lib.hid (blk_via HDR.out HZ0.out)
      obtain ⟨p0, p1, p2, p3⟩ := vb4 HX5.out
      have q0 : wr.cell? ⟨w.heap.size + 1, 0, none⟩ = some (.int .u8 (z0 : Int)) := by simp [World.cell?, HZ5.out]
      have HTU := fun W (h : Below w.heap.size w W) => Lib.hid (turned_c z0 hz0 256 x W (HRX.out W h) hwx (may_in HMX.out))
      go_upto_region 12 with (go_at_call 35; (with_reducible refine (HTU _ HBR.out).out.mono ?_); rintro e w6 ⟨t, rfl, htv, hti, h6⟩)
      go_name_world W7 hW7
      obtain ⟨BT1, hBT⟩ : ∃ BT1, BT1 = w6.heap.size := ⟨_, rfl⟩
      have hb67 : Below w6.heap.size w6 W7 := by rw [← hW7]; exact below_al (Below.refl _ _)
      have hD7 : Below W0.heap.size W0 W7 := below_via HDR.out (below_via h6 hb67)
      have HX7 := Lib.hid (blk_via (below_via h6 hb67) HX5.out)
      have HZ7 := Lib.hid (blk_via (below_via h6 hb67) HZ5.out)
      have HT7 := Lib.hid (show W7.heap[BT1]? = some (.cells #[.int .u8 t.k, .string t.t, .slice t.la t.l.length t.lc, .slice t.ka t.ks.length t.kc] 26 (0, 0)) by rw [← hW7, hBT]; exact heap_alloc_new w6 _)
      have HU7 := Lib.hid (HU.out.up (below_via h6 hb67) (.inl rfl))
      have hrt : Rd W7 t := Rd.up (show Rd w6 t from hti.widen (Nat.zero_le _) (Nat.le_refl _)) hb67
      have hwt : t.w ≤ 1048576 := by show t.v.w ≤ _; rw [htv, turned_wW]; exact hwx
      have HB7 := Lib.hid (below_via HB0.out hD7)
      have HD7 := Lib.hid hD7
      have HRT := Lib.hid (show ∀ W, Below W7.heap.size W7 W → Rd W t from fun W h => hrt.up h)
      have HTV := Lib.hid htv
      rw [← hBT]
      clear p0 p1 p2 p3 q0 hW7 hb67 hD7 hrt htv hti h6 HTU HX5 HZ5 hBT HU HBR HDR
      have q1 : W7.cell? ⟨w.heap.size + 1, 1, none⟩ = some (.int .u8 (z1 : Int)) := by simp [World.cell?, HZ7.out]
      have hul := othL_len x.v y.l y.l.length
      obtain ⟨at_, hat⟩ : ∃ at_, at_ = z1 % ((othL x.v y.l y.l.length).length + 1) := ⟨_, rfl⟩
      have hatl : at_ ≤ (othL x.v y.l y.l.length).length := by have := Nat.mod_lt z1 (show 0 < (othL x.v y.l y.l.length).length + 1 by omega); omega
      have HO8 := Lib.hid (show (othL x.v y.l y.l.length).length ≤ 8 by have := HL8.out; omega)
      have hv4 : IntKind.i64.wrap (((othL x.v y.l y.l.length).length : Int) + 1) = ((othL x.v y.l y.l.length).length : Int) + 1 := IntWalk.i64_in _ (by have := HO8.out; omega)
      have hv5 : IntKind.i64.wrap (z1 : Int) = (z1 : Int) := IntWalk.i64_in _ (by omega)
      have hmod : Int.tmod (z1 : Int) (((othL x.v y.l y.l.length).length : Int) + 1) = (at_ : Int) := by rw [hat, show ((othL x.v y.l y.l.length).length : Int) + 1 = (((othL x.v y.l y.l.length).length + 1 : Nat) : Int) by omega]; exact (Int.ofNat_tmod _ _).symm
      have hnz : ¬ ((othL x.v y.l y.l.length).length : Int) + 1 = 0 := by omega
      clear hat hul
      go_upto_region 13 with fail
      clear hv4 hv5 hmod hnz q1
      obtain ⟨LT, LR, hpart, hat⟩ : ∃ LT LR, othL x.v y.l y.l.length = LT ++ LR ∧ at_ = LT.length := ⟨(othL x.v y.l y.l.length).take at_, (othL x.v y.l y.l.length).drop at_, (List.take_append_drop _ _).symm, by rw [List.length_take]; omega⟩
      subst hat
      have hlen2 : (othL x.v y.l y.l.length).length = LT.length + LR.length := by rw [hpart, List.length_append]
      have hcap : (othL x.v y.l y.l.length).length ≤ uc := by
        rcases HU7.out.2.1.2 with ⟨e, h0⟩ | ⟨_, cap, _, e, _, _, hc, _⟩
        · injection e with _ e1 e2; omega
        · injection e with _ e1 e2; omega
      obtain ⟨A1, hA1, hA1s⟩ := run_to ua (othL x.v y.l y.l.length).length uc LT.length (by omega)
      obtain ⟨A2, hA2, hA2s⟩ := run_from ua (othL x.v y.l y.l.length).length uc LT.length hatl
      rw [show (othL x.v y.l y.l.length).length - LT.length = LR.length by omega] at hA2
      have HSL1 := Lib.hid hA1
      have HSL2 := Lib.hid hA2
      have HPT := Lib.hid hpart
      have HS1 := Lib.hid (show ∀ W, Below W7.heap.size W7 W → SlE AV.enc 4 W 0 W.heap.size A1 LT from fun W h => by
        have := hA1s (othL x.v y.l y.l.length) W 0 W.heap.size (HU7.out.up h (.inl rfl)).sl
        rwa [hpart, List.take_left'] at this
        rfl)
      have HS2 := Lib.hid (show ∀ W, Below W7.heap.size W7 W → SlE AV.enc 4 W 0 W.heap.size A2 LR from fun W h => by
        have := hA2s (othL x.v y.l y.l.length) W 0 W.heap.size rfl hcap (HU7.out.up h (.inl rfl)).sl
        rwa [hpart, List.drop_left'] at this
        rfl)
      have HKA := Lib.hid (show ∀ r ∈ othL x.v y.l y.l.length, (∀ W, Below W7.heap.size W7 W → Rd W r) ∧ r.w ≤ 1048576 from fun r hr => have h := HKD.out r (othL_mem hr).1; ⟨fun W hW => h.1 W (below_via HB7.out hW), h.2⟩)
      have HNS := Lib.hid (show ∀ r ∈ othL x.v y.l y.l.length, sameV r.v x.v = false from fun r hr => (othL_mem hr).2)
      obtain ⟨L2, hL2⟩ : ∃ L2, LT ++ [t] = L2 := ⟨_, rfl⟩
      obtain ⟨L3, hL3⟩ : ∃ L3, L2 ++ LR = L3 := ⟨_, rfl⟩
      have HLN := Lib.hid (show LT.length ≤ 16777216 ∧ LT.length + 1 ≤ 16777216 ∧ L2.length + LR.length ≤ 16777216 from ⟨by have := HO8.out; omega, by have := HO8.out; omega, by have := HO8.out; rw [← hL2, List.length_append]; simp; omega⟩)
      have HL2 := Lib.hid hL2
      have HL3 := Lib.hid hL3
      obtain ⟨r0, r1, r2, r3⟩ := vb4 HT7.out
      clear hL2 hL3 hA1 hA2 hA1s hA2s hpart hlen2 hatl hcap HNE HNW HX0 HZ0 HB0 HD7 HU7
      obtain ⟨W0, hW0⟩ : ∃ W, W = W7 := ⟨_, rfl⟩
      subst hW0
      obtain ⟨N, hN⟩ : ∃ N, N = W0.heap.size := ⟨_, rfl⟩
      have HNE := Lib.hid hN
      have HKT := Lib.hid (show ∀ r ∈ LT, KidOk N W0 r from fun r hr => have h := HKA.out r (by rw [HPT.out]; simp [hr]); ⟨fun W hW => h.1 W (HNE.out ▸ hW), h.2⟩)
      have HKR := Lib.hid (show ∀ r ∈ LR, KidOk N W0 r from fun r hr => have h := HKA.out r (by rw [HPT.out]; simp [hr]); ⟨fun W hW => h.1 W (HNE.out ▸ hW), h.2⟩)
      have HKX := Lib.hid (show KidOk N W0 t from ⟨fun W hW => HRT.out W (HNE.out ▸ hW), hwt⟩)
      clear hN
      go_cut [11] (fun s11 wx => ∃ a c, s11 = .slice a L3.length c ∧ Hid (SlE AV.enc 4 wx 0 wx.heap.size a L3 ∧ Below W0.heap.size W0 wx))
      case first =>
        rename_i J K' hRJ hMK
        have HRJ := Lib.hid hRJ
        have HMK := Lib.hid hMK
        clear hRJ hMK
        refine wp_region_uses (by kernel_rfl) (S := GS W0) (G := GKden N W0 [.cst (.slice ua (othL x.v y.l y.l.length).length uc), .cst (.int .i64 (LT.length : Int)), .cst (.slice A1 LT.length uc), .own (LT), .cst (t.val), .one t, .own (L2), .cst (.slice ua (othL x.v y.l y.l.length).length uc), .cst (.int .i64 (LT.length : Int)), .cst (.slice A2 LR.length (uc - LT.length)), .own (L3)]) (GE [6, 10] 1000 N) (fun _ => false) none (by kernel_rfl) (by kernel_rfl) (by kernel_rfl) (by kernel_rfl) (by simp) (GK.hup (by kernel_rfl)) ⟨(Below.refl _ _).drew, fun _ h => by cases h⟩ ?_
        refine ⟨?_, ?_, ?_, ?_, ?_, ?_, ?_, ?_, ?_, ?_, ?_, ?_⟩
        · intro g a w F D
          have o7 := get_of (F.at 7 (by kernel_rfl)) (by simp [undef])
          refine ⟨wanted_none rfl, fun K hK => ?_⟩
          have HK := Lib.hid hK
          have FC := Lib.hid F.cls
          clear hK D F
          go_simp
          exact HK.out g _ _ FC.out (ge_pure (Below.refl _ _) (FC.out.hN HNE.out) FC.out.2) rfl
        · intro g a w F D
          have o10 := get_of (F.at 10 (by kernel_rfl)) (by simp [undef])
          refine ⟨wanted_none rfl, fun K hK => ?_⟩
          have HK := Lib.hid hK
          have FC := Lib.hid F.cls
          clear hK D F
          go_simp
          exact HK.out g _ _ FC.out (ge_pure (Below.refl _ _) (FC.out.hN HNE.out) FC.out.2) rfl
        · intro g a w F D
          have g62 : a.tmps.getD 62 undef = .slice ua (othL x.v y.l y.l.length).length uc := (D ⟨0, .data⟩ (by simp) rfl _ _ rfl rfl)
          have g63 : a.tmps.getD 63 undef = .int .i64 (LT.length : Int) := (D ⟨1, .data⟩ (by simp) rfl _ _ rfl rfl)
          refine ⟨wanted_none rfl, fun K hK => ?_⟩
          refine op_slice (sv := .slice ua (othL x.v y.l y.l.length).length uc) (lv := none) (hv := some (.int .i64 (LT.length : Int))) rfl g62 rfl (congrArg some g63) (HSL1.out w) ?_
          exact hK g _ _ F.cls (ge_pure (Below.refl _ _) (F.cls.hN HNE.out) F.cls.2) rfl
        · intro g a w F D
          have g64 : a.tmps.getD 64 undef = .slice A1 LT.length uc := (D ⟨2, .data⟩ (by simp) rfl _ _ rfl rfl)
          obtain ⟨v', w', hr, hg, hb⟩ := app_first (N := N) (W0 := W0) (g := g) (HS1.out w F.cls.1) HKT.out HLN.out.1 (F.cls.hN HNE.out) F.cls.2
          refine ⟨wanted_none rfl, fun K hK => ?_⟩
          refine op_append (s := .const (.slice none 0 0)) (x := .tmp 64) rfl rfl g64 hr ?_
          exact hK g _ _ (F.cls.via hb) (ge_pure hb (F.cls.hN HNE.out) F.cls.2) hg
        · intro g a w F D
          have o9 := get_of (F.at 9 (by kernel_rfl)) (by simp [undef])
          have c0 := blkv F.cls.1 r0
          have c1 := blkv F.cls.1 r1
          have c2 := blkv F.cls.1 r2
          have c3 := blkv F.cls.1 r3
          refine ⟨wanted_none rfl, fun K hK => ?_⟩
          have HK := Lib.hid hK
          have FC := Lib.hid F.cls
          clear hK D F
          go_simp
          exact HK.out g _ _ FC.out (ge_pure (Below.refl _ _) (FC.out.hN HNE.out) FC.out.2) rfl
        · intro g a w F D
          have g66 : a.tmps.getD 66 undef = t.val := (D ⟨4, .data⟩ (by simp) rfl _ _ rfl rfl)
          replace g66 := get_of g66 (by simp [AV.val, undef])
          refine ⟨wanted_none rfl, fun K hK => ?_⟩
          have HK := Lib.hid hK
          have FC := Lib.hid F.cls
          clear hK D F
          go_simp
          exact HK.out g _ _ (FC.out.via (below_al (Below.refl _ _))) (ge_pure (below_al (Below.refl _ _)) (FC.out.hN HNE.out) FC.out.2) ⟨_, rfl, FC.out.hN HNE.out, heap_alloc_new _ _, HKX.out⟩
        · intro g a w F D
          have g65 : GOwn N W0 g LT (a.tmps.getD 65 undef) w := (D ⟨3, .data⟩ (by simp) rfl _ _ rfl rfl)
          have g67 : GOne N W0 t (a.tmps.getD 67 undef) w := (D ⟨5, .data⟩ (by simp) rfl _ _ rfl rfl)
          obtain ⟨v', w', hr, hg, hb, hbx⟩ := app_one g65 g67 HLN.out.2.1 (F.cls.hN HNE.out) F.cls.2
          refine ⟨wanted_none rfl, fun K hK => ?_⟩
          refine op_append (s := .tmp 65) (x := .tmp 67) rfl rfl rfl hr ?_
          rw [HL2.out] at hg
          exact hK g _ _ (F.cls.wild HNE.out hb) (ge_wild hb hbx rfl) hg
        · intro g a w F D
          have o7 := get_of (F.at 7 (by kernel_rfl)) (by simp [undef])
          refine ⟨wanted_none rfl, fun K hK => ?_⟩
          have HK := Lib.hid hK
          have FC := Lib.hid F.cls
          clear hK D F
          go_simp
          exact HK.out g _ _ FC.out (ge_pure (Below.refl _ _) (FC.out.hN HNE.out) FC.out.2) rfl
        · intro g a w F D
          have o10 := get_of (F.at 10 (by kernel_rfl)) (by simp [undef])
          refine ⟨wanted_none rfl, fun K hK => ?_⟩
          have HK := Lib.hid hK
          have FC := Lib.hid F.cls
          clear hK D F
          go_simp
          exact HK.out g _ _ FC.out (ge_pure (Below.refl _ _) (FC.out.hN HNE.out) FC.out.2) rfl
        · intro g a w F D
          have g69 : a.tmps.getD 69 undef = .slice ua (othL x.v y.l y.l.length).length uc := (D ⟨7, .data⟩ (by simp) rfl _ _ rfl rfl)
          have g70 : a.tmps.getD 70 undef = .int .i64 (LT.length : Int) := (D ⟨8, .data⟩ (by simp) rfl _ _ rfl rfl)
          refine ⟨wanted_none rfl, fun K hK => ?_⟩
          refine op_slice (sv := .slice ua (othL x.v y.l y.l.length).length uc) (lv := some (.int .i64 (LT.length : Int))) (hv := none) rfl g69 (congrArg some g70) rfl (HSL2.out w) ?_
          exact hK g _ _ F.cls (ge_pure (Below.refl _ _) (F.cls.hN HNE.out) F.cls.2) rfl
        · intro g a w F D
          have g68 : GOwn N W0 g L2 (a.tmps.getD 68 undef) w := (D ⟨6, .data⟩ (by simp) rfl _ _ rfl rfl)
          have g71 : a.tmps.getD 71 undef = .slice A2 LR.length (uc - LT.length) := (D ⟨9, .data⟩ (by simp) rfl _ _ rfl rfl)
          obtain ⟨v', w', hr, hg, hb, hbx⟩ := app_more g68 (HS2.out w F.cls.1) HKR.out HLN.out.2.2 (F.cls.hN HNE.out) F.cls.2
          refine ⟨wanted_none rfl, fun K hK => ?_⟩
          refine op_append (s := .tmp 68) (x := .tmp 71) rfl rfl g71 hr ?_
          rw [HL3.out] at hg
          exact hK g _ _ (F.cls.wild HNE.out hb) (ge_wild hb hbx rfl) hg
        · intro g a w F D _
          have g72 : GOwn N W0 g L3 (a.tmps.getD 72 undef) w := (D ⟨10, .data⟩ (by simp) rfl _ _ rfl rfl)
          obtain ⟨a72, c72, e72⟩ := g72.1
          rw [e72] at g72
          replace e72 := get_of e72 (by simp [undef])
          have GG := Lib.hid g72
          have FF := Lib.hid F
          clear g72
          refine ⟨wanted_none rfl, fun K hK => ?_⟩
          have HK := Lib.hid hK
          have FC := Lib.hid F.cls
          clear hK D F
          obtain ⟨tm, df⟩ := a
          go_simp
          refine HK.out _ _ (HMK.out _ _ (Met.intro (HRJ.out _ _ ?_)))
          have F := FF.out
          have hsz : tm.size = 96 := F.len
          repeat apply Exists.intro
          refine ⟨?rel, ?eq⟩
          case eq =>
            have hdf : df = [] := F.defers
            subst hdf
            refine congrArg (fun t => Act.mk t []) ?_
            refine (arr_lit (n := 96) ?_).trans (congrArg List.toArray ?_)
            · simp only [Array.size_setIfInBounds]; exact hsz
            simp only [FR96, List.map_cons, List.map_nil]
            refine cons_eq ((getD_put_ne (by decide)).trans ((F.at 0 (by kernel_rfl)).trans rfl)) ?_
            refine cons_eq ((getD_put_ne (by decide)).trans ((F.at 1 (by kernel_rfl)).trans rfl)) ?_
            refine cons_eq ((getD_put_ne (by decide)).trans ((F.at 2 (by kernel_rfl)).trans rfl)) ?_
            refine cons_eq ((getD_put_ne (by decide)).trans ((F.at 3 (by kernel_rfl)).trans rfl)) ?_
            refine cons_eq ((getD_put_ne (by decide)).trans ((F.at 4 (by kernel_rfl)).trans rfl)) ?_
            refine cons_eq ((getD_put_ne (by decide)).trans ((F.at 5 (by kernel_rfl)).trans rfl)) ?_
            refine cons_eq ((getD_put_ne (by decide)).trans ((F.at 6 (by kernel_rfl)).trans rfl)) ?_
            refine cons_eq ((getD_put_ne (by decide)).trans ((F.at 7 (by kernel_rfl)).trans rfl)) ?_
            refine cons_eq ((getD_put_ne (by decide)).trans ((F.at 8 (by kernel_rfl)).trans rfl)) ?_
            refine cons_eq ((getD_put_ne (by decide)).trans ((F.at 9 (by kernel_rfl)).trans rfl)) ?_
            refine cons_eq ((getD_put_ne (by decide)).trans ((F.at 10 (by kernel_rfl)).trans rfl)) ?_
            refine cons_eq rfl ?_
            refine cons_eq ((getD_put_ne (by decide)).trans ((F.at 12 (by kernel_rfl)).trans rfl)) ?_
            refine cons_eq ((getD_put_ne (by decide)).trans ((F.at 13 (by kernel_rfl)).trans rfl)) ?_
            refine cons_eq ((getD_put_ne (by decide)).trans ((F.at 14 (by kernel_rfl)).trans rfl)) ?_
            refine cons_eq ((getD_put_ne (by decide)).trans ((F.at 15 (by kernel_rfl)).trans rfl)) ?_
            refine cons_eq ((getD_put_ne (by decide)).trans ((F.at 16 (by kernel_rfl)).trans rfl)) ?_
            refine cons_eq ((getD_put_ne (by decide)).trans ((F.at 17 (by kernel_rfl)).trans rfl)) ?_
            refine cons_eq ((getD_put_ne (by decide)).trans ((F.at 18 (by kernel_rfl)).trans rfl)) ?_
            refine cons_eq ((getD_put_ne (by decide)).trans ((F.at 19 (by kernel_rfl)).trans rfl)) ?_
            refine cons_eq ((getD_put_ne (by decide)).trans ((F.at 20 (by kernel_rfl)).trans rfl)) ?_
            refine cons_eq ((getD_put_ne (by decide)).trans ((F.at 21 (by kernel_rfl)).trans rfl)) ?_
            refine cons_eq ((getD_put_ne (by decide)).trans ((F.at 22 (by kernel_rfl)).trans rfl)) ?_
            refine cons_eq ((getD_put_ne (by decide)).trans ((F.at 23 (by kernel_rfl)).trans rfl)) ?_
            refine cons_eq ((getD_put_ne (by decide)).trans ((F.at 24 (by kernel_rfl)).trans rfl)) ?_
            refine cons_eq ((getD_put_ne (by decide)).trans ((F.at 25 (by kernel_rfl)).trans rfl)) ?_
            refine cons_eq ((getD_put_ne (by decide)).trans ((F.at 26 (by kernel_rfl)).trans rfl)) ?_
            refine cons_eq ((getD_put_ne (by decide)).trans ((F.at 27 (by kernel_rfl)).trans rfl)) ?_
            refine cons_eq ((getD_put_ne (by decide)).trans ((F.at 28 (by kernel_rfl)).trans rfl)) ?_
            refine cons_eq ((getD_put_ne (by decide)).trans ((F.at 29 (by kernel_rfl)).trans rfl)) ?_
            refine cons_eq ((getD_put_ne (by decide)).trans ((F.at 30 (by kernel_rfl)).trans rfl)) ?_
            refine cons_eq ((getD_put_ne (by decide)).trans ((F.at 31 (by kernel_rfl)).trans rfl)) ?_
            refine cons_eq ((getD_put_ne (by decide)).trans ((F.at 32 (by kernel_rfl)).trans rfl)) ?_
            refine cons_eq ((getD_put_ne (by decide)).trans ((F.at 33 (by kernel_rfl)).trans rfl)) ?_
            refine cons_eq ((getD_put_ne (by decide)).trans ((F.at 34 (by kernel_rfl)).trans rfl)) ?_
            refine cons_eq ((getD_put_ne (by decide)).trans ((F.at 35 (by kernel_rfl)).trans rfl)) ?_
            refine cons_eq ((getD_put_ne (by decide)).trans ((F.at 36 (by kernel_rfl)).trans rfl)) ?_
            refine cons_eq ((getD_put_ne (by decide)).trans ((F.at 37 (by kernel_rfl)).trans rfl)) ?_
            refine cons_eq ((getD_put_ne (by decide)).trans ((F.at 38 (by kernel_rfl)).trans rfl)) ?_
            refine cons_eq ((getD_put_ne (by decide)).trans ((F.at 39 (by kernel_rfl)).trans rfl)) ?_
            refine cons_eq ((getD_put_ne (by decide)).trans ((F.at 40 (by kernel_rfl)).trans rfl)) ?_
            refine cons_eq ((getD_put_ne (by decide)).trans ((F.at 41 (by kernel_rfl)).trans rfl)) ?_
            refine cons_eq ((getD_put_ne (by decide)).trans ((F.at 42 (by kernel_rfl)).trans rfl)) ?_
            refine cons_eq ((getD_put_ne (by decide)).trans ((F.at 43 (by kernel_rfl)).trans rfl)) ?_
            refine cons_eq ((getD_put_ne (by decide)).trans ((F.at 44 (by kernel_rfl)).trans rfl)) ?_
            refine cons_eq ((getD_put_ne (by decide)).trans ((F.at 45 (by kernel_rfl)).trans rfl)) ?_
            refine cons_eq ((getD_put_ne (by decide)).trans ((F.at 46 (by kernel_rfl)).trans rfl)) ?_
            refine cons_eq ((getD_put_ne (by decide)).trans ((F.at 47 (by kernel_rfl)).trans rfl)) ?_
            refine cons_eq ((getD_put_ne (by decide)).trans ((F.at 48 (by kernel_rfl)).trans rfl)) ?_
            refine cons_eq ((getD_put_ne (by decide)).trans ((F.at 49 (by kernel_rfl)).trans rfl)) ?_
            refine cons_eq ((getD_put_ne (by decide)).trans ((F.at 50 (by kernel_rfl)).trans rfl)) ?_
            refine cons_eq ((getD_put_ne (by decide)).trans ((F.at 51 (by kernel_rfl)).trans rfl)) ?_
            refine cons_eq ((getD_put_ne (by decide)).trans ((F.at 52 (by kernel_rfl)).trans rfl)) ?_
            refine cons_eq ((getD_put_ne (by decide)).trans ((F.at 53 (by kernel_rfl)).trans rfl)) ?_
            refine cons_eq ((getD_put_ne (by decide)).trans ((F.at 54 (by kernel_rfl)).trans rfl)) ?_
            refine cons_eq ((getD_put_ne (by decide)).trans ((F.at 55 (by kernel_rfl)).trans rfl)) ?_
            refine cons_eq ((getD_put_ne (by decide)).trans ((F.at 56 (by kernel_rfl)).trans rfl)) ?_
            refine cons_eq ((getD_put_ne (by decide)).trans ((F.at 57 (by kernel_rfl)).trans rfl)) ?_
            refine cons_eq ((getD_put_ne (by decide)).trans ((F.at 58 (by kernel_rfl)).trans rfl)) ?_
            refine cons_eq ((getD_put_ne (by decide)).trans ((F.at 59 (by kernel_rfl)).trans rfl)) ?_
            refine cons_eq ((getD_put_ne (by decide)).trans ((F.at 60 (by kernel_rfl)).trans rfl)) ?_
            refine cons_eq ((getD_put_ne (by decide)).trans ((F.at 61 (by kernel_rfl)).trans rfl)) ?_
            refine cons_eq rfl ?_
            refine cons_eq rfl ?_
            refine cons_eq rfl ?_
            refine cons_eq rfl ?_
            refine cons_eq rfl ?_
            refine cons_eq rfl ?_
            refine cons_eq rfl ?_
            refine cons_eq rfl ?_
            refine cons_eq rfl ?_
            refine cons_eq rfl ?_
            refine cons_eq rfl ?_
            refine cons_eq ((getD_put_ne (by decide)).trans ((F.at 73 (by kernel_rfl)).trans rfl)) ?_
            refine cons_eq ((getD_put_ne (by decide)).trans ((F.at 74 (by kernel_rfl)).trans rfl)) ?_
            refine cons_eq ((getD_put_ne (by decide)).trans ((F.at 75 (by kernel_rfl)).trans rfl)) ?_
            refine cons_eq ((getD_put_ne (by decide)).trans ((F.at 76 (by kernel_rfl)).trans rfl)) ?_
            refine cons_eq ((getD_put_ne (by decide)).trans ((F.at 77 (by kernel_rfl)).trans rfl)) ?_
            refine cons_eq ((getD_put_ne (by decide)).trans ((F.at 78 (by kernel_rfl)).trans rfl)) ?_
            refine cons_eq ((getD_put_ne (by decide)).trans ((F.at 79 (by kernel_rfl)).trans rfl)) ?_
            refine cons_eq ((getD_put_ne (by decide)).trans ((F.at 80 (by kernel_rfl)).trans rfl)) ?_
            refine cons_eq ((getD_put_ne (by decide)).trans ((F.at 81 (by kernel_rfl)).trans rfl)) ?_
            refine cons_eq ((getD_put_ne (by decide)).trans ((F.at 82 (by kernel_rfl)).trans rfl)) ?_
            refine cons_eq ((getD_put_ne (by decide)).trans ((F.at 83 (by kernel_rfl)).trans rfl)) ?_
            refine cons_eq ((getD_put_ne (by decide)).trans ((F.at 84 (by kernel_rfl)).trans rfl)) ?_
            refine cons_eq ((getD_put_ne (by decide)).trans ((F.at 85 (by kernel_rfl)).trans rfl)) ?_
            refine cons_eq ((getD_put_ne (by decide)).trans ((F.at 86 (by kernel_rfl)).trans rfl)) ?_
            refine cons_eq ((getD_put_ne (by decide)).trans ((F.at 87 (by kernel_rfl)).trans rfl)) ?_
            refine cons_eq ((getD_put_ne (by decide)).trans ((F.at 88 (by kernel_rfl)).trans rfl)) ?_
            refine cons_eq ((getD_put_ne (by decide)).trans ((F.at 89 (by kernel_rfl)).trans rfl)) ?_
            refine cons_eq ((getD_put_ne (by decide)).trans ((F.at 90 (by kernel_rfl)).trans rfl)) ?_
            refine cons_eq ((getD_put_ne (by decide)).trans ((F.at 91 (by kernel_rfl)).trans rfl)) ?_
            refine cons_eq ((getD_put_ne (by decide)).trans ((F.at 92 (by kernel_rfl)).trans rfl)) ?_
            refine cons_eq ((getD_put_ne (by decide)).trans ((F.at 93 (by kernel_rfl)).trans rfl)) ?_
            refine cons_eq ((getD_put_ne (by decide)).trans ((F.at 94 (by kernel_rfl)).trans rfl)) ?_
            refine cons_eq ((getD_put_ne (by decide)).trans ((F.at 95 (by kernel_rfl)).trans rfl)) ?_
            rfl
          case rel =>
            exact ⟨a72, c72, by simp [Array.getD, hsz], Lib.hid ⟨GG.out.sl, FC.out.1⟩⟩
      case rest =>
        obtain ⟨a3, c3, rfl, HS3⟩ := hcut
        have HX8 := Lib.hid (blk_via HS3.out.2 HX7.out)
        have HT8 := Lib.hid (blk_via HS3.out.2 HT7.out)
        have HB8 := Lib.hid (below_via HB7.out HS3.out.2)
        clear r0 r1 r2 r3 HS1 HS2 HKT HKR HKX HNE HLN HX7 HT7 HZ7 HSL1 HSL2
        obtain ⟨p0, p1, p2, p3⟩ := vb4 HX8.out
        obtain ⟨t0, t1, t2, t3⟩ := vb4 HT8.out
        have hsxt : sameV x.v t.v = true := by rw [HTV.out, same_sym]; exact (farV_zero (turnedm z0 HMX.out) HMX.out).1 (by rw [farV_turned z0 x.v HMX.out (turnedm z0 HMX.out)]; exact far_self _)
        have hn1 : nearI x.v t.v = 0 := nearI_same hsxt
        have hn2 : nearI t.v x.v = 0 := nearI_same (by rw [same_sym]; exact hsxt)
        have hn3 : (nearP x.v (L3.map AV.v) (L3.map AV.v).length).1 = (LT.length : Nat) := by
          have e : L3.map AV.v = LT.map AV.v ++ t.v :: LR.map AV.v := by rw [← HL3.out, ← HL2.out]; simp
          rw [e]
          have := near_self (a := x.v) (y := t.v) (l1 := LT.map AV.v) (l2 := LR.map AV.v) hsxt (fun c hc => by obtain ⟨r, hr, rfl⟩ := List.mem_map.1 hc; exact HNS.out r (by rw [HPT.out]; simp [hr])) (fun c hc => by obtain ⟨r, hr, rfl⟩ := List.mem_map.1 hc; exact HNS.out r (by rw [HPT.out]; simp [hr])) (same_sym x.v)
          rw [List.length_map] at this
          exact this
        have hk3 : ∀ r ∈ L3, (∀ W, Below W0.heap.size W0 W → Rd W r) ∧ r.w ≤ 1048576 := fun r hr => by
          rw [← HL3.out, ← HL2.out] at hr
          rcases List.mem_append.1 hr with hr | hr
          · rcases List.mem_append.1 hr with hr | hr
            · exact HKA.out r (by rw [HPT.out]; simp [hr])
            · simp at hr; subst hr; exact ⟨HRT.out, hwt⟩
          · exact HKA.out r (by rw [HPT.out]; simp [hr])
        have h3l : L3.length ≤ 1048576 := by rw [← HL3.out, ← HL2.out]; have := HO8.out; rw [HPT.out, List.length_append] at this; simp; omega
        have HA1 := fun W (h : Below wc.heap.size wc W) => Lib.hid (show Calls Try.prog 41 #[x.val, t.val] W (Ret (.bool true) W) by have := are21_c W x t (HRX.out W (below_via HB8.out h)) (HRT.out W (below_via HS3.out.2 h)) hwx hwt; rwa [hn1] at this)
        have HA2 := fun W (h : Below wc.heap.size wc W) => Lib.hid (show Calls Try.prog 41 #[t.val, x.val] W (Ret (.bool true) W) by have := are21_c W t x (HRT.out W (below_via HS3.out.2 h)) (HRX.out W (below_via HB8.out h)) hwt hwx; rwa [hn2] at this)
        have HN1 := fun W (h : Below wc.heap.size wc W) => Lib.hid (show Calls Try.prog 40 #[x.val, .slice a3 L3.length c3] W (Ret (.int .i64 (LT.length : Int)) W) by
          have := nearest_c W x a3 c3 L3 (HS3.out.1.up h) h3l (HRX.out W (below_via HB8.out h)) hwx (fun r hr => ⟨(hk3 r hr).1 W (below_via HS3.out.2 h), (hk3 r hr).2⟩)
          rw [List.length_map] at hn3
          rwa [hn3] at this)
        have HN2 := fun W (h : Below wc.heap.size wc W) => Lib.hid (show Calls Try.prog 40 #[x.val, .slice none 0 0] W (Ret (.int .i64 (-1)) W) by
          exact nearest_c W x none 0 [] SlE.nil (by simp) (HRX.out W (below_via HB8.out h)) hwx (fun r hr => absurd hr List.not_mem_nil))
        have HC8 := Lib.hid (Below.refl wc.heap.size wc)
        clear hsxt hn1 hn2 hn3 hk3 h3l
        go_wp2_with (first
          | (go_at_call 39; (with_reducible refine (HLI _).out.mono ?_); rintro e w99 ⟨rfl, h99⟩)
          | (go_at_call 40; (with_reducible refine (HN2 _ HC11.out).out.mono ?_); rintro e w12 ⟨rfl, h12⟩; have HC12 := Lib.hid (below_via HC11.out h12); have HX12 := Lib.hid (blk_via h12 HX11.out); clear p0 p1 p2 p3; obtain ⟨p0, p1, p2, p3⟩ := vb4 HX12.out; have HT12 := Lib.hid (blk_via h12 HT11.out); clear t0 t1 t2 t3; obtain ⟨t0, t1, t2, t3⟩ := vb4 HT12.out; clear h12)
          | (go_at_call 40; (with_reducible refine (HN1 _ HC10.out).out.mono ?_); rintro e w11 ⟨rfl, h11⟩; have HC11 := Lib.hid (below_via HC10.out h11); have HX11 := Lib.hid (blk_via h11 HX10.out); clear p0 p1 p2 p3; obtain ⟨p0, p1, p2, p3⟩ := vb4 HX11.out; have HT11 := Lib.hid (blk_via h11 HT10.out); clear t0 t1 t2 t3; obtain ⟨t0, t1, t2, t3⟩ := vb4 HT11.out; clear h11)
          | (go_at_call 41; (with_reducible refine (HA2 _ HC9.out).out.mono ?_); rintro e w10 ⟨rfl, h10⟩; have HC10 := Lib.hid (below_via HC9.out h10); have HX10 := Lib.hid (blk_via h10 HX9.out); clear p0 p1 p2 p3; obtain ⟨p0, p1, p2, p3⟩ := vb4 HX10.out; have HT10 := Lib.hid (blk_via h10 HT9.out); clear t0 t1 t2 t3; obtain ⟨t0, t1, t2, t3⟩ := vb4 HT10.out; clear h10)
          | (go_at_call 41; (with_reducible refine (HA1 _ HC8.out).out.mono ?_); rintro e w9 ⟨rfl, h9⟩; have HC9 := Lib.hid (below_via HC8.out h9); have HX9 := Lib.hid (blk_via h9 HX8.out); clear p0 p1 p2 p3; obtain ⟨p0, p1, p2, p3⟩ := vb4 HX9.out; have HT9 := Lib.hid (blk_via h9 HT8.out); clear t0 t1 t2 t3; obtain ⟨t0, t1, t2, t3⟩ := vb4 HT9.out; clear h9))
        go_ret
        exact ⟨rfl, below_via (below_via HB8.out HC12.out) h99⟩
end Go.Proofs.Ytmhkacafilpliaa
