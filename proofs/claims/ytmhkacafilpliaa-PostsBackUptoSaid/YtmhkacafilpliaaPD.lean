/-
  PostsBack's walk. Conditions: the value lies in memory, its weight is bounded. (Printed by gen_pd.py.)
-/
import Derived.Test.YtmhkacafilpliaaPC
namespace Go.Proofs.Ytmhkacafilpliaa
open Go.RowKit Go.Sort Go.Shelf Go.BigFrame

/-- What posts.Of hands back of a value that may be. -/
def OfV (V : Val) (n r : Nat) (w : World) (e : Ending) (w' : World) : Prop :=
  ∃ al af ar, e = .returned (.tuple #[.agg #[.slice al n n, .slice af n n, .slice ar r r], .bool true]) ∧ PA.Rd ⟨al, n, af, n, ar, r, V.labs, intsL V.lefts, intsL (rootsL V.lefts)⟩ w' ∧ Below w.heap.size w w'
theorem ofv_c (w : World) (x : AV) (hx : Rd w x) (hw : x.w ≤ 1048576) (hm : x.v.may = true) : Calls Try.prog 15 #[x.val] w (OfV x.v x.v.labs.length (rootsL x.v.lefts).length w) := by
  refine (pof_u w x hx hw).mono fun e w' h => ?_
  obtain ⟨al, af, ar, rfl, ho, -, hb⟩ := h
  have e1 : x.v.labs0 = x.v.labs := by rw [Val.labs0, hm]; rfl
  have e2 : x.v.lefts0 = x.v.lefts := by rw [Val.lefts0, hm]; rfl
  rw [e1, e2] at ho ⊢
  rw [hm]
  exact ⟨al, af, ar, rfl, ho.rd, hb⟩
theorem like_same {W : World} {V : Val} {n r : Nat} {al af ar al' af' ar' : Option Addr} (en : n = V.labs.length) (er : r = (rootsL V.lefts).length) (hp : PA.Rd ⟨al, n, af, n, ar, r, V.labs, intsL V.lefts, intsL (rootsL V.lefts)⟩ W) (hq : PA.Rd ⟨al', n, af', n, ar', r, V.labs, intsL V.lefts, intsL (rootsL V.lefts)⟩ W) :
    Calls Try.prog 37 #[.agg #[.slice al n n, .slice af n n, .slice ar r r], .agg #[.slice al' n n, .slice af' n n, .slice ar' r r]] W (Ret (.bool true) W) := by
  have h := like_c W _ _ hp hq
  simp only [PA.box, pBox, List.length_map, lefts_len, and_self, decide_true] at h
  subst en er
  exact h
theorem turned_w9 (by_ : Nat) : ∀ v : Val, (v.turned by_).w = v.w := Val.ind fun v ih => by
  have h1 := ((turned_l by_ v).map Val.w).sum_nat
  have h2 := ((turned_ks by_ v).map (·.size)).sum_nat
  have h3 := (turned_ks by_ v).length_eq
  have h4 : (v.l.map (Val.turned by_)).map Val.w = v.l.map Val.w := by
    rw [List.map_map]; exact List.map_congr_left fun y hy => ih y hy
  rw [Val.w_eq, Val.w_eq v, turned_t, h1, h2, h3, h4]

/-- What posts.Part hands back of a node. -/
def PartV (V Y : Val) (s r i : Nat) (w : World) (e : Ending) (w' : World) : Prop :=
  ∃ al af ar LP, e = .returned (.tuple #[.agg #[.slice al s s, .slice af s s, .slice ar r r], .bool true]) ∧ PA.Rd ⟨al, s, af, s, ar, r, LP, intsL Y.lefts, intsL (rootsL Y.lefts)⟩ w' ∧ LP[s - 1]? = V.labs[i]? ∧ Below w.heap.size w w'
theorem partv_c (w : World) {V : Val} (hV : V.may = true) (hVw : V.w ≤ 1048576) {m i n r : Nat} {x : Plc} {al af ar : Option Addr} (en : n = V.labs.length) (hs : Seg V.labs V.lefts m x i) (hm : m ≤ 256) (hp : PA.Rd ⟨al, n, af, n, ar, r, V.labs, intsL V.lefts, intsL (rootsL V.lefts)⟩ w) :
    Calls Try.prog 19 #[.agg #[.slice al n n, .slice af n n, .slice ar r r], .int .i64 (i : Int)] w (PartV V (canon m x.v) x.v.size (rootsL (canon m x.v).lefts).length i w) := by
  obtain ⟨k1, k2, k3, k4, k5, k6, k7, k8⟩ := seg_facts hs hm
  have hst := hs.start
  have hlv : V.labs.length ≤ 1048576 := by rw [labs_len V hV]; exact Nat.le_trans V.size_le hVw
  have hil : i < V.labs.length := (List.getElem?_eq_some_iff.1 hs.lab).1
  have e0 : (intsL V.lefts).length = V.labs.length := by rw [List.length_map, lefts_len]
  have h := part_c w V.labs (intsL V.lefts) al af ar n n r r (i : Int) hp.l (by omega) hp.f (by omega) hlv
  simp only [pBox] at h
  rw [e0, ← en] at h
  refine h.mono ?_
  have hmi : ((i : Int)).toNat + 1 - (i + 1 - x.v.size) = x.v.size := by rw [Int.toNat_natCast]; omega
  rintro e w' ⟨hb, ⟨f, hpa, -, al', af', ar', m', hm', rfl, h1, h2, h3⟩ | ⟨hn, -⟩⟩
  · rw [k3] at hpa
    injection hpa with hpa
    subst hpa
    rw [hmi] at hm'
    subst hm'
    rw [k5] at h2 h3 ⊢
    have hle := lefts_len (canon m x.v)
    have hro : (rootsL (canon m x.v).lefts).length ≤ (canon m x.v).lefts.length := rootsL_le _
    exact ⟨al', af', ar', _, rfl, post_rd h1 h2 h3 k7.symm (by omega) rfl (by omega) (by omega) (by omega), k8, hb⟩
  · have h4 := hn _ k3
    rw [hmi, k4] at h4
    cases h4
theorem ofno_c (w : World) (x : AV) (hx : Rd w x) (hw : x.w ≤ 1048576) (hm : x.v.may = false) : Calls Try.prog 15 #[x.val] w (fun e w' => ∃ al af ar, e = .returned (.tuple #[.agg #[.slice al 0 0, .slice af 0 0, .slice ar 0 0], .bool false]) ∧ Below w.heap.size w w') := by
  refine (pof_u w x hx hw).mono fun e w' h => ?_
  obtain ⟨al, af, ar, rfl, -, -, hb⟩ := h
  have e1 : x.v.labs0 = [] := by rw [Val.labs0, hm]; rfl
  have e2 : x.v.lefts0 = [] := by rw [Val.lefts0, hm]; rfl
  rw [e1, e2, hm]
  exact ⟨al, af, ar, rfl, hb⟩
theorem oft_c (w : World) (x : AV) (b : Nat) {V : Val} (hV : V.may = true) (hVw : V.w ≤ 1048576) (hx : Rd w x) (he : x.v = V.turned b) : Calls Try.prog 15 #[x.val] w (OfV V V.labs.length (rootsL V.lefts).length w) := by
  obtain ⟨h1, h2⟩ := turned_same hV b
  obtain ⟨h3, h4⟩ := (same_posts hV h1).1 h2
  have := ofv_c w x hx (by show x.v.w ≤ _; rw [he, turned_w9]; exact hVw) (by rw [he]; exact h1)
  unfold OfV at this ⊢
  rw [he, ← h3, ← h4] at this
  exact this
theorem madev_c (w : World) {V : Val} {m i n r : Nat} {x : Plc} {al af ar : Option Addr} (en : n = V.labs.length) (er : r = (rootsL V.lefts).length) (hs : Seg V.labs V.lefts m x i) (hp : PA.Rd ⟨al, n, af, n, ar, r, V.labs, intsL V.lefts, intsL (rootsL V.lefts)⟩ w) :
    Calls Try.prog 34 #[.agg #[.slice al n n, .slice af n n, .slice ar r r], .int .i64 (i : Int)] w (MadePost (canon m x.v) w) := by
  have h := made_c m w _ V.lefts x i hp rfl hs
  simp only [PA.box, pBox, List.length_map, lefts_len] at h
  subst en er
  exact h
theorem nums_same {W : World} {a b : Option Addr} {n : Nat} {l : List Nat} (hn : n = l.length) (h : SlE i64Z 1 W 0 W.heap.size a (intsL l)) (h' : SlE i64Z 1 W 0 W.heap.size b (intsL l)) (hl : l.length ≤ 2097152) : Calls Try.prog 38 #[.slice a n n, .slice b n n] W (Ret (.bool true) W) := by
  have := samenums_c W a b n n (intsL l) (intsL l) h h' (by rw [List.length_map]; omega)
  rw [decide_eq_true rfl, List.length_map, ← hn] at this
  exact this
set_option maxRecDepth 100000 in
set_option maxHeartbeats 6400000 in
theorem pback_out (w : World) (x : AV) (b : Nat) (hx : Rd w x) (hw : x.w ≤ 1048576) (h : 1500 < x.v.w) : Calls Try.prog 7 #[x.val, .int .u8 b] w (Ret (.bool true) w) := by
  have HLV := fun W => Lib.hid (lives19_c W)
  have hba := (Below.refl w.heap.size w).alloc (Nat.le_refl _) (.cells #[.int .u8 x.k, .string x.t, .slice x.la x.l.length x.lc, .slice x.ka x.ks.length x.kc] 26)
  have HG := Lib.hid (show ∀ W, Below w.heap.size w W → Calls Try.prog 12 #[x.val] W (Ret (.bool true) W) from fun W hW => by have := great14_c x W (hx.up hW) hw; rwa [decide_eq_true h] at this)
  clear h
  go_enter Try.func7, Try.ntmps7
  go_wp2_with (first
    | (go_at_call 13; (with_reducible refine (HLV _).out.mono ?_); rintro e w9 ⟨rfl, h9⟩)
    | (go_at_call 12; refine (HG.out _ hba).mono ?_; rintro e w1 ⟨rfl, hb1⟩; have HB := Lib.hid (below_via hba hb1); clear hb1))
  go_ret
  exact ⟨rfl, below_via HB.out h9⟩
set_option maxRecDepth 100000 in
set_option maxHeartbeats 12800000 in
theorem pback_in (w : World) (x : AV) (b : Nat) (hb : b < 256) (hx : Rd w x) (hw : x.w ≤ 1500) : Calls Try.prog 7 #[x.val, .int .u8 b] w (Ret (.bool true) w) := by
  have HLV := fun W => Lib.hid (lives19_c W)
  have HX := Lib.hid (show ∀ W, Below w.heap.size w W → Rd W x from fun W h => hx.up h)
  have hba := (Below.refl w.heap.size w).alloc (Nat.le_refl _) (.cells #[.int .u8 x.k, .string x.t, .slice x.la x.l.length x.lc, .slice x.ka x.ks.length x.kc] 26)
  have HG := Lib.hid (show ∀ W, Below w.heap.size w W → Calls Try.prog 12 #[x.val] W (Ret (.bool false) W) from fun W h => by have := great14_c x W (hx.up h) (by omega); rwa [decide_eq_false (by show ¬ 1500 < x.w; omega)] at this)
  have HWT := Lib.hid (show ∀ W, Below w.heap.size w W → Calls Try.prog 33 #[x.val] W (WPost x.v W) from fun W h => weight_c x W (hx.up h) (by omega))
  have HWX := Lib.hid (show x.w ≤ 1048576 by omega)
  have hx0 := heap_alloc_new w (.cells #[.int .u8 x.k, .string x.t, .slice x.la x.l.length x.lc, .slice x.ka x.ks.length x.kc] 26)
  have HX0 := Lib.hid hx0
  have HBB := Lib.hid hb
  clear hx hx0 hw hb
  go_enter Try.func7, Try.ntmps7
  go_upto_if 24 with (first
    | (go_at_call 33; refine (HWT.out _ HB1.out).mono ?_; rintro e w2 ⟨q, -, rfl, hb2⟩
       have HB2 := Lib.hid (below_via HB1.out hb2)
       have HX2 := Lib.hid (blk_via hb2 HX1.out)
       clear hb2
       obtain ⟨bb, hbb⟩ : ∃ bb : Bool, decide ((400 : Int) < (q : Int)) = bb := ⟨_, rfl⟩
       cases bb)
    | (go_at_call 12; refine (HG.out _ hba).mono ?_; rintro e w1 ⟨rfl, hb1⟩
       have HB1 := Lib.hid (below_via hba hb1)
       have HX1 := Lib.hid (blk_via hb1 HX0.out)
       clear hb1
       obtain ⟨x0, x1, x2, x3⟩ := vb4 HX1.out))
  rotate_left
  · go_wp2_with (go_at_call 13; (with_reducible refine (HLV _).out.mono ?_); rintro e w9 ⟨rfl, h9⟩)
    go_ret
    exact ⟨rfl, below_via HB2.out h9⟩
  clear x0 x1 x2 x3 HG HWT
  obtain ⟨x0, x1, x2, x3⟩ := vb4 HX2.out
  cases hm : x.v.may with
  | false =>
    have HO := Lib.hid (ofno_c w2 x (HX.out w2 HB2.out) HWX.out hm)
    have HM := Lib.hid (show ∀ W, Below w.heap.size w W → Calls Try.prog 30 #[x.val] W (Ret (.bool false) W) from fun W h => by have := may_c W x (HX.out W h) HWX.out; rwa [hm] at this)
    clear hm
    go_wp2_with (first
      | (go_at_call 13; (with_reducible refine (HLV _).out.mono ?_); rintro e w9 ⟨rfl, h9⟩)
      | (go_at_call 30; refine (HM.out _ HB3A.out).mono ?_; rintro e w4 ⟨rfl, hb4⟩
         have HB4 := Lib.hid (below_via HB3A.out hb4)
         obtain ⟨p0, p1, p2, -, -, -⟩ := box3 ((hb4.block _ (by simp)).trans (heap_alloc_new w3 (.cells #[.slice p1' 0 0, .slice p2' 0 0, .slice p3' 0 0] 33)))
         clear hb4)
      | (go_at_call 15; refine HO.out.mono ?_; rintro e w3 ⟨p1', p2', p3', rfl, hb3⟩
         have HB3A := Lib.hid (show Below w.heap.size w (w3.alloc (.cells #[.slice p1' 0 0, .slice p2' 0 0, .slice p3' 0 0] 33)) from below_al (below_via HB2.out hb3))
         have hx3 := blk_via hb3 HX2.out
         have hs3 : w.heap.size < w3.heap.size := (Array.getElem?_eq_some_iff.1 hx3).1
         clear x0 x1 x2 x3
         obtain ⟨x0, x1, x2, x3⟩ := vb4 hx3
         clear hb3 hx3))
    go_ret
    exact ⟨rfl, below_via HB4.out h9⟩
  | true =>
    obtain ⟨n, hn⟩ : ∃ n, n = x.v.labs.length := ⟨_, rfl⟩
    obtain ⟨r, hr⟩ : ∃ r, r = (rootsL x.v.lefts).length := ⟨_, rfl⟩
    have hn1 : 1 ≤ n := by rw [hn, labs_len _ hm]; exact size_pos _
    have hn2 : n ≤ 1048576 := by rw [hn, labs_len _ hm]; exact Nat.le_trans x.v.size_le HWX.out
    have HM := Lib.hid hm
    have EN := Lib.hid hn
    have ER := Lib.hid hr
    have HO := Lib.hid (show Calls Try.prog 15 #[x.val] w2 (OfV x.v n r w2) by rw [hn, hr]; exact ofv_c w2 x (HX.out w2 HB2.out) HWX.out hm)
    clear hm hn hr
    go_upto_region 4 with (go_at_call 15; refine HO.out.mono ?_; rintro e w3 ⟨p1, p2, p3, rfl, hrd, hb3⟩; have HR3 := Lib.hid hrd; have HB3 := Lib.hid hb3; clear hrd hb3)
    go_name_world W3 hW3
    have hb3 : Below w2.heap.size w2 W3 := by rw [← hW3]; exact below_al HB3.out
    have hp3 : W3.heap[w3.heap.size]? = some (.cells #[.slice p1 n n, .slice p2 n n, .slice p3 r r] 33 (0, 0)) := by rw [← hW3]; exact heap_alloc_new _ _
    have hr3 : PA.Rd ⟨p1, n, p2, n, p3, r, x.v.labs, intsL x.v.lefts, intsL (rootsL x.v.lefts)⟩ W3 := by rw [← hW3]; exact HR3.out.up (below_al (Below.refl _ _))
    have HBW := Lib.hid (below_via HB2.out hb3)
    have HXB := Lib.hid (blk_via hb3 HX2.out)
    have HPB := Lib.hid hp3
    have HPR := Lib.hid hr3
    clear x0 x1 x2 x3 hW3 hb3 hp3 hr3 HR3 HO HX2
    generalize w3.heap.size = BP at *
    obtain ⟨x0, x1, x2, x3⟩ := vb4 HXB.out
    obtain ⟨p0, q1, q2, -, -, -⟩ := box3 HPB.out
    have HC := fun W (h : Below W3.heap.size W3 W) => Lib.hid (show Calls Try.prog 31 #[x.val] W (Ret (.int .i64 (n : Int)) W) from by
      have := size_c W x (HX.out W (below_via HBW.out h)) HWX.out
      rw [HM.out, if_pos rfl, ← labs_len _ HM.out, ← EN.out] at this
      exact this)
    go_upto_region 6 with fail
    have LD := Lib.hid (fun W (h : Below W3.heap.size W3 W) => And.intro (blkw h p0) (And.intro (blkw h q1) (And.intro (blkw h x0) (And.intro (blkw h x1) (And.intro (blkw h x2) (blkw h x3))))))
    refine wp_region_bl (by kernel_rfl) (by kernel_rfl) ?_
    repeat (first | go_big_quiet_skip | (go_big_quiet_want; go_big_quiet_op; first | go_big_quiet_on | (refine ⟨_, fun _ _ => (by with_reducible rfl), ?_⟩; go_big_quiet_on) | (apply Exists.intro; refine ⟨fun w' hC => (by simp only [LD.out w' hC, Result.andThen]; exact ⟨trivial, rfl⟩), ?_⟩; go_big_quiet_on) | (apply Exists.intro; refine ⟨fun w' hC => (by (with_reducible refine (HC w' hC).out.mono ?_); exact fun e w2 ⟨he, hb⟩ => ⟨he, hC.trans (hb.mono hC.size)⟩), ?_⟩; go_big_quiet_on)))
    refine wpQuiet_nil ?_; intro wz hbz
    have z0 := blkw hbz p0
    have z1 := blkw hbz q1
    have z2 := blkw hbz q2
    have HZ := Lib.hid hbz
    have HXZ := Lib.hid (blk_via hbz HXB.out)
    have HPZ := Lib.hid (blk_via hbz HPB.out)
    clear LD hbz p0 q1 q2 x0 x1 x2 x3 HC HXB HPB
    have HMT := Lib.hid (show Calls Try.prog 34 #[.agg #[.slice p1 n n, .slice p2 n n, .slice p3 r r], .int .i64 ((n : Int) - 1)] wz (MadePost (canon 256 x.v) wz) from by
      have h := madev_c wz EN.out ER.out (seg_whole HM.out) (HPR.out.up HZ.out)
      rw [← EN.out, show ((n - 1 : Nat) : Int) = (n : Int) - 1 by omega] at h
      exact h)
    go_upto_region 9 with (go_at_call 34; refine HMT.out.mono ?_; rintro e w4 ⟨y, rfl, hyv, hyi, hb4⟩; have HY4 := Lib.hid (And.intro hyv (And.intro (show Rd w4 y from hyi.widen (Nat.zero_le _) (Nat.le_refl _)) hb4)); clear hyv hyi hb4)
    go_name_world W5 hW5
    have hb5 : Below w4.heap.size w4 W5 := by rw [← hW5]; exact below_al (Below.refl _ _)
    have hy5 : W5.heap[w4.heap.size]? = some (.cells #[.int .u8 y.k, .string y.t, .slice y.la y.l.length y.lc, .slice y.ka y.ks.length y.kc] 26 (0, 0)) := by rw [← hW5]; exact heap_alloc_new _ _
    have HY5 := Lib.hid hy5
    have HYV := Lib.hid HY4.out.1
    have HYR := Lib.hid (Rd.up HY4.out.2.1 hb5)
    have H35 := Lib.hid (below_via HZ.out (below_via HY4.out.2.2 hb5))
    have HX5 := Lib.hid (blk_via (below_via HY4.out.2.2 hb5) HXZ.out)
    have HP5 := Lib.hid (blk_via (below_via HY4.out.2.2 hb5) HPZ.out)
    clear hW5 hb5 hy5 z0 z1 z2 HMT HXZ HPZ HY4 HZ
    generalize w4.heap.size = BY at *
    obtain ⟨x0, x1, x2, x3⟩ := vb4 HX5.out
    have HTU := Lib.hid (turned_c b HBB.out 256 x W5 (HX.out W5 (below_via HBW.out H35.out)) HWX.out (may_in9 HM.out))
    go_upto_region 10 with (first
      | (go_at_call 15; refine (HOT.out).mono ?_; rintro e w7 ⟨t1, t2, t3, rfl, hrd, hb7⟩
         have HQ7 := Lib.hid (And.intro hrd hb7)
         clear hrd hb7)
      | (go_at_call 35; refine HTU.out.mono ?_; rintro e w6 ⟨y6, rfl, hyv, hyi, hb6⟩
         have HOT := Lib.hid (show Calls Try.prog 15 #[y6.val] w6 (OfV x.v n r w6) by rw [EN.out, ER.out]; exact oft_c w6 y6 b HM.out HWX.out (hyi.widen (Nat.zero_le _) (Nat.le_refl _)) hyv)
         have HB6 := Lib.hid hb6
         clear hyv hyi hb6))
    go_name_world W8 hW8
    have hb8 : Below w7.heap.size w7 W8 := by rw [← hW8]; exact below_al (Below.refl _ _)
    have h58 : Below W5.heap.size W5 W8 := below_via HB6.out (below_via HQ7.out.2 hb8)
    have hq8 : W8.heap[w7.heap.size]? = some (.cells #[.slice t1 n n, .slice t2 n n, .slice t3 r r] 33 (0, 0)) := by rw [← hW8]; exact heap_alloc_new _ _
    have HQ8 := Lib.hid hq8
    have HQR := Lib.hid (HQ7.out.1.up hb8)
    have HX8 := Lib.hid (blk_via h58 HX5.out)
    have HP8 := Lib.hid (blk_via h58 HP5.out)
    have HY8 := Lib.hid (blk_via h58 HY5.out)
    have H38 := Lib.hid (below_via H35.out h58)
    have HYR8 := Lib.hid (HYR.out.up h58)
    clear hW8 hb8 hq8 h58 x0 x1 x2 x3 HTU HQ7 HB6 HOT HX5 HP5 HY5 HYR
    generalize w7.heap.size = BQ at *
    obtain ⟨x0, x1, x2, x3⟩ := vb4 HX8.out
    obtain ⟨y0, y1, y2, y3⟩ := vb4 HY8.out
    obtain ⟨p0, q1, q2, -, -, -⟩ := box3 HP8.out
    obtain ⟨t0', t1', t2', -, -, -⟩ := box3 HQ8.out
    have HSM := Lib.hid (show Calls Try.prog 36 #[x.val, y.val] W8 (Ret (.bool true) W8) from by
      have h := same_c x y W8 (HX.out W8 (below_via HBW.out H38.out)) HYR8.out HWX.out (by show y.v.w ≤ _; rw [HYV.out, canon_w 256 _ (may_in9 HM.out)]; exact HWX.out)
      rw [HYV.out, (canon_same HM.out).2] at h
      exact h)
    have HLK := Lib.hid (show ∀ W, Below W8.heap.size W8 W → Calls Try.prog 37 #[.agg #[.slice p1 n n, .slice p2 n n, .slice p3 r r], .agg #[.slice t1 n n, .slice t2 n n, .slice t3 r r]] W (Ret (.bool true) W) from fun W h => like_same EN.out ER.out (HPR.out.up (below_via H38.out h)) (HQR.out.up h))
    go_upto_region 12 with (first
      | (go_at_call 37; refine (HLK.out _ HB9.out).mono ?_; rintro e w10 ⟨rfl, hb10⟩
         have HB10 := Lib.hid (below_via HB9.out hb10)
         clear hb10)
      | (go_at_call 36; refine HSM.out.mono ?_; rintro e w9 ⟨rfl, hb9⟩
         have HB9 := Lib.hid hb9
         clear p0 q1 q2 t0' t1' t2'
         obtain ⟨p0, q1, q2, -, -, -⟩ := box3 (blk_via hb9 HP8.out)
         obtain ⟨t0', t1', t2', -, -, -⟩ := box3 (blk_via hb9 HQ8.out)
         clear hb9))
    obtain ⟨W1, hW1⟩ : ∃ W, W = w10 := ⟨_, rfl⟩
    subst hW1
    have HPW := Lib.hid (blk_via HB10.out HP8.out)
    have H3W := Lib.hid (below_via H38.out HB10.out)
    clear x0 x1 x2 x3 y0 y1 y2 y3 p0 q1 q2 t0' t1' t2' HSM HLK HQ8 HQR HX8 HP8 HY8 HYR8 HYV H35 H38 HB9 HB10
    go_wp2_with fail
    go_loopw [11] (fun s11 wr => ∃ i : Nat, i ≤ n ∧ s11 = .int .i64 (i : Int) ∧ Hid (Below W1.heap.size W1 wr)) (fun s11 _ => n - (intOf s11).toNat)
    case atStart => exact ⟨0, Nat.zero_le _, rfl, Lib.hid (Below.refl _ _)⟩
    case round =>
      obtain ⟨i, hi, rfl, HBR⟩ := hrel
      have HPC := Lib.hid (blk_via HBR.out HPW.out)
      obtain ⟨p0, q1, q2, -, -, -⟩ := box3 HPC.out
      have H3R := Lib.hid (below_via H3W.out HBR.out)
      by_cases hlt : i < n
      · have hlt' : (i : Int) < (n : Int) := by omega
        have hi0 : (0 : Int) ≤ (i : Int) := by omega
        obtain ⟨m, xx, hseg, hm, hxw⟩ := seg_back HM.out (i := i) (by rw [← EN.out]; exact hlt)
        obtain ⟨k1, k2, k3, k4, k5, k6, k7, k8⟩ := seg_facts hseg hm
        have hspos := size_pos xx.v
        have hsle : xx.v.size ≤ 1048576 := Nat.le_trans xx.v.size_le (Nat.le_trans hxw HWX.out)
        have hlab := hseg.lab
        have HPT := Lib.hid (partv_c wr HM.out HWX.out EN.out hseg hm (HPR.out.up H3R.out))
        have HMD := Lib.hid (show ∀ W, Below wr.heap.size wr W → Calls Try.prog 34 #[.agg #[.slice p1 n n, .slice p2 n n, .slice p3 r r], .int .i64 (i : Int)] W (MadePost (canon m xx.v) W) from fun W h => madev_c W EN.out ER.out hseg (HPR.out.up (below_via H3R.out h)))
        have HOY := Lib.hid (show ∀ (W : World) (y : AV), Rd W y → y.v = canon m xx.v → Calls Try.prog 15 #[y.val] W (OfV (canon m xx.v) xx.v.size (rootsL (canon m xx.v).lefts).length W) from fun W y hy he => by
          have h := ofv_c W y hy (by show y.v.w ≤ _; rw [he, k2]; exact Nat.le_trans hxw HWX.out) (by rw [he]; exact k1)
          rw [he, k6] at h
          exact h)
        have HLB := Lib.hid hlab
        have HRL := Lib.hid (show (canon m xx.v).lefts.length = xx.v.size from (lefts_len _).trans k6)
        have HRR := Lib.hid (show (rootsL (canon m xx.v).lefts).length ≤ xx.v.size from by have h := rootsL_le (canon m xx.v).lefts; rw [HRL.out] at h; exact h)
        clear hseg hm hxw k1 k2 k3 k4 k5 k6 k7 k8 hlab
        generalize xx.v.size = s at *
        generalize canon m xx.v = Y at *
        obtain ⟨r2, hr2⟩ : ∃ r2, r2 = (rootsL Y.lefts).length := ⟨_, rfl⟩
        rw [← hr2] at HPT HOY HRR
        have HR2 := Lib.hid hr2
        clear hr2
        go_upto_region 16 with (go_at_call 19; refine HPT.out.mono ?_; rintro e w5 ⟨a1, a2, a3, LP, rfl, hra, hlp, hb5⟩; have HA5 := Lib.hid (And.intro hra (And.intro hlp hb5)); clear hra hlp hb5)
        go_name_world W6 hW6
        have hb6 : Below w5.heap.size w5 W6 := by rw [← hW6]; exact below_al (Below.refl _ _)
        have hr6 : Below wr.heap.size wr W6 := below_via HA5.out.2.2 hb6
        have ha6 : W6.heap[w5.heap.size]? = some (.cells #[.slice a1 s s, .slice a2 s s, .slice a3 r2 r2] 33 (0, 0)) := by rw [← hW6]; exact heap_alloc_new _ _
        have HAB := Lib.hid ha6
        have HAR := Lib.hid (HA5.out.1.up hb6)
        have HAL := Lib.hid HA5.out.2.1
        have HR6 := Lib.hid hr6
        have HP6 := Lib.hid (blk_via hr6 HPC.out)
        clear hW6 hb6 hr6 ha6 HA5 p0 q1 q2 HPT
        generalize w5.heap.size = BA at *
        obtain ⟨p0, q1, q2, -, -, -⟩ := box3 HP6.out
        go_upto_region 17 with (go_at_call 34; refine (HMD.out _ HR6.out).mono ?_; rintro e w7 ⟨y, rfl, hyv, hyi, hb7⟩; have HY7 := Lib.hid (And.intro hyv (And.intro (show Rd w7 y from hyi.widen (Nat.zero_le _) (Nat.le_refl _)) hb7)); clear hyv hyi hb7)
        go_name_world W8 hW8
        have hb8 : Below w7.heap.size w7 W8 := by rw [← hW8]; exact below_al (Below.refl _ _)
        have h68 : Below W6.heap.size W6 W8 := below_via HY7.out.2.2 hb8
        have hy8 : W8.heap[w7.heap.size]? = some (.cells #[.int .u8 y.k, .string y.t, .slice y.la y.l.length y.lc, .slice y.ka y.ks.length y.kc] 26 (0, 0)) := by rw [← hW8]; exact heap_alloc_new _ _
        have HYB := Lib.hid hy8
        have HOB := Lib.hid (HOY.out W8 y (Rd.up HY7.out.2.1 hb8) HY7.out.1)
        have HP8 := Lib.hid (blk_via h68 HP6.out)
        have HA8 := Lib.hid (blk_via h68 HAB.out)
        have H68 := Lib.hid h68
        clear hW8 hb8 h68 hy8 HY7 HMD HOY p0 q1 q2
        generalize w7.heap.size = BY9 at *
        obtain ⟨y0, y1, y2, y3⟩ := vb4 HYB.out
        go_upto_region 18 with (go_at_call 15; refine HOB.out.mono ?_; rintro e w9 ⟨b1, b2, b3, rfl, hrb, hb9⟩; have HB9 := Lib.hid (And.intro hrb hb9); clear hrb hb9)
        go_name_world W10 hW10
        have hb10 : Below w9.heap.size w9 W10 := by rw [← hW10]; exact below_al (Below.refl _ _)
        have h810 : Below W8.heap.size W8 W10 := below_via HB9.out.2 hb10
        have hb10' : W10.heap[w9.heap.size]? = some (.cells #[.slice b1 s s, .slice b2 s s, .slice b3 r2 r2] 33 (0, 0)) := by rw [← hW10]; exact heap_alloc_new _ _
        have HBR10 := Lib.hid (HB9.out.1.up hb10)
        have HR10 := Lib.hid (below_via HR6.out (below_via H68.out h810))
        have HAR10 := Lib.hid (HAR.out.up (below_via H68.out h810))
        obtain ⟨p0, q1, q2, -, -, -⟩ := box3 (blk_via h810 HP8.out)
        obtain ⟨a0, a1', a2', -, -, -⟩ := box3 (blk_via h810 HA8.out)
        obtain ⟨c0, c1, c2, -, -, -⟩ := box3 hb10'
        have hpr := HPR.out.up (below_via H3R.out HR10.out)
        obtain ⟨lb, lo, hla, -, -, -, l0, l1, l2, l3⟩ := lab_at hpr.l HLB.out
        obtain ⟨u, hu⟩ : ∃ u, u = s - 1 := ⟨_, rfl⟩
        have hlu := HAL.out
        rw [← hu, HLB.out] at hlu
        obtain ⟨mb, mo, hma, -, -, -, m0, m1, m2, m3⟩ := lab_at HAR10.out.l hlu
        have hw1 : IntKind.i64.wrap ((s : Int) - 1) = (u : Int) := by rw [IntWalk.i64_in _ (by omega)]; omega
        have hu0 : (0 : Int) ≤ (u : Int) := by omega
        have hus : (u : Int) < (s : Int) := by omega
        have hs0 : ((s : Int) == 0) = false := by simp; omega
        have HC1 := fun W (h : Below W10.heap.size W10 W) => Lib.hid (show Calls Try.prog 38 #[.slice a2 s s, .slice b2 s s] W (Ret (.bool true) W) from nums_same HRL.out.symm (HAR10.out.up h).f (HBR10.out.up h).f (by rw [HRL.out]; omega))
        have HC2 := fun W (h : Below W10.heap.size W10 W) => Lib.hid (show Calls Try.prog 38 #[.slice a3 r2 r2, .slice b3 r2 r2] W (Ret (.bool true) W) from nums_same HR2.out (HAR10.out.up h).r (HBR10.out.up h).r (by have := HRR.out; rw [HR2.out] at this; omega))
        have heq := fun W => eqi_lab W (⟨xx.kd, xx.key, xx.v.k, xx.v.t⟩ : Lab) ⟨xx.kd, xx.key, xx.v.k, xx.v.t⟩
        simp only [decide_true] at heq
        rw [show a1 = some ⟨mb, mo, none⟩ from hma] at a0
        rw [show p1 = some ⟨lb, lo, none⟩ from hla] at p0
        have LD := Lib.hid (fun W (h : Below W10.heap.size W10 W) => And.intro (blkw h p0) (And.intro (blkw h a0) (And.intro (blkw h a1') (And.intro (blkw h a2') (And.intro (blkw h c0) (And.intro (blkw h c1) (And.intro (blkw h c2) (And.intro (blkw h l0) (And.intro (blkw h l1) (And.intro (blkw h l2) (And.intro (blkw h l3) (And.intro (blkw h m0) (And.intro (blkw h m1) (And.intro (blkw h m2) (And.intro (blkw h m3) (heq W))))))))))))))))
        clear hW10 hb10 h810 hb10' y0 y1 y2 y3 q1 q2 p0 a0 a1' a2' c0 c1 c2 l0 l1 l2 l3 m0 m1 m2 m3 heq hla hma hlu hpr hu HOB HAB HYB HP8 HA8
        refine wp_region_bl (by kernel_rfl) (by kernel_rfl) ?_
        repeat (first | go_big_quiet_skip | (go_big_quiet_want; go_big_quiet_op; first | go_big_quiet_on | (refine ⟨_, fun _ _ => (by with_reducible rfl), ?_⟩; go_big_quiet_on) | (apply Exists.intro; refine ⟨fun w' hC => (by simp only [LD.out w' hC, Result.andThen]; exact ⟨trivial, rfl⟩), ?_⟩; go_big_quiet_on) | (apply Exists.intro; refine ⟨fun w' hC => (by (with_reducible refine (HC1 w' hC).out.mono ?_); exact fun e w2 ⟨he, hb⟩ => ⟨he, hC.trans (hb.mono hC.size)⟩), ?_⟩; go_big_quiet_on) | (apply Exists.intro; refine ⟨fun w' hC => (by (with_reducible refine (HC2 w' hC).out.mono ?_); exact fun e w2 ⟨he, hb⟩ => ⟨he, hC.trans (hb.mono hC.size)⟩), ?_⟩; go_big_quiet_on)))
        refine wpQuiet_nil ?_; intro wz hbz
        have HBN := Lib.hid (below_via HBR.out (below_via HR10.out hbz))
        clear LD hbz HC1 HC2 hw1 hu0 hus hs0
        go_wp2_with fail
        exact ⟨⟨i + 1, by omega, by go_num, HBN⟩, by simp [intOf]; omega⟩
      · obtain rfl : i = n := by omega
        have hge : ¬ (i : Int) < (i : Int) := by omega
        go_wp2_with (go_at_call 13; (with_reducible refine (HLV _).out.mono ?_); rintro e w9 ⟨rfl, h9⟩)
        go_ret
        exact ⟨rfl, below_via (below_via HBW.out H3R.out) h9⟩
theorem pback_c (w : World) (x : AV) (b : Nat) (hb : b < 256) (hx : Rd w x) (hw : x.w ≤ 1048576) : Calls Try.prog 7 #[x.val, .int .u8 b] w (Ret (.bool true) w) := by
  by_cases h : 1500 < x.v.w
  · exact pback_out w x b hx hw h
  · exact pback_in w x b hb hx (by show x.v.w ≤ _; omega)
end Go.Proofs.Ytmhkacafilpliaa
