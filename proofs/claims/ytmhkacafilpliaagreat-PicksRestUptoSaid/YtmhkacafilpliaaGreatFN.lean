/-
  Chapter 29: PicksRest's walk. Conditions: the lists lie in memory, weights and lengths are bounded. (Printed by gen_fn.py.)
-/
import Derived.Test.YtmhkacafilpliaaGreatFL
namespace Go.Proofs.YtmhkacafilpliaaGreat
open Go.RowKit Go.Sort Go.Shelf Go.BigFrame

/-- The rest laid behind, as it lies. -/
def moreA (xl yl : List AV) (P : List Nat) : List AV := xl ++ P.filterMap fun i => yl[i]?
theorem moreA_v (x y : LA) (P : List Nat) : (moreA x.l y.l P).map AV.v = moreV x.v y.v P := by
  rw [moreA, moreV, List.map_append, List.map_filterMap]
  have : (fun i => Option.map AV.v y.l[i]?) = fun i => y.v[i]? := funext fun i => by rw [LA.v, List.getElem?_map]
  rw [this]
  rfl
theorem moreA_step {xl yl : List AV} {P : List Nat} {k i : Nat} {u : AV} (h : P[k]? = some i) (hu : yl[i]? = some u) : moreA xl yl (P.take (k + 1)) = moreA xl yl (P.take k) ++ [u] := by
  rw [moreA, moreA, List.take_add_one, h, List.filterMap_append, List.append_assoc]
  simp [hu]
theorem moreA_len (xl yl : List AV) (P : List Nat) : (moreA xl yl P).length ≤ xl.length + P.length := by
  rw [moreA, List.length_append]
  have := List.length_filterMap_le (fun i => yl[i]?) P
  omega
theorem moreA_mem {xl yl : List AV} {P : List Nat} {u : AV} (h : u ∈ moreA xl yl P) : u ∈ xl ∨ u ∈ yl := by
  rw [moreA, List.mem_append, List.mem_filterMap] at h
  rcases h with h | ⟨i, -, h⟩
  · exact .inl h
  · exact .inr (List.mem_of_getElem? h)
theorem prest_none (w : World) (q : LA) (hq : q.Rd w) : Calls Tryz.prog 19 #[.slice none 0 0, .slice q.a q.l.length q.c] w (fun e w' => ∃ a, e = .returned (.slice a q.l.length q.l.length) ∧ Below w.heap.size w w') := by
  have hl : (restN [] q.v q.l.length).length = q.l.length := restN_all q.v q.l.length (by rw [LA.v, List.length_map]; exact Nat.le_refl _)
  obtain ⟨p, hp⟩ : ∃ p : LA, p = ⟨none, [], 0⟩ := ⟨_, rfl⟩
  have h := prest_c w p q (by rw [hp]; exact ⟨SlE.nil, Nat.zero_le _, fun y hy => absurd hy List.not_mem_nil⟩) hq
  have hv : p.v = [] := by rw [hp]; rfl
  have h1 : p.a = none := by rw [hp]
  have h2 : p.l.length = 0 := by rw [hp]; rfl
  have h3 : p.c = 0 := by rw [hp]
  rw [hv, h1, h2, h3] at h
  refine h.mono fun e w' hh => ?_
  obtain ⟨a, he, -, hb⟩ := hh
  rw [hl] at he
  exact ⟨a, he, hb⟩
set_option maxRecDepth 100000 in
set_option maxHeartbeats 12800000 in
theorem plrest (w : World) (x y : LA) (hx : x.Rd w) (hy : y.Rd w) : Calls Tryz.prog 6 #[.slice x.a x.l.length x.c, .slice y.a y.l.length y.c] w (Ret (.bool true) w) := by
  have HLV := fun W => Lib.hid (lives29_c W)
  have hxl := hx.len
  have hyl := hy.len
  have hba := (Below.refl w.heap.size w).alloc (Nat.le_refl _) (.cells #[.slice x.a x.l.length x.c, .slice y.a y.l.length y.c] 23)
  have HG := Lib.hid (show Calls Tryz.prog 16 #[.slice (some ⟨w.heap.size, 0, none⟩) 2 2] _ (RetB _) from
    great29_c (w.alloc (.cells #[.slice x.a x.l.length x.c, .slice y.a y.l.length y.c] 23)) (some ⟨w.heap.size, 0, none⟩) 2 [x, y] ((lit_sl (enc := LA.enc) (size := 1) (l := [x, y]) (t := 23) (fr := (0, 0)) (fun _ => rfl) (heap_alloc_new w _)).widen (Nat.zero_le _) (by simp)) (fun v hv => by
      simp only [List.mem_cons, List.not_mem_nil, or_false] at hv
      rcases hv with rfl | rfl
      · exact hx.up hba
      · exact hy.up hba) (by simp))
  obtain ⟨f1, hf1⟩ : ∃ b, b = fineB x.v := ⟨_, rfl⟩
  obtain ⟨f2, hf2⟩ : ∃ b, b = fineB y.v := ⟨_, rfl⟩
  have HF1 := Lib.hid (show ∀ W, Below w.heap.size w W → Calls Tryz.prog 24 #[.slice x.a x.l.length x.c] W (Ret (.bool f1) W) from fun W h => by rw [hf1]; exact fine29_c W x (hx.up h))
  have HF2 := Lib.hid (show ∀ W, Below w.heap.size w W → Calls Tryz.prog 24 #[.slice y.a y.l.length y.c] W (Ret (.bool f2) W) from fun W h => by rw [hf2]; exact fine29_c W y (hy.up h))
  have E2 := Lib.hid hf2
  have HX := Lib.hid hx
  have HY := Lib.hid hy
  have HBA := Lib.hid hba
  clear hx hy hba hf1 hf2
  go_enter Tryz.func6, Tryz.ntmps6
  go_upto_if 24 with (first
    | (go_at_call 24; first
        | ((with_reducible refine (HF1.out _ HB.out).mono ?_); rintro e w5 ⟨rfl, h5⟩; have HB := Lib.hid (below_via HB.out h5); clear h5; cases f1)
        | ((with_reducible refine (HF2.out _ HB.out).mono ?_); rintro e w5 ⟨rfl, h5⟩; have HB := Lib.hid (below_via HB.out h5); clear h5; cases f2))
    | (go_at_call 16; refine HG.out.mono ?_; rintro e w1 ⟨g, rfl, hb1⟩; have HB := Lib.hid (below_via HBA.out hb1); clear hb1; cases g))
  · go_wp2_with (go_at_call 17; (with_reducible refine (HLV _).out.mono ?_); rintro e w9 ⟨rfl, h9⟩)
    go_ret
    exact ⟨rfl, below_via HB.out h9⟩
  · go_wp2_with (go_at_call 17; (with_reducible refine (HLV _).out.mono ?_); rintro e w9 ⟨rfl, h9⟩)
    go_ret
    exact ⟨rfl, below_via HB.out h9⟩
  rotate_left
  · go_wp2_with (go_at_call 17; (with_reducible refine (HLV _).out.mono ?_); rintro e w9 ⟨rfl, h9⟩)
    go_ret
    exact ⟨rfl, below_via HB.out h9⟩
  have hx := HX.out
  have hy := HY.out
  have my := fineB_yes E2.out.symm
  have hyv : y.v.length = y.l.length := by rw [LA.v, List.length_map]
  obtain ⟨P, hP⟩ : ∃ P, P = restN x.v y.v y.l.length := ⟨_, rfl⟩
  have hPl : P.length ≤ y.l.length := by rw [hP]; exact restN_len _ _ _
  have HPL := Lib.hid (show ∀ k i : Nat, P[k]? = some i → i < y.l.length from fun k i h => by rw [hP] at h; exact (restN_get h).1)
  have HPR := Lib.hid (show ∀ k i j : Nat, P[k]? = some i → P[k + 1]? = some j → i < j from fun k i j h h' => by rw [hP] at h h'; exact restN_rise h h')
  have HRE := Lib.hid (show Calls Tryz.prog 19 #[.slice x.a x.l.length x.c, .slice y.a y.l.length y.c] _ (RestPost P _) from by rw [hP]; exact prest_c _ x y (hx.rw.up HB.out) (hy.up HB.out))
  have HRS := Lib.hid (show ∀ W, Below w.heap.size w W → Calls Tryz.prog 19 #[.slice y.a y.l.length y.c, .slice y.a y.l.length y.c] W (RestPost [] W) from fun W h => by
    have := prest_c W y y (hy.rw.up h) (hy.up h)
    have e : restN y.v y.v y.l.length = [] := by rw [← hyv]; exact restN_self my
    rwa [e] at this)
  have HRN := Lib.hid (show ∀ W, Below w.heap.size w W → Calls Tryz.prog 19 #[.slice none 0 0, .slice y.a y.l.length y.c] W (fun e w' => ∃ a, e = .returned (.slice a y.l.length y.l.length) ∧ Below W.heap.size W w') from fun W h => by
    exact prest_none W y (hy.up h))
  have HRM := Lib.hid (show ∀ (W : World) (a : Option Addr) (c : Nat), Below w.heap.size w W → SlE AV.enc 4 W 0 W.heap.size a (moreA x.l y.l P) → Calls Tryz.prog 19 #[.slice a (moreA x.l y.l P).length c, .slice y.a y.l.length y.c] W (RestPost [] W) from fun W a c h hs => by
    have h1 := moreA_len x.l y.l P
    have := prest_c W ⟨a, moreA x.l y.l P, c⟩ y ⟨hs, by show (moreA x.l y.l P).length ≤ _; omega, fun u hu => by
      rcases moreA_mem hu with hu | hu
      · exact (hx.up h).kids u hu
      · exact (hy.up h).kids u hu⟩ (hy.up h)
    have e : restN (LA.v ⟨a, moreA x.l y.l P, c⟩) y.v y.l.length = [] := by rw [show (LA.v ⟨a, moreA x.l y.l P, c⟩) = moreV x.v y.v P from moreA_v x y P, hP, ← hyv]; exact restN_more my
    rwa [e] at this)
  have HAL := Lib.hid (show ∀ (i : Nat) (v : AV), y.l[i]? = some v → ∃ (k : Nat) (u : AV), (moreA x.l y.l P)[k]? = some u ∧ sameV u.v v.v = true from fun i v h => by
    have h1 := more_has (L := x.v) my (i := i) (v := v.v) (by rw [LA.v, List.getElem?_map, h]; rfl)
    rw [hyv, ← hP, ← moreA_v, hasV, List.any_eq_true] at h1
    obtain ⟨z, hz, hs⟩ := h1
    obtain ⟨u, hu, rfl⟩ := List.mem_map.1 hz
    obtain ⟨k, hk⟩ := List.mem_iff_getElem?.1 hu
    exact ⟨k, u, hk, by rw [sameV_sym]; exact hs⟩)
  have HAR := Lib.hid (show ∀ (W : World) (u : AV), Below w.heap.size w W → u ∈ moreA x.l y.l P → Rd W u ∧ u.w ≤ 1048576 from fun W u h hu => by
    rcases moreA_mem hu with hu | hu
    · exact (hx.up h).kids u hu
    · exact (hy.up h).kids u hu)
  clear hP hyv my hx hy HF1 HF2 HG HBA E2
  go_upto_region 6 with (first
    | (at_builtin; refine wl_append (s := .const (.slice none 0 0)) (x := .tmp 29) rfl rfl (hrun _) ?_; clear hrun)
    | (go_at_call 19; refine HRE.out.mono ?_; rintro e w5 ⟨ap, rfl, hsl, hb5⟩
       have HB5 := Lib.hid (below_via HB.out hb5)
       have HSP := Lib.hid (hsl.widen (Nat.zero_le _) (Nat.le_refl _))
       obtain ⟨v0, W0, hrun, hown0, hgr, -⟩ := app_val (w := w5) (base := w5.heap.size) (v := .slice none 0 0) (l := []) (c := x.c) (World.ownsRow_nil _ _ _ _) (HX.out.up HB5.out).sl (by simp; omega) (Nat.le_refl _)
       rw [List.nil_append, show x.l = moreA x.l y.l (P.take 0) by simp [moreA]] at hown0
       obtain ⟨a0, c0, rfl⟩ := own_formE hown0
       have HO0 := Lib.hid hown0
       have HW0 := Lib.hid (below_of_grown hgr (Nat.le_refl _) fun k hk => by cases hk)
       clear hown0 hgr hsl hb5))
  clear HRE
  go_loopw [6, 7] (fun s6 s7 wr => ∃ (k : Nat) (a : Option Addr) (c : Nat), k ≤ P.length ∧ s7 = .int .i64 (k : Int) ∧ s6 = .slice a (moreA x.l y.l (P.take k)).length c ∧ Hid (OwnV wr w5.heap.size (.slice a (moreA x.l y.l (P.take k)).length c) (moreA x.l y.l (P.take k))) ∧ Hid (Below w5.heap.size w5 wr)) (fun _ s7 _ => P.length - (intOf s7).toNat)
  case atStart => exact ⟨0, a0, c0, Nat.zero_le _, rfl, rfl, HO0, HW0⟩
  case round =>
    obtain ⟨k, a, c, hk, rfl, rfl, HO, HBR⟩ := hrel
    by_cases hlt : k < P.length
    · have hks : P[k]? = some P[k] := List.getElem?_eq_getElem hlt
      generalize P[k] = i at *
      have hi := HPL.out k i hks
      have hiy : y.l[i]? = some y.l[i] := List.getElem?_eq_getElem hi
      generalize y.l[i] = u at *
      obtain ⟨b, off, hap, -, -, -, c0⟩ := nat_at (HSP.out.up HBR.out) hks
      have HBW := Lib.hid (below_via HB5.out HBR.out)
      obtain ⟨b2, off2, hla, -, -, -, d0, d1, d2, d3⟩ := vals_at (HY.out.up HBW.out).sl hiy
      have hlen := moreA_len x.l y.l (P.take k)
      have htk : (P.take k).length ≤ k := by rw [List.length_take]; omega
      have HL := Lib.hid (show (moreA x.l y.l (P.take k)).length + 1 ≤ 16777216 by omega)
      clear hlen htk
      have HST := Lib.hid (moreA_step (xl := x.l) hks hiy)
      have hi0 : ¬ (i : Int) < 0 := by omega
      have hil : (i : Int) < (y.l.length : Int) := by omega
      have hig : ¬ (y.l.length : Int) ≤ (i : Int) := by omega
      have hlt' : (k : Int) < (P.length : Int) := by omega
      have hk0 : (0 : Int) ≤ (k : Int) := by omega
      have di0 : decide ((i : Int) < 0) = false := decide_eq_false hi0
      have dig : decide ((y.l.length : Int) ≤ (i : Int)) = false := decide_eq_false hig
      clear hiy
      by_cases hkz : k = 0
      · subst hkz
        rw [Nat.add_zero] at c0
        rw [hap, hla]
        clear hap hla hks
        go_upto_region 8 with fail
        have LD := Lib.hid (fun W (h : Below wr.heap.size wr W) => blkv h c0)
        refine wp_region_bl (by kernel_rfl) (by kernel_rfl) ?_
        repeat (first | go_big_quiet_skip | (go_big_quiet_want; go_big_quiet_op; first | go_big_quiet_on | (refine ⟨_, fun _ _ => (by with_reducible rfl), ?_⟩; go_big_quiet_on) | (apply Exists.intro; refine ⟨fun w' hC => (by simp only [LD.out w' hC, Result.andThen]; exact ⟨trivial, rfl⟩), ?_⟩; go_big_quiet_on)))
        refine wpQuiet_nil ?_; intro wz hbz
        have HBZ := Lib.hid (HBR.out.trans (hbz.mono HBR.out.size))
        have HOZ := Lib.hid (own_below HO.out hbz)
        have cz := blkv hbz c0
        have z0 := blkv hbz d0
        have z1 := blkv hbz d1
        have z2 := blkv hbz d2
        have z3 := blkv hbz d3
        clear LD hbz c0 d0 d1 d2 d3
        have hz := HBZ.out.size
        have hlit : SlE AV.enc 4 (wz.alloc (.cells #[.int .u8 u.k, .string u.t, .slice u.la u.l.length u.lc, .slice u.ka u.ks.length u.kc] 26)) wz.heap.size (wz.heap.size + 1) (some ⟨wz.heap.size, 0, none⟩) [u] := lit_sl (enc := AV.enc) (size := 4) (l := [u]) (t := 26) (fr := (0, 0)) AV.enc_len (heap_alloc_new _ _)
        obtain ⟨v', W', hrun, hown', hgr, -⟩ := app_val (c := 1) (own_below HOZ.out ((Below.refl _ _).alloc (Nat.le_refl _) (.cells #[.int .u8 u.k, .string u.t, .slice u.la u.l.length u.lc, .slice u.ka u.ks.length u.kc] 26))) hlit HL.out (by simp; omega)
        rw [← HST.out] at hown'
        obtain ⟨a', c', rfl⟩ := own_formE hown'
        have hb2 : Below w5.heap.size w5 W' := (HBZ.out.trans ((Below.refl _ _).alloc hz _)).grown hgr (by simp; omega) (fun q hq => (HOZ.out.lt q hq).1)
        have HOW' := Lib.hid hown'
        have HB2 := Lib.hid hb2
        simp only [List.length_singleton] at hrun
        clear hlit hown' hgr hb2 hz
        go_wp2_with (at_builtin; refine wl_append (s := .tmp 67) (x := .tmp 75) rfl rfl (hrun _) ?_; clear hrun)
        exact ⟨⟨0 + 1, a', c', by omega, by go_num, rfl, HOW', HB2⟩, by simp [intOf]; omega⟩
      · obtain ⟨j, rfl⟩ : ∃ j, k = j + 1 := ⟨k - 1, by omega⟩
        have hj : j < P.length := by omega
        have hjs : P[j]? = some P[j] := List.getElem?_eq_getElem hj
        have hr := HPR.out j _ i hjs hks
        obtain ⟨b', off', hap', -, -, -, e0⟩ := nat_at (HSP.out.up HBR.out) hjs
        rw [hap] at hap'
        injection hap' with hap'
        injection hap' with q1 q2
        subst q1
        subst q2
        generalize P[j] = i0 at *
        have hii : ¬ (i : Int) ≤ (i0 : Int) := by omega
        have hjp : (0 : Int) < ((j + 1 : Nat) : Int) := by omega
        have hjl : (j : Int) < (P.length : Int) := by omega
        rw [hap, hla]
        clear hap hla hks hjs
        go_upto_region 8 with fail
        have LD := Lib.hid (fun W (h : Below wr.heap.size wr W) => And.intro (blkv h c0) (blkv h e0))
        refine wp_region_bl (by kernel_rfl) (by kernel_rfl) ?_
        repeat (first | go_big_quiet_skip | (go_big_quiet_want; go_big_quiet_op; first | go_big_quiet_on | (refine ⟨_, fun _ _ => (by with_reducible rfl), ?_⟩; go_big_quiet_on) | (apply Exists.intro; refine ⟨fun w' hC => (by simp only [LD.out w' hC, Result.andThen]; exact ⟨trivial, rfl⟩), ?_⟩; go_big_quiet_on)))
        refine wpQuiet_nil ?_; intro wz hbz
        have HBZ := Lib.hid (HBR.out.trans (hbz.mono HBR.out.size))
        have HOZ := Lib.hid (own_below HO.out hbz)
        have cz := blkv hbz c0
        have z0 := blkv hbz d0
        have z1 := blkv hbz d1
        have z2 := blkv hbz d2
        have z3 := blkv hbz d3
        clear LD hbz c0 d0 d1 d2 d3
        have hz := HBZ.out.size
        have hlit : SlE AV.enc 4 (wz.alloc (.cells #[.int .u8 u.k, .string u.t, .slice u.la u.l.length u.lc, .slice u.ka u.ks.length u.kc] 26)) wz.heap.size (wz.heap.size + 1) (some ⟨wz.heap.size, 0, none⟩) [u] := lit_sl (enc := AV.enc) (size := 4) (l := [u]) (t := 26) (fr := (0, 0)) AV.enc_len (heap_alloc_new _ _)
        obtain ⟨v', W', hrun, hown', hgr, -⟩ := app_val (c := 1) (own_below HOZ.out ((Below.refl _ _).alloc (Nat.le_refl _) (.cells #[.int .u8 u.k, .string u.t, .slice u.la u.l.length u.lc, .slice u.ka u.ks.length u.kc] 26))) hlit HL.out (by simp; omega)
        rw [← HST.out] at hown'
        obtain ⟨a', c', rfl⟩ := own_formE hown'
        have hb2 : Below w5.heap.size w5 W' := (HBZ.out.trans ((Below.refl _ _).alloc hz _)).grown hgr (by simp; omega) (fun q hq => (HOZ.out.lt q hq).1)
        have HOW' := Lib.hid hown'
        have HB2 := Lib.hid hb2
        simp only [List.length_singleton] at hrun
        clear hlit hown' hgr hb2 hz
        go_wp2_with (at_builtin; refine wl_append (s := .tmp 67) (x := .tmp 75) rfl rfl (hrun _) ?_; clear hrun)
        exact ⟨⟨j + 1 + 1, a', c', by omega, by go_num, rfl, HOW', HB2⟩, by simp [intOf]; omega⟩
    · obtain rfl : k = P.length := by omega
      have hge : ¬ (P.length : Int) < (P.length : Int) := by omega
      rw [List.take_length] at HO ⊢
      obtain ⟨AA, hAA⟩ : ∃ AA, AA = moreA x.l y.l P := ⟨_, rfl⟩
      rw [← hAA] at HO HRM HAL HAR ⊢
      have hal : AA.length ≤ 4194304 := by
        have := moreA_len x.l y.l P
        rw [hAA]
        omega
      have HSA := Lib.hid (show SlE AV.enc 4 wr 0 wr.heap.size a AA from (own_sl AV.enc_len HO.out).widen (Nat.zero_le _) (Nat.le_refl _))
      have HBW := Lib.hid (below_via HB5.out HBR.out)
      clear hAA HO HBR hge hk HSP HPL HPR HO0 HW0 hlt
      obtain ⟨W1, hW1⟩ : ∃ W, W = wr := ⟨_, rfl⟩
      subst hW1
      go_upto_region 12 with fail
      go_loopw [8] (fun s8 wr => ∃ m : Nat, m ≤ y.l.length ∧ s8 = .int .i64 (m : Int) ∧ Hid (Below W1.heap.size W1 wr)) (fun s8 _ => y.l.length - (intOf s8).toNat)
      case atStart => exact ⟨0, Nat.zero_le _, rfl, Lib.hid (Below.refl _ _)⟩
      case round =>
        obtain ⟨m, hm, rfl, HBQ⟩ := hrel
        by_cases hlm : m < y.l.length
        · have hms : y.l[m]? = some y.l[m] := List.getElem?_eq_getElem hlm
          generalize y.l[m] = v at *
          have hlm' : (m : Int) < (y.l.length : Int) := by omega
          have hm0 : (0 : Int) ≤ (m : Int) := by omega
          have HMS := Lib.hid hms
          clear hms
          go_upto_region 16 with fail
          go_loopw [9, 10] (fun s9 s10 wr => ∃ (k : Nat) (h : Bool), k ≤ AA.length ∧ s10 = .int .i64 (k : Int) ∧ s9 = .bool h ∧ Hid (Below W1.heap.size W1 wr) ∧ Hid (∀ (j : Nat) (u : AV), j < k → AA[j]? = some u → sameV u.v v.v = true → h = true)) (fun _ s10 _ => AA.length - (intOf s10).toNat)
          case atStart => exact ⟨0, false, Nat.zero_le _, rfl, rfl, HBQ, Lib.hid (fun j u h => absurd h (Nat.not_lt_zero _))⟩
          case round =>
            obtain ⟨k, h, hk, rfl, rfl, HBI, HH⟩ := hrel
            by_cases hlt : k < AA.length
            · have hks : AA[k]? = some AA[k] := List.getElem?_eq_getElem hlt
              generalize AA[k] = u at *
              have hlt' : (k : Int) < (AA.length : Int) := by omega
              have hk0 : (0 : Int) ≤ (k : Int) := by omega
              cases h with
              | true =>
                clear hks
                go_upto_region 18 with fail
                refine wp_region_bl (by kernel_rfl) (by kernel_rfl) ?_
                repeat (first | go_big_quiet_skip | (go_big_quiet_want; go_big_quiet_op; first | go_big_quiet_on | (refine ⟨_, fun _ _ => (by with_reducible rfl), ?_⟩; go_big_quiet_on)))
                refine wpQuiet_nil ?_; intro wz hbz
                have HBZ := Lib.hid (below_via HBI.out hbz)
                clear hbz
                go_wp2_with fail
                exact ⟨⟨k + 1, true, by omega, by go_num, rfl, HBZ, Lib.hid (fun _ _ _ _ _ => rfl)⟩, by simp [intOf]; omega⟩
              | false =>
                obtain ⟨ru, wu⟩ := HAR.out wr u (below_via HBW.out HBI.out) (List.mem_of_getElem? hks)
                obtain ⟨rv, wv⟩ := (HY.out.up (below_via HBW.out HBI.out)).kids v (List.mem_of_getElem? HMS.out)
                obtain ⟨b, off, hla, -, -, -, k1, k2, k3, k4⟩ := vals_at (HSA.out.up HBI.out) hks
                obtain ⟨b2, off2, hla2, -, -, -, m1, m2, m3, m4⟩ := vals_at (HY.out.up (below_via HBW.out HBI.out)).sl HMS.out
                obtain ⟨s, hs⟩ : ∃ s, s = sameV u.v v.v := ⟨_, rfl⟩
                have HC := fun W (h : Below wr.heap.size wr W) => Lib.hid (show Calls Tryz.prog 25 #[u.val, v.val] W (Ret (.bool s) W) by rw [hs]; exact same_c u v W (ru.up h) (rv.up h) wu wv)
                have HS := Lib.hid hs
                have HKS := Lib.hid hks
                rw [hla, hla2]
                clear hla hla2 hks hs ru rv
                go_upto_region 18 with fail
                have LD := Lib.hid (fun W (h : Below wr.heap.size wr W) => And.intro (blkv h k1) (And.intro (blkv h k2) (And.intro (blkv h k3) (And.intro (blkv h k4) (And.intro (blkv h m1) (And.intro (blkv h m2) (And.intro (blkv h m3) (blkv h m4))))))))
                clear k1 k2 k3 k4 m1 m2 m3 m4
                refine wp_region_bl (by kernel_rfl) (by kernel_rfl) ?_
                repeat (first | go_big_quiet_skip | (go_big_quiet_want; go_big_quiet_op; first | go_big_quiet_on | (refine ⟨_, fun _ _ => (by with_reducible rfl), ?_⟩; go_big_quiet_on) | (apply Exists.intro; refine ⟨fun w' hC => (by simp only [LD.out w' hC, Result.andThen]; exact ⟨trivial, rfl⟩), ?_⟩; go_big_quiet_on) | (apply Exists.intro; refine ⟨fun w' hC => (by (with_reducible refine (HC w' hC).out.mono ?_); exact fun e w2 ⟨he, hb⟩ => ⟨he, hC.trans (hb.mono hC.size)⟩), ?_⟩; go_big_quiet_on)))
                refine wpQuiet_nil ?_; intro wz hbz
                have HBZ := Lib.hid (below_via HBI.out hbz)
                clear hbz LD
                go_wp2_with fail
                exact ⟨⟨k + 1, s, by omega, by go_num, rfl, HBZ, Lib.hid (fun j u' hj hu hss => by
                  by_cases hjk : j < k
                  · exact absurd (HH.out j u' hjk hu hss) Bool.false_ne_true
                  · obtain rfl : j = k := by omega
                    rw [HKS.out] at hu
                    injection hu with hu
                    subst hu
                    exact HS.out.trans hss)⟩, by simp [intOf]; omega⟩
            · obtain rfl : k = AA.length := by omega
              have hge : ¬ (AA.length : Int) < (AA.length : Int) := by omega
              obtain rfl : h = true := by
                obtain ⟨j, u, hu, hss⟩ := HAL.out m v HMS.out
                exact HH.out j u (List.getElem?_eq_some_iff.1 hu).1 hu hss
              go_wp2_with fail
              exact ⟨⟨m + 1, by omega, by go_num, HBI⟩, by simp [intOf]; omega⟩
        · obtain rfl : m = y.l.length := by omega
          have hge : ¬ (y.l.length : Int) < (y.l.length : Int) := by omega
          have HBE := Lib.hid (below_via HBW.out HBQ.out)
          have HRX := Lib.hid (HRM.out wr a c HBE.out (HSA.out.up HBQ.out))
          go_wp2_with (first
            | (go_at_call 17; (with_reducible refine (HLV _).out.mono ?_); rintro e w9 ⟨rfl, h9⟩)
            | (have kq := HE2; go_at_call 19; (with_reducible refine (HRN.out _ HE2.out).mono ?_); rintro e w8 ⟨a3, rfl, h8⟩; have HE3 := Lib.hid (below_via HE2.out h8); clear h8)
            | (have kq := HE1; go_at_call 19; (with_reducible refine (HRS.out _ HE1.out).mono ?_); rintro e w7 ⟨a2, rfl, -, h7⟩; have HE2 := Lib.hid (below_via HE1.out h7); clear h7)
            | (go_at_call 19; (with_reducible refine HRX.out.mono ?_); rintro e w6 ⟨a1, rfl, -, h6⟩; have HE1 := Lib.hid (below_via HBE.out h6); clear h6))
          go_ret
          exact ⟨rfl, below_via HE3.out h9⟩
end Go.Proofs.YtmhkacafilpliaaGreat
