/-
  EditsOne's walk. Conditions: the list lies in memory, its weights and the length are bounded, so is the text. (Printed by gen_ez.py.)
-/
import Derived.Test.YtmhkacafilpliaaEW
import Derived.Test.YtmhkacafilpliaaEJ
import Derived.Test.YtmhkacafilpliaaED
namespace Go.Proofs.Ytmhkacafilpliaa
open Go.RowKit Go.Sort Go.Shelf Go.BigFrame

theorem FR129 : List.range 129 = [0, 1, 2, 3, 4, 5, 6, 7, 8, 9, 10, 11, 12, 13, 14, 15, 16, 17, 18, 19, 20, 21, 22, 23, 24, 25, 26, 27, 28, 29, 30, 31, 32, 33, 34, 35, 36, 37, 38, 39, 40, 41, 42, 43, 44, 45, 46, 47, 48, 49, 50, 51, 52, 53, 54, 55, 56, 57, 58, 59, 60, 61, 62, 63, 64, 65, 66, 67, 68, 69, 70, 71, 72, 73, 74, 75, 76, 77, 78, 79, 80, 81, 82, 83, 84, 85, 86, 87, 88, 89, 90, 91, 92, 93, 94, 95, 96, 97, 98, 99, 100, 101, 102, 103, 104, 105, 106, 107, 108, 109, 110, 111, 112, 113, 114, 115, 116, 117, 118, 119, 120, 121, 122, 123, 124, 125, 126, 127, 128] := rfl
theorem listV_wq (l : List AV) : (listV (l.map AV.v)).w = 1 + (l.map AV.w).sum := by
  rw [listV_w, List.map_map]; rfl
theorem textU_w (s : ByteArray) : (textU s).w = 1 + s.size := by
  rw [Val.w_eq]; simp [textU]
/-- A text, as it lies. -/
def textA (s : ByteArray) : AV := ⟨3, s, none, 0, [], none, 0, []⟩
theorem textA_v (s : ByteArray) : (textA s).v = textU s := by rw [AV.v_eq]; rfl
theorem textA_rd (s : ByteArray) (W : World) : Rd W (textA s) := .mk SlE.nil SlE.nil (by simp [textA]) fun y hy => absurd hy List.not_mem_nil
/-- How far the values of EditsOne are apart. -/
theorem one_facts {l : List Val} {s : ByteArray} (hm : (listV l).may = true) (hs : szV (listV l) ≤ 60) :
    farI (listV l) (listV [listV l]) = 1 ∧ farI (listV l) (listV (l ++ [textU s])) = 1 ∧ farI (listV (l ++ [textU s])) (listV l) = 1 ∧ ∃ d : Nat, d ≤ 2 ∧ farI (listV [listV l]) (listV (l ++ [textU s])) = (d : Int) := by
  have e0 : szV (listV l) = (listV l).size := by rw [szV, hm]; rfl
  have p0 : 0 < (listV l).size := size_pos _
  obtain ⟨m1, z1, f1⟩ := far_around hm (by omega)
  obtain ⟨m2, z2, f2⟩ := far_behind hm s
  have e1 : szV (listV [listV l]) = (listV l).size + 1 := by rw [szV, m1]; exact z1
  have e2 : szV (listV (l ++ [textU s])) = (listV l).size + 1 := by rw [szV, m2]; exact z2
  obtain ⟨n, hn⟩ : ∃ n, n = (listV l).size := ⟨_, rfl⟩
  rw [← hn] at e0 e1 e2 p0
  have hq : ∀ a b, a ≤ 61 → b ≤ 61 → a * b ≤ 61 * 61 := fun a b h1 h2 => Nat.mul_le_mul h1 h2
  have g : ∀ a b : Val, szV a ≤ 61 → szV b ≤ 61 → 0 < szV a → 0 < szV b → farI a b = (farV a b : Nat) := fun a b h1 h2 h3 h4 => farI_yes (by omega) (by omega) (by omega) (by have := hq _ _ h1 h2; omega)
  refine ⟨?_, ?_, ?_, farV (listV [listV l]) (listV (l ++ [textU s])), ?_, ?_⟩
  · rw [g _ _ (by omega) (by omega) (by omega) (by omega), f1]; rfl
  · rw [g _ _ (by omega) (by omega) (by omega) (by omega), f2]; rfl
  · rw [g _ _ (by omega) (by omega) (by omega) (by omega), farV_symm, f2]; rfl
  · have := farV_tri (listV [listV l]) (listV l) (listV (l ++ [textU s]))
    rw [f2, farV_symm (listV [listV l]) (listV l), f1] at this
    exact this
  · exact g _ _ (by omega) (by omega) (by omega) (by omega)
theorem set_facts {l1 l2 : List Val} {c : Val} {s : ByteArray} (hm : (listV (l1 ++ c :: l2)).may = true) (hs : szV (listV (l1 ++ c :: l2)) ≤ 60) (h7 : c.k ≠ 7) (h8 : c.k ≠ 8) (hn : sameV c (textU s) = false) :
    farI (listV (l1 ++ c :: l2)) (listV (l1 ++ textU s :: l2)) = 1 ∧ ∃ d : Nat, d ≤ 2 ∧ farI (listV (l1 ++ textU s :: l2)) (listV ((l1 ++ c :: l2) ++ [textU s])) = (d : Int) := by
  have e0 : szV (listV (l1 ++ c :: l2)) = (listV (l1 ++ c :: l2)).size := by rw [szV, hm]; rfl
  have p0 : 0 < (listV (l1 ++ c :: l2)).size := size_pos _
  obtain ⟨m1, z1, f1⟩ := far_scalar hm h7 h8 hn
  obtain ⟨m2, z2, f2⟩ := far_behind hm s
  have e1 : szV (listV (l1 ++ textU s :: l2)) = (listV (l1 ++ c :: l2)).size := by rw [szV, m1]; exact z1
  have e2 : szV (listV ((l1 ++ c :: l2) ++ [textU s])) = (listV (l1 ++ c :: l2)).size + 1 := by rw [szV, m2]; exact z2
  obtain ⟨n, hn⟩ : ∃ n, n = (listV (l1 ++ c :: l2)).size := ⟨_, rfl⟩
  rw [← hn] at e0 e1 e2 p0
  have hq : ∀ a b, a ≤ 61 → b ≤ 61 → a * b ≤ 61 * 61 := fun a b h1 h2 => Nat.mul_le_mul h1 h2
  have g : ∀ a b : Val, szV a ≤ 61 → szV b ≤ 61 → 0 < szV a → 0 < szV b → farI a b = (farV a b : Nat) := fun a b h1 h2 h3 h4 => farI_yes (by omega) (by omega) (by omega) (by have := hq _ _ h1 h2; omega)
  refine ⟨?_, farV (listV (l1 ++ textU s :: l2)) (listV ((l1 ++ c :: l2) ++ [textU s])), ?_, ?_⟩
  · rw [g _ _ (by omega) (by omega) (by omega) (by omega), f1]; rfl
  · have := farV_tri (listV (l1 ++ textU s :: l2)) (listV (l1 ++ c :: l2)) (listV ((l1 ++ c :: l2) ++ [textU s]))
    rw [f2, farV_symm (listV (l1 ++ textU s :: l2)) (listV (l1 ++ c :: l2)), f1] at this
    exact this
  · exact g _ _ (by omega) (by omega) (by omega) (by omega)
/-- One element of a row that is written. -/
theorem sl_set4 {w : World} {lo hi b off i : Nat} {l : List AV} {s : AV} (h : SlE AV.enc 4 w lo hi (some ⟨b, off, none⟩) l) (hil : i < l.length) :
    SlE AV.enc 4 ((((w.setCell ⟨b, off + i * 4, none⟩ (.int .u8 s.k)).setCell ⟨b, off + i * 4 + 1, none⟩ (.string s.t)).setCell ⟨b, off + i * 4 + 2, none⟩ (.slice s.la s.l.length s.lc)).setCell ⟨b, off + i * 4 + 3, none⟩ (.slice s.ka s.ks.length s.kc)) lo hi (some ⟨b, off, none⟩) (l.set i s) := fun hl => by
  rw [List.length_set] at hl
  obtain ⟨b', off', e, h1, h2, h3, h4⟩ := h hl
  injection e with e
  injection e with e1 e2
  subst e1
  subst e2
  obtain ⟨A, hA⟩ : ∃ A, A = off + i * 4 := ⟨_, rfl⟩
  rw [← hA]
  have hc := h4 i l[i] (List.getElem?_eq_getElem hil)
  rw [← hA] at hc
  have c0 := hc 0 _ rfl
  have c1 := hc 1 _ rfl
  have c2 := hc 2 _ rfl
  have c3 := hc 3 _ rfl
  rw [Nat.add_zero] at c0
  have key : ∀ q, ((((w.setCell ⟨b, A, none⟩ (.int .u8 s.k)).setCell ⟨b, A + 1, none⟩ (.string s.t)).setCell ⟨b, A + 2, none⟩ (.slice s.la s.l.length s.lc)).setCell ⟨b, A + 3, none⟩ (.slice s.ka s.ks.length s.kc)).cell? ⟨b, q, none⟩ =
      if q = A + 3 then some (.slice s.ka s.ks.length s.kc) else if q = A + 2 then some (.slice s.la s.l.length s.lc) else if q = A + 1 then some (.string s.t) else if q = A then some (.int .u8 s.k) else w.cell? ⟨b, q, none⟩ := fun q => by
    have k1 := fun q => cell1 (v := .int .u8 s.k) c0 q
    have d1 := (k1 (A + 1)).trans ((if_neg (by omega)).trans c1)
    have k2 := fun q => cell1 (v := .string s.t) d1 q
    have d2 := (k2 (A + 2)).trans ((if_neg (by omega)).trans ((k1 (A + 2)).trans ((if_neg (by omega)).trans c2)))
    have k3 := fun q => cell1 (v := .slice s.la s.l.length s.lc) d2 q
    have d3 := (k3 (A + 3)).trans ((if_neg (by omega)).trans ((k2 (A + 3)).trans ((if_neg (by omega)).trans ((k1 (A + 3)).trans ((if_neg (by omega)).trans c3)))))
    rw [cell1 d3 q, k3, k2, k1]
  refine ⟨b, off, rfl, h1, h2, by simpa using h3, fun j x hx => ?_⟩
  intro p v hv
  have hp : p < 4 := by have := (List.getElem?_eq_some_iff.1 hv).1; simpa [AV.enc] using this
  rw [key]
  by_cases hj : j = i
  · subst hj
    rw [List.getElem?_set_self hil] at hx
    injection hx with hx
    subst hx
    match p, hp with
    | 0, _ => rw [if_neg (by omega), if_neg (by omega), if_neg (by omega), if_pos (by omega)]; exact hv
    | 1, _ => rw [if_neg (by omega), if_neg (by omega), if_pos (by omega)]; exact hv
    | 2, _ => rw [if_neg (by omega), if_pos (by omega)]; exact hv
    | 3, _ => rw [if_pos (by omega)]; exact hv
  · rw [List.getElem?_set_ne (fun e => hj e.symm)] at hx
    have hne : ∀ d, d < 4 → off + j * 4 + p ≠ A + d := fun d hd => by omega
    rw [if_neg (hne 3 (by omega)), if_neg (hne 2 (by omega)), if_neg (hne 1 (by omega)), if_neg (by have := hne 0 (by omega); omega)]
    exact h4 j x hx p v hv
def GLz (vV vW : Val) (d2 : Nat) : List (Value → World → Prop) := [GotA (vV), GotA (vV), GotS [vV], GotA (listV [vV]), GI 1, GB false, GB false, GotA (vV), GotA (vW), GI 1, GB false, GB false, GB false, GotA (vW), GotA (vV), GI 1, GB false, GB false, GB false, GotA (vV), GotS [vV], GotA (listV [vV]), GotA (vW), GI (d2 : Int), GB false, GB false]
theorem GLz_stab : ∀ (vV vW : Val) (d2 : Nat), ∀ g ∈ GLz vV vW d2, Stab g := by
  intro vV vW d2
  unfold GLz
  repeat (first | exact fun _ h => absurd h List.not_mem_nil | refine List.forall_mem_cons.2 ⟨by first | exact stab_A _ | exact stab_S _ | exact stab_B _ | exact stab_I _ | exact stab_K _, ?_⟩)
theorem GLz_up (vV vW : Val) (d2 : Nat) (i : Nat) (v : Value) (w w' : World) (hb : Below w.heap.size w w') (h : (GLz vV vW d2).getD i (fun _ _ => True) v w) : (GLz vV vW d2).getD i (fun _ _ => True) v w' := by
  rw [List.getD_eq_getElem?_getD] at h ⊢
  cases hg : (GLz vV vW d2)[i]? with
  | none => trivial
  | some g => rw [hg] at h; exact GLz_stab vV vW d2 g (List.mem_of_getElem? hg) v w w' hb h
set_option maxRecDepth 100000 in
set_option maxHeartbeats 12800000 in
theorem eone (w : World) (l : LA) (at0 : Nat) (tx : ByteArray) (hat0 : at0 < 256) (hl : l.Rd w) (hs : (l.l.map AV.w).sum + tx.size + 1 ≤ 1048576) :
    Calls Try.prog 9 #[.slice l.a l.l.length l.c, .int .u8 (at0 : Int), .string tx] w (Ret (.bool true) w) := by
  have HLI := fun W => Lib.hid (lives20_c W)
  have HSL := Lib.hid (show ∀ W, Below w.heap.size w W → SlE AV.enc 4 W 0 W.heap.size l.a l.l from fun W h => hl.sl.up h)
  have HKD := Lib.hid (show ∀ z ∈ l.l, (∀ W, Below w.heap.size w W → Rd W z) ∧ z.w ≤ 1048576 from fun z hz => ⟨fun W h => (hl.kids z hz).1.up h, (hl.kids z hz).2⟩)
  have HSM := Lib.hid hs
  have htl : tx.size ≤ 1048576 := by omega
  have hll := hl.len
  clear hl hs
  go_enter Try.func9, Try.ntmps9
  go_upto_region 1 with fail
  go_cut [28] (fun s28 wx => ∃ b : Bool, s28 = .bool b ∧ Hid (Below w.heap.size w wx) ∧ Hid (b = false → l.l.length ≠ 0 ∧ l.l.length ≤ 10 ∧ tx.size ≤ 60))
  case first =>
    by_cases n0 : l.l.length = 0
    · have n0' : ((l.l.length : Int) == 0) = true := by simp [n0]
      have HN0 := Lib.hid n0
      clear n0
      go_wp2_with fail
      go_meet
      exact ⟨true, rfl, Lib.hid (Below.refl _ _), Lib.hid (fun h => by cases h)⟩
    have n0' : ((l.l.length : Int) == 0) = false := by simp [n0]
    have HN0 := Lib.hid n0
    clear n0
    by_cases n1 : 10 < l.l.length
    · have n1' : (10 : Int) < (l.l.length : Int) := by omega
      go_wp2_with fail
      go_meet
      exact ⟨true, rfl, Lib.hid (Below.refl _ _), Lib.hid (fun h => by cases h)⟩
    have n1' : ¬ (10 : Int) < (l.l.length : Int) := by omega
    by_cases n2 : 60 < tx.size
    · have n2' : (60 : Int) < (tx.size : Int) := by omega
      go_wp2_with fail
      go_meet
      exact ⟨true, rfl, Lib.hid (Below.refl _ _), Lib.hid (fun h => by cases h)⟩
    have n2' : ¬ (60 : Int) < (tx.size : Int) := by omega
    have HN := Lib.hid (And.intro HN0.out (And.intro n1 n2))
    clear n1 n2
    go_wp2_with fail
    all_goals go_meet
    all_goals exact ⟨_, rfl, Lib.hid (Below.refl _ _), Lib.hid (fun _ => ⟨HN.out.1, by have := HN.out.2.1; omega, by have := HN.out.2.2; omega⟩)⟩
  case rest =>
    obtain ⟨b, rfl, HB0, HOK⟩ := hcut
    obtain ⟨W1, hW1⟩ : ∃ W, W = wc := ⟨_, rfl⟩
    subst hW1
    cases b with
    | true =>
      go_wp2_with (go_at_call 24; (with_reducible refine (HLI _).out.mono ?_); rintro e w99 ⟨rfl, h99⟩)
      go_ret
      exact ⟨rfl, below_via HB0.out h99⟩
    | false =>
    obtain ⟨n0, n1, n2⟩ := HOK.out rfl
    have HNN := Lib.hid (And.intro n0 (And.intro n1 n2))
    have HLS := fun W (h : Below w.heap.size w W) => Lib.hid (list20_row W l.a l.c l.l (HSL.out W h) (fun r hr => (HKD.out r hr).1 W h))
    clear n0 n1 n2 HOK
    go_upto_region 4 with (go_at_call 32; (with_reducible refine (HLS _ HB0.out).out.mono ?_); rintro e w2 ⟨zv, rfl, hvv, hrv, h2⟩)
    go_name_world W3 hW3
    obtain ⟨B7, hB7⟩ : ∃ B7, B7 = w2.heap.size := ⟨_, rfl⟩
    have HV3 := Lib.hid (show W3.heap[B7]? = some (.cells #[.int .u8 zv.k, .string zv.t, .slice zv.la zv.l.length zv.lc, .slice zv.ka zv.ks.length zv.kc] 26 (0, 0)) by rw [← hW3, hB7]; exact heap_alloc_new w2 _)
    have hr3 : Rd W3 zv := by rw [← hW3]; exact hrv.up (below_al (Below.refl _ _))
    have HB3 := Lib.hid (show Below w.heap.size w W3 by rw [← hW3]; exact below_via HB0.out (below_al h2))
    rw [← hB7]
    have HRV3 := Lib.hid (show ∀ W, Below W3.heap.size W3 W → Rd W zv from fun W h => hr3.up h)
    obtain ⟨vV, hvV⟩ : ∃ vV, vV = listV (l.l.map AV.v) := ⟨_, rfl⟩
    rw [← hvV] at hvv
    have HVV := Lib.hid hvv
    have HVL := Lib.hid hvV
    have hwv : vV.w ≤ 1048576 := by rw [hvV, listV_wq]; have := HSM.out; omega
    have hwz : zv.w ≤ 1048576 := by show zv.v.w ≤ _; rw [hvv]; exact hwv
    obtain ⟨gr, hgr⟩ : ∃ g, g = greatB vV vV := ⟨_, rfl⟩
    obtain ⟨mv, hmv⟩ : ∃ g, g = vV.may := ⟨_, rfl⟩
    obtain ⟨n, hn⟩ : ∃ n, n = szV vV := ⟨_, rfl⟩
    have HGR := fun W (h : Below W3.heap.size W3 W) => Lib.hid (show Calls Try.prog 29 #[zv.val, zv.val] W (Ret (.bool gr) W) by rw [hgr, ← HVV.out]; exact great20_c W zv zv (HRV3.out W h) (HRV3.out W h) hwz hwz)
    have HMV := fun W (h : Below W3.heap.size W3 W) => Lib.hid (show Calls Try.prog 30 #[zv.val] W (Ret (.bool mv) W) by rw [hmv, ← HVV.out]; exact may_c W zv (HRV3.out W h) hwz)
    have HSZ := fun W (h : Below W3.heap.size W3 W) => Lib.hid (show Calls Try.prog 31 #[zv.val] W (Ret (.int .i64 (n : Nat)) W) by
      have := size_c W zv (HRV3.out W h) hwz
      rwa [HVV.out, show (if vV.may then (vV.size : Int) else 0) = (n : Int) by rw [hn, szV]; split <;> rfl] at this)
    have HGM := Lib.hid (And.intro hgr (And.intro hmv hn))
    have HD3 := Lib.hid (Below.refl W3.heap.size W3)
    obtain ⟨p0, p1, p2, p3⟩ := vb4 HV3.out
    clear hW3 hB7 hvv hvV hrv hr3 h2 hgr hmv hn
    cases gr with
    | true =>
      go_wp2_with (first
        | (go_at_call 24; (with_reducible refine (HLI _).out.mono ?_); rintro e w99 ⟨rfl, h99⟩)
        | (go_at_call 29; (with_reducible refine (HGR _ HD3.out).out.mono ?_); rintro e w4 ⟨rfl, h4⟩; have HD4 := Lib.hid (below_via HD3.out h4); have HV4 := Lib.hid (blk_via h4 HV3.out); clear p0 p1 p2 p3; obtain ⟨p0, p1, p2, p3⟩ := vb4 HV4.out; clear h4))
      go_ret
      exact ⟨rfl, below_via (below_via HB3.out HD4.out) h99⟩
    | false =>
    cases mv with
    | false =>
      go_wp2_with (first
        | (go_at_call 24; (with_reducible refine (HLI _).out.mono ?_); rintro e w99 ⟨rfl, h99⟩)
        | (go_at_call 30; (with_reducible refine (HMV _ HD4.out).out.mono ?_); rintro e w5 ⟨rfl, h5⟩; have HD5 := Lib.hid (below_via HD4.out h5); have HV5 := Lib.hid (blk_via h5 HV4.out); clear p0 p1 p2 p3; obtain ⟨p0, p1, p2, p3⟩ := vb4 HV5.out; clear h5)
        | (go_at_call 29; (with_reducible refine (HGR _ HD3.out).out.mono ?_); rintro e w4 ⟨rfl, h4⟩; have HD4 := Lib.hid (below_via HD3.out h4); have HV4 := Lib.hid (blk_via h4 HV3.out); clear p0 p1 p2 p3; obtain ⟨p0, p1, p2, p3⟩ := vb4 HV4.out; clear h4))
      go_ret
      exact ⟨rfl, below_via (below_via HB3.out HD5.out) h99⟩
    | true =>
    by_cases n60 : 60 < n
    · have n60' : (60 : Int) < (n : Int) := by omega
      go_wp2_with (first
        | (go_at_call 24; (with_reducible refine (HLI _).out.mono ?_); rintro e w99 ⟨rfl, h99⟩)
        | (go_at_call 31; (with_reducible refine (HSZ _ HD5.out).out.mono ?_); rintro e w6 ⟨rfl, h6⟩; have HD6 := Lib.hid (below_via HD5.out h6); have HV6 := Lib.hid (blk_via h6 HV5.out); clear p0 p1 p2 p3; obtain ⟨p0, p1, p2, p3⟩ := vb4 HV6.out; clear h6)
        | (go_at_call 30; (with_reducible refine (HMV _ HD4.out).out.mono ?_); rintro e w5 ⟨rfl, h5⟩; have HD5 := Lib.hid (below_via HD4.out h5); have HV5 := Lib.hid (blk_via h5 HV4.out); clear p0 p1 p2 p3; obtain ⟨p0, p1, p2, p3⟩ := vb4 HV5.out; clear h5)
        | (go_at_call 29; (with_reducible refine (HGR _ HD3.out).out.mono ?_); rintro e w4 ⟨rfl, h4⟩; have HD4 := Lib.hid (below_via HD3.out h4); have HV4 := Lib.hid (blk_via h4 HV3.out); clear p0 p1 p2 p3; obtain ⟨p0, p1, p2, p3⟩ := vb4 HV4.out; clear h4))
      go_ret
      exact ⟨rfl, below_via (below_via HB3.out HD6.out) h99⟩
    have n60' : ¬ (60 : Int) < (n : Int) := by omega
    have H60 := Lib.hid n60
    clear n60
    go_upto_region 7 with (first
      | (go_at_call 31; (with_reducible refine (HSZ _ HD5.out).out.mono ?_); rintro e w6 ⟨rfl, h6⟩; have HD6 := Lib.hid (below_via HD5.out h6); have HV6 := Lib.hid (blk_via h6 HV5.out); clear p0 p1 p2 p3; obtain ⟨p0, p1, p2, p3⟩ := vb4 HV6.out; clear h6)
      | (go_at_call 30; (with_reducible refine (HMV _ HD4.out).out.mono ?_); rintro e w5 ⟨rfl, h5⟩; have HD5 := Lib.hid (below_via HD4.out h5); have HV5 := Lib.hid (blk_via h5 HV4.out); clear p0 p1 p2 p3; obtain ⟨p0, p1, p2, p3⟩ := vb4 HV5.out; clear h5)
      | (go_at_call 29; (with_reducible refine (HGR _ HD3.out).out.mono ?_); rintro e w4 ⟨rfl, h4⟩; have HD4 := Lib.hid (below_via HD3.out h4); have HV4 := Lib.hid (blk_via h4 HV3.out); clear p0 p1 p2 p3; obtain ⟨p0, p1, p2, p3⟩ := vb4 HV4.out; clear h4))
    go_name_world W0 hW0
    obtain ⟨B8, hB8⟩ : ∃ B8, B8 = w6.heap.size := ⟨_, rfl⟩
    have hb60 : Below w6.heap.size w6 W0 := by rw [← hW0]; exact below_al (Below.refl _ _)
    have HV7 := Lib.hid (blk_via hb60 HV6.out)
    obtain ⟨ss, hss⟩ : ∃ ss, ss = textA tx := ⟨_, rfl⟩
    have HS7 := Lib.hid (show W0.heap[B8]? = some (.cells #[.int .u8 ss.k, .string ss.t, .slice ss.la ss.l.length ss.lc, .slice ss.ka ss.ks.length ss.kc] 26 (0, 0)) by rw [← hW0, hB8, hss]; exact heap_alloc_new w6 _)
    have HB7 := Lib.hid (below_via (below_via HB3.out HD6.out) hb60)
    have HRV7 := Lib.hid (show ∀ W, Below W0.heap.size W0 W → Rd W zv from fun W h => HRV3.out W (below_via (below_via HD6.out hb60) h))
    have HSV := Lib.hid (show ss.v = textU tx by rw [hss]; exact textA_v tx)
    have HRS := Lib.hid (show ∀ W, Rd W ss from fun W => by rw [hss]; exact textA_rd tx W)
    have hws : ss.w ≤ 1048576 := by show ss.v.w ≤ _; rw [HSV.out, textU_w]; have := HNN.out; omega
    rw [← hB8]
    clear hW0 hB8 hss hb60 p0 p1 p2 p3 n60' HGR HMV HSZ HV3 HV4 HV5 HV6 HD3 HD4 HD5 HD6 HRV3 HB3 HLS
    obtain ⟨p0, p1, p2, p3⟩ := vb4 HV7.out
    obtain ⟨r0, r1, r2, r3⟩ := vb4 HS7.out
    obtain ⟨N, hN⟩ : ∃ N, N = W0.heap.size := ⟨_, rfl⟩
    have HNE := Lib.hid hN
    have HS1 := Lib.hid (show ∀ W, Below W0.heap.size W0 W → SlE AV.enc 4 W 0 W.heap.size l.a l.l from fun W h => HSL.out W (below_via HB7.out h))
    have HKT := Lib.hid (show ∀ r ∈ l.l, KidOk N W0 r from fun r hr => have h := HKD.out r hr; ⟨fun W hW => h.1 W (below_via HB7.out (HNE.out ▸ hW)), h.2⟩)
    have HKS := Lib.hid (show KidOk N W0 ss from ⟨fun W _ => HRS.out W, hws⟩)
    have HLN := Lib.hid (show l.l.length ≤ 16777216 ∧ l.l.length + 1 ≤ 16777216 from by have := HNN.out; omega)
    obtain ⟨L2, hL2⟩ : ∃ L2, l.l ++ [ss] = L2 := ⟨_, rfl⟩
    have HL2 := Lib.hid hL2
    clear hN hL2
    go_cut [9] (fun s9 wx => ∃ B z, s9 = .pointer (some ⟨B, 0, none⟩) ∧ Hid (wx.heap[B]? = some (.cells #[.int .u8 z.k, .string z.t, .slice z.la z.l.length z.lc, .slice z.ka z.ks.length z.kc] 26 (0, 0)) ∧ z.v = listV (L2.map AV.v) ∧ Rd wx z ∧ Below W0.heap.size W0 wx))
    case first =>
      rename_i J K' hRJ hMK
      have HRJ := Lib.hid hRJ
      have HMK := Lib.hid hMK
      clear hRJ hMK
      refine wp_region_uses (by kernel_rfl) (S := GS W0) (G := GKden N W0 [.cst (.slice l.a l.l.length l.c), .own (l.l), .cst (ss.val), .one ss, .own (L2), .lst (L2), .box]) (GE [4] 6 N) (fun _ => false) none (by kernel_rfl) (by kernel_rfl) (by kernel_rfl) (by kernel_rfl) (by simp) (GK.hup (by kernel_rfl)) ⟨(Below.refl _ _).drew, fun _ h => by cases h⟩ ?_
      refine ⟨?_, ?_, ?_, ?_, ?_, ?_, ?_, ?_⟩
      · intro g a w F D
        have o0 := get_of (F.at 0 (by kernel_rfl)) (by simp [undef])
        refine ⟨wanted_none rfl, fun K hK => ?_⟩
        have HK := Lib.hid hK
        have FC := Lib.hid F.cls
        clear hK D F
        go_simp
        exact HK.out g _ _ FC.out (ge_pure (Below.refl _ _) (FC.out.hN HNE.out) FC.out.2) rfl
      · intro g a w F D
        have g48 : a.tmps.getD 48 undef = .slice l.a l.l.length l.c := (D ⟨0, .data⟩ (by simp) rfl _ _ rfl rfl)
        obtain ⟨v', w', hr, hg, hb⟩ := app_first (N := N) (W0 := W0) (g := g) (HS1.out w F.cls.1) HKT.out HLN.out.1 (F.cls.hN HNE.out) F.cls.2
        refine ⟨wanted_none rfl, fun K hK => ?_⟩
        refine op_append (s := .const (.slice none 0 0)) (x := .tmp 48) rfl rfl g48 hr ?_
        exact hK g _ _ (F.cls.via hb) (ge_pure hb (F.cls.hN HNE.out) F.cls.2) hg
      · intro g a w F D
        have o8 := get_of (F.at 8 (by kernel_rfl)) (by simp [undef])
        have c0 := blkv F.cls.1 r0
        have c1 := blkv F.cls.1 r1
        have c2 := blkv F.cls.1 r2
        have c3 := blkv F.cls.1 r3
        refine ⟨wanted_none rfl, fun K hK => ?_⟩
        have HK := Lib.hid hK
        have FC := Lib.hid F.cls
        clear hK D F
        go_simp
        exact HK.out g _ _ FC.out (ge_pure (Below.refl _ _) (FC.out.hN HNE.out) FC.out.2) rfl
      · intro g a w F D
        have g50 : a.tmps.getD 50 undef = ss.val := (D ⟨2, .data⟩ (by simp) rfl _ _ rfl rfl)
        replace g50 := get_of g50 (by simp [AV.val, undef])
        refine ⟨wanted_none rfl, fun K hK => ?_⟩
        have HK := Lib.hid hK
        have FC := Lib.hid F.cls
        clear hK D F
        go_simp
        exact HK.out g _ _ (FC.out.via (below_al (Below.refl _ _))) (ge_pure (below_al (Below.refl _ _)) (FC.out.hN HNE.out) FC.out.2) ⟨_, rfl, FC.out.hN HNE.out, heap_alloc_new _ _, HKS.out⟩
      · intro g a w F D
        have g49 : GOwn N W0 g l.l (a.tmps.getD 49 undef) w := (D ⟨1, .data⟩ (by simp) rfl _ _ rfl rfl)
        have g51 : GOne N W0 ss (a.tmps.getD 51 undef) w := (D ⟨3, .data⟩ (by simp) rfl _ _ rfl rfl)
        obtain ⟨v', w', hr, hg, hb, hbx⟩ := app_one g49 g51 HLN.out.2 (F.cls.hN HNE.out) F.cls.2
        refine ⟨wanted_none rfl, fun K hK => ?_⟩
        refine op_append (s := .tmp 49) (x := .tmp 51) rfl rfl rfl hr ?_
        rw [HL2.out] at hg
        exact hK g _ _ (F.cls.wild HNE.out hb) (ge_wild hb hbx rfl) hg
      · intro g a w F D
        have g52 : GOwn N W0 g L2 (a.tmps.getD 52 undef) w := (D ⟨4, .data⟩ (by simp) rfl _ _ rfl rfl)
        obtain ⟨a52, c52, e52⟩ := g52.1
        rw [e52] at g52
        replace e52 := get_of e52 (by simp [undef])
        have GG := Lib.hid g52
        clear g52
        refine ⟨wanted_none rfl, fun K hK => ?_⟩
        have HK := Lib.hid hK
        have FC := Lib.hid F.cls
        clear hK D F
        go_simp
        refine (list20_ex w a52 _ c52).mono ?_
        rintro e w' ⟨rfl, hb⟩
        exact HK.out g _ _ (FC.out.via hb) (ge_pure hb (FC.out.hN HNE.out) FC.out.2) ⟨a52, c52, rfl, GG.out.up hb (.inl rfl)⟩
      · intro g a w F D
        refine ⟨wanted_none rfl, fun K hK => ?_⟩
        have HK := Lib.hid hK
        have FC := Lib.hid F.cls
        clear hK D F
        go_simp
        exact HK.out (some w.heap.size) _ _ (FC.out.box _) (ge_box (below_al (Below.refl _ _)) rfl) ⟨_, rfl, rfl, FC.out.hN HNE.out, heap_alloc_new _ _⟩
      · intro g a w F D _
        obtain ⟨a53, c53, e53, g53⟩ : ∃ a0 c0, a.tmps.getD 53 undef = aggL a0 (L2).length c0 ∧ GOwn N W0 g (L2) (.slice a0 (L2).length c0) w := (D ⟨5, .data⟩ (by simp) rfl _ _ rfl rfl)
        obtain ⟨B, eB, rfl, hB, hz⟩ : ∃ b, a.tmps.getD 9 undef = .pointer (some ⟨b, 0, none⟩) ∧ g = some b ∧ N ≤ b ∧ w.heap[b]? = some zeroV := (D ⟨6, .data⟩ (by simp) rfl _ _ rfl rfl)
        obtain ⟨z0, z1, z2, z3, f0, f1, f2, f3⟩ := vbox4 hz
        have EB := Lib.hid eB
        replace e53 := get_of e53 (by simp [undef])
        replace eB := get_of eB (by simp [undef])
        have GG := Lib.hid g53
        have HZ := Lib.hid hz
        have FF := Lib.hid F
        clear g53 hz
        refine ⟨wanted_none rfl, fun K hK => ?_⟩
        have HK := Lib.hid hK
        have FC := Lib.hid F.cls
        clear hK D F
        obtain ⟨tm, df⟩ := a
        go_simp
        refine HK.out _ _ (HMK.out _ _ (Met.intro (HRJ.out _ _ ?_)))
        have F := FF.out
        repeat apply Exists.intro
        refine ⟨?rel, ?eq⟩
        case eq =>
          have hdf : df = [] := F.defers
          subst hdf
          refine congrArg (fun t => Act.mk t []) ?_
          refine (arr_lit (n := 129) F.len).trans (congrArg List.toArray ?_)
          simp only [FR129, List.map_cons, List.map_nil]
          refine cons_eq ((F.at 0 (by kernel_rfl)).trans rfl) ?_
          refine cons_eq ((F.at 1 (by kernel_rfl)).trans rfl) ?_
          refine cons_eq ((F.at 2 (by kernel_rfl)).trans rfl) ?_
          refine cons_eq ((F.at 3 (by kernel_rfl)).trans rfl) ?_
          refine cons_eq ((F.at 4 (by kernel_rfl)).trans rfl) ?_
          refine cons_eq ((F.at 5 (by kernel_rfl)).trans rfl) ?_
          refine cons_eq ((F.at 6 (by kernel_rfl)).trans rfl) ?_
          refine cons_eq ((F.at 7 (by kernel_rfl)).trans rfl) ?_
          refine cons_eq ((F.at 8 (by kernel_rfl)).trans rfl) ?_
          refine cons_eq rfl ?_
          refine cons_eq ((F.at 10 (by kernel_rfl)).trans rfl) ?_
          refine cons_eq ((F.at 11 (by kernel_rfl)).trans rfl) ?_
          refine cons_eq ((F.at 12 (by kernel_rfl)).trans rfl) ?_
          refine cons_eq ((F.at 13 (by kernel_rfl)).trans rfl) ?_
          refine cons_eq ((F.at 14 (by kernel_rfl)).trans rfl) ?_
          refine cons_eq ((F.at 15 (by kernel_rfl)).trans rfl) ?_
          refine cons_eq ((F.at 16 (by kernel_rfl)).trans rfl) ?_
          refine cons_eq ((F.at 17 (by kernel_rfl)).trans rfl) ?_
          refine cons_eq ((F.at 18 (by kernel_rfl)).trans rfl) ?_
          refine cons_eq ((F.at 19 (by kernel_rfl)).trans rfl) ?_
          refine cons_eq ((F.at 20 (by kernel_rfl)).trans rfl) ?_
          refine cons_eq ((F.at 21 (by kernel_rfl)).trans rfl) ?_
          refine cons_eq ((F.at 22 (by kernel_rfl)).trans rfl) ?_
          refine cons_eq ((F.at 23 (by kernel_rfl)).trans rfl) ?_
          refine cons_eq ((F.at 24 (by kernel_rfl)).trans rfl) ?_
          refine cons_eq ((F.at 25 (by kernel_rfl)).trans rfl) ?_
          refine cons_eq ((F.at 26 (by kernel_rfl)).trans rfl) ?_
          refine cons_eq ((F.at 27 (by kernel_rfl)).trans rfl) ?_
          refine cons_eq ((F.at 28 (by kernel_rfl)).trans rfl) ?_
          refine cons_eq ((F.at 29 (by kernel_rfl)).trans rfl) ?_
          refine cons_eq ((F.at 30 (by kernel_rfl)).trans rfl) ?_
          refine cons_eq ((F.at 31 (by kernel_rfl)).trans rfl) ?_
          refine cons_eq ((F.at 32 (by kernel_rfl)).trans rfl) ?_
          refine cons_eq ((F.at 33 (by kernel_rfl)).trans rfl) ?_
          refine cons_eq ((F.at 34 (by kernel_rfl)).trans rfl) ?_
          refine cons_eq ((F.at 35 (by kernel_rfl)).trans rfl) ?_
          refine cons_eq ((F.at 36 (by kernel_rfl)).trans rfl) ?_
          refine cons_eq ((F.at 37 (by kernel_rfl)).trans rfl) ?_
          refine cons_eq ((F.at 38 (by kernel_rfl)).trans rfl) ?_
          refine cons_eq ((F.at 39 (by kernel_rfl)).trans rfl) ?_
          refine cons_eq ((F.at 40 (by kernel_rfl)).trans rfl) ?_
          refine cons_eq ((F.at 41 (by kernel_rfl)).trans rfl) ?_
          refine cons_eq ((F.at 42 (by kernel_rfl)).trans rfl) ?_
          refine cons_eq ((F.at 43 (by kernel_rfl)).trans rfl) ?_
          refine cons_eq ((F.at 44 (by kernel_rfl)).trans rfl) ?_
          refine cons_eq ((F.at 45 (by kernel_rfl)).trans rfl) ?_
          refine cons_eq ((F.at 46 (by kernel_rfl)).trans rfl) ?_
          refine cons_eq ((F.at 47 (by kernel_rfl)).trans rfl) ?_
          refine cons_eq rfl ?_
          refine cons_eq rfl ?_
          refine cons_eq rfl ?_
          refine cons_eq rfl ?_
          refine cons_eq rfl ?_
          refine cons_eq rfl ?_
          refine cons_eq ((F.at 54 (by kernel_rfl)).trans rfl) ?_
          refine cons_eq ((F.at 55 (by kernel_rfl)).trans rfl) ?_
          refine cons_eq ((F.at 56 (by kernel_rfl)).trans rfl) ?_
          refine cons_eq ((F.at 57 (by kernel_rfl)).trans rfl) ?_
          refine cons_eq ((F.at 58 (by kernel_rfl)).trans rfl) ?_
          refine cons_eq ((F.at 59 (by kernel_rfl)).trans rfl) ?_
          refine cons_eq ((F.at 60 (by kernel_rfl)).trans rfl) ?_
          refine cons_eq ((F.at 61 (by kernel_rfl)).trans rfl) ?_
          refine cons_eq ((F.at 62 (by kernel_rfl)).trans rfl) ?_
          refine cons_eq ((F.at 63 (by kernel_rfl)).trans rfl) ?_
          refine cons_eq ((F.at 64 (by kernel_rfl)).trans rfl) ?_
          refine cons_eq ((F.at 65 (by kernel_rfl)).trans rfl) ?_
          refine cons_eq ((F.at 66 (by kernel_rfl)).trans rfl) ?_
          refine cons_eq ((F.at 67 (by kernel_rfl)).trans rfl) ?_
          refine cons_eq ((F.at 68 (by kernel_rfl)).trans rfl) ?_
          refine cons_eq ((F.at 69 (by kernel_rfl)).trans rfl) ?_
          refine cons_eq ((F.at 70 (by kernel_rfl)).trans rfl) ?_
          refine cons_eq ((F.at 71 (by kernel_rfl)).trans rfl) ?_
          refine cons_eq ((F.at 72 (by kernel_rfl)).trans rfl) ?_
          refine cons_eq ((F.at 73 (by kernel_rfl)).trans rfl) ?_
          refine cons_eq ((F.at 74 (by kernel_rfl)).trans rfl) ?_
          refine cons_eq ((F.at 75 (by kernel_rfl)).trans rfl) ?_
          refine cons_eq ((F.at 76 (by kernel_rfl)).trans rfl) ?_
          refine cons_eq ((F.at 77 (by kernel_rfl)).trans rfl) ?_
          refine cons_eq ((F.at 78 (by kernel_rfl)).trans rfl) ?_
          refine cons_eq ((F.at 79 (by kernel_rfl)).trans rfl) ?_
          refine cons_eq ((F.at 80 (by kernel_rfl)).trans rfl) ?_
          refine cons_eq ((F.at 81 (by kernel_rfl)).trans rfl) ?_
          refine cons_eq ((F.at 82 (by kernel_rfl)).trans rfl) ?_
          refine cons_eq ((F.at 83 (by kernel_rfl)).trans rfl) ?_
          refine cons_eq ((F.at 84 (by kernel_rfl)).trans rfl) ?_
          refine cons_eq ((F.at 85 (by kernel_rfl)).trans rfl) ?_
          refine cons_eq ((F.at 86 (by kernel_rfl)).trans rfl) ?_
          refine cons_eq ((F.at 87 (by kernel_rfl)).trans rfl) ?_
          refine cons_eq ((F.at 88 (by kernel_rfl)).trans rfl) ?_
          refine cons_eq ((F.at 89 (by kernel_rfl)).trans rfl) ?_
          refine cons_eq ((F.at 90 (by kernel_rfl)).trans rfl) ?_
          refine cons_eq ((F.at 91 (by kernel_rfl)).trans rfl) ?_
          refine cons_eq ((F.at 92 (by kernel_rfl)).trans rfl) ?_
          refine cons_eq ((F.at 93 (by kernel_rfl)).trans rfl) ?_
          refine cons_eq ((F.at 94 (by kernel_rfl)).trans rfl) ?_
          refine cons_eq ((F.at 95 (by kernel_rfl)).trans rfl) ?_
          refine cons_eq ((F.at 96 (by kernel_rfl)).trans rfl) ?_
          refine cons_eq ((F.at 97 (by kernel_rfl)).trans rfl) ?_
          refine cons_eq ((F.at 98 (by kernel_rfl)).trans rfl) ?_
          refine cons_eq ((F.at 99 (by kernel_rfl)).trans rfl) ?_
          refine cons_eq ((F.at 100 (by kernel_rfl)).trans rfl) ?_
          refine cons_eq ((F.at 101 (by kernel_rfl)).trans rfl) ?_
          refine cons_eq ((F.at 102 (by kernel_rfl)).trans rfl) ?_
          refine cons_eq ((F.at 103 (by kernel_rfl)).trans rfl) ?_
          refine cons_eq ((F.at 104 (by kernel_rfl)).trans rfl) ?_
          refine cons_eq ((F.at 105 (by kernel_rfl)).trans rfl) ?_
          refine cons_eq ((F.at 106 (by kernel_rfl)).trans rfl) ?_
          refine cons_eq ((F.at 107 (by kernel_rfl)).trans rfl) ?_
          refine cons_eq ((F.at 108 (by kernel_rfl)).trans rfl) ?_
          refine cons_eq ((F.at 109 (by kernel_rfl)).trans rfl) ?_
          refine cons_eq ((F.at 110 (by kernel_rfl)).trans rfl) ?_
          refine cons_eq ((F.at 111 (by kernel_rfl)).trans rfl) ?_
          refine cons_eq ((F.at 112 (by kernel_rfl)).trans rfl) ?_
          refine cons_eq ((F.at 113 (by kernel_rfl)).trans rfl) ?_
          refine cons_eq ((F.at 114 (by kernel_rfl)).trans rfl) ?_
          refine cons_eq ((F.at 115 (by kernel_rfl)).trans rfl) ?_
          refine cons_eq ((F.at 116 (by kernel_rfl)).trans rfl) ?_
          refine cons_eq ((F.at 117 (by kernel_rfl)).trans rfl) ?_
          refine cons_eq ((F.at 118 (by kernel_rfl)).trans rfl) ?_
          refine cons_eq ((F.at 119 (by kernel_rfl)).trans rfl) ?_
          refine cons_eq ((F.at 120 (by kernel_rfl)).trans rfl) ?_
          refine cons_eq ((F.at 121 (by kernel_rfl)).trans rfl) ?_
          refine cons_eq ((F.at 122 (by kernel_rfl)).trans rfl) ?_
          refine cons_eq ((F.at 123 (by kernel_rfl)).trans rfl) ?_
          refine cons_eq ((F.at 124 (by kernel_rfl)).trans rfl) ?_
          refine cons_eq ((F.at 125 (by kernel_rfl)).trans rfl) ?_
          refine cons_eq ((F.at 126 (by kernel_rfl)).trans rfl) ?_
          refine cons_eq ((F.at 127 (by kernel_rfl)).trans rfl) ?_
          refine cons_eq ((F.at 128 (by kernel_rfl)).trans rfl) ?_
          rfl
        case rel =>
          obtain ⟨hrd, hbl⟩ := lst_fill GG.out FC.out.1 HNE.out hB
          exact ⟨B, ⟨7, ⟨#[]⟩, a53, c53, L2, none, 0, []⟩, EB.out, Lib.hid ⟨box_fill HZ.out, by rw [AV.v_eq]; rfl, hrd, hbl⟩⟩
    case rest =>
      obtain ⟨B9, zw, rfl, HZ9⟩ := hcut
      obtain ⟨W8, hW8⟩ : ∃ W, W = wc := ⟨_, rfl⟩
      subst hW8
      have HV8 := Lib.hid (blk_via HZ9.out.2.2.2 HV7.out)
      have HS8 := Lib.hid (blk_via HZ9.out.2.2.2 HS7.out)
      have HW8 := Lib.hid HZ9.out.1
      have HB8 := Lib.hid (below_via HB7.out HZ9.out.2.2.2)
      have hrw := HZ9.out.2.2.1
      have HRV := Lib.hid (show ∀ W, Below W8.heap.size W8 W → Rd W zv from fun W h => HRV7.out W (below_via HZ9.out.2.2.2 h))
      have HRW := Lib.hid (show ∀ W, Below W8.heap.size W8 W → Rd W zw from fun W h => hrw.up h)
      obtain ⟨vW, hvW⟩ : ∃ vW, vW = listV (l.l.map AV.v ++ [textU tx]) := ⟨_, rfl⟩
      have HVW := Lib.hid (show zw.v = vW by rw [HZ9.out.2.1, hvW, ← HL2.out, List.map_append]; simp [HSV.out])
      have HWL := Lib.hid hvW
      have hsz : szV (listV (l.l.map AV.v)) ≤ 60 := by rw [← HVL.out, ← HGM.out.2.2]; have := H60.out; omega
      have hmm : (listV (l.l.map AV.v)).may = true := by rw [← HVL.out]; exact HGM.out.2.1.symm
      obtain ⟨hf1, hf2, hf3, d2, hd2, hf4⟩ := one_facts (s := tx) hmm hsz
      rw [← HVL.out] at hf1 hf2 hf3 hf4
      rw [← hvW] at hf2 hf3 hf4
      have HF := Lib.hid (And.intro hf1 (And.intro hf2 (And.intro hf3 hf4)))
      have HD2 := Lib.hid hd2
      have HMM := Lib.hid (And.intro hmm hsz)
      have h15 : vV.w ≤ 1500 := by
        have := HGM.out.1.symm
        unfold greatB at this
        simp at this
        omega
      have hvs : vV.w = 1 + (l.l.map AV.w).sum := by rw [HVL.out, listV_wq]
      have HWT := Lib.hid (show vV.w ≤ 1048576 ∧ vW.w ≤ 1048576 ∧ (listV [vV]).w ≤ 1048576 from ⟨hwv, by
        rw [hvW, listV_w, List.map_append, List.sum_append, List.map_map]
        have := HNN.out
        have e : (List.map (Val.w ∘ AV.v) l.l) = l.l.map AV.w := rfl
        rw [e]
        simp only [List.map_cons, List.map_nil, List.sum_cons, List.sum_nil, textU_w]
        omega, by
        rw [listV_w]
        simp only [List.map_cons, List.map_nil, List.sum_cons, List.sum_nil]
        omega⟩)
      have H15 := Lib.hid (And.intro h15 hvs)
      clear h15 hvs
      clear p0 p1 p2 p3 r0 r1 r2 r3 HNE HS1 HKT HKS HLN HV7 HS7 HB7 HRV7 hrw hvW hsz hmm hf1 hf2 hf3 hf4 hd2
      obtain ⟨p0, p1, p2, p3⟩ := vb4 HV8.out
      obtain ⟨q0, q1, q2, q3⟩ := vb4 HW8.out
      go_upto_region 8 with fail
      go_cut [79] (fun s79 wx => s79 = .bool false ∧ Hid (Below W8.heap.size W8 wx))
      case first =>
        rename_i J K' hRJ hMK
        have HRJ := Lib.hid hRJ
        have HMK := Lib.hid hMK
        clear hRJ hMK
        refine wp_region_steps (by kernel_rfl) (S := fun W => Below W8.heap.size W8 W) (G := fun i => (GLz vV vW d2).getD i (fun _ _ => True)) (fun W W' => Below W.heap.size W W') (by kernel_rfl) (by kernel_rfl) (by kernel_rfl) ?hup ?h0 ?hstep ?hend
        case hup => exact GLz_up vV vW d2
        case h0 => exact (Below.refl _ _).drew
        case hend => 
          intro a w F D
          obtain ⟨tm, df⟩ := a
          refine HMK.out _ _ (Met.intro (HRJ.out _ _ ?_))
          repeat apply Exists.intro
          refine ⟨?rel, ?eq⟩
          case eq =>
            have hdf : df = [] := F.defers
            subst hdf
            refine congrArg (fun t => Act.mk t []) ?_
            refine (arr_lit (n := 129) F.len).trans (congrArg List.toArray ?_)
            simp only [FR129, List.map_cons, List.map_nil]
            refine cons_eq ((F.at 0 (by kernel_rfl)).trans rfl) ?_
            refine cons_eq ((F.at 1 (by kernel_rfl)).trans rfl) ?_
            refine cons_eq ((F.at 2 (by kernel_rfl)).trans rfl) ?_
            refine cons_eq ((F.at 3 (by kernel_rfl)).trans rfl) ?_
            refine cons_eq ((F.at 4 (by kernel_rfl)).trans rfl) ?_
            refine cons_eq ((F.at 5 (by kernel_rfl)).trans rfl) ?_
            refine cons_eq ((F.at 6 (by kernel_rfl)).trans rfl) ?_
            refine cons_eq ((F.at 7 (by kernel_rfl)).trans rfl) ?_
            refine cons_eq ((F.at 8 (by kernel_rfl)).trans rfl) ?_
            refine cons_eq ((F.at 9 (by kernel_rfl)).trans rfl) ?_
            refine cons_eq ((F.at 10 (by kernel_rfl)).trans rfl) ?_
            refine cons_eq ((F.at 11 (by kernel_rfl)).trans rfl) ?_
            refine cons_eq ((F.at 12 (by kernel_rfl)).trans rfl) ?_
            refine cons_eq ((F.at 13 (by kernel_rfl)).trans rfl) ?_
            refine cons_eq ((F.at 14 (by kernel_rfl)).trans rfl) ?_
            refine cons_eq ((F.at 15 (by kernel_rfl)).trans rfl) ?_
            refine cons_eq ((F.at 16 (by kernel_rfl)).trans rfl) ?_
            refine cons_eq ((F.at 17 (by kernel_rfl)).trans rfl) ?_
            refine cons_eq ((F.at 18 (by kernel_rfl)).trans rfl) ?_
            refine cons_eq ((F.at 19 (by kernel_rfl)).trans rfl) ?_
            refine cons_eq ((F.at 20 (by kernel_rfl)).trans rfl) ?_
            refine cons_eq ((F.at 21 (by kernel_rfl)).trans rfl) ?_
            refine cons_eq ((F.at 22 (by kernel_rfl)).trans rfl) ?_
            refine cons_eq ((F.at 23 (by kernel_rfl)).trans rfl) ?_
            refine cons_eq ((F.at 24 (by kernel_rfl)).trans rfl) ?_
            refine cons_eq ((F.at 25 (by kernel_rfl)).trans rfl) ?_
            refine cons_eq ((F.at 26 (by kernel_rfl)).trans rfl) ?_
            refine cons_eq ((F.at 27 (by kernel_rfl)).trans rfl) ?_
            refine cons_eq ((F.at 28 (by kernel_rfl)).trans rfl) ?_
            refine cons_eq ((F.at 29 (by kernel_rfl)).trans rfl) ?_
            refine cons_eq ((F.at 30 (by kernel_rfl)).trans rfl) ?_
            refine cons_eq ((F.at 31 (by kernel_rfl)).trans rfl) ?_
            refine cons_eq ((F.at 32 (by kernel_rfl)).trans rfl) ?_
            refine cons_eq ((F.at 33 (by kernel_rfl)).trans rfl) ?_
            refine cons_eq ((F.at 34 (by kernel_rfl)).trans rfl) ?_
            refine cons_eq ((F.at 35 (by kernel_rfl)).trans rfl) ?_
            refine cons_eq ((F.at 36 (by kernel_rfl)).trans rfl) ?_
            refine cons_eq ((F.at 37 (by kernel_rfl)).trans rfl) ?_
            refine cons_eq ((F.at 38 (by kernel_rfl)).trans rfl) ?_
            refine cons_eq ((F.at 39 (by kernel_rfl)).trans rfl) ?_
            refine cons_eq ((F.at 40 (by kernel_rfl)).trans rfl) ?_
            refine cons_eq ((F.at 41 (by kernel_rfl)).trans rfl) ?_
            refine cons_eq ((F.at 42 (by kernel_rfl)).trans rfl) ?_
            refine cons_eq ((F.at 43 (by kernel_rfl)).trans rfl) ?_
            refine cons_eq ((F.at 44 (by kernel_rfl)).trans rfl) ?_
            refine cons_eq ((F.at 45 (by kernel_rfl)).trans rfl) ?_
            refine cons_eq ((F.at 46 (by kernel_rfl)).trans rfl) ?_
            refine cons_eq ((F.at 47 (by kernel_rfl)).trans rfl) ?_
            refine cons_eq ((F.at 48 (by kernel_rfl)).trans rfl) ?_
            refine cons_eq ((F.at 49 (by kernel_rfl)).trans rfl) ?_
            refine cons_eq ((F.at 50 (by kernel_rfl)).trans rfl) ?_
            refine cons_eq ((F.at 51 (by kernel_rfl)).trans rfl) ?_
            refine cons_eq ((F.at 52 (by kernel_rfl)).trans rfl) ?_
            refine cons_eq ((F.at 53 (by kernel_rfl)).trans rfl) ?_
            refine cons_eq rfl ?_
            refine cons_eq rfl ?_
            refine cons_eq rfl ?_
            refine cons_eq rfl ?_
            refine cons_eq rfl ?_
            refine cons_eq rfl ?_
            refine cons_eq rfl ?_
            refine cons_eq rfl ?_
            refine cons_eq rfl ?_
            refine cons_eq rfl ?_
            refine cons_eq rfl ?_
            refine cons_eq rfl ?_
            refine cons_eq rfl ?_
            refine cons_eq rfl ?_
            refine cons_eq rfl ?_
            refine cons_eq rfl ?_
            refine cons_eq rfl ?_
            refine cons_eq rfl ?_
            refine cons_eq rfl ?_
            refine cons_eq rfl ?_
            refine cons_eq rfl ?_
            refine cons_eq rfl ?_
            refine cons_eq rfl ?_
            refine cons_eq rfl ?_
            refine cons_eq rfl ?_
            refine cons_eq rfl ?_
            refine cons_eq ((F.at 80 (by kernel_rfl)).trans rfl) ?_
            refine cons_eq ((F.at 81 (by kernel_rfl)).trans rfl) ?_
            refine cons_eq ((F.at 82 (by kernel_rfl)).trans rfl) ?_
            refine cons_eq ((F.at 83 (by kernel_rfl)).trans rfl) ?_
            refine cons_eq ((F.at 84 (by kernel_rfl)).trans rfl) ?_
            refine cons_eq ((F.at 85 (by kernel_rfl)).trans rfl) ?_
            refine cons_eq ((F.at 86 (by kernel_rfl)).trans rfl) ?_
            refine cons_eq ((F.at 87 (by kernel_rfl)).trans rfl) ?_
            refine cons_eq ((F.at 88 (by kernel_rfl)).trans rfl) ?_
            refine cons_eq ((F.at 89 (by kernel_rfl)).trans rfl) ?_
            refine cons_eq ((F.at 90 (by kernel_rfl)).trans rfl) ?_
            refine cons_eq ((F.at 91 (by kernel_rfl)).trans rfl) ?_
            refine cons_eq ((F.at 92 (by kernel_rfl)).trans rfl) ?_
            refine cons_eq ((F.at 93 (by kernel_rfl)).trans rfl) ?_
            refine cons_eq ((F.at 94 (by kernel_rfl)).trans rfl) ?_
            refine cons_eq ((F.at 95 (by kernel_rfl)).trans rfl) ?_
            refine cons_eq ((F.at 96 (by kernel_rfl)).trans rfl) ?_
            refine cons_eq ((F.at 97 (by kernel_rfl)).trans rfl) ?_
            refine cons_eq ((F.at 98 (by kernel_rfl)).trans rfl) ?_
            refine cons_eq ((F.at 99 (by kernel_rfl)).trans rfl) ?_
            refine cons_eq ((F.at 100 (by kernel_rfl)).trans rfl) ?_
            refine cons_eq ((F.at 101 (by kernel_rfl)).trans rfl) ?_
            refine cons_eq ((F.at 102 (by kernel_rfl)).trans rfl) ?_
            refine cons_eq ((F.at 103 (by kernel_rfl)).trans rfl) ?_
            refine cons_eq ((F.at 104 (by kernel_rfl)).trans rfl) ?_
            refine cons_eq ((F.at 105 (by kernel_rfl)).trans rfl) ?_
            refine cons_eq ((F.at 106 (by kernel_rfl)).trans rfl) ?_
            refine cons_eq ((F.at 107 (by kernel_rfl)).trans rfl) ?_
            refine cons_eq ((F.at 108 (by kernel_rfl)).trans rfl) ?_
            refine cons_eq ((F.at 109 (by kernel_rfl)).trans rfl) ?_
            refine cons_eq ((F.at 110 (by kernel_rfl)).trans rfl) ?_
            refine cons_eq ((F.at 111 (by kernel_rfl)).trans rfl) ?_
            refine cons_eq ((F.at 112 (by kernel_rfl)).trans rfl) ?_
            refine cons_eq ((F.at 113 (by kernel_rfl)).trans rfl) ?_
            refine cons_eq ((F.at 114 (by kernel_rfl)).trans rfl) ?_
            refine cons_eq ((F.at 115 (by kernel_rfl)).trans rfl) ?_
            refine cons_eq ((F.at 116 (by kernel_rfl)).trans rfl) ?_
            refine cons_eq ((F.at 117 (by kernel_rfl)).trans rfl) ?_
            refine cons_eq ((F.at 118 (by kernel_rfl)).trans rfl) ?_
            refine cons_eq ((F.at 119 (by kernel_rfl)).trans rfl) ?_
            refine cons_eq ((F.at 120 (by kernel_rfl)).trans rfl) ?_
            refine cons_eq ((F.at 121 (by kernel_rfl)).trans rfl) ?_
            refine cons_eq ((F.at 122 (by kernel_rfl)).trans rfl) ?_
            refine cons_eq ((F.at 123 (by kernel_rfl)).trans rfl) ?_
            refine cons_eq ((F.at 124 (by kernel_rfl)).trans rfl) ?_
            refine cons_eq ((F.at 125 (by kernel_rfl)).trans rfl) ?_
            refine cons_eq ((F.at 126 (by kernel_rfl)).trans rfl) ?_
            refine cons_eq ((F.at 127 (by kernel_rfl)).trans rfl) ?_
            refine cons_eq ((F.at 128 (by kernel_rfl)).trans rfl) ?_
            rfl
          case rel => exact ⟨D 25 _ 79 rfl rfl, Lib.hid F.cls⟩
        case hstep =>
          refine ⟨?_, ?_, ?_, ?_, ?_, ?_, ?_, ?_, ?_, ?_, ?_, ?_, ?_, ?_, ?_, ?_, ?_, ?_, ?_, ?_, ?_, ?_, ?_, ?_, ?_, ?_, trivial⟩
          · intro a w F D
            have o7 := get_of (F.at 7 (by kernel_rfl)) (by simp [undef])
            have c0 := blkv F.cls p0
            have c1 := blkv F.cls p1
            have c2 := blkv F.cls p2
            have c3 := blkv F.cls p3
            have hg := GotA.mk rfl HVV.out (HRV.out _ F.cls)
            have FC := Lib.hid F.cls
            refine ⟨wanted_none rfl, fun K hK => ?_⟩
            have HK := Lib.hid hK
            clear hK D F
            replace hg := Lib.hid hg
            go_simp
            exact HK.out _ _ FC.out (Below.refl _ _) hg.out
          · intro a w F D
            have o7 := get_of (F.at 7 (by kernel_rfl)) (by simp [undef])
            have c0 := blkv F.cls p0
            have c1 := blkv F.cls p1
            have c2 := blkv F.cls p2
            have c3 := blkv F.cls p3
            have hg := GotA.mk rfl HVV.out (HRV.out _ F.cls)
            have FC := Lib.hid F.cls
            refine ⟨wanted_none rfl, fun K hK => ?_⟩
            have HK := Lib.hid hK
            clear hK D F
            replace hg := Lib.hid hg
            go_simp
            exact HK.out _ _ FC.out (Below.refl _ _) hg.out
          · intro a w F D
            obtain ⟨y55, e55, v55, r55⟩ : GotA (vV) (a.tmps.getD 55 undef) w := (D ⟨1, .data⟩ (by simp) rfl _ _ rfl rfl)
            replace e55 := get_of e55 (by simp [AV.val, undef])
            have hg := gs1 (w := w) v55 r55
            have FC := Lib.hid F.cls
            refine ⟨wanted_none rfl, fun K hK => ?_⟩
            have HK := Lib.hid hK
            clear hK D F
            replace hg := Lib.hid hg
            go_simp
            exact HK.out _ _ (below_al FC.out) (below_al (Below.refl _ _)) hg.out
          · intro a w F D
            obtain ⟨b56, ys56, e56, l56, hB56, r56⟩ : GotS [vV] (a.tmps.getD 56 undef) w := (D ⟨2, .data⟩ (by simp) rfl _ _ rfl rfl)
            replace e56 := get_of e56 (by simp [undef])
            have HC := Lib.hid (list_s l56 hB56 r56)
            clear l56 hB56 r56
            have FC := Lib.hid F.cls
            refine ⟨wanted_none rfl, fun K hK => ?_⟩
            have HK := Lib.hid hK
            clear hK D F
            go_simp
            refine (HC.out).mono ?_
            rintro e w' ⟨y, rfl, hv, hr, hb⟩
            exact HK.out _ _ (below_via FC.out hb) hb ⟨y, rfl, hv, hr⟩
          · intro a w F D
            obtain ⟨y54, e54, v54, r54⟩ : GotA (vV) (a.tmps.getD 54 undef) w := (D ⟨0, .data⟩ (by simp) rfl _ _ rfl rfl)
            replace e54 := get_of e54 (by simp [AV.val, undef])
            obtain ⟨y57, e57, v57, r57⟩ : GotA (listV [vV]) (a.tmps.getD 57 undef) w := (D ⟨3, .data⟩ (by simp) rfl _ _ rfl rfl)
            replace e57 := get_of e57 (by simp [AV.val, undef])
            have FC := Lib.hid F.cls
            refine ⟨wanted_none rfl, fun K hK => ?_⟩
            have HK := Lib.hid hK
            clear hK D F
            go_simp
            refine (far_v HF.out.1 v54 v57 HWT.out.1 HWT.out.2.2 r54 r57).mono ?_
            rintro e w' ⟨rfl, hb⟩
            exact HK.out _ _ (below_via FC.out hb) hb rfl
          · intro a w F D
            have e58 : GI 1 (a.tmps.getD 58 undef) w := (D ⟨4, .data⟩ (by simp) rfl _ _ rfl rfl)
            replace e58 := get_of e58 (by simp [undef])
            have FC := Lib.hid F.cls
            refine ⟨wanted_none rfl, fun K hK => ?_⟩
            have HK := Lib.hid hK
            clear hK D F
            go_simp
            exact HK.out _ _ FC.out (Below.refl _ _) rfl
          · intro a w F D
            have e59 : GB false (a.tmps.getD 59 undef) w := (D ⟨5, .data⟩ (by simp) rfl _ _ rfl rfl)
            replace e59 := get_of e59 (by simp [undef])
            have FC := Lib.hid F.cls
            refine ⟨wanted_none rfl, fun K hK => ?_⟩
            have HK := Lib.hid hK
            clear hK D F
            go_simp
            exact HK.out _ _ FC.out (Below.refl _ _) rfl
          · intro a w F D
            have dg : GB false (a.tmps.getD 60 undef) w := D ⟨6, .guard⟩ (by simp) rfl _ _ rfl rfl
            have o7 := get_of (F.at 7 (by kernel_rfl)) (by simp [undef])
            have c0 := blkv F.cls p0
            have c1 := blkv F.cls p1
            have c2 := blkv F.cls p2
            have c3 := blkv F.cls p3
            have hg := GotA.mk rfl HVV.out (HRV.out _ F.cls)
            have FC := Lib.hid F.cls
            refine ⟨wanted_some rfl rfl (get_of dg (by simp [undef])), fun K hK => ?_⟩
            have HK := Lib.hid hK
            clear hK D F dg
            replace hg := Lib.hid hg
            go_simp
            exact HK.out _ _ FC.out (Below.refl _ _) hg.out
          · intro a w F D
            have dg : GB false (a.tmps.getD 60 undef) w := D ⟨6, .guard⟩ (by simp) rfl _ _ rfl rfl
            have o9 := get_of (F.at 9 (by kernel_rfl)) (by simp [undef])
            have c0 := blkv F.cls q0
            have c1 := blkv F.cls q1
            have c2 := blkv F.cls q2
            have c3 := blkv F.cls q3
            have hg := GotA.mk rfl HVW.out (HRW.out _ F.cls)
            have FC := Lib.hid F.cls
            refine ⟨wanted_some rfl rfl (get_of dg (by simp [undef])), fun K hK => ?_⟩
            have HK := Lib.hid hK
            clear hK D F dg
            replace hg := Lib.hid hg
            go_simp
            exact HK.out _ _ FC.out (Below.refl _ _) hg.out
          · intro a w F D
            have dg : GB false (a.tmps.getD 60 undef) w := D ⟨6, .guard⟩ (by simp) rfl _ _ rfl rfl
            obtain ⟨y61, e61, v61, r61⟩ : GotA (vV) (a.tmps.getD 61 undef) w := (D ⟨7, .data⟩ (by simp) rfl _ _ rfl rfl)
            replace e61 := get_of e61 (by simp [AV.val, undef])
            obtain ⟨y62, e62, v62, r62⟩ : GotA (vW) (a.tmps.getD 62 undef) w := (D ⟨8, .data⟩ (by simp) rfl _ _ rfl rfl)
            replace e62 := get_of e62 (by simp [AV.val, undef])
            have FC := Lib.hid F.cls
            refine ⟨wanted_some rfl rfl (get_of dg (by simp [undef])), fun K hK => ?_⟩
            have HK := Lib.hid hK
            clear hK D F dg
            go_simp
            refine (far_v HF.out.2.1 v61 v62 HWT.out.1 HWT.out.2.1 r61 r62).mono ?_
            rintro e w' ⟨rfl, hb⟩
            exact HK.out _ _ (below_via FC.out hb) hb rfl
          · intro a w F D
            have dg : GB false (a.tmps.getD 60 undef) w := D ⟨6, .guard⟩ (by simp) rfl _ _ rfl rfl
            have e63 : GI 1 (a.tmps.getD 63 undef) w := (D ⟨9, .data⟩ (by simp) rfl _ _ rfl rfl)
            replace e63 := get_of e63 (by simp [undef])
            have FC := Lib.hid F.cls
            refine ⟨wanted_some rfl rfl (get_of dg (by simp [undef])), fun K hK => ?_⟩
            have HK := Lib.hid hK
            clear hK D F dg
            go_simp
            exact HK.out _ _ FC.out (Below.refl _ _) rfl
          · intro a w F D
            have e60 : GB false (a.tmps.getD 60 undef) w := (D ⟨6, .data⟩ (by simp) rfl _ _ rfl rfl)
            replace e60 := get_of e60 (by simp [undef])
            have e64 : GB false (a.tmps.getD 64 undef) w := (D ⟨10, .data⟩ (by simp) rfl _ _ rfl rfl)
            replace e64 := get_of e64 (by simp [undef])
            have FC := Lib.hid F.cls
            refine ⟨wanted_none rfl, fun K hK => ?_⟩
            have HK := Lib.hid hK
            clear hK D F
            go_simp
            exact HK.out _ _ FC.out (Below.refl _ _) rfl
          · intro a w F D
            have e65 : GB false (a.tmps.getD 65 undef) w := (D ⟨11, .data⟩ (by simp) rfl _ _ rfl rfl)
            replace e65 := get_of e65 (by simp [undef])
            have FC := Lib.hid F.cls
            refine ⟨wanted_none rfl, fun K hK => ?_⟩
            have HK := Lib.hid hK
            clear hK D F
            go_simp
            exact HK.out _ _ FC.out (Below.refl _ _) rfl
          · intro a w F D
            have dg : GB false (a.tmps.getD 66 undef) w := D ⟨12, .guard⟩ (by simp) rfl _ _ rfl rfl
            have o9 := get_of (F.at 9 (by kernel_rfl)) (by simp [undef])
            have c0 := blkv F.cls q0
            have c1 := blkv F.cls q1
            have c2 := blkv F.cls q2
            have c3 := blkv F.cls q3
            have hg := GotA.mk rfl HVW.out (HRW.out _ F.cls)
            have FC := Lib.hid F.cls
            refine ⟨wanted_some rfl rfl (get_of dg (by simp [undef])), fun K hK => ?_⟩
            have HK := Lib.hid hK
            clear hK D F dg
            replace hg := Lib.hid hg
            go_simp
            exact HK.out _ _ FC.out (Below.refl _ _) hg.out
          · intro a w F D
            have dg : GB false (a.tmps.getD 66 undef) w := D ⟨12, .guard⟩ (by simp) rfl _ _ rfl rfl
            have o7 := get_of (F.at 7 (by kernel_rfl)) (by simp [undef])
            have c0 := blkv F.cls p0
            have c1 := blkv F.cls p1
            have c2 := blkv F.cls p2
            have c3 := blkv F.cls p3
            have hg := GotA.mk rfl HVV.out (HRV.out _ F.cls)
            have FC := Lib.hid F.cls
            refine ⟨wanted_some rfl rfl (get_of dg (by simp [undef])), fun K hK => ?_⟩
            have HK := Lib.hid hK
            clear hK D F dg
            replace hg := Lib.hid hg
            go_simp
            exact HK.out _ _ FC.out (Below.refl _ _) hg.out
          · intro a w F D
            have dg : GB false (a.tmps.getD 66 undef) w := D ⟨12, .guard⟩ (by simp) rfl _ _ rfl rfl
            obtain ⟨y67, e67, v67, r67⟩ : GotA (vW) (a.tmps.getD 67 undef) w := (D ⟨13, .data⟩ (by simp) rfl _ _ rfl rfl)
            replace e67 := get_of e67 (by simp [AV.val, undef])
            obtain ⟨y68, e68, v68, r68⟩ : GotA (vV) (a.tmps.getD 68 undef) w := (D ⟨14, .data⟩ (by simp) rfl _ _ rfl rfl)
            replace e68 := get_of e68 (by simp [AV.val, undef])
            have FC := Lib.hid F.cls
            refine ⟨wanted_some rfl rfl (get_of dg (by simp [undef])), fun K hK => ?_⟩
            have HK := Lib.hid hK
            clear hK D F dg
            go_simp
            refine (far_v HF.out.2.2.1 v67 v68 HWT.out.2.1 HWT.out.1 r67 r68).mono ?_
            rintro e w' ⟨rfl, hb⟩
            exact HK.out _ _ (below_via FC.out hb) hb rfl
          · intro a w F D
            have dg : GB false (a.tmps.getD 66 undef) w := D ⟨12, .guard⟩ (by simp) rfl _ _ rfl rfl
            have e69 : GI 1 (a.tmps.getD 69 undef) w := (D ⟨15, .data⟩ (by simp) rfl _ _ rfl rfl)
            replace e69 := get_of e69 (by simp [undef])
            have FC := Lib.hid F.cls
            refine ⟨wanted_some rfl rfl (get_of dg (by simp [undef])), fun K hK => ?_⟩
            have HK := Lib.hid hK
            clear hK D F dg
            go_simp
            exact HK.out _ _ FC.out (Below.refl _ _) rfl
          · intro a w F D
            have e66 : GB false (a.tmps.getD 66 undef) w := (D ⟨12, .data⟩ (by simp) rfl _ _ rfl rfl)
            replace e66 := get_of e66 (by simp [undef])
            have e70 : GB false (a.tmps.getD 70 undef) w := (D ⟨16, .data⟩ (by simp) rfl _ _ rfl rfl)
            replace e70 := get_of e70 (by simp [undef])
            have FC := Lib.hid F.cls
            refine ⟨wanted_none rfl, fun K hK => ?_⟩
            have HK := Lib.hid hK
            clear hK D F
            go_simp
            exact HK.out _ _ FC.out (Below.refl _ _) rfl
          · intro a w F D
            have e71 : GB false (a.tmps.getD 71 undef) w := (D ⟨17, .data⟩ (by simp) rfl _ _ rfl rfl)
            replace e71 := get_of e71 (by simp [undef])
            have FC := Lib.hid F.cls
            refine ⟨wanted_none rfl, fun K hK => ?_⟩
            have HK := Lib.hid hK
            clear hK D F
            go_simp
            exact HK.out _ _ FC.out (Below.refl _ _) rfl
          · intro a w F D
            have dg : GB false (a.tmps.getD 72 undef) w := D ⟨18, .guard⟩ (by simp) rfl _ _ rfl rfl
            have o7 := get_of (F.at 7 (by kernel_rfl)) (by simp [undef])
            have c0 := blkv F.cls p0
            have c1 := blkv F.cls p1
            have c2 := blkv F.cls p2
            have c3 := blkv F.cls p3
            have hg := GotA.mk rfl HVV.out (HRV.out _ F.cls)
            have FC := Lib.hid F.cls
            refine ⟨wanted_some rfl rfl (get_of dg (by simp [undef])), fun K hK => ?_⟩
            have HK := Lib.hid hK
            clear hK D F dg
            replace hg := Lib.hid hg
            go_simp
            exact HK.out _ _ FC.out (Below.refl _ _) hg.out
          · intro a w F D
            have dg : GB false (a.tmps.getD 72 undef) w := D ⟨18, .guard⟩ (by simp) rfl _ _ rfl rfl
            obtain ⟨y73, e73, v73, r73⟩ : GotA (vV) (a.tmps.getD 73 undef) w := (D ⟨19, .data⟩ (by simp) rfl _ _ rfl rfl)
            replace e73 := get_of e73 (by simp [AV.val, undef])
            have hg := gs1 (w := w) v73 r73
            have FC := Lib.hid F.cls
            refine ⟨wanted_some rfl rfl (get_of dg (by simp [undef])), fun K hK => ?_⟩
            have HK := Lib.hid hK
            clear hK D F dg
            replace hg := Lib.hid hg
            go_simp
            exact HK.out _ _ (below_al FC.out) (below_al (Below.refl _ _)) hg.out
          · intro a w F D
            have dg : GB false (a.tmps.getD 72 undef) w := D ⟨18, .guard⟩ (by simp) rfl _ _ rfl rfl
            obtain ⟨b74, ys74, e74, l74, hB74, r74⟩ : GotS [vV] (a.tmps.getD 74 undef) w := (D ⟨20, .data⟩ (by simp) rfl _ _ rfl rfl)
            replace e74 := get_of e74 (by simp [undef])
            have HC := Lib.hid (list_s l74 hB74 r74)
            clear l74 hB74 r74
            have FC := Lib.hid F.cls
            refine ⟨wanted_some rfl rfl (get_of dg (by simp [undef])), fun K hK => ?_⟩
            have HK := Lib.hid hK
            clear hK D F dg
            go_simp
            refine (HC.out).mono ?_
            rintro e w' ⟨y, rfl, hv, hr, hb⟩
            exact HK.out _ _ (below_via FC.out hb) hb ⟨y, rfl, hv, hr⟩
          · intro a w F D
            have dg : GB false (a.tmps.getD 72 undef) w := D ⟨18, .guard⟩ (by simp) rfl _ _ rfl rfl
            have o9 := get_of (F.at 9 (by kernel_rfl)) (by simp [undef])
            have c0 := blkv F.cls q0
            have c1 := blkv F.cls q1
            have c2 := blkv F.cls q2
            have c3 := blkv F.cls q3
            have hg := GotA.mk rfl HVW.out (HRW.out _ F.cls)
            have FC := Lib.hid F.cls
            refine ⟨wanted_some rfl rfl (get_of dg (by simp [undef])), fun K hK => ?_⟩
            have HK := Lib.hid hK
            clear hK D F dg
            replace hg := Lib.hid hg
            go_simp
            exact HK.out _ _ FC.out (Below.refl _ _) hg.out
          · intro a w F D
            have dg : GB false (a.tmps.getD 72 undef) w := D ⟨18, .guard⟩ (by simp) rfl _ _ rfl rfl
            obtain ⟨y75, e75, v75, r75⟩ : GotA (listV [vV]) (a.tmps.getD 75 undef) w := (D ⟨21, .data⟩ (by simp) rfl _ _ rfl rfl)
            replace e75 := get_of e75 (by simp [AV.val, undef])
            obtain ⟨y76, e76, v76, r76⟩ : GotA (vW) (a.tmps.getD 76 undef) w := (D ⟨22, .data⟩ (by simp) rfl _ _ rfl rfl)
            replace e76 := get_of e76 (by simp [AV.val, undef])
            have FC := Lib.hid F.cls
            refine ⟨wanted_some rfl rfl (get_of dg (by simp [undef])), fun K hK => ?_⟩
            have HK := Lib.hid hK
            clear hK D F dg
            go_simp
            refine (far_v HF.out.2.2.2 v75 v76 HWT.out.2.2 HWT.out.2.1 r75 r76).mono ?_
            rintro e w' ⟨rfl, hb⟩
            exact HK.out _ _ (below_via FC.out hb) hb rfl
          · intro a w F D
            have dg : GB false (a.tmps.getD 72 undef) w := D ⟨18, .guard⟩ (by simp) rfl _ _ rfl rfl
            have e77 : GI (d2 : Int) (a.tmps.getD 77 undef) w := (D ⟨23, .data⟩ (by simp) rfl _ _ rfl rfl)
            replace e77 := get_of e77 (by simp [undef])
            have hgt : decide ((2 : Int) < (d2 : Int)) = false := decide_eq_false (by have := HD2.out; omega)
            have hgt2 : decide (2 < d2) = false := decide_eq_false (by have := HD2.out; omega)
            have FC := Lib.hid F.cls
            refine ⟨wanted_some rfl rfl (get_of dg (by simp [undef])), fun K hK => ?_⟩
            have HK := Lib.hid hK
            clear hK D F dg
            go_simp
            exact HK.out _ _ FC.out (Below.refl _ _) rfl
          · intro a w F D
            have e72 : GB false (a.tmps.getD 72 undef) w := (D ⟨18, .data⟩ (by simp) rfl _ _ rfl rfl)
            replace e72 := get_of e72 (by simp [undef])
            have e78 : GB false (a.tmps.getD 78 undef) w := (D ⟨24, .data⟩ (by simp) rfl _ _ rfl rfl)
            replace e78 := get_of e78 (by simp [undef])
            have FC := Lib.hid F.cls
            refine ⟨wanted_none rfl, fun K hK => ?_⟩
            have HK := Lib.hid hK
            clear hK D F
            go_simp
            exact HK.out _ _ FC.out (Below.refl _ _) rfl
      case rest =>
        obtain ⟨rfl, HC⟩ := hcut
        obtain ⟨W9, hW9⟩ : ∃ W, W = wc := ⟨_, rfl⟩
        subst hW9
        have HV9 := Lib.hid (blk_via HC.out HV8.out)
        have HS9 := Lib.hid (blk_via HC.out HS8.out)
        have HW9 := Lib.hid (blk_via HC.out HW8.out)
        have HB9 := Lib.hid (below_via HB8.out HC.out)
        have HRV9 := Lib.hid (show ∀ W, Below W9.heap.size W9 W → Rd W zv from fun W h => HRV.out W (below_via HC.out h))
        have HRW9 := Lib.hid (show ∀ W, Below W9.heap.size W9 W → Rd W zw from fun W h => HRW.out W (below_via HC.out h))
        clear p0 p1 p2 p3 q0 q1 q2 q3 HRV HRW HV8 HS8 HW8
        obtain ⟨i, hi⟩ : ∃ i, i = at0 % l.l.length := ⟨_, rfl⟩
        have hil : i < l.l.length := by rw [hi]; exact Nat.mod_lt _ (by have := HNN.out; omega)
        have hv5 : IntKind.i64.wrap (at0 : Int) = (at0 : Int) := IntWalk.i64_in _ (by omega)
        have hmod : Int.tmod (at0 : Int) (l.l.length : Int) = (i : Int) := by rw [hi]; exact (Int.ofNat_tmod _ _).symm
        have hnz : ¬ (l.l.length : Int) = 0 := by have := HNN.out; omega
        have hnz2 : ¬ l.l.length = 0 := by have := HNN.out; omega
        have hnz3 : ¬ l.l = [] := fun e => hnz2 (by rw [e]; rfl)
        clear hi
        go_upto_region 11 with fail
        clear hv5 hmod hnz hnz2 hnz3
        have hks : l.l[i]? = some l.l[i] := List.getElem?_eq_getElem hil
        generalize l.l[i] = c at *
        have hlt' : (i : Int) < (l.l.length : Int) := by omega
        have hi0 : (0 : Int) ≤ (i : Int) := by omega
        obtain ⟨b, off, hla, -, -, -, c0, c1, c2, c3⟩ := vals_at (HSL.out W9 HB9.out) hks
        have HRC := Lib.hid (HKD.out c (List.mem_of_getElem? hks)).1
        have hwc := (HKD.out c (List.mem_of_getElem? hks)).2
        have HKS := Lib.hid hks
        have HLA := Lib.hid hla
        obtain ⟨r0, r1, r2, r3⟩ := vb4 HS9.out
        rw [hla]
        have LD := Lib.hid (fun W (h : Below W9.heap.size W9 W) => And.intro (blkv h r0) (And.intro (blkv h r1) (And.intro (blkv h r2) (And.intro (blkv h r3) (And.intro (blkv h c0) (And.intro (blkv h c1) (And.intro (blkv h c2) (blkv h c3))))))))
        clear c0 c1 c2 c3 r0 r1 r2 r3 hla hks
        by_cases k7 : c.k = 7
        · have k7' : (c.k == 7) = true := by simp [k7]
          clear k7
          refine wp_region_bl (by kernel_rfl) (by kernel_rfl) ?_
          repeat (first | go_big_quiet_skip | (go_big_quiet_want; go_big_quiet_op; first | go_big_quiet_on | (refine ⟨_, fun _ _ => (by with_reducible rfl), ?_⟩; go_big_quiet_on) | (apply Exists.intro; refine ⟨fun w' hC => (by simp only [LD.out w' hC, Result.andThen]; exact ⟨trivial, rfl⟩), ?_⟩; go_big_quiet_on)))
          refine wpQuiet_nil ?_; intro wz hbz
          go_wp2_with (go_at_call 24; (with_reducible refine (HLI _).out.mono ?_); rintro e w99 ⟨rfl, h99⟩)
          go_ret
          exact ⟨rfl, below_via (below_via HB9.out hbz) h99⟩
        have k7' : (c.k == 7) = false := by simp [k7]
        by_cases k8 : c.k = 8
        · have k8' : (c.k == 8) = true := by simp [k8]
          clear k7 k8
          refine wp_region_bl (by kernel_rfl) (by kernel_rfl) ?_
          repeat (first | go_big_quiet_skip | (go_big_quiet_want; go_big_quiet_op; first | go_big_quiet_on | (refine ⟨_, fun _ _ => (by with_reducible rfl), ?_⟩; go_big_quiet_on) | (apply Exists.intro; refine ⟨fun w' hC => (by simp only [LD.out w' hC, Result.andThen]; exact ⟨trivial, rfl⟩), ?_⟩; go_big_quiet_on)))
          refine wpQuiet_nil ?_; intro wz hbz
          go_wp2_with (go_at_call 24; (with_reducible refine (HLI _).out.mono ?_); rintro e w99 ⟨rfl, h99⟩)
          go_ret
          exact ⟨rfl, below_via (below_via HB9.out hbz) h99⟩
        have k8' : (c.k == 8) = false := by simp [k8]
        have HK78 := Lib.hid (And.intro k7 k8)
        clear k7 k8
        cases hsm : sameV c.v (textU tx) with
        | true =>
          have HH1 := fun W (h : Below W9.heap.size W9 W) => Lib.hid (show Calls Try.prog 36 #[c.val, ss.val] W (Ret (.bool true) W) by rw [← hsm, ← HSV.out]; exact same_c c ss W (HRC.out W (below_via HB9.out h)) (HRS.out W) hwc hws)
          clear hsm
          refine wp_region_bl (by kernel_rfl) (by kernel_rfl) ?_
          repeat (first | go_big_quiet_skip | (go_big_quiet_want; go_big_quiet_op; first | go_big_quiet_on | (refine ⟨_, fun _ _ => (by with_reducible rfl), ?_⟩; go_big_quiet_on) | (apply Exists.intro; refine ⟨fun w' hC => (by simp only [LD.out w' hC, Result.andThen]; exact ⟨trivial, rfl⟩), ?_⟩; go_big_quiet_on) | (apply Exists.intro; refine ⟨fun w' hC => (by (with_reducible refine (HH1 w' hC).out.mono ?_); exact fun e w2 ⟨he, hb⟩ => ⟨he, hC.trans (hb.mono hC.size)⟩), ?_⟩; go_big_quiet_on)))
          refine wpQuiet_nil ?_; intro wz hbz
          go_wp2_with (go_at_call 24; (with_reducible refine (HLI _).out.mono ?_); rintro e w99 ⟨rfl, h99⟩)
          go_ret
          exact ⟨rfl, below_via (below_via HB9.out hbz) h99⟩
        | false =>
          have HH1 := fun W (h : Below W9.heap.size W9 W) => Lib.hid (show Calls Try.prog 36 #[c.val, ss.val] W (Ret (.bool false) W) by rw [← hsm, ← HSV.out]; exact same_c c ss W (HRC.out W (below_via HB9.out h)) (HRS.out W) hwc hws)
          have HSMV := Lib.hid hsm
          clear hsm
          refine wp_region_bl (by kernel_rfl) (by kernel_rfl) ?_
          repeat (first | go_big_quiet_skip | (go_big_quiet_want; go_big_quiet_op; first | go_big_quiet_on | (refine ⟨_, fun _ _ => (by with_reducible rfl), ?_⟩; go_big_quiet_on) | (apply Exists.intro; refine ⟨fun w' hC => (by simp only [LD.out w' hC, Result.andThen]; exact ⟨trivial, rfl⟩), ?_⟩; go_big_quiet_on) | (apply Exists.intro; refine ⟨fun w' hC => (by (with_reducible refine (HH1 w' hC).out.mono ?_); exact fun e w2 ⟨he, hb⟩ => ⟨he, hC.trans (hb.mono hC.size)⟩), ?_⟩; go_big_quiet_on)))
          refine wpQuiet_nil ?_; intro wz hbz
          obtain ⟨W10, hW10⟩ : ∃ W, W = wz := ⟨_, rfl⟩
          subst hW10
          have HB10 := Lib.hid (below_via HB9.out hbz)
          have HV10 := Lib.hid (blk_via hbz HV9.out)
          have HS10 := Lib.hid (blk_via hbz HS9.out)
          have HW10 := Lib.hid (blk_via hbz HW9.out)
          have HD10 := Lib.hid hbz
          clear hbz LD HH1 HV9 HS9 HW9 k7' k8'
          obtain ⟨v', w', hr, hg, hb⟩ := app_first (N := W10.heap.size) (W0 := W10) (g := none) (c := l.c) (HSL.out W10 HB10.out) (fun r hr => ⟨fun W hW => (HKD.out r hr).1 W (below_via HB10.out hW), (HKD.out r hr).2⟩) (by have := HNN.out; omega) (Nat.le_refl _) (fun b hb => by cases hb)
          obtain ⟨g, cap, rfl, hgb, cur, hcur, -⟩ : ∃ g cap, v' = .slice (some ⟨g, 0, none⟩) l.l.length cap ∧ W10.heap.size ≤ g ∧ ∃ cur, w'.heap[g]? = some (.cells cur 26 (0, 0)) ∧ True := by
            rcases hg.2.1.2 with ⟨_, h0⟩ | ⟨g, cap, cur, e, h1, h2, _⟩
            · exact absurd h0 (by have := HNN.out; omega)
            · exact ⟨g, cap, e, h1, cur, h2, trivial⟩
          have hsl := hg.sl
          obtain ⟨o0, ho0⟩ : ∃ o0 : Nat, 0 = o0 := ⟨_, rfl⟩
          have hfz : ∀ o, w'.frozen? ⟨g, o, none⟩ = false := fun o => by simp [World.frozen?, hcur]
          rw [HLA.out] at hr
          have e0 : (⟨g, 0, none⟩ : Addr) = ⟨g, o0, none⟩ := by rw [ho0]
          rw [e0] at hr hsl
          obtain ⟨gb, goff, hga, -, -, -, c0, c1, c2, c3⟩ := vals_at hsl HKS.out
          injection hga with hga
          injection hga with hg1 hg2
          subst hg1
          subst hg2
          have f0 := hfz (o0 + i * 4)
          have f1 := hfz (o0 + i * 4 + 1)
          have f2 := hfz (o0 + i * 4 + 2)
          have f3 := hfz (o0 + i * 4 + 3)
          have HS11 := Lib.hid (blk_via hb HS10.out)
          obtain ⟨r0, r1, r2, r3⟩ := vb4 HS11.out
          have HGB := Lib.hid hgb
          have HSLX := Lib.hid hsl
          have HB11 := Lib.hid hb
          clear hg hb hsl hcur hfz hgb e0 ho0
          go_upto_region 14 with (at_builtin; refine wl_append (s := .const (.slice none 0 0)) (x := .tmp 108) rfl rfl (hr _) ?_)
          go_upto_region 15 with fail
          go_name_world W12 hW12
          have hsx : SlE AV.enc 4 W12 0 W12.heap.size (some ⟨g, o0, none⟩) (l.l.set i ss) := by
            have := sl_set4 (s := ss) HSLX.out hil
            rw [hW12] at this
            refine this.widen (Nat.le_refl _) ?_
            rw [← hW12]; simp
          have hb12 : Below W10.heap.size W10 W12 := by
            rw [← hW12]
            exact (((HB11.out.setCell (p := ⟨g, o0 + i * 4, none⟩) HGB.out _).setCell (p := ⟨g, o0 + i * 4 + 1, none⟩) HGB.out _).setCell (p := ⟨g, o0 + i * 4 + 2, none⟩) HGB.out _).setCell (p := ⟨g, o0 + i * 4 + 3, none⟩) HGB.out _
          have HB12 := Lib.hid (below_via HB10.out hb12)
          have hD12 := below_via HD10.out hb12
          have HV12 := Lib.hid (blk_via hb12 HV10.out)
          have HW12 := Lib.hid (blk_via hb12 HW10.out)
          obtain ⟨l1, l2, e1, e2⟩ : ∃ l1 l2, l.l = l1 ++ c :: l2 ∧ l.l.set i ss = l1 ++ ss :: l2 := by
            have hgc : l.l[i] = c := by have := HKS.out; rw [List.getElem?_eq_getElem hil] at this; injection this
            exact ⟨l.l.take i, l.l.drop (i + 1), by rw [← hgc, ← List.drop_eq_getElem_cons hil, List.take_append_drop], by rw [List.set_eq_take_append_cons_drop, if_pos hil]⟩
          have em : l.l.map AV.v = l1.map AV.v ++ c.v :: l2.map AV.v := by rw [e1]; simp
          obtain ⟨g1, d3, hd3, g2⟩ := set_facts (l1 := l1.map AV.v) (l2 := l2.map AV.v) (c := c.v) (s := tx) (em ▸ HMM.out.1) (em ▸ HMM.out.2) (by rw [AV.v_k]; exact HK78.out.1) (by rw [AV.v_k]; exact HK78.out.2) HSMV.out
          rw [← em, ← HVL.out] at g1
          rw [← em, ← HWL.out] at g2
          obtain ⟨xv, hxv⟩ : ∃ xv : AV, xv = ⟨7, ⟨#[]⟩, some ⟨g, o0, none⟩, cap, l.l.set i ss, none, 0, []⟩ := ⟨_, rfl⟩
          have hxval : xv.val = aggL (some ⟨g, o0, none⟩) l.l.length cap := by
            rw [hxv]
            show Value.agg #[.int .u8 7, .string ⟨#[]⟩, .slice (some ⟨g, o0, none⟩) (l.l.set i ss).length cap, .slice none 0 0] = _
            rw [List.length_set]
          have hxvv : xv.v = listV (l1.map AV.v ++ textU tx :: l2.map AV.v) := by
            have h1 : xv.v = listV ((l.l.set i ss).map AV.v) := by rw [hxv, AV.v_eq]; rfl
            rw [h1, e2]; simp [HSV.out]
          rw [← hxvv] at g1 g2
          have hkx : ∀ W, Below W12.heap.size W12 W → Rd W xv := fun W h => by
            rw [hxv]
            refine .mk (hsx.up h) SlE.nil (by simp) fun r hr => ?_
            rcases List.mem_or_eq_of_mem_set hr with hr | rfl
            · exact (HKD.out r hr).1 W (below_via HB12.out h)
            · exact HRS.out W
          have hwx : xv.w ≤ 1048576 := by
            show xv.v.w ≤ _
            have hvs := H15.out
            rw [e1] at hvs
            have hn := HNN.out
            have e3 : ∀ m : List AV, (List.map (Val.w ∘ AV.v) m) = m.map AV.w := fun m => rfl
            rw [hxvv, listV_w]
            simp only [List.map_append, List.map_cons, List.sum_append, List.sum_cons, List.map_map, textU_w, e3] at hvs ⊢
            omega
          have HH1 := fun W (_ : Below W12.heap.size W12 W) => Lib.hid (show Calls Try.prog 32 #[.slice (some ⟨g, o0, none⟩) l.l.length cap] W (Ret (aggL (some ⟨g, o0, none⟩) l.l.length cap) W) from list20_ex W _ _ _)
          have HH2 := fun W (h : Below W12.heap.size W12 W) => Lib.hid (show Calls Try.prog 26 #[zv.val, aggL (some ⟨g, o0, none⟩) l.l.length cap] W (Ret (.int .i64 1) W) by
            rw [← hxval]; exact far_v g1 HVV.out rfl hwv hwx (HRV9.out W (below_via hD12 h)) (hkx W h))
          have HH3 := fun W (h : Below W12.heap.size W12 W) => Lib.hid (show Calls Try.prog 26 #[aggL (some ⟨g, o0, none⟩) l.l.length cap, zw.val] W (Ret (.int .i64 (d3 : Int)) W) by
            rw [← hxval]; exact far_v g2 rfl HVW.out hwx HWT.out.2.1 (hkx W h) (HRW9.out W (below_via hD12 h)))
          have HH4 := fun W (_ : Below W12.heap.size W12 W) => HLI W
          have hd3a : decide ((d3 : Int) ≤ 2) = true := decide_eq_true (by omega)
          have hd3b : decide (d3 ≤ 2) = true := decide_eq_true hd3
          obtain ⟨p0, p1, p2, p3⟩ := vb4 HV12.out
          obtain ⟨q0, q1, q2, q3⟩ := vb4 HW12.out
          have LD := Lib.hid (fun W (h : Below W12.heap.size W12 W) => And.intro (blkv h p0) (And.intro (blkv h p1) (And.intro (blkv h p2) (And.intro (blkv h p3) (And.intro (blkv h q0) (And.intro (blkv h q1) (And.intro (blkv h q2) (blkv h q3))))))))
          clear p0 p1 p2 p3 q0 q1 q2 q3 r0 r1 r2 r3 c0 c1 c2 c3 f0 f1 f2 f3 hr hW12 hsx hb12 hD12 e1 e2 em g1 g2 hxv hxval hxvv hkx hwx hd3
          refine wp_region_bl (by kernel_rfl) (by kernel_rfl) ?_
          repeat (first | go_big_quiet_skip | (go_big_quiet_want; go_big_quiet_op; first | go_big_quiet_on | (refine ⟨_, fun _ _ => (by with_reducible rfl), ?_⟩; go_big_quiet_on) | (apply Exists.intro; refine ⟨fun w' hC => (by simp only [LD.out w' hC, Result.andThen]; exact ⟨trivial, rfl⟩), ?_⟩; go_big_quiet_on) | (apply Exists.intro; refine ⟨fun w' hC => (by (with_reducible refine (HH1 w' hC).out.mono ?_); exact fun e w2 ⟨he, hb⟩ => ⟨he, hC.trans (hb.mono hC.size)⟩), ?_⟩; go_big_quiet_on) | (apply Exists.intro; refine ⟨fun w' hC => (by (with_reducible refine (HH2 w' hC).out.mono ?_); exact fun e w2 ⟨he, hb⟩ => ⟨he, hC.trans (hb.mono hC.size)⟩), ?_⟩; go_big_quiet_on) | (apply Exists.intro; refine ⟨fun w' hC => (by (with_reducible refine (HH3 w' hC).out.mono ?_); exact fun e w2 ⟨he, hb⟩ => ⟨he, hC.trans (hb.mono hC.size)⟩), ?_⟩; go_big_quiet_on) | (apply Exists.intro; refine ⟨fun w' hC => (by (with_reducible refine (HH4 w' hC).out.mono ?_); exact fun e w2 ⟨he, hb⟩ => ⟨he, hC.trans (hb.mono hC.size)⟩), ?_⟩; go_big_quiet_on)))
          refine wpQuiet_nil ?_; intro wz hbz
          go_wp2_with fail
          go_ret
          exact ⟨rfl, below_via HB12.out hbz⟩
end Go.Proofs.Ytmhkacafilpliaa
