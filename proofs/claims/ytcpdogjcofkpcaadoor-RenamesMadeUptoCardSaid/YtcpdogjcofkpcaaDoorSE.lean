/-
  values.Key: a value's key. Conditions: the tree lies in memory, its weight is bounded; strconv's table of powers holds what its initialiser lays.
-/
import Derived.Test.YtcpdogjcofkpcaaDoorSD
namespace Go.Proofs.YtcpdogjcofkpcaaDoor
open Go.RowKit Go.Sort

theorem Pow.lt {w : World} (h : Pow w) : 1 < w.heap.size := by
  unfold Pow Lib.TabIs at h
  have hg : Tryd.prog.globalNamed "internal/strconv.uint64pow10" = some 1 := by kernel_rfl
  unfold World.var? at h
  rw [hg] at h
  simp only [Option.bind_some] at h
  rcases Nat.lt_or_ge 1 w.heap.size with hlt | hge
  · exact hlt
  · rw [Array.getElem?_eq_none hge] at h; cases h
theorem vsign_c : ∀ (n B b : Nat) (x : AV) (l : List UInt8) (w : World), x.In w 0 B → x.w ≤ 1048576 → x.v.within n = true → Bld B b l w → B ≤ w.heap.size → Pow w → 1 < B → l.length + 100 * x.w ≤ 1000000000 →
    Calls Tryd.prog 25 #[.pointer (some ⟨b, 0, none⟩), x.val] w (WrPost B b (l ++ signV n x.v) w)
  | 0, B, b, x, l, w, hx, hw, hwi, hB, hBw, hP, hgB, hl => by
    have hk : x.k < 7 := by
      rw [Val.within_0, Bool.and_eq_true, AV.v_k] at hwi
      simpa using hwi.2
    have h0 : x.l = [] := by
      have := (shape_leaf2 (within_sh hwi) (by rw [AV.v_k]; exact hk)).1
      rw [AV.v_l] at this
      exact List.map_eq_nil_iff.1 this
    have := vsign_list 0 B b l w x hx (by omega) hw hB hBw hP hgB hl (fun y hy => by rw [h0] at hy; cases hy)
    rw [AV.v_l, h0] at this
    rw [signV]
    simpa using this
  | n + 1, B, b, x, l, w, hx, hw, hwi, hB, hBw, hP, hgB, hl => by
    obtain ⟨sh, hk⟩ := within_k hwi
    have ih : SgKids n B b x := fun y hy l' w' hB' hBw' hy' hP' hl' =>
      vsign_c n B b y l' w' hy' (by have := x.w_kid hy; omega) (hk y.v (by rw [AV.v_l]; exact List.mem_map_of_mem hy)) hB' hBw' hP' hgB hl'
    rw [signV_s]
    by_cases h8 : x.k = 8
    · obtain ⟨_, hl8, hn8⟩ := shape_map sh (by rw [AV.v_k]; exact h8)
      rw [AV.v_ks] at hl8 hn8
      rw [AV.v_l, List.length_map] at hl8
      rw [AV.v_k, if_pos h8]
      exact vsign_map n B b l w x hx h8 hl8.symm hn8 hw hB hBw hP hgB hl ih
    · rw [AV.v_k, if_neg h8]
      exact vsign_list n B b l w x hx h8 hw hB hBw hP hgB hl ih

set_option maxRecDepth 100000 in
set_option maxHeartbeats 3200000 in
theorem key_c (x : AV) (w : World) (hx : Rd w x) (hw : x.w ≤ 1048576) (hP : Pow w) : Calls Tryd.prog 12 #[x.val] w (Ret (.string x.v.key) w) := by
  have hb0 := fun o => (Below.refl w.heap.size w).alloc (Nat.le_refl _) o
  have HM := fun W h => Lib.hid (may_c W x h hw)
  have hg := hP.lt
  cases hm : x.v.may with
  | false =>
    have HF := Lib.hid (show x.v.key = ⟨#[]⟩ by unfold Val.key; rw [hm]; rfl)
    rw [hm] at HM
    clear hm
    go_enter Tryd.func12, Tryd.ntmps12
    go_wp2_with (go_at_call 8; refine (HM _ (hx.up (hb0 _))).out.mono ?_; rintro e w2 ⟨rfl, hb⟩)
    go_ret
    exact ⟨by rw [HF.out]; rfl, below_via (hb0 _) hb⟩
  | true =>
    have HF := Lib.hid (show x.v.key = ⟨(signV 256 x.v).toArray⟩ by unfold Val.key; rw [hm]; rfl)
    have hwi : x.v.within 256 = true := by rw [Val.may_eq]; exact hm
    rw [hm] at HM
    have HW := fun (B b : Nat) (W : World) h1 h2 h3 h4 h5 => Lib.hid (vsign_c 256 B b x [] W h1 hw hwi h2 h3 h4 h5 (by simp; omega))
    clear hm hwi
    go_enter Tryd.func12, Tryd.ntmps12
    go_wp2_with (first
      | (go_at_call 8; refine (HM _ (hx.up (hb0 _))).out.mono ?_; rintro e w2 ⟨rfl, hb⟩
         have hbw := below_via (hb0 _) hb
         have hsz := hbw.size
         have hlt2 : w.heap.size < w2.heap.size := by (have := hb.size; simp at this; omega)
         obtain ⟨q0, q1, q2, q3, -, -, -, -⟩ := vbox4 (blk_new hb)
         have hx2 := (hx.up hbw).blw' ((Below.refl _ _).alloc (Nat.le_refl _) (.cells #[.pointer none, .slice none 0 0] 50))
         have hS2 := (hP.below hbw).below ((Below.refl _ _).alloc (Nat.le_refl _) (.cells #[.pointer none, .slice none 0 0] 50)))
      | (go_at_call 25; refine (HW _ _ _ hx2 (fresh_l w2) (by simp) hS2 (by omega)).out.mono ?_; rintro e w3 ⟨rfl, hB3, hk3⟩
         have hs3 := hk3.1.size
         simp only [World.size_alloc] at hs3)
      | (go_at_call 26; refine (bstring_l _ _ _ _ hB3 (by omega)).mono ?_; rintro e w4 ⟨rfl, hB4, hb4, hk4⟩))
    go_ret
    exact ⟨by rw [HF.out]; simp, hbw.trans ((((Below.refl _ _).alloc (Nat.le_refl _) _).trans (hk3.1.trans hb4)).mono hsz)⟩
end Go.Proofs.YtcpdogjcofkpcaaDoor
