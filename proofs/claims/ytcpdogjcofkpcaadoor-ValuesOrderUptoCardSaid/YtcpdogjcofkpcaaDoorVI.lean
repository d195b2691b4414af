/-
  values.write at lists and maps, and values.Text. Conditions: the tree lies in memory, its weight is bounded, it may be, the table of short escapes holds what its initialiser lays.
-/
import Derived.Test.YtcpdogjcofkpcaaDoorVH
namespace Go.Proofs.YtcpdogjcofkpcaaDoor
open Go.RowKit Go.Sort

/-- What is asked of the parts. -/
def WrKids (n B b : Nat) (x : AV) : Prop := ∀ y ∈ x.l, ∀ (l : List UInt8) (w : World), Bld B b l w → B ≤ w.heap.size → y.In w 0 B → Shorts w → l.length + 8 * y.w ≤ 100000000 → Calls Tryd.prog 27 #[.pointer (some ⟨b, 0, none⟩), y.val] w (WrPost B b (l ++ textV n y.v) w)

set_option maxRecDepth 100000 in
set_option maxHeartbeats 3200000 in
theorem vwrite_list (n B b : Nat) (l : List UInt8) (w : World) (x : AV) (h7 : x.k = 7) (hx : x.In w 0 B) (hw : x.w ≤ 1048576) (hB : Bld B b l w) (hBw : B ≤ w.heap.size) (hS : Shorts w) (hgB : 0 < B) (hl : l.length + 8 * x.w ≤ 100000000) (ih : WrKids n B b x) :
    Calls Tryd.prog 27 #[.pointer (some ⟨b, 0, none⟩), x.val] w (WrPost B b (l ++ textV (n + 1) x.v) w) := by
  have hll := x.w_l
  have hv : textV (n + 1) x.v = [91] ++ commaL (x.l.map fun y => textV n y.v) ++ [93] := by
    rw [textV_s, AV.v_k, if_neg (by omega), if_neg (by omega), if_pos h7, AV.v_l, List.map_map]; rfl
  have hlen : ∀ k, l.length + 1 + (commaL ((x.l.take k).map fun y => textV n y.v)).length + 2 ≤ 100000000 := fun k => by
    have h1 := commaL_take_len (fun y : AV => textV n y.v) x.l k
    have h2 : (x.l.map fun y => (textV n y.v).length + 1).sum ≤ (x.l.map fun y => 8 * y.w).sum := sum_le _ _ fun y _ => text_len n y.v
    rw [sum_mul] at h2
    have h3 := Val.w_eq x.v
    have h4 : (x.l.map AV.w).sum = (x.v.l.map Val.w).sum := by rw [AV.v_l, List.map_map]; rfl
    have h5 : x.v.w = x.w := rfl
    have h6 : (List.map (fun y => y.w) x.l).sum = (x.l.map AV.w).sum := rfl
    omega
  have hkid : ∀ (k : Nat) (y : AV), x.l[k]? = some y → l.length + 1 + (commaL ((x.l.take k).map fun y => textV n y.v)).length + 1 + 8 * y.w ≤ 100000000 := fun k y hk => by
    have h1 := commaL_len ((x.l.take k).map fun y => textV n y.v)
    rw [List.map_map] at h1
    have h2 : ((x.l.take k).map fun y => (textV n y.v).length + 1).sum ≤ ((x.l.take k).map fun y => 8 * y.w).sum := sum_le _ _ fun y _ => text_len n y.v
    rw [sum_mul] at h2
    have h3 := Val.w_eq x.v
    have h4 : (x.l.map AV.w).sum = (x.v.l.map Val.w).sum := by rw [AV.v_l, List.map_map]; rfl
    have h5 : x.v.w = x.w := rfl
    have h6 := congrArg (fun l => (l.map AV.w).sum) (List.take_append_drop k x.l)
    obtain ⟨hk1, hk2⟩ := List.getElem?_eq_some_iff.1 hk
    simp only [List.map_append, List.sum_append_nat, List.drop_eq_getElem_cons hk1, List.map_cons, List.sum_cons, hk2] at h6
    simp only [Function.comp_def] at h1
    have h7 : ((x.l.take k).map fun y => y.w).sum = ((x.l.take k).map AV.w).sum := rfl
    omega
  have HV := Lib.hid hv
  have HX := Lib.hid hx
  have e7 : (x.k == 7) = true := by simp [h7]
  have e0 : (x.k == 0) = false := by simp [h7]
  have e3 : (x.k == 3) = false := by simp [h7]
  have hB1 := hB.alloc (.cells #[.int .u8 x.k, .string x.t, .slice x.la x.l.length x.lc, .slice x.ka x.ks.length x.kc] 26)
  have hk1 : KB B b w (w.alloc (.cells #[.int .u8 x.k, .string x.t, .slice x.la x.l.length x.lc, .slice x.ka x.ks.length x.kc] 26)) := KB.refl.alloc hBw _
  have HW := Lib.hid (wb_k B b 91 91 rfl l _ hB1 (by omega) (by simp; omega))
  have hbl := hB.lt
  clear hv hx h7
  go_enter Tryd.func27, Tryd.ntmps27
  go_wp2_with (first
    | (go_at_call 52; refine HW.out.mono ?_; rintro e w2 ⟨rfl, hB2, hk2⟩
       obtain ⟨q0, q1, q2, q3, -, -, -, -⟩ := vbox4 (hk2.blk (heap_alloc_new w (.cells #[.int .u8 x.k, .string x.t, .slice x.la x.l.length x.lc, .slice x.ka x.ks.length x.kc] 26)) (by omega) ne_val)
       have hkw := hk1.trans hk2))
  have hsz2 := hkw.1.size
  clear q0 q1 q2 q3 hB1 hk1 hk2 HW
  go_loopw [32] (fun i wr => ∃ k : Nat, k ≤ x.l.length ∧ i = .int .i64 k ∧ Bld B b (l ++ [91] ++ commaL ((x.l.take k).map fun y => textV n y.v)) wr ∧ KB B b w wr) (fun i _ => x.l.length - (intOf i).toNat)
  case atStart => exact ⟨0, Nat.zero_le _, rfl, by simpa [commaL] using hB2, hkw⟩
  clear hB2 hkw hsz2
  case round =>
    obtain ⟨k, hkl, rfl, hBr, hkr⟩ := hrel
    have hsz := hkr.1.size
    have hln := hlen k
    by_cases hlt : k < x.l.length
    · have hks : x.l[k]? = some x.l[k] := List.getElem?_eq_getElem hlt
      have hmem : x.l[k] ∈ x.l := List.getElem_mem hlt
      generalize x.l[k] = y at *
      obtain ⟨c, off, hla, -, hc1, -, h0, h1, h2, h3⟩ := vals_at HX.out.sl hks
      rw [← hkr.1.cell (p := ⟨_, _, none⟩) hc1] at h0 h1 h2 h3
      have hcc : c < wr.heap.size := by omega
      have hlt' : (k : Int) < (x.l.length : Int) := by omega
      have hkd := hkid k y hks
      have HI := Lib.hid (ih y hmem)
      have HY := Lib.hid (HX.out.kid hmem)
      have HK := Lib.hid hks
      rw [hla]
      clear hks hla ih
      have hB1 := hBr.alloc (.cells #[.int .u8 y.k, .string y.t, .slice y.la y.l.length y.lc, .slice y.ka y.ks.length y.kc] 26)
      have hbl := hBr.lt
      have hk1 : KB B b w (wr.alloc (.cells #[.int .u8 y.k, .string y.t, .slice y.la y.l.length y.lc, .slice y.ka y.ks.length y.kc] 26)) := hkr.alloc (by omega) _
      by_cases hz : k = 0
      · have hst := Lib.hid (show commaL ((x.l.take (k + 1)).map fun y => textV n y.v) = textV n y.v by subst hz; exact commaL_take0 (fun y : AV => textV n y.v) HK.out)
        have hc0 := Lib.hid (show commaL ((x.l.take k).map fun y => textV n y.v) = [] by subst hz; rfl)
        have hz' : ¬ (0 : Int) < (k : Int) := by omega
        rw [hc0.out] at hB1
        have HC := Lib.hid (HI.out _ _ hB1 (by simp; omega) (HY.out.blw hk1.1 (Nat.le_refl _)) (hS.below_at hk1.1 hgB) (by simp; omega))
        clear hz
        go_wp2_with (go_at_call 27; refine HC.out.mono ?_; rintro e w3 ⟨rfl, hB3, hk3⟩)
        refine ⟨⟨k + 1, by omega, by go_num, ?_, hk1.trans hk3⟩, by simp [intOf]; omega⟩
        rw [hst.out]; simpa using hB3
      · have hst := Lib.hid (commaL_take (fun y : AV => textV n y.v) HK.out hz)
        generalize commaL ((x.l.take k).map fun y => textV n y.v) = T at *
        have HW := Lib.hid (wb_k B b 44 44 rfl _ _ hB1 (by simp; omega) (by simp; omega))
        have hz' : (0 : Int) < (k : Int) := by omega
        have hcl : ∀ W, Bld B b (l ++ [91] ++ T ++ [44]) W → KB B b w W → Hid (Calls Tryd.prog 27 #[.pointer (some ⟨b, 0, none⟩), y.val] W (WrPost B b (l ++ [91] ++ T ++ [44] ++ textV n y.v) W)) := fun W h1 h2 =>
          Lib.hid (HI.out _ _ h1 (by have := h2.1.size; omega) (HY.out.blw h2.1 (Nat.le_refl _)) (hS.below_at h2.1 hgB) (by simp; omega))
        have HCL := Lib.hid hcl
        clear hcl hz
        go_wp2_with (first
          | (go_at_call 52; refine HW.out.mono ?_; rintro e w2 ⟨rfl, hB2, hk2⟩
             obtain ⟨q0, q1, q2, q3, -, -, -, -⟩ := vbox4 (hk2.blk (heap_alloc_new wr (.cells #[.int .u8 y.k, .string y.t, .slice y.la y.l.length y.lc, .slice y.ka y.ks.length y.kc] 26)) (by omega) ne_val)
             have hkw := hk1.trans hk2)
          | (go_at_call 27; refine (HCL.out _ hB2 hkw).out.mono ?_; rintro e w3 ⟨rfl, hB3, hk3⟩))
        refine ⟨⟨k + 1, by omega, by go_num, ?_, hkw.trans hk3⟩, by simp [intOf]; omega⟩
        rw [hst.out]; simpa using hB3
    · obtain rfl : k = x.l.length := by omega
      rw [List.take_length] at hBr hln
      generalize commaL (x.l.map fun y => textV n y.v) = T at *
      have HW := Lib.hid (wb_k B b 93 93 rfl _ _ hBr (by simp; omega) (by omega))
      go_wp2_with (go_at_call 52; refine HW.out.mono ?_; rintro e w2 ⟨rfl, hB2, hk2⟩)
      go_end0
      exact ⟨rfl, by rw [HV.out]; simpa using hB2, hkr.trans hk2⟩
end Go.Proofs.YtcpdogjcofkpcaaDoor
