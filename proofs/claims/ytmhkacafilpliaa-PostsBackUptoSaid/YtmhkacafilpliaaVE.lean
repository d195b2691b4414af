/-
  The reference's plain, as a plain function of a value. Conditions: the tree lies in memory, its weight is bounded.
  The reference's plain (maps) and May, and the law's Weight and Great, as plain functions of a value. Conditions: the tree lies in memory, its weight is bounded.
-/
import Derived.Test.YtmhkacafilpliaaVC
import Derived.Test.YtmhkacafilpliaaP3
namespace Go.Proofs.Ytmhkacafilpliaa
open Go.RowKit Go.Sort

/-- What a shape asks but for the keys. -/
def Val.head (v : Val) : Bool :=
  if v.k = 0 then decide (v.t.toList = []) && decide (v.l.length + v.ks.length = 0)
  else if v.k = 1 then (decide (v.t.toList = [116, 114, 117, 101]) || decide (v.t.toList = [102, 97, 108, 115, 101])) && decide (v.l.length + v.ks.length = 0)
  else if v.k = 3 then decide (v.l.length + v.ks.length = 0)
  else if v.k = 2 ∨ v.k = 4 ∨ v.k = 5 ∨ v.k = 6 then decide (¬ v.t.toList = []) && decide (v.l.length + v.ks.length = 0)
  else if v.k = 7 then decide (v.t.toList = []) && decide (v.ks.length = 0)
  else if v.k = 8 then decide (v.t.toList = []) && decide (v.ks.length = v.l.length)
  else false
theorem shape_head (v : Val) : v.shape = (v.head && decide v.ks.Nodup) := by
  have hz : ∀ l : List ByteArray, l.length = 0 → decide l.Nodup = true := fun l h => by rw [List.eq_nil_of_length_eq_zero h]; rfl
  have hz2 : ∀ (b : Bool) (n : Nat), (b && decide (n + v.ks.length = 0)) = ((b && decide (n + v.ks.length = 0)) && decide v.ks.Nodup) := fun b n => by
    by_cases h : n + v.ks.length = 0
    · rw [hz v.ks (by omega), Bool.and_true]
    · rw [decide_eq_false h]; simp
  unfold Val.shape Val.head
  split
  · exact hz2 _ _
  split
  · exact hz2 _ _
  split
  · have := hz2 true v.l.length; simpa using this
  split
  · exact hz2 _ _
  split
  · by_cases h : v.ks.length = 0
    · rw [hz v.ks h, Bool.and_true]
    · simp [h]
  split
  · rfl
  · rfl

theorem plain_head (x : AV) : x.v.plain = ((x.v.head && decide x.ks.Nodup) && x.l.all fun y => y.v.plain) := by
  rw [Val.plain_eq, shape_head, AV.v_ks, AV.v_l, List.map_map, List.all_map]
  rfl

set_option maxRecDepth 100000 in
set_option maxHeartbeats 3200000 in
theorem plain_no (x : AV) (w : World) (hx : Rd w x) (hw : x.w ≤ 1048576) (hh : x.v.head = false) : Calls Try.prog 67 #[x.val] w (Ret (.bool false) w) := by
  have hb0 := fun o => (Below.refl w.heap.size w).alloc (Nat.le_refl _) o
  have hlk := x.w_ks
  have hll := x.w_l
  have hkd := hx.kind
  simp only [Val.head, AV.v_k, AV.v_t, AV.v_l, AV.v_ks, List.length_map] at hh
  obtain ⟨k, t, la, lc, l, ka, kc, ks⟩ := x
  simp only [AV.val] at *
  generalize l.length = n at *
  generalize ks.length = m at *
  clear hx
  by_cases hk : k = 0 ∨ k = 1 ∨ k = 2 ∨ k = 3 ∨ k = 4 ∨ k = 5 ∨ k = 6 ∨ k = 7 ∨ k = 8
  · rcases hk with rfl | rfl | rfl | rfl | rfl | rfl | rfl | rfl | rfl
    all_goals
      have hv := Lib.hid hh
      clear hh
      go_enter Try.func67, Try.ntmps67
      go_wp2_with fail
      all_goals first
        | (go_ret; exact ⟨rfl, hb0 _⟩)
        | (exfalso
           have hq := hv.out
           simp [isEmpty_dec] at *
           simp_all
           try omega)
  · have g : 8 < k := by omega
    clear hk hh
    go_enter Try.func67, Try.ntmps67
    go_wp2_with fail
    go_ret
    exact ⟨rfl, hb0 _⟩

set_option maxRecDepth 100000 in
set_option maxHeartbeats 3200000 in
theorem plain_yesA (x : AV) (w : World) (hx : Rd w x) (hw : x.w ≤ 1048576) (hh : x.v.head = true) (hk : x.k = 0 ∨ x.k = 1 ∨ x.k = 2 ∨ x.k = 3 ∨ x.k = 4 ∨ x.k = 5 ∨ x.k = 6) (ih : ∀ y ∈ x.l, ∀ W, Rd W y → y.w ≤ 1048576 → Calls Try.prog 67 #[y.val] W (Ret (.bool y.v.plain) W)) :
    Calls Try.prog 67 #[x.val] w (Ret (.bool x.v.plain) w) := by
  have hb0 := fun o => (Below.refl w.heap.size w).alloc (Nat.le_refl _) o
  have hlk := x.w_ks
  have hll := x.w_l
  have hkd := hx.kind
  have HP := Lib.hid (show x.v.plain = (decide x.ks.Nodup && x.l.all fun y => y.v.plain) by rw [plain_head, hh, Bool.true_and])
  have HC := fun (y : AV) (hy : y ∈ x.l) (W : World) (hb : Below w.heap.size w W) => Lib.hid (ih y hy W (hx.kid_at hb hy) (by have := x.w_kid hy; omega))
  have HX := Lib.hid hx
  simp only [Val.head, AV.v_k, AV.v_t, AV.v_l, AV.v_ks, List.length_map] at hh
  clear ih
  have hn : x.l.length = 0 ∧ x.ks.length = 0 := by
    rcases hk with h | h | h | h | h | h | h <;> rw [h] at hh <;> simp at hh <;> simp [hh]
  have hfin := Lib.hid (show x.v.plain = true by
    rw [HP.out, List.eq_nil_of_length_eq_zero hn.1, List.eq_nil_of_length_eq_zero hn.2]; rfl)
  obtain ⟨hn1, hn2⟩ := hn
  have n1 : ¬ 0 < x.l.length := by omega
  have n2 : ¬ 0 < x.ks.length := by omega
  clear hn1 hn2 HC HP
  rcases hk with h | h | h | h | h | h | h
  · rw [h] at hh
    simp at hh
    have f0 : (x.k == 0) = true := by rw [h]; rfl
    have f7 : (x.k == 7) = false := by rw [h]; rfl
    have f8 : (x.k == 8) = false := by rw [h]; rfl
    have f1 : (x.k == 1) = false := by rw [h]; rfl
    have f2 : (x.k == 2) = false := by rw [h]; rfl
    have f4 : (x.k == 4) = false := by rw [h]; rfl
    have f5 : (x.k == 5) = false := by rw [h]; rfl
    have f6 : (x.k == 6) = false := by rw [h]; rfl
    have fg : decide (8 < x.k) = false := by rw [h]; rfl
    have fn : (x.k != 8) = true := by rw [h]; rfl
    have fl : decide (x.k < 7) = true := by rw [h]; rfl
    have t0 : (!x.t.toList.isEmpty) = false := by rw [isEmpty_dec]; simp [hh.1]
    have HH := Lib.hid hh
    clear hh h
    go_enter Try.func67, Try.ntmps67
    go_wp2_with fail
    refine wp_loop_rounds 1 ?_
    rw [rounds_succ]
    go_wp2_with fail
    refine wp_loop_rounds 1 ?_
    rw [rounds_succ]
    go_wp2_with fail
    go_ret
    exact ⟨by rw [hfin.out]; rfl, hb0 _⟩
  · rw [h] at hh
    simp at hh
    have f0 : (x.k == 0) = false := by rw [h]; rfl
    have f7 : (x.k == 7) = false := by rw [h]; rfl
    have f8 : (x.k == 8) = false := by rw [h]; rfl
    have f1 : (x.k == 1) = true := by rw [h]; rfl
    have f2 : (x.k == 2) = false := by rw [h]; rfl
    have f4 : (x.k == 4) = false := by rw [h]; rfl
    have f5 : (x.k == 5) = false := by rw [h]; rfl
    have f6 : (x.k == 6) = false := by rw [h]; rfl
    have fg : decide (8 < x.k) = false := by rw [h]; rfl
    have fn : (x.k != 8) = true := by rw [h]; rfl
    have fl : decide (x.k < 7) = true := by rw [h]; rfl
    have HH := Lib.hid hh
    clear hh h
    go_enter Try.func67, Try.ntmps67
    go_wp2_with fail
    all_goals first
      | (exfalso; have hq := HH.out; simp_all; done)
      | skip
    all_goals
      refine wp_loop_rounds 1 ?_
      rw [rounds_succ]
      go_wp2_with fail
      refine wp_loop_rounds 1 ?_
      rw [rounds_succ]
      go_wp2_with fail
      go_ret
      exact ⟨by rw [hfin.out]; rfl, hb0 _⟩
  · rw [h] at hh
    simp at hh
    have f0 : (x.k == 0) = false := by rw [h]; rfl
    have f7 : (x.k == 7) = false := by rw [h]; rfl
    have f8 : (x.k == 8) = false := by rw [h]; rfl
    have f1 : (x.k == 1) = false := by rw [h]; rfl
    have f2 : (x.k == 2) = true := by rw [h]; rfl
    have f4 : (x.k == 4) = false := by rw [h]; rfl
    have f5 : (x.k == 5) = false := by rw [h]; rfl
    have f6 : (x.k == 6) = false := by rw [h]; rfl
    have fg : decide (8 < x.k) = false := by rw [h]; rfl
    have fn : (x.k != 8) = true := by rw [h]; rfl
    have fl : decide (x.k < 7) = true := by rw [h]; rfl
    have t0 : x.t.toList.isEmpty = false := by rw [isEmpty_dec]; simp [hh.1]
    have HH := Lib.hid hh
    clear hh h
    go_enter Try.func67, Try.ntmps67
    go_wp2_with fail
    refine wp_loop_rounds 1 ?_
    rw [rounds_succ]
    go_wp2_with fail
    refine wp_loop_rounds 1 ?_
    rw [rounds_succ]
    go_wp2_with fail
    go_ret
    exact ⟨by rw [hfin.out]; rfl, hb0 _⟩
  · rw [h] at hh
    simp at hh
    have f0 : (x.k == 0) = false := by rw [h]; rfl
    have f7 : (x.k == 7) = false := by rw [h]; rfl
    have f8 : (x.k == 8) = false := by rw [h]; rfl
    have f1 : (x.k == 1) = false := by rw [h]; rfl
    have f2 : (x.k == 2) = false := by rw [h]; rfl
    have f4 : (x.k == 4) = false := by rw [h]; rfl
    have f5 : (x.k == 5) = false := by rw [h]; rfl
    have f6 : (x.k == 6) = false := by rw [h]; rfl
    have fg : decide (8 < x.k) = false := by rw [h]; rfl
    have fn : (x.k != 8) = true := by rw [h]; rfl
    have fl : decide (x.k < 7) = true := by rw [h]; rfl
    have HH := Lib.hid hh
    clear hh h
    go_enter Try.func67, Try.ntmps67
    go_wp2_with fail
    refine wp_loop_rounds 1 ?_
    rw [rounds_succ]
    go_wp2_with fail
    refine wp_loop_rounds 1 ?_
    rw [rounds_succ]
    go_wp2_with fail
    go_ret
    exact ⟨by rw [hfin.out]; rfl, hb0 _⟩
  · rw [h] at hh
    simp at hh
    have f0 : (x.k == 0) = false := by rw [h]; rfl
    have f7 : (x.k == 7) = false := by rw [h]; rfl
    have f8 : (x.k == 8) = false := by rw [h]; rfl
    have f1 : (x.k == 1) = false := by rw [h]; rfl
    have f2 : (x.k == 2) = false := by rw [h]; rfl
    have f4 : (x.k == 4) = true := by rw [h]; rfl
    have f5 : (x.k == 5) = false := by rw [h]; rfl
    have f6 : (x.k == 6) = false := by rw [h]; rfl
    have fg : decide (8 < x.k) = false := by rw [h]; rfl
    have fn : (x.k != 8) = true := by rw [h]; rfl
    have fl : decide (x.k < 7) = true := by rw [h]; rfl
    have t0 : x.t.toList.isEmpty = false := by rw [isEmpty_dec]; simp [hh.1]
    have HH := Lib.hid hh
    clear hh h
    go_enter Try.func67, Try.ntmps67
    go_wp2_with fail
    refine wp_loop_rounds 1 ?_
    rw [rounds_succ]
    go_wp2_with fail
    refine wp_loop_rounds 1 ?_
    rw [rounds_succ]
    go_wp2_with fail
    go_ret
    exact ⟨by rw [hfin.out]; rfl, hb0 _⟩
  · rw [h] at hh
    simp at hh
    have f0 : (x.k == 0) = false := by rw [h]; rfl
    have f7 : (x.k == 7) = false := by rw [h]; rfl
    have f8 : (x.k == 8) = false := by rw [h]; rfl
    have f1 : (x.k == 1) = false := by rw [h]; rfl
    have f2 : (x.k == 2) = false := by rw [h]; rfl
    have f4 : (x.k == 4) = false := by rw [h]; rfl
    have f5 : (x.k == 5) = true := by rw [h]; rfl
    have f6 : (x.k == 6) = false := by rw [h]; rfl
    have fg : decide (8 < x.k) = false := by rw [h]; rfl
    have fn : (x.k != 8) = true := by rw [h]; rfl
    have fl : decide (x.k < 7) = true := by rw [h]; rfl
    have t0 : x.t.toList.isEmpty = false := by rw [isEmpty_dec]; simp [hh.1]
    have HH := Lib.hid hh
    clear hh h
    go_enter Try.func67, Try.ntmps67
    go_wp2_with fail
    refine wp_loop_rounds 1 ?_
    rw [rounds_succ]
    go_wp2_with fail
    refine wp_loop_rounds 1 ?_
    rw [rounds_succ]
    go_wp2_with fail
    go_ret
    exact ⟨by rw [hfin.out]; rfl, hb0 _⟩
  · rw [h] at hh
    simp at hh
    have f0 : (x.k == 0) = false := by rw [h]; rfl
    have f7 : (x.k == 7) = false := by rw [h]; rfl
    have f8 : (x.k == 8) = false := by rw [h]; rfl
    have f1 : (x.k == 1) = false := by rw [h]; rfl
    have f2 : (x.k == 2) = false := by rw [h]; rfl
    have f4 : (x.k == 4) = false := by rw [h]; rfl
    have f5 : (x.k == 5) = false := by rw [h]; rfl
    have f6 : (x.k == 6) = true := by rw [h]; rfl
    have fg : decide (8 < x.k) = false := by rw [h]; rfl
    have fn : (x.k != 8) = true := by rw [h]; rfl
    have fl : decide (x.k < 7) = true := by rw [h]; rfl
    have t0 : x.t.toList.isEmpty = false := by rw [isEmpty_dec]; simp [hh.1]
    have HH := Lib.hid hh
    clear hh h
    go_enter Try.func67, Try.ntmps67
    go_wp2_with fail
    refine wp_loop_rounds 1 ?_
    rw [rounds_succ]
    go_wp2_with fail
    refine wp_loop_rounds 1 ?_
    rw [rounds_succ]
    go_wp2_with fail
    go_ret
    exact ⟨by rw [hfin.out]; rfl, hb0 _⟩

set_option maxRecDepth 100000 in
set_option maxHeartbeats 3200000 in
theorem plain_yesB (x : AV) (w : World) (hx : Rd w x) (hw : x.w ≤ 1048576) (hh : x.v.head = true) (h : x.k = 7) (ih : ∀ y ∈ x.l, ∀ W, Rd W y → y.w ≤ 1048576 → Calls Try.prog 67 #[y.val] W (Ret (.bool y.v.plain) W)) :
    Calls Try.prog 67 #[x.val] w (Ret (.bool x.v.plain) w) := by
  have hb0 := fun o => (Below.refl w.heap.size w).alloc (Nat.le_refl _) o
  have hlk := x.w_ks
  have hll := x.w_l
  have hkd := hx.kind
  have HP := Lib.hid (show x.v.plain = (decide x.ks.Nodup && x.l.all fun y => y.v.plain) by rw [plain_head, hh, Bool.true_and])
  have HC := fun (y : AV) (hy : y ∈ x.l) (W : World) (hb : Below w.heap.size w W) => Lib.hid (ih y hy W (hx.kid_at hb hy) (by have := x.w_kid hy; omega))
  have HX := Lib.hid hx
  simp only [Val.head, AV.v_k, AV.v_t, AV.v_l, AV.v_ks, List.length_map] at hh
  clear ih
  rw [h] at hh
  simp at hh
  have f0 : (x.k == 0) = false := by rw [h]; rfl
  have f7 : (x.k == 7) = true := by rw [h]; rfl
  have f8 : (x.k == 8) = false := by rw [h]; rfl
  have f1 : (x.k == 1) = false := by rw [h]; rfl
  have f2 : (x.k == 2) = false := by rw [h]; rfl
  have f4 : (x.k == 4) = false := by rw [h]; rfl
  have f5 : (x.k == 5) = false := by rw [h]; rfl
  have f6 : (x.k == 6) = false := by rw [h]; rfl
  have fg : decide (8 < x.k) = false := by rw [h]; rfl
  have fn : (x.k != 8) = true := by rw [h]; rfl
  have fl : decide (x.k < 7) = false := by rw [h]; rfl
  have t0 : (!x.t.toList.isEmpty) = false := by rw [isEmpty_dec]; simp [hh.1]
  have n2 : ¬ 0 < x.ks.length := by simp [hh.2]
  have hnd := Lib.hid (show decide x.ks.Nodup = true by rw [hh.2]; rfl)
  clear hh h
  go_enter Try.func67, Try.ntmps67
  go_wp2_with fail
  refine wp_loop_rounds 1 ?_
  rw [rounds_succ]
  go_wp2_with fail
  go_loopw [5] (fun i wr => ∃ k : Nat, k ≤ x.l.length ∧ i = .int .i64 k ∧ ((x.l.take k).all fun y => y.v.plain) = true ∧ Below (w.heap.size + 1) (w.alloc (.cells #[.int .u8 x.k, .string x.t, .slice x.la x.l.length x.lc, .slice x.ka x.ks.length x.kc] 26)) wr) (fun i _ => x.l.length - (intOf i).toNat)
  case atStart => exact ⟨0, Nat.zero_le _, rfl, rfl, Below.refl _ _⟩
  case round =>
    obtain ⟨k, hkl, rfl, hall, hbx⟩ := hrel
    obtain ⟨q0, q1, q2, q3⟩ := bx hbx
    have hbw := bx_w hbx
    have hsz := hbw.size
    by_cases hlt : k < x.l.length
    · have hks : x.l[k]? = some x.l[k] := List.getElem?_eq_getElem hlt
      have hmem : x.l[k] ∈ x.l := List.getElem_mem hlt
      have htk : ((x.l.take (k + 1)).all fun y => y.v.plain) = x.l[k].v.plain := by rw [List.take_add_one, List.all_append, hks, hall]; simp
      have hno : x.l[k].v.plain = false → (x.l.all fun y => y.v.plain) = false := fun h => List.all_eq_false.2 ⟨_, hmem, by rw [h]; simp⟩
      generalize x.l[k] = y at *
      obtain ⟨b, off, hla, -, hb1, hb2, h0, h1, h2, h3⟩ := vals_at HX.out.sl hks
      rw [← hbw.cell (p := ⟨_, _, none⟩) hb2] at h0 h1 h2 h3
      rw [hla] at q2
      have hbb : b < wr.heap.size := Nat.lt_of_lt_of_le hb2 hbw.size
      have hlt' : (k : Int) < (x.l.length : Int) := by omega
      have HC' := fun W h => HC y hmem W h
      have HT := Lib.hid htk
      have HN := Lib.hid hno
      clear hks htk hla HC hall hno
      cases hyp : y.v.plain with
      | false =>
        have hfin := Lib.hid (HN.out hyp)
        rw [hyp] at HC'
        clear hyp
        go_wp2_with (go_at_call 67; refine (HC' _ hbw).out.mono ?_; rintro e w2 ⟨rfl, hb⟩)
        go_ret
        exact ⟨by rw [HP.out, hfin.out, Bool.and_false]; rfl, below_via hbw hb⟩
      | true =>
        have hfin := Lib.hid (HT.out.trans hyp)
        rw [hyp] at HC'
        clear hyp
        go_wp2_with (go_at_call 67; refine (HC' _ hbw).out.mono ?_; rintro e w2 ⟨rfl, hb⟩)
        refine ⟨⟨k + 1, by omega, by go_num, hfin.out, hbx.trans (hb.mono (by have := hbx.size; simp at this; omega))⟩, by simp [intOf]; omega⟩
    · obtain rfl : k = x.l.length := by omega
      rw [List.take_length] at hall
      have HA := Lib.hid hall
      clear hall
      go_wp2_with fail
      go_ret
      exact ⟨by rw [HP.out, HA.out, hnd.out]; rfl, hbw⟩
end Go.Proofs.Ytmhkacafilpliaa

namespace Go.Proofs.Ytmhkacafilpliaa
open Go.RowKit Go.Sort

theorem nodup_no {α : Type} {l : List α} {m k : Nat} {s : α} (hmk : m < k) (h1 : l[m]? = some s) (h2 : l[k]? = some s) : ¬ l.Nodup := fun hn => by
  obtain ⟨a1, b1⟩ := List.getElem?_eq_some_iff.1 h1
  obtain ⟨a2, b2⟩ := List.getElem?_eq_some_iff.1 h2
  have := (List.getElem_inj hn).1 (b1.trans b2.symm)
  omega
theorem nodup_snoc {α : Type} {l : List α} {k : Nat} {s : α} (h : (l.take k).Nodup) (hs : l[k]? = some s) (hn : ∀ q, q < k → l[q]? ≠ some s) : (l.take (k + 1)).Nodup := by
  rw [List.take_add_one, hs]
  refine List.nodup_append.2 ⟨h, by simp, fun a ha b hb e => ?_⟩
  simp at hb
  subst hb; subst e
  obtain ⟨q, hq, e⟩ := List.mem_iff_getElem.1 ha
  simp only [List.length_take] at hq
  rw [List.getElem_take] at e
  exact hn q (by omega) (by rw [List.getElem?_eq_getElem (by omega), e])

set_option maxRecDepth 100000 in
set_option maxHeartbeats 3200000 in
theorem plain_yesC (x : AV) (w : World) (hx : Rd w x) (hw : x.w ≤ 1048576) (hh : x.v.head = true) (h : x.k = 8) (ih : ∀ y ∈ x.l, ∀ W, Rd W y → y.w ≤ 1048576 → Calls Try.prog 67 #[y.val] W (Ret (.bool y.v.plain) W)) :
    Calls Try.prog 67 #[x.val] w (Ret (.bool x.v.plain) w) := by
  have hb0 := fun o => (Below.refl w.heap.size w).alloc (Nat.le_refl _) o
  have hlk := x.w_ks
  have hll := x.w_l
  have hkd := hx.kind
  have HP := Lib.hid (show x.v.plain = (decide x.ks.Nodup && x.l.all fun y => y.v.plain) by rw [plain_head, hh, Bool.true_and])
  have HC := fun (y : AV) (hy : y ∈ x.l) (W : World) (hb : Below w.heap.size w W) => Lib.hid (ih y hy W (hx.kid_at hb hy) (by have := x.w_kid hy; omega))
  have HX := Lib.hid hx
  simp only [Val.head, AV.v_k, AV.v_t, AV.v_l, AV.v_ks, List.length_map] at hh
  clear ih
  rw [h] at hh
  simp at hh
  have f0 : (x.k == 0) = false := by rw [h]; rfl
  have f7 : (x.k == 7) = false := by rw [h]; rfl
  have f8 : (x.k == 8) = true := by rw [h]; rfl
  have f1 : (x.k == 1) = false := by rw [h]; rfl
  have f2 : (x.k == 2) = false := by rw [h]; rfl
  have f4 : (x.k == 4) = false := by rw [h]; rfl
  have f5 : (x.k == 5) = false := by rw [h]; rfl
  have f6 : (x.k == 6) = false := by rw [h]; rfl
  have fg : decide (8 < x.k) = false := by rw [h]; rfl
  have fn : (x.k != 8) = false := by rw [h]; rfl
  have fl : decide (x.k < 7) = false := by rw [h]; rfl
  have t0 : (!x.t.toList.isEmpty) = false := by rw [isEmpty_dec]; simp [hh.1]
  have n2 : ((x.ks.length : Int) != x.l.length) = false := by rw [hh.2]; simp
  clear hh h
  go_enter Try.func67, Try.ntmps67
  go_wp2_with fail
  go_loopw [3, 4] (fun i _ wr => ∃ k : Nat, k ≤ x.ks.length ∧ i = .int .i64 k ∧ (x.ks.take k).Nodup ∧ Below (w.heap.size + 1) (w.alloc (.cells #[.int .u8 x.k, .string x.t, .slice x.la x.l.length x.lc, .slice x.ka x.ks.length x.kc] 26)) wr) (fun i _ _ => x.ks.length - (intOf i).toNat)
  case atStart => exact ⟨0, Nat.zero_le _, rfl, by simp, Below.refl _ _⟩
  case round =>
    obtain ⟨k, hkl, rfl, hnd, hbx⟩ := hrel
    obtain ⟨q0, q1, q2, q3⟩ := bx hbx
    have HD := Lib.hid hnd
    clear hnd
    by_cases hlt : k < x.ks.length
    · have hks : x.ks[k]? = some x.ks[k] := List.getElem?_eq_getElem hlt
      generalize x.ks[k] = s at *
      have HK := Lib.hid hks
      clear hks
      have hlt' : (k : Int) < (x.ks.length : Int) := by omega
      go_wp2_with fail
      obtain ⟨wo, rfl⟩ : ∃ wo : World, wo = wr := ⟨_, rfl⟩
      clear q0 q1 q2 q3
      go_loopw [4] (fun j wr2 => ∃ m : Nat, m ≤ k ∧ j = .int .i64 m ∧ (∀ q, q < m → x.ks[q]? ≠ some s) ∧ Below (w.heap.size + 1) (w.alloc (.cells #[.int .u8 x.k, .string x.t, .slice x.la x.l.length x.lc, .slice x.ka x.ks.length x.kc] 26)) wr2) (fun j _ => k - (intOf j).toNat)
      case atStart => exact ⟨0, Nat.zero_le _, rfl, fun q h => absurd h (by omega), hbx⟩
      case round =>
        obtain ⟨m, hml, rfl, hno, hbx2⟩ := hrel
        obtain ⟨q0, q1, q2, q3⟩ := bx hbx2
        have hbw := bx_w hbx2
        have HN := Lib.hid hno
        clear hno
        by_cases hmk : m < k
        · have hms : x.ks[m]? = some x.ks[m] := List.getElem?_eq_getElem (by omega)
          generalize x.ks[m] = s' at *
          obtain ⟨b, off, hka, -, hb1, hb2, h0⟩ := key_at HX.out.keys HK.out
          obtain ⟨b', off', hka', -, -, -, h0'⟩ := key_at HX.out.keys hms
          rw [hka] at hka'
          injection hka' with hka'
          injection hka' with e1 e2
          subst e1; subst e2
          rw [← hbw.cell (p := ⟨_, _, none⟩) hb2] at h0 h0'
          rw [hka] at q3
          have hbb : b < wr.heap.size := Nat.lt_of_lt_of_le hb2 hbw.size
          have hmk' : (m : Int) < (k : Int) := by omega
          have hml' : (m : Int) < (x.ks.length : Int) := by omega
          have HM := Lib.hid hms
          clear hms hka
          by_cases heq : s' = s
          · have hfin := Lib.hid (show decide x.ks.Nodup = false from decide_eq_false (nodup_no hmk (heq ▸ HM.out) HK.out))
            have he : (s'.toList == s.toList) = true := by simp [heq]
            clear heq
            go_wp2_with fail
            go_quiet (fail)
            go_wp2_with fail
            go_ret
            exact ⟨by rw [HP.out, hfin.out, Bool.false_and]; rfl, by repeat (first | exact hbw | refine Below.drew ?_ | refine below_drewN ?_ _)⟩
          · have he : (s'.toList == s.toList) = false := by rw [str_beq]; simp [heq]
            have hst : ∀ q, q < m + 1 → x.ks[q]? ≠ some s := fun q hq => by
              rcases Nat.lt_or_ge q m with h | h
              · exact HN.out q h
              · obtain rfl : q = m := by omega
                rw [HM.out]; intro e; injection e with e; exact heq e
            have HST := Lib.hid hst
            clear heq hst
            go_wp2_with fail
            go_quiet (fail)
            go_wp2_with fail
            refine ⟨⟨m + 1, by omega, by go_num, HST.out, by repeat (first | exact hbx2 | refine Below.drew ?_ | refine below_drewN ?_ _)⟩, by simp [intOf]; omega⟩
        · obtain rfl : m = k := by omega
          have hst := Lib.hid (nodup_snoc HD.out HK.out HN.out)
          have hge : ¬ (m : Int) < (m : Int) := by omega
          go_wp2_with fail
          refine ⟨⟨m + 1, by omega, by go_num, hst.out, hbx2⟩, by simp [intOf]; omega⟩
    · obtain rfl : k = x.ks.length := by omega
      rw [List.take_length] at HD
      have hnd := Lib.hid (show decide x.ks.Nodup = true from decide_eq_true HD.out)
      have hbx0 := hbx
      go_wp2_with fail
      obtain ⟨wo, rfl⟩ : ∃ wo : World, wo = wr := ⟨_, rfl⟩
      clear q0 q1 q2 q3
      go_loopw [5] (fun i wr => ∃ k : Nat, k ≤ x.l.length ∧ i = .int .i64 k ∧ ((x.l.take k).all fun y => y.v.plain) = true ∧ Below (w.heap.size + 1) (w.alloc (.cells #[.int .u8 x.k, .string x.t, .slice x.la x.l.length x.lc, .slice x.ka x.ks.length x.kc] 26)) wr) (fun i _ => x.l.length - (intOf i).toNat)
      case atStart => exact ⟨0, Nat.zero_le _, rfl, rfl, hbx0⟩
      case round =>
        obtain ⟨k, hkl, rfl, hall, hbx⟩ := hrel
        obtain ⟨q0, q1, q2, q3⟩ := bx hbx
        have hbw := bx_w hbx
        have hsz := hbw.size
        by_cases hlt : k < x.l.length
        · have hks : x.l[k]? = some x.l[k] := List.getElem?_eq_getElem hlt
          have hmem : x.l[k] ∈ x.l := List.getElem_mem hlt
          have htk : ((x.l.take (k + 1)).all fun y => y.v.plain) = x.l[k].v.plain := by rw [List.take_add_one, List.all_append, hks, hall]; simp
          have hno : x.l[k].v.plain = false → (x.l.all fun y => y.v.plain) = false := fun h => List.all_eq_false.2 ⟨_, hmem, by rw [h]; simp⟩
          generalize x.l[k] = y at *
          obtain ⟨b, off, hla, -, hb1, hb2, h0, h1, h2, h3⟩ := vals_at HX.out.sl hks
          rw [← hbw.cell (p := ⟨_, _, none⟩) hb2] at h0 h1 h2 h3
          rw [hla] at q2
          have hbb : b < wr.heap.size := Nat.lt_of_lt_of_le hb2 hbw.size
          have hlt' : (k : Int) < (x.l.length : Int) := by omega
          have HC' := fun W h => HC y hmem W h
          have HT := Lib.hid htk
          have HN := Lib.hid hno
          clear hks htk hla HC hall hno
          cases hyp : y.v.plain with
          | false =>
            have hfin := Lib.hid (HN.out hyp)
            rw [hyp] at HC'
            clear hyp
            go_wp2_with (go_at_call 67; refine (HC' _ hbw).out.mono ?_; rintro e w2 ⟨rfl, hb⟩)
            go_ret
            exact ⟨by rw [HP.out, hfin.out, Bool.and_false]; rfl, below_via hbw hb⟩
          | true =>
            have hfin := Lib.hid (HT.out.trans hyp)
            rw [hyp] at HC'
            clear hyp
            go_wp2_with (go_at_call 67; refine (HC' _ hbw).out.mono ?_; rintro e w2 ⟨rfl, hb⟩)
            refine ⟨⟨k + 1, by omega, by go_num, hfin.out, hbx.trans (hb.mono (by have := hbx.size; simp at this; omega))⟩, by simp [intOf]; omega⟩
        · obtain rfl : k = x.l.length := by omega
          rw [List.take_length] at hall
          have HA := Lib.hid hall
          clear hall
          go_wp2_with fail
          go_ret
          exact ⟨by rw [HP.out, HA.out, hnd.out]; rfl, hbw⟩

theorem plain_c : ∀ (x : AV) (w : World), Rd w x → x.w ≤ 1048576 → Calls Try.prog 67 #[x.val] w (Ret (.bool x.v.plain) w) := AV.ind fun x ih w hx hw => by
  cases hh : x.v.head with
  | false =>
    rw [plain_head, hh, Bool.false_and, Bool.false_and]
    exact plain_no x w hx hw hh
  | true =>
    have hk : x.k = 0 ∨ x.k = 1 ∨ x.k = 2 ∨ x.k = 3 ∨ x.k = 4 ∨ x.k = 5 ∨ x.k = 6 ∨ x.k = 7 ∨ x.k = 8 := by
      have hr := shape_range (v := ⟨x.k, x.t, [], []⟩)
      have := hx.kind
      have h2 := hh
      unfold Val.head at h2
      rw [AV.v_k] at h2
      by_cases h9 : 8 < x.k
      · rw [if_neg (by omega), if_neg (by omega), if_neg (by omega), if_neg (by omega), if_neg (by omega), if_neg (by omega)] at h2
        cases h2
      · omega
    rcases hk with h | h | h | h | h | h | h | h | h
    · exact plain_yesA x w hx hw hh (by omega) ih
    · exact plain_yesA x w hx hw hh (by omega) ih
    · exact plain_yesA x w hx hw hh (by omega) ih
    · exact plain_yesA x w hx hw hh (by omega) ih
    · exact plain_yesA x w hx hw hh (by omega) ih
    · exact plain_yesA x w hx hw hh (by omega) ih
    · exact plain_yesA x w hx hw hh (by omega) ih
    · exact plain_yesB x w hx hw hh h ih
    · exact plain_yesC x w hx hw hh h ih

set_option maxRecDepth 100000 in
set_option maxHeartbeats 3200000 in
theorem rmay_c (x : AV) (w : World) (hx : Rd w x) (hw : x.w ≤ 1048576) : Calls Try.prog 47 #[x.val] w (Ret (.bool x.v.may) w) := by
  have hb0 := fun o => (Below.refl w.heap.size w).alloc (Nat.le_refl _) o
  have hm : x.v.may = (decide (x.v.deepR ≤ 256) && x.v.plain) := by rw [← Val.may_eq, plain_within]
  have HD := fun W h => Lib.hid (rdeep_c x W h hw)
  have HP := fun W h => Lib.hid (plain_c x W h hw)
  have HM := Lib.hid hm
  by_cases hd : x.v.deepR ≤ 256
  · have hd' : decide ((x.v.deepR : Int) ≤ 256) = true := by simp; omega
    have HF := Lib.hid (show x.v.may = x.v.plain by rw [hm, decide_eq_true hd, Bool.true_and])
    clear hm hd
    go_enter Try.func47, Try.ntmps47
    go_wp2_with (first
      | (go_at_call 66; refine (HD _ (hx.up (hb0 _))).out.mono ?_; rintro e w2 ⟨rfl, hb⟩
         have hbw := below_via (hb0 _) hb
         obtain ⟨q0, q1, q2, q3, -, -, -, -⟩ := vbox4 (blk_new hb))
      | (go_at_call 67; refine (HP _ (hx.up hbw)).out.mono ?_; rintro e w3 ⟨rfl, hb3⟩))
    go_ret
    exact ⟨by rw [HF.out]; rfl, below_via hbw hb3⟩
  · have hd' : decide ((x.v.deepR : Int) ≤ 256) = false := by simp; omega
    have HF := Lib.hid (show x.v.may = false by rw [hm, decide_eq_false hd, Bool.false_and])
    clear hm hd
    go_enter Try.func47, Try.ntmps47
    go_wp2_with (go_at_call 66; refine (HD _ (hx.up (hb0 _))).out.mono ?_; rintro e w2 ⟨rfl, hb⟩)
    go_ret
    exact ⟨by rw [HF.out]; rfl, below_via (hb0 _) hb⟩
end Go.Proofs.Ytmhkacafilpliaa
