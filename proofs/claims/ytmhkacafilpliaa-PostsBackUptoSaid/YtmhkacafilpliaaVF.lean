/-
  The law's Weight and Great as plain functions of a value. Conditions: the tree lies in memory, its weight is bounded.
-/
import Derived.Test.YtmhkacafilpliaaVC
namespace Go.Proofs.Ytmhkacafilpliaa
open Go.RowKit Go.Sort

/-- n tells m, or enough. -/
def Tells (n m : Nat) : Prop := n ≤ m ∧ (n = m ∨ 100000 ≤ n)
def WPost (v : Val) (w : World) (e : Ending) (w' : World) : Prop := ∃ r : Nat, Tells r v.w ∧ e = .returned (.int .i64 r) ∧ Below w.heap.size w w'

set_option maxRecDepth 100000 in
set_option maxHeartbeats 3200000 in
theorem weight_c : ∀ (x : AV) (w : World), Rd w x → x.w ≤ 1048576 → Calls Try.prog 33 #[x.val] w (WPost x.v w) := AV.ind fun x ih w hx hw => by
  have hlk := x.w_ks
  have hll := x.w_l
  have hlt := x.w_t
  have hv := Val.w_eq x.v
  have hmap : ∀ l : List AV, (l.map AV.w) = (l.map AV.v).map Val.w := fun l => by simp [Function.comp_def, AV.w]
  rw [AV.v_t, AV.v_l, AV.v_ks, ← hmap] at hv
  have hwv : x.v.w ≤ 1048576 := hw
  obtain ⟨S1, hS1⟩ : ∃ S1, S1 = (x.ks.map (·.size)).sum := ⟨_, rfl⟩
  obtain ⟨S2, hS2⟩ : ∃ S2, S2 = (x.l.map AV.w).sum := ⟨_, rfl⟩
  rw [← hS1, ← hS2] at hv
  have p1 : ∀ k, ((x.ks.take k).map (·.size)).sum ≤ S1 := fun k => by
    have := congrArg (fun l => (l.map fun s : ByteArray => s.size).sum) (List.take_append_drop k x.ks)
    simp only [List.map_append, List.sum_append_nat] at this; omega
  have p2 : ∀ k, ((x.l.take k).map AV.w).sum ≤ S2 := fun k => by
    have := congrArg (fun l => (l.map AV.w).sum) (List.take_append_drop k x.l)
    simp only [List.map_append, List.sum_append_nat] at this; omega
  have HV := Lib.hid hv
  have HS1 := Lib.hid hS1
  have HS2 := Lib.hid hS2
  have HX := Lib.hid hx
  have HC := fun (y : AV) (hy : y ∈ x.l) (W : World) (hb : Below w.heap.size w W) => Lib.hid (ih y hy W (hx.kid_at hb hy) (by have := x.w_kid hy; omega))
  have hbd : 1 + x.t.size + x.ks.length + S1 + S2 ≤ 1048576 := by omega
  have hlb : x.l.length ≤ 1048576 := by omega
  clear hv hS1 hS2 hmap ih hwv hx hw hlk hll hlt
  have r1 : IntKind.i64.wrap (1 + (x.t.size : Int)) = 1 + (x.t.size : Int) := IntWalk.i64_in _ (by omega)
  have r2 : IntKind.i64.wrap (1 + (x.t.size : Int) + x.ks.length) = 1 + (x.t.size : Int) + x.ks.length := IntWalk.i64_in _ (by omega)
  go_enter Try.func33, Try.ntmps33
  go_wp2_with fail
  clear r1 r2
  go_loopw [3, 4] (fun nv i wr => ∃ k n : Nat, k ≤ x.ks.length ∧ i = .int .i64 k ∧ nv = .int .i64 n ∧ n = 1 + x.t.size + x.ks.length + ((x.ks.take k).map (·.size)).sum ∧ Below (w.heap.size + 1) (w.alloc (.cells #[.int .u8 x.k, .string x.t, .slice x.la x.l.length x.lc, .slice x.ka x.ks.length x.kc] 26)) wr) (fun _ i _ => x.ks.length - (intOf i).toNat)
  case atStart => exact ⟨0, 1 + x.t.size + x.ks.length, Nat.zero_le _, rfl, by rw [show ((1 + x.t.size + x.ks.length : Nat) : Int) = 1 + (x.t.size : Int) + x.ks.length by omega], by simp, Below.refl _ _⟩
  case round =>
    obtain ⟨k, n, hkl, rfl, rfl, hn, hbx⟩ := hrel
    obtain ⟨q0, q1, q2, q3⟩ := bx hbx
    have hbw := bx_w hbx
    have hsz := hbw.size
    have hp := p1 k
    by_cases hc : k < x.ks.length ∧ n < 100000
    · obtain ⟨hlt, hn1⟩ := hc
      have hks : x.ks[k]? = some x.ks[k] := List.getElem?_eq_getElem hlt
      have htk : ((x.ks.take (k + 1)).map (·.size)).sum = ((x.ks.take k).map (·.size)).sum + x.ks[k].size := by rw [List.take_add_one, List.map_append, hks, List.sum_append_nat]; simp
      have hp' := p1 (k + 1)
      generalize x.ks[k] = s at *
      obtain ⟨b, off, hka, -, hb1, hb2, h0⟩ := key_at HX.out.keys hks
      rw [← hbw.cell (p := ⟨_, _, none⟩) hb2] at h0
      rw [hka] at q3
      have hbb : b < wr.heap.size := Nat.lt_of_lt_of_le hb2 hbw.size
      have hlt' : (k : Int) < (x.ks.length : Int) := by omega
      have hn' : (n : Int) < 100000 := by omega
      have hnn : n + s.size = 1 + x.t.size + x.ks.length + ((x.ks.take (k + 1)).map (·.size)).sum := by omega
      have hss : n + s.size ≤ 1048576 := by omega
      have HN := Lib.hid hnn
      have rs : IntKind.i64.wrap ((n : Int) + s.size) = (n : Int) + s.size := IntWalk.i64_in _ (by omega)
      clear hks htk hka hn hnn hp hp'
      go_wp2_with fail
      refine ⟨⟨k + 1, n + s.size, by omega, by go_num, by rw [show ((n + s.size : Nat) : Int) = (n : Int) + s.size by omega], HN.out, hbx⟩, by simp [intOf]; omega⟩
    · have hT : Tells n (1 + x.t.size + x.ks.length + S1) := by
        refine ⟨by omega, ?_⟩
        by_cases h : k < x.ks.length
        · exact .inr (by omega)
        · obtain rfl : k = x.ks.length := by omega
          rw [List.take_length, ← HS1.out] at hn
          exact .inl hn
      have HT := Lib.hid hT
      have hnb : n ≤ 1048576 := by have := hT.1; omega
      have hor : (k < x.ks.length ∧ ¬ n < 100000) ∨ ¬ k < x.ks.length := by omega
      clear hc hn hp hT
      have hbx0 := hbx
      rcases hor with ⟨h1, h2⟩ | h1
      all_goals
        first | (have h1' : (k : Int) < (x.ks.length : Int) := by omega) | (have h1' : ¬ (k : Int) < (x.ks.length : Int) := by omega)
        first | (have h2' : ¬ (n : Int) < 100000 := by omega) | skip
        go_wp2_with fail
        obtain ⟨wo, rfl⟩ : ∃ wo : World, wo = wr := ⟨_, rfl⟩
        obtain ⟨n0, rfl⟩ : ∃ n0 : Nat, n0 = n := ⟨_, rfl⟩
        clear q0 q1 q2 q3 h1'
        clear hkl h1
        try clear h2 h2'
        clear hbx hbw hsz
        go_loopw [3, 5] (fun nv i wr => ∃ k n : Nat, k ≤ x.l.length ∧ i = .int .i64 k ∧ nv = .int .i64 n ∧ Tells n (1 + x.t.size + x.ks.length + S1 + ((x.l.take k).map AV.w).sum) ∧ Below (w.heap.size + 1) (w.alloc (.cells #[.int .u8 x.k, .string x.t, .slice x.la x.l.length x.lc, .slice x.ka x.ks.length x.kc] 26)) wr) (fun _ i _ => x.l.length - (intOf i).toNat)
        case atStart => exact ⟨0, n0, Nat.zero_le _, rfl, rfl, by simpa using HT.out, hbx0⟩
        case round =>
          obtain ⟨k, n, hkl, rfl, rfl, hT, hbx⟩ := hrel
          obtain ⟨q0, q1, q2, q3⟩ := bx hbx
          have hbw := bx_w hbx
          have hsz := hbw.size
          have hp := p2 k
          have hT1 := hT.1
          by_cases hc : k < x.l.length ∧ n < 100000
          · obtain ⟨hlt, hn1⟩ := hc
            have hks : x.l[k]? = some x.l[k] := List.getElem?_eq_getElem hlt
            have hmem : x.l[k] ∈ x.l := List.getElem_mem hlt
            have htk : ((x.l.take (k + 1)).map AV.w).sum = ((x.l.take k).map AV.w).sum + x.l[k].w := by rw [List.take_add_one, List.map_append, hks, List.sum_append_nat]; simp
            have hp' := p2 (k + 1)
            generalize x.l[k] = y at *
            obtain ⟨b, off, hla, -, hb1, hb2, h0, h1, h2, h3⟩ := vals_at HX.out.sl hks
            rw [← hbw.cell (p := ⟨_, _, none⟩) hb2] at h0 h1 h2 h3
            rw [hla] at q2
            have hbb : b < wr.heap.size := Nat.lt_of_lt_of_le hb2 hbw.size
            have hlt' : (k : Int) < (x.l.length : Int) := by omega
            have hn' : (n : Int) < 100000 := by omega
            have HC' := fun W h => HC y hmem W h
            have hnn : ∀ r, Tells r y.w → Tells (n + r) (1 + x.t.size + x.ks.length + S1 + ((x.l.take (k + 1)).map AV.w).sum) := fun r hr => by
              unfold Tells at *; omega
            have HN := Lib.hid hnn
            have hyw : n + y.w ≤ 1048576 := by omega
            clear hks htk hla hnn hp hp' hT hT1 HC
            go_wp2_with (go_at_call 33; refine (HC' _ hbw).out.mono ?_; rintro e w2 ⟨r, hr, rfl, hb⟩; have hrr := hr.1; have hrr2 : r ≤ y.w := hrr; clear hrr; have rs : IntKind.i64.wrap ((n : Int) + r) = (n : Int) + r := IntWalk.i64_in _ (by omega); have HR := Lib.hid hr; clear hr)
            refine ⟨⟨k + 1, n + r, by omega, by go_num, by rw [show ((n + r : Nat) : Int) = (n : Int) + r by omega], HN.out r HR.out, hbx.trans (hb.mono (by have := hbx.size; simp at this; omega))⟩, by simp [intOf]; omega⟩
          · have hfin : Tells n x.v.w := by
              have e := HV.out
              refine ⟨by omega, ?_⟩
              by_cases h : k < x.l.length
              · exact .inr (by omega)
              · obtain rfl : k = x.l.length := by omega
                rw [List.take_length, ← HS2.out] at hT
                rw [e]; exact hT.2
            have HF := Lib.hid hfin
            have hor : (k < x.l.length ∧ ¬ n < 100000) ∨ ¬ k < x.l.length := by omega
            clear hfin hT hT1 hp hc
            rcases hor with ⟨h1, h2⟩ | h1
            · have h1' : (k : Int) < (x.l.length : Int) := by omega
              have h2' : ¬ (n : Int) < 100000 := by omega
              go_wp2_with fail
              go_ret
              exact ⟨n, HF.out, rfl, hbw⟩
            · have h1' : ¬ (k : Int) < (x.l.length : Int) := by omega
              go_wp2_with fail
              go_ret
              exact ⟨n, HF.out, rfl, hbw⟩

set_option maxRecDepth 100000 in
set_option maxHeartbeats 3200000 in
theorem great14_c (x : AV) (w : World) (hx : Rd w x) (hw : x.w ≤ 1048576) : Calls Try.prog 12 #[x.val] w (Ret (.bool (decide (1500 < x.v.w))) w) := by
  have hb0 := fun o => (Below.refl w.heap.size w).alloc (Nat.le_refl _) o
  have HW := fun W h => Lib.hid (weight_c x W h hw)
  by_cases hg : 1500 < x.v.w
  · have hG := Lib.hid (decide_eq_true hg)
    go_enter Try.func12, Try.ntmps12
    go_wp2_with (go_at_call 33; refine (HW _ (hx.up (hb0 _))).out.mono ?_; rintro e w2 ⟨r, hr, rfl, hb⟩; have hr' : decide ((1500 : Int) < (r : Int)) = true := by (have h1 := hr.1; have h2 := hr.2; simp; omega))
    go_ret
    exact ⟨by rw [hG.out]; rfl, below_via (hb0 _) hb⟩
  · have hG := Lib.hid (decide_eq_false hg)
    go_enter Try.func12, Try.ntmps12
    go_wp2_with (go_at_call 33; refine (HW _ (hx.up (hb0 _))).out.mono ?_; rintro e w2 ⟨r, hr, rfl, hb⟩; have hr' : decide ((1500 : Int) < (r : Int)) = false := by (have h1 := hr.1; simp; omega))
    go_ret
    exact ⟨by rw [hG.out]; rfl, below_via (hb0 _) hb⟩
end Go.Proofs.Ytmhkacafilpliaa
