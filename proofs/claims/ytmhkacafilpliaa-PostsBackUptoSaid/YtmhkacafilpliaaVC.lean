/-
  The reference's May is the program's. Plain; no condition.
  The reference's deep, plain and May, and the law's Weight and Great, as plain functions of a value. Conditions: the tree lies in memory, its weight is bounded.
-/
import Derived.Test.YtmhkacafilpliaaO0
import Derived.RegionTactic
namespace Go.Proofs.Ytmhkacafilpliaa
open Go.RowKit Go.Sort

/-- The reference's depth, of any value. -/
def Val.deepR (x : Val) : Nat := if x.k = 7 ∨ x.k = 8 then 1 + maxL (x.l.map Val.deepR) else 0
termination_by SizeOf.sizeOf x
decreasing_by rename_i y h; exact Val.lt h
theorem Val.deepR_eq (x : Val) : x.deepR = if x.k = 7 ∨ x.k = 8 then 1 + maxL (x.l.map Val.deepR) else 0 := by rw [Val.deepR]
/-- The reference's 'plain'. -/
def Val.plain (x : Val) : Bool := x.shape && (x.l.map Val.plain).all id
termination_by SizeOf.sizeOf x
decreasing_by rename_i y h; exact Val.lt h
theorem Val.plain_eq (x : Val) : x.plain = (x.shape && (x.l.map Val.plain).all id) := by rw [Val.plain]
theorem Val.deepR_le : ∀ x : Val, x.deepR ≤ x.w := Val.ind fun x ih => by
  rw [Val.deepR_eq]
  split
  · have : maxL (x.l.map Val.deepR) ≤ x.w - 1 := maxL_le fun n hn => by
      obtain ⟨y, hy, rfl⟩ := List.mem_map.1 hn
      have := ih y hy; have := Val.w_kid hy; omega
    have := x.w_pos; omega
  · omega
theorem maxL_le_iff {l : List Nat} {n : Nat} : maxL l ≤ n ↔ ∀ x ∈ l, x ≤ n := by
  induction l with
  | nil => simp [maxL]
  | cons y l ih => simp only [maxL, List.mem_cons, forall_eq_or_imp, ← ih]; omega
theorem shape_range {v : Val} (h : v.shape = true) : v.k < 7 ∨ v.k = 7 ∨ v.k = 8 := by
  by_cases h7 : v.k < 7
  · exact .inl h7
  · rcases shape_big h h7 with h | h
    · exact .inr (.inl h)
    · exact .inr (.inr h.1)
theorem plain_within : ∀ (n : Nat) (v : Val), v.within n = (decide (v.deepR ≤ n) && v.plain)
  | 0, v => by
    rw [Val.within_0, Val.plain_eq, Bool.eq_iff_iff]
    simp only [Bool.and_eq_true, decide_eq_true_eq]
    constructor
    · rintro ⟨h, hk⟩
      have := shape_leaf2 h hk
      rw [Val.deepR_eq, if_neg (by omega), this.1]
      exact ⟨Nat.le_refl _, h, rfl⟩
    · rintro ⟨hd, h, _⟩
      refine ⟨h, ?_⟩
      rw [Val.deepR_eq] at hd
      rcases shape_range h with h | h
      · exact h
      · rw [if_pos h] at hd; omega
  | n + 1, v => by
    rw [Val.within_s, Val.plain_eq, Bool.eq_iff_iff]
    simp only [Bool.and_eq_true, decide_eq_true_eq, List.all_eq_true, List.mem_map, id_eq, forall_exists_index, and_imp, forall_apply_eq_imp_iff₂]
    have ih : ∀ y : Val, y.within n = true ↔ y.deepR ≤ n ∧ y.plain = true := fun y => by rw [plain_within n y]; simp
    rw [Val.deepR_eq]
    constructor
    · rintro ⟨h, hk⟩
      refine ⟨?_, h, fun y hy => ((ih y).1 (hk y hy)).2⟩
      split
      · have : maxL (v.l.map Val.deepR) ≤ n := maxL_le_iff.2 fun d hd => by
          obtain ⟨y, hy, rfl⟩ := List.mem_map.1 hd
          exact ((ih y).1 (hk y hy)).1
        omega
      · omega
    · rintro ⟨hd, h, hk⟩
      refine ⟨h, fun y hy => (ih y).2 ⟨?_, hk y hy⟩⟩
      split at hd
      · exact maxL_le_iff.1 (show maxL (v.l.map Val.deepR) ≤ n by omega) _ (List.mem_map.2 ⟨y, hy, rfl⟩)
      · rename_i hk7
        rcases shape_range h with h7 | h7
        · rw [(shape_leaf2 h h7).1] at hy; simp at hy
        · exact absurd h7 hk7
end Go.Proofs.Ytmhkacafilpliaa

namespace Go.Proofs.Ytmhkacafilpliaa
open Go.RowKit Go.Sort

/-- A value's box, behind what was made and written since. -/
theorem bx {w wr : World} {x : AV} (hb : Below (w.heap.size + 1) (w.alloc (.cells #[.int .u8 x.k, .string x.t, .slice x.la x.l.length x.lc, .slice x.ka x.ks.length x.kc] 26)) wr) :
    wr.cell? ⟨w.heap.size, 0, none⟩ = some (.int .u8 x.k) ∧ wr.cell? ⟨w.heap.size, 1, none⟩ = some (.string x.t) ∧ wr.cell? ⟨w.heap.size, 2, none⟩ = some (.slice x.la x.l.length x.lc) ∧ wr.cell? ⟨w.heap.size, 3, none⟩ = some (.slice x.ka x.ks.length x.kc) := by
  have h := vbox4 ((hb.block w.heap.size (by omega)).trans (heap_alloc_new w _))
  exact ⟨h.1, h.2.1, h.2.2.1, h.2.2.2.1⟩
theorem bx_w {w wr : World} {o : Obj} (hb : Below (w.heap.size + 1) (w.alloc o) wr) : Below w.heap.size w wr := ((Below.refl _ _).alloc (Nat.le_refl _) _).trans (hb.mono (by omega))
theorem Rd.kid_at {w wr : World} {x y : AV} (hx : Rd w x) (hb : Below w.heap.size w wr) (hy : y ∈ x.l) : Rd wr y := (hx.up hb).kid hy

set_option maxRecDepth 100000 in
set_option maxHeartbeats 3200000 in
theorem rdeep_c : ∀ (x : AV) (w : World), Rd w x → x.w ≤ 1048576 → Calls Try.prog 66 #[x.val] w (Ret (.int .i64 x.v.deepR) w) := AV.ind fun x ih w hx hw => by
  have hb0 := fun o => (Below.refl w.heap.size w).alloc (Nat.le_refl _) o
  have hll := x.w_l
  have hmap : ∀ l : List AV, (l.map fun y => y.v.deepR) = (l.map AV.v).map Val.deepR := fun l => by simp [Function.comp_def]
  have hv := Val.deepR_eq x.v
  rw [AV.v_k, AV.v_l, ← hmap] at hv
  by_cases hk : x.k = 7 ∨ x.k = 8
  · rw [if_pos hk] at hv
    have HV := Lib.hid hv
    have hkid : ∀ y ∈ x.l, y.v.deepR ≤ 1048576 := fun y hy => by have := x.w_kid hy; have := y.v.deepR_le; unfold AV.w at *; omega
    have hpre : ∀ k, maxL ((x.l.take k).map fun y => y.v.deepR) ≤ 1048576 := fun k => maxL_le fun n hn => by
      obtain ⟨y, hy, rfl⟩ := List.mem_map.1 hn
      exact hkid y (List.mem_of_mem_take hy)
    have HC := fun (y : AV) (hy : y ∈ x.l) (W : World) (hb : Below w.heap.size w W) => Lib.hid (ih y hy W (hx.kid_at hb hy) (by have := x.w_kid hy; omega))
    clear hv hmap ih
    obtain ⟨b7, b8, e7, e8, hpick⟩ : ∃ b7 b8 : Bool, ((x.k != 7) = b7) ∧ ((x.k != 8) = b8) ∧ (b7 = false ∨ b7 = true ∧ b8 = false) := ⟨_, _, rfl, rfl, by rcases hk with h | h <;> simp [h]⟩
    clear hk
    have finish : ∀ (W : World), Below (w.heap.size + 1) (w.alloc (.cells #[.int .u8 x.k, .string x.t, .slice x.la x.l.length x.lc, .slice x.ka x.ks.length x.kc] 26)) W → True := fun _ _ => trivial
    rcases hpick with rfl | ⟨rfl, rfl⟩
    all_goals
      go_enter Try.func66, Try.ntmps66
      go_wp2_with fail
      go_loopw [3, 4] (fun d i wr => ∃ k : Nat, k ≤ x.l.length ∧ i = .int .i64 k ∧ d = .int .i64 (maxL ((x.l.take k).map fun y => y.v.deepR) : Nat) ∧ Below (w.heap.size + 1) (w.alloc (.cells #[.int .u8 x.k, .string x.t, .slice x.la x.l.length x.lc, .slice x.ka x.ks.length x.kc] 26)) wr) (fun _ i _ => x.l.length - (intOf i).toNat)
      case atStart => exact ⟨0, Nat.zero_le _, rfl, rfl, Below.refl _ _⟩
      case round =>
        obtain ⟨k, hkl, rfl, rfl, hbx⟩ := hrel
        obtain ⟨q0, q1, q2, q3⟩ := bx hbx
        have hbw := bx_w hbx
        have hsz := hbw.size
        have hD := hpre k
        by_cases hlt : k < x.l.length
        · have hks : x.l[k]? = some x.l[k] := List.getElem?_eq_getElem hlt
          have hmem : x.l[k] ∈ x.l := List.getElem_mem hlt
          have htk : maxL ((x.l.take (k + 1)).map fun y => y.v.deepR) = max (maxL ((x.l.take k).map fun y => y.v.deepR)) x.l[k].v.deepR := by rw [List.take_add_one, List.map_append, hks, maxL_append]; simp [maxL]
          generalize x.l[k] = y at *
          obtain ⟨b, off, hla, -, hb1, hb2, h0, h1, h2, h3⟩ := vals_at hx.sl hks
          rw [← hbw.cell (p := ⟨_, _, none⟩) hb2] at h0 h1 h2 h3
          rw [hla] at q2
          have hbb : b < wr.heap.size := Nat.lt_of_lt_of_le hb2 hbw.size
          have hlt' : (k : Int) < (x.l.length : Int) := by omega
          have hy := hkid y hmem
          have HT := Lib.hid htk
          have HC' := fun W h => HC y hmem W h
          generalize maxL ((x.l.take k).map fun y => y.v.deepR) = D at *
          generalize y.v.deepR = E at *
          clear hks htk hla HC
          go_wp2_with (go_at_call 66; refine (HC' _ hbw).out.mono ?_; rintro e w2 ⟨rfl, hb⟩)
          refine ⟨⟨k + 1, by omega, by go_num, by rw [HT.out, show ((max D E : Nat) : Int) = max (D : Int) E by omega], hbx.trans (hb.mono (by have := hbx.size; simp at this; omega))⟩, by simp [intOf]; omega⟩
        · obtain rfl : k = x.l.length := by omega
          rw [List.take_length] at *
          have hs : IntKind.i64.wrap (((maxL (x.l.map fun y => y.v.deepR) : Nat) : Int) + 1) = ((maxL (x.l.map fun y => y.v.deepR) : Nat) : Int) + 1 := IntWalk.i64_in _ (by omega)
          generalize maxL (x.l.map fun y => y.v.deepR) = D at *
          go_wp2_with fail
          go_ret
          exact ⟨by rw [HV.out, show ((1 + D : Nat) : Int) = (D : Int) + 1 by omega]; rfl, hbw⟩
  · rw [if_neg hk] at hv
    have HV := Lib.hid hv
    have e7 : (x.k != 7) = true := by simp; omega
    have e8 : (x.k != 8) = true := by simp; omega
    clear hv hmap ih hk
    go_enter Try.func66, Try.ntmps66
    go_wp2_with fail
    go_ret
    exact ⟨by rw [HV.out]; rfl, hb0 _⟩
end Go.Proofs.Ytmhkacafilpliaa
