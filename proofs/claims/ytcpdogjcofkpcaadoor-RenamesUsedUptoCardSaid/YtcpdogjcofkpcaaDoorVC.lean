/-
  The reference's May is the program's. Plain; no condition.
  The reference's deep, plain and May, and the law's Weight and Great, as plain functions of a value. Conditions: the tree lies in memory, its weight is bounded.
-/
import Derived.Test.YtcpdogjcofkpcaaDoorO0
import Derived.RegionTactic
namespace Go.Proofs.YtcpdogjcofkpcaaDoor
open Go.RowKit Go.Sort

/-- The reference's depth, of any value. -/
def Val.deepR (x : Val) : Nat := if x.k = 7 ∨ x.k = 8 then 1 + maxL (x.l.map Val.deepR) else 0
termination_by SizeOf.sizeOf x
decreasing_by rename_i y h; exact Val.lt h
theorem Val.deepR_eq (x : Val) : x.deepR = if x.k = 7 ∨ x.k = 8 then 1 + maxL (x.l.map Val.deepR) else 0 := by rw [Val.deepR]
/-- The reference's 'plain'. -/
def Val.plain (x : Val) : Bool := x.shape && (x.l.map Val.plain).all id
termination_by SizeOf.sizeOf x
decreasing_by rename_i y h; exact Val.lt h
theorem Val.plain_eq (x : Val) : x.plain = (x.shape && (x.l.map Val.plain).all id) := by rw [Val.plain]
theorem Val.deepR_le : ∀ x : Val, x.deepR ≤ x.w := Val.ind fun x ih => by
  rw [Val.deepR_eq]
  split
  · have : maxL (x.l.map Val.deepR) ≤ x.w - 1 := maxL_le fun n hn => by
      obtain ⟨y, hy, rfl⟩ := List.mem_map.1 hn
      have := ih y hy; have := Val.w_kid hy; omega
    have := x.w_pos; omega
  · omega
theorem maxL_le_iff {l : List Nat} {n : Nat} : maxL l ≤ n ↔ ∀ x ∈ l, x ≤ n := by
  induction l with
  | nil => simp [maxL]
  | cons y l ih => simp only [maxL, List.mem_cons, forall_eq_or_imp, ← ih]; omega
theorem shape_range {v : Val} (h : v.shape = true) : v.k < 7 ∨ v.k = 7 ∨ v.k = 8 := by
  by_cases h7 : v.k < 7
  · exact .inl h7
  · rcases shape_big h h7 with h | h
    · exact .inr (.inl h)
    · exact .inr (.inr h.1)
theorem plain_within : ∀ (n : Nat) (v : Val), v.within n = (decide (v.deepR ≤ n) && v.plain)
  | 0, v => by
    rw [Val.within_0, Val.plain_eq, Bool.eq_iff_iff]
    simp only [Bool.and_eq_true, decide_eq_true_eq]
    constructor
    · rintro ⟨h, hk⟩
      have := shape_leaf2 h hk
      rw [Val.deepR_eq, if_neg (by omega), this.1]
      exact ⟨Nat.le_refl _, h, rfl⟩
    · rintro ⟨hd, h, _⟩
      refine ⟨h, ?_⟩
      rw [Val.deepR_eq] at hd
      rcases shape_range h with h | h
      · exact h
      · rw [if_pos h] at hd; omega
  | n + 1, v => by
    rw [Val.within_s, Val.plain_eq, Bool.eq_iff_iff]
    simp only [Bool.and_eq_true, decide_eq_true_eq, List.all_eq_true, List.mem_map, id_eq, forall_exists_index, and_imp, forall_apply_eq_imp_iff₂]
    have ih : ∀ y : Val, y.within n = true ↔ y.deepR ≤ n ∧ y.plain = true := fun y => by rw [plain_within n y]; simp
    rw [Val.deepR_eq]
    constructor
    · rintro ⟨h, hk⟩
      refine ⟨?_, h, fun y hy => ((ih y).1 (hk y hy)).2⟩
      split
      · have : maxL (v.l.map Val.deepR) ≤ n := maxL_le_iff.2 fun d hd => by
          obtain ⟨y, hy, rfl⟩ := List.mem_map.1 hd
          exact ((ih y).1 (hk y hy)).1
        omega
      · omega
    · rintro ⟨hd, h, hk⟩
      refine ⟨h, fun y hy => (ih y).2 ⟨?_, hk y hy⟩⟩
      split at hd
      · exact maxL_le_iff.1 (show maxL (v.l.map Val.deepR) ≤ n by omega) _ (List.mem_map.2 ⟨y, hy, rfl⟩)
      · rename_i hk7
        rcases shape_range h with h7 | h7
        · rw [(shape_leaf2 h h7).1] at hy; simp at hy
        · exact absurd h7 hk7
end Go.Proofs.YtcpdogjcofkpcaaDoor

namespace Go.Proofs.YtcpdogjcofkpcaaDoor
open Go.RowKit Go.Sort

/-- A value's box, behind what was made and written since. -/
theorem bx {w wr : World} {x : AV} (hb : Below (w.heap.size + 1) (w.alloc (.cells #[.int .u8 x.k, .string x.t, .slice x.la x.l.length x.lc, .slice x.ka x.ks.length x.kc] 26)) wr) :
    wr.cell? ⟨w.heap.size, 0, none⟩ = some (.int .u8 x.k) ∧ wr.cell? ⟨w.heap.size, 1, none⟩ = some (.string x.t) ∧ wr.cell? ⟨w.heap.size, 2, none⟩ = some (.slice x.la x.l.length x.lc) ∧ wr.cell? ⟨w.heap.size, 3, none⟩ = some (.slice x.ka x.ks.length x.kc) := by
  have h := vbox4 ((hb.block w.heap.size (by omega)).trans (heap_alloc_new w _))
  exact ⟨h.1, h.2.1, h.2.2.1, h.2.2.2.1⟩
theorem bx_w {w wr : World} {o : Obj} (hb : Below (w.heap.size + 1) (w.alloc o) wr) : Below w.heap.size w wr := ((Below.refl _ _).alloc (Nat.le_refl _) _).trans (hb.mono (by omega))
theorem Rd.kid_at {w wr : World} {x y : AV} (hx : Rd w x) (hb : Below w.heap.size w wr) (hy : y ∈ x.l) : Rd wr y := (hx.up hb).kid hy

end Go.Proofs.YtcpdogjcofkpcaaDoor
