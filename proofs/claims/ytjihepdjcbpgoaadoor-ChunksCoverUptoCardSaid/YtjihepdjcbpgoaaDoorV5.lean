/-
  values.sized, Size, depth, Deep: contracts. Conditions: the tree lies in memory, its weight is bounded.
-/
import Derived.Test.YtjihepdjcbpgoaaDoorV4
namespace Go.Proofs.YtjihepdjcbpgoaaDoor
open Go.RowKit Go.Sort

/-- How many nodes. -/
def Val.size (x : Val) : Nat := 1 + (x.l.map Val.size).sum
termination_by SizeOf.sizeOf x
decreasing_by rename_i y h; exact Val.lt h
theorem Val.size_eq (x : Val) : x.size = 1 + (x.l.map Val.size).sum := by rw [Val.size]
/-- The greatest of a list. -/
def maxL : List Nat → Nat
  | [] => 0
  | n :: l => max n (maxL l)
theorem maxL_append : ∀ (l m : List Nat), maxL (l ++ m) = max (maxL l) (maxL m)
  | [], m => by simp [maxL]
  | n :: l, m => by simp only [List.cons_append, maxL, maxL_append l m]; omega
theorem maxL_le {l : List Nat} {n : Nat} (h : ∀ x ∈ l, x ≤ n) : maxL l ≤ n := by
  induction l with
  | nil => exact Nat.zero_le _
  | cons y l ih =>
    have := ih fun x hx => h x (by simp [hx])
    have := h y (by simp)
    simp only [maxL]; omega
/-- How deep. -/
def Val.deep (x : Val) : Nat := if x.k < 7 then 0 else 1 + maxL (x.l.map Val.deep)
termination_by SizeOf.sizeOf x
decreasing_by rename_i y h; exact Val.lt h
theorem Val.deep_eq (x : Val) : x.deep = if x.k < 7 then 0 else 1 + maxL (x.l.map Val.deep) := by rw [Val.deep]

theorem sum_le {α : Type} (f g : α → Nat) : ∀ {l : List α}, (∀ x ∈ l, f x ≤ g x) → (l.map f).sum ≤ (l.map g).sum
  | [], _ => by simp
  | y :: l, h => by
    have := sum_le f g (l := l) fun x hx => h x (by simp [hx])
    have := h y (by simp)
    simp; omega
theorem Val.size_le : ∀ x : Val, x.size ≤ x.w := Val.ind fun x ih => by
  have := sum_le Val.size Val.w (l := x.l) ih
  rw [Val.size_eq, Val.w_eq]; omega
theorem Val.deep_le : ∀ x : Val, x.deep ≤ x.w := Val.ind fun x ih => by
  rw [Val.deep_eq]
  split
  · omega
  · have : maxL (x.l.map Val.deep) ≤ x.w - 1 := maxL_le fun n hn => by
      obtain ⟨y, hy, rfl⟩ := List.mem_map.1 hn
      have := ih y hy; have := Val.w_kid hy; omega
    have := x.w_pos; omega

theorem blk_new {w w2 : World} {o : Obj} (hb : Below (w.alloc o).heap.size (w.alloc o) w2) : w2.heap[w.heap.size]? = some o := (hb.block w.heap.size (by simp)).trans (heap_alloc_new w o)
end Go.Proofs.YtjihepdjcbpgoaaDoor
