/-
  inarchlaw14.Like at two values that are one: true. Conditions: both lie in memory, their weight is bounded.
  inarchlaw14.Spoil of a tree of the call's own: it writes into that tree's blocks alone. Condition: the tree's lengths are bounded.
-/
import Derived.Test.YtjihepdjcbpgoaaDoorRB
import Derived.Test.YtjihepdjcbpgoaaDoorSO
import Derived.Test.YtjihepdjcbpgoaaDoorTC
namespace Go.Proofs.YtjihepdjcbpgoaaDoor
open Go.RowKit Go.Sort

theorem ls_duo_at {w W : World} {o1 o2 : Obj} (hb : Below (w.heap.size + 1 + 1) ((w.alloc o1).alloc o2) W) : W.heap[w.heap.size]? = some o1 ∧ W.heap[w.heap.size + 1]? = some o2 ∧ w.heap.size + 1 < W.heap.size ∧ Below w.heap.size w W := by
  have hs := hb.size
  simp only [World.size_alloc] at hs
  have h2 := heap_alloc_new (w.alloc o1) o2
  simp only [World.size_alloc] at h2
  refine ⟨(hb.block _ (by omega)).trans ?_, (hb.block _ (by omega)).trans h2, by omega, ?_⟩
  · rw [heap_alloc_old _ _ _ (by simp)]; exact heap_alloc_new w o1
  · exact ((((Below.refl _ _).alloc (Nat.le_refl _) _).alloc (by simp) _)).trans (hb.mono (by omega))
theorem ls_duo_0 {w : World} {o1 o2 : Obj} : Below (w.heap.size + 1 + 1) ((w.alloc o1).alloc o2) ((w.alloc o1).alloc o2) := Below.refl _ _
theorem ls_duo_b {w : World} {o1 o2 : Obj} : Below w.heap.size w ((w.alloc o1).alloc o2) := ((Below.refl _ _).alloc (Nat.le_refl _) _).alloc (by simp) _
theorem ls_tri_step {N : Nat} {A W W' : World} (h : Below N A W) (hb : Below W.heap.size W W') (hN : N ≤ A.heap.size) : Below N A W' := h.trans (hb.mono (Nat.le_trans hN h.size))

end Go.Proofs.YtjihepdjcbpgoaaDoor

namespace Go.Proofs.YtjihepdjcbpgoaaDoor
open Go.RowKit Go.Sort

def spS : ByteArray := ⟨#[115, 112, 111, 105, 108, 116]⟩
def spAV : AV := ⟨0, spS, none, 0, [], none, 0, []⟩
/-- What Spoil leaves: what lies below lo, and from hi on, stays. -/
def SpPost (lo hi : Nat) (w : World) (e : Ending) (w' : World) : Prop := e = .returned (.tuple #[]) ∧ Below lo w w' ∧ ∀ q, hi ≤ q → q < w.heap.size → w'.heap[q]? = w.heap[q]?
end Go.Proofs.YtjihepdjcbpgoaaDoor
