/-
  inarchlaw24.RenamesOnce answers true. Conditions: the values lie in memory, their weight is bounded; strconv's table of powers holds what its initialiser lays.
-/
import Derived.Test.YtjihepdjcbpgoaaGreatDoorNJ
import Derived.Test.YtjihepdjcbpgoaaGreatDoorVF
import Derived.Test.YtjihepdjcbpgoaaGreatDoorVN
namespace Go.Proofs.YtjihepdjcbpgoaaGreatDoor
open Go.RowKit Go.Sort

theorem s_bel {N : Nat} {W2 w' : World} (h : (∀ b o, b < N → w'.cell? ⟨b, o, none⟩ = W2.cell? ⟨b, o, none⟩) ∧ Below N W2 w') : Below N W2 w' := h.2
theorem lt_of_blk {W : World} {i : Nat} {o : Obj} (hk : W.heap[i]? = some o) : i < W.heap.size := by
  rcases Nat.lt_or_ge i W.heap.size with h | h
  · exact h
  · rw [Array.getElem?_eq_none h] at hk; cases hk
theorem duo_at {w W : World} {o1 o2 : Obj} (hb : Below (w.heap.size + 1 + 1) ((w.alloc o1).alloc o2) W) : W.heap[w.heap.size]? = some o1 ∧ W.heap[w.heap.size + 1]? = some o2 ∧ w.heap.size + 1 < W.heap.size ∧ Below w.heap.size w W := by
  have hs := hb.size
  simp only [World.size_alloc] at hs
  have h2 := heap_alloc_new (w.alloc o1) o2
  simp only [World.size_alloc] at h2
  refine ⟨(hb.block _ (by omega)).trans ?_, (hb.block _ (by omega)).trans h2, by omega, ?_⟩
  · rw [heap_alloc_old _ _ _ (by simp)]; exact heap_alloc_new w o1
  · exact ((((Below.refl _ _).alloc (Nat.le_refl _) _).alloc (by simp) _)).trans (hb.mono (by omega))
theorem duo_0 {w : World} {o1 o2 : Obj} : Below (w.heap.size + 1 + 1) ((w.alloc o1).alloc o2) ((w.alloc o1).alloc o2) := Below.refl _ _
theorem duo_b {w : World} {o1 o2 : Obj} : Below w.heap.size w ((w.alloc o1).alloc o2) := ((Below.refl _ _).alloc (Nat.le_refl _) _).alloc (by simp) _
end Go.Proofs.YtjihepdjcbpgoaaGreatDoor
