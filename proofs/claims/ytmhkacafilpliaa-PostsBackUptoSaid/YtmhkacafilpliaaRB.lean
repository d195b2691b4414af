/-
  A region that draws its order, walked once in the order of the text; a text's place in a list. No program.
-/
import Derived.Test.YtmhkacafilpliaaO5
import Derived.Deep.QuietTactic
import Derived.BigQuiet
namespace Go.Proofs.Ytmhkacafilpliaa
open Go.RowKit Go.Sort Go.BigFrame

/-- A region that draws its order, whose operations only read, and whose callees hand back one value and make memory at most: one walk, in the order of the text. -/
theorem wp_region_bl {P : Program} {id : Nat} {Q : Exit → Act → World → Prop} {a : Act} {w : World} {l : List Oper} (hm : P.follows .mixedOrders = true) (hB : Region.lexB .any l.toArray = true)
    (h : wpQuiet P l.toArray (fun w' => Below w.heap.size w w') (fun a' => ∀ w', Below w.heap.size w w' → Q .normal a' w') l a) : (Code.region id l.toArray true).wp P Q a w :=
  wp_region_quiet (C := fun w' => Below w.heap.size w w') hm hB ((Below.refl _ _).drew) (by simpa using h)

def idxI (ns : List ByteArray) (s : ByteArray) : Int := match idxB ns s with | some i => ((i : Nat) : Int) | none => -1
theorem idxI_none {ns : List ByteArray} {s : ByteArray} (h : s ∉ ns) : idxI ns s = -1 := by rw [idxI, idxB_none.2 h]
theorem idxI_at {ns : List ByteArray} {s : ByteArray} {j : Nat} (h : ns[j]? = some s) (hn : ns.Nodup) : idxI ns s = (j : Int) := by rw [idxI, idxB_at h hn]
theorem idxI_cases (ns : List ByteArray) (s : ByteArray) : (s ∉ ns ∧ idxI ns s = -1) ∨ ∃ j : Nat, idxI ns s = (j : Int) ∧ ns[j]? = some s := by
  cases h : idxB ns s with
  | none => exact .inl ⟨idxB_none.1 h, by rw [idxI, h]⟩
  | some i => exact .inr ⟨i, by rw [idxI, h], idxB_some h⟩
theorem idxI_mem (ns : List ByteArray) (s : ByteArray) : 0 ≤ idxI ns s ↔ s ∈ ns := by
  rcases idxI_cases ns s with ⟨h, e⟩ | ⟨j, e, h⟩
  · rw [e]; exact ⟨fun h => by omega, fun h' => absurd h' h⟩
  · rw [e]; exact ⟨fun _ => List.mem_of_getElem? h, fun _ => by omega⟩
end Go.Proofs.Ytmhkacafilpliaa
