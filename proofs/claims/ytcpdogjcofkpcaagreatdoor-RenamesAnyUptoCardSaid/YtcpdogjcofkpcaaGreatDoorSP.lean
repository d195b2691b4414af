/-
  What stays while a row of the caller's own is written into. Words for memory alone.
-/
import Derived.Test.YtcpdogjcofkpcaaGreatDoorV2
namespace Go.Proofs.YtcpdogjcofkpcaaGreatDoor
open Go.RowKit

/-- What stays while rows of the caller's own, in blocks from B on but not from p to q, are written into: all below B, blocks p to q, which cells there are, what is frozen. -/
structure Splt (B p q : Nat) (w w' : World) : Prop where
  bel : Below B w w'
  mid : ∀ k, p ≤ k → k < q → w'.heap[k]? = w.heap[k]?
  some : ∀ b o, (w'.cell? ⟨b, o, none⟩).isSome = (w.cell? ⟨b, o, none⟩).isSome
  cold : ∀ b o, w'.frozen? ⟨b, o, none⟩ = w.frozen? ⟨b, o, none⟩
theorem Splt.refl (B p q : Nat) (w : World) : Splt B p q w w := ⟨Below.refl _ _, fun _ _ _ => rfl, fun _ _ => rfl, fun _ _ => rfl⟩
theorem Splt.drew {B p q : Nat} {w w' : World} (h : Splt B p q w w') : Splt B p q w w'.drew := ⟨h.bel.drew, h.mid, h.some, h.cold⟩
theorem Splt.set {B p q : Nat} {w w' : World} (h : Splt B p q w w') {g o : Nat} {u : Value} (hg : B ≤ g) (hm : g < p ∨ q ≤ g) (hc : w'.cell? ⟨g, o, none⟩ = Option.some u) (v : Value) : Splt B p q w (w'.setCell ⟨g, o, none⟩ v) := by
  refine ⟨h.bel.setCell (p := ⟨g, o, none⟩) hg v, fun k h1 h2 => (Below.heap_setCell w' _ _ k (by show k ≠ g; omega)).trans (h.mid k h1 h2), fun b o' => ?_, fun b o' => (World.frozen?_setCell _ _ _ _).trans (h.cold b o')⟩
  rw [← h.some b o']
  by_cases e : b = g ∧ o' = o
  · obtain ⟨rfl, rfl⟩ := e
    rw [World.cell?_setCell_same _ _ _ (by rw [hc]), hc]; rfl
  · rw [World.cell?_setCell_other _ _ _ _ (by intro e2; injection e2 with e3 e4; exact e ⟨e3.symm, e4.symm⟩)]
end Go.Proofs.YtcpdogjcofkpcaaGreatDoor
