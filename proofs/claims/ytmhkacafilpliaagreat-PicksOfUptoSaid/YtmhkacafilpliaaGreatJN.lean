/-
  posts.Part: of whatever labels and numbers whatever node's part. Conditions: they lie in memory, at most 2^20 of them.
-/
import Derived.Test.YtmhkacafilpliaaGreatJM
import Derived.Lib.LazyBuf
namespace Go.Proofs.YtmhkacafilpliaaGreat
open Go.RowKit Go.Sort Go.Shelf

theorem int_at {w : World} {lo hi : Nat} {a : Option Addr} {l : List Int} (h : SlE i64Z 1 w lo hi a l) {k : Nat} {y : Int} (hk : l[k]? = some y) :
    ∃ b off, a = some ⟨b, off, none⟩ ∧ lo ≤ b ∧ b < hi ∧ b < w.heap.size ∧ w.cell? ⟨b, off + k, none⟩ = some (.int .i64 y) := by
  have hl : k < l.length := (List.getElem?_eq_some_iff.1 hk).1
  obtain ⟨b, off, e, g1, g2, g3, g4⟩ := h (by omega)
  have := g4 k y hk 0 _ rfl
  rw [Nat.mul_one, Nat.add_zero] at this
  exact ⟨b, off, e, g1, g2, g3, this⟩
/-- Is a number out of its bounds in a part that begins at f? -/
def badZ (f : Int) (i : Nat) (l : Int) : Bool := decide (l < f) || decide (f + (i : Int) < l)
/-- A node's part: where it begins; no number is out of bounds. -/
def partAt (labs : List Lab) (lefts : List Int) (node : Int) : Option Nat :=
  if node < 0 ∨ (labs.length : Int) ≤ node ∨ lefts.length ≠ labs.length then none else
    match lefts[node.toNat]? with
    | none => none
    | some f => if f < 0 ∨ node < f then none else some f.toNat
def partOk (lefts : List Int) (f m : Nat) : Bool := (List.range m).all fun i => match lefts[f + i]? with
  | some l => !badZ f i l
  | none => false
def partL (labs : List Lab) (f m : Nat) : List Lab := (labs.drop f).take m
def partN (lefts : List Int) (f m : Nat) : List Nat := ((lefts.drop f).take m).map fun l : Int => (l - (f : Int)).toNat
/-- What posts.Part leaves. -/
def PartPost (labs : List Lab) (lefts : List Int) (node : Int) (w : World) (e : Ending) (w' : World) : Prop :=
  Below w.heap.size w w' ∧ ((∃ f, partAt labs lefts node = some f ∧ partOk lefts f (node.toNat + 1 - f) = true ∧ ∃ al af ar m, m = node.toNat + 1 - f ∧
      e = .returned (.tuple #[.agg #[.slice al m m, .slice af m m, .slice ar (rootsL (partN lefts f m)).length (rootsL (partN lefts f m)).length], .bool true]) ∧
      OwnC w' w.heap.size 110 4 al m m ((partL labs f m).flatMap Lab.enc) ∧ OwnC w' w.heap.size 3 1 af m m ((partN lefts f m).flatMap natE) ∧ OwnC w' w.heap.size 3 1 ar (rootsL (partN lefts f m)).length (rootsL (partN lefts f m)).length ((rootsL (partN lefts f m)).flatMap natE)) ∨
    ((∀ f, partAt labs lefts node = some f → partOk lefts f (node.toNat + 1 - f) = false) ∧ e = .returned (.tuple #[.agg #[.slice none 0 0, .slice none 0 0, .slice none 0 0], .bool false])))
abbrev pBox (al : Option Addr) (nl cl : Nat) (af : Option Addr) (nf cf : Nat) (ar : Option Addr) (nr cr : Nat) : Array Value := #[.slice al nl cl, .slice af nf cf, .slice ar nr cr]
theorem part_none_end {w : World} {B : Nat} {v0 v1 v2 : Value} {labs : List Lab} {lefts : List Int} {node : Int} {w2 : World} (hb : Below w.heap.size w w2) (hB : w.heap.size ≤ B) (h : ∀ f, partAt labs lefts node = some f → partOk lefts f (node.toNat + 1 - f) = false) :
    PartPost labs lefts node w (.returned (.tuple #[.agg #[.slice none 0 0, .slice none 0 0, .slice none 0 0], .bool false])) (((w2.setCell ⟨B, 0, none⟩ v0).setCell ⟨B, 1, none⟩ v1).setCell ⟨B, 2, none⟩ v2) :=
  ⟨((hb.setCell (p := ⟨B, 0, none⟩) hB _).setCell (p := ⟨B, 1, none⟩) hB _).setCell (p := ⟨B, 2, none⟩) hB _, .inr ⟨h, rfl⟩⟩
theorem own_lower {w : World} {b b' e size n : Nat} {v : Value} {xs : List Value} (h : w.ownsRow b e size v n xs) (hb : b' ≤ b) : w.ownsRow b' e size v n xs := by
  rcases h.2 with ⟨e1, e2⟩ | ⟨q, cap, cur, e1, e2, e3⟩
  · exact ⟨h.1, .inl ⟨e1, e2⟩⟩
  · exact ⟨h.1, .inr ⟨q, cap, cur, e1, Nat.le_trans hb e2, e3⟩⟩
def CloneL (C : List Lab) (w : World) (e : Ending) (w' : World) : Prop := ∃ (g c' : Nat), e = .returned (.slice (some ⟨g, 0, none⟩) C.length c') ∧ C.length ≤ c' ∧ w'.ownsRow w.heap.size 110 4 (.slice (some ⟨g, 0, none⟩) C.length c') C.length (C.flatMap Lab.enc) ∧ Below w.heap.size w w'
theorem partL_len {labs : List Lab} {f m : Nat} (h : f + m ≤ labs.length) : (partL labs f m).length = m := by simp [partL]; omega
theorem partL_sl {w : World} {lo hi b off : Nat} {labs : List Lab} {f m : Nat} (h : SlE Lab.enc 4 w lo hi (some ⟨b, off, none⟩) labs) : SlE Lab.enc 4 w lo hi (some ⟨b, off + f * 4, none⟩) (partL labs f m) := fun hl => by
  have h0 : 0 < labs.length := by
    have := hl
    simp [partL] at this
    omega
  obtain ⟨b', off', e, g1, g2, g3, g4⟩ := h h0
  cases e
  refine ⟨b, off + f * 4, rfl, g1, g2, g3, fun i x hx => ?_⟩
  have : labs[f + i]? = some x := by
    unfold partL at hx
    rw [List.getElem?_take] at hx
    split at hx
    · rwa [List.getElem?_drop] at hx
    · cases hx
  have := g4 (f + i) x this
  rwa [show off + (f + i) * 4 = off + f * 4 + i * 4 by omega] at this
theorem part_at {labs : List Lab} {lefts : List Int} {node : Int} {f : Nat} (h : partAt labs lefts node = some f) : ∃ nd : Nat, node = nd ∧ nd < labs.length ∧ lefts.length = labs.length ∧ lefts[nd]? = some (f : Int) ∧ f ≤ nd := by
  unfold partAt at h
  split at h
  · cases h
  · next hc =>
    rw [not_or, not_or] at hc
    obtain ⟨h1, h2, h3⟩ := hc
    have h3 : lefts.length = labs.length := Classical.byContradiction h3
    refine ⟨node.toNat, by omega, by omega, h3, ?_⟩
    split at h
    · cases h
    · next l hl =>
      split at h
      · cases h
      · next h5 =>
        rw [not_or] at h5
        injection h with h
        rw [hl, ← h]
        refine ⟨?_, by omega⟩
        congr 1; omega
theorem nat_flat : ∀ l : List Nat, l.flatMap natE = l.map fun n : Nat => Value.int .i64 (n : Int)
  | [] => rfl
  | a :: l => by rw [List.flatMap_cons, nat_flat l]; rfl
end Go.Proofs.YtmhkacafilpliaaGreat
