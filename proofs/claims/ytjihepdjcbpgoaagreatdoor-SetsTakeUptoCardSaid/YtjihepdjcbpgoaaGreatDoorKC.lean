/-
  keyeds.Names's own function and gather of names: contracts. Conditions: the values lie in memory, their weights are bounded; the table of short escapes holds what its initialiser lays.
  keyeds.gather of names: contract. Conditions: the values lie in memory, their weights are bounded; the table of short escapes holds what its initialiser lays.
  keyeds.Names: contract. Conditions: the values lie in memory, their weights are bounded; the table of short escapes holds what its initialiser lays.
-/
import Derived.Test.YtjihepdjcbpgoaaGreatDoorVU
import Derived.Test.YtjihepdjcbpgoaaGreatDoorVJ
import Derived.Test.YtjihepdjcbpgoaaGreatDoorRB
import Derived.Deep.QuietTactic
import Derived.BigQuiet
namespace Go.Proofs.YtjihepdjcbpgoaaGreatDoor
open Go.RowKit Go.Sort Go.BigFrame

/-- A keyed element's name. -/
def nameOf (s : ByteArray) (v : Val) : Option ByteArray := match v.get s with | some y => if y.k < 7 then some ⟨(textR y).toArray⟩ else none | none => none
def NPost (o : Option ByteArray) (w : World) (e : Ending) (w' : World) : Prop := ∃ t, e = .returned (.tuple #[.string t, .bool o.isSome]) ∧ (∀ u, o = some u → t = u) ∧ Below w.heap.size w w'
def GetSome (v : Val) (w : World) (e : Ending) (w' : World) : Prop := ∃ z : AV, e = .returned (.tuple #[z.val, .bool true]) ∧ z.v = v ∧ z.In w' w.heap.size w'.heap.size ∧ Below w.heap.size w w'
def GetNone (w : World) (e : Ending) (w' : World) : Prop := e = .returned (.tuple #[zAV.val, .bool false]) ∧ Below w.heap.size w w'
theorem get_some_c {x : AV} {s : ByteArray} {v : Val} (h : x.v.get s = some v) (w : World) (hx : Rd w x) (hw : x.w ≤ 1048576) : Calls Tryz.prog 25 #[x.val, .string s] w (GetSome v w) := by
  refine (get_c x s w hx hw).mono ?_
  rintro e w' ⟨z, rfl, h1, h2, h3, h4⟩
  exact ⟨z, by rw [h]; rfl, h1 v h, h3, h4⟩
theorem get_none_c {x : AV} {s : ByteArray} (h : x.v.get s = none) (w : World) (hx : Rd w x) (hw : x.w ≤ 1048576) : Calls Tryz.prog 25 #[x.val, .string s] w (GetNone w) := by
  refine (get_c x s w hx hw).mono ?_
  rintro e w' ⟨z, rfl, h1, h2, h3, h4⟩
  exact ⟨by rw [h, h2 h]; rfl, h4⟩
theorem S.bl {N : Nat} {W2 w' : World} (h : (∀ b o, b < N → w'.cell? ⟨b, o, none⟩ = W2.cell? ⟨b, o, none⟩) ∧ Below N W2 w') : Below N W2 w' := h.2

end Go.Proofs.YtjihepdjcbpgoaaGreatDoor

namespace Go.Proofs.YtjihepdjcbpgoaaGreatDoor
open Go.RowKit Go.Sort

/-- The block that a slice begins in is there, none of its cells is frozen. -/
def Thaw (w : World) (A : Option Addr) : Prop := ∀ b off, A = some ⟨b, off, none⟩ → b < w.heap.size ∧ ∀ o, w.frozen? ⟨b, o, none⟩ = false
theorem Thaw.up {w w' : World} {A : Option Addr} (h : Thaw w A) (hb : Below w.heap.size w w') : Thaw w' A := fun b off e => by
  obtain ⟨h1, h2⟩ := h b off e
  exact ⟨Nat.lt_of_lt_of_le h1 hb.size, fun o => (hb.frozen (p := ⟨b, o, none⟩) h1).trans (h2 o)⟩
theorem own_thaw {w : World} {base e size n m cap : Nat} {A : Option Addr} {xs : List Value} (h : w.ownsRow base e size (.slice A m cap) n xs) : Thaw w A := by
  intro b off e1
  rcases h.2 with ⟨e2, -⟩ | ⟨g, cap', cur, e2, -, hg, -⟩
  · injection e2 with e3; rw [e1] at e3; cases e3
  · injection e2 with e3
    rw [e1] at e3
    injection e3 with e3
    injection e3 with e4 e5
    subst e4
    refine ⟨?_, fun o => frozen_of_row w b o cur _ hg⟩
    rcases Nat.lt_or_ge b w.heap.size with h' | h'
    · exact h'
    · rw [Array.getElem?_eq_none h'] at hg; cases hg
/-- What gather hands back: all that the function gave, or nothing. -/
def GaPost (os : List (Option ByteArray)) (w : World) (e : Ending) (w' : World) : Prop :=
  (∃ ns A c, os = ns.map some ∧ e = .returned (.tuple #[.slice A ns.length c, .bool true]) ∧ ns.length ≤ c ∧ SlE strE 1 w' w.heap.size w'.heap.size A ns ∧ Below w.heap.size w w' ∧ Thaw w' A) ∨
  (none ∈ os ∧ e = .returned (.tuple #[.slice none 0 0, .bool false]) ∧ Below w.heap.size w w')
/-- A slice of the call's own that holds texts. -/
theorem own_form {w : World} {base : Nat} {v : Value} {l : List ByteArray} (h : OwnS w base v l) : ∃ a c, v = .slice a l.length c := by
  rcases h.2 with ⟨e, h0⟩ | ⟨g, cap, cur, e, _⟩
  · exact ⟨none, 0, by rw [e, h0]⟩
  · exact ⟨_, _, e⟩

end Go.Proofs.YtjihepdjcbpgoaaGreatDoor

namespace Go.Proofs.YtjihepdjcbpgoaaGreatDoor
open Go.RowKit Go.Sort

def allSome {α : Type} : List (Option α) → Option (List α)
  | [] => some []
  | none :: _ => none
  | some x :: l => (allSome l).map (x :: ·)
theorem allSome_map {α : Type} : ∀ l : List α, allSome (l.map some) = some l
  | [] => rfl
  | x :: l => by simp [allSome, allSome_map l]
theorem allSome_none {α : Type} : ∀ {l : List (Option α)}, none ∈ l → allSome l = none
  | none :: _, _ => rfl
  | some x :: l, h => by
    have : none ∈ l := by simpa using h
    simp [allSome, allSome_none this]
/-- The names of a list, if each element has one, all unlike. -/
def namesP (s : ByteArray) (l : List Val) : Option (List ByteArray) := match allSome (l.map (nameOf s)) with | some ns => if ns.Nodup then some ns else none | none => none
def NamesPost (o : Option (List ByteArray)) (w : World) (e : Ending) (w' : World) : Prop :=
  (∃ ns A, o = some ns ∧ e = .returned (.tuple #[.slice A ns.length ns.length, .bool true]) ∧ SlE strE 1 w' w.heap.size w'.heap.size A ns ∧ Below w.heap.size w w') ∨
  (o = none ∧ e = .returned (.tuple #[.slice none 0 0, .bool false]) ∧ Below w.heap.size w w')
/-- ..and it is the caller's to write into. -/
def NamesPostO (o : Option (List ByteArray)) (w : World) (e : Ending) (w' : World) : Prop :=
  (∃ ns A, o = some ns ∧ e = .returned (.tuple #[.slice A ns.length ns.length, .bool true]) ∧ SlE strE 1 w' w.heap.size w'.heap.size A ns ∧ Below w.heap.size w w' ∧ Thaw w' A) ∨
  (o = none ∧ e = .returned (.tuple #[.slice none 0 0, .bool false]) ∧ Below w.heap.size w w')

end Go.Proofs.YtjihepdjcbpgoaaGreatDoor
