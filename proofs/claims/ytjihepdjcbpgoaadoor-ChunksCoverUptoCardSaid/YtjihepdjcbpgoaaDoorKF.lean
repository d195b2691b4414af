/-
  keyeds.Names's own function and gather of names: contracts. Conditions: the values lie in memory, their weights are bounded; the table of short escapes holds what its initialiser lays.
  keyeds.gather of names: contract. Conditions: the values lie in memory, their weights are bounded; the table of short escapes holds what its initialiser lays.
  keyeds.Names: contract. Conditions: the values lie in memory, their weights are bounded; the table of short escapes holds what its initialiser lays.
  keyeds.gather of lists of names, with Plan's first function: contracts. Conditions: the lists lie in memory, their weights are bounded; the table of short escapes holds what its initialiser lays.
  keyeds.gather of lists of names: contract. Conditions: the lists lie in memory, their weights are bounded; the table of short escapes holds what its initialiser lays.
  The map of places that keyeds.Plan keeps: a name's place in a list of names; rows of triples. Plain lemmas over the program's types; condition: names are no longer than a text may be.
-/
import Derived.Test.YtjihepdjcbpgoaaDoorVU
import Derived.Test.YtjihepdjcbpgoaaDoorVJ
import Derived.Test.YtjihepdjcbpgoaaDoorRB
import Derived.Deep.QuietTactic
import Derived.BigQuiet
import Derived.Test.YtjihepdjcbpgoaaDoorSE
import Derived.Maps.Own
import Derived.Maps.OwnOps
import Derived.Maps.OwnSet
import Derived.Maps.Views
namespace Go.Proofs.YtjihepdjcbpgoaaDoor
open Go.RowKit Go.Sort Go.BigFrame

/-- A keyed element's name. -/
def nameOf (s : ByteArray) (v : Val) : Option ByteArray := match v.get s with | some y => if y.k < 7 then some ⟨(textR y).toArray⟩ else none | none => none
def NPost (o : Option ByteArray) (w : World) (e : Ending) (w' : World) : Prop := ∃ t, e = .returned (.tuple #[.string t, .bool o.isSome]) ∧ (∀ u, o = some u → t = u) ∧ Below w.heap.size w w'
def GetSome (v : Val) (w : World) (e : Ending) (w' : World) : Prop := ∃ z : AV, e = .returned (.tuple #[z.val, .bool true]) ∧ z.v = v ∧ z.In w' w.heap.size w'.heap.size ∧ Below w.heap.size w w'
def GetNone (w : World) (e : Ending) (w' : World) : Prop := e = .returned (.tuple #[zAV.val, .bool false]) ∧ Below w.heap.size w w'
theorem S.bl {N : Nat} {W2 w' : World} (h : (∀ b o, b < N → w'.cell? ⟨b, o, none⟩ = W2.cell? ⟨b, o, none⟩) ∧ Below N W2 w') : Below N W2 w' := h.2

end Go.Proofs.YtjihepdjcbpgoaaDoor

namespace Go.Proofs.YtjihepdjcbpgoaaDoor
open Go.RowKit Go.Sort

/-- The block that a slice begins in is there, none of its cells is frozen. -/
def Thaw (w : World) (A : Option Addr) : Prop := ∀ b off, A = some ⟨b, off, none⟩ → b < w.heap.size ∧ ∀ o, w.frozen? ⟨b, o, none⟩ = false
theorem Thaw.up {w w' : World} {A : Option Addr} (h : Thaw w A) (hb : Below w.heap.size w w') : Thaw w' A := fun b off e => by
  obtain ⟨h1, h2⟩ := h b off e
  exact ⟨Nat.lt_of_lt_of_le h1 hb.size, fun o => (hb.frozen (p := ⟨b, o, none⟩) h1).trans (h2 o)⟩
theorem own_thaw {w : World} {base e size n m cap : Nat} {A : Option Addr} {xs : List Value} (h : w.ownsRow base e size (.slice A m cap) n xs) : Thaw w A := by
  intro b off e1
  rcases h.2 with ⟨e2, -⟩ | ⟨g, cap', cur, e2, -, hg, -⟩
  · injection e2 with e3; rw [e1] at e3; cases e3
  · injection e2 with e3
    rw [e1] at e3
    injection e3 with e3
    injection e3 with e4 e5
    subst e4
    refine ⟨?_, fun o => frozen_of_row w b o cur _ hg⟩
    rcases Nat.lt_or_ge b w.heap.size with h' | h'
    · exact h'
    · rw [Array.getElem?_eq_none h'] at hg; cases hg
/-- What gather hands back: all that the function gave, or nothing. -/
def GaPost (os : List (Option ByteArray)) (w : World) (e : Ending) (w' : World) : Prop :=
  (∃ ns A c, os = ns.map some ∧ e = .returned (.tuple #[.slice A ns.length c, .bool true]) ∧ ns.length ≤ c ∧ SlE strE 1 w' w.heap.size w'.heap.size A ns ∧ Below w.heap.size w w' ∧ Thaw w' A) ∨
  (none ∈ os ∧ e = .returned (.tuple #[.slice none 0 0, .bool false]) ∧ Below w.heap.size w w')
/-- A slice of the call's own that holds texts. -/
theorem own_form {w : World} {base : Nat} {v : Value} {l : List ByteArray} (h : OwnS w base v l) : ∃ a c, v = .slice a l.length c := by
  rcases h.2 with ⟨e, h0⟩ | ⟨g, cap, cur, e, _⟩
  · exact ⟨none, 0, by rw [e, h0]⟩
  · exact ⟨_, _, e⟩

end Go.Proofs.YtjihepdjcbpgoaaDoor

namespace Go.Proofs.YtjihepdjcbpgoaaDoor
open Go.RowKit Go.Sort

def allSome {α : Type} : List (Option α) → Option (List α)
  | [] => some []
  | none :: _ => none
  | some x :: l => (allSome l).map (x :: ·)
theorem allSome_map {α : Type} : ∀ l : List α, allSome (l.map some) = some l
  | [] => rfl
  | x :: l => by simp [allSome, allSome_map l]
theorem allSome_none {α : Type} : ∀ {l : List (Option α)}, none ∈ l → allSome l = none
  | none :: _, _ => rfl
  | some x :: l, h => by
    have : none ∈ l := by simpa using h
    simp [allSome, allSome_none this]
/-- The names of a list, if each element has one, all unlike. -/
def namesP (s : ByteArray) (l : List Val) : Option (List ByteArray) := match allSome (l.map (nameOf s)) with | some ns => if ns.Nodup then some ns else none | none => none
def NamesPost (o : Option (List ByteArray)) (w : World) (e : Ending) (w' : World) : Prop :=
  (∃ ns A, o = some ns ∧ e = .returned (.tuple #[.slice A ns.length ns.length, .bool true]) ∧ SlE strE 1 w' w.heap.size w'.heap.size A ns ∧ Below w.heap.size w w') ∨
  (o = none ∧ e = .returned (.tuple #[.slice none 0 0, .bool false]) ∧ Below w.heap.size w w')
/-- ..and it is the caller's to write into. -/
def NamesPostO (o : Option (List ByteArray)) (w : World) (e : Ending) (w' : World) : Prop :=
  (∃ ns A, o = some ns ∧ e = .returned (.tuple #[.slice A ns.length ns.length, .bool true]) ∧ SlE strE 1 w' w.heap.size w'.heap.size A ns ∧ Below w.heap.size w w' ∧ Thaw w' A) ∨
  (o = none ∧ e = .returned (.tuple #[.slice none 0 0, .bool false]) ∧ Below w.heap.size w w')

end Go.Proofs.YtjihepdjcbpgoaaDoor

namespace Go.Proofs.YtjihepdjcbpgoaaDoor
open Go.RowKit Go.Sort

/-- A list of values, as it lies. -/
structure LA where
  a : Option Addr
  l : List AV
  c : Nat
def LA.enc (x : LA) : List Value := [.slice x.a x.l.length x.c]
def LA.v (x : LA) : List Val := x.l.map AV.v
/-- The list lies in memory, its length and its elements' weights are bounded. -/
structure LA.Rd (w : World) (x : LA) : Prop where
  sl : SlE AV.enc 4 w 0 w.heap.size x.a x.l
  len : x.l.length ≤ 1048576
  kids : ∀ y ∈ x.l, Go.Proofs.YtjihepdjcbpgoaaDoor.Rd w y ∧ y.w ≤ 1048576
theorem LA.Rd.up {w w' : World} {x : LA} (h : x.Rd w) (hb : Below w.heap.size w w') : x.Rd w' := ⟨h.sl.up hb, h.len, fun y hy => ⟨(h.kids y hy).1.up hb, (h.kids y hy).2⟩⟩
/-- A list of texts with no room behind, as it lies. -/
structure SA where
  a : Option Addr
  ns : List ByteArray
def SA.enc (x : SA) : List Value := [.slice x.a x.ns.length x.ns.length]
theorem la_at {w : World} {lo hi : Nat} {a : Option Addr} {l : List LA} (h : SlE LA.enc 1 w lo hi a l) {k : Nat} {y : LA} (hk : l[k]? = some y) :
    ∃ b off, a = some ⟨b, off, none⟩ ∧ lo ≤ b ∧ b < hi ∧ b < w.heap.size ∧ w.cell? ⟨b, off + k, none⟩ = some (.slice y.a y.l.length y.c) := by
  have hl : k < l.length := (List.getElem?_eq_some_iff.1 hk).1
  obtain ⟨b, off, e, g1, g2, g3, g4⟩ := h (by omega)
  have c := g4 k y hk
  exact ⟨b, off, e, g1, g2, g3, by simpa using c 0 _ rfl⟩
theorem sa_at {w : World} {lo hi : Nat} {a : Option Addr} {l : List SA} (h : SlE SA.enc 1 w lo hi a l) {k : Nat} {y : SA} (hk : l[k]? = some y) :
    ∃ b off, a = some ⟨b, off, none⟩ ∧ lo ≤ b ∧ b < hi ∧ b < w.heap.size ∧ w.cell? ⟨b, off + k, none⟩ = some (.slice y.a y.ns.length y.ns.length) := by
  have hl : k < l.length := (List.getElem?_eq_some_iff.1 hk).1
  obtain ⟨b, off, e, g1, g2, g3, g4⟩ := h (by omega)
  have c := g4 k y hk
  exact ⟨b, off, e, g1, g2, g3, by simpa using c 0 _ rfl⟩

theorem info_row : (Tryd.prog.info? 26).map (fun i => (i.zero, i.size, i.bytes)) = some (some (.slice none 0 0), 1, 24) := by kernel_rfl
def OwnR (w : World) (base : Nat) (v : Value) (l : List SA) : Prop := w.ownsRow base 26 1 v l.length (l.flatMap SA.enc)
theorem own_formR {w : World} {base : Nat} {v : Value} {l : List SA} (h : OwnR w base v l) : ∃ a c, v = .slice a l.length c := by
  rcases h.2 with ⟨e, h0⟩ | ⟨g, cap, cur, e, _⟩
  · exact ⟨none, 0, by rw [e, h0]⟩
  · exact ⟨_, _, e⟩

end Go.Proofs.YtjihepdjcbpgoaaDoor

namespace Go.Proofs.YtjihepdjcbpgoaaDoor
open Go.RowKit Go.Sort

/-- What gather of the lists hands back. -/
def GlPost (os : List (Option (List ByteArray))) (w : World) (e : Ending) (w' : World) : Prop :=
  (∃ (R : List SA) (A : Option Addr) (c : Nat), os = R.map (fun r => some r.ns) ∧ e = .returned (.tuple #[.slice A R.length c, .bool true]) ∧ SlE SA.enc 1 w' w.heap.size w'.heap.size A R ∧ (∀ r ∈ R, SlE strE 1 w' 0 w'.heap.size r.a r.ns) ∧ Below w.heap.size w w') ∨
  (none ∈ os ∧ e = .returned (.tuple #[.slice none 0 0, .bool false]) ∧ Below w.heap.size w w')

end Go.Proofs.YtjihepdjcbpgoaaDoor

namespace Go.Proofs.YtjihepdjcbpgoaaDoor
open Go.RowKit Go.Sort

theorem mapZero (w : World) : (zeroValue 3).run Tryd.prog w = .ok (.int .i64 0) w := by kernel_rfl
theorem idxB_snoc_new {ids : List ByteArray} {s : ByteArray} (h : s ∉ ids) : idxB (ids ++ [s]) s = some ids.length := by
  induction ids with
  | nil => simp [idxB]
  | cons t ids ih =>
    simp only [List.mem_cons, not_or] at h
    simp only [List.cons_append, idxB, if_neg (Ne.symm h.1), ih h.2, Option.map_some, List.length_cons]
theorem idxB_snoc_old {ids : List ByteArray} {s t : ByteArray} (h : t ≠ s) : idxB (ids ++ [s]) t = idxB ids t := by
  induction ids with
  | nil => simp [idxB, Ne.symm h]
  | cons u ids ih => simp only [List.cons_append, idxB, ih]

/-- Block B is a map that tells each name's place in the list. -/
def MapIs (w : World) (B : Nat) (ids : List ByteArray) : Prop :=
  ∃ (n : Nat) (D : DataW Unit), w.ownsMap Tryd.prog 9 (plainElem Tryd.prog 3) B n D ∧ n ≤ ids.length ∧
    ∀ s : ByteArray, s.size ≤ Go.maxLen → Maps.has D (keyLit s) = (idxB ids s).isSome ∧ ∀ i, idxB ids s = some i → D.atKey (keyLit s) (.lit (.int .i64 0)) = .lit (.int .i64 (i : Nat))
theorem MapIs.made (w : World) : MapIs (w.alloc (.map #[] 0)) w.heap.size [] :=
  ⟨0, .map [], World.ownsMap_made _ _ _ _, Nat.le_refl _, fun s _ => ⟨rfl, fun i h => by simp [idxB] at h⟩⟩
theorem MapIs.kept {w w' : World} {B : Nat} {ids : List ByteArray} {row : Option Nat} (h : MapIs w B ids) (hg : w.grownBy w' row) (hne : some B ≠ row) : MapIs w' B ids := by
  obtain ⟨n, D, h1, h2, h3⟩ := h
  exact ⟨n, D, h1.kept hg hne, h2, h3⟩
theorem MapIs.lt {w : World} {B : Nat} {ids : List ByteArray} (h : MapIs w B ids) : B < w.heap.size := by
  obtain ⟨n, D, h1, -⟩ := h
  exact h1.lt
theorem MapIs.look {w : World} {B : Nat} {ids : List ByteArray} (h : MapIs w B ids) (s : ByteArray) (hs : s.size ≤ Go.maxLen) :
    ∃ c : Int, (Instr.lookup 73 (.map (some B)) (.string s) true).run Tryd.prog w = .ok (.tuple #[.int .i64 c, .bool (idxB ids s).isSome]) w ∧ ∀ i, idxB ids s = some i → c = (i : Nat) := by
  obtain ⟨n, D, h1, h2, h3⟩ := h
  obtain ⟨e1, e2⟩ := h3 s hs
  obtain ⟨v, ps, hrun, hv⟩ := h1.look_ok mapLaw Tryd.underlying73 (mapZero w) (plainElem_int Tryd.underlying3 (by decide)) (WideMaps.keyOf_string_mk Tryd.underlying9 hs)
  obtain ⟨c, rfl, hc, -⟩ := plainElem_int_inv Tryd.underlying3 hv
  refine ⟨c, by rw [hrun, e1], fun i hi => ?_⟩
  have := congrArg Prod.fst hc
  simp only at this
  rw [e2 i hi] at this
  cases this
  rfl
theorem MapIs.put {w : World} {B : Nat} {ids : List ByteArray} (h : MapIs w B ids) (s : ByteArray) (hs : s.size ≤ Go.maxLen) (hn : s ∉ ids) (hl : ids.length < 1073741824) :
    ∃ w', (Instr.mapUpdate 73 (.map (some B)) (.string s) (.int .i64 ids.length)).run Tryd.prog w = .ok () w' ∧ MapIs w' B (ids ++ [s]) ∧ w.grownBy w' (some B) := by
  obtain ⟨n, D, h1, h2, h3⟩ := h
  have hm := h1.isMap
  obtain ⟨w', hrun, hown, hg⟩ := h1.update mapLaw Tryd.underlying73 (by unfold Go.maxLen; omega) (WideMaps.keyOf_string_mk Tryd.underlying9 hs) (plainElem_int (a := (ids.length : Int)) Tryd.underlying3 (by simp [Lit.wf, IntKind.min, IntKind.max, IntKind.signed, IntKind.bits]; omega))
  refine ⟨w', hrun, ⟨n + 1, _, hown, by simp; omega, fun t ht => ?_⟩, hg⟩
  by_cases e : t = s
  · subst e
    rw [idxB_snoc_new hn]
    refine ⟨Maps.has_put_same hm (by trivial) _, fun i hi => ?_⟩
    cases hi
    exact Maps.atKey_put_same hm (by trivial) _ _
  · have hne : keyLit t ≠ keyLit s := fun h => e (keyLit_inj h)
    rw [idxB_snoc_old e]
    obtain ⟨e1, e2⟩ := h3 t ht
    exact ⟨by rw [Maps.has_put_other hne]; exact e1, fun i hi => by rw [Maps.atKey_put_other hne]; exact e2 i hi⟩

/-- A triple, as it lies. -/
structure Tr where
  id : ByteArray
  b : Int
  l : Int
  r : Int
def Tr.enc (t : Tr) : List Value := [.string t.id, .int .i64 t.b, .int .i64 t.l, .int .i64 t.r]
abbrev Tr.val (t : Tr) : Value := .agg #[.string t.id, .int .i64 t.b, .int .i64 t.l, .int .i64 t.r]
theorem Tr.enc_len (t : Tr) : t.enc.length = 4 := rfl
def Tr.put (side : Nat) (t : Tr) (i : Int) : Tr := if side = 0 then { t with b := i } else if side = 1 then { t with l := i } else { t with r := i }
theorem Tr.put_id (side : Nat) (t : Tr) (i : Int) : (t.put side i).id = t.id := by unfold Tr.put; split; rfl; split <;> rfl
/-- One cell of a triple is another one. -/
theorem flat_put (side : Nat) (hs : side < 3) (i : Int) : ∀ (l : List Tr) (j : Nat), j < l.length → (l.flatMap Tr.enc).set (j * 4 + (side + 1)) (.int .i64 i) = (l.modify j fun t => t.put side i).flatMap Tr.enc
  | [], j, h => by simp at h
  | t :: l, 0, _ => by
    have h3 : side = 0 ∨ side = 1 ∨ side = 2 := by omega
    rcases h3 with rfl | rfl | rfl <;> rfl
  | t :: l, j + 1, h => by
    have ih := flat_put side hs i l j (by simpa using h)
    have e : ∀ (a : Tr) (r : List Tr), (a :: r).flatMap Tr.enc = .string a.id :: .int .i64 a.b :: .int .i64 a.l :: .int .i64 a.r :: r.flatMap Tr.enc := fun a r => rfl
    have e2 : (t :: l).modify (j + 1) (fun t => t.put side i) = t :: l.modify j fun t => t.put side i := rfl
    rw [e2, e, e, ← ih, show (j + 1) * 4 + (side + 1) = j * 4 + (side + 1) + 1 + 1 + 1 + 1 from by omega]
    simp only [List.set_cons_succ]
end Go.Proofs.YtjihepdjcbpgoaaDoor
