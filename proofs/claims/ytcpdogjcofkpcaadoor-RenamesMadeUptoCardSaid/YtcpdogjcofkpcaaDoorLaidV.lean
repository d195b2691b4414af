/-
  What the rows of values are given: the table of short escapes holds what it is laid to hold; and one world in which it does. No condition.
-/
import Derived.Test.YtcpdogjcofkpcaaDoorRows
import Derived.Test.YtcpdogjcofkpcaaDoorLet
import Derived.Lib.LaidTab
import Derived.Deep.DeepHandedRow
import Derived.RowKitTokens
import Derived.OpenShut
namespace Go.Proofs.YtcpdogjcofkpcaaDoor.laidV
open Go.ChangeShapes Go.WideShapes Go.ChangeAt Go.RowKit

theorem own : ownKnob Tryd.prog.godebug = none := by kernel_rfl
theorem laidOut : laidOutB Tryd.prog = true := by kernel_rfl
theorem gS : Tryd.prog.globalNamed "inarch/quotes.shorts" = some 0 := by kernel_rfl
theorem gSType : (Tryd.prog.globals[0]?).map (·.type) = some 106 := by kernel_rfl
theorem cellsT : Tryd.prog.cellsOf 106 = 16 := by kernel_rfl
theorem cellsS : Tryd.prog.cellsOf 105 = 2 := by kernel_rfl
theorem cellsU : Tryd.prog.cellsOf 5 = 1 := by kernel_rfl
abbrev list : List (String × DataW Unit) := [("inarch/quotes.shorts", Rows.laid_inarch_quotes_shorts)]

theorem pair_of {H : Type} {enc : TypeId × Value → H} {w : World} {base : Nat} {sp : Nat → Bool} {held : Bool} {fuel : Nat} {c0 c1 : Value} {a b : Int} {p : List MemPlace}
    (h : DataW.trod enc Tryd.prog w base sp held fuel 105 [c0, c1] = some (.agg [.lit (.int .u8 a), .lit (.int .u8 b)], p)) : c0 = .int .u8 a ∧ c1 = .int .u8 b := by
  obtain ⟨xs, n, -, hx, -, hxl, hf⟩ := DataW.trod_struct Tryd.underlying105 h
  match xs, hxl with
  | [y0, y1], _ =>
    have f0 : DataW.trod enc Tryd.prog w base sp held n 5 (([c0, c1].drop 0).take (Tryd.prog.cellsOf 5)) = some y0 := hf 0 _ rfl
    have f1 : DataW.trod enc Tryd.prog w base sp held n 5 (([c0, c1].drop 1).take (Tryd.prog.cellsOf 5)) = some y1 := hf 1 _ rfl
    rw [cellsU] at f0 f1
    obtain ⟨k0, e0, rfl, -⟩ := DataW.trod_int Tryd.underlying5 f0
    obtain ⟨k1, e1, rfl, -⟩ := DataW.trod_int Tryd.underlying5 f1
    simp at e0 e1 hx
    subst e0 e1
    simp [hx.1]
theorem cells_shorts {H : Type} {enc : TypeId × Value → H} {w : World} {base : Nat} {sp : Nat → Bool} {held : Bool} {fuel : Nat} {cs : List Value} {p : List MemPlace}
    (h : DataW.trod enc Tryd.prog w base sp held fuel 106 cs = some (Rows.laid_inarch_quotes_shorts, p)) : cs = shTab.toList := by
  obtain ⟨xs, m, -, hx, hl, hxl, hf⟩ := DataW.trod_array Tryd.underlying106 h
  rw [cellsT] at hl
  rw [cellsS] at hf
  match cs, hl with
  | [a0, b0, a1, b1, a2, b2, a3, b3, a4, b4, a5, b5, a6, b6, a7, b7], _ =>
    match xs, hxl with
    | [x0, x1, x2, x3, x4, x5, x6, x7], _ =>
      have f0 : DataW.trod enc Tryd.prog w base sp held m 105 [a0, b0] = some x0 := hf 0 (by omega)
      have f1 : DataW.trod enc Tryd.prog w base sp held m 105 [a1, b1] = some x1 := hf 1 (by omega)
      have f2 : DataW.trod enc Tryd.prog w base sp held m 105 [a2, b2] = some x2 := hf 2 (by omega)
      have f3 : DataW.trod enc Tryd.prog w base sp held m 105 [a3, b3] = some x3 := hf 3 (by omega)
      have f4 : DataW.trod enc Tryd.prog w base sp held m 105 [a4, b4] = some x4 := hf 4 (by omega)
      have f5 : DataW.trod enc Tryd.prog w base sp held m 105 [a5, b5] = some x5 := hf 5 (by omega)
      have f6 : DataW.trod enc Tryd.prog w base sp held m 105 [a6, b6] = some x6 := hf 6 (by omega)
      have f7 : DataW.trod enc Tryd.prog w base sp held m 105 [a7, b7] = some x7 := hf 7 (by omega)
      obtain ⟨d0, p0⟩ := x0
      obtain ⟨d1, p1⟩ := x1
      obtain ⟨d2, p2⟩ := x2
      obtain ⟨d3, p3⟩ := x3
      obtain ⟨d4, p4⟩ := x4
      obtain ⟨d5, p5⟩ := x5
      obtain ⟨d6, p6⟩ := x6
      obtain ⟨d7, p7⟩ := x7
      simp only [Rows.laid_inarch_quotes_shorts, Prod.mk.injEq, DataW.agg.injEq, List.map_cons, List.map_nil, List.cons.injEq, and_true] at hx
      obtain ⟨⟨rfl, rfl, rfl, rfl, rfl, rfl, rfl, rfl⟩, -⟩ := hx
      obtain ⟨rfl, rfl⟩ := pair_of f0
      obtain ⟨rfl, rfl⟩ := pair_of f1
      obtain ⟨rfl, rfl⟩ := pair_of f2
      obtain ⟨rfl, rfl⟩ := pair_of f3
      obtain ⟨rfl, rfl⟩ := pair_of f4
      obtain ⟨rfl, rfl⟩ := pair_of f5
      obtain ⟨rfl, rfl⟩ := pair_of f6
      obtain ⟨rfl, rfl⟩ := pair_of f7
      rfl
theorem shorts_of {W : World} (h : laidMet Tryd.prog list W) : Shorts W := by
  obtain ⟨ps, ⟨g', t', cs, fuel, p, q, hg', ht', hvar, hd, _, _⟩, _⟩ := h
  obtain rfl := Option.some.inj (gS.symm.trans hg')
  obtain rfl := Option.some.inj (gSType.symm.trans ht')
  have hc := cells_shorts hd
  unfold World.var? at hvar
  rw [gS, Option.bind_some] at hvar
  split at hvar
  · rename_i c t fr hh
    refine ⟨t, fr, ?_⟩
    rw [hh]
    simp at hvar
    subst hvar
    simp at hc
    rw [hc]
  · cases hvar

/-- A world for the witness: the settled one, the table holding what its initialiser lays. -/
noncomputable def lay (h : Array Obj) (g : Nat) (cs : Array Value) : Array Obj := h.modify g fun
  | .cells _ t frozen => .cells cs t frozen
  | o => o
noncomputable def world (os : Os) : World :=
  { World.holding Tryd.prog os ⟨#[], #[], []⟩ with heap := lay (World.holding Tryd.prog os ⟨#[], #[], []⟩).heap 0 shTab }
theorem met (os : Os) (args : Array Value) : laidMet Tryd.prog list ((world os).forCall (fun _ _ => 0) ⟨#[], args, []⟩).memory :=
  laidMet_of_run' 8 (by kernel_rfl) (by kernel_rfl)
end Go.Proofs.YtcpdogjcofkpcaaDoor.laidV
