/-
  What the rows of values are given: the table of short escapes holds what it is laid to hold; and one world in which it does. No condition.
  What the rows that reach strconv's numbers are given: its tables, and the table of short escapes, hold what they are laid to hold; and one world in which they do. No condition.
-/
import Derived.Test.YtjihepdjcbpgoaaGreatDoorRows
import Derived.Test.YtjihepdjcbpgoaaGreatDoorVB
import Derived.Lib.LaidTab
import Derived.Deep.DeepHandedRow
import Derived.RowKitTokens
import Derived.OpenShut
import Derived.Test.YtjihepdjcbpgoaaGreatDoorMaps
import Derived.Stop.LaidErr
namespace Go.Proofs.YtjihepdjcbpgoaaGreatDoor.laidV
open Go.ChangeShapes Go.WideShapes Go.ChangeAt Go.RowKit

theorem own : ownKnob Tryz.prog.godebug = none := by kernel_rfl
theorem laidOut : laidOutB Tryz.prog = true := by kernel_rfl
theorem gS : Tryz.prog.globalNamed "inarch/quotes.shorts" = some 0 := by kernel_rfl
theorem gSType : (Tryz.prog.globals[0]?).map (·.type) = some 181 := by kernel_rfl
theorem cellsT : Tryz.prog.cellsOf 181 = 16 := by kernel_rfl
theorem cellsS : Tryz.prog.cellsOf 180 = 2 := by kernel_rfl
theorem cellsU : Tryz.prog.cellsOf 5 = 1 := by kernel_rfl
abbrev list : List (String × DataW Unit) := [("inarch/quotes.shorts", Rows.laid_inarch_quotes_shorts)]

theorem pair_of {H : Type} {enc : TypeId × Value → H} {w : World} {base : Nat} {sp : Nat → Bool} {held : Bool} {fuel : Nat} {c0 c1 : Value} {a b : Int} {p : List MemPlace}
    (h : DataW.trod enc Tryz.prog w base sp held fuel 180 [c0, c1] = some (.agg [.lit (.int .u8 a), .lit (.int .u8 b)], p)) : c0 = .int .u8 a ∧ c1 = .int .u8 b := by
  obtain ⟨xs, n, -, hx, -, hxl, hf⟩ := DataW.trod_struct Tryz.underlying180 h
  match xs, hxl with
  | [y0, y1], _ =>
    have f0 : DataW.trod enc Tryz.prog w base sp held n 5 (([c0, c1].drop 0).take (Tryz.prog.cellsOf 5)) = some y0 := hf 0 _ rfl
    have f1 : DataW.trod enc Tryz.prog w base sp held n 5 (([c0, c1].drop 1).take (Tryz.prog.cellsOf 5)) = some y1 := hf 1 _ rfl
    rw [cellsU] at f0 f1
    obtain ⟨k0, e0, rfl, -⟩ := DataW.trod_int Tryz.underlying5 f0
    obtain ⟨k1, e1, rfl, -⟩ := DataW.trod_int Tryz.underlying5 f1
    simp at e0 e1 hx
    subst e0 e1
    simp [hx.1]
theorem cells_shorts {H : Type} {enc : TypeId × Value → H} {w : World} {base : Nat} {sp : Nat → Bool} {held : Bool} {fuel : Nat} {cs : List Value} {p : List MemPlace}
    (h : DataW.trod enc Tryz.prog w base sp held fuel 181 cs = some (Rows.laid_inarch_quotes_shorts, p)) : cs = shTab.toList := by
  obtain ⟨xs, m, -, hx, hl, hxl, hf⟩ := DataW.trod_array Tryz.underlying181 h
  rw [cellsT] at hl
  rw [cellsS] at hf
  match cs, hl with
  | [a0, b0, a1, b1, a2, b2, a3, b3, a4, b4, a5, b5, a6, b6, a7, b7], _ =>
    match xs, hxl with
    | [x0, x1, x2, x3, x4, x5, x6, x7], _ =>
      have f0 : DataW.trod enc Tryz.prog w base sp held m 180 [a0, b0] = some x0 := hf 0 (by omega)
      have f1 : DataW.trod enc Tryz.prog w base sp held m 180 [a1, b1] = some x1 := hf 1 (by omega)
      have f2 : DataW.trod enc Tryz.prog w base sp held m 180 [a2, b2] = some x2 := hf 2 (by omega)
      have f3 : DataW.trod enc Tryz.prog w base sp held m 180 [a3, b3] = some x3 := hf 3 (by omega)
      have f4 : DataW.trod enc Tryz.prog w base sp held m 180 [a4, b4] = some x4 := hf 4 (by omega)
      have f5 : DataW.trod enc Tryz.prog w base sp held m 180 [a5, b5] = some x5 := hf 5 (by omega)
      have f6 : DataW.trod enc Tryz.prog w base sp held m 180 [a6, b6] = some x6 := hf 6 (by omega)
      have f7 : DataW.trod enc Tryz.prog w base sp held m 180 [a7, b7] = some x7 := hf 7 (by omega)
      obtain ⟨d0, p0⟩ := x0
      obtain ⟨d1, p1⟩ := x1
      obtain ⟨d2, p2⟩ := x2
      obtain ⟨d3, p3⟩ := x3
      obtain ⟨d4, p4⟩ := x4
      obtain ⟨d5, p5⟩ := x5
      obtain ⟨d6, p6⟩ := x6
      obtain ⟨d7, p7⟩ := x7
      simp only [Rows.laid_inarch_quotes_shorts, Prod.mk.injEq, DataW.agg.injEq, List.map_cons, List.map_nil, List.cons.injEq, and_true] at hx
      obtain ⟨⟨rfl, rfl, rfl, rfl, rfl, rfl, rfl, rfl⟩, -⟩ := hx
      obtain ⟨rfl, rfl⟩ := pair_of f0
      obtain ⟨rfl, rfl⟩ := pair_of f1
      obtain ⟨rfl, rfl⟩ := pair_of f2
      obtain ⟨rfl, rfl⟩ := pair_of f3
      obtain ⟨rfl, rfl⟩ := pair_of f4
      obtain ⟨rfl, rfl⟩ := pair_of f5
      obtain ⟨rfl, rfl⟩ := pair_of f6
      obtain ⟨rfl, rfl⟩ := pair_of f7
      rfl
theorem shorts_of {W : World} (h : laidMet Tryz.prog list W) : Shorts W := by
  obtain ⟨ps, ⟨g', t', cs, fuel, p, q, hg', ht', hvar, hd, _, _⟩, _⟩ := h
  obtain rfl := Option.some.inj (gS.symm.trans hg')
  obtain rfl := Option.some.inj (gSType.symm.trans ht')
  have hc := cells_shorts hd
  unfold World.var? at hvar
  rw [gS, Option.bind_some] at hvar
  split at hvar
  · rename_i c t fr hh
    refine ⟨t, fr, ?_⟩
    rw [hh]
    simp at hvar
    subst hvar
    simp at hc
    rw [hc]
  · cases hvar

/-- A world for the witness: the settled one, the table holding what its initialiser lays. -/
noncomputable def lay (h : Array Obj) (g : Nat) (cs : Array Value) : Array Obj := h.modify g fun
  | .cells _ t frozen => .cells cs t frozen
  | o => o
noncomputable def world (os : Os) : World :=
  { World.holding Tryz.prog os ⟨#[], #[], []⟩ with heap := lay (World.holding Tryz.prog os ⟨#[], #[], []⟩).heap 0 shTab }
theorem met (os : Os) (args : Array Value) : laidMet Tryz.prog list ((world os).forCall (fun _ _ => 0) ⟨#[], args, []⟩).memory :=
  laidMet_of_run' 8 (by kernel_rfl) (by kernel_rfl)
end Go.Proofs.YtjihepdjcbpgoaaGreatDoor.laidV

namespace Go.Proofs.YtjihepdjcbpgoaaGreatDoor.laidW
open Go.ChangeShapes Go.WideShapes Go.ChangeAt Go.RowKit

theorem gPow : Tryz.prog.globalNamed "internal/strconv.uint64pow10" = some 1 := by kernel_rfl
theorem gPowType : (Tryz.prog.globals[1]?).map (·.type) = some 218 := by kernel_rfl
theorem gPowArray : Tryz.prog.underlying 218 = some (.array 20 169) := Tryz.underlying218
theorem gPowElem : Tryz.prog.underlying 169 = some (.int .u64) := Tryz.underlying169
abbrev list3 : List (String × DataW Unit) := [("math/bits.deBruijn32tab", Rows.laid_math_bits_deBruijn32tab), ("math/bits.deBruijn64tab", Rows.laid_math_bits_deBruijn64tab), ("internal/strconv.uint64pow10", Rows.laid_internal_strconv_uint64pow10)]
abbrev list4 : List (String × DataW Unit) := [("math/bits.deBruijn32tab", Rows.laid_math_bits_deBruijn32tab), ("math/bits.deBruijn64tab", Rows.laid_math_bits_deBruijn64tab), ("internal/strconv.uint64pow10", Rows.laid_internal_strconv_uint64pow10), ("inarch/quotes.shorts", Rows.laid_inarch_quotes_shorts)]
theorem pow_of3 {W : World} (h : laidMet Tryz.prog list3 W) : Pow W := by
  have h3 : laidMet Tryz.prog [("internal/strconv.uint64pow10", Rows.laid_internal_strconv_uint64pow10)] W := laidMet.tail (laidMet.tail h)
  exact Lib.tabIs_of_head (zs := Lib.pow10Tab) gPow gPowType gPowArray gPowElem (by kernel_rfl) (by kernel_rfl) h3
theorem pow_of4 {W : World} (h : laidMet Tryz.prog list4 W) : Pow W := by
  have h3 : laidMet Tryz.prog [("internal/strconv.uint64pow10", Rows.laid_internal_strconv_uint64pow10), ("inarch/quotes.shorts", Rows.laid_inarch_quotes_shorts)] W := laidMet.tail (laidMet.tail h)
  exact Lib.tabIs_of_head (zs := Lib.pow10Tab) gPow gPowType gPowArray gPowElem (by kernel_rfl) (by kernel_rfl) h3
theorem shorts_of4 {W : World} (h : laidMet Tryz.prog list4 W) : Shorts W := laidV.shorts_of (laidMet.tail (laidMet.tail (laidMet.tail h)))
/-- A world for the witness. -/
noncomputable def world (os : Os) : World :=
  let w0 := World.holding Tryz.prog os ⟨#[], #[], []⟩
  { w0 with heap := laidV.lay (laidV.lay (laidV.lay (laidV.lay w0.heap 2 #[.int .u8 0, .int .u8 1, .int .u8 28, .int .u8 2, .int .u8 29, .int .u8 14, .int .u8 24, .int .u8 3, .int .u8 30, .int .u8 22, .int .u8 20, .int .u8 15, .int .u8 25, .int .u8 17, .int .u8 4, .int .u8 8, .int .u8 31, .int .u8 27, .int .u8 13, .int .u8 23, .int .u8 21, .int .u8 19, .int .u8 16, .int .u8 7, .int .u8 26, .int .u8 12, .int .u8 18, .int .u8 6, .int .u8 11, .int .u8 5, .int .u8 10, .int .u8 9]) 3 #[.int .u8 0, .int .u8 1, .int .u8 56, .int .u8 2, .int .u8 57, .int .u8 49, .int .u8 28, .int .u8 3, .int .u8 61, .int .u8 58, .int .u8 42, .int .u8 50, .int .u8 38, .int .u8 29, .int .u8 17, .int .u8 4, .int .u8 62, .int .u8 47, .int .u8 59, .int .u8 36, .int .u8 45, .int .u8 43, .int .u8 51, .int .u8 22, .int .u8 53, .int .u8 39, .int .u8 33, .int .u8 30, .int .u8 24, .int .u8 18, .int .u8 12, .int .u8 5, .int .u8 63, .int .u8 55, .int .u8 48, .int .u8 27, .int .u8 60, .int .u8 41, .int .u8 37, .int .u8 16, .int .u8 46, .int .u8 35, .int .u8 44, .int .u8 21, .int .u8 52, .int .u8 32, .int .u8 23, .int .u8 11, .int .u8 54, .int .u8 26, .int .u8 40, .int .u8 15, .int .u8 34, .int .u8 20, .int .u8 31, .int .u8 10, .int .u8 25, .int .u8 14, .int .u8 19, .int .u8 9, .int .u8 13, .int .u8 8, .int .u8 7, .int .u8 6]) 1 #[.int .u64 1, .int .u64 10, .int .u64 100, .int .u64 1000, .int .u64 10000, .int .u64 100000, .int .u64 1000000, .int .u64 10000000, .int .u64 100000000, .int .u64 1000000000, .int .u64 10000000000, .int .u64 100000000000, .int .u64 1000000000000, .int .u64 10000000000000, .int .u64 100000000000000, .int .u64 1000000000000000, .int .u64 10000000000000000, .int .u64 100000000000000000, .int .u64 1000000000000000000, .int .u64 10000000000000000000]) 0 shTab }
theorem met3 (os : Os) (args : Array Value) : laidMet Tryz.prog list3 ((world os).forCall (fun _ _ => 0) ⟨#[], args, []⟩).memory :=
  laidMet_of_run' 8 (by kernel_rfl) (by kernel_rfl)
theorem met4 (os : Os) (args : Array Value) : laidMet Tryz.prog list4 ((world os).forCall (fun _ _ => 0) ⟨#[], args, []⟩).memory :=
  laidMet_of_run' 8 (by kernel_rfl) (by kernel_rfl)
end Go.Proofs.YtjihepdjcbpgoaaGreatDoor.laidW
