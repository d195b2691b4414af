/-
  The reference's deep, plain and May, and the law's Weight and Great, as plain functions of a value. Conditions: the tree lies in memory, its weight is bounded.
-/
import Derived.Test.YtcpdogjcofkpcaaDoorO4
import Derived.RegionTactic
namespace Go.Proofs.YtcpdogjcofkpcaaDoor
open Go.RowKit Go.Sort

/-- A value's box, behind what was made and written since. -/
theorem bx {w wr : World} {x : AV} (hb : Below (w.heap.size + 1) (w.alloc (.cells #[.int .u8 x.k, .string x.t, .slice x.la x.l.length x.lc, .slice x.ka x.ks.length x.kc] 26)) wr) :
    wr.cell? ⟨w.heap.size, 0, none⟩ = some (.int .u8 x.k) ∧ wr.cell? ⟨w.heap.size, 1, none⟩ = some (.string x.t) ∧ wr.cell? ⟨w.heap.size, 2, none⟩ = some (.slice x.la x.l.length x.lc) ∧ wr.cell? ⟨w.heap.size, 3, none⟩ = some (.slice x.ka x.ks.length x.kc) := by
  have h := vbox4 ((hb.block w.heap.size (by omega)).trans (heap_alloc_new w _))
  exact ⟨h.1, h.2.1, h.2.2.1, h.2.2.2.1⟩
theorem bx_w {w wr : World} {o : Obj} (hb : Below (w.heap.size + 1) (w.alloc o) wr) : Below w.heap.size w wr := ((Below.refl _ _).alloc (Nat.le_refl _) _).trans (hb.mono (by omega))
theorem Rd.kid_at {w wr : World} {x y : AV} (hx : Rd w x) (hb : Below w.heap.size w wr) (hy : y ∈ x.l) : Rd wr y := (hx.up hb).kid hy

end Go.Proofs.YtcpdogjcofkpcaaDoor
