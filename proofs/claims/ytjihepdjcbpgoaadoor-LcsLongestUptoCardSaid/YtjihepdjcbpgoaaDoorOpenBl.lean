/-
  What a []bool argument is in memory, out of its reading. Condition: it is opened as the row's precondition says.
-/
import Derived.Test.YtjihepdjcbpgoaaDoorMK
import Derived.Test.YtjihepdjcbpgoaaDoorOpenV
import Derived.Deep.Grids
namespace Go.Proofs.YtjihepdjcbpgoaaDoor
open Go.RowKit Go.ChangeShapes Go.WideShapes Go.ChangeAt Go.Deep

set_option maxRecDepth 100000 in
theorem open_bls {H : Type} {enc : TypeId × Value → H} {w : World} {v : Value} {d : DataW H} {p : List MemPlace} {r : Reach} {b0 : Nat} (hv : Value.okWide Tryd.prog w r b0 41 v) (h : DataW.Trod enc Tryd.prog w 0 (fun _ => true) true 41 v d p) :
    ∃ (a : Option Addr) (cap : Nat) (l : List Bool), v = .slice a l.length cap ∧ SlE boolE 1 w 0 w.heap.size a l := by
  obtain ⟨a0, len, cap, rfl⟩ := okWide_slice Tryd.underlying41 hv
  obtain ⟨fuel, hf⟩ := h
  rcases open_bools Tryd.underlying41 Tryd.underlying4 (by kernel_rfl) hf with ⟨hcs, hx⟩ | ⟨a, len', cap', B, hcs, _, hl, _, hx, hcell⟩
  · simp [Value.cells] at hcs
    obtain ⟨rfl, rfl, rfl⟩ := hcs
    exact ⟨none, 0, [], rfl, SlE.nil⟩
  · simp [Value.cells] at hcs
    obtain ⟨rfl, rfl, rfl⟩ := hcs
    refine ⟨some a, cap, (List.range len).map B, by rw [List.length_map, List.length_range], fun hpos => ?_⟩
    rw [List.length_map, List.length_range] at hpos
    have h0 := hcell 0 (by omega)
    obtain ⟨b, off, spot⟩ := a
    have hsp := spot_none h0
    subst hsp
    have hbl := World.block_lt_of_cell? w _ h0
    rw [add_none] at hbl
    refine ⟨b, off, rfl, Nat.zero_le _, hbl, hbl, fun i y hy j u hu => ?_⟩
    have hj : j = 0 := by have := (List.getElem?_eq_some_iff.1 hu).1; simp at this; omega
    subst hj
    simp at hu
    subst hu
    have hi : i < len := by have := (List.getElem?_eq_some_iff.1 hy).1; simpa using this
    have hy2 : B i = y := by simpa [hi] using hy
    have h1 := hcell i (by omega)
    rw [add_none] at h1
    rw [← hy2]
    simpa using h1
end Go.Proofs.YtjihepdjcbpgoaaDoor
