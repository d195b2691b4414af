/-
  What a []uint8 argument is in memory, out of its reading. Condition: it is opened as the row's precondition says.
-/
import Derived.Test.YtcpdogjcofkpcaaGreatDoorWC
import Derived.Test.YtcpdogjcofkpcaaGreatDoorOpenV
import Derived.ChangeSlices
namespace Go.Proofs.YtcpdogjcofkpcaaGreatDoor
open Go.RowKit Go.ChangeShapes Go.WideShapes Go.ChangeAt

set_option maxRecDepth 100000 in
theorem open_u8s {H : Type} {enc : TypeId × Value → H} {w : World} {v : Value} {d : DataW H} {p : List MemPlace} {r : Reach} {b0 : Nat} (hv : Value.okWide Tryz.prog w r b0 87 v) (h : DataW.Trod enc Tryz.prog w 0 (fun _ => true) true 87 v d p) :
    ∃ (a : Option Addr) (cap : Nat) (l : List Int), v = .slice a l.length cap ∧ SlE u8E 1 w 0 w.heap.size a l ∧ ∀ n ∈ l, 0 ≤ n ∧ n ≤ 255 := by
  obtain ⟨a0, len, cap, rfl⟩ := okWide_slice Tryz.underlying87 hv
  obtain ⟨fuel, hf⟩ := h
  rcases open_ints Tryz.underlying87 Tryz.underlying5 (by kernel_rfl) hf with ⟨hcs, hx⟩ | ⟨a, len', cap', zs, hcs, _, hl, _, hzl, -, hcell, hwf⟩
  · simp [Value.cells] at hcs
    obtain ⟨rfl, rfl, rfl⟩ := hcs
    exact ⟨none, 0, [], rfl, SlE.nil, by simp⟩
  · simp [Value.cells] at hcs
    obtain ⟨rfl, rfl, rfl⟩ := hcs
    simp only [if_true] at hzl
    refine ⟨some a, cap, zs.take len, by rw [List.length_take, hzl, Nat.min_eq_left hl], fun hpos => ?_, fun n hn => ?_⟩
    · have hz0 : 0 < zs.length := by rw [List.length_take] at hpos; omega
      have h0 := hcell 0 hz0
      obtain ⟨b, off, spot⟩ := a
      have hsp := spot_none h0
      subst hsp
      have hbl := World.block_lt_of_cell? w _ h0
      rw [add_none] at hbl
      refine ⟨b, off, rfl, Nat.zero_le _, hbl, hbl, fun i y hy j u hu => ?_⟩
      have hj : j = 0 := by have := (List.getElem?_eq_some_iff.1 hu).1; simp at this; omega
      subst hj
      simp at hu
      subst hu
      have hi := (List.getElem?_eq_some_iff.1 hy).1
      rw [List.length_take] at hi
      have hy2 : zs[i]? = some y := by rw [List.getElem?_take_of_lt (by omega)] at hy; exact hy
      have h1 := hcell i (by omega)
      rw [add_none] at h1
      have hg : zs.getD i 0 = y := by rw [List.getD_eq_getElem?_getD, hy2]; rfl
      rw [hg] at h1
      simpa using h1
    · have h1 := hwf n (List.mem_of_mem_take hn)
      simp [Lit.wf, IntKind.min, IntKind.max, IntKind.signed, IntKind.bits] at h1
      exact h1
end Go.Proofs.YtcpdogjcofkpcaaGreatDoor
