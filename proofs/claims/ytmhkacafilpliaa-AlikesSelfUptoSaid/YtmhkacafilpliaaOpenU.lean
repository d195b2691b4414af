/-
  How an argument that is two numbers from 0 to 255 reads. No condition beyond the reading itself.
-/
import Derived.Test.YtmhkacafilpliaaOpenV
namespace Go.Proofs.Ytmhkacafilpliaa
open Go.RowKit Go.ChangeShapes Go.WideShapes Go.Deep Go.Joins

section
variable {H : Type} {enc : TypeId × Value → H} {w : World}

set_option maxRecDepth 100000 in
theorem open_u2 {v : Value} {d : DataW H} {p : List MemPlace} {r : Reach} {b0 : Nat} (hv : Value.okWide Try.prog w r b0 68 v) (h : DataW.Trod enc Try.prog w 0 (fun _ => true) true 68 v d p) :
    ∃ a b : Nat, v = .agg #[.int .u8 (a : Int), .int .u8 (b : Int)] ∧ a < 256 ∧ b < 256 := by
  obtain ⟨fuel, hf⟩ := h
  obtain ⟨xs, m, -, hx, hl, hxl, hg⟩ := DataW.trod_array Try.underlying68 hf
  have hv' : ∃ cs, v = .agg cs := by
    simp only [Value.okWide, Try.underlying68] at hv
    obtain ⟨cs, h1, -⟩ := hv
    exact ⟨cs, h1⟩
  obtain ⟨cs, rfl⟩ := hv'
  rw [show Try.prog.cellsOf 68 = 2 by kernel_rfl] at hl
  rw [show Try.prog.cellsOf 5 = 1 by kernel_rfl] at hg
  simp only [Value.cells] at hl hg
  obtain ⟨l⟩ := cs
  match l, hl with
  | [c0, c1], _ =>
    match xs, hxl with
    | [x0, x1], _ =>
      have f0 : DataW.trod enc Try.prog w 0 (fun _ => true) true m 5 [c0] = some x0 := hg 0 (by omega)
      have f1 : DataW.trod enc Try.prog w 0 (fun _ => true) true m 5 [c1] = some x1 := hg 1 (by omega)
      obtain ⟨a, e0, -, w0⟩ := DataW.trod_int Try.underlying5 f0
      obtain ⟨b, e1, -, w1⟩ := DataW.trod_int Try.underlying5 f1
      simp at e0 e1
      subst e0 e1
      simp [Lit.wf, IntKind.min, IntKind.max, IntKind.signed, IntKind.bits] at w0 w1
      exact ⟨a.toNat, b.toNat, by rw [Int.toNat_of_nonneg w0.1, Int.toNat_of_nonneg w1.1], by omega, by omega⟩
end
end Go.Proofs.Ytmhkacafilpliaa
