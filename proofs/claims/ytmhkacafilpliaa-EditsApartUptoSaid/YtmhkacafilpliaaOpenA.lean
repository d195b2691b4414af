/-
  How an argument that is three values reads as the trees of the walks. No condition beyond the reading itself.
-/
import Derived.Test.YtmhkacafilpliaaOpenV
namespace Go.Proofs.Ytmhkacafilpliaa
open Go.RowKit Go.ChangeShapes Go.WideShapes Go.Deep Go.Joins

section
variable {H : Type} {enc : TypeId × Value → H} {w : World}

set_option maxRecDepth 100000 in
theorem open_vals3 {v : Value} {d : DataW H} {p : List MemPlace} {r : Reach} {b0 : Nat} (hv : Value.okWide Try.prog w r b0 62 v) (h : DataW.Trod enc Try.prog w 0 (fun _ => true) true 62 v d p) :
    ∃ x y z : AV, v = .agg #[.int .u8 x.k, .string x.t, .slice x.la x.l.length x.lc, .slice x.ka x.ks.length x.kc, .int .u8 y.k, .string y.t, .slice y.la y.l.length y.lc, .slice y.ka y.ks.length y.kc, .int .u8 z.k, .string z.t, .slice z.la z.l.length z.lc, .slice z.ka z.ks.length z.kc] ∧ Rd w x ∧ Rd w y ∧ Rd w z ∧ x.w ≤ Rows.uptoBulk d ∧ y.w ≤ Rows.uptoBulk d ∧ z.w ≤ Rows.uptoBulk d := by
  obtain ⟨fuel, hf⟩ := h
  obtain ⟨xs, m, -, hx, hl, hxl, hg⟩ := DataW.trod_array Try.underlying62 hf
  have hv' : ∃ cs, v = .agg cs := by
    simp only [Value.okWide, Try.underlying62] at hv
    obtain ⟨cs, h1, -⟩ := hv
    exact ⟨cs, h1⟩
  obtain ⟨cs, rfl⟩ := hv'
  rw [show Try.prog.cellsOf 62 = 12 by kernel_rfl] at hl
  rw [show Try.prog.cellsOf 26 = 4 by kernel_rfl] at hg
  simp only [Value.cells] at hl hg
  obtain ⟨l⟩ := cs
  match l, hl with
  | [c0, c1, c2, c3, c4, c5, c6, c7, c8, c9, c10, c11], _ =>
    match xs, hxl with
    | [x0, x1, x2], _ =>
      have f0 : DataW.trod enc Try.prog w 0 (fun _ => true) true m 26 [c0, c1, c2, c3] = some x0 := hg 0 (by omega)
      have f1 : DataW.trod enc Try.prog w 0 (fun _ => true) true m 26 [c4, c5, c6, c7] = some x1 := hg 1 (by omega)
      have f2 : DataW.trod enc Try.prog w 0 (fun _ => true) true m 26 [c8, c9, c10, c11] = some x2 := hg 2 (by omega)
      obtain ⟨x, hx', g1, g2, -⟩ := cells_val _ _ _ _ (Nat.lt_succ_self _) f0
      obtain ⟨y, hy', k1, k2, -⟩ := cells_val _ _ _ _ (Nat.lt_succ_self _) f1
      obtain ⟨z, hz', l1, l2, -⟩ := cells_val _ _ _ _ (Nat.lt_succ_self _) f2
      have hd : d = .agg [x0.1, x1.1, x2.1] := by simpa using (Prod.mk.inj hx).1
      simp only [AV.enc, List.cons.injEq, and_true] at hx' hy' hz'
      obtain ⟨rfl, rfl, rfl, rfl⟩ := hx'
      obtain ⟨rfl, rfl, rfl, rfl⟩ := hy'
      obtain ⟨rfl, rfl, rfl, rfl⟩ := hz'
      refine ⟨x, y, z, rfl, g1, k1, l1, ?_, ?_, ?_⟩ <;>
      · rw [hd]
        simp only [Rows.uptoBulk, Rows.uptoBulkAll]
        omega
end
end Go.Proofs.Ytmhkacafilpliaa
