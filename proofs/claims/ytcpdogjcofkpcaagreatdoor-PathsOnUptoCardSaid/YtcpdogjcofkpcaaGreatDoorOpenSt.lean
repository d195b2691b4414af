/-
  How an argument that is a list of steps, or a step, reads as the plain data of the walks; and what the bound on the bulk gives. No condition beyond the reading itself.
-/
import Derived.Test.YtcpdogjcofkpcaaGreatDoorRows
import Derived.Test.YtcpdogjcofkpcaaGreatDoorP10
import Derived.WalkKit
import Derived.ProofKit
import Derived.OpenShut
import Derived.Deep.Slices
import Derived.Lib.SmallJoins
namespace Go.Proofs.YtcpdogjcofkpcaaGreatDoor
open Go.RowKit Go.ChangeShapes Go.WideShapes Go.Deep Go.Joins

def stData {H : Type} (s : St) : DataW H := .agg [.lit (.int .u8 s.k), .lit (.string s.t.data.toList), .lit (.string s.i.data.toList), .lit (.int .i64 s.a)]

section
variable {H : Type} {enc : TypeId × Value → H} {w : World}

set_option maxRecDepth 100000 in
theorem cells_st (cs : List Value) {spare : Nat → Bool} {fuel : Nat} {x : DataW H × List MemPlace} (h : DataW.trod enc Tryz.prog w 0 spare true fuel 90 cs = some x) :
    ∃ s : St, cs = s.enc ∧ x.1 = stData s ∧ 0 ≤ s.k ∧ s.k ≤ 255 ∧ -9223372036854775808 ≤ s.a ∧ s.a ≤ 9223372036854775807 := by
  obtain ⟨xs, n, -, hx, hlen, hxl, hf⟩ := DataW.trod_struct Tryz.underlying90 h
  rw [show Tryz.prog.cellsOf 90 = 4 by kernel_rfl] at hlen
  match cs, hlen with
  | [c0, c1, c2, c3], _ =>
    match xs, hxl with
    | [y0, y1, y2, y3], _ =>
      have f0 : DataW.trod enc Tryz.prog w 0 spare true n 88 (([c0, c1, c2, c3].drop 0).take (Tryz.prog.cellsOf 88)) = some y0 := hf 0 _ rfl
      have f1 : DataW.trod enc Tryz.prog w 0 spare true n 9 (([c0, c1, c2, c3].drop 1).take (Tryz.prog.cellsOf 9)) = some y1 := hf 1 _ rfl
      have f2 : DataW.trod enc Tryz.prog w 0 spare true n 9 (([c0, c1, c2, c3].drop 2).take (Tryz.prog.cellsOf 9)) = some y2 := hf 2 _ rfl
      have f3 : DataW.trod enc Tryz.prog w 0 spare true n 3 (([c0, c1, c2, c3].drop 3).take (Tryz.prog.cellsOf 3)) = some y3 := hf 3 _ rfl
      rw [show Tryz.prog.cellsOf 88 = 1 by kernel_rfl] at f0
      rw [show Tryz.prog.cellsOf 9 = 1 by kernel_rfl] at f1 f2
      rw [show Tryz.prog.cellsOf 3 = 1 by kernel_rfl] at f3
      obtain ⟨k, e0, rfl, w0⟩ := DataW.trod_int Tryz.underlying88 f0
      obtain ⟨t, e1, rfl, w1⟩ := DataW.trod_string Tryz.underlying9 f1
      obtain ⟨i, e2, rfl, w2⟩ := DataW.trod_string Tryz.underlying9 f2
      obtain ⟨a, e3, rfl, w3⟩ := DataW.trod_int Tryz.underlying3 f3
      simp at e0 e1 e2 e3
      subst e0 e1 e2 e3
      simp [Lit.wf, IntKind.min, IntKind.max, IntKind.signed, IntKind.bits] at w0 w3
      exact ⟨⟨k, t, i, a⟩, rfl, by rw [hx]; rfl, w0.1, w0.2, w3.1, w3.2⟩

set_option maxRecDepth 100000 in
theorem open_sts {v : Value} {d : DataW H} {p : List MemPlace} {r : Reach} {b0 : Nat} (hv : Value.okWide Tryz.prog w r b0 81 v) (h : DataW.Trod enc Tryz.prog w 0 (fun _ => true) true 81 v d p) :
    ∃ (a : Option Addr) (cap : Nat) (l : List St), v = .slice a l.length cap ∧ l.length ≤ cap ∧ Sts w 0 w.heap.size a l ∧ (d = .nil ∧ l = [] ∨ ∃ spare, d = .slice (l.map stData) spare) ∧
      ∀ s ∈ l, 0 ≤ s.k ∧ s.k ≤ 255 ∧ -9223372036854775808 ≤ s.a ∧ s.a ≤ 9223372036854775807 := by
  obtain ⟨a0, len, cap, rfl⟩ := okWide_slice Tryz.underlying81 hv
  obtain ⟨fuel, hf⟩ := h
  rcases open_slice Tryz.underlying81 hf with ⟨hcs, hx⟩ | ⟨a, len', cap', m, n, D, Pl, hcs, _, hl, hm, hmm, hx, hi⟩
  · simp [Value.cells] at hcs
    obtain ⟨rfl, rfl, rfl⟩ := hcs
    simp only [Prod.mk.injEq] at hx
    exact ⟨none, 0, [], rfl, Nat.le_refl _, SlE.nil, .inl ⟨hx.1, rfl⟩, by simp⟩
  · simp [Value.cells] at hcs
    obtain ⟨rfl, rfl, rfl⟩ := hcs
    simp only [if_true] at hmm
    subst hmm
    simp only [Prod.mk.injEq] at hx
    rw [show Tryz.prog.cellsOf 90 = 4 by kernel_rfl] at hi
    have key : ∀ i, ∃ s : St, i < len → (∀ j u, s.enc[j]? = some u → w.cell? (a.add (i * 4 + j)) = some u) ∧ D i = stData s ∧ 0 ≤ s.k ∧ s.k ≤ 255 ∧ -9223372036854775808 ≤ s.a ∧ s.a ≤ 9223372036854775807 := by
      intro i
      by_cases hil : i < len
      · obtain ⟨cs', hc, ht⟩ := hi i (by omega)
        obtain ⟨_, hcl, hat⟩ := World.cells?_some hc
        obtain ⟨s, hs, hd, hk⟩ := cells_st cs' ht
        refine ⟨s, fun _ => ⟨fun j u hu => ?_, hd, hk⟩⟩
        have hj : j < 4 := by have := (List.getElem?_eq_some_iff.1 hu).1; simpa [St.enc] using this
        have := hat j hj
        rw [Go.Deep.add_add] at this
        rw [this, hs, hu]
      · exact ⟨⟨0, ⟨#[]⟩, ⟨#[]⟩, 0⟩, fun h => absurd h hil⟩
    obtain ⟨f, hf⟩ := Classical.axiomOfChoice key
    refine ⟨some a, m, (List.range len).map f, by simp, by simpa using hl, ?_, .inr ⟨_, by rw [hx.1, List.map_map]; congr 1; exact List.map_congr_left fun i hil => (hf i (by simpa using hil)).2.1⟩, ?_⟩
    · intro hl0
      simp only [List.length_map, List.length_range] at hl0
      obtain ⟨b, off, spot⟩ := a
      have h00 := (hf 0 hl0).1 0 _ rfl
      have hsp : spot = none := by
        simp only [Addr.add, World.cell?] at h00
        cases spot with
        | none => rfl
        | some x => simp at h00; split at h00 <;> simp_all
      subst hsp
      have hb : b < w.heap.size := by rw [add_none] at h00; exact World.block_lt_of_cell? w _ h00
      refine ⟨b, off, rfl, Nat.zero_le _, hb, hb, fun i x hx' j u hu => ?_⟩
      have hil : i < len := by have := (List.getElem?_eq_some_iff.1 hx').1; simpa using this
      have hfx : f i = x := by simpa [hil] using hx'
      subst hfx
      have := (hf i hil).1 j u hu
      rw [add_none] at this
      rw [Nat.add_assoc]
      exact this
    · intro s hs
      obtain ⟨i, hil, rfl⟩ := List.mem_map.1 hs
      exact (hf i (by simpa using hil)).2.2

set_option maxRecDepth 100000 in
theorem open_st {v : Value} {d : DataW H} {p : List MemPlace} {r : Reach} {b0 : Nat} (hv : Value.okWide Tryz.prog w r b0 90 v) (h : DataW.Trod enc Tryz.prog w 0 (fun _ => true) true 90 v d p) :
    ∃ s : St, v = s.val ∧ d = stData s := by
  obtain ⟨cs, rfl, -⟩ := okWide_struct Tryz.underlying90 hv
  obtain ⟨fuel, hf⟩ := h
  obtain ⟨s, hs, hd, -⟩ := cells_st _ hf
  refine ⟨s, ?_, hd⟩
  simp only [Value.cells] at hs
  have : cs = s.enc.toArray := by rw [← hs]
  rw [this]
  rfl
end

theorem bulk_st {H : Type} (s : St) : Rows.uptoBulk (stData (H := H) s) = s.t.size + s.i.size + 5 := by
  have e1 : s.t.data.size = s.t.size := rfl
  have e2 : s.i.data.size = s.i.size := rfl
  simp [stData, Rows.uptoBulk, Rows.uptoBulkAll]
  omega
theorem bulk_sts {H : Type} : ∀ l : List St, Rows.uptoBulkAll (l.map (stData (H := H))) = total l + 5 * l.length
  | [] => rfl
  | s :: l => by
    simp only [List.map_cons, Rows.uptoBulkAll, bulk_st, bulk_sts l, total, List.sum_cons, List.length_cons]
    omega
set_option maxRecDepth 100000 in
theorem fit_of_bulk {l : List St} (h : total l + 5 * l.length ≤ 1048576) (hk : ∀ s ∈ l, 0 ≤ s.k ∧ s.k ≤ 255 ∧ -9223372036854775808 ≤ s.a ∧ s.a ≤ 9223372036854775807) : Fit2 l := by
  have hm : ∀ s ∈ l, s.t.size + s.i.size ≤ total l := by
    clear h hk
    induction l with
    | nil => simp
    | cons x l ih =>
      intro s hs
      simp only [total, List.map_cons, List.sum_cons] at *
      rcases List.mem_cons.1 hs with rfl | hs
      · omega
      · have := ih s hs; omega
  refine ⟨⟨by omega, fun s hs => ?_⟩, fun s hs => (hk s hs).2.2⟩
  have := hm s hs
  exact ⟨by omega, by omega, (hk s hs).1, (hk s hs).2.1⟩
set_option maxRecDepth 100000 in
theorem sts_bulk {H : Type} {l : List St} {d : DataW H} (hd : d = .nil ∧ l = [] ∨ ∃ spare, d = .slice (l.map stData) spare) {n : Nat} (hb : Rows.uptoBulk d ≤ n) : total l + 5 * l.length ≤ n := by
  rcases hd with ⟨rfl, rfl⟩ | ⟨spare, rfl⟩
  · simp [total]
  · simp only [Rows.uptoBulk, bulk_sts] at hb; omega
end Go.Proofs.YtcpdogjcofkpcaaGreatDoor
