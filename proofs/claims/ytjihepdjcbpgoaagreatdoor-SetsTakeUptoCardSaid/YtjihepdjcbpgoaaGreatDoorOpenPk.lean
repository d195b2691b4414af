/-
  How an argument that is a list of picks reads as the plain data of the walks; and what the bound on the bulk gives. No condition beyond the reading itself.
-/
import Derived.Test.YtjihepdjcbpgoaaGreatDoorOpenL
import Derived.Test.YtjihepdjcbpgoaaGreatDoorYD
namespace Go.Proofs.YtjihepdjcbpgoaaGreatDoor
open Go.RowKit Go.ChangeShapes Go.WideShapes Go.Deep Go.Joins

section
variable {H : Type} {enc : TypeId × Value → H} {w : World}

set_option maxRecDepth 100000 in
theorem cells_pk (cs : List Value) {spare : Nat → Bool} {fuel : Nat} {x : DataW H × List MemPlace} (h : DataW.trod enc Tryz.prog w 0 spare true fuel 50 cs = some x) :
    ∃ s : Pk, cs = s.enc ∧ x.1 = .agg [.lit (.int .u8 s.side), .lit (.int .i64 s.at_)] ∧ 0 ≤ s.side ∧ s.side ≤ 255 ∧ -9223372036854775808 ≤ s.at_ ∧ s.at_ ≤ 9223372036854775807 := by
  obtain ⟨xs, n, -, hx, hlen, hxl, hf⟩ := DataW.trod_struct Tryz.underlying50 h
  rw [show Tryz.prog.cellsOf 50 = 2 by kernel_rfl] at hlen
  match cs, hlen with
  | [c0, c1], _ =>
    match xs, hxl with
    | [y0, y1], _ =>
      have f0 : DataW.trod enc Tryz.prog w 0 spare true n 48 (([c0, c1].drop 0).take (Tryz.prog.cellsOf 48)) = some y0 := hf 0 _ rfl
      have f1 : DataW.trod enc Tryz.prog w 0 spare true n 3 (([c0, c1].drop 1).take (Tryz.prog.cellsOf 3)) = some y1 := hf 1 _ rfl
      rw [show Tryz.prog.cellsOf 48 = 1 by kernel_rfl] at f0
      rw [show Tryz.prog.cellsOf 3 = 1 by kernel_rfl] at f1
      obtain ⟨k, e0, rfl, w0⟩ := DataW.trod_int Tryz.underlying48 f0
      obtain ⟨a, e1, rfl, w1⟩ := DataW.trod_int Tryz.underlying3 f1
      simp at e0 e1
      subst e0 e1
      simp [Lit.wf, IntKind.min, IntKind.max, IntKind.signed, IntKind.bits] at w0 w1
      exact ⟨⟨k, a⟩, rfl, by rw [hx]; rfl, w0.1, w0.2, w1.1, w1.2⟩

set_option maxRecDepth 100000 in
theorem open_pks {v : Value} {d : DataW H} {p : List MemPlace} {r : Reach} {b0 : Nat} (hv : Value.okWide Tryz.prog w r b0 41 v) (h : DataW.Trod enc Tryz.prog w 0 (fun _ => true) true 41 v d p) :
    ∃ (a : Option Addr) (cap : Nat) (l : List Pk), v = .slice a l.length cap ∧ SlE Pk.enc 2 w 0 w.heap.size a l ∧ l.length ≤ Rows.uptoBulk d ∧ ∀ s ∈ l, 0 ≤ s.side ∧ s.side ≤ 255 ∧ -9223372036854775808 ≤ s.at_ ∧ s.at_ ≤ 9223372036854775807 := by
  obtain ⟨a0, len, cap, rfl⟩ := okWide_slice Tryz.underlying41 hv
  obtain ⟨fuel, hf⟩ := h
  rcases open_slice Tryz.underlying41 hf with ⟨hcs, hx⟩ | ⟨a, len', cap', m, n, D, Pl, hcs, _, hl, hm, hmm, hx, hi⟩
  · simp [Value.cells] at hcs
    obtain ⟨rfl, rfl, rfl⟩ := hcs
    exact ⟨none, 0, [], rfl, SlE.nil, Nat.zero_le _, by simp⟩
  · simp [Value.cells] at hcs
    obtain ⟨rfl, rfl, rfl⟩ := hcs
    simp only [if_true] at hmm
    subst hmm
    simp only [Prod.mk.injEq] at hx
    rw [show Tryz.prog.cellsOf 50 = 2 by kernel_rfl] at hi
    have key : ∀ i, ∃ s : Pk, i < len → (∀ j u, s.enc[j]? = some u → w.cell? (a.add (i * 2 + j)) = some u) ∧ 1 ≤ Rows.uptoBulk (D i) ∧ 0 ≤ s.side ∧ s.side ≤ 255 ∧ -9223372036854775808 ≤ s.at_ ∧ s.at_ ≤ 9223372036854775807 := by
      intro i
      by_cases hil : i < len
      · obtain ⟨cs', hc, ht⟩ := hi i (by omega)
        obtain ⟨_, hcl, hat⟩ := World.cells?_some hc
        obtain ⟨s, hs, hd, hk⟩ := cells_pk cs' ht
        refine ⟨s, fun _ => ⟨fun j u hu => ?_, ?_, hk⟩⟩
        · have hj : j < 2 := by have := (List.getElem?_eq_some_iff.1 hu).1; simpa [Pk.enc] using this
          have := hat j hj
          rw [Go.Deep.add_add] at this
          rw [this, hs, hu]
        · have hd' : D i = .agg [.lit (.int .u8 s.side), .lit (.int .i64 s.at_)] := hd
          rw [hd']
          simp [Rows.uptoBulk]
      · exact ⟨⟨0, 0⟩, fun h => absurd h hil⟩
    obtain ⟨f, hf⟩ := Classical.axiomOfChoice key
    refine ⟨some a, m, (List.range len).map f, by simp, ?_, ?_, ?_⟩
    · intro hl0
      simp only [List.length_map, List.length_range] at hl0
      obtain ⟨b, off, spot⟩ := a
      have h00 := (hf 0 hl0).1 0 _ rfl
      have hsp := spot_none h00
      subst hsp
      have hb : b < w.heap.size := by rw [add_none] at h00; exact World.block_lt_of_cell? w _ h00
      refine ⟨b, off, rfl, Nat.zero_le _, hb, hb, fun i x hx' j u hu => ?_⟩
      have hil : i < len := by have := (List.getElem?_eq_some_iff.1 hx').1; simpa using this
      have hfx : f i = x := by simpa [hil] using hx'
      subst hfx
      have := (hf i hil).1 j u hu
      rw [add_none] at this
      rw [Nat.add_assoc]
      exact this
    · rw [hx.1]
      have := bulk_sum (fun _ => 1) D (List.range len) fun i hi => (hf i (by simpa using hi)).2.1
      simp only [Rows.uptoBulk, List.length_map, List.length_range]
      have e : ∀ l : List Nat, (l.map fun _ => 1).sum = l.length := fun l => by
        induction l with
        | nil => rfl
        | cons x l ih => rw [List.map_cons, List.sum_cons, ih, List.length_cons]; omega
      rw [e, List.length_range] at this
      omega
    · intro s hs
      obtain ⟨i, hil, rfl⟩ := List.mem_map.1 hs
      exact (hf i (by simpa using hil)).2.2
end
end Go.Proofs.YtjihepdjcbpgoaaGreatDoor
