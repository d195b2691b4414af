/-
  How a list of values, an array of three such lists, and a rule read as what the walks take. No condition beyond the reading itself.
-/
import Derived.Test.YtcpdogjcofkpcaaGreatDoorOpenV
import Derived.Test.YtcpdogjcofkpcaaGreatDoorKF
namespace Go.Proofs.YtcpdogjcofkpcaaGreatDoor
open Go.RowKit Go.ChangeShapes Go.WideShapes Go.Deep Go.Joins

section
variable {H : Type} {enc : TypeId × Value → H} {w : World}

set_option maxRecDepth 100000 in
theorem cells_list {cs : List Value} {fuel : Nat} {x : DataW H × List MemPlace} (h : DataW.trod enc Tryz.prog w 0 (fun _ => true) true fuel 22 cs = some x) :
    ∃ y : LA, cs = y.enc ∧ SlE AV.enc 4 w 0 w.heap.size y.a y.l ∧ (∀ z ∈ y.l, Rd w z) ∧ (y.l.map AV.w).sum ≤ Rows.uptoBulk x.1 := by
  rcases open_slice Tryz.underlying22 h with ⟨hcs, hx2⟩ | ⟨a, len, cap, m, n', D, Pl, hcs, _, hl, hm, hmm, hx2, hi⟩
  · exact ⟨⟨none, [], 0⟩, hcs, SlE.nil, by simp, by simp⟩
  · simp only [if_true] at hmm
    subst hmm
    rw [show Tryz.prog.cellsOf 48 = 4 by kernel_rfl] at hi
    have key : ∀ i, ∃ z : AV, i < len → (∀ j u, z.enc[j]? = some u → w.cell? (a.add (i * 4 + j)) = some u) ∧ Rd w z ∧ z.w ≤ Rows.uptoBulk (D i) := by
      intro i
      by_cases hil : i < len
      · obtain ⟨cs', hc, ht⟩ := hi i (by omega)
        obtain ⟨z, hz, hr, hb, -, -⟩ := cells_val _ cs' n' (D i, Pl i) (Nat.lt_succ_self _) ht
        obtain ⟨_, hcl, hat⟩ := World.cells?_some hc
        refine ⟨z, fun _ => ⟨fun j u hu => ?_, hr, hb⟩⟩
        have hj : j < 4 := by have := (List.getElem?_eq_some_iff.1 hu).1; simpa [AV.enc] using this
        have := hat j hj
        rw [Go.Deep.add_add] at this
        rw [this, hz, hu]
      · exact ⟨⟨0, ⟨#[]⟩, none, 0, [], none, 0, []⟩, fun h => absurd h hil⟩
    obtain ⟨f, hf⟩ := Classical.axiomOfChoice key
    refine ⟨⟨some a, (List.range len).map f, m⟩, by simpa [LA.enc] using hcs, ?_, ?_, ?_⟩
    · intro hl0
      simp only [List.length_map, List.length_range] at hl0
      obtain ⟨b, off, spot⟩ := a
      have h00 := (hf 0 hl0).1 0 _ rfl
      have hsp := spot_none h00
      subst hsp
      have hb : b < w.heap.size := by rw [add_none] at h00; exact World.block_lt_of_cell? w _ h00
      refine ⟨b, off, rfl, Nat.zero_le _, hb, hb, fun i x hx' j u hu => ?_⟩
      have hil : i < len := by have := (List.getElem?_eq_some_iff.1 hx').1; simpa using this
      have hfx : f i = x := by simpa [hil] using hx'
      subst hfx
      have := (hf i hil).1 j u hu
      rw [add_none] at this
      rw [Nat.add_assoc]
      exact this
    · intro z hz
      obtain ⟨i, hil, rfl⟩ := List.mem_map.1 hz
      exact (hf i (by simpa using hil)).2.1
    · rw [hx2]
      have := bulk_sum (fun i => (f i).w) D (List.range len) fun i hi => (hf i (by simpa using hi)).2.2
      simp only [Rows.uptoBulk, List.map_map]
      have e : (List.map (AV.w ∘ f) (List.range len)).sum = (List.map (fun i => (f i).w) (List.range len)).sum := rfl
      omega
theorem LA.rd_of {y : LA} (h1 : SlE AV.enc 4 w 0 w.heap.size y.a y.l) (h2 : ∀ z ∈ y.l, Go.Proofs.YtcpdogjcofkpcaaGreatDoor.Rd w z) {n : Nat} (h3 : (y.l.map AV.w).sum ≤ n) (hn : n ≤ 1048576) : y.Rd w := by
  refine ⟨h1, ?_, fun z hz => ⟨h2 z hz, ?_⟩⟩
  · have := len_sum AV.w (fun z => Val.w_pos z.v) y.l
    omega
  · have := le_sum AV.w hz
    omega
set_option maxRecDepth 100000 in
theorem open_list {v : Value} {d : DataW H} {p : List MemPlace} {r : Reach} {b0 : Nat} (hv : Value.okWide Tryz.prog w r b0 22 v) (h : DataW.Trod enc Tryz.prog w 0 (fun _ => true) true 22 v d p) (hn : Rows.uptoBulk d ≤ 1048576) :
    ∃ y : LA, v = .slice y.a y.l.length y.c ∧ y.Rd w := by
  obtain ⟨a, l, c, rfl⟩ := okWide_slice Tryz.underlying22 hv
  obtain ⟨fuel, hf⟩ := h
  obtain ⟨y, hy, h1, h2, h3⟩ := cells_list hf
  refine ⟨y, ?_, LA.rd_of h1 h2 h3 hn⟩
  simpa [Value.cells, LA.enc] using hy
set_option maxRecDepth 100000 in
theorem open_lists {v : Value} {d : DataW H} {p : List MemPlace} {r : Reach} {b0 : Nat} (hv : Value.okWide Tryz.prog w r b0 23 v) (h : DataW.Trod enc Tryz.prog w 0 (fun _ => true) true 23 v d p) (hn : Rows.uptoBulk d ≤ 1048576) :
    ∃ x y z : LA, v = .agg #[.slice x.a x.l.length x.c, .slice y.a y.l.length y.c, .slice z.a z.l.length z.c] ∧ x.Rd w ∧ y.Rd w ∧ z.Rd w := by
  obtain ⟨fuel, hf⟩ := h
  obtain ⟨xs, m, -, hx, hl, hxl, hg⟩ := DataW.trod_array Tryz.underlying23 hf
  have hv' : ∃ cs, v = .agg cs := by
    simp only [Value.okWide, Tryz.underlying23] at hv
    obtain ⟨cs, h1, -⟩ := hv
    exact ⟨cs, h1⟩
  obtain ⟨cs, rfl⟩ := hv'
  rw [show Tryz.prog.cellsOf 23 = 3 by kernel_rfl] at hl
  rw [show Tryz.prog.cellsOf 22 = 1 by kernel_rfl] at hg
  simp only [Value.cells] at hl hg
  obtain ⟨c0, c1, c2, rfl⟩ := Go.Joins.array3 (cs := cs) (by simpa using hl)
  match xs, hxl with
  | [x0, x1, x2], _ =>
    have f0 : DataW.trod enc Tryz.prog w 0 (fun _ => true) true m 22 [c0] = some x0 := hg 0 (by omega)
    have f1 : DataW.trod enc Tryz.prog w 0 (fun _ => true) true m 22 [c1] = some x1 := hg 1 (by omega)
    have f2 : DataW.trod enc Tryz.prog w 0 (fun _ => true) true m 22 [c2] = some x2 := hg 2 (by omega)
    obtain ⟨x, hx', g1, g2, g3⟩ := cells_list f0
    obtain ⟨y, hy', k1, k2, k3⟩ := cells_list f1
    obtain ⟨z, hz', l1, l2, l3⟩ := cells_list f2
    have hd : d = .agg [x0.1, x1.1, x2.1] := by simpa using (Prod.mk.inj hx).1
    rw [hd] at hn
    simp only [Rows.uptoBulk, Rows.uptoBulkAll] at hn
    simp only [LA.enc, List.cons.injEq, and_true] at hx' hy' hz'
    exact ⟨x, y, z, by rw [hx', hy', hz'], LA.rd_of g1 g2 g3 (by omega), LA.rd_of k1 k2 k3 (by omega), LA.rd_of l1 l2 l3 (by omega)⟩

set_option maxRecDepth 100000 in
theorem open_rule {v : Value} {d : DataW H} {p : List MemPlace} {r : Reach} {b0 : Nat} (hv : Value.okWide Tryz.prog w r b0 27 v) (h : DataW.Trod enc Tryz.prog w 0 (fun _ => true) true 27 v d p) (hn : Rows.uptoBulk d ≤ 1048576) :
    ∃ (a : Bool) (s q u : Int) (f : ByteArray), v = .agg #[.bool a, .int .u8 s, .string f, .int .u8 q, .int .u8 u] ∧ (0 ≤ u ∧ u ≤ 255) ∧ (0 ≤ s ∧ s ≤ 255) ∧ (0 ≤ q ∧ q ≤ 255) ∧ f.size ≤ 1048576 := by
  obtain ⟨cs, rfl, hsz⟩ := okWide_struct Tryz.underlying27 hv
  rw [show Tryz.prog.cellsOf 27 = 5 by kernel_rfl] at hsz
  obtain ⟨fuel, hf⟩ := h
  obtain ⟨xs, n, -, hx, hlen, hxl, hf⟩ := DataW.trod_struct Tryz.underlying27 hf
  simp only [Value.cells] at hf
  obtain ⟨l⟩ := cs
  match l, hsz with
  | [c0, c1, c2, c3, c4], _ =>
    match xs, hxl with
    | [y0, y1, y2, y3, y4], _ =>
      have f0 : DataW.trod enc Tryz.prog w 0 (fun _ => true) true n 4 (([c0, c1, c2, c3, c4].drop 0).take (Tryz.prog.cellsOf 4)) = some y0 := hf 0 _ rfl
      have f1 : DataW.trod enc Tryz.prog w 0 (fun _ => true) true n 24 (([c0, c1, c2, c3, c4].drop 1).take (Tryz.prog.cellsOf 24)) = some y1 := hf 1 _ rfl
      have f2 : DataW.trod enc Tryz.prog w 0 (fun _ => true) true n 9 (([c0, c1, c2, c3, c4].drop 2).take (Tryz.prog.cellsOf 9)) = some y2 := hf 2 _ rfl
      have f3 : DataW.trod enc Tryz.prog w 0 (fun _ => true) true n 25 (([c0, c1, c2, c3, c4].drop 3).take (Tryz.prog.cellsOf 25)) = some y3 := hf 3 _ rfl
      have f4 : DataW.trod enc Tryz.prog w 0 (fun _ => true) true n 25 (([c0, c1, c2, c3, c4].drop 4).take (Tryz.prog.cellsOf 25)) = some y4 := hf 4 _ rfl
      rw [show Tryz.prog.cellsOf 4 = 1 by kernel_rfl] at f0
      rw [show Tryz.prog.cellsOf 24 = 1 by kernel_rfl] at f1
      rw [show Tryz.prog.cellsOf 9 = 1 by kernel_rfl] at f2
      rw [show Tryz.prog.cellsOf 25 = 1 by kernel_rfl] at f3 f4
      obtain ⟨a, e0, -⟩ := DataW.trod_bool Tryz.underlying4 f0
      obtain ⟨s, e1, rfl, w1⟩ := DataW.trod_int Tryz.underlying24 f1
      obtain ⟨f, e2, rfl, w2⟩ := DataW.trod_string Tryz.underlying9 f2
      obtain ⟨q, e3, rfl, w3⟩ := DataW.trod_int Tryz.underlying25 f3
      obtain ⟨u, e4, rfl, w4⟩ := DataW.trod_int Tryz.underlying25 f4
      simp at e0 e1 e2 e3 e4
      subst e0 e1 e2 e3 e4
      simp [Lit.wf, IntKind.min, IntKind.max, IntKind.signed, IntKind.bits] at w1 w3 w4
      have hd : d = .agg [y0.1, .lit (.int .u8 s), .lit (.string f.data.toList), .lit (.int .u8 q), .lit (.int .u8 u)] := by simpa using (Prod.mk.inj hx).1
      rw [hd] at hn
      simp only [Rows.uptoBulk, Rows.uptoBulkAll] at hn
      have e3 : f.data.toList.length = f.size := by simp
      exact ⟨a, s, q, u, f, rfl, by omega, by omega, by omega, by omega⟩
end
end Go.Proofs.YtcpdogjcofkpcaaGreatDoor
