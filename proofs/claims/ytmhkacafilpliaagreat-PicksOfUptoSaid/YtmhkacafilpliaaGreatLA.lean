/-
  A list of values, as it lies, and how an argument of that type reads so. No condition beyond the reading itself.
-/
import Derived.Test.YtmhkacafilpliaaGreatOpenV
namespace Go.Proofs.YtmhkacafilpliaaGreat
open Go.RowKit Go.Sort Go.ChangeShapes Go.WideShapes Go.Deep Go.Joins

/-- A list of values, as it lies. -/
structure LA where
  a : Option Addr
  l : List AV
  c : Nat
def LA.enc (x : LA) : List Value := [.slice x.a x.l.length x.c]
def LA.v (x : LA) : List Val := x.l.map AV.v
/-- The list lies in memory, its length and its elements' weights are bounded. -/
structure LA.Rd (w : World) (x : LA) : Prop where
  sl : SlE AV.enc 4 w 0 w.heap.size x.a x.l
  len : x.l.length ≤ 1048576
  kids : ∀ y ∈ x.l, Go.Proofs.YtmhkacafilpliaaGreat.Rd w y ∧ y.w ≤ 1048576
theorem LA.Rd.up {w w' : World} {x : LA} (h : x.Rd w) (hb : Below w.heap.size w w') : x.Rd w' := ⟨h.sl.up hb, h.len, fun y hy => ⟨(h.kids y hy).1.up hb, (h.kids y hy).2⟩⟩
section
variable {H : Type} {enc : TypeId × Value → H} {w : World}

set_option maxRecDepth 100000 in
theorem cells_list {cs : List Value} {fuel : Nat} {x : DataW H × List MemPlace} (h : DataW.trod enc Tryz.prog w 0 (fun _ => true) true fuel 23 cs = some x) :
    ∃ y : LA, cs = y.enc ∧ SlE AV.enc 4 w 0 w.heap.size y.a y.l ∧ (∀ z ∈ y.l, Rd w z) ∧ (y.l.map AV.w).sum ≤ Rows.uptoBulk x.1 := by
  rcases open_slice Tryz.underlying23 h with ⟨hcs, hx2⟩ | ⟨a, len, cap, m, n', D, Pl, hcs, _, hl, hm, hmm, hx2, hi⟩
  · exact ⟨⟨none, [], 0⟩, hcs, SlE.nil, by simp, by simp⟩
  · simp only [if_true] at hmm
    subst hmm
    rw [show Tryz.prog.cellsOf 26 = 4 by kernel_rfl] at hi
    have key : ∀ i, ∃ z : AV, i < len → (∀ j u, z.enc[j]? = some u → w.cell? (a.add (i * 4 + j)) = some u) ∧ Rd w z ∧ z.w ≤ Rows.uptoBulk (D i) := by
      intro i
      by_cases hil : i < len
      · obtain ⟨cs', hc, ht⟩ := hi i (by omega)
        obtain ⟨z, hz, hr, hb, -, -⟩ := cells_val _ cs' n' (D i, Pl i) (Nat.lt_succ_self _) ht
        obtain ⟨_, hcl, hat⟩ := World.cells?_some hc
        refine ⟨z, fun _ => ⟨fun j u hu => ?_, hr, hb⟩⟩
        have hj : j < 4 := by have := (List.getElem?_eq_some_iff.1 hu).1; simpa [AV.enc] using this
        have := hat j hj
        rw [Go.Deep.add_add] at this
        rw [this, hz, hu]
      · exact ⟨⟨0, ⟨#[]⟩, none, 0, [], none, 0, []⟩, fun h => absurd h hil⟩
    obtain ⟨f, hf⟩ := Classical.axiomOfChoice key
    refine ⟨⟨some a, (List.range len).map f, m⟩, by simpa [LA.enc] using hcs, ?_, ?_, ?_⟩
    · intro hl0
      simp only [List.length_map, List.length_range] at hl0
      obtain ⟨b, off, spot⟩ := a
      have h00 := (hf 0 hl0).1 0 _ rfl
      have hsp := spot_none h00
      subst hsp
      have hb : b < w.heap.size := by rw [add_none] at h00; exact World.block_lt_of_cell? w _ h00
      refine ⟨b, off, rfl, Nat.zero_le _, hb, hb, fun i x hx' j u hu => ?_⟩
      have hil : i < len := by have := (List.getElem?_eq_some_iff.1 hx').1; simpa using this
      have hfx : f i = x := by simpa [hil] using hx'
      subst hfx
      have := (hf i hil).1 j u hu
      rw [add_none] at this
      rw [Nat.add_assoc]
      exact this
    · intro z hz
      obtain ⟨i, hil, rfl⟩ := List.mem_map.1 hz
      exact (hf i (by simpa using hil)).2.1
    · rw [hx2]
      have := bulk_sum (fun i => (f i).w) D (List.range len) fun i hi => (hf i (by simpa using hi)).2.2
      simp only [Rows.uptoBulk, List.map_map]
      have e : (List.map (AV.w ∘ f) (List.range len)).sum = (List.map (fun i => (f i).w) (List.range len)).sum := rfl
      omega
theorem LA.rd_of {y : LA} (h1 : SlE AV.enc 4 w 0 w.heap.size y.a y.l) (h2 : ∀ z ∈ y.l, Go.Proofs.YtmhkacafilpliaaGreat.Rd w z) {n : Nat} (h3 : (y.l.map AV.w).sum ≤ n) (hn : n ≤ 1048576) : y.Rd w := by
  refine ⟨h1, ?_, fun z hz => ⟨h2 z hz, ?_⟩⟩
  · have := len_sum AV.w (fun z => Val.w_pos z.v) y.l
    omega
  · have := le_sum AV.w hz
    omega
set_option maxRecDepth 100000 in
theorem open_list {v : Value} {d : DataW H} {p : List MemPlace} {r : Reach} {b0 : Nat} (hv : Value.okWide Tryz.prog w r b0 23 v) (h : DataW.Trod enc Tryz.prog w 0 (fun _ => true) true 23 v d p) (hn : Rows.uptoBulk d ≤ 1048576) :
    ∃ y : LA, v = .slice y.a y.l.length y.c ∧ y.Rd w := by
  obtain ⟨a, l, c, rfl⟩ := okWide_slice Tryz.underlying23 hv
  obtain ⟨fuel, hf⟩ := h
  obtain ⟨y, hy, h1, h2, h3⟩ := cells_list hf
  refine ⟨y, ?_, LA.rd_of h1 h2 h3 hn⟩
  simpa [Value.cells, LA.enc] using hy
end
end Go.Proofs.YtmhkacafilpliaaGreat
