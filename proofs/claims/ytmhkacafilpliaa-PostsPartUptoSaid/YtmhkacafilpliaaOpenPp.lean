/-
  How an argument that is a postorder (three rows) reads as the plain data of the walks; and what the bound on the bulk gives. No condition beyond the reading itself.
-/
import Derived.Test.YtmhkacafilpliaaOpenV
import Derived.Test.YtmhkacafilpliaaJQ
namespace Go.Proofs.Ytmhkacafilpliaa
open Go.RowKit Go.ChangeShapes Go.WideShapes Go.Deep Go.Joins

section
variable {H : Type} {enc : TypeId × Value → H} {w : World}

/-- A row of whatever elements. -/
theorem cells_rows {α : Type} (e0 : α) (encd : α → List Value) (sz : Nat) (hsz : 0 < sz) (henc : ∀ x, (encd x).length = sz) (t e : TypeId) (ht : Try.prog.underlying t = some (.slice e)) (hc : Try.prog.cellsOf e = sz)
    (elem : ∀ (cs : List Value) (fuel : Nat) (x : DataW H × List MemPlace), DataW.trod enc Try.prog w 0 (fun _ => true) true fuel e cs = some x → ∃ s : α, cs = encd s ∧ 1 ≤ Rows.uptoBulk x.1)
    {cs : List Value} {fuel : Nat} {x : DataW H × List MemPlace} (h : DataW.trod enc Try.prog w 0 (fun _ => true) true fuel t cs = some x) :
    ∃ (a : Option Addr) (cap : Nat) (l : List α), cs = [.slice a l.length cap] ∧ SlE encd sz w 0 w.heap.size a l ∧ l.length ≤ Rows.uptoBulk x.1 ∧ l.length ≤ cap := by
  rcases open_slice ht h with ⟨hcs, hx⟩ | ⟨a, len, cap, m, n, D, Pl, hcs, _, hl, hm, hmm, hx, hi⟩
  · exact ⟨none, 0, [], hcs, SlE.nil, Nat.zero_le _, Nat.le_refl _⟩
  · simp only [if_true] at hmm
    subst hmm
    rw [hc] at hi
    have key : ∀ i, ∃ s : α, i < len → (∀ j u, (encd s)[j]? = some u → w.cell? (a.add (i * sz + j)) = some u) ∧ 1 ≤ Rows.uptoBulk (D i) := by
      intro i
      by_cases hil : i < len
      · obtain ⟨cs', hc, ht⟩ := hi i (by omega)
        obtain ⟨_, hcl, hat⟩ := World.cells?_some hc
        obtain ⟨s, hs, hd⟩ := elem cs' _ _ ht
        refine ⟨s, fun _ => ⟨fun j u hu => ?_, hd⟩⟩
        have hj : j < sz := by have := (List.getElem?_eq_some_iff.1 hu).1; rwa [henc] at this
        have := hat j hj
        rw [Go.Deep.add_add] at this
        rw [this, hs, hu]
      · exact ⟨e0, fun h => absurd h hil⟩
    obtain ⟨f, hf⟩ := Classical.axiomOfChoice key
    refine ⟨some a, m, (List.range len).map f, by simpa using hcs, ?_, ?_, by simpa using hl⟩
    · intro hl0
      simp only [List.length_map, List.length_range] at hl0
      obtain ⟨b, off, spot⟩ := a
      obtain ⟨u0, hu0⟩ : ∃ u, (encd (f 0))[0]? = some u := ⟨_, List.getElem?_eq_getElem (by rw [henc]; exact hsz)⟩
      have h00 := (hf 0 hl0).1 0 _ hu0
      rw [Nat.zero_mul, Nat.add_zero] at h00
      have hsp := spot_none h00
      subst hsp
      have hb : b < w.heap.size := by rw [add_none] at h00; exact World.block_lt_of_cell? w _ h00
      refine ⟨b, off, rfl, Nat.zero_le _, hb, hb, fun i x hx' j u hu => ?_⟩
      have hil : i < len := by have := (List.getElem?_eq_some_iff.1 hx').1; simpa using this
      have hfx : f i = x := by simpa [hil] using hx'
      subst hfx
      have := (hf i hil).1 j u hu
      rw [add_none] at this
      rw [Nat.add_assoc]
      exact this
    · rw [hx]
      have := bulk_sum (fun _ => 1) D (List.range len) fun i hi => (hf i (by simpa using hi)).2
      simp only [Rows.uptoBulk, List.length_map, List.length_range]
      have e : ∀ l : List Nat, (l.map fun _ => 1).sum = l.length := fun l => by
        induction l with
        | nil => rfl
        | cons x l ih => rw [List.map_cons, List.sum_cons, ih, List.length_cons]; omega
      rw [e, List.length_range] at this
      omega
theorem cells_int1 (cs : List Value) (fuel : Nat) (x : DataW H × List MemPlace) (h : DataW.trod enc Try.prog w 0 (fun _ => true) true fuel 3 cs = some x) : ∃ s : Int, cs = i64Z s ∧ 1 ≤ Rows.uptoBulk x.1 := by
  obtain ⟨k, e0, hx, -⟩ := DataW.trod_int Try.underlying3 h
  exact ⟨k, e0, by rw [hx]; simp [Rows.uptoBulk]⟩
set_option maxRecDepth 100000 in
theorem cells_lab1 (cs : List Value) (fuel : Nat) (x : DataW H × List MemPlace) (h : DataW.trod enc Try.prog w 0 (fun _ => true) true fuel 46 cs = some x) : ∃ s : Lab, cs = s.enc ∧ 1 ≤ Rows.uptoBulk x.1 := by
  obtain ⟨xs, n, -, hx, hlen, hxl, hf⟩ := DataW.trod_struct Try.underlying46 h
  rw [show Try.prog.cellsOf 46 = 4 by kernel_rfl] at hlen
  match cs, hlen with
  | [c0, c1, c2, c3], _ =>
    match xs, hxl with
    | [y0, y1, y2, y3], _ =>
      have f0 : DataW.trod enc Try.prog w 0 (fun _ => true) true n 4 (([c0, c1, c2, c3].drop 0).take (Try.prog.cellsOf 4)) = some y0 := hf 0 _ rfl
      have f1 : DataW.trod enc Try.prog w 0 (fun _ => true) true n 9 (([c0, c1, c2, c3].drop 1).take (Try.prog.cellsOf 9)) = some y1 := hf 1 _ rfl
      have f2 : DataW.trod enc Try.prog w 0 (fun _ => true) true n 22 (([c0, c1, c2, c3].drop 2).take (Try.prog.cellsOf 22)) = some y2 := hf 2 _ rfl
      have f3 : DataW.trod enc Try.prog w 0 (fun _ => true) true n 9 (([c0, c1, c2, c3].drop 3).take (Try.prog.cellsOf 9)) = some y3 := hf 3 _ rfl
      rw [show Try.prog.cellsOf 4 = 1 by kernel_rfl] at f0
      rw [show Try.prog.cellsOf 9 = 1 by kernel_rfl] at f1 f3
      rw [show Try.prog.cellsOf 22 = 1 by kernel_rfl] at f2
      obtain ⟨k, e0, g0⟩ := DataW.trod_bool Try.underlying4 f0
      obtain ⟨t, e1, g1, -⟩ := DataW.trod_string Try.underlying9 f1
      obtain ⟨n2, e2, g2, -⟩ := DataW.trod_int Try.underlying22 f2
      obtain ⟨t3, e3, g3, -⟩ := DataW.trod_string Try.underlying9 f3
      simp at e0 e1 e2 e3
      subst e0 e1 e2 e3
      exact ⟨⟨k, t, n2, t3⟩, rfl, by rw [hx]; simp [Rows.uptoBulk]⟩
set_option maxRecDepth 100000 in
theorem open_post {v : Value} {d : DataW H} {p : List MemPlace} {r : Reach} {b0 : Nat} (hv : Value.okWide Try.prog w r b0 33 v) (h : DataW.Trod enc Try.prog w 0 (fun _ => true) true 33 v d p) :
    ∃ y : PA, v = .agg y.box ∧ SlE Lab.enc 4 w 0 w.heap.size y.al y.L ∧ SlE i64Z 1 w 0 w.heap.size y.af y.F ∧ SlE i64Z 1 w 0 w.heap.size y.ar y.R ∧ y.L.length ≤ Rows.uptoBulk d ∧ y.F.length ≤ Rows.uptoBulk d ∧ y.R.length ≤ Rows.uptoBulk d := by
  obtain ⟨cs, rfl, -⟩ := okWide_struct Try.underlying33 hv
  obtain ⟨fuel, hf⟩ := h
  obtain ⟨xs, n, -, hx, hlen, hxl, hf⟩ := DataW.trod_struct Try.underlying33 hf
  rw [show Try.prog.cellsOf 33 = 3 by kernel_rfl] at hlen
  simp only [Value.cells] at hlen hf
  obtain ⟨cs, rfl⟩ : ∃ l : List Value, cs = l.toArray := ⟨cs.toList, by simp⟩
  simp only at hlen hf
  match cs, hlen with
  | [c0, c1, c2], _ =>
    match xs, hxl with
    | [y0, y1, y2], _ =>
      have f0 : DataW.trod enc Try.prog w 0 (fun _ => true) true n 30 (([c0, c1, c2].drop 0).take (Try.prog.cellsOf 30)) = some y0 := hf 0 _ rfl
      have f1 : DataW.trod enc Try.prog w 0 (fun _ => true) true n 31 (([c0, c1, c2].drop 1).take (Try.prog.cellsOf 31)) = some y1 := hf 1 _ rfl
      have f2 : DataW.trod enc Try.prog w 0 (fun _ => true) true n 31 (([c0, c1, c2].drop 2).take (Try.prog.cellsOf 31)) = some y2 := hf 2 _ rfl
      rw [show Try.prog.cellsOf 30 = 1 by kernel_rfl] at f0
      rw [show Try.prog.cellsOf 31 = 1 by kernel_rfl] at f1 f2
      obtain ⟨al, cl, L, e0, s0, b0, -⟩ := cells_rows ⟨false, ⟨#[]⟩, 0, ⟨#[]⟩⟩ Lab.enc 4 (by decide) (fun _ => rfl) 30 46 Try.underlying30 (by kernel_rfl) cells_lab1 f0
      obtain ⟨af, cf, F, e1, s1, b1, -⟩ := cells_rows (0 : Int) i64Z 1 (by decide) (fun _ => rfl) 31 3 Try.underlying31 (by kernel_rfl) cells_int1 f1
      obtain ⟨ar, cr, R, e2, s2, b2, -⟩ := cells_rows (0 : Int) i64Z 1 (by decide) (fun _ => rfl) 31 3 Try.underlying31 (by kernel_rfl) cells_int1 f2
      simp at e0 e1 e2
      subst e0 e1 e2
      refine ⟨⟨al, cl, af, cf, ar, cr, L, F, R⟩, rfl, s0, s1, s2, ?_, ?_, ?_⟩ <;>
      · have hd : d = _ := congrArg Prod.fst hx
        rw [hd]
        simp only [Rows.uptoBulk, Rows.uptoBulkAll, List.map_cons, List.map_nil]
        omega
end
end Go.Proofs.Ytmhkacafilpliaa
