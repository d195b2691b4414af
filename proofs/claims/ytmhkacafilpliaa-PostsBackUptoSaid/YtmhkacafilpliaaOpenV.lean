/-
  How an argument that is a value reads as the tree of the walks; and what the bound on the bulk gives. No condition beyond the reading itself.
-/
import Derived.Test.YtmhkacafilpliaaRows
import Derived.Test.YtmhkacafilpliaaV2
import Derived.WalkKit
import Derived.ProofKit
import Derived.OpenShut
import Derived.Deep.Slices
import Derived.Lib.SmallJoins
namespace Go.Proofs.Ytmhkacafilpliaa
open Go.RowKit Go.ChangeShapes Go.WideShapes Go.Deep Go.Joins

section
variable {H : Type} {enc : TypeId × Value → H} {w : World}

theorem spot_none {w : World} {b off : Nat} {spot : Option Nat} {u : Value} (h : w.cell? ((⟨b, off, spot⟩ : Addr).add 0) = some u) : spot = none := by
  simp only [Addr.add, World.cell?] at h
  cases spot with
  | none => rfl
  | some x => simp at h; split at h <;> simp_all

theorem bulkAll_mem {H : Type} : ∀ {l : List (DataW H)} {d : DataW H}, d ∈ l → Rows.uptoBulk d ≤ Rows.uptoBulkAll l
  | x :: l, d, h => by
    simp only [Rows.uptoBulkAll]
    rcases List.mem_cons.1 h with rfl | h
    · omega
    · have := bulkAll_mem h; omega
theorem bulk_sum {H : Type} {α : Type} (f : α → Nat) (D : α → DataW H) : ∀ (l : List α), (∀ x ∈ l, f x ≤ Rows.uptoBulk (D x)) → (l.map f).sum ≤ Rows.uptoBulkAll (l.map D)
  | [], _ => by simp
  | x :: l, h => by
    have := bulk_sum f D l fun y hy => h y (by simp [hy])
    have := h x (by simp)
    simp only [List.map_cons, List.sum_cons, Rows.uptoBulkAll]; omega

set_option maxRecDepth 100000 in
/-- A list of texts. -/
theorem cells_strs {cs : List Value} {fuel : Nat} {x : DataW H × List MemPlace} (h : DataW.trod enc Try.prog w 0 (fun _ => true) true fuel 24 cs = some x) :
    ∃ (a : Option Addr) (cap : Nat) (l : List ByteArray), cs = [.slice a l.length cap] ∧ SlE strE 1 w 0 w.heap.size a l ∧ l.length + (l.map (·.size)).sum ≤ Rows.uptoBulk x.1 ∧ l.length ≤ cap := by
  rcases open_slice Try.underlying24 h with ⟨hcs, hx⟩ | ⟨a, len, cap, m, n, D, Pl, hcs, _, hl, hm, hmm, hx, hi⟩
  · exact ⟨none, 0, [], hcs, SlE.nil, by simp, by simp⟩
  · simp only [if_true] at hmm
    subst hmm
    rw [show Try.prog.cellsOf 9 = 1 by kernel_rfl] at hi
    have key : ∀ i, ∃ s : ByteArray, i < len → w.cell? (a.add i) = some (.string s) ∧ s.size + 1 ≤ Rows.uptoBulk (D i) := by
      intro i
      by_cases hil : i < len
      · obtain ⟨cs', hc, ht⟩ := hi i (by omega)
        obtain ⟨s, hs, hd, -⟩ := DataW.trod_string Try.underlying9 ht
        obtain ⟨_, hcl, hat⟩ := World.cells?_some hc
        refine ⟨s, fun _ => ⟨?_, ?_⟩⟩
        · have := hat 0 (by omega)
          rw [Go.Deep.add_add, hs] at this
          simpa using this
        · have : D i = .lit (.string s.data.toList) := by injection hd
          rw [this]; simp [Rows.uptoBulk]
      · exact ⟨⟨#[]⟩, fun h => absurd h hil⟩
    obtain ⟨f, hf⟩ := Classical.axiomOfChoice key
    refine ⟨some a, m, (List.range len).map f, by simpa using hcs, ?_, ?_, by simpa using hl⟩
    · intro hl0
      simp only [List.length_map, List.length_range] at hl0
      obtain ⟨b, off, spot⟩ := a
      have h00 := (hf 0 hl0).1
      have hsp := spot_none h00
      subst hsp
      have hb : b < w.heap.size := by rw [add_none] at h00; exact World.block_lt_of_cell? w _ h00
      refine ⟨b, off, rfl, Nat.zero_le _, hb, hb, fun i x hx' j u hu => ?_⟩
      have hil : i < len := by have := (List.getElem?_eq_some_iff.1 hx').1; simpa using this
      have hfx : f i = x := by simpa [hil] using hx'
      subst hfx
      have hj : j = 0 := by have := (List.getElem?_eq_some_iff.1 hu).1; simp at this; exact this
      subst hj
      simp at hu; subst hu
      have := (hf i hil).1
      rw [add_none] at this
      simpa using this
    · rw [hx]
      have := bulk_sum (fun i => (f i).size + 1) D (List.range len) fun i hi => (hf i (by simpa using hi)).2
      have e : ((List.range len).map fun i => (f i).size + 1).sum = len + (((List.range len).map f).map (·.size)).sum := by
        rw [List.map_map]
        clear this hf key hi hx hcs hl
        generalize hr : List.range len = r
        have hlen : len = r.length := by rw [← hr]; simp
        rw [hlen]
        clear hr hlen
        induction r with
        | nil => rfl
        | cons y r ih => simp only [List.map_cons, List.sum_cons, List.length_cons, ih, Function.comp]; omega
      simp only [Rows.uptoBulk, List.length_map, List.length_range]
      omega

set_option maxRecDepth 100000 in
theorem cells_val : ∀ (N : Nat) (cs : List Value) (fuel : Nat) (x : DataW H × List MemPlace), SizeOf.sizeOf x.1 < N → DataW.trod enc Try.prog w 0 (fun _ => true) true fuel 26 cs = some x →
    ∃ y : AV, cs = y.enc ∧ Rd w y ∧ y.w ≤ Rows.uptoBulk x.1 ∧ y.ks.length ≤ y.kc ∧ y.l.length ≤ y.lc := by
  intro N
  induction N with
  | zero => intro cs fuel x h; omega
  | succ N ih =>
    intro cs fuel x hN h
    obtain ⟨xs, n, -, hx, hlen, hxl, hf⟩ := DataW.trod_struct Try.underlying26 h
    rw [show Try.prog.cellsOf 26 = 4 by kernel_rfl] at hlen
    match cs, hlen with
    | [c0, c1, c2, c3], _ =>
      match xs, hxl with
      | [y0, y1, y2, y3], _ =>
        have f0 : DataW.trod enc Try.prog w 0 (fun _ => true) true n 22 (([c0, c1, c2, c3].drop 0).take (Try.prog.cellsOf 22)) = some y0 := hf 0 _ rfl
        have f1 : DataW.trod enc Try.prog w 0 (fun _ => true) true n 9 (([c0, c1, c2, c3].drop 1).take (Try.prog.cellsOf 9)) = some y1 := hf 1 _ rfl
        have f2 : DataW.trod enc Try.prog w 0 (fun _ => true) true n 23 (([c0, c1, c2, c3].drop 2).take (Try.prog.cellsOf 23)) = some y2 := hf 2 _ rfl
        have f3 : DataW.trod enc Try.prog w 0 (fun _ => true) true n 24 (([c0, c1, c2, c3].drop 3).take (Try.prog.cellsOf 24)) = some y3 := hf 3 _ rfl
        rw [show Try.prog.cellsOf 22 = 1 by kernel_rfl] at f0
        rw [show Try.prog.cellsOf 9 = 1 by kernel_rfl] at f1
        rw [show Try.prog.cellsOf 23 = 1 by kernel_rfl] at f2
        rw [show Try.prog.cellsOf 24 = 1 by kernel_rfl] at f3
        obtain ⟨k, e0, rfl, w0⟩ := DataW.trod_int Try.underlying22 f0
        obtain ⟨t, e1, rfl, w1⟩ := DataW.trod_string Try.underlying9 f1
        obtain ⟨ka, kc, ks, e3, hks, bks, hkc⟩ := cells_strs f3
        simp at e0 e1 e3
        subst e0 e1 e3
        simp [Lit.wf, IntKind.min, IntKind.max, IntKind.signed, IntKind.bits] at w0
        have hd2 : SizeOf.sizeOf y2.1 < N := by
          rw [hx] at hN
          simp at hN
          omega
        have hlist : ∃ (la : Option Addr) (lc : Nat) (l : List AV), c2 = .slice la l.length lc ∧ SlE AV.enc 4 w 0 w.heap.size la l ∧ (∀ z ∈ l, Rd w z) ∧ (l.map AV.w).sum ≤ Rows.uptoBulk y2.1 ∧ l.length ≤ lc := by
          rcases open_slice Try.underlying23 f2 with ⟨hcs, hx2⟩ | ⟨a, len, cap, m, n', D, Pl, hcs, _, hl, hm, hmm, hx2, hi⟩
          · simp at hcs
            exact ⟨none, 0, [], hcs, SlE.nil, by simp, by simp, by simp⟩
          · simp only [if_true] at hmm
            subst hmm
            rw [show Try.prog.cellsOf 26 = 4 by kernel_rfl] at hi
            have key : ∀ i, ∃ z : AV, i < len → (∀ j u, z.enc[j]? = some u → w.cell? (a.add (i * 4 + j)) = some u) ∧ Rd w z ∧ z.w ≤ Rows.uptoBulk (D i) := by
              intro i
              by_cases hil : i < len
              · obtain ⟨cs', hc, ht⟩ := hi i (by omega)
                have hsz : SizeOf.sizeOf (D i) < N := by
                  have hm' : D i ∈ (List.range len).map D := List.mem_map_of_mem (List.mem_range.2 hil)
                  have := List.sizeOf_lt_of_mem hm'
                  rw [hx2] at hd2
                  simp at hd2
                  omega
                obtain ⟨z, hz, hr, hb, -, -⟩ := ih cs' n' (D i, Pl i) hsz ht
                obtain ⟨_, hcl, hat⟩ := World.cells?_some hc
                refine ⟨z, fun _ => ⟨fun j u hu => ?_, hr, hb⟩⟩
                have hj : j < 4 := by have := (List.getElem?_eq_some_iff.1 hu).1; simpa [AV.enc] using this
                have := hat j hj
                rw [Go.Deep.add_add] at this
                rw [this, hz, hu]
              · exact ⟨⟨0, ⟨#[]⟩, none, 0, [], none, 0, []⟩, fun h => absurd h hil⟩
            obtain ⟨f, hf⟩ := Classical.axiomOfChoice key
            simp at hcs
            refine ⟨some a, m, (List.range len).map f, by simpa using hcs, ?_, ?_, ?_, by simpa using hl⟩
            · intro hl0
              simp only [List.length_map, List.length_range] at hl0
              obtain ⟨b, off, spot⟩ := a
              have h00 := (hf 0 hl0).1 0 _ rfl
              have hsp := spot_none h00
              subst hsp
              have hb : b < w.heap.size := by rw [add_none] at h00; exact World.block_lt_of_cell? w _ h00
              refine ⟨b, off, rfl, Nat.zero_le _, hb, hb, fun i x hx' j u hu => ?_⟩
              have hil : i < len := by have := (List.getElem?_eq_some_iff.1 hx').1; simpa using this
              have hfx : f i = x := by simpa [hil] using hx'
              subst hfx
              have := (hf i hil).1 j u hu
              rw [add_none] at this
              rw [Nat.add_assoc]
              exact this
            · intro z hz
              obtain ⟨i, hil, rfl⟩ := List.mem_map.1 hz
              exact (hf i (by simpa using hil)).2.1
            · rw [hx2]
              have := bulk_sum (fun i => (f i).w) D (List.range len) fun i hi => (hf i (by simpa using hi)).2.2
              rw [List.map_map]
              simp only [Rows.uptoBulk]
              have e : (List.map (AV.w ∘ f) (List.range len)).sum = (List.map (fun i => (f i).w) (List.range len)).sum := rfl
              omega
        obtain ⟨la, lc, l, rfl, hsl, hkids, hbl, hlc⟩ := hlist
        refine ⟨⟨k, t, la, lc, l, ka, kc, ks⟩, rfl, ⟨hsl, hks, by simpa using w0, hkids⟩, ?_, hkc, hlc⟩
        have hw := Val.w_eq (AV.v ⟨k, t, la, lc, l, ka, kc, ks⟩)
        rw [AV.v_t, AV.v_l, AV.v_ks] at hw
        have e1 : ((l.map AV.v).map Val.w).sum = (l.map AV.w).sum := by rw [List.map_map]; rfl
        have e2 : (AV.w ⟨k, t, la, lc, l, ka, kc, ks⟩) = Val.w (AV.v ⟨k, t, la, lc, l, ka, kc, ks⟩) := rfl
        rw [hx]
        simp only [Rows.uptoBulk, Rows.uptoBulkAll, List.map_cons, List.map_nil]
        have e3 : t.data.toList.length = t.size := by simp
        simp only [e1] at hw
        omega

set_option maxRecDepth 100000 in
theorem open_val_cap {v : Value} {d : DataW H} {p : List MemPlace} {r : Reach} {b0 : Nat} (hv : Value.okWide Try.prog w r b0 26 v) (h : DataW.Trod enc Try.prog w 0 (fun _ => true) true 26 v d p) :
    ∃ y : AV, v = y.val ∧ Rd w y ∧ y.w ≤ Rows.uptoBulk d ∧ y.ks.length ≤ y.kc ∧ y.l.length ≤ y.lc := by
  obtain ⟨cs, rfl, -⟩ := okWide_struct Try.underlying26 hv
  obtain ⟨fuel, hf⟩ := h
  obtain ⟨y, hy, hr, hb, hc⟩ := cells_val _ _ _ _ (Nat.lt_succ_self _) hf
  refine ⟨y, ?_, hr, hb, hc⟩
  simp only [Value.cells] at hy
  have : cs = y.enc.toArray := by rw [← hy]
  rw [this]
  rfl
set_option maxRecDepth 100000 in
theorem open_val {v : Value} {d : DataW H} {p : List MemPlace} {r : Reach} {b0 : Nat} (hv : Value.okWide Try.prog w r b0 26 v) (h : DataW.Trod enc Try.prog w 0 (fun _ => true) true 26 v d p) :
    ∃ y : AV, v = y.val ∧ Rd w y ∧ y.w ≤ Rows.uptoBulk d := by
  obtain ⟨y, h1, h2, h3, -⟩ := open_val_cap hv h
  exact ⟨y, h1, h2, h3⟩
end
end Go.Proofs.Ytmhkacafilpliaa
