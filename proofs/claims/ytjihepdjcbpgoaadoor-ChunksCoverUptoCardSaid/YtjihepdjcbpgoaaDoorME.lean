/-
  lcs.tails: how long the longest common part is from each place on. Conditions: the rows of numbers lie in memory, their lengths are bounded.
-/
import Derived.Test.YtjihepdjcbpgoaaDoorMC
import Derived.BigRegion
namespace Go.Proofs.YtjihepdjcbpgoaaDoor
open Go.RowKit Go.Sort

theorem info_ri : (Tryd.prog.info? 54).map (fun i => (i.zero, i.size, i.bytes)) = some (some (.slice none 0 0), 1, 24) := by kernel_rfl
theorem make_rows (n : Nat) (hn : n ≤ 4194304) (W : World) : (Instr.makeSlice 57 (.int .i64 (n : Int)) (.int .i64 (n : Int))).run Tryd.prog W = .ok (.slice (some ⟨W.heap.size, 0, none⟩) n n) (W.alloc (.cells ((List.range n).map fun _ => Value.slice none 0 0).toArray 54)) := by
  obtain ⟨i0, hi, hz0, hz1, hz2⟩ := info_parts info_ri
  have h := run_make (P := Tryd.prog) W 57 54 i0 _ Tryd.underlying57 hi hz0 .i64 .i64 n n (by omega) (Int.le_refl _) (by rw [hz2]; omega) (by omega)
  rw [hz1, Int.toNat_natCast, made_one rfl] at h
  exact h
/-- The table's block, of which rows from i on are made; row r lies in block R + 1 + (n - r). -/
def tabF (R n m1 i r : Nat) : Value := if i ≤ r then .slice (some ⟨R + 1 + (n - r), 0, none⟩) m1 m1 else .slice none 0 0
/-- A table of which rows from i on are made and filled. -/
structure Tab (X Y : List Int) (w0 w : World) (i : Nat) : Prop where
  top : RowF w w0.heap.size (X.length + 1) 54 (tabF w0.heap.size X.length (Y.length + 1) i)
  rows : ∀ r, i ≤ r → r ≤ X.length → RowF w (w0.heap.size + 1 + (X.length - r)) (Y.length + 1) 3 (fun k => .int .i64 (lcsT X Y r k : Nat))
  size : w.heap.size = w0.heap.size + 1 + (X.length - i) + 1
  below : Below w0.heap.size w0 w
/-- ..row i is being filled, from behind, down to place k. -/
structure TabI (X Y : List Int) (w0 w : World) (i k : Nat) : Prop where
  top : RowF w w0.heap.size (X.length + 1) 54 (tabF w0.heap.size X.length (Y.length + 1) i)
  rows : ∀ r, i < r → r ≤ X.length → RowF w (w0.heap.size + 1 + (X.length - r)) (Y.length + 1) 3 (fun k => .int .i64 (lcsT X Y r k : Nat))
  row : RowF w (w0.heap.size + 1 + (X.length - i)) (Y.length + 1) 3 (fun j => .int .i64 (if k ≤ j then (lcsT X Y i j : Nat) else (0 : Nat) : Nat))
  size : w.heap.size = w0.heap.size + 1 + (X.length - i) + 1
  below : Below w0.heap.size w0 w
theorem range_set (n : Nat) (f : Nat → Value) (j : Nat) (v : Value) : ((List.range n).map f).set j v = (List.range n).map fun i => if i = j then v else f i := by
  apply List.ext_getElem
  · simp
  · intro i h1 h2
    simp only [List.getElem_set, List.getElem_map, List.getElem_range]
    by_cases e : j = i
    · rw [if_pos e, if_pos e.symm]
    · rw [if_neg e, if_neg (fun h => e h.symm)]
theorem Tab.start {X Y : List Int} {w0 : World} : Tab X Y w0 ((w0.alloc (.cells (((List.range (X.length + 1)).map fun _ => Value.slice none 0 0).set X.length (.slice (some ⟨w0.heap.size + 1, 0, none⟩) (Y.length + 1) (Y.length + 1))).toArray 54)).alloc (.cells ((List.range (Y.length + 1)).map fun _ => Value.int .i64 0).toArray 3)) X.length := by
  rw [range_set]
  obtain ⟨o1, ho1⟩ : ∃ o1, o1 = Obj.cells ((List.range (X.length + 1)).map fun i => if i = X.length then Value.slice (some ⟨w0.heap.size + 1, 0, none⟩) (Y.length + 1) (Y.length + 1) else Value.slice none 0 0).toArray 54 (0, 0) := ⟨_, rfl⟩
  rw [← ho1]
  have h1 : RowF ((w0.alloc o1).alloc (.cells ((List.range (Y.length + 1)).map fun _ => Value.int .i64 0).toArray 3)) w0.heap.size (X.length + 1) 54 (fun i => if i = X.length then Value.slice (some ⟨w0.heap.size + 1, 0, none⟩) (Y.length + 1) (Y.length + 1) else Value.slice none 0 0) :=
    ((blk_o _ _ _ (by simp)).trans (heap_alloc_new w0 _)).trans (by rw [ho1])
  have h2 : RowF ((w0.alloc o1).alloc (.cells ((List.range (Y.length + 1)).map fun _ => Value.int .i64 0).toArray 3)) (w0.heap.size + 1) (Y.length + 1) 3 (fun _ => .int .i64 0) := by
    have := heap_alloc_new (w0.alloc o1) (.cells ((List.range (Y.length + 1)).map fun _ => Value.int .i64 0).toArray 3)
    rw [World.size_alloc] at this
    exact this
  refine ⟨h1.cong fun j hj => ?_, fun r hr1 hr2 => ?_, by simp, (((Below.refl _ _).alloc (Nat.le_refl _) _).alloc (by simp) _)⟩
  · unfold tabF
    by_cases e : j = X.length
    · subst e; rw [if_pos rfl, if_pos (Nat.le_refl _), Nat.sub_self]
    · rw [if_neg e, if_neg (by omega)]
  · obtain rfl : r = X.length := by omega
    rw [Nat.sub_self]
    refine h2.cong fun j _ => ?_
    rw [lcsT_end_l (Nat.le_refl _)]; rfl
theorem Tab.next {X Y : List Int} {w0 w : World} {i : Nat} (h : Tab X Y w0 w (i + 1)) (hi : i < X.length) : TabI X Y w0 ((w.setCell ⟨w0.heap.size, i, none⟩ (.slice (some ⟨w.heap.size, 0, none⟩) (Y.length + 1) (Y.length + 1))).alloc (.cells ((List.range (Y.length + 1)).map fun _ => Value.int .i64 0).toArray 3)) i Y.length := by
  have hs := h.size
  have hl := h.top.lt
  have e : w.heap.size = w0.heap.size + 1 + (X.length - i) := by omega
  obtain ⟨W, hW⟩ : ∃ W, W = w.setCell ⟨w0.heap.size, i, none⟩ (.slice (some ⟨w.heap.size, 0, none⟩) (Y.length + 1) (Y.length + 1)) := ⟨_, rfl⟩
  have hws : W.heap.size = w.heap.size := by rw [hW]; simp
  have hbw : Below w0.heap.size w0 W := by rw [hW]; exact h.below.setCell (p := ⟨w0.heap.size, i, none⟩) (Nat.le_refl _) _
  have htop : RowF W w0.heap.size (X.length + 1) 54 (fun j => if j = i then .slice (some ⟨w.heap.size, 0, none⟩) (Y.length + 1) (Y.length + 1) else tabF w0.heap.size X.length (Y.length + 1) (i + 1) j) := by rw [hW]; exact h.top.set i _
  have hold : ∀ q, q ≠ w0.heap.size → W.heap[q]? = w.heap[q]? := fun q hq => by rw [hW]; exact Below.heap_setCell _ _ _ q hq
  rw [← hW]
  clear hW
  have hk : ∀ q, q < w.heap.size → q ≠ w0.heap.size → (W.alloc (.cells ((List.range (Y.length + 1)).map fun _ => Value.int .i64 0).toArray 3)).heap[q]? = w.heap[q]? := fun q h1 h2 =>
    (blk_o _ _ _ (by omega)).trans (hold q h2)
  refine ⟨(htop.keep (blk_o _ _ _ (by omega))).cong fun j hj => ?_, fun r hr1 hr2 => (h.rows r (by omega) hr2).keep (hk _ (by omega) (by omega)), ?_, by rw [World.size_alloc]; omega, hbw.alloc (by omega) _⟩
  · unfold tabF
    by_cases e2 : j = i
    · subst e2; rw [if_pos rfl, if_pos (Nat.le_refl _), e]
    · rw [if_neg e2]
      by_cases e3 : i + 1 ≤ j
      · rw [if_pos e3, if_pos (by omega)]
      · rw [if_neg e3, if_neg (by omega)]
  · rw [← e, ← hws]
    have h2 : RowF (W.alloc (.cells ((List.range (Y.length + 1)).map fun _ => Value.int .i64 0).toArray 3)) W.heap.size (Y.length + 1) 3 (fun _ => .int .i64 0) := heap_alloc_new W _
    refine h2.cong fun j hj => ?_
    by_cases hj2 : Y.length ≤ j
    · rw [if_pos hj2, lcsT_end_r hj2]; rfl
    · rw [if_neg hj2]; rfl
theorem TabI.done {X Y : List Int} {w0 w : World} {i : Nat} (h : TabI X Y w0 w i 0) : Tab X Y w0 w i := by
  refine ⟨h.top, fun r h1 h2 => ?_, h.size, h.below⟩
  rcases Nat.lt_or_ge i r with hlt | hge
  · exact h.rows r hlt h2
  · obtain rfl : r = i := by omega
    exact h.row.cong fun j _ => by rw [if_pos (Nat.zero_le _)]
theorem TabI.drew {X Y : List Int} {w0 w : World} {i k : Nat} (h : TabI X Y w0 w i k) : TabI X Y w0 w.drew i k := ⟨h.top, h.rows, h.row, h.size, h.below.drew⟩
theorem TabI.put {X Y : List Int} {w0 w w' : World} {i k : Nat} (h : TabI X Y w0 w i (k + 1)) {f : Nat → Value} (hr : RowF w' (w0.heap.size + 1 + (X.length - i)) (Y.length + 1) 3 f) (hf : ∀ j, j ≠ k → f j = .int .i64 (if k + 1 ≤ j then (lcsT X Y i j : Nat) else (0 : Nat) : Nat)) (hv : f k = .int .i64 (lcsT X Y i k : Nat))
    (hq : ∀ q, q ≠ w0.heap.size + 1 + (X.length - i) → w'.heap[q]? = w.heap[q]?) (hs : w'.heap.size = w.heap.size) (hb : Below w0.heap.size w0 w') : TabI X Y w0 w' i k := by
  refine ⟨h.top.keep (hq _ (by omega)), fun r h1 h2 => (h.rows r h1 h2).keep (hq _ (by omega)), hr.cong fun j _ => ?_, hs.trans h.size, hb⟩
  by_cases e : j = k
  · subst e; rw [hv, if_pos (Nat.le_refl _)]
  · rw [hf j e]
    by_cases e2 : k + 1 ≤ j
    · rw [if_pos e2, if_pos (by omega)]
    · rw [if_neg e2, if_neg (by omega)]
theorem TabI.one {X Y : List Int} {w0 w : World} {i k : Nat} (h : TabI X Y w0 w i (k + 1)) {v : Value} (hv : v = .int .i64 (lcsT X Y i k : Nat)) : TabI X Y w0 (w.setCell ⟨w0.heap.size + 1 + (X.length - i), k, none⟩ v) i k :=
  h.put (h.row.set k v) (fun j hj => if_neg hj) ((if_pos rfl).trans hv) (fun q hq => Below.heap_setCell _ _ _ q hq) (by simp) (h.below.setCell (p := ⟨w0.heap.size + 1 + (X.length - i), k, none⟩) (by show w0.heap.size ≤ w0.heap.size + 1 + (X.length - i); omega) _)
theorem TabI.two {X Y : List Int} {w0 w : World} {i k : Nat} (h : TabI X Y w0 w i (k + 1)) {u v : Value} (hv : v = .int .i64 (lcsT X Y i k : Nat)) : TabI X Y w0 ((w.setCell ⟨w0.heap.size + 1 + (X.length - i), k, none⟩ u).setCell ⟨w0.heap.size + 1 + (X.length - i), k, none⟩ v) i k :=
  h.put ((h.row.set k u).set k v) (fun j hj => by rw [if_neg hj, if_neg hj]) ((if_pos rfl).trans hv) (fun q hq => (Below.heap_setCell _ _ _ q hq).trans (Below.heap_setCell _ _ _ q hq)) (by simp)
    ((h.below.setCell (p := ⟨w0.heap.size + 1 + (X.length - i), k, none⟩) (by show w0.heap.size ≤ w0.heap.size + 1 + (X.length - i); omega) _).setCell (p := ⟨w0.heap.size + 1 + (X.length - i), k, none⟩) (by show w0.heap.size ≤ w0.heap.size + 1 + (X.length - i); omega) _)
def TailsPost (X Y : List Int) (w : World) (e : Ending) (w' : World) : Prop := e = .returned (.slice (some ⟨w.heap.size, 0, none⟩) (X.length + 1) (X.length + 1)) ∧ Tab X Y w w' 0
set_option maxRecDepth 100000 in
set_option maxHeartbeats 3200000 in
theorem tails_c (w : World) (A B : Option Addr) (cA cB : Nat) (X Y : List Int) (hX : SlE i64E 1 w 0 w.heap.size A X) (hY : SlE i64E 1 w 0 w.heap.size B Y) (hxl : X.length ≤ 1048576) (hyl : Y.length ≤ 1048576) :
    Calls Tryd.prog 29 #[.slice A X.length cA, .slice B Y.length cB] w (TailsPost X Y w) := by
  obtain ⟨n1, hn1⟩ : ∃ n1, n1 = X.length + 1 := ⟨_, rfl⟩
  obtain ⟨m1, hm1⟩ : ∃ m1, m1 = Y.length + 1 := ⟨_, rfl⟩
  have hr := make_rows n1 (by omega)
  have hi := make_ints m1 (by omega)
  have hw1 : IntKind.i64.wrap ((X.length : Int) + 1) = (n1 : Int) := by rw [IntWalk.i64_in _ (by omega)]; omega
  have hw2 : IntKind.i64.wrap ((Y.length : Int) + 1) = (m1 : Int) := by rw [IntWalk.i64_in _ (by omega)]; omega
  have hw3 : IntKind.i64.wrap ((X.length : Int) - 1) = (X.length : Int) - 1 := IntWalk.i64_in _ (by omega)
  have hw4 : IntKind.i64.wrap ((Y.length : Int) - 1) = (Y.length : Int) - 1 := IntWalk.i64_in _ (by omega)
  have hnn : (X.length : Int) < (n1 : Int) := by omega
  have hn0 : (0 : Int) ≤ (X.length : Int) := by omega
  have HT := Lib.hid (Tab.start (X := X) (Y := Y) (w0 := w))
  rw [← hn1, ← hm1] at HT
  have q0 : RowF ((w.alloc (.cells ((List.range n1).map fun _ => Value.slice none 0 0).toArray 54)).alloc (.cells ((List.range m1).map fun _ => Value.int .i64 0).toArray 3)) w.heap.size n1 54 (fun _ => .slice none 0 0) :=
    (blk_o _ _ _ (by simp)).trans (heap_alloc_new w _)
  have c0 := q0.cell (j := X.length) (by omega)
  have c1 := q0.froz X.length
  have HX := Lib.hid hX
  have HY := Lib.hid hY
  have HN1 := Lib.hid hn1
  have HM1 := Lib.hid hm1
  clear hX hY hn1 hm1 q0
  go_enter Tryd.func29, Tryd.ntmps29
  go_wp2_with fail
  clear hr c0 c1
  go_loopw [6] (fun s6 wr => ∃ i : Nat, i ≤ X.length ∧ s6 = .int .i64 ((i : Int) - 1) ∧ Tab X Y w wr i) (fun s6 _ => (intOf s6 + 1).toNat)
  case atStart => exact ⟨X.length, Nat.le_refl _, by go_num, HT.out⟩
  case round =>
    obtain ⟨i, hin, rfl, htab⟩ := hrel
    have HTB := Lib.hid htab
    rcases Nat.eq_zero_or_pos i with hi0 | hi0
    · subst hi0
      have hneg : ¬ (0 : Int) ≤ -1 := by omega
      clear htab
      go_wp2_with fail
      go_ret
      exact ⟨by rw [HN1.out, HM1.out]; rfl, HTB.out⟩
    · obtain ⟨i, rfl⟩ : ∃ i', i = i' + 1 := ⟨i - 1, by omega⟩
      have e0 : (((i + 1 : Nat) : Int) - 1) = (i : Int) := by omega
      have hi1 : (0 : Int) ≤ (i : Int) := by omega
      have hi2 : (i : Int) < (n1 : Int) := by have := HN1.out; omega
      have hwi : IntKind.i64.wrap ((i : Int) - 1) = (i : Int) - 1 := IntWalk.i64_in _ (by omega)
      have q0 := htab.top.keep (blk_o wr (.cells ((List.range m1).map fun _ => Value.int .i64 0).toArray 3) _ htab.top.lt)
      rw [← HN1.out] at q0
      have c0 := q0.cell (j := i) (by have := HN1.out; omega)
      have c1 := q0.froz i
      have hlR := htab.top.lt
      have hTN := htab.next (by omega)
      rw [← HM1.out] at hTN
      have HTN := Lib.hid hTN
      rw [e0]
      clear htab q0 hTN e0
      go_wp2_with fail
      clear c0 c1
      go_loopw [7] (fun s7 wi => ∃ k : Nat, k ≤ Y.length ∧ s7 = .int .i64 ((k : Int) - 1) ∧ TabI X Y w wi i k) (fun s7 _ => (intOf s7 + 1).toNat)
      case atStart => exact ⟨Y.length, Nat.le_refl _, by go_num, HTN.out⟩
      case round =>
        obtain ⟨k, hkn, rfl, htab⟩ := hrel
        have HTB := Lib.hid htab
        rcases Nat.eq_zero_or_pos k with hk0 | hk0
        · subst hk0
          have hneg : ¬ (0 : Int) ≤ -1 := by omega
          clear htab
          go_wp2_with fail
          exact ⟨⟨i, by omega, by go_num, HTB.out.done⟩, by simp [intOf] <;> omega⟩
        · obtain ⟨k, rfl⟩ : ∃ k', k = k' + 1 := ⟨k - 1, by omega⟩
          have e0 : (((k + 1 : Nat) : Int) - 1) = (k : Int) := by omega
          have hbs := htab.below.size
          have hns := htab.size
          have hk1 : (0 : Int) ≤ (k : Int) := by omega
          have hm2 := HM1.out
          have hn2 := HN1.out
          have hk2 : (k : Int) < (m1 : Int) := by omega
          obtain ⟨i1, hi3⟩ : ∃ i1, i1 = i + 1 := ⟨_, rfl⟩
          obtain ⟨k1, hk3⟩ : ∃ k1, k1 = k + 1 := ⟨_, rfl⟩
          have hwi1 : IntKind.i64.wrap ((i : Int) + 1) = (i1 : Int) := by rw [IntWalk.i64_in _ (by omega)]; omega
          have hwk1 : IntKind.i64.wrap ((k : Int) + 1) = (k1 : Int) := by rw [IntWalk.i64_in _ (by omega)]; omega
          have hwk : IntKind.i64.wrap ((k : Int) - 1) = (k : Int) - 1 := IntWalk.i64_in _ (by omega)
          have hi4 : (0 : Int) ≤ (i1 : Int) ∧ (i1 : Int) < (n1 : Int) := by omega
          have hk4 : (0 : Int) ≤ (k1 : Int) ∧ (k1 : Int) < (m1 : Int) := by omega
          obtain ⟨Bi, hBi⟩ : ∃ Bi, Bi = w.heap.size + 1 + (X.length - i) := ⟨_, rfl⟩
          obtain ⟨B1, hB1⟩ : ∃ B1, B1 = w.heap.size + 1 + (X.length - i1) := ⟨_, rfl⟩
          have t0 : wr.cell? ⟨w.heap.size, i, none⟩ = some (.slice (some ⟨Bi, 0, none⟩) m1 m1) := by
            rw [htab.top.cell (by omega), tabF, if_pos (Nat.le_refl _), ← hBi, HM1.out]
          have t1 : wr.cell? ⟨w.heap.size, i1, none⟩ = some (.slice (some ⟨B1, 0, none⟩) m1 m1) := by
            rw [htab.top.cell (by omega), tabF, if_pos (by omega), ← hB1, HM1.out]
          have r1 := htab.rows i1 (by omega) (by omega)
          have ri := htab.row
          rw [← hB1] at r1
          rw [← hBi] at ri
          have a0 := r1.cell (j := k) (by omega)
          have a1 := r1.cell (j := k1) (by omega)
          have b1 := ri.cell (j := k1) (by omega)
          have b0 := ri.cell (j := k) (by omega)
          have b2 := ri.froz k
          rw [if_pos (by omega)] at b1
          rw [if_neg (by omega)] at b0
          have g1 := r1.lt
          have g2 := ri.lt
          have g3 := htab.top.lt
          have hxk : X[i]? = some X[i] := List.getElem?_eq_getElem (by omega)
          have hyk : Y[k]? = some Y[k] := List.getElem?_eq_getElem (by omega)
          generalize X[i] = x at hxk
          generalize Y[k] = y at hyk
          obtain ⟨bx, ox, hax, -, -, gx, cx⟩ := i64_at HX.out hxk
          obtain ⟨by_, oy, hay, -, -, gy, cy⟩ := i64_at HY.out hyk
          rw [← htab.below.cell (p := ⟨_, _, none⟩) gx] at cx
          rw [← htab.below.cell (p := ⟨_, _, none⟩) gy] at cy
          have gx2 : bx < wr.heap.size := by omega
          have gy2 : by_ < wr.heap.size := by omega
          have nx : bx ≠ Bi := by omega
          have ny : by_ ≠ Bi := by omega
          have nr : w.heap.size ≠ Bi := by omega
          have nb : B1 ≠ Bi := by omega
          have hix : (i : Int) < (X.length : Int) := by omega
          have hky : (k : Int) < (Y.length : Int) := by omega
          have hmx := lcsT_more (X := X) (Y := Y) i k
          have hle := lcs_le_l (X.drop i1) (Y.drop k1)
          have HEQ := Lib.hid (fun e : x = y => lcsT_eq hxk hyk e)
          have HNE := Lib.hid (fun e : x ≠ y => lcsT_ne hxk hyk e)
          have HAX := Lib.hid hax
          have HAY := Lib.hid hay
          have HBI := Lib.hid hBi
          rw [← hi3, ← hk3] at HEQ HNE
          rw [show lcsL (X.drop i1) (Y.drop k1) = lcsT X Y i1 k1 from rfl, List.length_drop] at hle
          obtain ⟨a, ha⟩ : ∃ a, a = lcsT X Y i1 k := ⟨_, rfl⟩
          obtain ⟨b, hb⟩ : ∃ b, b = lcsT X Y i k1 := ⟨_, rfl⟩
          obtain ⟨d, hd⟩ : ∃ d, d = lcsT X Y i1 k1 := ⟨_, rfl⟩
          rw [← ha] at a0
          rw [← hd] at a1 hle
          rw [← hb] at b1
          rw [← ha, ← hb] at HNE
          rw [← hd] at HEQ
          have hwd : IntKind.i64.wrap ((d : Int) + 1) = ((d + 1 : Nat) : Int) := by rw [IntWalk.i64_in _ (by omega)]; omega
          rw [HAX.out, HAY.out, e0]
          clear htab hax hay hxk hyk r1 ri ha hb hd hmx hle hBi hB1 e0 hi3 hk3 hns hbs hm2 hn2
          go_upto_region 10 with fail
          go_region
          by_cases hxy : x = y
          · have hxb : (x == y) = true := by simp [hxy]
            have HX2 := Lib.hid (HEQ.out hxy)
            clear hxy
            go_wp2_with fail
            go_region
            go_wp2_with fail
            go_region
            go_wp2_with fail
            have hfin := HTB.out.two (u := .int .i64 (max (a : Int) (b : Int))) (v := .int .i64 ((d : Int) + 1)) (by rw [HX2.out]; rfl)
            rw [← HBI.out] at hfin
            exact ⟨⟨k, by omega, by go_num, hfin.drew.drew.drew⟩, by simp [intOf] <;> omega⟩
          · have hxb : (x == y) = false := by simp [hxy]
            have HX2 := Lib.hid (HNE.out hxy)
            clear hxy
            go_wp2_with fail
            go_region
            go_wp2_with fail
            have hfin := HTB.out.one (v := .int .i64 (max (a : Int) (b : Int))) (by rw [HX2.out]; congr 1; omega)
            rw [← HBI.out] at hfin
            exact ⟨⟨k, by omega, by go_num, hfin.drew.drew⟩, by simp [intOf] <;> omega⟩
end Go.Proofs.YtjihepdjcbpgoaaDoor
