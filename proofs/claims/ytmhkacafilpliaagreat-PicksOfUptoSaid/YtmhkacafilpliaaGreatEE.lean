/-
  edits: least of two numbers, a table of rows, what it costs to put a label for another one. Conditions: what is read lies in memory.
-/
import Derived.Test.YtmhkacafilpliaaGreatJE
import Derived.Test.YtmhkacafilpliaaGreatEB
namespace Go.Proofs.YtmhkacafilpliaaGreat
open Go.RowKit Go.Sort Go.Shelf

set_option maxRecDepth 100000 in
set_option maxHeartbeats 1600000 in
theorem least_c (w : World) (a b : Int) (g : Nat) (h : w.cell? ⟨g, 0, none⟩ = some (.int .i64 b)) : Calls Tryz.prog 87 #[.int .i64 a, .slice (some ⟨g, 0, none⟩) 1 1] w (Ret (.int .i64 (min a b)) w) := by
  go_enter Tryz.func87, Tryz.ntmps87
  go_wp2_with fail
  go_loopw [0, 9] (fun s0 s9 wr => ((s9 = .int .i64 (0 : Nat) ∧ s0 = .int .i64 a) ∨ (s9 = .int .i64 (1 : Nat) ∧ s0 = .int .i64 (min a b))) ∧ wr = w) (fun _ s9 _ => 1 - (intOf s9).toNat)
  case atStart => exact ⟨.inl ⟨rfl, rfl⟩, rfl⟩
  case round =>
    obtain ⟨⟨rfl, rfl⟩ | ⟨rfl, rfl⟩, rfl⟩ := hrel
    · go_wp2_with fail
      exact ⟨⟨.inr ⟨by go_num, rfl⟩, trivial⟩, by simp [intOf]⟩
    · go_wp2_with fail
      go_ret
      exact ⟨rfl, Below.refl _ _⟩
/-- A table: its row of rows, and the rows behind it. -/
structure Mat (w : World) (B n m : Nat) (f : Nat → Nat → Int) : Prop where
  top : RowI w B n 35 (fun p => .slice (some ⟨B + 1 + p, 0, none⟩) m m)
  row : ∀ p, p < n → RowI w (B + 1 + p) m 3 (fun q => .int .i64 (f p q))
theorem Mat.lt {w : World} {B n m : Nat} {f : Nat → Nat → Int} (h : Mat w B n m f) {p : Nat} (hp : p < n) : B + 1 + p < w.heap.size := (h.row p hp).lt
theorem Mat.keep {w w' : World} {B n m : Nat} {f : Nat → Nat → Int} (h : Mat w B n m f) (hb : ∀ k, B ≤ k → k ≤ B + n → w'.heap[k]? = w.heap[k]?) : Mat w' B n m f :=
  ⟨h.top.keep (hb B (Nat.le_refl _) (by omega)), fun p hp => (h.row p hp).keep (hb _ (by omega) (by omega))⟩
theorem Mat.set {w : World} {B n m : Nat} {f : Nat → Nat → Int} (h : Mat w B n m f) {p : Nat} (hp : p < n) (q : Nat) (v : Int) : Mat (w.setCell ⟨B + 1 + p, q, none⟩ (.int .i64 v)) B n m (fun i k => if i = p ∧ k = q then v else f i k) := by
  refine ⟨h.top.keep (Below.heap_setCell _ _ _ B (by show B ≠ B + 1 + p; omega)), fun i hi => ?_⟩
  by_cases e : i = p
  · subst e
    refine ((h.row i hi).set q (.int .i64 v)).cong fun j _ => ?_
    by_cases e2 : j = q <;> simp [e2]
  · refine ((h.row i hi).keep (Below.heap_setCell _ _ _ _ (by show B + 1 + i ≠ B + 1 + p; omega))).cong fun j _ => ?_
    simp [e]
theorem Mat.cong {w : World} {B n m : Nat} {f g : Nat → Nat → Int} (h : Mat w B n m f) (e : ∀ i k, i < n → k < m → f i k = g i k) : Mat w B n m g :=
  ⟨h.top, fun p hp => (h.row p hp).cong fun q hq => by rw [e p q hp hq]⟩
def SizedPost (n m : Nat) (w : World) (e : Ending) (w' : World) : Prop :=
  e = .returned (.slice (some ⟨w.heap.size, 0, none⟩) n n) ∧ Mat w' w.heap.size n m (fun _ _ => 0) ∧ w'.heap.size = w.heap.size + 1 + n ∧ Below w.heap.size w w'
theorem info_ri : (Tryz.prog.info? 35).map (fun i => (i.zero, i.size, i.bytes)) = some (some (.slice none 0 0), 1, 24) := by kernel_rfl
theorem make_ints (n : Nat) (hn : n ≤ 1073741824) (W : World) : (Instr.makeSlice 35 (.int .i64 (n : Int)) (.int .i64 (n : Int))).run Tryz.prog W = .ok (.slice (some ⟨W.heap.size, 0, none⟩) n n) (W.alloc (.cells ((List.range n).map fun _ => Value.int .i64 0).toArray 3)) := by
  obtain ⟨i0, hi, hz0, hz1, hz2⟩ := info_parts info_in
  have h := run_make (P := Tryz.prog) W 35 3 i0 _ Tryz.underlying35 hi hz0 .i64 .i64 n n (by omega) (Int.le_refl _) (by rw [hz2]; omega) (by omega)
  rw [hz1, Int.toNat_natCast] at h
  have e : madeCells (Value.int .i64 0).cells (n * 1) = ((List.range n).map fun _ => Value.int .i64 0).toArray := by
    rw [Nat.mul_one]
    unfold madeCells
    apply Array.ext
    · simp
    · intro i h1 h2; simp [Value.cells, Nat.mod_one]
  rw [e] at h
  exact h
theorem make_rows (n : Nat) (hn : n ≤ 1073741824) (W : World) : (Instr.makeSlice 84 (.int .i64 (n : Int)) (.int .i64 (n : Int))).run Tryz.prog W = .ok (.slice (some ⟨W.heap.size, 0, none⟩) n n) (W.alloc (.cells ((List.range n).map fun _ => Value.slice none 0 0).toArray 35)) := by
  obtain ⟨i0, hi, hz0, hz1, hz2⟩ := info_parts info_ri
  have h := run_make (P := Tryz.prog) W 84 35 i0 _ Tryz.underlying84 hi hz0 .i64 .i64 n n (by omega) (Int.le_refl _) (by rw [hz2]; omega) (by omega)
  rw [hz1, Int.toNat_natCast] at h
  have e : madeCells (Value.slice none 0 0).cells (n * 1) = ((List.range n).map fun _ => Value.slice none 0 0).toArray := by
    rw [Nat.mul_one]
    unfold madeCells
    apply Array.ext
    · simp
    · intro i h1 h2; simp [Value.cells, Nat.mod_one]
  rw [e] at h
  exact h
set_option maxRecDepth 100000 in
set_option maxHeartbeats 1600000 in
theorem esized_c (w : World) (n m : Nat) (hn : n ≤ 1048576) (hm : m ≤ 1048576) : Calls Tryz.prog 70 #[.int .i64 (n : Int), .int .i64 (m : Int)] w (SizedPost n m w) := by
  have hmk := make_rows n (by omega)
  have hmi := make_ints m (by omega)
  go_enter Tryz.func70, Tryz.ntmps70
  go_wp2_with fail
  go_loopw [6, 11] (fun _ s11 wr => ∃ i : Nat, i ≤ n ∧ s11 = .int .i64 (i : Int) ∧ Hid (RowI wr w.heap.size n 35 (fun p => if p < i then .slice (some ⟨w.heap.size + 1 + p, 0, none⟩) m m else .slice none 0 0)) ∧ Hid (∀ p, p < i → RowI wr (w.heap.size + 1 + p) m 3 (fun _ => .int .i64 0)) ∧ Hid (wr.heap.size = w.heap.size + 1 + i) ∧ Hid (Below w.heap.size w wr)) (fun _ s11 _ => n - (intOf s11).toNat)
  case atStart => exact ⟨0, Nat.zero_le _, rfl, Lib.hid ((show RowI _ w.heap.size n 35 (fun _ => .slice none 0 0) from heap_alloc_new w _).cong fun p _ => by rw [if_neg (Nat.not_lt_zero p)]), Lib.hid (fun p hp => absurd hp (Nat.not_lt_zero p)), Lib.hid (by simp), Lib.hid ((Below.refl _ w).alloc (Nat.le_refl _) _)⟩
  case round =>
    obtain ⟨i, hi, rfl, HT, HR, HS, HB⟩ := hrel
    by_cases hlt : i < n
    · have hlt' : (i : Int) < (n : Int) := by omega
      have hi0 : (0 : Int) ≤ (i : Int) := by omega
      have hs := HS.out
      have ht2 := HT.out.up ((Below.refl _ wr).alloc (Nat.le_refl _) (.cells ((List.range m).map fun _ => Value.int .i64 0).toArray 3))
      have f0 := ht2.froz i
      have c0 := ht2.cell hlt
      have hr2 : ∀ p, p < i → RowI (wr.alloc (.cells ((List.range m).map fun _ => Value.int .i64 0).toArray 3)) (w.heap.size + 1 + p) m 3 (fun _ => .int .i64 0) := fun p hp => (HR.out p hp).up ((Below.refl _ wr).alloc (Nat.le_refl _) _)
      have hr3 : RowI (wr.alloc (.cells ((List.range m).map fun _ => Value.int .i64 0).toArray 3)) (w.heap.size + 1 + i) m 3 (fun _ => .int .i64 0) := by
        have := heap_alloc_new wr (.cells ((List.range m).map fun _ => Value.int .i64 0).toArray 3)
        rw [hs] at this
        exact this
      have HT2 := Lib.hid ht2
      have HR2 := Lib.hid hr2
      have HR3 := Lib.hid hr3
      clear ht2 hr2 hr3 hs
      go_wp2_with fail
      refine ⟨⟨i + 1, by omega, by go_num, Lib.hid ((HT2.out.set i _).cong fun p _ => ?_), Lib.hid fun p hp => ?_, Lib.hid (by have := HS.out; simp; omega), Lib.hid ((HB.out.alloc HB.out.size _).setCell (p := ⟨w.heap.size, i, none⟩) (Nat.le_refl _) _)⟩, by simp [intOf]; omega⟩
      · by_cases e : p = i
        · subst e; rw [if_pos rfl, if_pos (Nat.lt_succ_self _), HS.out]
        · rw [if_neg e]
          by_cases e2 : p < i
          · rw [if_pos e2, if_pos (by omega)]
          · rw [if_neg e2, if_neg (by omega)]
      · have hne : w.heap.size + 1 + p ≠ w.heap.size := by omega
        by_cases e : p = i
        · subst e; exact HR3.out.keep (Below.heap_setCell _ _ _ _ hne)
        · exact (HR2.out p (by omega)).keep (Below.heap_setCell _ _ _ _ hne)
    · obtain rfl : i = n := by omega
      go_wp2_with fail
      go_ret
      exact ⟨rfl, ⟨HT.out.cong fun p hp => by rw [if_pos hp], fun p hp => HR.out p hp⟩, HS.out, HB.out⟩
/-- Nothing but the blocks from one on, below another one, is changed. -/
def KpM (a b : Nat) (W W' : World) : Prop := W'.os = W.os ∧ W'.tape = W.tape ∧ W'.output = W.output ∧ W.heap.size ≤ W'.heap.size ∧ ∀ k, k < W.heap.size → k < a ∨ b ≤ k → W'.heap[k]? = W.heap[k]?
section
variable {a b : Nat} {W W' W'' : World}
theorem KpM.refl : KpM a b W W := ⟨rfl, rfl, rfl, Nat.le_refl _, fun _ _ _ => rfl⟩
theorem KpM.trans (h : KpM a b W W') (h2 : KpM a b W' W'') : KpM a b W W'' := ⟨h2.1.trans h.1, h2.2.1.trans h.2.1, h2.2.2.1.trans h.2.2.1, Nat.le_trans h.2.2.2.1 h2.2.2.2.1, fun k h3 h4 => (h2.2.2.2.2 k (Nat.lt_of_lt_of_le h3 h.2.2.2.1) h4).trans (h.2.2.2.2 k h3 h4)⟩
theorem KpM.of_below (h : Below W.heap.size W W') : KpM a b W W' := ⟨h.os, h.tape, h.output, h.size, fun k h1 _ => h.block k h1⟩
theorem KpM.set (h : KpM a b W W') (p : Addr) (v : Value) (h1 : a ≤ p.block) (h2 : p.block < b) : KpM a b W (W'.setCell p v) :=
  ⟨h.1, h.2.1, h.2.2.1, by simp; exact h.2.2.2.1, fun k h3 h4 => (Below.heap_setCell _ _ _ k (by omega)).trans (h.2.2.2.2 k h3 h4)⟩
theorem KpM.below (h : KpM a b W W') (hs : a ≤ W.heap.size) : Below a W W' := ⟨h.1, h.2.1, h.2.2.1, h.2.2.2.1, fun k hk => h.2.2.2.2 k (by omega) (.inl hk)⟩
theorem KpM.cell (h : KpM a b W W') {k o : Nat} (hk : k < W.heap.size) (hb : k < a ∨ b ≤ k) : W'.cell? ⟨k, o, none⟩ = W.cell? ⟨k, o, none⟩ := World.cell?_of_block (w := W) (h.2.2.2.2 k hk hb)
end
end Go.Proofs.YtmhkacafilpliaaGreat
