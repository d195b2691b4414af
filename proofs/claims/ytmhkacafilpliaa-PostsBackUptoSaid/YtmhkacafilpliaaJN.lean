/-
  posts.Part: of whatever labels and numbers whatever node's part. Conditions: they lie in memory, at most 2^20 of them.
-/
import Derived.Test.YtmhkacafilpliaaJM
import Derived.Lib.LazyBuf
namespace Go.Proofs.Ytmhkacafilpliaa
open Go.RowKit Go.Sort Go.Shelf

theorem int_at {w : World} {lo hi : Nat} {a : Option Addr} {l : List Int} (h : SlE i64Z 1 w lo hi a l) {k : Nat} {y : Int} (hk : l[k]? = some y) :
    ∃ b off, a = some ⟨b, off, none⟩ ∧ lo ≤ b ∧ b < hi ∧ b < w.heap.size ∧ w.cell? ⟨b, off + k, none⟩ = some (.int .i64 y) := by
  have hl : k < l.length := (List.getElem?_eq_some_iff.1 hk).1
  obtain ⟨b, off, e, g1, g2, g3, g4⟩ := h (by omega)
  have := g4 k y hk 0 _ rfl
  rw [Nat.mul_one, Nat.add_zero] at this
  exact ⟨b, off, e, g1, g2, g3, this⟩
/-- Is a number out of its bounds in a part that begins at f? -/
def badZ (f : Int) (i : Nat) (l : Int) : Bool := decide (l < f) || decide (f + (i : Int) < l)
/-- A node's part: where it begins; no number is out of bounds. -/
def partAt (labs : List Lab) (lefts : List Int) (node : Int) : Option Nat :=
  if node < 0 ∨ (labs.length : Int) ≤ node ∨ lefts.length ≠ labs.length then none else
    match lefts[node.toNat]? with
    | none => none
    | some f => if f < 0 ∨ node < f then none else some f.toNat
def partOk (lefts : List Int) (f m : Nat) : Bool := (List.range m).all fun i => match lefts[f + i]? with
  | some l => !badZ f i l
  | none => false
def partL (labs : List Lab) (f m : Nat) : List Lab := (labs.drop f).take m
def partN (lefts : List Int) (f m : Nat) : List Nat := ((lefts.drop f).take m).map fun l : Int => (l - (f : Int)).toNat
/-- What posts.Part leaves. -/
def PartPost (labs : List Lab) (lefts : List Int) (node : Int) (w : World) (e : Ending) (w' : World) : Prop :=
  Below w.heap.size w w' ∧ ((∃ f, partAt labs lefts node = some f ∧ partOk lefts f (node.toNat + 1 - f) = true ∧ ∃ al af ar m, m = node.toNat + 1 - f ∧
      e = .returned (.tuple #[.agg #[.slice al m m, .slice af m m, .slice ar (rootsL (partN lefts f m)).length (rootsL (partN lefts f m)).length], .bool true]) ∧
      OwnC w' w.heap.size 46 4 al m m ((partL labs f m).flatMap Lab.enc) ∧ OwnC w' w.heap.size 3 1 af m m ((partN lefts f m).flatMap natE) ∧ OwnC w' w.heap.size 3 1 ar (rootsL (partN lefts f m)).length (rootsL (partN lefts f m)).length ((rootsL (partN lefts f m)).flatMap natE)) ∨
    ((∀ f, partAt labs lefts node = some f → partOk lefts f (node.toNat + 1 - f) = false) ∧ e = .returned (.tuple #[.agg #[.slice none 0 0, .slice none 0 0, .slice none 0 0], .bool false])))
abbrev pBox (al : Option Addr) (nl cl : Nat) (af : Option Addr) (nf cf : Nat) (ar : Option Addr) (nr cr : Nat) : Array Value := #[.slice al nl cl, .slice af nf cf, .slice ar nr cr]
theorem part_none_end {w : World} {B : Nat} {v0 v1 v2 : Value} {labs : List Lab} {lefts : List Int} {node : Int} {w2 : World} (hb : Below w.heap.size w w2) (hB : w.heap.size ≤ B) (h : ∀ f, partAt labs lefts node = some f → partOk lefts f (node.toNat + 1 - f) = false) :
    PartPost labs lefts node w (.returned (.tuple #[.agg #[.slice none 0 0, .slice none 0 0, .slice none 0 0], .bool false])) (((w2.setCell ⟨B, 0, none⟩ v0).setCell ⟨B, 1, none⟩ v1).setCell ⟨B, 2, none⟩ v2) :=
  ⟨((hb.setCell (p := ⟨B, 0, none⟩) hB _).setCell (p := ⟨B, 1, none⟩) hB _).setCell (p := ⟨B, 2, none⟩) hB _, .inr ⟨h, rfl⟩⟩
set_option maxRecDepth 100000 in
set_option maxHeartbeats 3200000 in
theorem part_no (w : World) (labs : List Lab) (lefts : List Int) (al af ar : Option Addr) (cl cf nr cr : Nat) (node : Int) (hf : SlE i64Z 1 w 0 w.heap.size af lefts) (hp : partAt labs lefts node = none) :
    Calls Try.prog 19 #[.agg (pBox al labs.length cl af lefts.length cf ar nr cr), .int .i64 node] w (PartPost labs lefts node w) := by
  have hno : ∀ f, partAt labs lefts node = some f → partOk lefts f (node.toNat + 1 - f) = false := fun f h => by rw [hp] at h; cases h
  have HNO := Lib.hid hno
  clear hno
  have h0 : ∀ {w2 : World}, w2 = (w.alloc (.cells (pBox al labs.length cl af lefts.length cf ar nr cr) 33)).alloc (.cells #[.slice none 0 0, .slice none 0 0, .slice none 0 0] 33) → Below w.heap.size w w2 := fun e => by rw [e]; exact ((Below.refl _ _).alloc (Nat.le_refl _) _).alloc (by simp) _
  have HB0 := Lib.hid (h0 rfl)
  clear h0
  unfold partAt at hp
  by_cases h1 : node < 0
  · clear hp hf
    go_enter Try.func19, Try.ntmps19
    go_wp2_with fail
    exact bodyPost_ret (v := .tuple #[.agg #[.slice none 0 0, .slice none 0 0, .slice none 0 0], .bool false]) (by simp [results, Try.results19, go_sem]) rfl ⟨HB0.out, .inr ⟨HNO.out, rfl⟩⟩
  by_cases h2 : (labs.length : Int) ≤ node
  · clear hp hf
    go_enter Try.func19, Try.ntmps19
    go_wp2_with fail
    exact bodyPost_ret (v := .tuple #[.agg #[.slice none 0 0, .slice none 0 0, .slice none 0 0], .bool false]) (by simp [results, Try.results19, go_sem]) rfl ⟨HB0.out, .inr ⟨HNO.out, rfl⟩⟩
  by_cases h3 : lefts.length = labs.length
  · have hnn : node.toNat < lefts.length := by omega
    rw [if_neg (by rintro (h | h | h) <;> omega)] at hp
    have hl : lefts[node.toNat]? = some lefts[node.toNat] := List.getElem?_eq_getElem hnn
    generalize lefts[node.toNat] = f at hl
    rw [hl] at hp
    simp only at hp
    have h5 : f < 0 ∨ node < f := by
      apply Classical.byContradiction
      intro h
      rw [if_neg h] at hp; cases hp
    obtain ⟨b, off, e, -, -, hb, hc⟩ := int_at hf hl
    have hnb : node < (lefts.length : Int) := by omega
    have hneq : ((lefts.length : Int) != (labs.length : Int)) = false := by simp [h3]
    have H3 := Lib.hid h3
    subst e
    clear hp hf hl h3
    by_cases h6 : f < 0
    · go_enter Try.func19, Try.ntmps19
      go_wp2_with fail
      exact bodyPost_ret (v := .tuple #[.agg #[.slice none 0 0, .slice none 0 0, .slice none 0 0], .bool false]) (by simp [results, Try.results19, go_sem]) rfl ⟨HB0.out, .inr ⟨HNO.out, rfl⟩⟩
    · have h7 : node < f := by omega
      clear h5
      go_enter Try.func19, Try.ntmps19
      go_wp2_with fail
      exact bodyPost_ret (v := .tuple #[.agg #[.slice none 0 0, .slice none 0 0, .slice none 0 0], .bool false]) (by simp [results, Try.results19, go_sem]) rfl ⟨HB0.out, .inr ⟨HNO.out, rfl⟩⟩
  · have hneq : ((lefts.length : Int) != (labs.length : Int)) = true := by simp; omega
    clear hp hf h3
    go_enter Try.func19, Try.ntmps19
    go_wp2_with fail
    exact bodyPost_ret (v := .tuple #[.agg #[.slice none 0 0, .slice none 0 0, .slice none 0 0], .bool false]) (by simp [results, Try.results19, go_sem]) rfl ⟨HB0.out, .inr ⟨HNO.out, rfl⟩⟩

theorem own_lower {w : World} {b b' e size n : Nat} {v : Value} {xs : List Value} (h : w.ownsRow b e size v n xs) (hb : b' ≤ b) : w.ownsRow b' e size v n xs := by
  rcases h.2 with ⟨e1, e2⟩ | ⟨q, cap, cur, e1, e2, e3⟩
  · exact ⟨h.1, .inl ⟨e1, e2⟩⟩
  · exact ⟨h.1, .inr ⟨q, cap, cur, e1, Nat.le_trans hb e2, e3⟩⟩
def CloneL (C : List Lab) (w : World) (e : Ending) (w' : World) : Prop := ∃ (g c' : Nat), e = .returned (.slice (some ⟨g, 0, none⟩) C.length c') ∧ C.length ≤ c' ∧ w'.ownsRow w.heap.size 46 4 (.slice (some ⟨g, 0, none⟩) C.length c') C.length (C.flatMap Lab.enc) ∧ Below w.heap.size w w'
set_option maxRecDepth 100000 in
set_option maxHeartbeats 3200000 in
theorem clone_lb (w : World) (a : Addr) (cap : Nat) (C : List Lab) (h : SlE Lab.enc 4 w 0 w.heap.size (some a) C) (h0 : 0 < C.length) (hn : C.length ≤ 4194304) :
    Calls Try.prog 50 #[.slice (some a) C.length cap] w (CloneL C w) := by
  have hnil : ∀ (W : World) (n c : Nat), (binOp .eql 30 (.slice (some a) n c) (.slice none 0 0)).run Try.prog W = .ok (.bool false) W := fun W n c => run_eql_slice_nil W _ _ (some a) n c Try.underlying30
  have hba := (Below.refl w.heap.size w).alloc (Nat.le_refl _) (.cells #[] 46)
  obtain ⟨i0, hi0, hz0, hz1, hz2⟩ := info_parts info_lb
  have hsl := h.up hba
  obtain ⟨v', W', hrun, hown, hgr⟩ := run_append_full (P := Try.prog) (w := w.alloc (.cells #[] 46)) Lab.enc 30 0 46 i0 _ 4 48 Try.underlying30 hi0 hz0 hz1 hz2 rfl (by omega) (by omega) Lab.enc_len Lab.enc_one 0 0 (some ⟨w.heap.size, 0, none⟩) [] (fun h => absurd h (by simp)) _ _ a C cap hsl h0 (by simp; omega) (fun h => by cases h)
  have hrun' : ∀ ty, (Builtin.append_ #[30, 30] ty #[.slice (some ⟨w.heap.size, 0, none⟩) 0 0, .slice (some a) C.length cap]).run Try.prog (w.alloc (.cells #[] 46)) = .ok v' W' := fun ty => hrun
  rw [show [].length + C.length = C.length from Nat.zero_add _, List.nil_append] at hown
  obtain ⟨n, hn'⟩ : ∃ n, C.length = n + 1 := ⟨C.length - 1, by omega⟩
  have hown2 := hown
  rw [hn'] at hown2
  obtain ⟨g, c', rfl⟩ := ownsRow_succ hown2
  rw [← hn'] at hrun hrun' hown
  have HO := Lib.hid hown
  have HGR := Lib.hid hgr
  have HBA := Lib.hid hba
  clear hrun hown hgr hba hsl h hown2 hn' h0
  go_enter Try.func50, Try.ntmps50
  go_wp2_with (at_builtin; refine wl_append (s := .tmp 5) (x := .tmp 6) rfl rfl (hrun' _) ?_; clear hrun')
  go_ret
  have ho : W'.ownsRow w.heap.size 46 4 (.slice (some ⟨g, 0, none⟩) C.length c') C.length (C.flatMap Lab.enc) := own_lower HO.out (by simp)
  exact ⟨g, c', rfl, own_cap ho rfl, ho, HBA.out.grown HGR.out (by simp) (fun q hq => by cases hq)⟩
theorem partL_len {labs : List Lab} {f m : Nat} (h : f + m ≤ labs.length) : (partL labs f m).length = m := by simp [partL]; omega
theorem partL_sl {w : World} {lo hi b off : Nat} {labs : List Lab} {f m : Nat} (h : SlE Lab.enc 4 w lo hi (some ⟨b, off, none⟩) labs) : SlE Lab.enc 4 w lo hi (some ⟨b, off + f * 4, none⟩) (partL labs f m) := fun hl => by
  have h0 : 0 < labs.length := by
    have := hl
    simp [partL] at this
    omega
  obtain ⟨b', off', e, g1, g2, g3, g4⟩ := h h0
  cases e
  refine ⟨b, off + f * 4, rfl, g1, g2, g3, fun i x hx => ?_⟩
  have : labs[f + i]? = some x := by
    unfold partL at hx
    rw [List.getElem?_take] at hx
    split at hx
    · rwa [List.getElem?_drop] at hx
    · cases hx
  have := g4 (f + i) x this
  rwa [show off + (f + i) * 4 = off + f * 4 + i * 4 by omega] at this
theorem part_at {labs : List Lab} {lefts : List Int} {node : Int} {f : Nat} (h : partAt labs lefts node = some f) : ∃ nd : Nat, node = nd ∧ nd < labs.length ∧ lefts.length = labs.length ∧ lefts[nd]? = some (f : Int) ∧ f ≤ nd := by
  unfold partAt at h
  split at h
  · cases h
  · next hc =>
    rw [not_or, not_or] at hc
    obtain ⟨h1, h2, h3⟩ := hc
    have h3 : lefts.length = labs.length := Classical.byContradiction h3
    refine ⟨node.toNat, by omega, by omega, h3, ?_⟩
    split at h
    · cases h
    · next l hl =>
      split at h
      · cases h
      · next h5 =>
        rw [not_or] at h5
        injection h with h
        rw [hl, ← h]
        refine ⟨?_, by omega⟩
        congr 1; omega
theorem nat_flat : ∀ l : List Nat, l.flatMap natE = l.map fun n : Nat => Value.int .i64 (n : Int)
  | [] => rfl
  | a :: l => by rw [List.flatMap_cons, nat_flat l]; rfl
theorem part_box_end {w WX : World} {labs : List Lab} {lefts : List Int} {node : Int} {a : Act} {B : Nat} {x0 x1 x2 : Value} {b : Bool} (h4 : a.tmps.getD 4 undef = .pointer (some ⟨B, 0, none⟩)) (h5 : a.tmps.getD 5 undef = .bool b) (hd : a.defers = [])
    (hk : WX.heap[B]? = some (.cells #[x0, x1, x2] 33 (0, 0))) (hp : PartPost labs lefts node w (.returned (.tuple #[.agg #[x0, x1, x2], .bool b])) WX) : bodyPost Try.prog Try.f19 (PartPost labs lefts node w) .ret a WX := by
  rw [Array.getD_eq_getD_getElem?] at h4 h5
  obtain ⟨e0, e1, e2, -, -, -⟩ := box3 hk
  refine bodyPost_ret (v := .tuple #[.agg #[x0, x1, x2], .bool b]) ?_ hd hp
  simp [results, Try.results19, go_sem, h4, h5, e0, e1, e2]
set_option maxRecDepth 100000 in
set_option maxHeartbeats 6400000 in
theorem part_yes (w : World) (labs : List Lab) (lefts : List Int) (al af ar : Option Addr) (cl cf nr cr : Nat) (node : Int) (f : Nat) (hal : SlE Lab.enc 4 w 0 w.heap.size al labs) (hcl : labs.length ≤ cl) (hf : SlE i64Z 1 w 0 w.heap.size af lefts) (hcf : lefts.length ≤ cf) (hn : labs.length ≤ 1048576) (hp : partAt labs lefts node = some f) :
    Calls Try.prog 19 #[.agg (pBox al labs.length cl af lefts.length cf ar nr cr), .int .i64 node] w (PartPost labs lefts node w) := by
  have HP := Lib.hid hp
  obtain ⟨nd, rfl, h1, h2, h3, h4⟩ := part_at hp
  have hn1 : ¬ (nd : Int) < 0 := by omega
  have hn2 : ¬ (labs.length : Int) ≤ (nd : Int) := by omega
  have hn3 : ((lefts.length : Int) != (labs.length : Int)) = false := by simp [h2]
  have hn4 : ¬ (f : Int) < 0 := by omega
  have hn5 : ¬ (nd : Int) < (f : Int) := by omega
  have hn6 : (nd : Int) < (lefts.length : Int) := by omega
  have hn7 : IntKind.i64.wrap ((nd : Int) + 1) = (nd : Int) + 1 := IntWalk.i64_in _ (by omega)
  have hn0 : (0 : Int) ≤ (nd : Int) := by omega
  obtain ⟨m, hm⟩ : ∃ m, m + f = nd + 1 := ⟨nd + 1 - f, by omega⟩
  have hn8 : IntKind.i64.wrap ((nd : Int) + 1 - (f : Int)) = (m : Int) := by rw [IntWalk.i64_in _ (by omega)]; omega
  obtain ⟨bf, of, ef, -, -, hbf, hcf0⟩ := int_at hf h3
  obtain ⟨bl, ol, el, -, -, hbl, -⟩ := hal (by omega)
  have H2 := Lib.hid h2
  have hff0 := hf
  rw [el] at hal
  rw [ef] at hf
  have hcl1 := partL_sl (f := f) (m := m) hal
  have hclen := partL_len (labs := labs) (f := f) (m := m) (by omega)
  have HCL := fun W (h : Below w.heap.size w W) => Lib.hid (show Calls Try.prog 50 #[.slice (some ⟨bl, ol + f * 4, none⟩) m m] W (CloneL (partL labs f m) W) by
    have := clone_lb W ⟨bl, ol + f * 4, none⟩ m (partL labs f m) (hcl1.up h) (by omega) (by omega)
    rw [hclen] at this
    exact this)
  have hme : nd + 1 - f = m := by omega
  have hb0 := fun o1 o2 => ((Below.refl w.heap.size w).alloc (Nat.le_refl _) o1).alloc (by simp) o2
  obtain ⟨i0, hi, hz0, hz1, hz2⟩ := info_parts info_in
  have hmk := fun W => run_make (P := Try.prog) W 31 3 i0 _ Try.underlying31 hi hz0 .i64 .i64 m m (by omega) (Int.le_refl _) (by rw [hz2]; omega) (by omega)
  rw [hz1, Int.toNat_natCast] at hmk
  obtain ⟨mc, hmc⟩ : ∃ mc, mc = madeCells (Value.int .i64 0).cells (m * 1) := ⟨_, rfl⟩
  rw [← hmc] at hmk
  have hrow : mc = ((List.range m).map fun _ => Value.int .i64 0).toArray := by
    rw [hmc, Nat.mul_one]
    unfold madeCells
    apply Array.ext
    · simp
    · intro i h1 h2; simp [Value.cells, Nat.mod_one]
  have HROW := Lib.hid hrow
  have HM := Lib.hid hm
  clear hp hi hz0 hz1 hz2 hmc hrow h3 hcl1 hal hf h2 hm
  have HFF := Lib.hid hff0
  clear hff0
  subst el
  subst ef
  go_enter Try.func19, Try.ntmps19
  go_wp2_with (go_at_call 50; refine (HCL _ (hb0 _ _)).out.mono ?_; rintro e w1 ⟨g, c', rfl, hc1, hown, hb⟩; obtain ⟨hbx, hbq, hsz, hbw⟩ := two_at hb; obtain ⟨p0, p1, p2, r0, r1, r2⟩ := box3 hbx; obtain ⟨q0, q1, q2, s0, s1, s2⟩ := box3 hbq; have hl1 : w.heap.size < w1.heap.size := (by omega); have hl2 : w.heap.size + 1 < w1.heap.size := (by omega); have HBX := Lib.hid hbx; have HBQ := Lib.hid hbq; have HBW := Lib.hid hbw; have HOW := Lib.hid hown; have HC1 := Lib.hid hc1; clear hbx hbq hbw hown hb)
  have hkB : ∀ k, k ≠ w.heap.size + 1 → k < w1.heap.size → (((w1.setCell ⟨w.heap.size + 1, 0, none⟩ (.slice (some ⟨g, 0, none⟩) m c')).setCell ⟨w.heap.size + 1, 1, none⟩ (.slice (some ⟨w1.heap.size, 0, none⟩) m m)).alloc (.cells mc 3)).heap[k]? = w1.heap[k]? := fun k h1 h2 => by
    rw [Below.heap_alloc _ _ _ (by simpa using h2), Below.heap_setCell _ _ _ k h1, Below.heap_setCell _ _ _ k h1]
  have hbq := Go.Joins.block_setCell (i := 1) (Go.Joins.block_setCell (i := 0) HBQ.out (.slice (some ⟨g, 0, none⟩) m c')) (.slice (some ⟨w1.heap.size, 0, none⟩) m m)
  have hbq2 := (Below.heap_alloc ((w1.setCell ⟨w.heap.size + 1, 0, none⟩ (.slice (some ⟨g, 0, none⟩) m c')).setCell ⟨w.heap.size + 1, 1, none⟩ (.slice (some ⟨w1.heap.size, 0, none⟩) m m)) (.cells mc 3) (w.heap.size + 1) (by simpa using hl2)).trans hbq
  have hgr := heap_alloc_new ((w1.setCell ⟨w.heap.size + 1, 0, none⟩ (.slice (some ⟨g, 0, none⟩) m c')).setCell ⟨w.heap.size + 1, 1, none⟩ (.slice (some ⟨w1.heap.size, 0, none⟩) m m)) (.cells mc 3)
  have hbel : Below w.heap.size w (((w1.setCell ⟨w.heap.size + 1, 0, none⟩ (.slice (some ⟨g, 0, none⟩) m c')).setCell ⟨w.heap.size + 1, 1, none⟩ (.slice (some ⟨w1.heap.size, 0, none⟩) m m)).alloc (.cells mc 3)) := ((HBW.out.setCell (p := ⟨w.heap.size + 1, 0, none⟩) (by show w.heap.size ≤ w.heap.size + 1; omega) _).setCell (p := ⟨w.heap.size + 1, 1, none⟩) (by show w.heap.size ≤ w.heap.size + 1; omega) _).alloc (by simp; omega) _
  have hown0 := HOW.out
  go_name_world W0 hW0
  rw [hW0] at hkB hbq2 hgr hbel
  go_loopw [7, 8, 75] (fun _ _ s75 wr => ∃ i : Nat, i ≤ m ∧ s75 = .int .i64 i ∧ Hid (∀ j, j < i → ∃ l, lefts[f + j]? = some l ∧ badZ f j l = false) ∧
    Hid (RowI wr w1.heap.size m 3 (fun j => .int .i64 (if j < i then ((lefts[f + j]?.getD 0) - (f : Int)) else 0))) ∧ Hid (∀ k, k < w1.heap.size → wr.heap[k]? = W0.heap[k]?) ∧ Hid (Below w.heap.size w wr) ∧ Hid (wr.heap.size = W0.heap.size)) (fun _ _ s75 _ => m - (intOf s75).toNat)
  case atStart =>
    refine ⟨0, Nat.zero_le _, rfl, Lib.hid (fun j h => by omega), ?_, Lib.hid (fun _ _ => rfl), Lib.hid hbel, Lib.hid rfl⟩
    show W0.heap[_]? = _
    have h := hgr
    rw [World.size_setCell, World.size_setCell, HROW.out] at h
    refine h.trans ?_
    congr 4
  case round =>
    obtain ⟨i, hi, rfl, HBAD, HRI, HK, HB, HSZ⟩ := hrel
    have HKB := Lib.hid hkB
    have HOW0 := Lib.hid hown0
    have hbx : wr.heap[w.heap.size + 1]? = some (.cells #[.slice (some ⟨g, 0, none⟩) m c', .slice (some ⟨w1.heap.size, 0, none⟩) m m, .slice none 0 0] 33 (0, 0)) := (HK.out (w.heap.size + 1) hl2).trans hbq2
    obtain ⟨b0, b1, b2, z0, z1, z2⟩ := box3 hbx
    have HBX2 := Lib.hid hbx
    clear hbx q0 q1 q2 s0 s1 s2 p0 p1 p2 r0 r1 r2 hbq hbq2 hgr hbel hkB hown0 HCL hmk
    by_cases hlt : i < m
    · have hM := HM.out
      have h2 := H2.out
      have hlx : f + i < lefts.length := by omega
      have hl := List.getElem?_eq_getElem hlx
      generalize lefts[f + i] = l at hl
      obtain ⟨b, off, e, -, -, hb, hc⟩ := int_at HFF.out hl
      cases e
      rw [← HB.out.cell (p := ⟨_, _, none⟩) hb, ← Nat.add_assoc] at hc
      have c0 := HRI.out.cell hlt
      have f0 := HRI.out.froz i
      have hw2 : IntKind.i64.wrap ((f : Int) + (i : Int)) = (f : Int) + (i : Int) := IntWalk.i64_in _ (by omega)
      have hlt' : (i : Int) < (m : Int) := by omega
      have HL := Lib.hid hl
      clear hl hM h2
      have hbad : badZ f i l = true → ∀ f', partAt labs lefts (nd : Int) = some f' → partOk lefts f' ((nd : Int).toNat + 1 - f') = false := fun hb f' hf' => by
        rw [HP.out] at hf'
        injection hf' with hf'
        subst hf'
        rw [Int.toNat_natCast, hme]
        unfold partOk
        rw [List.all_eq_false]
        exact ⟨i, List.mem_range.2 hlt, by rw [HL.out]; simp [hb]⟩
      have HBD := Lib.hid hbad
      have hB2 := HB.out.setCell (p := ⟨w1.heap.size, i, none⟩) (by show w.heap.size ≤ w1.heap.size; omega) (.int .i64 (wrap64 (l - (f : Int))))
      have HB2 := Lib.hid hB2
      clear hbad hB2
      by_cases h5 : l < (f : Int)
      · go_wp2_with fail
        have hend := fun v0 v1 v2 => part_none_end (B := w.heap.size + 1) (v0 := v0) (v1 := v1) (v2 := v2) HB2.out (by omega) (HBD.out (by simp [badZ, h5]))
        have hbk := Go.Joins.block_setCell (i := 2) (Go.Joins.block_setCell (i := 1) (Go.Joins.block_setCell (i := 0) ((Below.heap_setCell wr ⟨w1.heap.size, i, none⟩ (.int .i64 (wrap64 (l - (f : Int)))) (w.heap.size + 1) (by show w.heap.size + 1 ≠ w1.heap.size; omega)).trans HBX2.out) (.slice none 0 0)) (.slice none 0 0)) (.slice none 0 0)
        have hend := hend (.slice none 0 0) (.slice none 0 0) (.slice none 0 0)
        exact part_box_end (B := w.heap.size + 1) rfl rfl rfl hbk hend
      · by_cases h6 : (f : Int) + (i : Int) < l
        · go_wp2_with fail
          have hend := fun v0 v1 v2 => part_none_end (B := w.heap.size + 1) (v0 := v0) (v1 := v1) (v2 := v2) HB2.out (by omega) (HBD.out (by simp [badZ, h6]))
          have hbk := Go.Joins.block_setCell (i := 2) (Go.Joins.block_setCell (i := 1) (Go.Joins.block_setCell (i := 0) ((Below.heap_setCell wr ⟨w1.heap.size, i, none⟩ (.int .i64 (wrap64 (l - (f : Int)))) (w.heap.size + 1) (by show w.heap.size + 1 ≠ w1.heap.size; omega)).trans HBX2.out) (.slice none 0 0)) (.slice none 0 0)) (.slice none 0 0)
          have hend := hend (.slice none 0 0) (.slice none 0 0) (.slice none 0 0)
          exact part_box_end (B := w.heap.size + 1) rfl rfl rfl hbk hend
        · have hw3 : IntKind.i64.wrap (l - (f : Int)) = l - (f : Int) := IntWalk.i64_in _ (by omega)
          clear HB2
          go_wp2_with fail
          refine ⟨⟨i + 1, by omega, by go_num, Lib.hid fun j hj => ?_, Lib.hid ((HRI.out.set i _).cong fun j hj => ?_), Lib.hid fun k hk => ?_, Lib.hid (HB.out.setCell (p := ⟨w1.heap.size, i, none⟩) (by show w.heap.size ≤ w1.heap.size; omega) _), Lib.hid (by rw [World.size_setCell]; exact HSZ.out)⟩, by simp [intOf]; omega⟩
          · rcases Nat.lt_or_ge j i with h | h
            · exact HBAD.out j h
            · obtain rfl : j = i := by omega
              exact ⟨l, HL.out, by simp [badZ]; omega⟩
          · by_cases e : j = i
            · subst e
              rw [if_pos rfl, if_pos (by omega), HL.out]; rfl
            · rw [if_neg e]
              by_cases e2 : j < i
              · rw [if_pos e2, if_pos (by omega)]
              · rw [if_neg e2, if_neg (by omega)]
          · rw [Below.heap_setCell _ _ _ k (by show k ≠ w1.heap.size; omega)]
            exact HK.out k hk
    · obtain rfl : i = m := by omega
      have hok : partOk lefts f i = true := by
        unfold partOk
        rw [List.all_eq_true]
        intro j hj
        obtain ⟨l, e, hb⟩ := HBAD.out j (List.mem_range.1 hj)
        rw [e]; simp [hb]
      have hNl : (partN lefts f i).length = i := by
        have := HM.out
        have := H2.out
        simp [partN]; omega
      have hNat : ∀ j (v : Nat), (partN lefts f i)[j]? = some v → j < i ∧ ∃ l, lefts[f + j]? = some l ∧ l - (f : Int) = (v : Int) ∧ v ≤ j := fun j v hv => by
        have hj : j < i := by rw [← hNl]; exact (List.getElem?_eq_some_iff.1 hv).1
        obtain ⟨l, e, hb⟩ := HBAD.out j hj
        refine ⟨hj, l, e, ?_⟩
        unfold partN at hv
        rw [List.getElem?_map, List.getElem?_take, if_pos hj, List.getElem?_drop, e] at hv
        simp only [Option.map_some, Option.some.injEq] at hv
        simp [badZ] at hb
        omega
      have hrt := fun (W : World) (hW : W.heap[w1.heap.size]? = wr.heap[w1.heap.size]?) => Lib.hid (show Calls Try.prog 46 #[.slice (some ⟨w1.heap.size, 0, none⟩) i i] W (RootsPost (partN lefts f i) W) by
        have hri := HRI.out.keep hW
        have := roots_c W (some ⟨w1.heap.size, 0, none⟩) i (partN lefts f i) (fun _ => ⟨w1.heap.size, 0, rfl, Nat.zero_le _, hri.lt, hri.lt, fun j v hv k u hk => by
          obtain ⟨hj, l, e, e2, -⟩ := hNat j v hv
          have := hri.cell hj
          rw [if_pos hj, e] at this
          match k, hk with
          | 0, hk =>
            simp only [List.getElem?_cons_zero, Option.some.injEq] at hk
            subst hk
            rw [Nat.mul_one, Nat.zero_add, Nat.add_zero]
            rw [this, ← e2]; rfl⟩) (fun j v hv => by
          obtain ⟨hj, -, -, -, hle⟩ := hNat j v hv
          omega) (by have := HM.out; omega)
        rw [hNl] at this
        exact this)
      have hcells : ((List.range i).map fun j => Value.int .i64 (if j < i then ((lefts[f + j]?.getD 0) - (f : Int)) else 0)) = (partN lefts f i).flatMap natE := by
        rw [nat_flat]
        apply List.ext_getElem?
        intro j
        rw [List.getElem?_map, List.getElem?_map]
        rcases Nat.lt_or_ge j i with hj | hj
        · obtain ⟨v, hv⟩ : ∃ v, (partN lefts f i)[j]? = some v := ⟨_, List.getElem?_eq_getElem (by omega)⟩
          obtain ⟨-, l, e, e2, -⟩ := hNat j v hv
          rw [hv, List.getElem?_range hj, Option.map_some, Option.map_some, if_pos hj, e]
          simp only [Option.getD_some, e2]
        · rw [List.getElem?_eq_none (by simpa using hj), List.getElem?_eq_none (by omega)]; rfl
      have hgL := own_knd HOW0.out rfl
      have hne : g ≠ w.heap.size + 1 := knd_ne hgL.2.2 ⟨_, HBQ.out⟩ (by decide)
      have hgk : wr.heap[g]? = w1.heap[g]? := (HK.out g hgL.2.1).trans (HKB.out g hne hgL.2.1)
      have HROWS := Lib.hid (And.intro hcells (And.intro hgL (And.intro hne (And.intro hgk hok))))
      have hcc : i ≤ c' := by omega
      have hlr : w1.heap.size < wr.heap.size := HRI.out.lt
      clear hcells hgL hne hgk hok hNat
      go_wp2_with (first
        | (go_at_call 44; refine (clip_lb _ _ _ _ hcc).mono ?_; rintro e w2 ⟨rfl, rfl⟩)
        | (go_at_call 46; refine (hrt _ (Below.heap_setCell _ _ _ _ (by show w1.heap.size ≠ w.heap.size + 1; omega))).out.mono ?_; rintro e w5 ⟨ar2, rfl, hor, hbr⟩; have hb5 := (hbr.block (w.heap.size + 1) (by rw [World.size_setCell]; omega)).trans (Go.Joins.block_setCell (i := 0) HBX2.out (.slice (some ⟨g, 0, none⟩) i i)); obtain ⟨q0, q1, q2, s0, s1, s2⟩ := box3 (show w5.heap[w.heap.size + 1]? = some (.cells #[.slice (some ⟨g, 0, none⟩) i i, .slice (some ⟨w1.heap.size, 0, none⟩) i i, .slice none 0 0] 33 (0, 0)) from hb5); have HB5 := Lib.hid hb5; have HOR := Lib.hid hor; have HBR := Lib.hid hbr; clear hb5 hor hbr))
      have hbk := Go.Joins.block_setCell (i := 2) (Go.Joins.block_setCell (i := 1) (Go.Joins.block_setCell (i := 0) (Go.Joins.block_setCell (i := 2) HB5.out (.slice ar2 (rootsL (partN lefts f i)).length (rootsL (partN lefts f i)).length)) (.slice (some ⟨g, 0, none⟩) i i)) (.slice (some ⟨w1.heap.size, 0, none⟩) i i)) (.slice ar2 (rootsL (partN lefts f i)).length (rootsL (partN lefts f i)).length)
      refine part_box_end (B := w.heap.size + 1) rfl rfl rfl hbk ?_
      obtain ⟨hcells, hgL, hne, hgk, hok⟩ := HROWS.out
      have hset : ∀ (W : World) (v0 v1 v2 v3 : Value) (k : Nat), k ≠ w.heap.size + 1 → ((((W.setCell ⟨w.heap.size + 1, 2, none⟩ v0).setCell ⟨w.heap.size + 1, 0, none⟩ v1).setCell ⟨w.heap.size + 1, 1, none⟩ v2).setCell ⟨w.heap.size + 1, 2, none⟩ v3).heap[k]? = W.heap[k]? := fun W v0 v1 v2 v3 k hk => by
        rw [Below.heap_setCell _ _ _ k hk, Below.heap_setCell _ _ _ k hk, Below.heap_setCell _ _ _ k hk, Below.heap_setCell _ _ _ k hk]
      have hk5 : ∀ k, k ≠ w.heap.size + 1 → k < wr.heap.size → w5.heap[k]? = wr.heap[k]? := fun k h1 h2 => by
        rw [HBR.out.block k (by rw [World.size_setCell]; exact h2), Below.heap_setCell _ _ _ k h1]
      have hb5 : Below w.heap.size w w5 := (HB.out.setCell (p := ⟨w.heap.size + 1, 0, none⟩) (by show w.heap.size ≤ w.heap.size + 1; omega) _).trans (HBR.out.mono (by rw [World.size_setCell]; exact HB.out.size))
      refine ⟨(((hb5.setCell (p := ⟨w.heap.size + 1, 2, none⟩) (by show w.heap.size ≤ w.heap.size + 1; omega) _).setCell (p := ⟨w.heap.size + 1, 0, none⟩) (by show w.heap.size ≤ w.heap.size + 1; omega) _).setCell (p := ⟨w.heap.size + 1, 1, none⟩) (by show w.heap.size ≤ w.heap.size + 1; omega) _).setCell (p := ⟨w.heap.size + 1, 2, none⟩) (by show w.heap.size ≤ w.heap.size + 1; omega) _, .inl ⟨f, HP.out, by rw [Int.toNat_natCast, hme]; exact hok, some ⟨g, 0, none⟩, some ⟨w1.heap.size, 0, none⟩, ar2, i, by rw [Int.toNat_natCast, hme], rfl, ?_, ?_, ?_⟩⟩
      · have h1 := own_clip HOW0.out (cap' := i) (by omega) hcc
        rw [hclen] at h1
        refine h1.keep1 (by simp; omega) fun k hk hkn => ?_
        have hkk := knd_ne hkn ⟨_, HBQ.out⟩ (by decide)
        obtain ⟨cs, hcs⟩ := hkn
        have hlt1 : k < w1.heap.size := (Array.getElem?_eq_some_iff.1 (show w1.heap[k]? = _ from hcs)).1
        rw [hset _ _ _ _ _ k hkk, hk5 k hkk (by omega), HK.out k hlt1, HKB.out k hkk hlt1]
      · have hlen : ((partN lefts f i).flatMap natE).length = i := by rw [nat_flat, List.length_map, hNl]
        refine ⟨by rw [hlen, Nat.mul_one], Nat.le_refl _, fun _ => ⟨w1.heap.size, _, rfl, by omega, ((hset _ _ _ _ _ _ (by omega)).trans (hk5 _ (by omega) hlr)).trans HRI.out, by simp, ?_⟩⟩
        rw [← hcells]
        exact List.take_of_length_le (by simp)
      · refine HOR.out.keep1 (by rw [World.size_setCell]; exact HB.out.size) fun k hk hkn => hset _ _ _ _ _ k ?_
        rw [World.size_setCell] at hk
        omega
theorem part_c (w : World) (labs : List Lab) (lefts : List Int) (al af ar : Option Addr) (cl cf nr cr : Nat) (node : Int) (hal : SlE Lab.enc 4 w 0 w.heap.size al labs) (hcl : labs.length ≤ cl) (hf : SlE i64Z 1 w 0 w.heap.size af lefts) (hcf : lefts.length ≤ cf) (hn : labs.length ≤ 1048576) :
    Calls Try.prog 19 #[.agg (pBox al labs.length cl af lefts.length cf ar nr cr), .int .i64 node] w (PartPost labs lefts node w) := by
  cases hp : partAt labs lefts node with
  | none => exact part_no w labs lefts al af ar cl cf nr cr node hf hp
  | some f => exact part_yes w labs lefts al af ar cl cf nr cr node f hal hcl hf hcf hn hp
end Go.Proofs.Ytmhkacafilpliaa
