/-
  inarchref19.Part: of whatever labels and numbers whatever node's part, as the document has it. Conditions: they lie in memory, at most 2^20 of them.
-/
import Derived.Test.YtmhkacafilpliaaJQ
namespace Go.Proofs.Ytmhkacafilpliaa
open Go.RowKit Go.Sort Go.Shelf

/-- What inarchref19.Part leaves. -/
def RPartPost (labs : List Lab) (lefts : List Int) (node : Int) (w : World) (e : Ending) (w' : World) : Prop :=
  Below w.heap.size w w' ∧ ((∃ f, partAt labs lefts node = some f ∧ partOk lefts f (node.toNat + 1 - f) = true ∧ ∃ al cl af cf ar cr m, m = node.toNat + 1 - f ∧
      e = .returned (.tuple #[.agg #[.slice al m cl, .slice af m cf, .slice ar (rootsL (partN lefts f m)).length cr], .bool true]) ∧
      SlE Lab.enc 4 w' 0 w'.heap.size al (partL labs f m) ∧ SlE natE 1 w' 0 w'.heap.size af (partN lefts f m) ∧ SlE natE 1 w' 0 w'.heap.size ar (rootsL (partN lefts f m))) ∨
    ((∀ f, partAt labs lefts node = some f → partOk lefts f (node.toNat + 1 - f) = false) ∧ e = .returned (.tuple #[.agg #[.slice none 0 0, .slice none 0 0, .slice none 0 0], .bool false])))
set_option maxRecDepth 100000 in
set_option maxHeartbeats 3200000 in
theorem rpart_no (w : World) (labs : List Lab) (lefts : List Int) (al af ar : Option Addr) (cl cf nr cr : Nat) (node : Int) (hf : SlE i64Z 1 w 0 w.heap.size af lefts) (hp : partAt labs lefts node = none) :
    Calls Try.prog 20 #[.agg (pBox al labs.length cl af lefts.length cf ar nr cr), .int .i64 node] w (RPartPost labs lefts node w) := by
  have hno : ∀ f, partAt labs lefts node = some f → partOk lefts f (node.toNat + 1 - f) = false := fun f h => by rw [hp] at h; cases h
  have HNO := Lib.hid hno
  clear hno
  have h0 : ∀ {w2 : World}, w2 = ((w.alloc (.cells (pBox al labs.length cl af lefts.length cf ar nr cr) 38)).alloc (.cells #[.slice none 0 0, .slice none 0 0, .slice none 0 0] 38)).alloc (.cells #[.slice none 0 0, .slice none 0 0, .slice none 0 0] 38) → Below w.heap.size w w2 := fun e => by rw [e]; exact (((Below.refl _ _).alloc (Nat.le_refl _) _).alloc (by simp) _).alloc (by simp; omega) _
  have HB0 := Lib.hid (h0 rfl)
  clear h0
  unfold partAt at hp
  by_cases h1 : node < 0
  · clear hp hf
    go_enter Try.func20, Try.ntmps20
    go_wp2_with fail
    exact bodyPost_ret (v := .tuple #[.agg #[.slice none 0 0, .slice none 0 0, .slice none 0 0], .bool false]) (by simp [results, Try.results20, go_sem]) rfl ⟨HB0.out, .inr ⟨HNO.out, rfl⟩⟩
  by_cases h2 : (labs.length : Int) ≤ node
  · clear hp hf
    go_enter Try.func20, Try.ntmps20
    go_wp2_with fail
    exact bodyPost_ret (v := .tuple #[.agg #[.slice none 0 0, .slice none 0 0, .slice none 0 0], .bool false]) (by simp [results, Try.results20, go_sem]) rfl ⟨HB0.out, .inr ⟨HNO.out, rfl⟩⟩
  by_cases h3 : lefts.length = labs.length
  · have hnn : node.toNat < lefts.length := by omega
    rw [if_neg (by rintro (h | h | h) <;> omega)] at hp
    have hl : lefts[node.toNat]? = some lefts[node.toNat] := List.getElem?_eq_getElem hnn
    generalize lefts[node.toNat] = f at hl
    rw [hl] at hp
    simp only at hp
    have h5 : f < 0 ∨ node < f := by
      apply Classical.byContradiction
      intro h
      rw [if_neg h] at hp; cases hp
    obtain ⟨b, off, e, -, -, hb, hc⟩ := int_at hf hl
    have hnb : node < (lefts.length : Int) := by omega
    have hneq : ((lefts.length : Int) != (labs.length : Int)) = false := by simp [h3]
    have H3 := Lib.hid h3
    have hb1 : b < w.heap.size + 1 := by omega
    have hb2 : b < w.heap.size + 1 + 1 := by omega
    subst e
    clear hp hf hl h3
    by_cases h6 : f < 0
    · go_enter Try.func20, Try.ntmps20
      go_wp2_with fail
      exact bodyPost_ret (v := .tuple #[.agg #[.slice none 0 0, .slice none 0 0, .slice none 0 0], .bool false]) (by simp [results, Try.results20, go_sem]) rfl ⟨HB0.out, .inr ⟨HNO.out, rfl⟩⟩
    · have h7 : node < f := by omega
      clear h5
      go_enter Try.func20, Try.ntmps20
      go_wp2_with fail
      exact bodyPost_ret (v := .tuple #[.agg #[.slice none 0 0, .slice none 0 0, .slice none 0 0], .bool false]) (by simp [results, Try.results20, go_sem]) rfl ⟨HB0.out, .inr ⟨HNO.out, rfl⟩⟩
  · have hneq : ((lefts.length : Int) != (labs.length : Int)) = true := by simp; omega
    clear hp hf h3
    go_enter Try.func20, Try.ntmps20
    go_wp2_with fail
    exact bodyPost_ret (v := .tuple #[.agg #[.slice none 0 0, .slice none 0 0, .slice none 0 0], .bool false]) (by simp [results, Try.results20, go_sem]) rfl ⟨HB0.out, .inr ⟨HNO.out, rfl⟩⟩

theorem rpart_box_end {w WX : World} {labs : List Lab} {lefts : List Int} {node : Int} {a : Act} {B : Nat} {x0 x1 x2 : Value} {b : Bool} (h4 : a.tmps.getD 4 undef = .pointer (some ⟨B, 0, none⟩)) (h5 : a.tmps.getD 5 undef = .bool b) (hd : a.defers = [])
    (hk : WX.heap[B]? = some (.cells #[x0, x1, x2] 38 (0, 0))) (hp : RPartPost labs lefts node w (.returned (.tuple #[.agg #[x0, x1, x2], .bool b])) WX) : bodyPost Try.prog Try.f20 (RPartPost labs lefts node w) .ret a WX := by
  rw [Array.getD_eq_getD_getElem?] at h4 h5
  obtain ⟨e0, e1, e2, -, -, -⟩ := box3 hk
  refine bodyPost_ret (v := .tuple #[.agg #[x0, x1, x2], .bool b]) ?_ hd hp
  simp [results, Try.results20, go_sem, h4, h5, e0, e1, e2]
theorem partL_succ {labs : List Lab} {f j : Nat} {x : Lab} (h : labs[f + j]? = some x) : partL labs f (j + 1) = partL labs f j ++ [x] := by
  unfold partL
  rw [List.take_add_one, List.getElem?_drop, h]; rfl
theorem partN_succ {lefts : List Int} {f j : Nat} {l : Int} (h : lefts[f + j]? = some l) : partN lefts f (j + 1) = partN lefts f j ++ [(l - (f : Int)).toNat] := by
  unfold partN
  rw [List.take_add_one, List.getElem?_drop, h, List.map_append]; rfl
theorem partN_len {lefts : List Int} {f m : Nat} (h : f + m ≤ lefts.length) : (partN lefts f m).length = m := by simp [partN]; omega
set_option maxRecDepth 100000 in
set_option maxHeartbeats 6400000 in
theorem rpart_yes (w : World) (labs : List Lab) (lefts : List Int) (al af ar : Option Addr) (cl cf nr cr : Nat) (node : Int) (f : Nat) (hal : SlE Lab.enc 4 w 0 w.heap.size al labs) (hf : SlE i64Z 1 w 0 w.heap.size af lefts) (hn : labs.length ≤ 1048575) (hp : partAt labs lefts node = some f) :
    Calls Try.prog 20 #[.agg (pBox al labs.length cl af lefts.length cf ar nr cr), .int .i64 node] w (RPartPost labs lefts node w) := by
  have HP := Lib.hid hp
  obtain ⟨nd, rfl, h1, h2, h3, h4⟩ := part_at hp
  have hn1 : ¬ (nd : Int) < 0 := by omega
  have hn2 : ¬ (labs.length : Int) ≤ (nd : Int) := by omega
  have hn3 : ((lefts.length : Int) != (labs.length : Int)) = false := by simp [h2]
  have hn4 : ¬ (f : Int) < 0 := by omega
  have hn5 : ¬ (nd : Int) < (f : Int) := by omega
  have hn6 : (nd : Int) < (lefts.length : Int) := by omega
  have hn0 : (0 : Int) ≤ (nd : Int) := by omega
  obtain ⟨m, hm⟩ : ∃ m, m + f = nd + 1 := ⟨nd + 1 - f, by omega⟩
  have hme : nd + 1 - f = m := by omega
  obtain ⟨bf, of, ef, -, -, hbf, hcf0⟩ := int_at hf h3
  obtain ⟨bl, ol, el, -, -, hbl, -⟩ := hal (by omega)
  have H2 := Lib.hid h2
  have hal0 := hal
  have hff0 := hf
  rw [el] at hal0
  rw [ef] at hff0
  have HAL := Lib.hid hal0
  have HFF := Lib.hid hff0
  have HM := Lib.hid hm
  clear hp h3 hal hf h2 hm hal0 hff0
  subst el
  subst ef
  have hbf1 : bf < w.heap.size + 1 := by omega
  have hbf2 : bf < w.heap.size + 1 + 1 := by omega
  go_enter Try.func20, Try.ntmps20
  go_wp2_with fail
  go_loopw [8] (fun s8 wr => ∃ j : Nat, j ≤ m ∧ s8 = .int .i64 ((f + j : Nat) : Int) ∧ Hid (∀ i, i < j → ∃ l, lefts[f + i]? = some l ∧ badZ f i l = false) ∧
    Hid (RefI w.heap.size (w.heap.size + 1 + 1) (partL labs f j) (partN lefts f j) wr) ∧ Hid (wr.heap[w.heap.size]? = some (.cells (pBox (some ⟨bl, ol, none⟩) labs.length cl (some ⟨bf, of, none⟩) lefts.length cf ar nr cr) 38 (0, 0))) ∧
    Hid (wr.heap[w.heap.size + 1]? = some (.cells #[.slice none 0 0, .slice none 0 0, .slice none 0 0] 38 (0, 0))) ∧ Hid (Below w.heap.size w wr)) (fun s8 _ => nd + 1 - (intOf s8).toNat)
  case atStart =>
    have hb3 := (((Below.refl w.heap.size w).alloc (Nat.le_refl _) (.cells (pBox (some ⟨bl, ol, none⟩) labs.length cl (some ⟨bf, of, none⟩) lefts.length cf ar nr cr) 38)).alloc (by simp) (.cells #[.slice none 0 0, .slice none 0 0, .slice none 0 0] 38)).alloc (by simp; omega) (.cells #[.slice none 0 0, .slice none 0 0, .slice none 0 0] 38)
    obtain ⟨t1, t2, t3, -, -⟩ := three_at (Below.refl (((w.alloc (.cells (pBox (some ⟨bl, ol, none⟩) labs.length cl (some ⟨bf, of, none⟩) lefts.length cf ar nr cr) 38)).alloc (.cells #[.slice none 0 0, .slice none 0 0, .slice none 0 0] 38)).alloc (.cells #[.slice none 0 0, .slice none 0 0, .slice none 0 0] 38)).heap.size _)
    exact ⟨0, Nat.zero_le _, rfl, Lib.hid (fun i h => by omega), Lib.hid ⟨none, 0, none, 0, t3, World.ownsRow_nil _ _ _ _, World.ownsRow_nil _ _ _ _⟩, Lib.hid t1, Lib.hid t2, Lib.hid hb3⟩
  case round =>
    obtain ⟨j, hj, rfl, HBAD, HI, HBX, HBQ, HB⟩ := hrel
    obtain ⟨q0, q1, q2, -, -, -⟩ := box3 HBX.out
    have hWX : w.heap.size < wr.heap.size := (Array.getElem?_eq_some_iff.1 HBX.out).1
    have hWQ : w.heap.size + 1 < wr.heap.size := (Array.getElem?_eq_some_iff.1 HBQ.out).1
    have hWI : w.heap.size + 1 + 1 < wr.heap.size := HI.out.lt
    obtain ⟨y0, y1, y2, z0, z1, z2⟩ := box3 HBQ.out
    by_cases hlt : j < m
    · have hM := HM.out
      have h2 := H2.out
      have hlx : f + j < lefts.length := by omega
      have hlab : f + j < labs.length := by omega
      have hl := List.getElem?_eq_getElem hlx
      generalize lefts[f + j] = l at hl
      have hx := List.getElem?_eq_getElem hlab
      generalize labs[f + j] = lb at hx
      obtain ⟨b, off, e, -, -, hb, hc⟩ := int_at HFF.out hl
      cases e
      rw [← HB.out.cell (p := ⟨_, _, none⟩) hb] at hc
      obtain ⟨b', off', e, -, -, hb', c0, c1, c2, c3⟩ := lab_at HAL.out hx
      cases e
      rw [← HB.out.cell (p := ⟨_, _, none⟩) hb'] at c0 c1 c2 c3
      have hbr : bf < wr.heap.size := by omega
      have hbr' : bl < wr.heap.size := by omega
      have hlt1 : ((f + j : Nat) : Int) ≤ (nd : Int) := by omega
      have hlt2 : ((f + j : Nat) : Int) < (lefts.length : Int) := by omega
      have hlt3 : ((f + j : Nat) : Int) < (labs.length : Int) := by omega
      have hlt0 : (0 : Int) ≤ ((f + j : Nat) : Int) := by omega
      have hcast : ((f + j : Nat) : Int) = (f : Int) + (j : Int) := by omega
      have hbad : badZ f j l = true → ∀ f', partAt labs lefts (nd : Int) = some f' → partOk lefts f' ((nd : Int).toNat + 1 - f') = false := fun hb f' hf' => by
        rw [HP.out] at hf'
        injection hf' with hf'
        subst hf'
        rw [Int.toNat_natCast, hme]
        unfold partOk
        rw [List.all_eq_false]
        exact ⟨j, List.mem_range.2 hlt, by rw [hl]; simp [hb]⟩
      have HBD := Lib.hid hbad
      have HL := Lib.hid hl
      have HX := Lib.hid hx
      obtain ⟨fj, hfj⟩ : ∃ fj, fj = f + j := ⟨_, rfl⟩
      rw [← hfj] at hc c0 c1 c2 c3 hlt1 hlt2 hlt3 hlt0 hcast
      rw [← hfj]
      have HFJ := Lib.hid hfj
      clear hbad hl hx hM h2 hlx hlab hfj
      by_cases h5 : l < (f : Int)
      · have HBDD := Lib.hid (HBD.out (by simp [badZ, h5]))
        clear hcast
        go_wp2_with fail
        have hbk := Go.Joins.block_setCell (i := 2) (Go.Joins.block_setCell (i := 1) (Go.Joins.block_setCell (i := 0) HBQ.out (.slice none 0 0)) (.slice none 0 0)) (.slice none 0 0)
        exact rpart_box_end (B := w.heap.size + 1) rfl rfl rfl hbk ⟨((HB.out.setCell (p := ⟨w.heap.size + 1, 0, none⟩) (by show w.heap.size ≤ w.heap.size + 1; omega) _).setCell (p := ⟨w.heap.size + 1, 1, none⟩) (by show w.heap.size ≤ w.heap.size + 1; omega) _).setCell (p := ⟨w.heap.size + 1, 2, none⟩) (by show w.heap.size ≤ w.heap.size + 1; omega) _, .inr ⟨HBDD.out, rfl⟩⟩
      · by_cases h6 : (fj : Int) < l
        · have HBDD := Lib.hid (HBD.out (by simp [badZ, ← hcast, h6]))
          clear hcast
          go_wp2_with fail
          have hbk := Go.Joins.block_setCell (i := 2) (Go.Joins.block_setCell (i := 1) (Go.Joins.block_setCell (i := 0) HBQ.out (.slice none 0 0)) (.slice none 0 0)) (.slice none 0 0)
          exact rpart_box_end (B := w.heap.size + 1) rfl rfl rfl hbk ⟨((HB.out.setCell (p := ⟨w.heap.size + 1, 0, none⟩) (by show w.heap.size ≤ w.heap.size + 1; omega) _).setCell (p := ⟨w.heap.size + 1, 1, none⟩) (by show w.heap.size ≤ w.heap.size + 1; omega) _).setCell (p := ⟨w.heap.size + 1, 2, none⟩) (by show w.heap.size ≤ w.heap.size + 1; omega) _, .inr ⟨HBDD.out, rfl⟩⟩
        · obtain ⟨d, hd⟩ : ∃ d : Nat, (d : Int) = l - (f : Int) := ⟨(l - (f : Int)).toNat, by omega⟩
          have hw3 : IntKind.i64.wrap (l - (f : Int)) = (d : Int) := by rw [← hd, IntWalk.i64_in _ (by omega)]
          have hwj : IntKind.i64.wrap ((fj : Int) + 1) = ((fj + 1 : Nat) : Int) := by rw [IntWalk.i64_in _ (by omega)]; omega
          have hsL := partL_succ (j := j) HX.out
          have hsN := partN_succ (j := j) HL.out
          rw [← hd, Int.toNat_natCast] at hsN
          have hlenL : (partL labs f j).length = j := partL_len (by have := HFJ.out; omega)
          have hlenN : (partN lefts f j).length = j := partN_len (by have := HFJ.out; omega)
          obtain ⟨al2, cl2, af2, cf2, h1, h2, h3⟩ := HI.out
          generalize partL labs f j = LB at *
          generalize partN lefts f j = LF at *
          obtain ⟨i3, hi3, hy0, hy1, hy2⟩ := info_parts info_in
          obtain ⟨i1, hi1, hx0, hx1, hx2⟩ := info_parts info_rl
          have hnV : w.heap.size ≤ wr.heap.size := HB.out.size
          have hB : w.heap.size ≤ w.heap.size + 1 + 1 := by omega
          have pp0 : wr.cell? ⟨w.heap.size + 1 + 1, 0, none⟩ = some (.slice al2 LB.length cl2) := by simp [World.cell?, h1]
          have hle : lb.enc.toArray = #[.bool lb.kd, .string lb.key, .int .u8 lb.k, .string lb.t] := rfl
          have hbd : Below wr.heap.size wr wr.drew := (Below.refl _ _).drew
          obtain ⟨v1, w4, hrun1, hown1, hgr1, -⟩ := run_append_own (P := Try.prog) (wr.drew.alloc (.cells lb.enc.toArray 78)) w.heap.size 36 36 78 i1 _ 4 48 Try.underlying36 hi1 hx0 hx1 hx2 rfl (by decide) _ _ _ (own_below h2 (hbd.alloc (Nat.le_refl _) _)) ⟨wr.heap.size, 0, none⟩ 1 1 lb.enc rfl (fun j u hu => by
            have := heap_alloc_new wr.drew (.cells lb.enc.toArray 78)
            rw [show wr.drew.heap.size = wr.heap.size from rfl] at this
            rw [add_none, World.cell?, this]
            simpa using hu) (Lab.enc_one _) (by simp only [maxLen]; omega) (by omega) (by rw [World.size_alloc]; show w.heap.size ≤ wr.heap.size + 1; omega)
          obtain ⟨g1, k1, rfl⟩ := ownsRow_succ hown1
          obtain ⟨s1, s2, s3, s4, s5, s6⟩ := app_store (W := wr.drew) (j := 0) h1 hB (by decide) (own_below h2 hbd) hnV hown1 hgr1
          have hk4 : ∀ k, k < wr.heap.size → (∀ q, Value.ownBlock (.slice al2 LB.length cl2) = some q → k ≠ q) → w4.heap[k]? = wr.heap[k]? := fun k e1 e2 => (hgr1.block k (by rw [World.size_alloc]; show k < wr.heap.size + 1; omega) (fun e => e2 k e.symm rfl)).trans (Below.heap_alloc wr.drew _ k e1)
          have hlow : ∀ k, k < w.heap.size → ∀ q, Value.ownBlock (.slice al2 LB.length cl2) = some q → k ≠ q := fun k e1 q hq => by have := (own_knd h2 hq).1; omega
          have hbox4 := (hk4 w.heap.size hWX (fun q hq => (knd_ne (own_knd h2 hq).2.2 ⟨_, HBX.out⟩ (by decide)).symm)).trans HBX.out
          obtain ⟨t0, t1, t2, -, -, -⟩ := box3 hbox4
          have hc4 := (World.cell?_of_block (a := ⟨bf, of + fj, none⟩) (hk4 bf hbr (hlow bf hbf))).trans hc
          have hs4 : wr.heap.size ≤ w4.heap.size := by have := hgr1.size; rw [World.size_alloc] at this; have e : wr.drew.heap.size = wr.heap.size := rfl; omega
          have p40 : w4.cell? ⟨w.heap.size + 1 + 1, 0, none⟩ = some (.slice al2 LB.length cl2) := by simp [World.cell?, s1]
          have f40 : w4.frozen? ⟨w.heap.size + 1 + 1, 0, none⟩ = false := by simp [World.frozen?, s1]
          have p41 : w4.cell? ⟨w.heap.size + 1 + 1, 1, none⟩ = some (.slice af2 LF.length cf2) := by simp [World.cell?, s1]
          have hB4 : w.heap.size + 1 + 1 < w4.heap.size := (Array.getElem?_eq_some_iff.1 s1).1
          have hX4 : w.heap.size < w4.heap.size := by omega
          have hbf4 : bf < w4.heap.size := by omega
          obtain ⟨w5, hw5⟩ : ∃ w5, w5 = w4.setCell ⟨w.heap.size + 1 + 1, 0, none⟩ (.slice (some ⟨g1, 0, none⟩) (LB.length + 1) k1) := ⟨_, rfl⟩
          rw [← hw5] at s2 s3 s4 s5 s6
          have e5 : w5.heap.size = w4.heap.size := by rw [hw5]; simp
          have hrl5 : w5.ownsRow w.heap.size 3 1 (.slice af2 LF.length cf2) LF.length (LF.flatMap natE) := by
            rcases h3.2 with ⟨e1, e2⟩ | ⟨q, cap, cur, e1, e2, e3, e4⟩
            · exact ⟨h3.1, .inl ⟨e1, e2⟩⟩
            · exact ⟨h3.1, .inr ⟨q, cap, cur, e1, e2, (s4 q _ ⟨_, e3⟩ (by decide) (knd_ne ⟨_, e3⟩ ⟨_, h1⟩ (by decide))).trans e3, e4⟩⟩
          have hn5 : w.heap.size ≤ w5.heap.size := Nat.le_trans hnV s6.size
          have hbd5 : Below w5.heap.size w5 w5.drew := (Below.refl _ _).drew
          obtain ⟨v2, w6, hrun2, hown2, hgr2, -⟩ := run_append_own (P := Try.prog) (w5.drew.alloc (.cells #[.int .i64 (d : Int)] 3)) w.heap.size 31 31 3 i3 (.int .i64 0) 1 8 Try.underlying31 hi3 hy0 hy1 hy2 rfl (by decide) _ _ _ (own_below hrl5 (hbd5.alloc (Nat.le_refl _) _)) ⟨w4.heap.size, 0, none⟩ 1 1 [.int .i64 (d : Int)] rfl (by rw [← e5]; exact cell_one_new w5.drew _ _) (by simp [Value.oneCell']) (by simp only [maxLen]; omega) (by omega) (by rw [World.size_alloc]; show w.heap.size ≤ w5.heap.size + 1; omega)
          obtain ⟨g2, k2, rfl⟩ := ownsRow_succ hown2
          obtain ⟨t1', t2', t3', t4', t5', t6'⟩ := app_store (W := w5.drew) (j := 1) s2 hB (by decide) (own_below hrl5 hbd5) hn5 hown2 hgr2
          have p61 : w6.cell? ⟨w.heap.size + 1 + 1, 1, none⟩ = some (.slice af2 LF.length cf2) := by simp [World.cell?, t1']
          have f61 : w6.frozen? ⟨w.heap.size + 1 + 1, 1, none⟩ = false := by simp [World.frozen?, t1']
          have hold : ∀ k, Knd wr k 38 → k ≠ w.heap.size + 1 + 1 → (w6.setCell ⟨w.heap.size + 1 + 1, 1, none⟩ (.slice (some ⟨g2, 0, none⟩) (LF.length + 1) k2)).heap[k]? = wr.heap[k]? := fun k hk e => by
            have e1 := s4 k _ hk (by decide) e
            exact (t4' k _ (by obtain ⟨c, hc⟩ := hk; exact ⟨c, e1.trans hc⟩) (by decide) e).trans e1
          have hown3 : (w6.setCell ⟨w.heap.size + 1 + 1, 1, none⟩ (.slice (some ⟨g2, 0, none⟩) (LF.length + 1) k2)).ownsRow w.heap.size 78 4 (.slice (some ⟨g1, 0, none⟩) (LB.length + 1) k1) (LB.length + 1) (LB.flatMap Lab.enc ++ lb.enc) := by
            rcases s3.2 with ⟨e1, e2⟩ | ⟨q, cap, cur, e1, e2, e3, e4⟩
            · omega
            · exact ⟨s3.1, .inr ⟨q, cap, cur, e1, e2, (t4' q _ ⟨_, e3⟩ (by decide) (knd_ne ⟨_, e3⟩ ⟨_, s2⟩ (by decide))).trans e3, e4⟩⟩
          have hfin : RefI w.heap.size (w.heap.size + 1 + 1) (LB ++ [lb]) (LF ++ [d]) (w6.setCell ⟨w.heap.size + 1 + 1, 1, none⟩ (.slice (some ⟨g2, 0, none⟩) (LF.length + 1) k2)) := by
            refine ⟨some ⟨g1, 0, none⟩, k1, some ⟨g2, 0, none⟩, k2, ?_, ?_, ?_⟩
            · rw [t2']; simp
            · rw [List.flatMap_append, List.length_append]; simpa using hown3
            · rw [List.flatMap_append, List.length_append]; simpa using t3'
          rw [← hsL, ← hsN] at hfin
          have HFIN := Lib.hid hfin
          have HBF := Lib.hid (HB.out.trans ((hbd.mono hnV).trans (s6.trans ((hbd5.mono hn5).trans t6'))))
          have HX1 := Lib.hid ((hold w.heap.size ⟨_, HBX.out⟩ (by omega)).trans HBX.out)
          have HX2 := Lib.hid ((hold (w.heap.size + 1) ⟨_, HBQ.out⟩ (by omega)).trans HBQ.out)
          rw [hw5] at hrun2
          rw [hle] at hrun1
          have HR1 := Lib.hid hrun1
          have HR2 := Lib.hid hrun2
          clear hrun1 hrun2 hfin hold hown3 t1' t2' t3' t4' t5' t6' hown2 hgr2 hrl5 hn5 hbd5 s1 s2 s3 s4 s5 s6 hown1 hgr1 h1 h2 h3 hsL hsN hle hw5 e5 hk4 hlow hbox4 hd hlenL hlenN hbd hcast
          go_wp2_with fail
          go_region_law (first | (refine st_append (s := .tmp 66) (x := .tmp 72) rfl rfl HR1.out ?_))
          all_goals
            go_wp2_with fail
            go_region_law (first | (refine st_append (s := .tmp 76) (x := .tmp 84) rfl rfl HR2.out ?_))
            all_goals
              go_wp2_with fail
              refine ⟨⟨j + 1, by omega, by rw [show f + (j + 1) = fj + 1 by have := HFJ.out; omega]; go_num, Lib.hid (fun i hi => ?_), HFIN, HX1, HX2, HBF⟩, by simp [intOf]; omega⟩
              rcases Nat.lt_or_ge i j with hij | hij
              · exact HBAD.out i hij
              · obtain rfl : i = j := by omega
                exact ⟨l, HL.out, by have := HFJ.out; simp [badZ]; omega⟩
    · obtain rfl : j = m := by omega
      have hM := HM.out
      have h2' := H2.out
      have hend : ¬ ((f + j : Nat) : Int) ≤ (nd : Int) := by omega
      have hok : partOk lefts f j = true := by
        unfold partOk
        rw [List.all_eq_true]
        intro i hi
        obtain ⟨l, e, hb⟩ := HBAD.out i (List.mem_range.1 hi)
        rw [e]; simp [hb]
      have hlenL : (partL labs f j).length = j := partL_len (by omega)
      have hlenN : (partN lefts f j).length = j := partN_len (by omega)
      obtain ⟨al2, cl2, af2, cf2, h1, h2, h3⟩ := HI.out
      have HLEN := Lib.hid (And.intro hlenL hlenN)
      have HOK := Lib.hid hok
      have HRT := Lib.hid (rroot_c wr (w.heap.size + 1 + 1) (.slice al2 (partL labs f j).length cl2) af2 cf2 (partN lefts f j) 0 (w.heap.size + 1 + 1) h1 (Nat.le_refl _) (own_root h3 ⟨_, h1⟩) (by omega))
      have HKN := Lib.hid (show Knd wr (w.heap.size + 1 + 1) 38 from ⟨_, h1⟩)
      have HOL := Lib.hid h2
      have HOF := Lib.hid h3
      clear h1 h2 h3 hlenL hlenN hok hM h2' q0 q1 q2 y0 y1 y2 z0 z1 z2
      go_wp2_with (go_at_call 49; refine HRT.out.mono ?_; rintro e w4 ⟨rfl, ar2, cr2, hbr, hor, hkb⟩; have hpx := (hkb.2.2.2.2 (w.heap.size + 1) hWQ (by omega)).trans HBQ.out; obtain ⟨p0, p1, p2, f0, f1, f2⟩ := box3 hpx; obtain ⟨r0, r1, r2, s0, s1, s2⟩ := box3 hbr; have HOR := Lib.hid hor; have HKB := Lib.hid hkb; have HPY := Lib.hid hpx; clear hbr hor hkb hpx)
      have hbk := Go.Joins.block_setCell (i := 2) (Go.Joins.block_setCell (i := 1) (Go.Joins.block_setCell (i := 0) HPY.out (.slice al2 (partL labs f j).length cl2)) (.slice af2 (partN lefts f j).length cf2)) (.slice ar2 (rootsL (partN lefts f j)).length cr2)
      refine rpart_box_end (B := w.heap.size + 1) rfl rfl rfl hbk ?_
      obtain ⟨w5, hw5⟩ : ∃ w5, w5 = ((w4.setCell ⟨w.heap.size + 1, 0, none⟩ (.slice al2 (partL labs f j).length cl2)).setCell ⟨w.heap.size + 1, 1, none⟩ (.slice af2 (partN lefts f j).length cf2)).setCell ⟨w.heap.size + 1, 2, none⟩ (.slice ar2 (rootsL (partN lefts f j)).length cr2) := ⟨_, rfl⟩
      have hk5 : ∀ k, k ≠ w.heap.size + 1 → w5.heap[k]? = w4.heap[k]? := fun k hk => by
        rw [hw5, Below.heap_setCell _ _ _ k hk, Below.heap_setCell _ _ _ k hk, Below.heap_setCell _ _ _ k hk]
      have hb5 : Below w.heap.size w w5 := by
        rw [hw5]
        have h0 : Below w.heap.size w w4 := HB.out.trans (HKB.out.below (by omega) HB.out.size)
        exact ((h0.setCell (p := ⟨w.heap.size + 1, 0, none⟩) (by show w.heap.size ≤ w.heap.size + 1; omega) _).setCell (p := ⟨w.heap.size + 1, 1, none⟩) (by show w.heap.size ≤ w.heap.size + 1; omega) _).setCell (p := ⟨w.heap.size + 1, 2, none⟩) (by show w.heap.size ≤ w.heap.size + 1; omega) _
      have hold : ∀ k t, Knd wr k t → t ≠ 38 → w5.heap[k]? = wr.heap[k]? := fun k t hk ht => by
        have hk1 : k ≠ w.heap.size + 1 := knd_ne hk ⟨_, HBQ.out⟩ ht
        have hk2 : k ≠ w.heap.size + 1 + 1 := knd_ne hk HKN.out ht
        rw [hk5 k hk1]
        exact HKB.out.2.2.2.2 k (knd_lt hk) hk2
      rw [← hw5]
      have r1 := own_read (enc := Lab.enc) (W' := w5) (fun _ => rfl) HOL.out (fun k hk => hold k _ hk (by decide))
      have r2 := own_read (enc := natE) (W' := w5) (fun _ => rfl) HOF.out (fun k hk => hold k _ hk (by decide))
      have r3 := own_read (enc := natE) (W' := w5) (fun _ => rfl) HOR.out (fun k hk => hk5 k (knd_ne hk ⟨_, HPY.out⟩ (by decide)))
      exact ⟨hb5, .inl ⟨f, HP.out, by rw [Int.toNat_natCast, hme]; exact HOK.out, al2, cl2, af2, cf2, ar2, cr2, j, by rw [Int.toNat_natCast, hme], by rw [HLEN.out.1, HLEN.out.2], r1.widen (Nat.zero_le _) (Nat.le_refl _), r2.widen (Nat.zero_le _) (Nat.le_refl _), r3.widen (Nat.zero_le _) (Nat.le_refl _)⟩⟩
theorem rpart_c (w : World) (labs : List Lab) (lefts : List Int) (al af ar : Option Addr) (cl cf nr cr : Nat) (node : Int) (hal : SlE Lab.enc 4 w 0 w.heap.size al labs) (hf : SlE i64Z 1 w 0 w.heap.size af lefts) (hn : labs.length ≤ 1048575) :
    Calls Try.prog 20 #[.agg (pBox al labs.length cl af lefts.length cf ar nr cr), .int .i64 node] w (RPartPost labs lefts node w) := by
  cases hp : partAt labs lefts node with
  | none => exact rpart_no w labs lefts al af ar cl cf nr cr node hf hp
  | some f => exact rpart_yes w labs lefts al af ar cl cf nr cr node f hal hf hn hp
end Go.Proofs.Ytmhkacafilpliaa
