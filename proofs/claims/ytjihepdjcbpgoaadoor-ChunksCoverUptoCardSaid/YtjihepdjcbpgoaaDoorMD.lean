/-
  lcs.names: elements' numbers. Conditions: the lists lie in memory, their elements' weights are bounded; strconv's table of powers holds what its initialiser lays.
-/
import Derived.Test.YtjihepdjcbpgoaaDoorMC
namespace Go.Proofs.YtjihepdjcbpgoaaDoor
open Go.RowKit Go.Sort

/-- The state of names: its map at the end of W0's memory, then the box of the map, the box of the count. -/
structure NmS (W0 w : World) (ks : List ByteArray) (N : List Int) : Prop where
  below : Below W0.heap.size W0 w
  box : w.heap[W0.heap.size + 1]? = some (.cells #[.map (some W0.heap.size)] 73 (0, 0))
  ex : ∃ (many : Nat) (f : ByteArray → Option Int), w.heap[W0.heap.size + 1 + 1]? = some (.cells #[.int .i64 many] 3 (0, 0)) ∧ MapF w W0.heap.size f ks.length ∧ Nmd ks N many f
theorem one_cell2 {w : World} {b : Nat} {v : Value} {t : TypeId} (h : w.heap[b]? = some (.cells #[v] t (0, 0))) : w.cell? ⟨b, 0, none⟩ = some v ∧ w.frozen? ⟨b, 0, none⟩ = false ∧ b < w.heap.size := by
  refine ⟨by simp [World.cell?, h], by simp [World.frozen?, h], ?_⟩
  rcases Nat.lt_or_ge b w.heap.size with h' | h'
  · exact h'
  · rw [Array.getElem?_eq_none h'] at h; cases h
theorem NmS.blk {W0 w w' : World} {ks : List ByteArray} {N : List Int} (h : NmS W0 w ks N) (hb : Below w.heap.size w w') : NmS W0 w' ks N := by
  obtain ⟨many, f, h1, h2, h3⟩ := h.ex
  exact ⟨h.below.trans (hb.mono h.below.size), (hb.block _ (one_cell2 h.box).2.2).trans h.box, many, f, (hb.block _ (one_cell2 h1).2.2).trans h1, h2.up hb, h3⟩
/-- What a call for one list hands back. -/
def NamePost (W0 w : World) (ks kx : List ByteArray) (N : List Int) (e : Ending) (w' : World) : Prop :=
  ∃ M : List Int, e = .returned (.slice (some ⟨w.heap.size, 0, none⟩) M.length M.length) ∧ M.length = kx.length ∧ NmS W0 w' (ks ++ kx) (N ++ M) ∧ SlE i64E 1 w' w.heap.size w'.heap.size (some ⟨w.heap.size, 0, none⟩) M ∧
    w.heap.size ≤ w'.heap.size ∧ ∀ q, q < w.heap.size → q ≠ W0.heap.size → q ≠ W0.heap.size + 1 + 1 → w'.heap[q]? = w.heap[q]?
/-- The row that is being filled. -/
def fillI (M : List Int) (j : Nat) : Value := .int .i64 (M[j]?.getD 0)

set_option maxRecDepth 100000 in
set_option maxHeartbeats 3200000 in
theorem name1_c (W0 w : World) (ks : List ByteArray) (N : List Int) (x : LA) (hx : x.Rd W0) (hP : Pow W0) (hS : NmS W0 w ks N) (hk : ks.length ≤ 1048576) :
    Calls Tryd.prog 42 #[.slice x.a x.l.length x.c, .pointer (some ⟨W0.heap.size + 1, 0, none⟩), .pointer (some ⟨W0.heap.size + 1 + 1, 0, none⟩)] w (NamePost W0 w ks (x.v.map Val.key) N) := by
  have hlb := hx.len
  have hkl : (x.v.map Val.key).length = x.l.length := by rw [LA.v, List.length_map, List.length_map]
  have HK := fun (y : AV) (hy : y ∈ x.l) (W : World) (h : Below W0.heap.size W0 W) => Lib.hid (key_c y W ((hx.kids y hy).1.up h) (hx.kids y hy).2 (hP.below h))
  have HKZ := fun (y : AV) (hy : y ∈ x.l) => Lib.hid (key_size (hx.kids y hy).1 (hx.kids y hy).2)
  have hmk := make_ints x.l.length (by omega)
  have HX := Lib.hid hx
  have HKL := Lib.hid hkl
  have hbl := hS.below.size
  have hs2 : W0.heap.size + 1 + 1 < w.heap.size := by
    obtain ⟨many, f, h1, -⟩ := hS.ex
    exact (one_cell2 h1).2.2
  have HS0 := Lib.hid (hS.blk ((Below.refl w.heap.size w).alloc (Nat.le_refl _) (.cells ((List.range x.l.length).map fun _ => Value.int .i64 0).toArray 3)))
  clear hx hkl hS
  go_enter Tryd.func42, Tryd.ntmps42
  go_wp2_with fail
  clear hmk
  go_loopw [16] (fun i wr => ∃ (m : Nat) (M : List Int), m ≤ x.l.length ∧ i = .int .i64 m ∧ M.length = m ∧ NmS W0 wr (ks ++ (x.v.map Val.key).take m) (N ++ M) ∧ RowF wr w.heap.size x.l.length 3 (fillI M) ∧ w.heap.size ≤ wr.heap.size ∧
    ∀ q, q < w.heap.size → q ≠ W0.heap.size → q ≠ W0.heap.size + 1 + 1 → wr.heap[q]? = w.heap[q]?) (fun i _ => x.l.length - (intOf i).toNat)
  case atStart => exact ⟨0, [], Nat.zero_le _, by go_num, rfl, by simpa using HS0.out, heap_alloc_new w _, by simp, fun q h1 _ _ => (Below.refl w.heap.size w |>.alloc (Nat.le_refl _) _).block q h1⟩
  case round =>
    obtain ⟨m, M, hm, rfl, hml, hns, hrow, hsz, hold⟩ := hrel
    have HNS := Lib.hid hns
    have HML := Lib.hid hml
    have HROW := Lib.hid hrow
    have HOLD := Lib.hid hold
    have hrl := hrow.lt
    by_cases hlt : m < x.l.length
    · have hk : x.l[m]? = some x.l[m] := List.getElem?_eq_getElem hlt
      have hmem : x.l[m] ∈ x.l := List.getElem_mem hlt
      generalize x.l[m] = y at hk hmem
      have hks : (x.v.map Val.key)[m]? = some y.v.key := by rw [LA.v, List.getElem?_map, List.getElem?_map, hk]; rfl
      have htk : ks ++ (x.v.map Val.key).take (m + 1) = (ks ++ (x.v.map Val.key).take m) ++ [y.v.key] := by rw [List.take_add_one, hks, List.append_assoc]; rfl
      have hkt : (ks ++ (x.v.map Val.key).take m).length = ks.length + m := by rw [List.length_append, List.length_take, HKL.out]; omega
      have HKy := HK y hmem
      have hkz := (HKZ y hmem).out
      have hkz2 : y.v.key.size ≤ Go.maxLen := by unfold Go.maxLen; omega
      obtain ⟨b, off, hla, -, -, hb2, c0, c1, c2, c3⟩ := vals_at HX.out.sl hk
      rw [← hns.below.cell (p := ⟨_, _, none⟩) hb2] at c0 c1 c2 c3
      have hbb : b < wr.heap.size := Nat.lt_of_lt_of_le hb2 hns.below.size
      have hlt' : (m : Int) < (x.l.length : Int) := by omega
      have hm0 : (0 : Int) ≤ (m : Int) := by omega
      have hwm : IntKind.i64.wrap ((m : Int) + 1) = ((m + 1 : Nat) : Int) := by rw [IntWalk.i64_in _ (by omega)]; omega
      have HLA := Lib.hid hla
      have HTK := Lib.hid htk
      have HKT := Lib.hid hkt
      have HBW := Lib.hid hns.below
      generalize y.v.key = s at *
      generalize ks ++ (x.v.map Val.key).take m = K at *
      obtain ⟨many, f, e1, e2, e3⟩ := hns.ex
      have HF := Lib.hid e2
      have HN := Lib.hid e3
      have HE1 := Lib.hid e1
      have HB := Lib.hid hns.box
      have hmany := e3.big
      clear hla hk hmem HK HKZ hks htk hkt hns hml hrow hold e1 e2 e3 HS0
      rw [HLA.out]
      have hsplit : (∃ n, f s = some n ∧ s ≠ ⟨#[]⟩) ∨ f s = none ∨ (∃ n, f s = some n ∧ s = ⟨#[]⟩) := by
        cases hf : f s with
        | none => exact .inr (.inl rfl)
        | some n =>
          by_cases hn : s = ⟨#[]⟩
          · exact .inr (.inr ⟨n, rfl, hn⟩)
          · exact .inl ⟨n, rfl, hn⟩
      rcases hsplit with ⟨n, hf, hne⟩ | hf | ⟨n, hf, rfl⟩
      · have hst : ¬ s.toList = [] := fun e => hne (by rw [ByteArray.toList_eq] at e; cases s with | mk d => simp at e; rw [e])
        have hst2 : (s.toList == (⟨#[]⟩ : ByteArray).toList) = false := by rw [show (⟨#[]⟩ : ByteArray).toList = [] by simp [ByteArray.toList_eq]]; simpa using hst
        have hst3 : (s.toList == []) = false := by simpa using hst
        have HFS := Lib.hid hf
        have HNE := Lib.hid hne
        clear hf hne
        go_wp2_with (go_at_call 43; refine (HKy _ (HBW.out.alloc HBW.out.size _)).out.mono ?_; rintro e w1 ⟨rfl, hb1⟩
                     have hba := ((Below.refl wr.heap.size wr).alloc (Nat.le_refl _) (.cells #[.int .u8 y.k, .string y.t, .slice y.la y.l.length y.lc, .slice y.ka y.ks.length y.kc] 28)).trans (hb1.mono (by simp))
                     obtain ⟨c9, hlook, hc9⟩ := (HF.out.up hba).look s hkz2
                     rw [HFS.out] at hlook
                     obtain rfl := hc9 n HFS.out
                     simp only [Option.isSome_some] at hlook
                     clear hc9
                     have hsz1 := hba.size
                     obtain ⟨p0, p1, p2⟩ := one_cell2 ((hba.block _ (one_cell2 HB.out).2.2).trans HB.out)
                     have hr1 := HROW.out.up hba
                     have r0 := hr1.cell hlt
                     have r1 := hr1.froz m
                     have hl1 := hr1.lt
                     have HR1 := Lib.hid hr1
                     clear hr1)
        have hns1 := HNS.out.blk hba
        have hq : ∀ q, q ≠ w.heap.size → (w1.setCell ⟨w.heap.size, m, none⟩ (.int .i64 c9)).heap[q]? = w1.heap[q]? := fun q hq => Below.heap_setCell w1 _ _ q hq
        refine ⟨⟨m + 1, M ++ [c9], by omega, by go_num, by simp [HML.out], ?_, ?_, by simp; omega, fun q h1 h2 h3 => ?_⟩, by simp [intOf]; omega⟩
        · rw [HTK.out, ← List.append_assoc]
          refine ⟨hns1.below.setCell (p := ⟨w.heap.size, m, none⟩) (by show W0.heap.size ≤ w.heap.size; omega) _, (hq _ (by omega)).trans ((hba.block _ (one_cell2 HB.out).2.2).trans HB.out), many, f, (hq _ (by omega)).trans ((hba.block _ (one_cell2 HE1.out).2.2).trans HE1.out), ?_, HN.out.old HNE.out HFS.out⟩
          obtain ⟨k0, D, d1, d2, d3⟩ := (HF.out.up hba).blk (hq W0.heap.size (by omega))
          exact ⟨k0, D, d1, by simp; omega, d3⟩
        · refine (HR1.out.set m _).cong fun j hj => ?_
          simp only [fillI]
          by_cases e : j = m
          · subst e; rw [if_pos rfl, ← HML.out, List.getElem?_append_right (Nat.le_refl _)]; simp
          · rw [if_neg e]
            rcases Nat.lt_or_ge j m with hj2 | hj2
            · rw [List.getElem?_append_left (by rw [HML.out]; exact hj2)]
            · rw [List.getElem?_eq_none (by rw [HML.out]; exact hj2), List.getElem?_eq_none (by simp [HML.out]; omega)]
        · exact (hq q (by omega)).trans ((hba.block q (by omega)).trans (HOLD.out q h1 h2 h3))
      · have hst : ¬ s.toList = [] ∨ True := .inr trivial
        have HFS := Lib.hid hf
        clear hf hst
        go_wp2_with (go_at_call 43; refine (HKy _ (HBW.out.alloc HBW.out.size _)).out.mono ?_; rintro e w1 ⟨rfl, hb1⟩
                     have hba := ((Below.refl wr.heap.size wr).alloc (Nat.le_refl _) (.cells #[.int .u8 y.k, .string y.t, .slice y.la y.l.length y.lc, .slice y.ka y.ks.length y.kc] 28)).trans (hb1.mono (by simp))
                     obtain ⟨c9, hlook, -⟩ := (HF.out.up hba).look s hkz2
                     rw [HFS.out] at hlook
                     simp only [Option.isSome_none] at hlook
                     have hsz1 := hba.size
                     obtain ⟨p0, p1, p2⟩ := one_cell2 ((hba.block _ (one_cell2 HB.out).2.2).trans HB.out)
                     obtain ⟨g0, g1, g2⟩ := one_cell2 ((hba.block _ (one_cell2 HE1.out).2.2).trans HE1.out)
                     have hmf : MapF (w1.setCell ⟨W0.heap.size + 1 + 1, 0, none⟩ (.int .i64 ((many : Int) + 1))) W0.heap.size f K.length := (HF.out.up hba).blk (Below.heap_setCell w1 _ _ _ (by show W0.heap.size ≠ W0.heap.size + 1 + 1; omega))
                     obtain ⟨w2, hput, hmf2, hgr2⟩ := hmf.put s hkz2 ((many : Int) + 1) (by have := HKT.out; omega) (by have := HKT.out; omega)
                     have hwc : IntKind.i64.wrap ((many : Int) + 1) = (many : Int) + 1 := by rw [IntWalk.i64_in _ (by have := HKT.out; omega)]
                     have hr2 : RowF w2 w.heap.size x.l.length 3 (fillI M) := (HROW.out.up hba).keep ((hgr2.block _ (by simp; omega) (fun e => by have := Option.some.inj e; omega)).trans (Below.heap_setCell w1 _ _ _ (by show w.heap.size ≠ W0.heap.size + 1 + 1; omega)))
                     have r0 := hr2.cell hlt
                     have r1 := hr2.froz m
                     have hl1 := hr2.lt
                     have HR1 := Lib.hid hr2
                     have HMF := Lib.hid hmf2
                     have HGR := Lib.hid hgr2
                     clear hr2 hmf hmf2 hgr2)
        have hs2' := HGR.out.size
        have hs2'' : w1.heap.size ≤ w2.heap.size := by simpa using hs2'
        have hq : ∀ q, q < w1.heap.size → q ≠ w.heap.size → q ≠ W0.heap.size → q ≠ W0.heap.size + 1 + 1 → (w2.setCell ⟨w.heap.size, m, none⟩ (.int .i64 ((many : Int) + 1))).heap[q]? = w1.heap[q]? := fun q h0 h1 h2 h3 =>
          (Below.heap_setCell w2 _ _ q h1).trans ((HGR.out.block q (by simpa using h0) (fun e => h2 (Option.some.inj e))).trans (Below.heap_setCell w1 _ _ q h3))
        have hbw1 := HBW.out.trans (hba.mono HBW.out.size)
        refine ⟨⟨m + 1, M ++ [((many + 1 : Nat) : Int)], by omega, by go_num, by simp [HML.out], ?_, ?_, by simp; omega, fun q h1 h2 h3 => ?_⟩, by simp [intOf]; omega⟩
        · rw [HTK.out, ← List.append_assoc]
          refine ⟨((hbw1.setCell (p := ⟨W0.heap.size + 1 + 1, 0, none⟩) (by show W0.heap.size ≤ W0.heap.size + 1 + 1; omega) _).grown HGR.out (by have := hbw1.size; simpa using this) (fun q hq => by have := Option.some.inj hq; omega)).setCell (p := ⟨w.heap.size, m, none⟩) (by show W0.heap.size ≤ w.heap.size; omega) _, (hq _ (by omega) (by omega) (by omega) (by omega)).trans ((hba.block _ (one_cell2 HB.out).2.2).trans HB.out), many + 1, _, ?_, ?_, HN.out.new (.inr HFS.out)⟩
          · refine (Below.heap_setCell w2 _ _ _ (by show W0.heap.size + 1 + 1 ≠ w.heap.size; omega)).trans ((HGR.out.block _ (by simp; omega) (fun e => by have := Option.some.inj e; omega)).trans ?_)
            rw [set_blk ((hba.block _ (one_cell2 HE1.out).2.2).trans HE1.out)]; rfl
          · rw [List.length_append]
            exact HMF.out.blk (Below.heap_setCell w2 _ _ _ (by show W0.heap.size ≠ w.heap.size; omega))
        · refine (HR1.out.set m _).cong fun j hj => ?_
          simp only [fillI]
          by_cases e : j = m
          · subst e; rw [if_pos rfl, ← HML.out, List.getElem?_append_right (Nat.le_refl _)]; simp
          · rw [if_neg e]
            rcases Nat.lt_or_ge j m with hj2 | hj2
            · rw [List.getElem?_append_left (by rw [HML.out]; exact hj2)]
            · rw [List.getElem?_eq_none (by rw [HML.out]; exact hj2), List.getElem?_eq_none (by simp [HML.out]; omega)]
        · exact (hq q (by omega) (by omega) h2 h3).trans ((hba.block q (by omega)).trans (HOLD.out q h1 h2 h3))
      · have hst : (⟨#[]⟩ : ByteArray).toList = [] := by simp [ByteArray.toList_eq]
        have HFS := Lib.hid hf
        clear hf
        go_wp2_with (go_at_call 43; refine (HKy _ (HBW.out.alloc HBW.out.size _)).out.mono ?_; rintro e w1 ⟨rfl, hb1⟩
                     have hba := ((Below.refl wr.heap.size wr).alloc (Nat.le_refl _) (.cells #[.int .u8 y.k, .string y.t, .slice y.la y.l.length y.lc, .slice y.ka y.ks.length y.kc] 28)).trans (hb1.mono (by simp))
                     obtain ⟨c9, hlook, -⟩ := (HF.out.up hba).look ⟨#[]⟩ hkz2
                     rw [HFS.out] at hlook
                     simp only [Option.isSome_some] at hlook
                     have hsz1 := hba.size
                     obtain ⟨p0, p1, p2⟩ := one_cell2 ((hba.block _ (one_cell2 HB.out).2.2).trans HB.out)
                     obtain ⟨g0, g1, g2⟩ := one_cell2 ((hba.block _ (one_cell2 HE1.out).2.2).trans HE1.out)
                     have hmf : MapF (w1.setCell ⟨W0.heap.size + 1 + 1, 0, none⟩ (.int .i64 ((many : Int) + 1))) W0.heap.size f K.length := (HF.out.up hba).blk (Below.heap_setCell w1 _ _ _ (by show W0.heap.size ≠ W0.heap.size + 1 + 1; omega))
                     obtain ⟨w2, hput, hmf2, hgr2⟩ := hmf.put ⟨#[]⟩ hkz2 ((many : Int) + 1) (by have := HKT.out; omega) (by have := HKT.out; omega)
                     have hwc : IntKind.i64.wrap ((many : Int) + 1) = (many : Int) + 1 := by rw [IntWalk.i64_in _ (by have := HKT.out; omega)]
                     have hr2 : RowF w2 w.heap.size x.l.length 3 (fillI M) := (HROW.out.up hba).keep ((hgr2.block _ (by simp; omega) (fun e => by have := Option.some.inj e; omega)).trans (Below.heap_setCell w1 _ _ _ (by show w.heap.size ≠ W0.heap.size + 1 + 1; omega)))
                     have r0 := hr2.cell hlt
                     have r1 := hr2.froz m
                     have hl1 := hr2.lt
                     have HR1 := Lib.hid hr2
                     have HMF := Lib.hid hmf2
                     have HGR := Lib.hid hgr2
                     clear hr2 hmf hmf2 hgr2)
        have hs2' := HGR.out.size
        have hs2'' : w1.heap.size ≤ w2.heap.size := by simpa using hs2'
        have hq : ∀ q, q < w1.heap.size → q ≠ w.heap.size → q ≠ W0.heap.size → q ≠ W0.heap.size + 1 + 1 → (w2.setCell ⟨w.heap.size, m, none⟩ (.int .i64 ((many : Int) + 1))).heap[q]? = w1.heap[q]? := fun q h0 h1 h2 h3 =>
          (Below.heap_setCell w2 _ _ q h1).trans ((HGR.out.block q (by simpa using h0) (fun e => h2 (Option.some.inj e))).trans (Below.heap_setCell w1 _ _ q h3))
        have hbw1 := HBW.out.trans (hba.mono HBW.out.size)
        refine ⟨⟨m + 1, M ++ [((many + 1 : Nat) : Int)], by omega, by go_num, by simp [HML.out], ?_, ?_, by simp; omega, fun q h1 h2 h3 => ?_⟩, by simp [intOf]; omega⟩
        · rw [HTK.out, ← List.append_assoc]
          refine ⟨((hbw1.setCell (p := ⟨W0.heap.size + 1 + 1, 0, none⟩) (by show W0.heap.size ≤ W0.heap.size + 1 + 1; omega) _).grown HGR.out (by have := hbw1.size; simpa using this) (fun q hq => by have := Option.some.inj hq; omega)).setCell (p := ⟨w.heap.size, m, none⟩) (by show W0.heap.size ≤ w.heap.size; omega) _, (hq _ (by omega) (by omega) (by omega) (by omega)).trans ((hba.block _ (one_cell2 HB.out).2.2).trans HB.out), many + 1, _, ?_, ?_, HN.out.new (.inl rfl)⟩
          · refine (Below.heap_setCell w2 _ _ _ (by show W0.heap.size + 1 + 1 ≠ w.heap.size; omega)).trans ((HGR.out.block _ (by simp; omega) (fun e => by have := Option.some.inj e; omega)).trans ?_)
            rw [set_blk ((hba.block _ (one_cell2 HE1.out).2.2).trans HE1.out)]; rfl
          · rw [List.length_append]
            exact HMF.out.blk (Below.heap_setCell w2 _ _ _ (by show W0.heap.size ≠ w.heap.size; omega))
        · refine (HR1.out.set m _).cong fun j hj => ?_
          simp only [fillI]
          by_cases e : j = m
          · subst e; rw [if_pos rfl, ← HML.out, List.getElem?_append_right (Nat.le_refl _)]; simp
          · rw [if_neg e]
            rcases Nat.lt_or_ge j m with hj2 | hj2
            · rw [List.getElem?_append_left (by rw [HML.out]; exact hj2)]
            · rw [List.getElem?_eq_none (by rw [HML.out]; exact hj2), List.getElem?_eq_none (by simp [HML.out]; omega)]
        · exact (hq q (by omega) (by omega) h2 h3).trans ((hba.block q (by omega)).trans (HOLD.out q h1 h2 h3))
    · obtain rfl : m = x.l.length := by omega
      have hge : ¬ (x.l.length : Int) < (x.l.length : Int) := by omega
      clear hns hrow hold HK HS0
      go_wp2_with fail
      go_ret
      refine ⟨M, by rw [HML.out]; rfl, by rw [HML.out, HKL.out], ?_, ?_, hsz, HOLD.out⟩
      · have := HNS.out
        rwa [List.take_of_length_le (Nat.le_of_eq HKL.out)] at this
      · refine (HROW.out.sl (enc := i64E) M HML.out fun j v hv => ?_).widen (Nat.le_refl _) (by omega)
        rw [fillI, hv]; rfl

/-- The numbers of two lists' elements. -/
def NmbPost (a b : List Val) (w : World) (e : Ending) (w' : World) : Prop :=
  ∃ (A B : Nat) (N M : List Int), e = .returned (.tuple #[.slice (some ⟨A, 0, none⟩) N.length N.length, .slice (some ⟨B, 0, none⟩) M.length M.length]) ∧ N.length = a.length ∧ M.length = b.length ∧ SameM N M (labs 0 a) (labs 1 b) ∧
    SlE i64E 1 w' w.heap.size w'.heap.size (some ⟨A, 0, none⟩) N ∧ SlE i64E 1 w' w.heap.size w'.heap.size (some ⟨B, 0, none⟩) M ∧ Below w.heap.size w w'
set_option maxRecDepth 100000 in
set_option maxHeartbeats 3200000 in
theorem names_n (w : World) (x y : LA) (hx : x.Rd w) (hy : y.Rd w) (hP : Pow w) : Calls Tryd.prog 28 #[.slice x.a x.l.length x.c, .slice y.a y.l.length y.c] w (NmbPost x.v y.v w) := by
  have hb3 : Below w.heap.size w ((((w.alloc (.map #[] 0)).alloc (.cells #[.map (some w.heap.size)] 73)).alloc (.cells #[.int .i64 0] 3))) := (((Below.refl _ _).alloc (Nat.le_refl _) _).alloc (by simp) _).alloc (by simp; omega) _
  have hS : NmS w ((((w.alloc (.map #[] 0)).alloc (.cells #[.map (some w.heap.size)] 73)).alloc (.cells #[.int .i64 0] 3))) [] [] := by
    have h2 := heap_alloc_new (w.alloc (.map #[] 0)) (.cells #[.map (some w.heap.size)] 73)
    have h3 := heap_alloc_new ((w.alloc (.map #[] 0)).alloc (.cells #[.map (some w.heap.size)] 73)) (.cells #[.int .i64 0] 3)
    simp only [World.size_alloc] at h2 h3
    exact ⟨hb3, (blk_o _ _ _ (by simp)).trans h2, 0, _, h3, ((MapF.made w).kept (World.grownBy_alloc _ _ none) (by simp)).kept (World.grownBy_alloc _ _ none) (by simp), Nmd.nil⟩
  have H1 := Lib.hid (name1_c w _ [] [] x hx hP hS (by simp))
  have H2 := fun W ks N h hk => Lib.hid (name1_c w W ks N y hy hP h hk)
  have hxl := hx.len
  have hmm := @run_makeMap Tryd.prog
  clear hS hb3
  go_enter Tryd.func28, Tryd.ntmps28
  go_wp2_with (go_at_call 42; first
    | ((with_reducible refine H1.out.mono ?_); rintro e w1 ⟨N, rfl, hN, hS1, hA, hs1, hq1⟩
       have HS1 := Lib.hid hS1
       have HA := Lib.hid hA
       have HQ1 := Lib.hid hq1
       have HN := Lib.hid hN
       clear hS1 hA hq1 hN)
    | ((with_reducible refine (H2 _ _ _ HS1.out (by simp [LA.v]; omega)).out.mono ?_); rintro e w2 ⟨M, rfl, hm2, hS2, hB, hs2, hq2⟩
       have hM := Lib.hid hm2
       clear hm2))
  refine bodyPost_ret (v := .tuple #[.slice (some ⟨w.heap.size + 1 + 1 + 1, 0, none⟩) N.length N.length, .slice (some ⟨w1.heap.size, 0, none⟩) M.length M.length]) (by simp [results, Tryd.results28, go_sem]) rfl ⟨w.heap.size + 1 + 1 + 1, w1.heap.size, N, M, rfl, by rw [HN.out, List.length_map], by rw [hM.out, List.length_map], ?_, ?_, ?_, hS2.below⟩
  · obtain ⟨many, f, -, -, hn⟩ := hS2.ex
    simp only [List.nil_append] at hn
    exact hn.lists (by rw [HN.out, List.length_map])
  · have h3 : w.heap.size + 1 + 1 + 1 ≤ w1.heap.size := by have := hs1; simp at this; omega
    refine SlE.widen (lo := w.heap.size + 1 + 1 + 1) (hi := w1.heap.size) ?_ (by omega) hs2
    have hA' := HA.out
    simp only [World.size_alloc] at hA'
    exact hA'.keep hs2 fun k h1 h2 _ => hq2 k (by omega) (by omega) (by omega)
  · exact hB.widen (by have := HS1.out.below.size; omega) (Nat.le_refl _)
end Go.Proofs.YtjihepdjcbpgoaaDoor
