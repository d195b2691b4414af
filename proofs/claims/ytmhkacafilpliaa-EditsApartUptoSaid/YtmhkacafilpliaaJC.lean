/-
  posts.entries, walked. Conditions: the tree lies in memory, its weight is bounded; a map has as many keys as parts.
-/
import Derived.Test.YtmhkacafilpliaaJB
namespace Go.Proofs.Ytmhkacafilpliaa
open Go.RowKit Go.Sort Go.Shelf

theorem info_pe : (Try.prog.info? 75).map (fun i => (i.zero, i.size, i.bytes)) = some (some (.agg zP.toArray), 6, 96) := by kernel_rfl
theorem stab_len {α : Type} {lt : α → α → Bool} (l : List α) : (stab lt l).length = l.length := (stab_perm l).length_eq
def PEntPost (x : AV) (w : World) (e : Ending) (w' : World) : Prop :=
  ∃ g, e = .returned (.slice (some ⟨g, 0, none⟩) x.psub.length x.psub.length) ∧ SlE PE.enc 6 w' g (g + 1) (some ⟨g, 0, none⟩) x.psub ∧ w.heap.size ≤ g ∧ g < w'.heap.size ∧ Below w.heap.size w w' ∧ Knd w' g 75
theorem zP_cells {n : Nat} {i j : Nat} (h1 : i < n) (h2 : j < 6) : (madeCells (Value.agg zP.toArray).cells (n * 6))[i * 6 + j]? = zP[j]? := by
  have h3 : i * 6 + j < n * 6 := by omega
  have h4 : (i * 6 + j) % 6 = j := by omega
  have h5 : (madeCells (Value.agg zP.toArray).cells (n * 6))[i * 6 + j]? = some zP.toArray[(i * 6 + j) % 6]! := by
    simp only [madeCells, Value.cells]
    rw [Array.getElem?_eq_getElem (by simpa using h3)]
    simp
  rw [h5, h4]
  match j, h2 with
  | 0, _ => rfl
  | 1, _ => rfl
  | 2, _ => rfl
  | 3, _ => rfl
  | 4, _ => rfl
  | 5, _ => rfl
/-- The row as make leaves it. -/
theorem RowS.made {P : List PE} {w : World} {B : Nat} {t : TypeId} (h : w.heap[B]? = some (.cells (madeCells (Value.agg zP.toArray).cells (P.length * 6)) t (0, 0))) : RowS P 0 w B := fun i j hi hj => by
  rw [if_neg (Nat.not_lt_zero _), ← zP_cells hi hj]
  simp [World.cell?, h]
theorem RowS.alloc {P : List PE} {k B : Nat} {w : World} (h : RowS P k w B) (hB : B < w.heap.size) (o : Obj) : RowS P k (w.alloc o) B := fun i j hi hj => by
  rw [World.cell?_of_block (w := w) (Below.heap_alloc w o B hB)]; exact h i j hi hj
theorem frz_alloc {B : Nat} {w : World} (h : ∀ o, w.frozen? ⟨B, o, none⟩ = false) (hB : B < w.heap.size) (o : Obj) (q : Nat) : (w.alloc o).frozen? ⟨B, q, none⟩ = false := by
  rw [World.frozen?_of_block (w := w) (Below.heap_alloc w o B hB)]; exact h q
theorem Knd.alloc {B : Nat} {w : World} {t : TypeId} (h : Knd w B t) (o : Obj) : Knd (w.alloc o) B t := h.below ((Below.refl _ w).alloc (Nat.le_refl _) o)
set_option maxRecDepth 100000 in
set_option maxHeartbeats 3200000 in
theorem pentries_l (w : World) (x : AV) (hx : Rd w x) (hw : x.w ≤ 1048576) (h8 : ¬ x.k = 8) : Calls Try.prog 84 #[x.val] w (PEntPost x w) := by
  have hll := x.w_l
  have hn : x.l.length ≤ 1048576 := by omega
  obtain ⟨i0, hi, hz0, hz1, hz2⟩ := info_parts info_pe
  have hmk := fun W => run_make (P := Try.prog) W 117 75 i0 _ Try.underlying117 hi hz0 .i64 .i64 x.l.length x.l.length (by omega) (Int.le_refl _) (by rw [hz2]; omega) (by omega)
  rw [hz1, Int.toNat_natCast] at hmk
  have hpl : x.pes = x.l.map fun y => ⟨false, ⟨#[]⟩, y⟩ := by unfold AV.pes; rw [if_neg h8]
  have hlen : x.pes.length = x.l.length := by rw [hpl, List.length_map]
  have hps : x.psub.length = x.l.length := by rw [AV.psub, stab_len, hlen]
  have HPS := Lib.hid hps
  have HLEN := Lib.hid hlen
  obtain ⟨mc, hmc⟩ : ∃ mc, mc = madeCells (Value.agg zP.toArray).cells (x.l.length * 6) := ⟨_, rfl⟩
  rw [← hmc] at hmk
  have HMC := Lib.hid hmc
  have HPL := Lib.hid hpl
  have hkd : (x.k == 8) = false := by simpa using h8
  clear hi hz0 hz1 hz2 hmc hps hlen hpl h8
  unfold PEntPost
  go_enter Try.func84, Try.ntmps84
  go_wp2_with fail
  go_loopw [4, 5, 13] (fun _ _ i wr => ∃ k : Nat, k ≤ x.l.length ∧ i = .int .i64 k ∧ RowS x.pes k wr (w.heap.size + 1) ∧ (∀ o, wr.frozen? ⟨w.heap.size + 1, o, none⟩ = false) ∧ w.heap.size + 2 ≤ wr.heap.size ∧ Below (w.heap.size + 1) (w.alloc (.cells x.enc.toArray 26)) wr ∧ Knd wr (w.heap.size + 1) 75) (fun _ _ i _ => x.l.length - (intOf i).toNat)
  case atStart =>
    have h := heap_alloc_new (w.alloc (.cells #[.int .u8 x.k, .string x.t, .slice x.la x.l.length x.lc, .slice x.ka x.ks.length x.kc] 26)) (.cells mc 75)
    rw [World.size_alloc] at h
    refine ⟨0, Nat.zero_le _, rfl, RowS.made (t := 75) ?_, fun o => ?_, by simp, (Below.refl _ _).alloc (by simp) _, ⟨_, h⟩⟩
    · rw [HLEN.out, ← HMC.out]; exact h
    · simp only [World.frozen?, h]; simp
  case round =>
    obtain ⟨k, hk, rfl, hcs, hfz, hsz, hbw, hkn⟩ := hrel
    have HKN := Lib.hid hkn
    clear hkn
    have hbox : wr.heap[w.heap.size]? = some (.cells x.enc.toArray 26 (0, 0)) := (hbw.block w.heap.size (by omega)).trans (heap_alloc_new w _)
    obtain ⟨q0, q1, q2, q3, -, -, -, -⟩ := vbox4 hbox
    clear hbox
    have HCS := Lib.hid hcs
    have HF := Lib.hid hfz
    by_cases hlt : k < x.l.length
    · have hls : x.l[k]? = some x.l[k] := List.getElem?_eq_getElem hlt
      have hpk : x.pes[k]? = some ⟨false, ⟨#[]⟩, x.l[k]⟩ := by rw [HPL.out, List.getElem?_map, hls]; rfl
      generalize x.l[k] = y at *
      obtain ⟨c, off', hla, -, hc1, hc2, g0, g1, g2, g3⟩ := vals_at hx.sl hls
      have hw0 : Below w.heap.size w wr := ((Below.refl w.heap.size w).alloc (Nat.le_refl _) _).trans (hbw.mono (by omega))
      rw [← hw0.cell (p := ⟨_, _, none⟩) hc2] at g0 g1 g2 g3
      rw [hla] at q2
      have hsp := fun q (hq : q < x.l.length * 6) => hcs.spare (q := q) (by rw [HLEN.out]; exact hq)
      obtain ⟨v2, d2⟩ := hsp (k * 6 + 2) (by omega)
      obtain ⟨v3, d3⟩ := hsp (k * 6 + 3) (by omega)
      obtain ⟨v4, d4⟩ := hsp (k * 6 + 4) (by omega)
      obtain ⟨v5, d5⟩ := hsp (k * 6 + 5) (by omega)
      have f2 := hfz (k * 6 + 2)
      have f3 := hfz (k * 6 + 3)
      have f4 := hfz (k * 6 + 4)
      have f5 := hfz (k * 6 + 5)
      have hcc : c < wr.heap.size := by omega
      have hB1 : w.heap.size + 1 < wr.heap.size := by omega
      have hB0 : w.heap.size < wr.heap.size := by omega
      have i2 : (k : Int) < x.l.length := by omega
      have HPK := Lib.hid hpk
      have HLA := Lib.hid hla
      have HX := Lib.hid hx
      have HBW := Lib.hid hbw
      rw [hla]
      clear hcs hfz hls hpk hla hmk hsp hw0 hx hbw
      go_wp2_with fail
      have hR := HCS.out.step (y := y) (by rw [HLEN.out]; exact hlt) HPK.out
      have hS := setL_size (w.heap.size + 1) [.int .u8 y.k, .string y.t, .slice y.la y.l.length y.lc, .slice y.ka y.ks.length y.kc] wr (k * 6 + 2)
      have hFz := fun q => (setL_frozen (w.heap.size + 1) [.int .u8 y.k, .string y.t, .slice y.la y.l.length y.lc, .slice y.ka y.ks.length y.kc] wr (k * 6 + 2) ⟨w.heap.size + 1, q, none⟩).trans (HF.out q)
      have hBl := setL_below [.int .u8 y.k, .string y.t, .slice y.la y.l.length y.lc, .slice y.ka y.ks.length y.kc] wr (k * 6 + 2) HBW.out (Nat.le_refl _)
      have hKn := setL_knd (B := w.heap.size + 1) [.int .u8 y.k, .string y.t, .slice y.la y.l.length y.lc, .slice y.ka y.ks.length y.kc] wr (k * 6 + 2) HKN.out
      have hE : ((((wr.setCell ⟨w.heap.size + 1, k * 6 + 2, none⟩ (.int .u8 y.k)).setCell ⟨w.heap.size + 1, k * 6 + 2 + 1, none⟩ (.string y.t)).setCell ⟨w.heap.size + 1, k * 6 + 2 + 2, none⟩ (.slice y.la y.l.length y.lc)).setCell ⟨w.heap.size + 1, k * 6 + 2 + 3, none⟩ (.slice y.ka y.ks.length y.kc)) = setL wr (w.heap.size + 1) (k * 6 + 2) [.int .u8 y.k, .string y.t, .slice y.la y.l.length y.lc, .slice y.ka y.ks.length y.kc] := rfl
      rw [hE]
      generalize setL wr (w.heap.size + 1) (k * 6 + 2) [.int .u8 y.k, .string y.t, .slice y.la y.l.length y.lc, .slice y.ka y.ks.length y.kc] = W2 at *
      have hBs : w.heap.size + 1 < W2.heap.size := by rw [hS]; exact hB1
      exact ⟨⟨k + 1, by omega, by go_num, hR.alloc hBs _, fun o => frz_alloc hFz hBs _ o, by rw [World.size_alloc]; omega, hBl.alloc (by omega) _, hKn.alloc _⟩, by simp [intOf]; omega⟩
    · obtain rfl : k = x.l.length := by omega
      rw [← HLEN.out] at hcs
      have hc0 := Lib.hid (sortP_c (w.heap.size + 1) x.l.length x.l.length x.pes wr HLEN.out (hcs.holds hfz) (by omega) hn)
      have hw0 : Below w.heap.size w wr := ((Below.refl w.heap.size w).alloc (Nat.le_refl _) _).trans (hbw.mono (by omega))
      have HW := Lib.hid hw0
      clear hcs hfz hmk HCS HF hw0 hbw
      go_wp2_with (go_at_call 91; refine hc0.out.mono ?_; rintro e w2 ⟨rfl, hsl, hb, hkk⟩; have HSL := Lib.hid hsl; have HB := Lib.hid hb; have HKK := Lib.hid hkk; clear hsl hb hkk)
      go_ret
      have hz := HB.out.size
      exact ⟨w.heap.size + 1, by rw [HPS.out]; rfl, HSL.out, by omega, by omega, HW.out.trans (HB.out.mono (by omega)), HKK.out _ HKN.out⟩
set_option maxRecDepth 100000 in
set_option maxHeartbeats 3200000 in
theorem pentries_m (w : World) (x : AV) (hx : Rd w x) (hw : x.w ≤ 1048576) (h8 : x.k = 8) (hkl : x.ks.length = x.l.length) : Calls Try.prog 84 #[x.val] w (PEntPost x w) := by
  have hll := x.w_l
  have hn : x.l.length ≤ 1048576 := by omega
  obtain ⟨i0, hi, hz0, hz1, hz2⟩ := info_parts info_pe
  have hmk := fun W => run_make (P := Try.prog) W 117 75 i0 _ Try.underlying117 hi hz0 .i64 .i64 x.l.length x.l.length (by omega) (Int.le_refl _) (by rw [hz2]; omega) (by omega)
  rw [hz1, Int.toNat_natCast] at hmk
  have hpl : x.pes = (x.ks.zip x.l).map (fun p => ⟨true, p.1, p.2⟩) := by unfold AV.pes; rw [if_pos h8]
  have hlen : x.pes.length = x.l.length := by rw [hpl, List.length_map, List.length_zip, hkl, Nat.min_self]
  have HKL := Lib.hid hkl
  have hps : x.psub.length = x.l.length := by rw [AV.psub, stab_len, hlen]
  have HPS := Lib.hid hps
  have HLEN := Lib.hid hlen
  obtain ⟨mc, hmc⟩ : ∃ mc, mc = madeCells (Value.agg zP.toArray).cells (x.l.length * 6) := ⟨_, rfl⟩
  rw [← hmc] at hmk
  have HMC := Lib.hid hmc
  have HPL := Lib.hid hpl
  have hkd : (x.k == 8) = true := by simpa using h8
  clear hi hz0 hz1 hz2 hmc hps hlen hpl h8 hkl
  unfold PEntPost
  go_enter Try.func84, Try.ntmps84
  go_wp2_with fail
  go_loopw [4, 5, 13] (fun _ _ i wr => ∃ k : Nat, k ≤ x.l.length ∧ i = .int .i64 k ∧ RowS x.pes k wr (w.heap.size + 1) ∧ (∀ o, wr.frozen? ⟨w.heap.size + 1, o, none⟩ = false) ∧ w.heap.size + 2 ≤ wr.heap.size ∧ Below (w.heap.size + 1) (w.alloc (.cells x.enc.toArray 26)) wr ∧ Knd wr (w.heap.size + 1) 75) (fun _ _ i _ => x.l.length - (intOf i).toNat)
  case atStart =>
    have h := heap_alloc_new (w.alloc (.cells #[.int .u8 x.k, .string x.t, .slice x.la x.l.length x.lc, .slice x.ka x.ks.length x.kc] 26)) (.cells mc 75)
    rw [World.size_alloc] at h
    refine ⟨0, Nat.zero_le _, rfl, RowS.made (t := 75) ?_, fun o => ?_, by simp, (Below.refl _ _).alloc (by simp) _, ⟨_, h⟩⟩
    · rw [HLEN.out, ← HMC.out]; exact h
    · simp only [World.frozen?, h]; simp
  case round =>
    obtain ⟨k, hk, rfl, hcs, hfz, hsz, hbw, hkn⟩ := hrel
    have HKN := Lib.hid hkn
    clear hkn
    have hbox : wr.heap[w.heap.size]? = some (.cells x.enc.toArray 26 (0, 0)) := (hbw.block w.heap.size (by omega)).trans (heap_alloc_new w _)
    obtain ⟨q0, q1, q2, q3, -, -, -, -⟩ := vbox4 hbox
    clear hbox
    have HCS := Lib.hid hcs
    have HF := Lib.hid hfz
    by_cases hlt : k < x.l.length
    · have hls : x.l[k]? = some x.l[k] := List.getElem?_eq_getElem hlt
      have hlk : k < x.ks.length := by have := HKL.out; omega
      have hks : x.ks[k]? = some x.ks[k] := List.getElem?_eq_getElem hlk
      have hpk : x.pes[k]? = some ⟨true, x.ks[k], x.l[k]⟩ := by rw [HPL.out, List.getElem?_map, (List.getElem?_zip_eq_some (z := (x.ks[k], x.l[k]))).2 ⟨hks, hls⟩]; rfl
      generalize x.l[k] = y at *
      generalize x.ks[k] = u at *
      obtain ⟨b, off, hka, -, hb1, hb2, h0⟩ := key_at hx.keys hks
      obtain ⟨c, off', hla, -, hc1, hc2, g0, g1, g2, g3⟩ := vals_at hx.sl hls
      have hw0 : Below w.heap.size w wr := ((Below.refl w.heap.size w).alloc (Nat.le_refl _) _).trans (hbw.mono (by omega))
      rw [← hw0.cell (p := ⟨_, _, none⟩) hc2] at g0 g1 g2 g3
      rw [← hw0.cell (p := ⟨_, _, none⟩) hb2] at h0
      rw [hla] at q2
      rw [hka] at q3
      have hsp := fun q (hq : q < x.l.length * 6) => hcs.spare (q := q) (by rw [HLEN.out]; exact hq)
      obtain ⟨v0, d0⟩ := hsp (k * 6) (by omega)
      obtain ⟨v1, d1⟩ := hsp (k * 6 + 1) (by omega)
      obtain ⟨v2, d2⟩ := hsp (k * 6 + 2) (by omega)
      obtain ⟨v3, d3⟩ := hsp (k * 6 + 3) (by omega)
      obtain ⟨v4, d4⟩ := hsp (k * 6 + 4) (by omega)
      obtain ⟨v5, d5⟩ := hsp (k * 6 + 5) (by omega)
      have f0 := hfz (k * 6)
      have f1 := hfz (k * 6 + 1)
      have f2 := hfz (k * 6 + 2)
      have f3 := hfz (k * 6 + 3)
      have f4 := hfz (k * 6 + 4)
      have f5 := hfz (k * 6 + 5)
      have hcc : c < wr.heap.size := by omega
      have hB1 : w.heap.size + 1 < wr.heap.size := by omega
      have hB0 : w.heap.size < wr.heap.size := by omega
      have hbb : b < wr.heap.size := by omega
      have i1 : (k : Int) < x.ks.length := by omega
      have i2 : (k : Int) < x.l.length := by omega
      have HPK := Lib.hid hpk
      have HLA := Lib.hid hla
      have HX := Lib.hid hx
      have HBW := Lib.hid hbw
      have HKA := Lib.hid hka
      rw [hla]
      clear hcs hfz hls hks hpk hla hka hmk hsp hw0 hx hbw
      go_wp2_with fail
      have hR := HCS.out.step8 (y := y) (s := u) (by rw [HLEN.out]; exact hlt) HPK.out
      have hS := setL_size (w.heap.size + 1) [.int .u8 y.k, .string y.t, .slice y.la y.l.length y.lc, .slice y.ka y.ks.length y.kc] wr (k * 6 + 2)
      have hFz := fun q => (setL_frozen (w.heap.size + 1) [.int .u8 y.k, .string y.t, .slice y.la y.l.length y.lc, .slice y.ka y.ks.length y.kc] wr (k * 6 + 2) ⟨w.heap.size + 1, q, none⟩).trans (HF.out q)
      have hBl := setL_below [.int .u8 y.k, .string y.t, .slice y.la y.l.length y.lc, .slice y.ka y.ks.length y.kc] wr (k * 6 + 2) HBW.out (Nat.le_refl _)
      have hKn := setL_knd (B := w.heap.size + 1) [.int .u8 y.k, .string y.t, .slice y.la y.l.length y.lc, .slice y.ka y.ks.length y.kc] wr (k * 6 + 2) HKN.out
      have hE : ((((wr.setCell ⟨w.heap.size + 1, k * 6 + 2, none⟩ (.int .u8 y.k)).setCell ⟨w.heap.size + 1, k * 6 + 2 + 1, none⟩ (.string y.t)).setCell ⟨w.heap.size + 1, k * 6 + 2 + 2, none⟩ (.slice y.la y.l.length y.lc)).setCell ⟨w.heap.size + 1, k * 6 + 2 + 3, none⟩ (.slice y.ka y.ks.length y.kc)) = setL wr (w.heap.size + 1) (k * 6 + 2) [.int .u8 y.k, .string y.t, .slice y.la y.l.length y.lc, .slice y.ka y.ks.length y.kc] := rfl
      rw [hE]
      generalize setL wr (w.heap.size + 1) (k * 6 + 2) [.int .u8 y.k, .string y.t, .slice y.la y.l.length y.lc, .slice y.ka y.ks.length y.kc] = W1 at *
      have hS2 := (setL_size (w.heap.size + 1) [.string u, .bool true] W1 (k * 6)).trans hS
      have hFz2 := fun q => (setL_frozen (w.heap.size + 1) [.string u, .bool true] W1 (k * 6) ⟨w.heap.size + 1, q, none⟩).trans (hFz q)
      have hBl2 := setL_below [.string u, .bool true] W1 (k * 6) hBl (Nat.le_refl _)
      have hKn2 := setL_knd (B := w.heap.size + 1) [.string u, .bool true] W1 (k * 6) hKn
      have hE2 : ((W1.setCell ⟨w.heap.size + 1, k * 6, none⟩ (.string u)).setCell ⟨w.heap.size + 1, k * 6 + 1, none⟩ (.bool true)) = setL W1 (w.heap.size + 1) (k * 6) [.string u, .bool true] := rfl
      rw [hE2]
      clear hS hFz hBl hKn hE hE2
      generalize setL W1 (w.heap.size + 1) (k * 6) [.string u, .bool true] = W2 at *
      have hBs : w.heap.size + 1 < W2.heap.size := by rw [hS2]; exact hB1
      exact ⟨⟨k + 1, by omega, by go_num, hR.alloc hBs _, fun o => frz_alloc hFz2 hBs _ o, by rw [World.size_alloc]; omega, hBl2.alloc (by omega) _, hKn2.alloc _⟩, by simp [intOf]; omega⟩
    · obtain rfl : k = x.l.length := by omega
      rw [← HLEN.out] at hcs
      have hc0 := Lib.hid (sortP_c (w.heap.size + 1) x.l.length x.l.length x.pes wr HLEN.out (hcs.holds hfz) (by omega) hn)
      have hw0 : Below w.heap.size w wr := ((Below.refl w.heap.size w).alloc (Nat.le_refl _) _).trans (hbw.mono (by omega))
      have HW := Lib.hid hw0
      clear hcs hfz hmk HCS HF hw0 hbw
      go_wp2_with (go_at_call 91; refine hc0.out.mono ?_; rintro e w2 ⟨rfl, hsl, hb, hkk⟩; have HSL := Lib.hid hsl; have HB := Lib.hid hb; have HKK := Lib.hid hkk; clear hsl hb hkk)
      go_ret
      have hz := HB.out.size
      exact ⟨w.heap.size + 1, by rw [HPS.out]; rfl, HSL.out, by omega, by omega, HW.out.trans (HB.out.mono (by omega)), HKK.out _ HKN.out⟩
theorem pentries_c (w : World) (x : AV) (hx : Rd w x) (hw : x.w ≤ 1048576) (hkl : x.k = 8 → x.ks.length = x.l.length) : Calls Try.prog 84 #[x.val] w (PEntPost x w) := by
  by_cases h8 : x.k = 8
  · exact pentries_m w x hx hw h8 (hkl h8)
  · exact pentries_l w x hx hw h8
end Go.Proofs.Ytmhkacafilpliaa
