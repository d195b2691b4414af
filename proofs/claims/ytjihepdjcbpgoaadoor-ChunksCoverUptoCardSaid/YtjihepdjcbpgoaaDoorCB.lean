/-
  math/bits.Mul, slices.Repeat at one number, chunks.partners: which element of a side is base's partner. Conditions: the lists lie in memory, lengths and weights are bounded; strconv's table of powers holds what its initialiser lays.
-/
import Derived.Test.YtjihepdjcbpgoaaDoorMF
import Derived.Test.YtjihepdjcbpgoaaDoorCA
import Derived.Shelf.Bits.Mul64
import Derived.Laws.CopyOwn
namespace Go.Proofs.YtjihepdjcbpgoaaDoor
open Go.RowKit Go.Sort

set_option maxHeartbeats 1000000 in
theorem mul64_c (x y : Nat) (hx : x < 18446744073709551616) (hy : y < 18446744073709551616) (w : World) :
    Calls Tryd.prog 80 #[.int .u64 x, .int .u64 y] w fun e w' => e = .returned (.tuple #[.int .u64 ((x * y / 18446744073709551616 : Nat) : Int), .int .u64 ((x * y % 18446744073709551616 : Nat) : Int)]) ∧ w' = w := by
  obtain ⟨bd, bt, bw, hhi⟩ := Lib.mul64_hi x y hx hy
  have ba := Lib.half_mul_le (a := x / 4294967296) (b := y / 4294967296) (by omega) (by omega)
  have bb := Lib.half_mul_le (a := x / 4294967296) (b := y % 4294967296) (by omega) (by omega)
  have bc := Lib.half_mul_le (a := x % 4294967296) (b := y / 4294967296) (by omega) (by omega)
  have ba' : x / 4294967296 * (y / 4294967296) < 18446744073709551616 := by omega
  have bb' : x / 4294967296 * (y % 4294967296) < 18446744073709551616 := by omega
  have bc' : x % 4294967296 * (y / 4294967296) < 18446744073709551616 := by omega
  have bh1 : x / 4294967296 * (y / 4294967296) + (x / 4294967296 * (y % 4294967296) + x % 4294967296 * (y % 4294967296) / 4294967296) / 4294967296 < 18446744073709551616 := by omega
  have bh : x / 4294967296 * (y / 4294967296) + (x / 4294967296 * (y % 4294967296) + x % 4294967296 * (y % 4294967296) / 4294967296) / 4294967296 + ((x / 4294967296 * (y % 4294967296) + x % 4294967296 * (y % 4294967296) / 4294967296) % 4294967296 + x % 4294967296 * (y / 4294967296)) / 4294967296 < 18446744073709551616 := by omega
  go_enter Tryd.func80, Tryd.ntmps80
  go_wp2
  simp only [Mul64.maskN x hx, Mul64.maskN y hy, Mul64.divN, Mul64.mulN, Mul64.addN, Mul64.wrapN _ bd, Mul64.wrapN _ bb', Mul64.wrapN _ bt, Mul64.maskN _ bt, Mul64.wrapN _ bc', Mul64.wrapN _ bw, Mul64.wrapN _ ba', Mul64.wrapN _ bh1, Mul64.wrapN _ bh, Mul64.wrapM (x * y)]
  rw [hhi]
  go_ret2
  exact ⟨rfl, rfl⟩
theorem mul1_c (n : Nat) (hn : n ≤ 1048576) (w : World) : Calls Tryd.prog 68 #[.int .u64 1, .int .u64 (n : Int)] w fun e w' => e = .returned (.tuple #[.int .u64 0, .int .u64 (n : Int)]) ∧ w' = w := by
  have c64 := mul64_c 1 n (by omega) (by omega) w
  rw [Nat.one_mul, Nat.div_eq_of_lt (by omega), Nat.mod_eq_of_lt (by omega)] at c64
  have HC := Lib.hid (show Calls Tryd.prog 80 #[.int .u64 1, .int .u64 (n : Int)] w fun e w' => e = .returned (.tuple #[.int .u64 0, .int .u64 (n : Int)]) ∧ w' = w from c64)
  clear c64
  go_enter Tryd.func68, Tryd.ntmps68
  go_wp2_with (go_at_call 80; refine HC.out.mono ?_; rintro e w' ⟨rfl, hw⟩; rw [hw])
  go_ret2
  exact ⟨rfl, rfl⟩

/-- Of a row, the first k are filled. -/
def repF (k j : Nat) : Value := if j < k then .int .i64 (-1) else .int .i64 0
theorem rep_splice {n k m : Nat} (h : k + m ≤ n) : splice ((List.range n).map (repF k)) k (List.replicate m (.int .i64 (-1))) = (List.range n).map (repF (k + m)) := by
  unfold splice
  apply List.ext_getElem
  · simp; omega
  · intro j h1 h2
    have hj : j < n := by simpa using h2
    simp only [List.getElem_append, List.getElem_take, List.getElem_replicate, List.getElem_drop, List.getElem_map, List.getElem_range, List.length_take, List.length_map, List.length_range, List.length_replicate]
    by_cases e1 : j < k
    · rw [dif_pos (by omega)]; simp [repF, e1, show j < k + m by omega]
    · rw [dif_neg (by omega)]
      by_cases e2 : j < k + m
      · rw [dif_pos (by omega)]; simp [repF, e2]
      · rw [dif_neg (by omega)]
        simp only [repF]
        rw [if_neg (by omega), if_neg e2]
theorem copy_rep {W : World} {B n k m sg so sLen sCap dLen dCap : Nat} (hrow : W.heap[B]? = some (.cells ((List.range n).map (repF k)).toArray 3 (0, 0))) (hm : m = Nat.min sLen dLen) (hkm : k + m ≤ n) (hsrc : ∀ j, j < m → W.cell? ⟨sg, so + j, none⟩ = some (.int .i64 (-1))) :
    ∃ W', (Builtin.copy_ #[54, 54] 3 #[.slice (some ⟨B, k, none⟩) dLen dCap, .slice (some ⟨sg, so, none⟩) sLen sCap]).run Tryd.prog W = .ok (.int .i64 (m : Int)) W' ∧ W'.heap[B]? = some (.cells ((List.range n).map (repF (k + m))).toArray 3 (0, 0)) ∧ ∀ B0 w0, B0 ≤ B → Below B0 w0 W → Below B0 w0 W' := by
  have hsz : (Tryd.prog.info? 3).map (·.size) = some 1 := by kernel_rfl
  have h := run_copy_row (P := Tryd.prog) W 54 54 3 3 B k dLen dCap ⟨sg, so, none⟩ sLen sCap _ 3 (List.replicate m (.int .i64 (-1))) Tryd.underlying54 hsz hrow (by rw [List.length_replicate, hm]) (fun j v hv => by
    rw [List.getElem?_replicate] at hv
    split at hv
    · rename_i hj; cases hv; rw [add_none]; exact hsrc j hj
    · cases hv) (by simp; exact hkm) (fun v hv => by rw [List.eq_of_mem_replicate hv]; rfl)
  rw [List.length_replicate] at h
  refine ⟨_, h, ?_, fun B0 w0 hB hb => below_setRow hb hB _⟩
  rw [setRow_heap W B _ _ 3 _ hrow]
  have hs := rep_splice (n := n) (k := k) (m := m) hkm
  unfold splice at hs
  rw [List.length_replicate, ← List.append_assoc] at hs
  simp only
  rw [hs]
def RepPost (n : Nat) (w : World) (e : Ending) (w' : World) : Prop := e = .returned (.slice (some ⟨w.heap.size, 0, none⟩) n n) ∧ RowF w' w.heap.size n 3 (fun _ => .int .i64 (-1)) ∧ Below w.heap.size w w'
set_option maxRecDepth 100000 in
set_option maxHeartbeats 3200000 in
theorem rep_c (w : World) (g0 o0 n : Nat) (hn : n ≤ 1048576) (hc : w.cell? ⟨g0, o0, none⟩ = some (.int .i64 (-1))) (hg0 : g0 < w.heap.size) : Calls Tryd.prog 57 #[.slice (some ⟨g0, o0, none⟩) 1 1, .int .i64 (n : Int)] w (RepPost n w) := by
  have hmk := make_ints n (by omega)
  have HM := fun W => Lib.hid (mul1_c n hn W)
  have hneg : ¬ (n : Int) < 0 := by omega
  have hu1 : IntKind.u64.wrap (1 : Int) = 1 := by rw [IntKind.wrap_u64]; omega
  have hun : IntKind.u64.wrap (n : Int) = (n : Int) := by rw [IntKind.wrap_u64]; omega
  have hin : IntKind.i64.wrap (n : Int) = (n : Int) := IntWalk.i64_in _ (by omega)
  have hmax : ¬ (9223372036854775807 : Int) < (n : Int) := by omega
  have hrow0 : RowF (w.alloc (.cells ((List.range n).map fun _ => Value.int .i64 0).toArray 3)) w.heap.size n 3 (fun _ => .int .i64 0) := heap_alloc_new w _
  have hr0 : (w.alloc (.cells ((List.range n).map fun _ => Value.int .i64 0).toArray 3)).heap[w.heap.size]? = some (.cells ((List.range n).map (repF 0)).toArray 3 (0, 0)) := by
    refine hrow0.cong fun j _ => ?_
    rw [repF, if_neg (Nat.not_lt_zero j)]
  have hba := (Below.refl w.heap.size w).alloc (Nat.le_refl _) (.cells ((List.range n).map fun _ => Value.int .i64 0).toArray 3)
  obtain ⟨c0, hc0⟩ : ∃ c0, c0 = Nat.min 1 n := ⟨_, rfl⟩
  have hc0' : c0 ≤ 1 ∧ c0 ≤ n ∧ (0 < n → 0 < c0) := by rw [hc0]; exact ⟨Nat.min_le_left _ _, Nat.min_le_right _ _, fun h => Nat.lt_min.2 ⟨Nat.one_pos, h⟩⟩
  obtain ⟨w2, hcp, h2, hb2⟩ := copy_rep (sg := g0) (so := o0) (sLen := 1) (sCap := 1) (dLen := n) (dCap := n) hr0 hc0 (by omega) (fun j hj => by
    obtain rfl : j = 0 := by omega
    exact (hba.cell (p := ⟨g0, o0, none⟩) hg0).trans hc)
  rw [Nat.zero_add] at h2
  have H2 := Lib.hid h2
  have HB2 := Lib.hid (hb2 w.heap.size w (Nat.le_refl _) hba)
  have HC0 := Lib.hid hc0'
  clear hrow0 hr0 hc0 hba h2 hb2 hc hc0'
  go_enter Tryd.func57, Tryd.ntmps57
  go_wp2_with (go_at_call 68; refine (HM _).out.mono ?_; rintro e w' ⟨rfl, hw⟩; rw [hw])
  clear hmk hcp
  go_loopw [8] (fun s8 wr => ∃ k : Nat, k ≤ n ∧ (0 < n → 0 < k) ∧ s8 = .int .i64 k ∧ wr.heap[w.heap.size]? = some (.cells ((List.range n).map (repF k)).toArray 3 (0, 0)) ∧ Below w.heap.size w wr) (fun s8 _ => n - (intOf s8).toNat)
  case atStart => exact ⟨c0, HC0.out.2.1, HC0.out.2.2, rfl, H2.out, HB2.out⟩
  case round =>
    obtain ⟨k, hk, hk1, rfl, hrow, hb⟩ := hrel
    have HROW := Lib.hid hrow
    have HB := Lib.hid hb
    clear hrow hb
    by_cases hlt : k < n
    · have hlt' : (k : Int) < (n : Int) := by omega
      have hk0 : (0 : Int) ≤ (k : Int) := by omega
      have hkn : (k : Int) ≤ (n : Int) := by omega
      have hne : ¬ n = k := by omega
      have hkp : 0 < k := hk1 (by omega)
      obtain ⟨m, hm⟩ : ∃ m, m = Nat.min k (n - k) := ⟨_, rfl⟩
      have hm' : m ≤ k ∧ m ≤ n - k ∧ 0 < m := by
        have h : m = min k (n - k) := hm
        omega
      have hwm : IntKind.i64.wrap ((k : Int) + (m : Int)) = ((k + m : Nat) : Int) := by rw [IntWalk.i64_in _ (by omega)]; omega
      obtain ⟨w3, hcp, h3, hb3⟩ := copy_rep (W := wr.drew) (sg := w.heap.size) (so := 0) (sLen := k) (sCap := n) (dLen := n - k) (dCap := n - k) (m := m) HROW.out hm (by omega) (fun j hj => by
        show wr.cell? ⟨w.heap.size, 0 + j, none⟩ = _
        rw [Nat.zero_add]
        simp only [World.cell?, HROW.out, List.getElem?_toArray, List.getElem?_map]
        rw [List.getElem?_range (by omega)]
        simp [repF, show j < k by omega])
      have H3 := Lib.hid h3
      have HB3 := Lib.hid (hb3 w.heap.size w (Nat.le_refl _) HB.out.drew)
      clear hm hk1 h3 hb3
      go_upto_region 9 with fail
      go_region
      go_wp2_with fail
      exact ⟨⟨k + m, by omega, fun _ => by omega, by go_num, H3.out, HB3.out⟩, by simp [intOf]; omega⟩
    · obtain rfl : k = n := by omega
      have hge : ¬ (k : Int) < (k : Int) := by omega
      go_wp2_with fail
      go_ret
      refine ⟨rfl, ?_, HB.out⟩
      have hh : RowF wr w.heap.size k 3 (repF k) := HROW.out
      exact hh.cong fun j hj => by rw [repF, if_pos hj]

/-- A base element's partner, as the program's rows have it. -/
def pInt (P : List (Nat × Nat)) (i : Nat) : Int := match part P i with
  | some j => (j : Int)
  | none => -1
theorem pInt_nil (i : Nat) : pInt [] i = -1 := rfl
theorem pInt_snoc {P : List (Nat × Nat)} {i j : Nat} (h : ∀ p ∈ P, p.1 ≠ i) (k : Nat) : pInt (P ++ [(i, j)]) k = if k = i then (j : Int) else pInt P k := by
  unfold pInt
  rw [part_snoc h]
  by_cases e : k = i
  · rw [if_pos e, if_pos e]
  · rw [if_neg e, if_neg e]
theorem early_rise {α : Type} [DecidableEq α] {X Y : List α} {i k : Nat} {P : List (Nat × Nat)} (h : Early X Y i k P) : Rise P := h.at_.2
theorem early_many {a b : List Val} {P : List (Nat × Nat)} (h : Early (labs 0 a) (labs 1 b) 0 0 P) : P.length ≤ a.length ∧ ∀ p ∈ P, p.1 < a.length ∧ p.2 < b.length := by
  refine ⟨?_, fun p hp => ?_⟩
  · rw [h.len]
    refine Nat.le_trans (lcs_le_l _ _) ?_
    rw [List.drop_zero, labs_len]; exact Nat.le_refl _
  · have := ((h.at_).1 p hp).2.2.lt
    rwa [labs_len, labs_len] at this
theorem prs_at {w : World} {lo hi : Nat} {a : Option Addr} {l : List (Nat × Nat)} (h : SlE prE 2 w lo hi a l) {k : Nat} {y : Nat × Nat} (hk : l[k]? = some y) :
    ∃ b off, a = some ⟨b, off, none⟩ ∧ lo ≤ b ∧ b < hi ∧ b < w.heap.size ∧ w.cell? ⟨b, off + k * 2, none⟩ = some (.int .i64 y.1) ∧ w.cell? ⟨b, off + k * 2 + 1, none⟩ = some (.int .i64 y.2) := by
  have hl : k < l.length := (List.getElem?_eq_some_iff.1 hk).1
  obtain ⟨b, off, e, g1, g2, g3, g4⟩ := h (by omega)
  exact ⟨b, off, e, g1, g2, g3, g4 k y hk 0 _ rfl, g4 k y hk 1 _ rfl⟩
def PartPost (a b : List Val) (n : Nat) (w : World) (e : Ending) (w' : World) : Prop :=
  ∃ (G : Nat) (P : List (Nat × Nat)), e = .returned (.slice (some ⟨G, 0, none⟩) n n) ∧ Early (labs 0 a) (labs 1 b) 0 0 P ∧ RowF w' G n 3 (fun i => .int .i64 (pInt P i)) ∧ w.heap.size ≤ G ∧ Below w.heap.size w w'
set_option maxRecDepth 100000 in
set_option maxHeartbeats 3200000 in
theorem partners_c (w : World) (x y : LA) (hx : x.Rd w) (hy : y.Rd w) (hP : Pow w) : Calls Tryd.prog 36 #[.slice x.a x.l.length x.c, .slice y.a y.l.length y.c] w (PartPost x.v y.v x.l.length w) := by
  have hxl := hx.len
  have hba := (Below.refl w.heap.size w).alloc (Nat.le_refl _) (.cells #[.int .i64 (-1)] 3)
  have hcn : (w.alloc (.cells #[.int .i64 (-1)] 3)).cell? ⟨w.heap.size, 0, none⟩ = some (.int .i64 (-1)) := (Go.Joins.cell_of_block (heap_alloc_new w _) 0).trans rfl
  have HR := Lib.hid (rep_c (w.alloc (.cells #[.int .i64 (-1)] 3)) w.heap.size 0 x.l.length hxl hcn (by simp))
  have HPR := fun W (h : Below w.heap.size w W) => Lib.hid (pairs_c W x y (hx.up h) (hy.up h) (hP.below h))
  have hvx : x.v.length = x.l.length := List.length_map _
  have HVX := Lib.hid hvx
  have HBA := Lib.hid hba
  clear hba hcn hvx
  go_enter Tryd.func36, Tryd.ntmps36
  go_upto_region 2 with (go_at_call 57; refine HR.out.mono ?_; rintro e w2 ⟨rfl, hrow, hb2⟩)
  have hbw2 := below_via HBA.out hb2
  obtain ⟨B, hB⟩ : ∃ B, B = w.heap.size + 1 := ⟨_, rfl⟩
  rw [World.size_alloc, ← hB] at hrow
  rw [← hB]
  have hBw : w.heap.size ≤ B := by omega
  have HROW := Lib.hid hrow
  have HBW2 := Lib.hid hbw2
  have hB2 := hrow.lt
  clear hrow hb2 hbw2 hB HR
  go_upto_region 3 with (go_at_call 11; refine (HPR _ HBW2.out).out.mono ?_; rintro e w3 ⟨G, P, rfl, he, hown, hb3⟩)
  obtain ⟨hPl, hPk⟩ := early_many he
  rw [HVX.out] at hPl
  have HE := Lib.hid he
  have hsl : SlE prE 2 w3 w2.heap.size w3.heap.size (some ⟨G, 0, none⟩) P := own_sl prE_len hown
  have HSL := Lib.hid hsl
  have HPK := Lib.hid hPk
  have HR3 := Lib.hid ((HROW.out.up hb3).cong (g := fun i => .int .i64 (pInt [] i)) fun j _ => rfl)
  have HBW3 := Lib.hid (below_via HBW2.out hb3)
  have hs3 := hb3.size
  clear he hsl hPk hb3 hown HROW HPR
  go_loopw [7, 16] (fun _ s16 wr => ∃ m : Nat, m ≤ P.length ∧ s16 = .int .i64 m ∧ RowF wr B x.l.length 3 (fun i => .int .i64 (pInt (P.take m) i)) ∧ SlE prE 2 wr w2.heap.size w3.heap.size (some ⟨G, 0, none⟩) P ∧ Below w.heap.size w wr ∧ w3.heap.size ≤ wr.heap.size) (fun _ s16 _ => P.length - (intOf s16).toNat)
  case atStart => exact ⟨0, Nat.zero_le _, by go_num, HR3.out, HSL.out, HBW3.out, Nat.le_refl _⟩
  case round =>
    obtain ⟨m, hm, rfl, hrow, hsl, hbw, hs⟩ := hrel
    have HRW := Lib.hid hrow
    have HSR := Lib.hid hsl
    have HBR := Lib.hid hbw
    by_cases hlt : m < P.length
    · have hk : P[m]? = some P[m] := List.getElem?_eq_getElem hlt
      have hpk := HPK.out P[m] (List.getElem_mem hlt)
      have htk : P.take (m + 1) = P.take m ++ [P[m]] := by rw [List.take_add_one, hk]; rfl
      have hne : ∀ q ∈ P.take m, q.1 ≠ P[m].1 := fun q hq => by
        obtain ⟨j, hj, rfl⟩ := List.mem_take_iff_getElem.1 hq
        have := (List.pairwise_iff_getElem.1 (early_rise HE.out) j m (by omega) hlt (by omega)).1
        omega
      generalize P[m] = p at *
      obtain ⟨pa, pb⟩ := p
      simp only at hpk hne
      rw [HVX.out] at hpk
      have HTK := Lib.hid htk
      have HNE := Lib.hid hne
      obtain ⟨b, off, hla, -, hbh, hb2, c0, c1⟩ := prs_at hsl hk
      cases hla
      simp only [Nat.zero_add] at c0 c1
      have hlt' : (m : Int) < (P.length : Int) := by omega
      have hm0 : (0 : Int) ≤ (m : Int) := by omega
      have hwm : IntKind.i64.wrap ((m : Int) + 1) = ((m + 1 : Nat) : Int) := by rw [IntWalk.i64_in _ (by omega)]; omega
      have hpa : (pa : Int) < (x.l.length : Int) := by omega
      have hpa0 : (0 : Int) ≤ (pa : Int) := by omega
      have hba := (Below.refl wr.heap.size wr).alloc (Nat.le_refl _) (.cells #[.int .i64 (pa : Int), .int .i64 (pb : Int)] 35)
      have hro := hrow.up hba
      have d0 := hro.cell (j := pa) (by omega)
      have d1 := hro.froz pa
      have HRO := Lib.hid (hro.set pa (.int .i64 (pb : Int)))
      have HS2 := Lib.hid ((hsl.keep (w' := wr.alloc (.cells #[.int .i64 (pa : Int), .int .i64 (pb : Int)] 35)) (by simp) (fun k _ _ h3 => hba.block k h3)).keep (w' := (wr.alloc (.cells #[.int .i64 (pa : Int), .int .i64 (pb : Int)] 35)).setCell ⟨B, pa, none⟩ (.int .i64 (pb : Int))) (by simp) (fun k h1 _ _ => Below.heap_setCell _ _ _ k (by show k ≠ B; omega)))
      have HB4 := Lib.hid ((hbw.trans (hba.mono hbw.size)).setCell (p := ⟨B, pa, none⟩) hBw (.int .i64 (pb : Int)))
      clear hrow hsl hbw hk htk hne hba hro
      go_wp2_with fail
      refine ⟨⟨m + 1, by omega, by go_num, HRO.out.cong fun j _ => ?_, HS2.out, HB4.out, by simp; omega⟩, by simp [intOf]; omega⟩
      rw [HTK.out, pInt_snoc HNE.out]
      by_cases e : j = pa
      · rw [if_pos e, if_pos e]
      · rw [if_neg e, if_neg e]
    · obtain rfl : m = P.length := by omega
      have hge : ¬ (P.length : Int) < (P.length : Int) := by omega
      rw [List.take_length] at hrow
      have HRF := Lib.hid hrow
      clear hrow hsl hbw
      go_wp2_with fail
      go_ret
      exact ⟨B, P, rfl, HE.out, HRF.out, hBw, HBR.out⟩
end Go.Proofs.YtjihepdjcbpgoaaDoor
