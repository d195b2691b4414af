/-
  posts.roots: the last node of each leaf; slices.Clip; posts.each. Conditions: the row of leaves lies in memory, each leaf is one of the row's numbers; lengths are bounded.
-/
import Derived.Test.YtmhkacafilpliaaJD
namespace Go.Proofs.Ytmhkacafilpliaa
open Go.RowKit Go.Sort Go.Shelf

/-- A made block, one cell by one. -/
def RowI (w : World) (B n : Nat) (t : TypeId) (f : Nat → Value) : Prop := w.heap[B]? = some (.cells ((List.range n).map f).toArray t (0, 0))
section
variable {w w' : World} {B n : Nat} {t : TypeId} {f g : Nat → Value}
theorem RowI.lt (h : RowI w B n t f) : B < w.heap.size := (Array.getElem?_eq_some_iff.1 (show w.heap[B]? = _ from h)).1
theorem RowI.keep (h : RowI w B n t f) (hb : w'.heap[B]? = w.heap[B]?) : RowI w' B n t f := hb.trans h
theorem RowI.up (h : RowI w B n t f) (hb : Below w.heap.size w w') : RowI w' B n t f := h.keep (hb.block B h.lt)
theorem RowI.cell (h : RowI w B n t f) {j : Nat} (hj : j < n) : w.cell? ⟨B, j, none⟩ = some (f j) := by
  simp [World.cell?, h.trans rfl, hj]
theorem RowI.froz (h : RowI w B n t f) (j : Nat) : w.frozen? ⟨B, j, none⟩ = false := by
  simp [World.frozen?, h.trans rfl]
theorem RowI.cong (h : RowI w B n t f) (e : ∀ j, j < n → f j = g j) : RowI w B n t g := by
  have : (List.range n).map f = (List.range n).map g := List.map_congr_left fun j hj => e j (List.mem_range.1 hj)
  rw [RowI, ← this]; exact h
theorem RowI.set (h : RowI w B n t f) (j : Nat) (v : Value) : RowI (w.setCell ⟨B, j, none⟩ v) B n t (fun i => if i = j then v else f i) := by
  rw [RowI, Go.Joins.block_setCell h v]
  congr 2
  apply Array.ext
  · simp
  · intro i h1 h2
    simp only [List.setIfInBounds_toArray, List.getElem_toArray, List.getElem_set, List.getElem_map, List.getElem_range]
    by_cases e : j = i
    · rw [if_pos e, if_pos e.symm]
    · rw [if_neg e, if_neg (fun h => e h.symm)]
end
abbrev natE (n : Nat) : List Value := [.int .i64 (n : Int)]
theorem nat_at {w : World} {lo hi : Nat} {a : Option Addr} {l : List Nat} (h : SlE natE 1 w lo hi a l) {k : Nat} {y : Nat} (hk : l[k]? = some y) :
    ∃ b off, a = some ⟨b, off, none⟩ ∧ lo ≤ b ∧ b < hi ∧ b < w.heap.size ∧ w.cell? ⟨b, off + k, none⟩ = some (.int .i64 (y : Int)) := by
  have hl : k < l.length := (List.getElem?_eq_some_iff.1 hk).1
  obtain ⟨b, off, e, g1, g2, g3, g4⟩ := h (by omega)
  have := g4 k y hk 0 _ rfl
  rw [Nat.mul_one, Nat.add_zero] at this
  exact ⟨b, off, e, g1, g2, g3, this⟩
theorem info_in : (Try.prog.info? 3).map (fun i => (i.zero, i.size, i.bytes)) = some (some (.int .i64 0), 1, 8) := by kernel_rfl

/-- The last place ahead of k at which l stands; 0 where it stands nowhere. -/
def lastN (L : List Nat) (l : Nat) : Nat → Nat
  | 0 => 0
  | k + 1 => if L[k]? = some l then k else lastN L l k
theorem lastN_lt {L : List Nat} {l : Nat} : ∀ k, lastN L l k = 0 ∨ lastN L l k < k
  | 0 => .inl rfl
  | k + 1 => by
    unfold lastN
    split
    · exact .inr (Nat.lt_succ_self k)
    · rcases lastN_lt (L := L) (l := l) k with h | h
      · exact .inl h
      · exact .inr (by omega)
theorem lastN_root {L : List Nat} {l i : Nat} (h : L[i]? = some l) : ∀ k, i < k → k ≤ L.length → (lastN L l k = i ↔ ∀ j, i < j → j < k → L[j]? ≠ some l)
  | 0, hk, _ => by omega
  | k + 1, hk, hl => by
    unfold lastN
    by_cases e : L[k]? = some l
    · rw [if_pos e]
      constructor
      · intro h1 j h2 h3; omega
      · intro h1
        rcases Nat.lt_or_ge i k with h2 | h2
        · exact absurd e (h1 k h2 (Nat.lt_succ_self k))
        · omega
    · rw [if_neg e]
      rcases Nat.lt_or_ge i k with h2 | h2
      · rw [lastN_root h k h2 (by omega)]
        constructor
        · intro h1 j h3 h4
          rcases Nat.lt_or_ge j k with h5 | h5
          · exact h1 j h3 h5
          · obtain rfl : j = k := by omega
            exact e
        · intro h1 j h3 h4; exact h1 j h3 (by omega)
      · obtain rfl : i = k := by omega
        exact absurd h e
theorem last_isRoot {L : List Nat} {l i : Nat} (h : L[i]? = some l) : decide (lastN L l L.length = i) = isRoot L i := by
  have hi := (List.getElem?_eq_some_iff.1 h).1
  rw [Bool.eq_iff_iff, decide_eq_true_iff, isRoot_iff h, lastN_root h _ hi (Nat.le_refl _)]
  constructor
  · intro h1 j h2 e
    exact h1 j h2 (List.getElem?_eq_some_iff.1 e).1 e
  · intro h1 j h2 _; exact h1 j h2
/-- The roots among the first k. -/
def rootsN (L : List Nat) (k : Nat) : List Nat := (List.range k).filter (isRoot L)
theorem rootsN_succ (L : List Nat) (k : Nat) : rootsN L (k + 1) = rootsN L k ++ (if isRoot L k = true then [k] else []) := by
  rw [rootsN, List.range_succ, List.filter_append]
  by_cases h : isRoot L k = true
  · rw [if_pos h]; simp [rootsN, h]
  · rw [if_neg h]; simp [rootsN, h]
theorem rootsN_len (L : List Nat) (k : Nat) : (rootsN L k).length ≤ k := by
  have := List.length_filter_le (isRoot L) (List.range k)
  simpa [rootsN] using this

theorem clip_in (w : World) (a : Option Addr) (cap n : Nat) (hn : n ≤ cap) : Calls Try.prog 45 #[.slice a n cap] w fun e w' => e = .returned (.slice a n n) ∧ w = w' := by
  go_enter Try.func45, Try.ntmps45
  go_wp2_with fail
  go_ret
  exact ⟨rfl, rfl⟩
theorem clip_lb (w : World) (a : Option Addr) (cap n : Nat) (hn : n ≤ cap) : Calls Try.prog 44 #[.slice a n cap] w fun e w' => e = .returned (.slice a n n) ∧ w = w' := by
  go_enter Try.func44, Try.ntmps44
  go_wp2_with fail
  go_ret
  exact ⟨rfl, rfl⟩
theorem each_c (w : World) (e : PE) : Calls Try.prog 43 #[e.val] w fun r w' => r = .returned (.func (.func 64) #[] #[.pointer (some ⟨w.heap.size, 0, none⟩)]) ∧ w' = w.alloc (.cells e.enc.toArray 75) := by
  go_enter Try.func43, Try.ntmps43
  go_wp2_with fail
  go_ret
  exact ⟨rfl, rfl⟩
def RootsPost (L : List Nat) (w : World) (e : Ending) (w' : World) : Prop :=
  ∃ a, e = .returned (.slice a (rootsL L).length (rootsL L).length) ∧ OwnC w' w.heap.size 3 1 a (rootsL L).length (rootsL L).length ((rootsL L).flatMap natE) ∧ Below w.heap.size w w'
set_option maxRecDepth 100000 in
set_option maxHeartbeats 3200000 in
theorem roots_c (w : World) (a : Option Addr) (cap : Nat) (L : List Nat) (h : SlE natE 1 w 0 w.heap.size a L) (hL : ∀ i l : Nat, L[i]? = some l → l < L.length) (hn : L.length ≤ 2097152) :
    Calls Try.prog 46 #[.slice a L.length cap] w (RootsPost L w) := by
  obtain ⟨i0, hi, hz0, hz1, hz2⟩ := info_parts info_in
  have hmk := fun W => run_make (P := Try.prog) W 31 3 i0 _ Try.underlying31 hi hz0 .i64 .i64 L.length L.length (by omega) (Int.le_refl _) (by rw [hz2]; omega) (by omega)
  rw [hz1, Int.toNat_natCast] at hmk
  obtain ⟨mc, hmc⟩ : ∃ mc, mc = madeCells (Value.int .i64 0).cells (L.length * 1) := ⟨_, rfl⟩
  rw [← hmc] at hmk
  have hrow : mc = ((List.range L.length).map fun l => Value.int .i64 ((lastN L l 0 : Nat) : Int)).toArray := by
    rw [hmc, Nat.mul_one]
    unfold madeCells lastN
    apply Array.ext
    · simp
    · intro i h1 h2; simp [Value.cells, Nat.mod_one]
  have HR := Lib.hid hrow
  have HL := Lib.hid hL
  have HI := Lib.hid (And.intro hi (And.intro hz0 (And.intro hz1 hz2)))
  clear hmc hrow hL hi hz0 hz1 hz2
  unfold RootsPost
  go_enter Try.func46, Try.ntmps46
  go_wp2_with fail
  go_loopw [4, 5, 14] (fun _ _ i wr => ∃ k : Nat, k ≤ L.length ∧ i = .int .i64 k ∧ Hid (RowI wr w.heap.size L.length 3 (fun l => .int .i64 ((lastN L l k : Nat) : Int))) ∧ Hid (Below w.heap.size w wr)) (fun _ _ i _ => L.length - (intOf i).toNat)
  case atStart => exact ⟨0, Nat.zero_le _, rfl, (show Hid _ from by show _ = _; rw [← HR.out]; exact heap_alloc_new w _), Lib.hid ((Below.refl _ w).alloc (Nat.le_refl _) _)⟩
  case round =>
    obtain ⟨k, hk, rfl, HW, HB⟩ := hrel
    by_cases hlt : k < L.length
    · have hls : L[k]? = some L[k] := List.getElem?_eq_getElem hlt
      have hlL := HL.out _ _ hls
      generalize L[k] = l at *
      obtain ⟨b, off, hla, -, hb1, hb2, g0⟩ := nat_at h hls
      rw [← HB.out.cell (p := ⟨_, _, none⟩) hb2] at g0
      have c0 := HW.out.cell hlL
      have f0 := HW.out.froz l
      have hlt' : (k : Int) < (L.length : Int) := by omega
      have hl' : (l : Int) < (L.length : Int) := by omega
      have HLS := Lib.hid hls
      have HA := Lib.hid hla
      clear hls hmk h
      rw [hla]
      clear hla
      go_wp2_with fail
      refine ⟨⟨k + 1, by omega, by go_num, Lib.hid ((HW.out.set l _).cong fun j hj => ?_), Lib.hid (HB.out.setCell (p := ⟨w.heap.size, l, none⟩) (Nat.le_refl _) _)⟩, by simp [intOf]; omega⟩
      unfold lastN
      rw [HLS.out]
      by_cases e : j = l
      · subst e; rw [if_pos rfl, if_pos rfl]
      · rw [if_neg e, if_neg (fun h => e (Option.some.inj h).symm)]
        cases k <;> rfl
    · obtain rfl : k = L.length := by omega
      go_wp2_with fail
      obtain ⟨hi, hz0, hz1, hz2⟩ := HI.out
      have HI0 := Lib.hid hi
      have HZ := Lib.hid (And.intro hz0 (And.intro hz1 hz2))
      clear hi hz0 hz1 hz2 HI hmk
      obtain ⟨W1, hW1⟩ : ∃ W, W = wr := ⟨_, rfl⟩
      subst hW1
      go_loopw [6, 7, 8, 26] (fun s6 _ _ i wr => ∃ (k : Nat) (a1 : Option Addr) (c1 : Nat), k ≤ L.length ∧ i = .int .i64 k ∧ s6 = .slice a1 (rootsN L k).length c1 ∧ Hid (RowI wr w.heap.size L.length 3 (fun l => .int .i64 ((lastN L l L.length : Nat) : Int))) ∧ Hid (wr.ownsRow (w.heap.size + 1) 3 1 (.slice a1 (rootsN L k).length c1) (rootsN L k).length ((rootsN L k).flatMap natE)) ∧ Hid (Below w.heap.size w wr)) (fun _ _ _ i _ => L.length - (intOf i).toNat)
      case atStart => exact ⟨0, none, 0, Nat.zero_le _, rfl, rfl, HW, Lib.hid (World.ownsRow_nil _ _ _ _), HB⟩
      case round =>
        clear HW HB
        obtain ⟨k, a1, c1, hk, rfl, rfl, HW, HO, HB⟩ := hrel
        by_cases hlt : k < L.length
        · have hls : L[k]? = some L[k] := List.getElem?_eq_getElem hlt
          have hlL := HL.out _ _ hls
          generalize L[k] = l at *
          obtain ⟨b, off, hla, -, hb1, hb2, g0⟩ := nat_at h hls
          rw [← HB.out.cell (p := ⟨_, _, none⟩) hb2] at g0
          have c0 := HW.out.cell hlL
          have hlt' : (k : Int) < (L.length : Int) := by omega
          have hl' : (l : Int) < (L.length : Int) := by omega
          have hroot := last_isRoot hls
          have hlen := rootsN_len L k
          have hsucc := rootsN_succ L k
          rw [hla]
          clear hla hls h
          cases hR : isRoot L k with
          | true =>
            rw [hR] at hroot
            have heq : (((lastN L l L.length : Nat) : Int) == (k : Int)) = true := by
              have := of_decide_eq_true hroot
              simp [this]
            rw [if_pos hR] at hsucc
            obtain ⟨v', w2, hrun, hown', hgr, -⟩ := run_append_own (P := Try.prog) (wr.alloc (.cells #[.int .i64 (k : Int)] 3)) (w.heap.size + 1) 31 31 3 i0 (.int .i64 0) 1 8 Try.underlying31 HI0.out HZ.out.1 HZ.out.2.1 HZ.out.2.2 rfl (by decide) _ _ _ (own_below HO.out ((Below.refl _ wr).alloc (Nat.le_refl _) _)) ⟨wr.heap.size, 0, none⟩ 1 1 [.int .i64 (k : Int)] rfl (cell_one_new _ _ _) (by simp [Value.oneCell']) (by simp only [maxLen]; omega) (by omega) (by have := HB.out.size; have := HW.out.lt; rw [World.size_alloc]; omega)
            have hnr : ∀ q, Value.ownBlock (.slice a1 (rootsN L k).length c1) = some q → w.heap.size + 1 ≤ q := fun q hq => (World.ownsRow.lt HO.out q hq).1
            have hrow2 : RowI w2 w.heap.size L.length 3 (fun l => .int .i64 ((lastN L l L.length : Nat) : Int)) :=
              (HW.out.up ((Below.refl _ wr).alloc (Nat.le_refl _) _)).keep (hgr.block _ (by have := HW.out.lt; rw [World.size_alloc]; omega) (fun e => by have := hnr _ e.symm; omega))
            have hb2 : Below w.heap.size w w2 := (HB.out.alloc HB.out.size _).grown hgr (by have := HB.out.size; rw [World.size_alloc]; omega) (fun q hq => by have := hnr q hq; omega)
            obtain ⟨g2, c2, rfl⟩ := ownsRow_succ hown'
            have hl2 : (rootsN L (k + 1)).length = (rootsN L k).length + 1 := by rw [hsucc]; simp
            have HO2 : Hid (w2.ownsRow (w.heap.size + 1) 3 1 (.slice (some ⟨g2, 0, none⟩) (rootsN L (k + 1)).length c2) (rootsN L (k + 1)).length ((rootsN L (k + 1)).flatMap natE)) := by
              show World.ownsRow _ _ _ _ _ _ _
              rw [hl2, hsucc, List.flatMap_append]
              exact hown'
            have HL2 := Lib.hid hl2
            have HRW := Lib.hid hrow2
            have HB2 := Lib.hid hb2
            clear hsucc hl2 hrow2 hb2 hown' hgr hroot hnr HO HW HB
            go_wp2_with (at_builtin; refine wl_append (s := .tmp 37) (x := .tmp 39) rfl rfl hrun ?_; clear hrun)
            refine ⟨⟨k + 1, some ⟨g2, 0, none⟩, c2, by omega, by go_num, by rw [HL2.out], HRW, HO2, HB2⟩, by simp [intOf]; omega⟩
          | false =>
            rw [hR] at hroot
            have heq : (((lastN L l L.length : Nat) : Int) == (k : Int)) = false := by
              have := of_decide_eq_false hroot
              simp; omega
            rw [if_neg (by rw [hR]; simp), List.append_nil] at hsucc
            have HS := Lib.hid hsucc
            clear hsucc hroot
            go_wp2_with fail
            refine ⟨⟨k + 1, a1, c1, by omega, by go_num, by rw [HS.out], HW, by rw [HS.out]; exact HO, HB⟩, by simp [intOf]; omega⟩
        · obtain rfl : k = L.length := by omega
          have hcap := own_cap HO.out rfl
          have HC := Lib.hid (own_clip HO.out (cap' := (rootsN L L.length).length) (Nat.le_refl _) hcap)
          clear HO HW hk hlt
          go_wp2_with (go_at_call 45; refine (clip_in _ _ _ _ hcap).mono ?_; rintro e w6 ⟨rfl, rfl⟩)
          go_ret
          refine ⟨a1, rfl, ⟨HC.out.1, HC.out.2.1, fun h0 => ?_⟩, HB.out⟩
          obtain ⟨g, cur, e1, e2, e3⟩ := HC.out.2.2 h0
          exact ⟨g, cur, e1, by omega, e3⟩
end Go.Proofs.Ytmhkacafilpliaa
