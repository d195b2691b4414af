/-
  The document's postorder: Of, of whatever value. Conditions: the tree lies in memory, its weight is bounded.
  The document's postorder: Of, of whatever value. Conditions: the tree lies in memory, its weight is bounded.
-/
import Derived.Test.YtmhkacafilpliaaJK
import Derived.Test.YtmhkacafilpliaaVE
namespace Go.Proofs.Ytmhkacafilpliaa
open Go.RowKit Go.Sort Go.Shelf

theorem radd_c (n₀ B : Nat) (hB : n₀ ≤ B) : ∀ (fuel : Nat) (x : AV) (kd : Bool) (key : ByteArray) (labs : List Lab) (lefts : List Nat) (W : World), RefI n₀ B labs lefts W → x.In W 0 n₀ → n₀ ≤ W.heap.size → x.v.within fuel = true → x.w ≤ 1048576 → lefts.length = labs.length →
    labs.length + (postF (fuel + 1) ⟨kd, key, x.v⟩).length ≤ 1048576 →
    Calls Try.prog 48 #[.pointer (some ⟨B, 0, none⟩), x.val, .bool kd, .string key] W (RAddPost n₀ B (labs ++ postF (fuel + 1) ⟨kd, key, x.v⟩) (lefts ++ leftF (fuel + 1) labs.length ⟨kd, key, x.v⟩) W)
  | 0, x, kd, key, labs, lefts, W, hI, hin, hn, hwi, hw, hl, hb => by
    have h2 := hwi
    rw [Val.within_0, Bool.and_eq_true] at h2
    have hk : x.v.k < 7 := by simpa using h2.2
    have hl0 := shape_leaf h2.1 hk
    rw [AV.v_l, List.map_eq_nil_iff] at hl0
    refine radd_step n₀ B 0 x kd key labs lefts W hB hI hin hn h2.1 hw hl hb (fun e he => ?_)
    have := pes_mem he
    rw [hl0] at this; cases this
  | fuel + 1, x, kd, key, labs, lefts, W, hI, hin, hn, hwi, hw, hl, hb => by
    refine radd_step n₀ B (fuel + 1) x kd key labs lefts W hB hI hin hn (within_parts hwi).1 hw hl hb (fun e he labs' lefts' W' h1 h2 h3 h4 h5 => ?_)
    have hm := pes_mem he
    have hyw : e.x.v.within fuel = true := (within_parts hwi).2 e.x.v (by rw [AV.v_l]; exact List.mem_map_of_mem hm)
    exact radd_c n₀ B hB fuel e.x e.kd e.key labs' lefts' W' h1 h2 h3 hyw (by have := AV.w_kid hm; omega) h4 h5

/-- Has no number behind i, ahead of k, the leaf of i? -/
def lastB (L : List Nat) (i : Nat) : Nat → Bool
  | 0 => true
  | k + 1 => lastB L i k && (decide (k ≤ i) || decide (L[k]? ≠ L[i]?))
theorem lastB_iff {L : List Nat} {i : Nat} : ∀ {k : Nat}, lastB L i k = true ↔ ∀ j, i < j → j < k → L[j]? ≠ L[i]?
  | 0 => by simp [lastB]
  | k + 1 => by
    unfold lastB
    rw [Bool.and_eq_true, lastB_iff, Bool.or_eq_true, decide_eq_true_iff, decide_eq_true_iff]
    constructor
    · rintro ⟨h1, h2⟩ j h3 h4
      rcases Nat.lt_or_ge j k with h5 | h5
      · exact h1 j h3 h5
      · obtain rfl : j = k := by omega
        rcases h2 with h2 | h2
        · omega
        · exact h2
    · intro h
      refine ⟨fun j h3 h4 => h j h3 (by omega), ?_⟩
      rcases Nat.lt_or_ge i k with h1 | h1
      · exact .inr (h k h1 (Nat.lt_succ_self k))
      · exact .inl h1
theorem lastB_start (L : List Nat) (i : Nat) : lastB L i (i + 1) = true := lastB_iff.2 fun j h1 h2 => by omega
theorem lastB_root {L : List Nat} {i l : Nat} (h : L[i]? = some l) : lastB L i L.length = isRoot L i := by
  rw [Bool.eq_iff_iff, lastB_iff, isRoot_iff h]
  constructor
  · intro h1 j h2 e
    exact h1 j h2 (List.getElem?_eq_some_iff.1 e).1 (by rw [e, h])
  · intro h1 j h2 _ e
    exact h1 j h2 (by rw [e, h])

/-- What stays while the roots are laid. -/
def KpB (B : Nat) (W W' : World) : Prop := W'.os = W.os ∧ W'.tape = W.tape ∧ W'.output = W.output ∧ W.heap.size ≤ W'.heap.size ∧ ∀ k, k < W.heap.size → k ≠ B → W'.heap[k]? = W.heap[k]?
section
variable {B : Nat} {W W' W'' : World}
theorem KpB.refl : KpB B W W := ⟨rfl, rfl, rfl, Nat.le_refl _, fun _ _ _ => rfl⟩
theorem KpB.trans (h : KpB B W W') (h2 : KpB B W' W'') : KpB B W W'' := ⟨h2.1.trans h.1, h2.2.1.trans h.2.1, h2.2.2.1.trans h.2.2.1, Nat.le_trans h.2.2.2.1 h2.2.2.2.1, fun k h3 h4 => (h2.2.2.2.2 k (Nat.lt_of_lt_of_le h3 h.2.2.2.1) h4).trans (h.2.2.2.2 k h3 h4)⟩
theorem KpB.of_below (h : Below W.heap.size W W') : KpB B W W' := ⟨h.os, h.tape, h.output, h.size, fun k h1 _ => h.block k h1⟩
theorem KpB.below (h : KpB B W W') {n : Nat} (hn : n ≤ B) (hs : n ≤ W.heap.size) : Below n W W' := ⟨h.1, h.2.1, h.2.2.1, h.2.2.2.1, fun k hk => h.2.2.2.2 k (by omega) (by omega)⟩
end
theorem box3 {w : World} {g : Nat} {a b c : Value} {t : TypeId} (h : w.heap[g]? = some (.cells #[a, b, c] t (0, 0))) :
    w.cell? ⟨g, 0, none⟩ = some a ∧ w.cell? ⟨g, 1, none⟩ = some b ∧ w.cell? ⟨g, 2, none⟩ = some c ∧ w.frozen? ⟨g, 0, none⟩ = false ∧ w.frozen? ⟨g, 1, none⟩ = false ∧ w.frozen? ⟨g, 2, none⟩ = false := by
  refine ⟨?_, ?_, ?_, ?_, ?_, ?_⟩ <;> simp [World.cell?, World.frozen?, h]
def RRootPost (B : Nat) (vl : Value) (af : Option Addr) (cf : Nat) (LF : List Nat) (W : World) (e : Ending) (W' : World) : Prop :=
  e = .returned (.tuple #[]) ∧ ∃ ar cr, W'.heap[B]? = some (.cells #[vl, .slice af LF.length cf, .slice ar (rootsL LF).length cr] 38 (0, 0)) ∧ W'.ownsRow W.heap.size 3 1 (.slice ar (rootsL LF).length cr) (rootsL LF).length ((rootsL LF).flatMap natE) ∧ KpB B W W'
set_option maxRecDepth 100000 in
set_option maxHeartbeats 3200000 in
theorem rroot_c (W : World) (B : Nat) (vl : Value) (af : Option Addr) (cf : Nat) (LF : List Nat) (lo hi' : Nat) (hbx : W.heap[B]? = some (.cells #[vl, .slice af LF.length cf, .slice none 0 0] 38 (0, 0))) (hB : hi' ≤ B) (hsl : SlE natE 1 W lo hi' af LF ∨ ∃ g, af = some ⟨g, 0, none⟩ ∧ SlE natE 1 W g (g + 1) af LF ∧ g ≠ B) (hn : LF.length ≤ 1048576) :
    Calls Try.prog 49 #[.pointer (some ⟨B, 0, none⟩)] W (RRootPost B vl af cf LF W) := by
  have hBl : B < W.heap.size := (Array.getElem?_eq_some_iff.1 hbx).1
  have hcell : ∀ W' (i l : Nat), KpB B W W' → LF[i]? = some l → ∃ b off, af = some ⟨b, off, none⟩ ∧ b < W.heap.size ∧ b ≠ B ∧ W'.cell? ⟨b, off + i, none⟩ = some (.int .i64 (l : Int)) := fun W' i l hk hl => by
    rcases hsl with h | ⟨g, -, h, hg⟩
    · obtain ⟨b, off, e, g1, g2, g3, g4⟩ := nat_at h hl
      exact ⟨b, off, e, g3, by omega, by rw [World.cell?_of_block (w := W) (hk.2.2.2.2 b g3 (by omega))]; exact g4⟩
    · obtain ⟨b, off, e, g1, g2, g3, g4⟩ := nat_at h hl
      exact ⟨b, off, e, g3, by omega, by rw [World.cell?_of_block (w := W) (hk.2.2.2.2 b g3 (by omega))]; exact g4⟩
  have HCE := Lib.hid hcell
  have HBX := Lib.hid hbx
  obtain ⟨i3, hi3, hy0, hy1, hy2⟩ := info_parts info_in
  have HI := Lib.hid (And.intro hi3 (And.intro hy0 (And.intro hy1 hy2)))
  clear hcell hsl hi3 hy0 hy1 hy2 hbx
  unfold RRootPost
  go_enter Try.func49, Try.ntmps49
  go_wp2_with fail
  go_loopw [2, 3, 4] (fun s2 _ _ wr => ∃ (i : Nat) (ar : Option Addr) (cr : Nat), i ≤ LF.length ∧ s2 = .int .i64 i ∧ Hid (wr.heap[B]? = some (.cells #[vl, .slice af LF.length cf, .slice ar (rootsN LF i).length cr] 38 (0, 0))) ∧
    Hid (wr.ownsRow W.heap.size 3 1 (.slice ar (rootsN LF i).length cr) (rootsN LF i).length ((rootsN LF i).flatMap natE)) ∧ Hid (KpB B W wr)) (fun s2 _ _ _ => LF.length - (intOf s2).toNat)
  case atStart => exact ⟨0, none, 0, Nat.zero_le _, rfl, HBX, Lib.hid (World.ownsRow_nil _ _ _ _), Lib.hid KpB.refl⟩
  case round =>
    obtain ⟨i, ar, cr, hi, rfl, HB, HO, HK⟩ := hrel
    obtain ⟨p0, p1, p2, f0, f1, f2⟩ := box3 HB.out
    have hBr : B < wr.heap.size := (Array.getElem?_eq_some_iff.1 HB.out).1
    by_cases hlt : i < LF.length
    · have hlt' : (i : Int) < (LF.length : Int) := by omega
      have hwi : IntKind.i64.wrap ((i : Int) + 1) = ((i + 1 : Nat) : Int) := by rw [IntWalk.i64_in _ (by omega)]; omega
      have hli : LF[i]? = some LF[i] := List.getElem?_eq_getElem hlt
      generalize LF[i] = l at hli
      obtain ⟨V, hV⟩ : ∃ V, V = wr := ⟨_, rfl⟩
      subst hV
      have HLI := Lib.hid hli
      clear hli
      go_wp2_with fail
      go_loopw [3, 4] (fun s3 s4 wr => ∃ j : Nat, i + 1 ≤ j ∧ j ≤ LF.length ∧ s4 = .int .i64 j ∧ s3 = .bool (lastB LF i j) ∧ Hid (Below V.heap.size V wr)) (fun _ s4 _ => LF.length - (intOf s4).toNat)
      case atStart => exact ⟨i + 1, Nat.le_refl _, hlt, by go_num, by rw [lastB_start], Lib.hid (Below.refl _ _)⟩
      case round =>
        obtain ⟨j, hj1, hj, rfl, rfl, HW⟩ := hrel
        have hbr := (HW.out.block B hBr).trans HB.out
        obtain ⟨p0, p1, p2, f0, f1, f2⟩ := box3 hbr
        have hBw : B < wr.heap.size := (Array.getElem?_eq_some_iff.1 hbr).1
        by_cases hjl : j < LF.length
        · have hjl' : (j : Int) < (LF.length : Int) := by omega
          have hj0 : (0 : Int) ≤ (j : Int) := by omega
          have hi0 : (0 : Int) ≤ (i : Int) := by omega
          have hlj : LF[j]? = some LF[j] := List.getElem?_eq_getElem hjl
          generalize LF[j] = m at hlj
          obtain ⟨b, off, e1, b1, b2, c1⟩ := HCE.out wr i l (HK.out.trans (KpB.of_below HW.out)) HLI.out
          obtain ⟨b', off', e2, -, -, c2⟩ := HCE.out wr j m (HK.out.trans (KpB.of_below HW.out)) hlj
          rw [e1] at e2
          cases e2
          cases hla : lastB LF i j with
          | false =>
            have hnx : lastB LF i (j + 1) = false := by rw [lastB, hla]; rfl
            have HNX := Lib.hid hnx
            have LD := Lib.hid (show ∀ W', Below wr.heap.size wr W' → _ from fun W' (h : Below wr.heap.size wr W') => (blk_v h p1))
            clear hnx hla c1 c2 hlj e1
            go_wp2_with fail
            clear p0 p1 p2 f0 f1 f2 hbr
            refine wp_region_bl (by kernel_rfl) (by kernel_rfl) ?_
            repeat (first | go_big_quiet_skip | (go_big_quiet_want; go_big_quiet_op; first | go_big_quiet_on | (refine ⟨_, fun _ _ => (by with_reducible rfl), ?_⟩; go_big_quiet_on) | (apply Exists.intro; refine ⟨fun w' hC => (by simp only [LD.out w' hC, Result.andThen]; exact ⟨trivial, rfl⟩), ?_⟩; go_big_quiet_on)))
            refine wpQuiet_nil ?_; intro wz hbz
            have hBz : B < wz.heap.size := by have := hbz.size; omega
            go_wp2_with fail
            exact ⟨⟨j + 1, by omega, by omega, by go_num, by rw [HNX.out], Lib.hid (HW.out.trans (hbz.mono HW.out.size))⟩, by simp [intOf]; omega⟩
          | true =>
            have hbw : b < wr.heap.size := World.block_lt_of_cell? wr _ c1
            have hnx : lastB LF i (j + 1) = decide (m ≠ l) := by
              rw [lastB, hla, hlj, HLI.out]
              have : ¬ j ≤ i := by omega
              simp [this]
            have hne : ((m : Int) != (l : Int)) = decide (m ≠ l) := by
              by_cases e : m = l
              · subst e; simp
              · simp [e]; omega
            have HNX := Lib.hid hnx
            rw [e1] at p1
            have LD := Lib.hid (show ∀ W', Below wr.heap.size wr W' → _ from fun W' (h : Below wr.heap.size wr W') => And.intro (blk_v h p1) (And.intro (blk_v h c1) (blk_v h c2)))
            generalize decide (m ≠ l) = dm at hne HNX
            clear hnx hla c1 c2 hlj e1
            go_wp2_with fail
            clear p0 p1 p2 f0 f1 f2 hbr
            refine wp_region_bl (by kernel_rfl) (by kernel_rfl) ?_
            repeat (first | go_big_quiet_skip | (go_big_quiet_want; go_big_quiet_op; first | go_big_quiet_on | (refine ⟨_, fun _ _ => (by with_reducible rfl), ?_⟩; go_big_quiet_on) | (apply Exists.intro; refine ⟨fun w' hC => (by simp only [LD.out w' hC, Result.andThen]; exact ⟨trivial, rfl⟩), ?_⟩; go_big_quiet_on)))
            refine wpQuiet_nil ?_; intro wz hbz
            have hBz : B < wz.heap.size := by have := hbz.size; omega
            go_wp2_with fail
            exact ⟨⟨j + 1, by omega, by omega, by go_num, by rw [HNX.out], Lib.hid (HW.out.trans (hbz.mono HW.out.size))⟩, by simp [intOf]; omega⟩
        · obtain rfl : j = LF.length := by omega
          have hjl' : ¬ (LF.length : Int) < (LF.length : Int) := by omega
          have hroot := lastB_root HLI.out
          have hsucc := rootsN_succ LF i
          have hlen := rootsN_len LF i
          have hK2 := HK.out.trans (KpB.of_below HW.out)
          have hO2 := own_below HO.out HW.out
          rw [hroot]
          cases hR : isRoot LF i with
          | true =>
            rw [if_pos hR] at hsucc
            obtain ⟨hi3, hy0, hy1, hy2⟩ := HI.out
            obtain ⟨v', w2, hrun, hown', hgr, -⟩ := run_append_own (P := Try.prog) (wr.alloc (.cells #[.int .i64 (i : Int)] 3)) W.heap.size 31 31 3 i3 (.int .i64 0) 1 8 Try.underlying31 hi3 hy0 hy1 hy2 rfl (by decide) _ _ _ (own_below hO2 ((Below.refl _ wr).alloc (Nat.le_refl _) _)) ⟨wr.heap.size, 0, none⟩ 1 1 [.int .i64 (i : Int)] rfl (cell_one_new _ _ _) (by simp [Value.oneCell']) (by simp only [maxLen]; omega) (by omega) (by have := hK2.2.2.2.1; rw [World.size_alloc]; omega)
            have hnr : ∀ q, Value.ownBlock (.slice ar (rootsN LF i).length cr) = some q → W.heap.size ≤ q := fun q hq => (World.ownsRow.lt hO2 q hq).1
            have hb2 : w2.heap[B]? = some (.cells #[vl, .slice af LF.length cf, .slice ar (rootsN LF i).length cr] 38 (0, 0)) := by
              rw [hgr.block B (by rw [World.size_alloc]; omega) (fun e => by have := hnr _ e.symm; omega), Below.heap_alloc _ _ _ hBw]
              exact hbr
            have b3 := Go.Joins.block_setCell (i := 2) hb2 v'
            obtain ⟨g2, c2, rfl⟩ := ownsRow_succ hown'
            have hg2 : W.heap.size ≤ g2 := (own_knd hown' rfl).1
            have hne2 : Value.ownBlock (.slice (some ⟨g2, 0, none⟩) ((rootsN LF i).length + 1) c2) ≠ some B := fun e => by
              have e' : g2 = B := by simpa [Value.ownBlock] using e
              omega
            have hO3 : (w2.setCell ⟨B, 2, none⟩ (.slice (some ⟨g2, 0, none⟩) ((rootsN LF i).length + 1) c2)).ownsRow W.heap.size 3 1 (.slice (some ⟨g2, 0, none⟩) ((rootsN LF i).length + 1) c2) ((rootsN LF i).length + 1) ((rootsN LF i).flatMap natE ++ [.int .i64 (i : Int)]) :=
              hown'.kept (row := some B) ⟨rfl, rfl, rfl, by simp, fun k _ hk => Below.heap_setCell w2 ⟨B, 2, none⟩ _ k (fun e' => hk (by rw [e']))⟩ (.inr hne2)
            have hK3 : KpB B W (w2.setCell ⟨B, 2, none⟩ (.slice (some ⟨g2, 0, none⟩) ((rootsN LF i).length + 1) c2)) := by
              have hz := hgr.size
              have hz2 := hK2.2.2.2.1
              rw [World.size_alloc] at hz
              refine ⟨hgr.os.trans hK2.1, hgr.tape.trans hK2.2.1, hgr.output.trans hK2.2.2.1, by simp; omega, fun k h1 h2 => ?_⟩
              rw [Below.heap_setCell w2 ⟨B, 2, none⟩ _ k h2, hgr.block k (by rw [World.size_alloc]; omega) (fun e => by have := hnr _ e.symm; omega), Below.heap_alloc _ _ _ (by omega)]
              exact hK2.2.2.2.2 k h1 h2
            have hl2 : (rootsN LF (i + 1)).length = (rootsN LF i).length + 1 := by rw [hsucc]; simp
            have HL2 := Lib.hid hl2
            have hB3 : (w2.setCell ⟨B, 2, none⟩ (.slice (some ⟨g2, 0, none⟩) ((rootsN LF i).length + 1) c2)).heap[B]? = some (.cells #[vl, .slice af LF.length cf, .slice (some ⟨g2, 0, none⟩) (rootsN LF (i + 1)).length c2] 38 (0, 0)) := by rw [b3, hl2]; rfl
            have HB3 := Lib.hid hB3
            have HO3 := Lib.hid (show (w2.setCell ⟨B, 2, none⟩ (.slice (some ⟨g2, 0, none⟩) ((rootsN LF i).length + 1) c2)).ownsRow W.heap.size 3 1 (.slice (some ⟨g2, 0, none⟩) (rootsN LF (i + 1)).length c2) (rootsN LF (i + 1)).length ((rootsN LF (i + 1)).flatMap natE) by rw [hl2, hsucc, List.flatMap_append]; exact hO3)
            have HK3 := Lib.hid hK3
            obtain ⟨r0, r1, r2, s0, s1, s2⟩ := box3 hb2
            clear hi3 hy0 hy1 hy2 hown' hgr hnr hb2 b3 hO3 hK3 hl2 hB3 hO2 hK2 hroot hsucc hbr
            go_wp2_with (at_builtin; refine wl_append (s := .tmp 48) (x := .tmp 50) rfl rfl hrun ?_; clear hrun)
            exact ⟨⟨i + 1, some ⟨g2, 0, none⟩, c2, by omega, by go_num, HB3, HO3, HK3⟩, by simp [intOf]; omega⟩
          | false =>
            rw [if_neg (by rw [hR]; simp), List.append_nil] at hsucc
            have HS := Lib.hid hsucc
            have HO2 := Lib.hid hO2
            have HK2 := Lib.hid hK2
            have HBR := Lib.hid hbr
            clear hsucc hroot hO2 hK2 hbr
            go_wp2_with fail
            exact ⟨⟨i + 1, ar, cr, by omega, by go_num, by rw [HS.out]; exact HBR, by rw [HS.out]; exact HO2, HK2⟩, by simp [intOf]; omega⟩
    · obtain rfl : i = LF.length := by omega
      have hlt' : ¬ (LF.length : Int) < (LF.length : Int) := by omega
      go_wp2_with fail
      go_end0
      exact ⟨rfl, ar, cr, HB.out, HO.out, HK.out⟩
end Go.Proofs.Ytmhkacafilpliaa

namespace Go.Proofs.Ytmhkacafilpliaa
open Go.RowKit Go.Sort Go.Shelf

/-- The postorder of a value that may be; of another one nothing. -/
def Val.labs0 (v : Val) : List Lab := if v.may then v.labs else []
def Val.lefts0 (v : Val) : List Nat := if v.may then v.lefts else []
theorem lefts0_len (v : Val) : v.lefts0.length = v.labs0.length := by
  unfold Val.lefts0 Val.labs0
  split
  · exact lefts_len v
  · rfl
theorem labs0_le (v : Val) : v.labs0.length ≤ v.w := by
  unfold Val.labs0
  split
  · next h => rw [labs_len v h]; exact v.size_le
  · simp
def RefOfPost (v : Val) (w : World) (e : Ending) (w' : World) : Prop :=
  ∃ al cl af cf ar cr, e = .returned (.tuple #[.agg #[.slice al v.labs0.length cl, .slice af v.labs0.length cf, .slice ar (rootsL v.lefts0).length cr], .bool v.may]) ∧
    SlE Lab.enc 4 w' w.heap.size w'.heap.size al v.labs0 ∧ SlE natE 1 w' w.heap.size w'.heap.size af v.lefts0 ∧ SlE natE 1 w' w.heap.size w'.heap.size ar (rootsL v.lefts0) ∧ Below w.heap.size w w'
theorem three_at {w W : World} {o1 o2 o3 : Obj} (hb : Below (((w.alloc o1).alloc o2).alloc o3).heap.size (((w.alloc o1).alloc o2).alloc o3) W) : W.heap[w.heap.size]? = some o1 ∧ W.heap[w.heap.size + 1]? = some o2 ∧ W.heap[w.heap.size + 1 + 1]? = some o3 ∧ w.heap.size + 3 ≤ W.heap.size ∧ Below w.heap.size w W := by
  have hs := hb.size
  simp only [World.size_alloc] at hs
  obtain ⟨h1, h2, h3, h4⟩ := two_at (w := w) (o1 := o1) (o2 := o2) (W := ((w.alloc o1).alloc o2).alloc o3) ((Below.refl _ _).alloc (Nat.le_refl _) _)
  have h5 := World.alloc_heap_new ((w.alloc o1).alloc o2) o3
  rw [World.size_alloc, World.size_alloc] at h5
  exact ⟨(hb.block _ (by simp only [World.size_alloc]; omega)).trans h1, (hb.block _ (by simp only [World.size_alloc]; omega)).trans h2, (hb.block _ (by simp only [World.size_alloc]; omega)).trans h5, by omega, h4.trans (hb.mono (by simp only [World.size_alloc]; omega))⟩
theorem own_read {α : Type} {enc : α → List Value} {size : Nat} (henc : ∀ x, (enc x).length = size) {W W' : World} {n₀ e n c : Nat} {a : Option Addr} {l : List α} (h : W.ownsRow n₀ e size (.slice a n c) l.length (l.flatMap enc)) (hk : ∀ k, Knd W k e → W'.heap[k]? = W.heap[k]?) : SlE enc size W' n₀ W'.heap.size a l := by
  have h' : W'.ownsRow n₀ e size (.slice a n c) l.length (l.flatMap enc) := by
    rcases h.2 with ⟨e1, e2⟩ | ⟨g, cap, cur, e1, e2, e3, e4⟩
    · exact ⟨h.1, .inl ⟨e1, e2⟩⟩
    · exact ⟨h.1, .inr ⟨g, cap, cur, e1, e2, (hk g ⟨_, e3⟩).trans e3, e4⟩⟩
  exact own_sl henc h'
theorem own_root {W : World} {n₀ B : Nat} {af : Option Addr} {cf : Nat} {LF : List Nat} (h : W.ownsRow n₀ 3 1 (.slice af LF.length cf) LF.length (LF.flatMap natE)) (hB : Knd W B 38) :
    SlE natE 1 W 0 B af LF ∨ ∃ g, af = some ⟨g, 0, none⟩ ∧ SlE natE 1 W g (g + 1) af LF ∧ g ≠ B := by
  rcases h.2 with ⟨e1, e2⟩ | ⟨g, cap, cur, e1, e2, e3, e4⟩
  · rw [List.eq_nil_of_length_eq_zero e2]
    exact .inl SlE.nil
  · injection e1 with e1
    subst e1
    refine .inr ⟨g, rfl, ?_, knd_ne ⟨_, e3⟩ hB (by decide)⟩
    have := own_sl (enc := natE) (size := 1) (fun _ => rfl) h
    intro hl
    obtain ⟨b, off, e5, g1, g2, g3, g4⟩ := this hl
    cases e5
    exact ⟨g, 0, rfl, Nat.le_refl _, Nat.lt_succ_self g, g3, g4⟩
set_option maxRecDepth 100000 in
set_option maxHeartbeats 3200000 in
theorem rof_no (w : World) (x : AV) (hx : Rd w x) (hw : x.w ≤ 1048576) (hm : x.v.may = false) : Calls Try.prog 16 #[x.val] w (RefOfPost x.v w) := by
  have HM := fun W h => Lib.hid (rmay_c x W h hw)
  rw [hm] at HM
  have HMM := Lib.hid hm
  have hb0 := fun o1 o2 o3 => (((Below.refl w.heap.size w).alloc (Nat.le_refl _) o1).alloc (by simp) o2).alloc (by simp only [World.size_alloc]; omega) o3
  clear hm
  go_enter Try.func16, Try.ntmps16
  go_wp2_with (go_at_call 47; refine (HM _ (hx.up (hb0 _ _ _))).out.mono ?_; rintro e w2 ⟨rfl, hb⟩; obtain ⟨hbx, hbp, hbq, hsz, hbw⟩ := three_at hb; obtain ⟨q0, q1, q2, q3, -, -, -, -⟩ := vbox4 hbx; obtain ⟨p0, p1, p2, f0, f1, f2⟩ := box3 hbp; obtain ⟨r0, r1, r2, s0, s1, s2⟩ := box3 hbq)
  refine bodyPost_ret (v := .tuple #[.agg #[.slice none 0 0, .slice none 0 0, .slice none 0 0], .bool false]) (by simp [results, Try.results16, go_sem, p0, p1, p2]) rfl ?_
  have e1 : x.v.labs0 = [] := by unfold Val.labs0; rw [HMM.out]; rfl
  have e2 : x.v.lefts0 = [] := by unfold Val.lefts0; rw [HMM.out]; rfl
  unfold RefOfPost
  rw [e1, e2, HMM.out]
  exact ⟨none, 0, none, 0, none, 0, rfl, SlE.nil, SlE.nil, SlE.nil, ((hbw.setCell (p := ⟨w.heap.size + 1, 0, none⟩) (by show w.heap.size ≤ w.heap.size + 1; omega) _).setCell (p := ⟨w.heap.size + 1, 1, none⟩) (by show w.heap.size ≤ w.heap.size + 1; omega) _).setCell (p := ⟨w.heap.size + 1, 2, none⟩) (by show w.heap.size ≤ w.heap.size + 1; omega) _⟩
set_option maxRecDepth 100000 in
set_option maxHeartbeats 3200000 in
theorem rof_yes (w : World) (x : AV) (hx : Rd w x) (hw : x.w ≤ 1048576) (hm : x.v.may = true) : Calls Try.prog 16 #[x.val] w (RefOfPost x.v w) := by
  have HM := fun W h => Lib.hid (rmay_c x W h hw)
  have hwi : x.v.within 256 = true := by rw [Val.may_eq]; exact hm
  have hll : x.v.lefts.length = x.v.labs.length := lefts_len _
  have hln : x.v.labs.length ≤ 1048576 := by rw [labs_len _ hm]; exact Nat.le_trans x.v.size_le hw
  have HA : Hid (∀ W, RefI w.heap.size (w.heap.size + 1 + 1) [] [] W → Below w.heap.size w W → Calls Try.prog 48 #[.pointer (some ⟨w.heap.size + 1 + 1, 0, none⟩), x.val, .bool false, .string ⟨#[]⟩] W (RAddPost w.heap.size (w.heap.size + 1 + 1) x.v.labs x.v.lefts W)) := fun W h1 h2 => by
    have := radd_c w.heap.size (w.heap.size + 1 + 1) (by omega) 256 x false ⟨#[]⟩ [] [] W h1 (hx.blw h2 (Nat.le_refl _)) h2.size hwi hw rfl (by
      rw [List.length_nil, Nat.zero_add, ← Val.labs_eq]
      exact hln)
    rw [List.nil_append, List.nil_append, List.length_nil, ← Val.labs_eq, ← Val.lefts_eq] at this
    exact this
  rw [hm] at HM
  have HMM := Lib.hid hm
  have HLL := Lib.hid hll
  have hb0 := fun o1 o2 o3 => (((Below.refl w.heap.size w).alloc (Nat.le_refl _) o1).alloc (by simp) o2).alloc (by simp only [World.size_alloc]; omega) o3
  clear hm hll hwi
  go_enter Try.func16, Try.ntmps16
  go_wp2_with (first
    | (go_at_call 47; refine (HM _ (hx.up (hb0 _ _ _))).out.mono ?_; rintro e w2 ⟨rfl, hb⟩
       obtain ⟨hbx, hbp, hbq, hsz, hbw⟩ := three_at hb
       obtain ⟨q0, q1, q2, q3, -, -, -, -⟩ := vbox4 hbx
       have HBP := Lib.hid hbp
       have HI0 := Lib.hid (show RefI w.heap.size (w.heap.size + 1 + 1) [] [] w2 from ⟨none, 0, none, 0, hbq, World.ownsRow_nil _ _ _ _, World.ownsRow_nil _ _ _ _⟩)
       have HBW := Lib.hid hbw
       clear hbp hbq hbx hbw hb HM)
    | (go_at_call 48; refine (HA.out _ HI0.out HBW.out).mono ?_; rintro e w3 ⟨rfl, hI3, hK3⟩
       obtain ⟨al, cl, af, cf, h1, h2, h3⟩ := hI3
       have HPX := Lib.hid (hK3.blk HBP.out (by decide) (by decide) (by omega))
       have HRT := Lib.hid (rroot_c w3 (w.heap.size + 1 + 1) (.slice al x.v.labs.length cl) af cf x.v.lefts 0 (w.heap.size + 1 + 1) h1 (Nat.le_refl _) (own_root h3 ⟨_, h1⟩) (by rw [HLL.out]; exact hln))
       have HKN := Lib.hid (show Knd w3 (w.heap.size + 1 + 1) 38 from ⟨_, h1⟩)
       have HOL := Lib.hid h2
       have HOF := Lib.hid h3
       have HK3 := Lib.hid hK3
       clear h1 h2 h3 hK3)
    | (go_at_call 49; refine HRT.out.mono ?_; rintro e w4 ⟨rfl, ar, cr, hbr, hor, hkb⟩
       have hpx := (hkb.2.2.2.2 (w.heap.size + 1) (Array.getElem?_eq_some_iff.1 HPX.out).1 (by omega)).trans HPX.out
       obtain ⟨p0, p1, p2, f0, f1, f2⟩ := box3 hpx
       obtain ⟨r0, r1, r2, s0, s1, s2⟩ := box3 hbr
       have HOR := Lib.hid hor
       have HKB := Lib.hid hkb
       have HPY := Lib.hid hpx
       clear hbr hor hkb hpx))
  refine bodyPost_ret (v := .tuple #[.agg #[.slice al x.v.labs.length cl, .slice af x.v.lefts.length cf, .slice ar (rootsL x.v.lefts).length cr], .bool true]) (by simp [results, Try.results16, go_sem, p0, p1, p2]) rfl ?_
  have e1 : x.v.labs0 = x.v.labs := by unfold Val.labs0; rw [HMM.out]; rfl
  have e2 : x.v.lefts0 = x.v.lefts := by unfold Val.lefts0; rw [HMM.out]; rfl
  obtain ⟨w5, hw5⟩ : ∃ w5, w5 = ((w4.setCell ⟨w.heap.size + 1, 0, none⟩ (.slice al x.v.labs.length cl)).setCell ⟨w.heap.size + 1, 1, none⟩ (.slice af x.v.lefts.length cf)).setCell ⟨w.heap.size + 1, 2, none⟩ (.slice ar (rootsL x.v.lefts).length cr) := ⟨_, rfl⟩
  have hk5 : ∀ k, k ≠ w.heap.size + 1 → w5.heap[k]? = w4.heap[k]? := fun k hk => by
    rw [hw5, Below.heap_setCell _ _ _ k hk, Below.heap_setCell _ _ _ k hk, Below.heap_setCell _ _ _ k hk]
  have hs5 : w5.heap.size = w4.heap.size := by rw [hw5]; simp
  have hb5 : Below w.heap.size w w5 := by
    rw [hw5]
    have h0 : Below w.heap.size w w4 := HBW.out.trans (HK3.out.1.trans (HKB.out.below (by omega) (by have := HBW.out.size; have := HK3.out.1.size; omega)))
    exact ((h0.setCell (p := ⟨w.heap.size + 1, 0, none⟩) (by show w.heap.size ≤ w.heap.size + 1; omega) _).setCell (p := ⟨w.heap.size + 1, 1, none⟩) (by show w.heap.size ≤ w.heap.size + 1; omega) _).setCell (p := ⟨w.heap.size + 1, 2, none⟩) (by show w.heap.size ≤ w.heap.size + 1; omega) _
  have hold : ∀ k t, Knd w3 k t → t ≠ 38 → w5.heap[k]? = w3.heap[k]? := fun k t hk ht => by
    have hk1 : k ≠ w.heap.size + 1 := knd_ne hk ⟨_, HPX.out⟩ ht
    have hk2 : k ≠ w.heap.size + 1 + 1 := knd_ne hk HKN.out ht
    rw [hk5 k hk1]
    exact HKB.out.2.2.2.2 k (knd_lt hk) hk2
  have hs3 : w.heap.size ≤ w3.heap.size := Nat.le_trans HBW.out.size HK3.out.1.size
  rw [← hw5]
  unfold RefOfPost
  rw [e1, e2, HMM.out]
  have r1 := own_read (enc := Lab.enc) (W' := w5) (fun _ => rfl) HOL.out (fun k hk => hold k _ hk (by decide))
  have r2 := own_read (enc := natE) (W' := w5) (fun _ => rfl) HOF.out (fun k hk => hold k _ hk (by decide))
  have r3 := own_read (enc := natE) (W' := w5) (fun _ => rfl) HOR.out (fun k hk => hk5 k (knd_ne hk ⟨_, HPY.out⟩ (by decide)))
  exact ⟨al, cl, af, cf, ar, cr, by rw [HLL.out], r1, r2, r3.widen hs3 (Nat.le_refl _), hb5⟩
theorem rof_c (w : World) (x : AV) (hx : Rd w x) (hw : x.w ≤ 1048576) : Calls Try.prog 16 #[x.val] w (RefOfPost x.v w) := by
  cases hm : x.v.may with
  | false => exact rof_no w x hx hw hm
  | true => exact rof_yes w x hx hw hm
end Go.Proofs.Ytmhkacafilpliaa
