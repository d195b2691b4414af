/-
  chunks.Turn: the chunks turned round. Condition: the chunks lie in memory.
  ChunksCover, plain. No program.
-/
import Derived.Test.YtjihepdjcbpgoaaDoorCE
import Derived.Laws.OwnMore
import Derived.Lib.LazyBuf
namespace Go.Proofs.YtjihepdjcbpgoaaDoor
open Go.RowKit Go.Sort

theorem set_mid (xs ys : List Value) (n k : Nat) (v : Value) (h : xs.length = n) : (xs ++ ys).set (n + k) v = xs ++ ys.set k v := by
  subst h
  rw [List.set_append_right _ _ (Nat.le_add_right _ _), Nat.add_sub_cancel_left]
/-- Four cells of one element are written. -/
theorem flat_turn (L1 L2 : List Ck) (c : Ck) : ((((((L1 ++ c :: L2).flatMap Ck.enc).set (L1.length * 7 + 3) (.int .i64 c.f.r)).set (L1.length * 7 + 4) (.int .i64 c.t.r)).set (L1.length * 7 + 5) (.int .i64 c.f.l)).set (L1.length * 7 + 6) (.int .i64 c.t.l)) = (L1 ++ c.turn :: L2).flatMap Ck.enc := by
  have hl : (L1.flatMap Ck.enc).length = L1.length * 7 := flat_len Ck.enc_len L1
  rw [List.flatMap_append, List.flatMap_append, List.flatMap_cons, List.flatMap_cons, set_mid _ _ _ _ _ hl, set_mid _ _ _ _ _ hl, set_mid _ _ _ _ _ hl, set_mid _ _ _ _ _ hl]
  rfl
theorem T3.le_rfl (t : T3) : t.le t := ⟨Nat.le_refl _, Nat.le_refl _, Nat.le_refl _⟩
theorem T3.le_trans {s t u : T3} (h1 : s.le t) (h2 : t.le u) : s.le u := ⟨Nat.le_trans h1.1 h2.1, Nat.le_trans h1.2.1 h2.2.1, Nat.le_trans h1.2.2 h2.2.2⟩
theorem Cov.le {A : Nat → Option T3} {e : T3} {last : Ck} {C : List Ck} (h : Cov A e last C) : last.t.le e := by
  induction h with
  | nil h => rw [h]; exact T3.le_rfl _
  | cons h1 h2 h3 h4 h5 ih => rw [← h1]; exact T3.le_trans h2 ih
/-- What one element asks. -/
theorem Cov.at_ {A : Nat → Option T3} {e : T3} {last : Ck} {C : List Ck} {i : Nat} {x : Ck} (h : Cov A e last (C.drop i)) (hi : C[i]? = some x) :
    x.f = last.t ∧ x.f.le x.t ∧ (x.st = false → last.st = true ∧ x.f ≠ x.t) ∧ (x.st = true → ∃ n, 0 < n ∧ x.t = x.f.plus n ∧ ∀ k, k < n → A (x.f.b + k) = some (x.f.plus k)) ∧ Cov A e x (C.drop (i + 1)) := by
  rw [drop_cons' hi] at h
  cases h with
  | cons h1 h2 h3 h4 h5 => exact ⟨h1, h2, h3, h4, h5⟩
theorem cov_end {A : Nat → Option T3} {e : T3} {last : Ck} {C : List Ck} {i : Nat} (h : Cov A e last (C.drop i)) (hi : C.length ≤ i) : last.t = e := by
  rw [List.drop_eq_nil_of_le hi] at h
  cases h with
  | nil h => exact h
/-- A pair's elements are the same. -/
theorem part_same {x y : LA} {P : List (Nat × Nat)} (he : Early (labs 0 x.v) (labs 1 y.v) 0 0 P) {i j : Nat} (h : part P i = some j) : ∃ u v : AV, x.l[i]? = some u ∧ y.l[j]? = some v ∧ sameV u.v v.v = true := by
  obtain ⟨-, -, hm⟩ := he.at_.1 (i, j) (part_some h)
  obtain ⟨v, u, h1, h2, h3⟩ := same_mt hm
  obtain ⟨u', g1, rfl⟩ := lv_at h1
  obtain ⟨v', g2, rfl⟩ := lv_at h2
  exact ⟨u', v', g1, g2, h3⟩
theorem chunks_round (P Q : List (Nat × Nat)) (n a b : Nat) : chunksL (anc Q P) n ⟨n, b, a⟩ = (chunksL (anc P Q) n ⟨n, a, b⟩).map Ck.turn := by
  rw [← chunks_swap, show anc Q P = fun i => (anc P Q i).map T3.swap from funext fun i => anc_swap P Q i]; rfl
theorem mid_at (xs ys : List Value) (n k : Nat) (h : xs.length = n) : (xs ++ ys)[n + k]? = ys[k]? := by
  subst h
  rw [List.getElem?_append_right (Nat.le_add_right _ _), Nat.add_sub_cancel_left]
theorem own_nilC {w : World} {base cap : Nat} {C : List Ck} (h : OwnCk w base (.slice none C.length cap) C) : C = [] := by
  rcases h.2 with ⟨e, h0⟩ | ⟨g, cap', cur, e, _⟩
  · exact List.eq_nil_of_length_eq_zero h0
  · cases e
theorem own_someC {w : World} {base cap n : Nat} {a : Option Addr} {xs : List Value} {e : TypeId} (h : w.ownsRow base e 7 (.slice a n cap) n xs) (hn : 0 < n) : ∃ g, a = some ⟨g, 0, none⟩ ∧ base ≤ g ∧ g < w.heap.size := by
  obtain ⟨g, cap', hv, h1, h2⟩ := h.form hn
  cases hv
  exact ⟨g, rfl, h1, h2⟩
def CloneC (C : List Ck) (w : World) (e : Ending) (w' : World) : Prop := ∃ (a' : Option Addr) (c' : Nat), e = .returned (.slice a' C.length c') ∧ C.length ≤ c' ∧ OwnCk w' w.heap.size (.slice a' C.length c') C ∧ Below w.heap.size w w'
set_option maxRecDepth 100000 in
set_option maxHeartbeats 3200000 in
theorem clone_ck (w : World) (a : Option Addr) (cap base : Nat) (C : List Ck) (h : OwnCk w base (.slice a C.length cap) C) (hn : C.length ≤ 4194304) :
    Calls Tryd.prog 41 #[.slice a C.length C.length] w (CloneC C w) := by
  have hnil : ∀ (W : World) (a : Option Addr) (n c : Nat), (binOp .eql 44 (.slice a n c) (.slice none 0 0)).run Tryd.prog W = .ok (.bool a.isNone) W := fun W a n c => run_eql_slice_nil W _ _ a n c Tryd.underlying44
  cases a with
  | none =>
    have := own_nilC h
    subst this
    have hn1 := fun W => hnil W none 0 0
    simp only [Option.isNone_none] at hn1
    clear hnil
    go_enter Tryd.func41, Tryd.ntmps41
    go_wp2_with fail
    go_ret
    exact ⟨none, 0, rfl, Nat.le_refl _, World.ownsRow_nil _ _ _ _, Below.refl _ _⟩
  | some a =>
    have hn1 := fun W n c => hnil W (some a) n c
    simp only [Option.isNone_some] at hn1
    clear hnil
    have hba := (Below.refl w.heap.size w).alloc (Nat.le_refl _) (.cells #[] 49)
    rcases Nat.eq_zero_or_pos C.length with h0 | h0
    · have := List.eq_nil_of_length_eq_zero h0
      subst this
      clear h0
      go_enter Tryd.func41, Tryd.ntmps41
      go_wp2_with fail
      go_ret
      exact ⟨some ⟨w.heap.size, 0, none⟩, 0, rfl, Nat.le_refl _, World.ownsRow_lit w #[] 0 (Nat.le_refl _) (by decide) rfl, hba⟩
    · obtain ⟨i0, hi0, hz0, hz1, hz2⟩ := info_parts info_ck
      have hsl := (own_sl Ck.enc_len h).up hba
      obtain ⟨v', W', hrun, hown, hgr⟩ := run_append_full (P := Tryd.prog) (w := w.alloc (.cells #[] 49)) Ck.enc 44 0 49 i0 _ 7 56 Tryd.underlying44 hi0 hz0 hz1 hz2 rfl (by omega) (by omega) Ck.enc_len (fun x u hu => by simp [Ck.enc] at hu; rcases hu with rfl | rfl | rfl | rfl | rfl | rfl | rfl <;> rfl) 0 0 (some ⟨w.heap.size, 0, none⟩) [] (fun h => absurd h (by simp)) _ _ a C C.length hsl h0 (by simp; omega) (fun h => by cases h)
      have hrun' : ∀ ty, (Builtin.append_ #[44, 44] ty #[.slice (some ⟨w.heap.size, 0, none⟩) 0 0, .slice (some a) C.length C.length]).run Tryd.prog (w.alloc (.cells #[] 49)) = .ok v' W' := fun ty => hrun
      rw [show [].length + C.length = C.length from Nat.zero_add _, List.nil_append] at hown
      have HO := Lib.hid hown
      have HGR := Lib.hid hgr
      have HBA := Lib.hid hba
      clear hrun hown hgr hba hsl h
      go_enter Tryd.func41, Tryd.ntmps41
      go_wp2_with (at_builtin; refine wl_append (s := .tmp 5) (x := .tmp 6) rfl rfl (hrun' _) ?_; clear hrun')
      go_ret
      have ho : OwnCk W' w.heap.size v' C := World.ownsRow.mono HO.out (by simp)
      obtain ⟨a', c', rfl⟩ := own_formCk ho
      exact ⟨a', c', rfl, own_cap ho rfl, ho, HBA.out.grown HGR.out (by simp) (fun q hq => by cases hq)⟩
/-- One chunk is turned round, in place. -/
theorem turn_put {w : World} {base g cap k : Nat} {C : List Ck} {c : Ck} (h : w.ownsRow base 49 7 (.slice (some ⟨g, 0, none⟩) C.length cap) C.length (((C.take k).map Ck.turn ++ C.drop k).flatMap Ck.enc)) (hk : C[k]? = some c) :
    (w.cell? ⟨g, k * 7 + 3, none⟩ = some (.int .i64 c.f.l) ∧ w.cell? ⟨g, k * 7 + 4, none⟩ = some (.int .i64 c.t.l) ∧ w.cell? ⟨g, k * 7 + 5, none⟩ = some (.int .i64 c.f.r) ∧ w.cell? ⟨g, k * 7 + 6, none⟩ = some (.int .i64 c.t.r)) ∧ (∀ j, w.frozen? ⟨g, j, none⟩ = false) ∧
    ((((w.setCell ⟨g, k * 7 + 3, none⟩ (.int .i64 c.f.r)).setCell ⟨g, k * 7 + 4, none⟩ (.int .i64 c.t.r)).setCell ⟨g, k * 7 + 5, none⟩ (.int .i64 c.f.l)).setCell ⟨g, k * 7 + 6, none⟩ (.int .i64 c.t.l)).ownsRow base 49 7 (.slice (some ⟨g, 0, none⟩) C.length cap) C.length (((C.take (k + 1)).map Ck.turn ++ C.drop (k + 1)).flatMap Ck.enc) := by
  have hkl : k < C.length := (List.getElem?_eq_some_iff.1 hk).1
  have hl1 : ((C.take k).map Ck.turn).length = k := by simp; omega
  have e1 : (C.take (k + 1)).map Ck.turn = (C.take k).map Ck.turn ++ [c.turn] := by rw [List.take_add_one, hk]; simp
  have hl : (((C.take k).map Ck.turn).flatMap Ck.enc).length = k * 7 := by rw [flat_len Ck.enc_len, hl1]
  have hf := flat_turn ((C.take k).map Ck.turn) (C.drop (k + 1)) c
  rw [hl1, ← drop_cons' hk] at hf
  have hx : ((C.take k).map Ck.turn ++ C.drop k).flatMap Ck.enc = ((C.take k).map Ck.turn).flatMap Ck.enc ++ (Ck.enc c ++ (C.drop (k + 1)).flatMap Ck.enc) := by rw [List.flatMap_append, drop_cons' hk, List.flatMap_cons]
  have at_ : ∀ j, j < 7 → w.cell? ⟨g, k * 7 + j, none⟩ = (Ck.enc c ++ (C.drop (k + 1)).flatMap Ck.enc)[j]? := fun j hj => by
    rw [World.ownsRow.cellAt h _ (by omega), hx, mid_at _ _ _ _ hl]
  refine ⟨⟨(at_ 3 (by omega)).trans rfl, (at_ 4 (by omega)).trans rfl, (at_ 5 (by omega)).trans rfl, (at_ 6 (by omega)).trans rfl⟩, fun j => World.ownsRow.frozenAt h j, ?_⟩
  have h4 := (World.ownsRow.stored (World.ownsRow.stored (World.ownsRow.stored (World.ownsRow.stored h (k * 7 + 3) (.int .i64 c.f.r)).1 (k * 7 + 4) (.int .i64 c.t.r)).1 (k * 7 + 5) (.int .i64 c.f.l)).1 (k * 7 + 6) (.int .i64 c.t.l)).1
  rw [hf] at h4
  rw [e1, List.append_assoc]
  exact h4
def TurnCPost (C : List Ck) (w : World) (e : Ending) (w' : World) : Prop := ∃ (a' : Option Addr) (cap' : Nat), e = .returned (.slice a' C.length C.length) ∧ OwnCk w' w.heap.size (.slice a' C.length cap') (C.map Ck.turn) ∧ Below w.heap.size w w'
set_option maxRecDepth 100000 in
set_option maxHeartbeats 3200000 in
theorem turn_c (w : World) (a : Option Addr) (cap base : Nat) (C : List Ck) (h : OwnCk w base (.slice a C.length cap) C) (hn : C.length ≤ 4194304) :
    Calls Tryd.prog 25 #[.slice a C.length C.length] w (TurnCPost C w) := by
  have HC := Lib.hid (clone_ck w a cap base C h hn)
  clear h
  go_enter Tryd.func25, Tryd.ntmps25
  go_wp2_with (first
    | (go_at_call 41; refine HC.out.mono ?_; rintro e w1 ⟨a', c', rfl, hcap, hown, hb1⟩
       have HO := Lib.hid hown
       have HB1 := Lib.hid hb1
       clear hown hb1)
    | (go_at_call 40; refine (clip_ck _ _ _ _ hcap).mono ?_; rintro e w5 ⟨rfl, rfl⟩))
  go_loopw [4, 10] (fun _ s10 wr => ∃ k : Nat, k ≤ C.length ∧ s10 = .int .i64 k ∧ wr.ownsRow w.heap.size 49 7 (.slice a' C.length c') C.length (((C.take k).map Ck.turn ++ C.drop k).flatMap Ck.enc) ∧ Below w.heap.size w wr) (fun _ s10 _ => C.length - (intOf s10).toNat)
  case atStart => exact ⟨0, Nat.zero_le _, by go_num, HO.out, HB1.out⟩
  case round =>
    obtain ⟨k, hk, rfl, hown, hb⟩ := hrel
    have HB := Lib.hid hb
    have hwk : IntKind.i64.wrap ((k : Int) + 1) = ((k + 1 : Nat) : Int) := by rw [IntWalk.i64_in _ (by omega)]; omega
    by_cases hkl : k < C.length
    · have hkl' : (k : Int) < (C.length : Int) := by omega
      have hk0 : (0 : Int) ≤ (k : Int) := by omega
      have hk2 : C[k]? = some C[k] := List.getElem?_eq_getElem hkl
      generalize C[k] = c at hk2
      obtain ⟨g, hla, hg1, hg2⟩ := own_someC hown (by omega)
      subst hla
      obtain ⟨⟨d3, d4, d5, d6⟩, fz, hfin⟩ := turn_put hown hk2
      have f3 := fz (k * 7 + 3)
      have f4 := fz (k * 7 + 4)
      have f5 := fz (k * 7 + 5)
      have f6 := fz (k * 7 + 6)
      have HFIN := Lib.hid hfin
      have HBF := Lib.hid ((((HB.out.setCell (p := ⟨g, k * 7 + 3, none⟩) hg1 (.int .i64 c.f.r)).setCell (p := ⟨g, k * 7 + 4, none⟩) hg1 (.int .i64 c.t.r)).setCell (p := ⟨g, k * 7 + 5, none⟩) hg1 (.int .i64 c.f.l)).setCell (p := ⟨g, k * 7 + 6, none⟩) hg1 (.int .i64 c.t.l))
      clear hown hb hk2 hfin fz HO HC
      go_upto_region 5 with fail
      go_region
      all_goals
        go_wp2_with fail
        exact ⟨⟨k + 1, by omega, by go_num, HFIN.out, HBF.out.drew⟩, by simp [intOf]; omega⟩
    · obtain rfl : k = C.length := by omega
      have hge : ¬ (C.length : Int) < (C.length : Int) := by omega
      rw [List.take_length, List.drop_length, List.append_nil] at hown
      have HOW := Lib.hid hown
      clear hown hb
      go_wp2_with fail
      go_ret
      refine ⟨a', c', rfl, ?_, HB.out⟩
      have := HOW.out
      unfold OwnCk
      rw [List.length_map]
      exact this
end Go.Proofs.YtjihepdjcbpgoaaDoor
