/-
  The document's postorder: Of, of whatever value. Conditions: the tree lies in memory, its weight is bounded.
-/
import Derived.Test.YtmhkacafilpliaaJL
namespace Go.Proofs.Ytmhkacafilpliaa
open Go.RowKit Go.Sort Go.Shelf

/-- The postorder of a value that may be; of another one nothing. -/
def Val.labs0 (v : Val) : List Lab := if v.may then v.labs else []
def Val.lefts0 (v : Val) : List Nat := if v.may then v.lefts else []
theorem lefts0_len (v : Val) : v.lefts0.length = v.labs0.length := by
  unfold Val.lefts0 Val.labs0
  split
  · exact lefts_len v
  · rfl
theorem labs0_le (v : Val) : v.labs0.length ≤ v.w := by
  unfold Val.labs0
  split
  · next h => rw [labs_len v h]; exact v.size_le
  · simp
def RefOfPost (v : Val) (w : World) (e : Ending) (w' : World) : Prop :=
  ∃ al cl af cf ar cr, e = .returned (.tuple #[.agg #[.slice al v.labs0.length cl, .slice af v.labs0.length cf, .slice ar (rootsL v.lefts0).length cr], .bool v.may]) ∧
    SlE Lab.enc 4 w' w.heap.size w'.heap.size al v.labs0 ∧ SlE natE 1 w' w.heap.size w'.heap.size af v.lefts0 ∧ SlE natE 1 w' w.heap.size w'.heap.size ar (rootsL v.lefts0) ∧ Below w.heap.size w w'
theorem three_at {w W : World} {o1 o2 o3 : Obj} (hb : Below (((w.alloc o1).alloc o2).alloc o3).heap.size (((w.alloc o1).alloc o2).alloc o3) W) : W.heap[w.heap.size]? = some o1 ∧ W.heap[w.heap.size + 1]? = some o2 ∧ W.heap[w.heap.size + 1 + 1]? = some o3 ∧ w.heap.size + 3 ≤ W.heap.size ∧ Below w.heap.size w W := by
  have hs := hb.size
  simp only [World.size_alloc] at hs
  obtain ⟨h1, h2, h3, h4⟩ := two_at (w := w) (o1 := o1) (o2 := o2) (W := ((w.alloc o1).alloc o2).alloc o3) ((Below.refl _ _).alloc (Nat.le_refl _) _)
  have h5 := World.alloc_heap_new ((w.alloc o1).alloc o2) o3
  rw [World.size_alloc, World.size_alloc] at h5
  exact ⟨(hb.block _ (by simp only [World.size_alloc]; omega)).trans h1, (hb.block _ (by simp only [World.size_alloc]; omega)).trans h2, (hb.block _ (by simp only [World.size_alloc]; omega)).trans h5, by omega, h4.trans (hb.mono (by simp only [World.size_alloc]; omega))⟩
theorem own_read {α : Type} {enc : α → List Value} {size : Nat} (henc : ∀ x, (enc x).length = size) {W W' : World} {n₀ e n c : Nat} {a : Option Addr} {l : List α} (h : W.ownsRow n₀ e size (.slice a n c) l.length (l.flatMap enc)) (hk : ∀ k, Knd W k e → W'.heap[k]? = W.heap[k]?) : SlE enc size W' n₀ W'.heap.size a l := by
  have h' : W'.ownsRow n₀ e size (.slice a n c) l.length (l.flatMap enc) := by
    rcases h.2 with ⟨e1, e2⟩ | ⟨g, cap, cur, e1, e2, e3, e4⟩
    · exact ⟨h.1, .inl ⟨e1, e2⟩⟩
    · exact ⟨h.1, .inr ⟨g, cap, cur, e1, e2, (hk g ⟨_, e3⟩).trans e3, e4⟩⟩
  exact own_sl henc h'
theorem own_root {W : World} {n₀ B : Nat} {af : Option Addr} {cf : Nat} {LF : List Nat} (h : W.ownsRow n₀ 3 1 (.slice af LF.length cf) LF.length (LF.flatMap natE)) (hB : Knd W B 38) :
    SlE natE 1 W 0 B af LF ∨ ∃ g, af = some ⟨g, 0, none⟩ ∧ SlE natE 1 W g (g + 1) af LF ∧ g ≠ B := by
  rcases h.2 with ⟨e1, e2⟩ | ⟨g, cap, cur, e1, e2, e3, e4⟩
  · rw [List.eq_nil_of_length_eq_zero e2]
    exact .inl SlE.nil
  · injection e1 with e1
    subst e1
    refine .inr ⟨g, rfl, ?_, knd_ne ⟨_, e3⟩ hB (by decide)⟩
    have := own_sl (enc := natE) (size := 1) (fun _ => rfl) h
    intro hl
    obtain ⟨b, off, e5, g1, g2, g3, g4⟩ := this hl
    cases e5
    exact ⟨g, 0, rfl, Nat.le_refl _, Nat.lt_succ_self g, g3, g4⟩
set_option maxRecDepth 100000 in
set_option maxHeartbeats 3200000 in
theorem rof_no (w : World) (x : AV) (hx : Rd w x) (hw : x.w ≤ 1048576) (hm : x.v.may = false) : Calls Try.prog 16 #[x.val] w (RefOfPost x.v w) := by
  have HM := fun W h => Lib.hid (rmay_c x W h hw)
  rw [hm] at HM
  have HMM := Lib.hid hm
  have hb0 := fun o1 o2 o3 => (((Below.refl w.heap.size w).alloc (Nat.le_refl _) o1).alloc (by simp) o2).alloc (by simp only [World.size_alloc]; omega) o3
  clear hm
  go_enter Try.func16, Try.ntmps16
  go_wp2_with (go_at_call 47; refine (HM _ (hx.up (hb0 _ _ _))).out.mono ?_; rintro e w2 ⟨rfl, hb⟩; obtain ⟨hbx, hbp, hbq, hsz, hbw⟩ := three_at hb; obtain ⟨q0, q1, q2, q3, -, -, -, -⟩ := vbox4 hbx; obtain ⟨p0, p1, p2, f0, f1, f2⟩ := box3 hbp; obtain ⟨r0, r1, r2, s0, s1, s2⟩ := box3 hbq)
  refine bodyPost_ret (v := .tuple #[.agg #[.slice none 0 0, .slice none 0 0, .slice none 0 0], .bool false]) (by simp [results, Try.results16, go_sem, p0, p1, p2]) rfl ?_
  have e1 : x.v.labs0 = [] := by unfold Val.labs0; rw [HMM.out]; rfl
  have e2 : x.v.lefts0 = [] := by unfold Val.lefts0; rw [HMM.out]; rfl
  unfold RefOfPost
  rw [e1, e2, HMM.out]
  exact ⟨none, 0, none, 0, none, 0, rfl, SlE.nil, SlE.nil, SlE.nil, ((hbw.setCell (p := ⟨w.heap.size + 1, 0, none⟩) (by show w.heap.size ≤ w.heap.size + 1; omega) _).setCell (p := ⟨w.heap.size + 1, 1, none⟩) (by show w.heap.size ≤ w.heap.size + 1; omega) _).setCell (p := ⟨w.heap.size + 1, 2, none⟩) (by show w.heap.size ≤ w.heap.size + 1; omega) _⟩
set_option maxRecDepth 100000 in
set_option maxHeartbeats 3200000 in
theorem rof_yes (w : World) (x : AV) (hx : Rd w x) (hw : x.w ≤ 1048576) (hm : x.v.may = true) : Calls Try.prog 16 #[x.val] w (RefOfPost x.v w) := by
  have HM := fun W h => Lib.hid (rmay_c x W h hw)
  have hwi : x.v.within 256 = true := by rw [Val.may_eq]; exact hm
  have hll : x.v.lefts.length = x.v.labs.length := lefts_len _
  have hln : x.v.labs.length ≤ 1048576 := by rw [labs_len _ hm]; exact Nat.le_trans x.v.size_le hw
  have HA : Hid (∀ W, RefI w.heap.size (w.heap.size + 1 + 1) [] [] W → Below w.heap.size w W → Calls Try.prog 48 #[.pointer (some ⟨w.heap.size + 1 + 1, 0, none⟩), x.val, .bool false, .string ⟨#[]⟩] W (RAddPost w.heap.size (w.heap.size + 1 + 1) x.v.labs x.v.lefts W)) := fun W h1 h2 => by
    have := radd_c w.heap.size (w.heap.size + 1 + 1) (by omega) 256 x false ⟨#[]⟩ [] [] W h1 (hx.blw h2 (Nat.le_refl _)) h2.size hwi hw rfl (by
      rw [List.length_nil, Nat.zero_add, ← Val.labs_eq]
      exact hln)
    rw [List.nil_append, List.nil_append, List.length_nil, ← Val.labs_eq, ← Val.lefts_eq] at this
    exact this
  rw [hm] at HM
  have HMM := Lib.hid hm
  have HLL := Lib.hid hll
  have hb0 := fun o1 o2 o3 => (((Below.refl w.heap.size w).alloc (Nat.le_refl _) o1).alloc (by simp) o2).alloc (by simp only [World.size_alloc]; omega) o3
  clear hm hll hwi
  go_enter Try.func16, Try.ntmps16
  go_wp2_with (first
    | (go_at_call 47; refine (HM _ (hx.up (hb0 _ _ _))).out.mono ?_; rintro e w2 ⟨rfl, hb⟩
       obtain ⟨hbx, hbp, hbq, hsz, hbw⟩ := three_at hb
       obtain ⟨q0, q1, q2, q3, -, -, -, -⟩ := vbox4 hbx
       have HBP := Lib.hid hbp
       have HI0 := Lib.hid (show RefI w.heap.size (w.heap.size + 1 + 1) [] [] w2 from ⟨none, 0, none, 0, hbq, World.ownsRow_nil _ _ _ _, World.ownsRow_nil _ _ _ _⟩)
       have HBW := Lib.hid hbw
       clear hbp hbq hbx hbw hb HM)
    | (go_at_call 48; refine (HA.out _ HI0.out HBW.out).mono ?_; rintro e w3 ⟨rfl, hI3, hK3⟩
       obtain ⟨al, cl, af, cf, h1, h2, h3⟩ := hI3
       have HPX := Lib.hid (hK3.blk HBP.out (by decide) (by decide) (by omega))
       have HRT := Lib.hid (rroot_c w3 (w.heap.size + 1 + 1) (.slice al x.v.labs.length cl) af cf x.v.lefts 0 (w.heap.size + 1 + 1) h1 (Nat.le_refl _) (own_root h3 ⟨_, h1⟩) (by rw [HLL.out]; exact hln))
       have HKN := Lib.hid (show Knd w3 (w.heap.size + 1 + 1) 38 from ⟨_, h1⟩)
       have HOL := Lib.hid h2
       have HOF := Lib.hid h3
       have HK3 := Lib.hid hK3
       clear h1 h2 h3 hK3)
    | (go_at_call 49; refine HRT.out.mono ?_; rintro e w4 ⟨rfl, ar, cr, hbr, hor, hkb⟩
       have hpx := (hkb.2.2.2.2 (w.heap.size + 1) (Array.getElem?_eq_some_iff.1 HPX.out).1 (by omega)).trans HPX.out
       obtain ⟨p0, p1, p2, f0, f1, f2⟩ := box3 hpx
       obtain ⟨r0, r1, r2, s0, s1, s2⟩ := box3 hbr
       have HOR := Lib.hid hor
       have HKB := Lib.hid hkb
       have HPY := Lib.hid hpx
       clear hbr hor hkb hpx))
  refine bodyPost_ret (v := .tuple #[.agg #[.slice al x.v.labs.length cl, .slice af x.v.lefts.length cf, .slice ar (rootsL x.v.lefts).length cr], .bool true]) (by simp [results, Try.results16, go_sem, p0, p1, p2]) rfl ?_
  have e1 : x.v.labs0 = x.v.labs := by unfold Val.labs0; rw [HMM.out]; rfl
  have e2 : x.v.lefts0 = x.v.lefts := by unfold Val.lefts0; rw [HMM.out]; rfl
  obtain ⟨w5, hw5⟩ : ∃ w5, w5 = ((w4.setCell ⟨w.heap.size + 1, 0, none⟩ (.slice al x.v.labs.length cl)).setCell ⟨w.heap.size + 1, 1, none⟩ (.slice af x.v.lefts.length cf)).setCell ⟨w.heap.size + 1, 2, none⟩ (.slice ar (rootsL x.v.lefts).length cr) := ⟨_, rfl⟩
  have hk5 : ∀ k, k ≠ w.heap.size + 1 → w5.heap[k]? = w4.heap[k]? := fun k hk => by
    rw [hw5, Below.heap_setCell _ _ _ k hk, Below.heap_setCell _ _ _ k hk, Below.heap_setCell _ _ _ k hk]
  have hs5 : w5.heap.size = w4.heap.size := by rw [hw5]; simp
  have hb5 : Below w.heap.size w w5 := by
    rw [hw5]
    have h0 : Below w.heap.size w w4 := HBW.out.trans (HK3.out.1.trans (HKB.out.below (by omega) (by have := HBW.out.size; have := HK3.out.1.size; omega)))
    exact ((h0.setCell (p := ⟨w.heap.size + 1, 0, none⟩) (by show w.heap.size ≤ w.heap.size + 1; omega) _).setCell (p := ⟨w.heap.size + 1, 1, none⟩) (by show w.heap.size ≤ w.heap.size + 1; omega) _).setCell (p := ⟨w.heap.size + 1, 2, none⟩) (by show w.heap.size ≤ w.heap.size + 1; omega) _
  have hold : ∀ k t, Knd w3 k t → t ≠ 38 → w5.heap[k]? = w3.heap[k]? := fun k t hk ht => by
    have hk1 : k ≠ w.heap.size + 1 := knd_ne hk ⟨_, HPX.out⟩ ht
    have hk2 : k ≠ w.heap.size + 1 + 1 := knd_ne hk HKN.out ht
    rw [hk5 k hk1]
    exact HKB.out.2.2.2.2 k (knd_lt hk) hk2
  have hs3 : w.heap.size ≤ w3.heap.size := Nat.le_trans HBW.out.size HK3.out.1.size
  rw [← hw5]
  unfold RefOfPost
  rw [e1, e2, HMM.out]
  have r1 := own_read (enc := Lab.enc) (W' := w5) (fun _ => rfl) HOL.out (fun k hk => hold k _ hk (by decide))
  have r2 := own_read (enc := natE) (W' := w5) (fun _ => rfl) HOF.out (fun k hk => hold k _ hk (by decide))
  have r3 := own_read (enc := natE) (W' := w5) (fun _ => rfl) HOR.out (fun k hk => hk5 k (knd_ne hk ⟨_, HPY.out⟩ (by decide)))
  exact ⟨al, cl, af, cf, ar, cr, by rw [HLL.out], r1, r2, r3.widen hs3 (Nat.le_refl _), hb5⟩
theorem rof_c (w : World) (x : AV) (hx : Rd w x) (hw : x.w ≤ 1048576) : Calls Try.prog 16 #[x.val] w (RefOfPost x.v w) := by
  cases hm : x.v.may with
  | false => exact rof_no w x hx hw hm
  | true => exact rof_yes w x hx hw hm
end Go.Proofs.Ytmhkacafilpliaa
