/-
  A value in the making: a box whose list and keys are rows of the call's own, that grow; the parts lie apart from both rows. Conditions: bounded lengths.
  The law's Turned as the plain function of a value. Conditions: the tree lies in memory, its weight is bounded, it may be.
  The law's Turned at maps. Conditions: the tree lies in memory, its weight is bounded, it may be.
-/
import Derived.Test.YtmhkacafilpliaaGreatO2
import Derived.Test.YtmhkacafilpliaaGreatVC
import Derived.Deep.RegionLaw
import Derived.Lib.ItoaWalk
import Derived.Deep.DeepCutAuto
namespace Go.Proofs.YtmhkacafilpliaaGreat
open Go.RowKit Go.Sort

theorem info_val : (Tryz.prog.info? 26).map (fun i => (i.zero, i.size, i.bytes)) = some (some (.agg #[.int .u8 0, .string ⟨#[]⟩, .slice none 0 0, .slice none 0 0]), 4, 72) := by kernel_rfl

def OwnV (w : World) (base : Nat) (v : Value) (l : List AV) : Prop := w.ownsRow base 26 4 v l.length (l.flatMap AV.enc)
def OwnS (w : World) (base : Nat) (v : Value) (l : List ByteArray) : Prop := w.ownsRow base 9 1 v l.length (l.flatMap strE)
theorem enc_one (x : AV) : ∀ u ∈ x.enc, u.oneCell' = true := fun u hu => by simp [AV.enc] at hu; rcases hu with rfl | rfl | rfl | rfl <;> rfl

theorem app_val {w : World} {base : Nat} {v : Value} {l : List AV} (hown : OwnV w base v l) {lo hi : Nat} {A : Option Addr} {m : List AV} {c : Nat} (hr : SlE AV.enc 4 w lo hi A m) (hn : l.length + m.length ≤ 16777216) (hbase : base ≤ w.heap.size) :
    ∃ v' w', (∀ ty, (Builtin.append_ #[23, 23] ty #[v, .slice A m.length c]).run Tryz.prog w = .ok v' w') ∧ OwnV w' base v' (l ++ m) ∧ w.grownBy w' v.ownBlock ∧ (v'.ownBlock = v.ownBlock ∨ v'.ownBlock = some w.heap.size) := by
  obtain ⟨i0, hi0, hz0, hz1, hz2⟩ := info_parts info_val
  obtain ⟨v', w', h1, h2, h3, h4⟩ := run_append_sl (P := Tryz.prog) w AV.enc base 23 0 26 i0 _ 4 72 Tryz.underlying23 hi0 hz0 hz1 hz2 rfl (by omega) (by omega) v l.length _ hown lo hi A m c hr AV.enc_len enc_one hn hbase
  exact ⟨v', w', fun ty => h1, by simp only [OwnV, List.length_append, List.flatMap_append]; exact h2, h3, h4⟩
theorem app_str {w : World} {base : Nat} {v : Value} {l : List ByteArray} (hown : OwnS w base v l) {lo hi : Nat} {A : Option Addr} {m : List ByteArray} {c : Nat} (hr : SlE strE 1 w lo hi A m) (hn : l.length + m.length ≤ 16777216) (hbase : base ≤ w.heap.size) :
    ∃ v' w', (∀ ty, (Builtin.append_ #[24, 24] ty #[v, .slice A m.length c]).run Tryz.prog w = .ok v' w') ∧ OwnS w' base v' (l ++ m) ∧ w.grownBy w' v.ownBlock ∧ (v'.ownBlock = v.ownBlock ∨ v'.ownBlock = some w.heap.size) := by
  obtain ⟨i0, hi0, hz0, hz1, hz2⟩ := info_parts info_str
  obtain ⟨v', w', h1, h2, h3, h4⟩ := run_append_sl (P := Tryz.prog) w strE base 24 0 9 i0 _ 1 16 Tryz.underlying24 hi0 hz0 hz1 hz2 rfl (by omega) (by omega) v l.length _ hown lo hi A m c hr (fun _ => rfl) (fun x u hu => by simp at hu; subst hu; rfl) hn hbase
  exact ⟨v', w', fun ty => h1, by simp only [OwnS, List.length_append, List.flatMap_append]; exact h2, h3, h4⟩

/-- The tree's slices lie in blocks from s up to e, from base on, and neither row lies there. -/
def Apart (w : World) (base : Nat) (r1 r2 : Option Nat) (y : AV) : Prop := ∃ s e, y.In w s e ∧ base ≤ s ∧ e ≤ w.heap.size ∧ (∀ g, r1 = some g → ¬ (s ≤ g ∧ g < e)) ∧ (∀ g, r2 = some g → ¬ (s ≤ g ∧ g < e))
theorem AV.In.kept {w w' : World} {s e : Nat} {y : AV} (h : y.In w s e) (hs : w.heap.size ≤ w'.heap.size) (hk : ∀ k, s ≤ k → k < e → k < w.heap.size → w'.heap[k]? = w.heap[k]?) : y.In w' s e := AV.In.imp (fun h => h.keep hs hk) y h
theorem Apart.all {w : World} {base : Nat} {r1 r2 : Option Nat} {y : AV} (h : Apart w base r1 r2 y) : y.In w base w.heap.size := by
  obtain ⟨s, e, h1, h2, h3, _⟩ := h
  exact h1.widen h2 h3

/-- The value in the making: a box at ob below base, its list ys and its keys ks. -/
structure Mk (w : World) (ob base : Nat) (k : Int) (t : ByteArray) (a : Option Addr) (n c : Nat) (ys : List AV) (a2 : Option Addr) (n2 c2 : Nat) (ks : List ByteArray) : Prop where
  lt : ob < base
  size : base ≤ w.heap.size
  box : w.heap[ob]? = some (.cells #[.int .u8 k, .string t, .slice a n c, .slice a2 n2 c2] 26 (0, 0))
  len : n = ys.length
  len2 : n2 = ks.length
  own : OwnV w base (.slice a n c) ys
  own2 : OwnS w base (.slice a2 n2 c2) ks
  sep : ∀ g, (Value.slice a n c).ownBlock = some g → (Value.slice a2 n2 c2).ownBlock ≠ some g
  kids : ∀ y ∈ ys, Apart w base (Value.slice a n c).ownBlock (Value.slice a2 n2 c2).ownBlock y
section
variable {w w' : World} {ob base : Nat} {k : Int} {t : ByteArray} {a a2 : Option Addr} {n c n2 c2 : Nat} {ys : List AV} {ks : List ByteArray}
theorem Mk.below (h : Mk w ob base k t a n c ys a2 n2 c2 ks) (hb : Below w.heap.size w w') : Mk w' ob base k t a n c ys a2 n2 c2 ks where
  lt := h.lt
  size := Nat.le_trans h.size hb.size
  box := (hb.block ob (Nat.lt_of_lt_of_le h.lt h.size)).trans h.box
  len := h.len
  len2 := h.len2
  own := own_below h.own hb
  own2 := own_below h.own2 hb
  sep := h.sep
  kids y hy := by
    obtain ⟨s, e, h1, h2, h3, h4⟩ := h.kids y hy
    exact ⟨s, e, h1.blw' hb, h2, Nat.le_trans h3 hb.size, h4⟩
theorem Mk.cells (h : Mk w ob base k t a n c ys a2 n2 c2 ks) : w.cell? ⟨ob, 0, none⟩ = some (.int .u8 k) ∧ w.cell? ⟨ob, 1, none⟩ = some (.string t) ∧ w.cell? ⟨ob, 2, none⟩ = some (.slice a n c) ∧ w.cell? ⟨ob, 3, none⟩ = some (.slice a2 n2 c2) ∧
    w.frozen? ⟨ob, 2, none⟩ = false ∧ w.frozen? ⟨ob, 3, none⟩ = false := by
  obtain ⟨h0, h1, h2, h3, -, -, h6, h7⟩ := vbox4 h.box
  exact ⟨h0, h1, h2, h3, h6, h7⟩
theorem set_blk {w : World} {b : Nat} {cs : Array Value} {T : TypeId} (h : w.heap[b]? = some (.cells cs T (0, 0))) (o : Nat) (v : Value) : (w.setCell ⟨b, o, none⟩ v).heap[b]? = some (.cells (cs.setIfInBounds o v) T (0, 0)) := Go.Joins.block_setCell h v

/-- One more part: appended in whatever world of new blocks, and stored back. -/
theorem Mk.push (h : Mk w ob base k t a n c ys a2 n2 c2 ks) (y : AV) {s e : Nat} (hy : y.In w s e) (hs : base ≤ s) (he : e ≤ w.heap.size) (h1 : ∀ g, (Value.slice a n c).ownBlock = some g → ¬ (s ≤ g ∧ g < e)) (h2 : ∀ g, (Value.slice a2 n2 c2).ownBlock = some g → ¬ (s ≤ g ∧ g < e))
    (hn : n < 16777216) (W : World) (hW : W = w.alloc (.cells y.enc.toArray 26)) :
    ∃ a' c' W', (∀ ty, (Builtin.append_ #[23, 23] ty #[.slice a n c, .slice (some ⟨w.heap.size, 0, none⟩) 1 1]).run Tryz.prog W = .ok (.slice a' (n + 1) c') W') ∧
      W'.cell? ⟨ob, 2, none⟩ = some (.slice a n c) ∧ W'.frozen? ⟨ob, 2, none⟩ = false ∧ Mk (W'.setCell ⟨ob, 2, none⟩ (.slice a' (n + 1) c')) ob base k t a' (n + 1) c' (ys ++ [y]) a2 n2 c2 ks ∧ Below base w W' ∧ w.heap.size ≤ W'.heap.size := by
  subst hW
  have hb1 : Below w.heap.size w (w.alloc (.cells y.enc.toArray 26)) := (Below.refl _ _).alloc (Nat.le_refl _) _
  have hm := h.below hb1
  have hsz := World.size_alloc w (.cells y.enc.toArray 26)
  have hlit : SlE AV.enc 4 (w.alloc (.cells y.enc.toArray 26)) w.heap.size (w.heap.size + 1) (some ⟨w.heap.size, 0, none⟩) [y] := lit_sl (t := 26) (fr := (0, 0)) AV.enc_len (by rw [heap_alloc_new]; simp)
  obtain ⟨v', W', hrun, hown, hgr, hat⟩ := app_val (c := 1) hm.own hlit (by have := h.len; simp; omega) hm.size
  have hlt := h.lt; have hsi := h.size; have hle := h.len
  obtain ⟨g', c', hv, hg1, hg2⟩ := hown.form (by simp)
  rw [List.length_append, List.length_singleton, ← hle] at hv
  subst hv
  have hgl : ∀ g, (Value.slice a n c).ownBlock = some g → base ≤ g ∧ g < w.heap.size := h.own.lt
  have hgl2 : ∀ g, (Value.slice a2 n2 c2).ownBlock = some g → base ≤ g ∧ g < w.heap.size := h.own2.lt
  have hkeep : ∀ k, k < w.heap.size → (∀ g, (Value.slice a n c).ownBlock = some g → k ≠ g) → W'.heap[k]? = w.heap[k]? := fun k hk hne => by
    rw [hgr.block k (by omega) (fun e => hne k e.symm rfl), heap_alloc_old _ _ _ hk]
  have hg' : g' = w.heap.size + 1 ∨ (Value.slice a n c).ownBlock = some g' := by
    simp only [Value.ownBlock] at hat
    rcases hat with e | e
    · exact .inr e.symm
    · injection e with e; exact .inl (by omega)
  have hbox : W'.heap[ob]? = _ := (hkeep ob (by omega) (fun g hg e => by have := hgl g hg; omega)).trans h.box
  have hss := hgr.size
  refine ⟨some ⟨g', 0, none⟩, c', W', hrun, ?_, ?_, ?_, ?_, by omega⟩
  · simp [World.cell?, hbox]
  · simp [World.frozen?, hbox]
  · have hsW := Go.Sort.setCell_eq W' ob 2 (.slice (some ⟨g', 0, none⟩) (n + 1) c')
    have hS : ∀ (X : World) (q : Nat), q ≠ ob → (W'.setCell ⟨ob, 2, none⟩ (.slice (some ⟨g', 0, none⟩) (n + 1) c')).heap[q]? = W'.heap[q]? := fun _ q hq => Below.heap_setCell W' _ _ q hq
    have hSz : (W'.setCell ⟨ob, 2, none⟩ (.slice (some ⟨g', 0, none⟩) (n + 1) c')).heap.size = W'.heap.size := by simp
    have hgs : W'.grownBy (W'.setCell ⟨ob, 2, none⟩ (.slice (some ⟨g', 0, none⟩) (n + 1) c')) (some ob) :=
      ⟨rfl, rfl, rfl, by rw [hSz]; exact Nat.le_refl _, fun q _ hq => hS W' q (fun e => hq (by rw [e]))⟩
    refine ⟨hlt, by rw [hSz]; omega, by rw [set_blk hbox]; rfl, by simp [hle], h.len2, ?_, ?_, ?_, ?_⟩
    · have : (n + 1) = (ys ++ [y]).length := by simp [hle]
      rw [this]
      rw [hle] at hown
      refine World.ownsRow.kept (row := some ob) (by rw [OwnV, List.length_append, List.length_singleton] at hown; simpa using hown) (by simpa [hle] using hgs) (.inr ?_)
      simp only [Value.ownBlock]
      intro e; injection e with e; omega
    · refine World.ownsRow.kept (row := some ob) (World.ownsRow.kept (own_below h.own2 hb1) hgr ?_) hgs ?_
      · cases hq : (Value.slice a2 n2 c2).ownBlock with
        | none => exact .inl rfl
        | some q => exact .inr fun e => h.sep q e.symm hq
      · cases hq : (Value.slice a2 n2 c2).ownBlock with
        | none => exact .inl rfl
        | some q => exact .inr fun e => by injection e with e; have := hgl2 q hq; omega
    · intro g hg e
      have hgg : g = g' := by simp only [Value.ownBlock] at hg; injection hg with hg; exact hg.symm
      subst hgg
      rcases hg' with e1 | e1
      · have := hgl2 _ e; omega
      · exact h.sep _ e1 e
    · intro z hz
      have key : ∀ z s e, z.In w s e → base ≤ s → e ≤ w.heap.size → (∀ g, (Value.slice a n c).ownBlock = some g → ¬ (s ≤ g ∧ g < e)) → (∀ g, (Value.slice a2 n2 c2).ownBlock = some g → ¬ (s ≤ g ∧ g < e)) →
          Apart (W'.setCell ⟨ob, 2, none⟩ (.slice (some ⟨g', 0, none⟩) (n + 1) c')) base (Value.slice (some ⟨g', 0, none⟩) (n + 1) c').ownBlock (Value.slice a2 n2 c2).ownBlock z := fun z s e hz hs he h1 h2 => by
        refine ⟨s, e, hz.kept (by rw [hSz]; omega) (fun q hq1 hq2 hq3 => ?_), hs, by rw [hSz]; omega, fun g hg hc => ?_, h2⟩
        · rw [hS W' q (by omega)]
          exact hkeep q hq3 fun g hg e => h1 g hg ⟨by omega, by omega⟩
        · have hgg : g = g' := by simp only [Value.ownBlock] at hg; injection hg with hg; exact hg.symm
          subst hgg
          rcases hg' with e1 | e1
          · omega
          · exact h1 _ e1 hc
      rcases List.mem_append.1 hz with hz | hz
      · obtain ⟨s', e', q1, q2, q3, q4, q5⟩ := h.kids z hz
        exact key z s' e' q1 q2 q3 q4 q5
      · simp at hz; subst hz
        exact key _ s e hy hs he h1 h2
  · exact (hb1.mono hsi).grown hgr (by omega) (fun g hg => (hgl g hg).1)

/-- One more key. -/
theorem Mk.key (h : Mk w ob base k t a n c ys a2 n2 c2 ks) (y : ByteArray) (hn : n2 < 16777216) (W : World) (hW : W = w.alloc (.cells #[.string y] 9)) :
    ∃ a' c' W', (∀ ty, (Builtin.append_ #[24, 24] ty #[.slice a2 n2 c2, .slice (some ⟨w.heap.size, 0, none⟩) 1 1]).run Tryz.prog W = .ok (.slice a' (n2 + 1) c') W') ∧
      W'.cell? ⟨ob, 3, none⟩ = some (.slice a2 n2 c2) ∧ W'.frozen? ⟨ob, 3, none⟩ = false ∧ Mk (W'.setCell ⟨ob, 3, none⟩ (.slice a' (n2 + 1) c')) ob base k t a n c ys a' (n2 + 1) c' (ks ++ [y]) ∧ Below base w W' ∧ w.heap.size ≤ W'.heap.size := by
  subst hW
  have hb1 : Below w.heap.size w (w.alloc (.cells #[.string y] 9)) := (Below.refl _ _).alloc (Nat.le_refl _) _
  have hm := h.below hb1
  have hsz := World.size_alloc w (.cells #[.string y] 9)
  have hlit : SlE strE 1 (w.alloc (.cells #[.string y] 9)) w.heap.size (w.heap.size + 1) (some ⟨w.heap.size, 0, none⟩) [y] := lit_sl (enc := strE) (size := 1) (l := [y]) (t := 9) (fr := (0, 0)) (fun _ => rfl) (heap_alloc_new _ _)
  obtain ⟨v', W', hrun, hown, hgr, hat⟩ := app_str (c := 1) hm.own2 hlit (by have := h.len2; simp; omega) hm.size
  have hlt := h.lt; have hsi := h.size; have hle := h.len2
  obtain ⟨g', c', hv, hg1, hg2⟩ := hown.form (by simp)
  rw [List.length_append, List.length_singleton, ← hle] at hv
  subst hv
  have hgl : ∀ g, (Value.slice a n c).ownBlock = some g → base ≤ g ∧ g < w.heap.size := h.own.lt
  have hgl2 : ∀ g, (Value.slice a2 n2 c2).ownBlock = some g → base ≤ g ∧ g < w.heap.size := h.own2.lt
  have hkeep : ∀ k, k < w.heap.size → (∀ g, (Value.slice a2 n2 c2).ownBlock = some g → k ≠ g) → W'.heap[k]? = w.heap[k]? := fun k hk hne => by
    rw [hgr.block k (by omega) (fun e => hne k e.symm rfl), heap_alloc_old _ _ _ hk]
  have hg' : g' = w.heap.size + 1 ∨ (Value.slice a2 n2 c2).ownBlock = some g' := by
    simp only [Value.ownBlock] at hat
    rcases hat with e | e
    · exact .inr e.symm
    · injection e with e; exact .inl (by omega)
  have hbox : W'.heap[ob]? = _ := (hkeep ob (by omega) (fun g hg e => by have := hgl2 g hg; omega)).trans h.box
  have hss := hgr.size
  refine ⟨some ⟨g', 0, none⟩, c', W', hrun, ?_, ?_, ?_, ?_, by omega⟩
  · simp [World.cell?, hbox]
  · simp [World.frozen?, hbox]
  · have hS : ∀ (X : World) (q : Nat), q ≠ ob → (W'.setCell ⟨ob, 3, none⟩ (.slice (some ⟨g', 0, none⟩) (n2 + 1) c')).heap[q]? = W'.heap[q]? := fun _ q hq => Below.heap_setCell W' _ _ q hq
    have hSz : (W'.setCell ⟨ob, 3, none⟩ (.slice (some ⟨g', 0, none⟩) (n2 + 1) c')).heap.size = W'.heap.size := by simp
    have hgs : W'.grownBy (W'.setCell ⟨ob, 3, none⟩ (.slice (some ⟨g', 0, none⟩) (n2 + 1) c')) (some ob) :=
      ⟨rfl, rfl, rfl, by rw [hSz]; exact Nat.le_refl _, fun q _ hq => hS W' q (fun e => hq (by rw [e]))⟩
    refine ⟨hlt, by rw [hSz]; omega, by rw [set_blk hbox]; rfl, h.len, by simp [hle], ?_, ?_, ?_, ?_⟩
    · refine World.ownsRow.kept (row := some ob) (World.ownsRow.kept (own_below h.own hb1) hgr ?_) hgs ?_
      · cases hq : (Value.slice a n c).ownBlock with
        | none => exact .inl rfl
        | some q => exact .inr fun e => h.sep q hq e.symm
      · cases hq : (Value.slice a n c).ownBlock with
        | none => exact .inl rfl
        | some q => exact .inr fun e => by injection e with e; have := hgl q hq; omega
    · rw [OwnS, List.length_append, List.length_singleton] at hown ⊢
      refine World.ownsRow.kept (row := some ob) (by rw [hle]; rw [hle] at hown; exact hown) hgs (.inr ?_)
      simp only [Value.ownBlock]
      intro e; injection e with e; omega
    · intro g hg e
      have hgg : g = g' := by simp only [Value.ownBlock] at e; injection e with e; exact e.symm
      subst hgg
      rcases hg' with e1 | e1
      · have := hgl _ hg; omega
      · exact h.sep _ hg e1
    · intro z hz
      obtain ⟨s, e, q1, q2, q3, q4, q5⟩ := h.kids z hz
      refine ⟨s, e, q1.kept (by rw [hSz]; omega) (fun q hq1 hq2 hq3 => ?_), q2, by rw [hSz]; omega, q4, fun g hg hc => ?_⟩
      · rw [hS W' q (by omega)]
        exact hkeep q hq3 fun g hg e => q5 g hg ⟨by omega, by omega⟩
      · have hgg : g = g' := by simp only [Value.ownBlock] at hg; injection hg with hg; exact hg.symm
        subst hgg
        rcases hg' with e1 | e1
        · omega
        · exact q5 _ e1 hc
  · exact (hb1.mono hsi).grown hgr (by omega) (fun g hg => (hgl2 g hg).1)
end
end Go.Proofs.YtmhkacafilpliaaGreat

namespace Go.Proofs.YtmhkacafilpliaaGreat
open Go.RowKit Go.Sort

section
variable {w w' : World} {ob base : Nat} {k : Int} {t : ByteArray} {a a2 : Option Addr} {n c n2 c2 : Nat} {ys : List AV} {ks : List ByteArray}
/-- The value is made: it lies in memory. -/
theorem Mk.done (h : Mk w ob base k t a n c ys a2 n2 c2 ks) (hk : 0 ≤ k ∧ k ≤ 255) (hs : w.heap.size ≤ w'.heap.size) (hq : ∀ q, base ≤ q → q < w.heap.size → w'.heap[q]? = w.heap[q]?) : AV.In w' base w'.heap.size ⟨k, t, a, c, ys, a2, c2, ks⟩ := by
  have h1 : SlE AV.enc 4 w base w.heap.size a ys := by have := h.own; rw [h.len] at this; exact own_sl AV.enc_len this
  have h2 : SlE strE 1 w base w.heap.size a2 ks := by have := h.own2; rw [h.len2] at this; exact own_sl (enc := strE) (size := 1) (fun _ => rfl) this
  exact ⟨(h1.keep hs fun q g1 _ g2 => hq q g1 g2).widen (Nat.le_refl _) hs, (h2.keep hs fun q g1 _ g2 => hq q g1 g2).widen (Nat.le_refl _) hs, hk, fun y hy => ((h.kids y hy).all.kept hs fun q g1 _ g2 => hq q g1 g2).widen (Nat.le_refl _) hs⟩
/-- A part that a call has made is put behind. -/
theorem Mk.call (h : Mk w ob base k t a n c ys a2 n2 c2 ks) {w1 : World} (hb : Below w.heap.size w w1) {z : AV} (hz : z.In w1 w.heap.size w1.heap.size) (hn : n < 16777216) (W : World) (hW : W = w1.alloc (.cells z.enc.toArray 26)) :
    ∃ a' c' W', (∀ ty, (Builtin.append_ #[23, 23] ty #[.slice a n c, .slice (some ⟨w1.heap.size, 0, none⟩) 1 1]).run Tryz.prog W = .ok (.slice a' (n + 1) c') W') ∧
      W'.cell? ⟨ob, 2, none⟩ = some (.slice a n c) ∧ W'.frozen? ⟨ob, 2, none⟩ = false ∧ Mk (W'.setCell ⟨ob, 2, none⟩ (.slice a' (n + 1) c')) ob base k t a' (n + 1) c' (ys ++ [z]) a2 n2 c2 ks ∧ Below base w W' := by
  have hgl : ∀ g, (Value.slice a n c).ownBlock = some g → base ≤ g ∧ g < w.heap.size := h.own.lt
  have hgl2 : ∀ g, (Value.slice a2 n2 c2).ownBlock = some g → base ≤ g ∧ g < w.heap.size := h.own2.lt
  obtain ⟨a', c', W', h1, h2, h3, h4, h5, _⟩ := (h.below hb).push z hz h.size (Nat.le_refl _) (fun g hg hc => by have := hgl g hg; omega) (fun g hg hc => by have := hgl2 g hg; omega) hn W hW
  exact ⟨a', c', W', h1, h2, h3, h4, (hb.mono h.size).trans h5⟩
/-- The keys are a copy of a list. -/
theorem Mk.strs (h : Mk w ob base k t a n c ys none 0 0 []) {lo hi : Nat} {A : Option Addr} {m : List ByteArray} {cm : Nat} (hr : SlE strE 1 w lo hi A m) (hm : m.length ≤ 16777216) :
    ∃ a' c' W', (∀ ty, (Builtin.append_ #[24, 24] ty #[.slice none 0 0, .slice A m.length cm]).run Tryz.prog w = .ok (.slice a' m.length c') W') ∧
      W'.cell? ⟨ob, 3, none⟩ = some (.slice none 0 0) ∧ W'.frozen? ⟨ob, 3, none⟩ = false ∧ Mk (W'.setCell ⟨ob, 3, none⟩ (.slice a' m.length c')) ob base k t a n c ys a' m.length c' m ∧ Below w.heap.size w W' := by
  obtain ⟨v', W', hrun, hown, hgr, hat⟩ := app_str (c := cm) h.own2 hr (by simpa using hm) h.size
  have hb1 : Below w.heap.size w W' := (Below.refl _ _).grown hgr (Nat.le_refl _) (fun g hg => by simp [Value.ownBlock] at hg)
  have hmk := h.below hb1
  obtain ⟨a', c', hv, hnew⟩ : ∃ a' c', v' = .slice a' m.length c' ∧ ∀ g, v'.ownBlock = some g → g = w.heap.size := by
    have hg : ∀ g, v'.ownBlock = some g → g = w.heap.size := fun g hg => by
      rcases hat with e | e
      · rw [e] at hg; simp [Value.ownBlock] at hg
      · rw [e] at hg; injection hg with hg; exact hg.symm
    rcases hown.2 with ⟨e, h0⟩ | ⟨g, cap, cur, e, _⟩
    · have : m.length = 0 := by simpa using h0
      exact ⟨none, 0, by rw [e, this], hg⟩
    · exact ⟨_, _, by simpa using e, hg⟩
  subst hv
  rw [List.nil_append] at hown
  have hlt := h.lt; have hsi := h.size
  have hgl : ∀ g, (Value.slice a n c).ownBlock = some g → base ≤ g ∧ g < w.heap.size := h.own.lt
  obtain ⟨-, -, -, q3, -, q5⟩ := hmk.cells
  have hS : ∀ (q : Nat), q ≠ ob → (W'.setCell ⟨ob, 3, none⟩ (.slice a' m.length c')).heap[q]? = W'.heap[q]? := fun q hq => Below.heap_setCell W' _ _ q hq
  have hSz : (W'.setCell ⟨ob, 3, none⟩ (.slice a' m.length c')).heap.size = W'.heap.size := by simp
  have hgs : W'.grownBy (W'.setCell ⟨ob, 3, none⟩ (.slice a' m.length c')) (some ob) := ⟨rfl, rfl, rfl, by rw [hSz]; exact Nat.le_refl _, fun q _ hq => hS q (fun e => hq (by rw [e]))⟩
  have hss := hb1.size
  refine ⟨a', c', W', hrun, q3, q5, ⟨hlt, by rw [hSz]; omega, by rw [set_blk hmk.box]; rfl, h.len, rfl, ?_, ?_, ?_, ?_⟩, hb1⟩
  · refine World.ownsRow.kept (row := some ob) hmk.own hgs ?_
    cases hq : (Value.slice a n c).ownBlock with
    | none => exact .inl rfl
    | some q => exact .inr fun e => by injection e with e; have := hgl q hq; omega
  · refine World.ownsRow.kept (row := some ob) hown hgs ?_
    cases hq : (Value.slice a' m.length c').ownBlock with
    | none => exact .inl rfl
    | some q => exact .inr fun e => by injection e with e; have := hnew q hq; omega
  · intro g hg e
    have := hgl g hg; have := hnew g e; omega
  · intro z hz
    obtain ⟨s, e, q1, q2, q3, q4, q5⟩ := h.kids z hz
    refine ⟨s, e, (q1.blw' hb1).kept (by rw [hSz]; exact Nat.le_refl _) (fun q hq1 hq2 hq3 => hS q (by omega)), q2, by rw [hSz]; omega, q4, fun g hg hc => ?_⟩
    have := hnew g hg; omega
end

/-- Four cells are stored. -/
def set4 (w : World) (B : Nat) (a b c d : Value) : World := (((w.setCell ⟨B, 0, none⟩ a).setCell ⟨B, 1, none⟩ b).setCell ⟨B, 2, none⟩ c).setCell ⟨B, 3, none⟩ d
theorem size4 {w : World} {B : Nat} {a b c d : Value} : (set4 w B a b c d).heap.size = w.heap.size := by simp [set4]
theorem old4 {w : World} {B : Nat} {a b c d : Value} {q : Nat} (h : q ≠ B) : (set4 w B a b c d).heap[q]? = w.heap[q]? := by
  unfold set4
  rw [Below.heap_setCell _ _ _ q h, Below.heap_setCell _ _ _ q h, Below.heap_setCell _ _ _ q h, Below.heap_setCell _ _ _ q h]
theorem below4 {w W : World} {N B : Nat} {a b c d : Value} (h : Below N w W) (hB : N ≤ B) : Below N w (set4 W B a b c d) :=
  (((h.setCell (p := ⟨B, 0, none⟩) hB _).setCell (p := ⟨B, 1, none⟩) hB _).setCell (p := ⟨B, 2, none⟩) hB _).setCell (p := ⟨B, 3, none⟩) hB _

/-- Where the parts are taken from. -/
def pickAt (k8 : Bool) (by_ n i : Nat) : Nat := if k8 then turnAt by_ n i else i
def picks {α : Type} (k8 : Bool) (by_ n m : Nat) (l : List α) : List α := ((List.range m).map (pickAt k8 by_ n)).filterMap (l[·]?)
theorem picks_snoc {α : Type} {k8 : Bool} {by_ n m : Nat} {l : List α} {y : α} (h : l[pickAt k8 by_ n m]? = some y) : picks k8 by_ n (m + 1) l = picks k8 by_ n m l ++ [y] := by
  unfold picks
  rw [List.range_succ, List.map_append, List.filterMap_append]
  simp [h]
theorem picks_all {α : Type} (by_ : Nat) (l : List α) : picks true by_ l.length l.length l = turnL by_ l := rfl
theorem picks_id {α : Type} (by_ n : Nat) (l : List α) : picks false by_ n l.length l = l := by
  unfold picks
  have : (List.range l.length).map (pickAt false by_ n) = List.range l.length := by
    rw [show pickAt false by_ n = id from rfl, List.map_id]
  rw [this, range_get]
theorem pickAt_lt {k8 : Bool} {by_ n i : Nat} (h : i < n) : pickAt k8 by_ n i < n := by
  unfold pickAt; split
  · exact turnAt_lt h
  · exact h

def TurnPost (by_ : Nat) (v : Val) (w : World) (e : Ending) (w' : World) : Prop := ∃ y : AV, e = .returned y.val ∧ y.v = v.turned by_ ∧ y.In w' w.heap.size w'.heap.size ∧ Below w.heap.size w w'

end Go.Proofs.YtmhkacafilpliaaGreat

namespace Go.Proofs.YtmhkacafilpliaaGreat
open Go.RowKit Go.Sort
end Go.Proofs.YtmhkacafilpliaaGreat
