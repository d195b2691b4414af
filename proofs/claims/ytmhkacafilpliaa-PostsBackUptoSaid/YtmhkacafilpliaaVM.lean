/-
  A value in the making: a box whose list and keys are rows of the call's own, that grow; the parts lie apart from both rows. Conditions: bounded lengths.
  The law's Turned as the plain function of a value. Conditions: the tree lies in memory, its weight is bounded, it may be.
  The law's Turned at maps. Conditions: the tree lies in memory, its weight is bounded, it may be.
-/
import Derived.Test.YtmhkacafilpliaaO2
import Derived.Test.YtmhkacafilpliaaVC
import Derived.Deep.RegionLaw
import Derived.Lib.ItoaWalk
import Derived.Deep.DeepCutAuto
namespace Go.Proofs.Ytmhkacafilpliaa
open Go.RowKit Go.Sort

theorem info_val : (Try.prog.info? 26).map (fun i => (i.zero, i.size, i.bytes)) = some (some (.agg #[.int .u8 0, .string ⟨#[]⟩, .slice none 0 0, .slice none 0 0]), 4, 72) := by kernel_rfl

def OwnV (w : World) (base : Nat) (v : Value) (l : List AV) : Prop := w.ownsRow base 26 4 v l.length (l.flatMap AV.enc)
def OwnS (w : World) (base : Nat) (v : Value) (l : List ByteArray) : Prop := w.ownsRow base 9 1 v l.length (l.flatMap strE)
theorem enc_one (x : AV) : ∀ u ∈ x.enc, u.oneCell' = true := fun u hu => by simp [AV.enc] at hu; rcases hu with rfl | rfl | rfl | rfl <;> rfl

theorem app_val {w : World} {base : Nat} {v : Value} {l : List AV} (hown : OwnV w base v l) {lo hi : Nat} {A : Option Addr} {m : List AV} {c : Nat} (hr : SlE AV.enc 4 w lo hi A m) (hn : l.length + m.length ≤ 16777216) (hbase : base ≤ w.heap.size) :
    ∃ v' w', (∀ ty, (Builtin.append_ #[23, 23] ty #[v, .slice A m.length c]).run Try.prog w = .ok v' w') ∧ OwnV w' base v' (l ++ m) ∧ w.grownBy w' v.ownBlock ∧ (v'.ownBlock = v.ownBlock ∨ v'.ownBlock = some w.heap.size) := by
  obtain ⟨i0, hi0, hz0, hz1, hz2⟩ := info_parts info_val
  obtain ⟨v', w', h1, h2, h3, h4⟩ := run_append_sl (P := Try.prog) w AV.enc base 23 0 26 i0 _ 4 72 Try.underlying23 hi0 hz0 hz1 hz2 rfl (by omega) (by omega) v l.length _ hown lo hi A m c hr AV.enc_len enc_one hn hbase
  exact ⟨v', w', fun ty => h1, by simp only [OwnV, List.length_append, List.flatMap_append]; exact h2, h3, h4⟩
theorem app_str {w : World} {base : Nat} {v : Value} {l : List ByteArray} (hown : OwnS w base v l) {lo hi : Nat} {A : Option Addr} {m : List ByteArray} {c : Nat} (hr : SlE strE 1 w lo hi A m) (hn : l.length + m.length ≤ 16777216) (hbase : base ≤ w.heap.size) :
    ∃ v' w', (∀ ty, (Builtin.append_ #[24, 24] ty #[v, .slice A m.length c]).run Try.prog w = .ok v' w') ∧ OwnS w' base v' (l ++ m) ∧ w.grownBy w' v.ownBlock ∧ (v'.ownBlock = v.ownBlock ∨ v'.ownBlock = some w.heap.size) := by
  obtain ⟨i0, hi0, hz0, hz1, hz2⟩ := info_parts info_str
  obtain ⟨v', w', h1, h2, h3, h4⟩ := run_append_sl (P := Try.prog) w strE base 24 0 9 i0 _ 1 16 Try.underlying24 hi0 hz0 hz1 hz2 rfl (by omega) (by omega) v l.length _ hown lo hi A m c hr (fun _ => rfl) (fun x u hu => by simp at hu; subst hu; rfl) hn hbase
  exact ⟨v', w', fun ty => h1, by simp only [OwnS, List.length_append, List.flatMap_append]; exact h2, h3, h4⟩

/-- The tree's slices lie in blocks from s up to e, from base on, and neither row lies there. -/
def Apart (w : World) (base : Nat) (r1 r2 : Option Nat) (y : AV) : Prop := ∃ s e, y.In w s e ∧ base ≤ s ∧ e ≤ w.heap.size ∧ (∀ g, r1 = some g → ¬ (s ≤ g ∧ g < e)) ∧ (∀ g, r2 = some g → ¬ (s ≤ g ∧ g < e))
theorem AV.In.kept {w w' : World} {s e : Nat} {y : AV} (h : y.In w s e) (hs : w.heap.size ≤ w'.heap.size) (hk : ∀ k, s ≤ k → k < e → k < w.heap.size → w'.heap[k]? = w.heap[k]?) : y.In w' s e := AV.In.imp (fun h => h.keep hs hk) y h
theorem Apart.all {w : World} {base : Nat} {r1 r2 : Option Nat} {y : AV} (h : Apart w base r1 r2 y) : y.In w base w.heap.size := by
  obtain ⟨s, e, h1, h2, h3, _⟩ := h
  exact h1.widen h2 h3

/-- The value in the making: a box at ob below base, its list ys and its keys ks. -/
structure Mk (w : World) (ob base : Nat) (k : Int) (t : ByteArray) (a : Option Addr) (n c : Nat) (ys : List AV) (a2 : Option Addr) (n2 c2 : Nat) (ks : List ByteArray) : Prop where
  lt : ob < base
  size : base ≤ w.heap.size
  box : w.heap[ob]? = some (.cells #[.int .u8 k, .string t, .slice a n c, .slice a2 n2 c2] 26 (0, 0))
  len : n = ys.length
  len2 : n2 = ks.length
  own : OwnV w base (.slice a n c) ys
  own2 : OwnS w base (.slice a2 n2 c2) ks
  sep : ∀ g, (Value.slice a n c).ownBlock = some g → (Value.slice a2 n2 c2).ownBlock ≠ some g
  kids : ∀ y ∈ ys, Apart w base (Value.slice a n c).ownBlock (Value.slice a2 n2 c2).ownBlock y
section
variable {w w' : World} {ob base : Nat} {k : Int} {t : ByteArray} {a a2 : Option Addr} {n c n2 c2 : Nat} {ys : List AV} {ks : List ByteArray}
theorem Mk.below (h : Mk w ob base k t a n c ys a2 n2 c2 ks) (hb : Below w.heap.size w w') : Mk w' ob base k t a n c ys a2 n2 c2 ks where
  lt := h.lt
  size := Nat.le_trans h.size hb.size
  box := (hb.block ob (Nat.lt_of_lt_of_le h.lt h.size)).trans h.box
  len := h.len
  len2 := h.len2
  own := own_below h.own hb
  own2 := own_below h.own2 hb
  sep := h.sep
  kids y hy := by
    obtain ⟨s, e, h1, h2, h3, h4⟩ := h.kids y hy
    exact ⟨s, e, h1.blw' hb, h2, Nat.le_trans h3 hb.size, h4⟩
theorem Mk.cells (h : Mk w ob base k t a n c ys a2 n2 c2 ks) : w.cell? ⟨ob, 0, none⟩ = some (.int .u8 k) ∧ w.cell? ⟨ob, 1, none⟩ = some (.string t) ∧ w.cell? ⟨ob, 2, none⟩ = some (.slice a n c) ∧ w.cell? ⟨ob, 3, none⟩ = some (.slice a2 n2 c2) ∧
    w.frozen? ⟨ob, 2, none⟩ = false ∧ w.frozen? ⟨ob, 3, none⟩ = false := by
  obtain ⟨h0, h1, h2, h3, -, -, h6, h7⟩ := vbox4 h.box
  exact ⟨h0, h1, h2, h3, h6, h7⟩
theorem set_blk {w : World} {b : Nat} {cs : Array Value} {T : TypeId} (h : w.heap[b]? = some (.cells cs T (0, 0))) (o : Nat) (v : Value) : (w.setCell ⟨b, o, none⟩ v).heap[b]? = some (.cells (cs.setIfInBounds o v) T (0, 0)) := Go.Joins.block_setCell h v

/-- One more part: appended in whatever world of new blocks, and stored back. -/
theorem Mk.push (h : Mk w ob base k t a n c ys a2 n2 c2 ks) (y : AV) {s e : Nat} (hy : y.In w s e) (hs : base ≤ s) (he : e ≤ w.heap.size) (h1 : ∀ g, (Value.slice a n c).ownBlock = some g → ¬ (s ≤ g ∧ g < e)) (h2 : ∀ g, (Value.slice a2 n2 c2).ownBlock = some g → ¬ (s ≤ g ∧ g < e))
    (hn : n < 16777216) (W : World) (hW : W = w.alloc (.cells y.enc.toArray 26)) :
    ∃ a' c' W', (∀ ty, (Builtin.append_ #[23, 23] ty #[.slice a n c, .slice (some ⟨w.heap.size, 0, none⟩) 1 1]).run Try.prog W = .ok (.slice a' (n + 1) c') W') ∧
      W'.cell? ⟨ob, 2, none⟩ = some (.slice a n c) ∧ W'.frozen? ⟨ob, 2, none⟩ = false ∧ Mk (W'.setCell ⟨ob, 2, none⟩ (.slice a' (n + 1) c')) ob base k t a' (n + 1) c' (ys ++ [y]) a2 n2 c2 ks ∧ Below base w W' ∧ w.heap.size ≤ W'.heap.size := by
  subst hW
  have hb1 : Below w.heap.size w (w.alloc (.cells y.enc.toArray 26)) := (Below.refl _ _).alloc (Nat.le_refl _) _
  have hm := h.below hb1
  have hsz := World.size_alloc w (.cells y.enc.toArray 26)
  have hlit : SlE AV.enc 4 (w.alloc (.cells y.enc.toArray 26)) w.heap.size (w.heap.size + 1) (some ⟨w.heap.size, 0, none⟩) [y] := lit_sl (t := 26) (fr := (0, 0)) AV.enc_len (by rw [heap_alloc_new]; simp)
  obtain ⟨v', W', hrun, hown, hgr, hat⟩ := app_val (c := 1) hm.own hlit (by have := h.len; simp; omega) hm.size
  have hlt := h.lt; have hsi := h.size; have hle := h.len
  obtain ⟨g', c', hv, hg1, hg2⟩ := hown.form (by simp)
  rw [List.length_append, List.length_singleton, ← hle] at hv
  subst hv
  have hgl : ∀ g, (Value.slice a n c).ownBlock = some g → base ≤ g ∧ g < w.heap.size := h.own.lt
  have hgl2 : ∀ g, (Value.slice a2 n2 c2).ownBlock = some g → base ≤ g ∧ g < w.heap.size := h.own2.lt
  have hkeep : ∀ k, k < w.heap.size → (∀ g, (Value.slice a n c).ownBlock = some g → k ≠ g) → W'.heap[k]? = w.heap[k]? := fun k hk hne => by
    rw [hgr.block k (by omega) (fun e => hne k e.symm rfl), heap_alloc_old _ _ _ hk]
  have hg' : g' = w.heap.size + 1 ∨ (Value.slice a n c).ownBlock = some g' := by
    simp only [Value.ownBlock] at hat
    rcases hat with e | e
    · exact .inr e.symm
    · injection e with e; exact .inl (by omega)
  have hbox : W'.heap[ob]? = _ := (hkeep ob (by omega) (fun g hg e => by have := hgl g hg; omega)).trans h.box
  have hss := hgr.size
  refine ⟨some ⟨g', 0, none⟩, c', W', hrun, ?_, ?_, ?_, ?_, by omega⟩
  · simp [World.cell?, hbox]
  · simp [World.frozen?, hbox]
  · have hsW := Go.Sort.setCell_eq W' ob 2 (.slice (some ⟨g', 0, none⟩) (n + 1) c')
    have hS : ∀ (X : World) (q : Nat), q ≠ ob → (W'.setCell ⟨ob, 2, none⟩ (.slice (some ⟨g', 0, none⟩) (n + 1) c')).heap[q]? = W'.heap[q]? := fun _ q hq => Below.heap_setCell W' _ _ q hq
    have hSz : (W'.setCell ⟨ob, 2, none⟩ (.slice (some ⟨g', 0, none⟩) (n + 1) c')).heap.size = W'.heap.size := by simp
    have hgs : W'.grownBy (W'.setCell ⟨ob, 2, none⟩ (.slice (some ⟨g', 0, none⟩) (n + 1) c')) (some ob) :=
      ⟨rfl, rfl, rfl, by rw [hSz]; exact Nat.le_refl _, fun q _ hq => hS W' q (fun e => hq (by rw [e]))⟩
    refine ⟨hlt, by rw [hSz]; omega, by rw [set_blk hbox]; rfl, by simp [hle], h.len2, ?_, ?_, ?_, ?_⟩
    · have : (n + 1) = (ys ++ [y]).length := by simp [hle]
      rw [this]
      rw [hle] at hown
      refine World.ownsRow.kept (row := some ob) (by rw [OwnV, List.length_append, List.length_singleton] at hown; simpa using hown) (by simpa [hle] using hgs) (.inr ?_)
      simp only [Value.ownBlock]
      intro e; injection e with e; omega
    · refine World.ownsRow.kept (row := some ob) (World.ownsRow.kept (own_below h.own2 hb1) hgr ?_) hgs ?_
      · cases hq : (Value.slice a2 n2 c2).ownBlock with
        | none => exact .inl rfl
        | some q => exact .inr fun e => h.sep q e.symm hq
      · cases hq : (Value.slice a2 n2 c2).ownBlock with
        | none => exact .inl rfl
        | some q => exact .inr fun e => by injection e with e; have := hgl2 q hq; omega
    · intro g hg e
      have hgg : g = g' := by simp only [Value.ownBlock] at hg; injection hg with hg; exact hg.symm
      subst hgg
      rcases hg' with e1 | e1
      · have := hgl2 _ e; omega
      · exact h.sep _ e1 e
    · intro z hz
      have key : ∀ z s e, z.In w s e → base ≤ s → e ≤ w.heap.size → (∀ g, (Value.slice a n c).ownBlock = some g → ¬ (s ≤ g ∧ g < e)) → (∀ g, (Value.slice a2 n2 c2).ownBlock = some g → ¬ (s ≤ g ∧ g < e)) →
          Apart (W'.setCell ⟨ob, 2, none⟩ (.slice (some ⟨g', 0, none⟩) (n + 1) c')) base (Value.slice (some ⟨g', 0, none⟩) (n + 1) c').ownBlock (Value.slice a2 n2 c2).ownBlock z := fun z s e hz hs he h1 h2 => by
        refine ⟨s, e, hz.kept (by rw [hSz]; omega) (fun q hq1 hq2 hq3 => ?_), hs, by rw [hSz]; omega, fun g hg hc => ?_, h2⟩
        · rw [hS W' q (by omega)]
          exact hkeep q hq3 fun g hg e => h1 g hg ⟨by omega, by omega⟩
        · have hgg : g = g' := by simp only [Value.ownBlock] at hg; injection hg with hg; exact hg.symm
          subst hgg
          rcases hg' with e1 | e1
          · omega
          · exact h1 _ e1 hc
      rcases List.mem_append.1 hz with hz | hz
      · obtain ⟨s', e', q1, q2, q3, q4, q5⟩ := h.kids z hz
        exact key z s' e' q1 q2 q3 q4 q5
      · simp at hz; subst hz
        exact key _ s e hy hs he h1 h2
  · exact (hb1.mono hsi).grown hgr (by omega) (fun g hg => (hgl g hg).1)

/-- One more key. -/
theorem Mk.key (h : Mk w ob base k t a n c ys a2 n2 c2 ks) (y : ByteArray) (hn : n2 < 16777216) (W : World) (hW : W = w.alloc (.cells #[.string y] 9)) :
    ∃ a' c' W', (∀ ty, (Builtin.append_ #[24, 24] ty #[.slice a2 n2 c2, .slice (some ⟨w.heap.size, 0, none⟩) 1 1]).run Try.prog W = .ok (.slice a' (n2 + 1) c') W') ∧
      W'.cell? ⟨ob, 3, none⟩ = some (.slice a2 n2 c2) ∧ W'.frozen? ⟨ob, 3, none⟩ = false ∧ Mk (W'.setCell ⟨ob, 3, none⟩ (.slice a' (n2 + 1) c')) ob base k t a n c ys a' (n2 + 1) c' (ks ++ [y]) ∧ Below base w W' ∧ w.heap.size ≤ W'.heap.size := by
  subst hW
  have hb1 : Below w.heap.size w (w.alloc (.cells #[.string y] 9)) := (Below.refl _ _).alloc (Nat.le_refl _) _
  have hm := h.below hb1
  have hsz := World.size_alloc w (.cells #[.string y] 9)
  have hlit : SlE strE 1 (w.alloc (.cells #[.string y] 9)) w.heap.size (w.heap.size + 1) (some ⟨w.heap.size, 0, none⟩) [y] := lit_sl (enc := strE) (size := 1) (l := [y]) (t := 9) (fr := (0, 0)) (fun _ => rfl) (heap_alloc_new _ _)
  obtain ⟨v', W', hrun, hown, hgr, hat⟩ := app_str (c := 1) hm.own2 hlit (by have := h.len2; simp; omega) hm.size
  have hlt := h.lt; have hsi := h.size; have hle := h.len2
  obtain ⟨g', c', hv, hg1, hg2⟩ := hown.form (by simp)
  rw [List.length_append, List.length_singleton, ← hle] at hv
  subst hv
  have hgl : ∀ g, (Value.slice a n c).ownBlock = some g → base ≤ g ∧ g < w.heap.size := h.own.lt
  have hgl2 : ∀ g, (Value.slice a2 n2 c2).ownBlock = some g → base ≤ g ∧ g < w.heap.size := h.own2.lt
  have hkeep : ∀ k, k < w.heap.size → (∀ g, (Value.slice a2 n2 c2).ownBlock = some g → k ≠ g) → W'.heap[k]? = w.heap[k]? := fun k hk hne => by
    rw [hgr.block k (by omega) (fun e => hne k e.symm rfl), heap_alloc_old _ _ _ hk]
  have hg' : g' = w.heap.size + 1 ∨ (Value.slice a2 n2 c2).ownBlock = some g' := by
    simp only [Value.ownBlock] at hat
    rcases hat with e | e
    · exact .inr e.symm
    · injection e with e; exact .inl (by omega)
  have hbox : W'.heap[ob]? = _ := (hkeep ob (by omega) (fun g hg e => by have := hgl2 g hg; omega)).trans h.box
  have hss := hgr.size
  refine ⟨some ⟨g', 0, none⟩, c', W', hrun, ?_, ?_, ?_, ?_, by omega⟩
  · simp [World.cell?, hbox]
  · simp [World.frozen?, hbox]
  · have hS : ∀ (X : World) (q : Nat), q ≠ ob → (W'.setCell ⟨ob, 3, none⟩ (.slice (some ⟨g', 0, none⟩) (n2 + 1) c')).heap[q]? = W'.heap[q]? := fun _ q hq => Below.heap_setCell W' _ _ q hq
    have hSz : (W'.setCell ⟨ob, 3, none⟩ (.slice (some ⟨g', 0, none⟩) (n2 + 1) c')).heap.size = W'.heap.size := by simp
    have hgs : W'.grownBy (W'.setCell ⟨ob, 3, none⟩ (.slice (some ⟨g', 0, none⟩) (n2 + 1) c')) (some ob) :=
      ⟨rfl, rfl, rfl, by rw [hSz]; exact Nat.le_refl _, fun q _ hq => hS W' q (fun e => hq (by rw [e]))⟩
    refine ⟨hlt, by rw [hSz]; omega, by rw [set_blk hbox]; rfl, h.len, by simp [hle], ?_, ?_, ?_, ?_⟩
    · refine World.ownsRow.kept (row := some ob) (World.ownsRow.kept (own_below h.own hb1) hgr ?_) hgs ?_
      · cases hq : (Value.slice a n c).ownBlock with
        | none => exact .inl rfl
        | some q => exact .inr fun e => h.sep q hq e.symm
      · cases hq : (Value.slice a n c).ownBlock with
        | none => exact .inl rfl
        | some q => exact .inr fun e => by injection e with e; have := hgl q hq; omega
    · rw [OwnS, List.length_append, List.length_singleton] at hown ⊢
      refine World.ownsRow.kept (row := some ob) (by rw [hle]; rw [hle] at hown; exact hown) hgs (.inr ?_)
      simp only [Value.ownBlock]
      intro e; injection e with e; omega
    · intro g hg e
      have hgg : g = g' := by simp only [Value.ownBlock] at e; injection e with e; exact e.symm
      subst hgg
      rcases hg' with e1 | e1
      · have := hgl _ hg; omega
      · exact h.sep _ hg e1
    · intro z hz
      obtain ⟨s, e, q1, q2, q3, q4, q5⟩ := h.kids z hz
      refine ⟨s, e, q1.kept (by rw [hSz]; omega) (fun q hq1 hq2 hq3 => ?_), q2, by rw [hSz]; omega, q4, fun g hg hc => ?_⟩
      · rw [hS W' q (by omega)]
        exact hkeep q hq3 fun g hg e => q5 g hg ⟨by omega, by omega⟩
      · have hgg : g = g' := by simp only [Value.ownBlock] at hg; injection hg with hg; exact hg.symm
        subst hgg
        rcases hg' with e1 | e1
        · omega
        · exact q5 _ e1 hc
  · exact (hb1.mono hsi).grown hgr (by omega) (fun g hg => (hgl2 g hg).1)
end
end Go.Proofs.Ytmhkacafilpliaa

namespace Go.Proofs.Ytmhkacafilpliaa
open Go.RowKit Go.Sort

section
variable {w w' : World} {ob base : Nat} {k : Int} {t : ByteArray} {a a2 : Option Addr} {n c n2 c2 : Nat} {ys : List AV} {ks : List ByteArray}
/-- The value is made: it lies in memory. -/
theorem Mk.done (h : Mk w ob base k t a n c ys a2 n2 c2 ks) (hk : 0 ≤ k ∧ k ≤ 255) (hs : w.heap.size ≤ w'.heap.size) (hq : ∀ q, base ≤ q → q < w.heap.size → w'.heap[q]? = w.heap[q]?) : AV.In w' base w'.heap.size ⟨k, t, a, c, ys, a2, c2, ks⟩ := by
  have h1 : SlE AV.enc 4 w base w.heap.size a ys := by have := h.own; rw [h.len] at this; exact own_sl AV.enc_len this
  have h2 : SlE strE 1 w base w.heap.size a2 ks := by have := h.own2; rw [h.len2] at this; exact own_sl (enc := strE) (size := 1) (fun _ => rfl) this
  exact ⟨(h1.keep hs fun q g1 _ g2 => hq q g1 g2).widen (Nat.le_refl _) hs, (h2.keep hs fun q g1 _ g2 => hq q g1 g2).widen (Nat.le_refl _) hs, hk, fun y hy => ((h.kids y hy).all.kept hs fun q g1 _ g2 => hq q g1 g2).widen (Nat.le_refl _) hs⟩
/-- A part that a call has made is put behind. -/
theorem Mk.call (h : Mk w ob base k t a n c ys a2 n2 c2 ks) {w1 : World} (hb : Below w.heap.size w w1) {z : AV} (hz : z.In w1 w.heap.size w1.heap.size) (hn : n < 16777216) (W : World) (hW : W = w1.alloc (.cells z.enc.toArray 26)) :
    ∃ a' c' W', (∀ ty, (Builtin.append_ #[23, 23] ty #[.slice a n c, .slice (some ⟨w1.heap.size, 0, none⟩) 1 1]).run Try.prog W = .ok (.slice a' (n + 1) c') W') ∧
      W'.cell? ⟨ob, 2, none⟩ = some (.slice a n c) ∧ W'.frozen? ⟨ob, 2, none⟩ = false ∧ Mk (W'.setCell ⟨ob, 2, none⟩ (.slice a' (n + 1) c')) ob base k t a' (n + 1) c' (ys ++ [z]) a2 n2 c2 ks ∧ Below base w W' := by
  have hgl : ∀ g, (Value.slice a n c).ownBlock = some g → base ≤ g ∧ g < w.heap.size := h.own.lt
  have hgl2 : ∀ g, (Value.slice a2 n2 c2).ownBlock = some g → base ≤ g ∧ g < w.heap.size := h.own2.lt
  obtain ⟨a', c', W', h1, h2, h3, h4, h5, _⟩ := (h.below hb).push z hz h.size (Nat.le_refl _) (fun g hg hc => by have := hgl g hg; omega) (fun g hg hc => by have := hgl2 g hg; omega) hn W hW
  exact ⟨a', c', W', h1, h2, h3, h4, (hb.mono h.size).trans h5⟩
/-- The keys are a copy of a list. -/
theorem Mk.strs (h : Mk w ob base k t a n c ys none 0 0 []) {lo hi : Nat} {A : Option Addr} {m : List ByteArray} {cm : Nat} (hr : SlE strE 1 w lo hi A m) (hm : m.length ≤ 16777216) :
    ∃ a' c' W', (∀ ty, (Builtin.append_ #[24, 24] ty #[.slice none 0 0, .slice A m.length cm]).run Try.prog w = .ok (.slice a' m.length c') W') ∧
      W'.cell? ⟨ob, 3, none⟩ = some (.slice none 0 0) ∧ W'.frozen? ⟨ob, 3, none⟩ = false ∧ Mk (W'.setCell ⟨ob, 3, none⟩ (.slice a' m.length c')) ob base k t a n c ys a' m.length c' m ∧ Below w.heap.size w W' := by
  obtain ⟨v', W', hrun, hown, hgr, hat⟩ := app_str (c := cm) h.own2 hr (by simpa using hm) h.size
  have hb1 : Below w.heap.size w W' := (Below.refl _ _).grown hgr (Nat.le_refl _) (fun g hg => by simp [Value.ownBlock] at hg)
  have hmk := h.below hb1
  obtain ⟨a', c', hv, hnew⟩ : ∃ a' c', v' = .slice a' m.length c' ∧ ∀ g, v'.ownBlock = some g → g = w.heap.size := by
    have hg : ∀ g, v'.ownBlock = some g → g = w.heap.size := fun g hg => by
      rcases hat with e | e
      · rw [e] at hg; simp [Value.ownBlock] at hg
      · rw [e] at hg; injection hg with hg; exact hg.symm
    rcases hown.2 with ⟨e, h0⟩ | ⟨g, cap, cur, e, _⟩
    · have : m.length = 0 := by simpa using h0
      exact ⟨none, 0, by rw [e, this], hg⟩
    · exact ⟨_, _, by simpa using e, hg⟩
  subst hv
  rw [List.nil_append] at hown
  have hlt := h.lt; have hsi := h.size
  have hgl : ∀ g, (Value.slice a n c).ownBlock = some g → base ≤ g ∧ g < w.heap.size := h.own.lt
  obtain ⟨-, -, -, q3, -, q5⟩ := hmk.cells
  have hS : ∀ (q : Nat), q ≠ ob → (W'.setCell ⟨ob, 3, none⟩ (.slice a' m.length c')).heap[q]? = W'.heap[q]? := fun q hq => Below.heap_setCell W' _ _ q hq
  have hSz : (W'.setCell ⟨ob, 3, none⟩ (.slice a' m.length c')).heap.size = W'.heap.size := by simp
  have hgs : W'.grownBy (W'.setCell ⟨ob, 3, none⟩ (.slice a' m.length c')) (some ob) := ⟨rfl, rfl, rfl, by rw [hSz]; exact Nat.le_refl _, fun q _ hq => hS q (fun e => hq (by rw [e]))⟩
  have hss := hb1.size
  refine ⟨a', c', W', hrun, q3, q5, ⟨hlt, by rw [hSz]; omega, by rw [set_blk hmk.box]; rfl, h.len, rfl, ?_, ?_, ?_, ?_⟩, hb1⟩
  · refine World.ownsRow.kept (row := some ob) hmk.own hgs ?_
    cases hq : (Value.slice a n c).ownBlock with
    | none => exact .inl rfl
    | some q => exact .inr fun e => by injection e with e; have := hgl q hq; omega
  · refine World.ownsRow.kept (row := some ob) hown hgs ?_
    cases hq : (Value.slice a' m.length c').ownBlock with
    | none => exact .inl rfl
    | some q => exact .inr fun e => by injection e with e; have := hnew q hq; omega
  · intro g hg e
    have := hgl g hg; have := hnew g e; omega
  · intro z hz
    obtain ⟨s, e, q1, q2, q3, q4, q5⟩ := h.kids z hz
    refine ⟨s, e, (q1.blw' hb1).kept (by rw [hSz]; exact Nat.le_refl _) (fun q hq1 hq2 hq3 => hS q (by omega)), q2, by rw [hSz]; omega, q4, fun g hg hc => ?_⟩
    have := hnew g hg; omega
end

/-- Four cells are stored. -/
def set4 (w : World) (B : Nat) (a b c d : Value) : World := (((w.setCell ⟨B, 0, none⟩ a).setCell ⟨B, 1, none⟩ b).setCell ⟨B, 2, none⟩ c).setCell ⟨B, 3, none⟩ d
theorem size4 {w : World} {B : Nat} {a b c d : Value} : (set4 w B a b c d).heap.size = w.heap.size := by simp [set4]
theorem old4 {w : World} {B : Nat} {a b c d : Value} {q : Nat} (h : q ≠ B) : (set4 w B a b c d).heap[q]? = w.heap[q]? := by
  unfold set4
  rw [Below.heap_setCell _ _ _ q h, Below.heap_setCell _ _ _ q h, Below.heap_setCell _ _ _ q h, Below.heap_setCell _ _ _ q h]
theorem below4 {w W : World} {N B : Nat} {a b c d : Value} (h : Below N w W) (hB : N ≤ B) : Below N w (set4 W B a b c d) :=
  (((h.setCell (p := ⟨B, 0, none⟩) hB _).setCell (p := ⟨B, 1, none⟩) hB _).setCell (p := ⟨B, 2, none⟩) hB _).setCell (p := ⟨B, 3, none⟩) hB _

/-- Where the parts are taken from. -/
def pickAt (k8 : Bool) (by_ n i : Nat) : Nat := if k8 then turnAt by_ n i else i
def picks {α : Type} (k8 : Bool) (by_ n m : Nat) (l : List α) : List α := ((List.range m).map (pickAt k8 by_ n)).filterMap (l[·]?)
theorem picks_snoc {α : Type} {k8 : Bool} {by_ n m : Nat} {l : List α} {y : α} (h : l[pickAt k8 by_ n m]? = some y) : picks k8 by_ n (m + 1) l = picks k8 by_ n m l ++ [y] := by
  unfold picks
  rw [List.range_succ, List.map_append, List.filterMap_append]
  simp [h]
theorem picks_all {α : Type} (by_ : Nat) (l : List α) : picks true by_ l.length l.length l = turnL by_ l := rfl
theorem picks_id {α : Type} (by_ n : Nat) (l : List α) : picks false by_ n l.length l = l := by
  unfold picks
  have : (List.range l.length).map (pickAt false by_ n) = List.range l.length := by
    rw [show pickAt false by_ n = id from rfl, List.map_id]
  rw [this, range_get]
theorem pickAt_lt {k8 : Bool} {by_ n i : Nat} (h : i < n) : pickAt k8 by_ n i < n := by
  unfold pickAt; split
  · exact turnAt_lt h
  · exact h

def TurnPost (by_ : Nat) (v : Val) (w : World) (e : Ending) (w' : World) : Prop := ∃ y : AV, e = .returned y.val ∧ y.v = v.turned by_ ∧ y.In w' w.heap.size w'.heap.size ∧ Below w.heap.size w w'

set_option maxRecDepth 100000 in
set_option maxHeartbeats 3200000 in
theorem turned_A (by_ : Nat) (_hby : by_ < 256) (x : AV) (w : World) (hx : Rd w x) (hw : x.w ≤ 1048576) (hk8 : x.k ≠ 8) (hks0 : x.ks = [])
    (ih : ∀ y ∈ x.l, ∀ W, Rd W y → Calls Try.prog 35 #[y.val, .int .u8 by_] W (TurnPost by_ y.v W)) :
    Calls Try.prog 35 #[x.val, .int .u8 by_] w (TurnPost by_ x.v w) := by
  have hll := x.w_l
  have hlk := x.w_ks
  have hkd := hx.kind
  have hlb : x.l.length ≤ 1048576 := by omega
  have hlkb : x.ks.length ≤ 1048576 := by omega
  have HX := Lib.hid hx
  have HC := fun (y : AV) (hy : y ∈ x.l) (W : World) (hb : Below w.heap.size w W) => Lib.hid (ih y hy W (hx.kid_at hb hy))
  have e8 : (x.k == 8) = false := by simp [hk8]
  have n8 : (x.k != 8) = true := by simp [hk8]
  have hv := Lib.hid (show x.v.turned by_ = ⟨x.k, x.t, x.l.map fun z => z.v.turned by_, x.ks⟩ by rw [Val.turned_eq, AV.v_k, if_neg hk8, AV.v_t, AV.v_l, AV.v_ks, List.map_map]; rfl)
  clear hk8
  have HK0 := Lib.hid hks0
  clear hks0
  clear ih hx hll hlk
  have hmk0 : Mk (((w.alloc (.cells #[.int .u8 x.k, .string x.t, .slice x.la x.l.length x.lc, .slice x.ka x.ks.length x.kc] 26)).alloc (.cells #[.int .u8 0, .string ⟨#[]⟩, .slice none 0 0, .slice none 0 0] 26)).alloc (.cells #[.int .u8 x.k, .string x.t, .slice none 0 0, .slice none 0 0] 26)) (w.heap.size + 1 + 1) (w.heap.size + 1 + 1 + 1) x.k x.t none 0 0 [] none 0 0 [] := by
    refine ⟨by omega, by simp, ?_, rfl, rfl, World.ownsRow_nil _ _ _ _, World.ownsRow_nil _ _ _ _, fun g hg => by simp [Value.ownBlock] at hg, fun y hy => by simp at hy⟩
    have h := heap_alloc_new ((w.alloc (.cells #[.int .u8 x.k, .string x.t, .slice x.la x.l.length x.lc, .slice x.ka x.ks.length x.kc] 26)).alloc (.cells #[.int .u8 0, .string ⟨#[]⟩, .slice none 0 0, .slice none 0 0] 26)) (.cells #[.int .u8 x.k, .string x.t, .slice none 0 0, .slice none 0 0] 26)
    simpa using h
  have hb0 : Below (w.heap.size + 2) ((w.alloc (.cells #[.int .u8 x.k, .string x.t, .slice x.la x.l.length x.lc, .slice x.ka x.ks.length x.kc] 26)).alloc (.cells #[.int .u8 0, .string ⟨#[]⟩, .slice none 0 0, .slice none 0 0] 26)) (((w.alloc (.cells #[.int .u8 x.k, .string x.t, .slice x.la x.l.length x.lc, .slice x.ka x.ks.length x.kc] 26)).alloc (.cells #[.int .u8 0, .string ⟨#[]⟩, .slice none 0 0, .slice none 0 0] 26)).alloc (.cells #[.int .u8 x.k, .string x.t, .slice none 0 0, .slice none 0 0] 26)) := (Below.refl _ _).alloc (by simp) _
  have HM0 := Lib.hid hmk0
  clear hmk0
  go_enter Try.func35, Try.ntmps35
  go_wp2_with fail
  go_loopw [7] (fun i wr => ∃ (m : Nat) (ys : List AV) (ks : List ByteArray) (a : Option Addr) (c : Nat) (a2 : Option Addr) (n2 c2 : Nat), m ≤ x.l.length ∧ i = .int .i64 m ∧ Mk wr (w.heap.size + 1 + 1) (w.heap.size + 1 + 1 + 1) x.k x.t a m c ys a2 n2 c2 ks ∧
      ys.map AV.v = picks false by_ x.l.length m (x.l.map fun z => z.v.turned by_) ∧ (a2 = none ∧ n2 = 0 ∧ c2 = 0 ∧ ks = []) ∧ Below (w.heap.size + 2) ((w.alloc (.cells #[.int .u8 x.k, .string x.t, .slice x.la x.l.length x.lc, .slice x.ka x.ks.length x.kc] 26)).alloc (.cells #[.int .u8 0, .string ⟨#[]⟩, .slice none 0 0, .slice none 0 0] 26)) wr) (fun i _ => x.l.length - (intOf i).toNat)
  case atStart => exact ⟨0, [], [], none, 0, none, 0, 0, Nat.zero_le _, rfl, HM0.out, rfl, ⟨rfl, rfl, rfl, rfl⟩, hb0⟩
  clear hb0 HM0
  case round =>
    obtain ⟨m, ys, ks, a, c, a2, n2, c2, hml, rfl, hmk, hys, hks, hbx⟩ := hrel
    obtain ⟨o0, o1, o2, o3, o4, o5⟩ := hmk.cells
    have hbx1 := heap_alloc_new (w.alloc (.cells #[.int .u8 x.k, .string x.t, .slice x.la x.l.length x.lc, .slice x.ka x.ks.length x.kc] 26)) (.cells #[.int .u8 0, .string ⟨#[]⟩, .slice none 0 0, .slice none 0 0] 26)
    rw [World.size_alloc] at hbx1
    obtain ⟨q0, q1, q2, q3, -, -, -, -⟩ := vbox4 ((hbx.block w.heap.size (by omega)).trans ((heap_alloc_old _ _ _ (by simp)).trans (heap_alloc_new w (.cells #[.int .u8 x.k, .string x.t, .slice x.la x.l.length x.lc, .slice x.ka x.ks.length x.kc] 26))))
    have hrb := Lib.hid ((hbx.block (w.heap.size + 1) (by omega)).trans hbx1)
    clear hbx1
    have hbw : Below w.heap.size w wr := (((Below.refl _ _).alloc (Nat.le_refl _) _).alloc (by simp) _).trans (hbx.mono (by omega))
    have hsz := hmk.size
    have HMK := Lib.hid hmk
    have HYS := Lib.hid hys
    have HKS := Lib.hid hks
    clear hmk hys hks
    by_cases hlt : m < x.l.length
    · have hpl := pickAt_lt (k8 := false) (by_ := by_) hlt
      have hpk : x.l[pickAt false by_ x.l.length m]? = some x.l[pickAt false by_ x.l.length m] := List.getElem?_eq_getElem hpl
      have hmem : x.l[pickAt false by_ x.l.length m] ∈ x.l := List.getElem_mem hpl
      have hvs : (x.l.map fun z => z.v.turned by_)[pickAt false by_ x.l.length m]? = some (x.l[pickAt false by_ x.l.length m].v.turned by_) := by rw [List.getElem?_map, hpk]; rfl
      generalize x.l[pickAt false by_ x.l.length m] = y at *
      have HPS := Lib.hid (picks_snoc hvs)
      obtain ⟨b, off, hla, -, hb1, hb2, h0, h1, h2, h3⟩ := vals_at HX.out.sl hpk
      rw [← hbw.cell (p := ⟨_, _, none⟩) hb2] at h0 h1 h2 h3
      have hlt' : (m : Int) < (x.l.length : Int) := by omega
      have HC' := fun W h => HC y hmem W h
      rw [show pickAt false by_ x.l.length m = m from rfl] at *
      rw [hla] at q2
      have hbb : b < wr.heap.size := Nat.lt_of_lt_of_le hb2 hbw.size
      clear hla hpk hmem hvs HC hpl
      go_wp2_with fail
      go_region_law (first
        | (refine st_append (s := .tmp 66) (x := .tmp 74) rfl rfl (hrun _) ?_; clear hrun)
        | (go_simp; go_at_call 35; refine (HC' _ hbw.drew).out.mono ?_; rintro e w1 ⟨z, rfl, hzv, hzi, hb⟩
           have hl1 : w.heap.size + 1 + 1 < w1.heap.size := Nat.lt_of_lt_of_le hsz hb.size
           obtain ⟨o0, o1, o2, o3, o4, o5⟩ := ((HMK.out.below ((Below.refl _ _).drew)).below hb).cells
           obtain ⟨a', c', W', hrun, p2, p5, hmk2, hbW⟩ := (HMK.out.below ((Below.refl _ _).drew)).call hb hzi (by omega) _ rfl))
      all_goals
        go_wp2_with fail
        refine ⟨⟨m + 1, ys ++ [z], ks, a', c', a2, n2, c2, by omega, by go_num, hmk2, ?_, HKS.out, ?_⟩, by simp [intOf]; omega⟩
        · rw [List.map_append, HYS.out, HPS.out]; simp [hzv]
        · exact hbx.drew.trans ((hbW.mono (by omega)).trans ((Below.refl _ _).setCell (p := ⟨w.heap.size + 1 + 1, 2, none⟩) (by show w.heap.size + 2 ≤ w.heap.size + 1 + 1; omega) _))
    · obtain rfl : m = x.l.length := by omega
      have hge : ¬ (x.l.length : Int) < (x.l.length : Int) := by omega
      have hvv : ys.map AV.v = x.l.map fun z => z.v.turned by_ := by rw [HYS.out]; exact (by have := picks_id by_ x.l.length (x.l.map fun z => z.v.turned by_); rwa [List.length_map] at this)
      obtain ⟨rfl, rfl, rfl, rfl⟩ := HKS.out
      obtain ⟨a', c', W', hrun, p3, p5, hmk2, hbW⟩ := HMK.out.strs (cm := x.kc) (HX.out.up hbw).keys (by omega)
      obtain ⟨r0, r1, r2, -, -, -⟩ := (HMK.out.below hbW).cells
      obtain ⟨s0, s1, s2, s3, f0, f1, f2, f3⟩ := vbox4 ((hbW.block (w.heap.size + 1) (by omega)).trans hrb.out)
      have HM2 := Lib.hid hmk2
      have HVV := Lib.hid hvv
      have hsW := hbW.size
      clear hmk2 hvv
      go_wp2_with (first | (at_builtin; refine wl_append (s := .const (.slice none 0 0)) (x := .tmp 81) rfl rfl (hrun _) ?_; clear hrun))
      refine bodyPost_ret (v := .agg #[.int .u8 x.k, .string x.t, .slice a x.l.length c, .slice a' x.ks.length c']) (by simp [results, Try.results35, go_sem, s0, s1, s2, s3]) rfl ⟨⟨x.k, x.t, a, c, ys, a', c', x.ks⟩, ?_, ?_, ?_, ?_⟩
      · show _ = Ending.returned (.agg #[.int .u8 x.k, .string x.t, .slice a ys.length c, .slice a' x.ks.length c'])
        rw [← HMK.out.len]
      · rw [AV.v_eq, hv.out, HVV.out]
      · show AV.In (set4 (W'.setCell ⟨w.heap.size + 1 + 1, 3, none⟩ (.slice a' x.ks.length c')) (w.heap.size + 1) _ _ _ _) _ _ _
        exact (HM2.out.done hkd (Nat.le_of_eq size4.symm) (fun q hq1 _ => old4 (by omega))).widen (by omega) (Nat.le_refl _)
      · show Below _ _ (set4 (W'.setCell ⟨w.heap.size + 1 + 1, 3, none⟩ (.slice a' x.ks.length c')) (w.heap.size + 1) _ _ _ _)
        exact below4 ((hbw.trans (hbW.mono hbw.size)).setCell (p := ⟨w.heap.size + 1 + 1, 3, none⟩) (by show w.heap.size ≤ w.heap.size + 1 + 1; omega) _) (by omega)
end Go.Proofs.Ytmhkacafilpliaa

namespace Go.Proofs.Ytmhkacafilpliaa
open Go.RowKit Go.Sort

set_option maxRecDepth 100000 in
set_option maxHeartbeats 3200000 in
theorem turned_B (by_ : Nat) (hby : by_ < 256) (x : AV) (w : World) (hx : Rd w x) (hw : x.w ≤ 1048576) (hk8 : x.k = 8) (hlen : x.ks.length = x.l.length) (hev : by_ % 2 = 0)
    (ih : ∀ y ∈ x.l, ∀ W, Rd W y → Calls Try.prog 35 #[y.val, .int .u8 by_] W (TurnPost by_ y.v W)) :
    Calls Try.prog 35 #[x.val, .int .u8 by_] w (TurnPost by_ x.v w) := by
  have hll := x.w_l
  have hlk := x.w_ks
  have hkd := hx.kind
  have hlb : x.l.length ≤ 1048576 := by omega
  have hlkb : x.ks.length ≤ 1048576 := by omega
  have HX := Lib.hid hx
  have HC := fun (y : AV) (hy : y ∈ x.l) (W : World) (hb : Below w.heap.size w W) => Lib.hid (ih y hy W (hx.kid_at hb hy))
  have e8 : (x.k == 8) = true := by simp [hk8]
  have n8 : (x.k != 8) = false := by simp [hk8]
  have hv := Lib.hid (show x.v.turned by_ = ⟨x.k, x.t, turnL by_ (x.l.map fun z => z.v.turned by_), turnL by_ x.ks⟩ by rw [Val.turned_eq, AV.v_k, if_pos hk8, AV.v_t, AV.v_l, AV.v_ks, List.map_map]; rfl)
  clear hk8
  have HLE := Lib.hid hlen
  have hby2 : (by_ : Int) < 256 := by omega
  have hpar : ((by_ : Int) % 2 == 0) = true := by rw [beq_iff_eq]; omega
  have HEV := Lib.hid hev
  clear hlen hev
  clear ih hx hll hlk
  have hmk0 : Mk (((w.alloc (.cells #[.int .u8 x.k, .string x.t, .slice x.la x.l.length x.lc, .slice x.ka x.ks.length x.kc] 26)).alloc (.cells #[.int .u8 0, .string ⟨#[]⟩, .slice none 0 0, .slice none 0 0] 26)).alloc (.cells #[.int .u8 x.k, .string x.t, .slice none 0 0, .slice none 0 0] 26)) (w.heap.size + 1 + 1) (w.heap.size + 1 + 1 + 1) x.k x.t none 0 0 [] none 0 0 [] := by
    refine ⟨by omega, by simp, ?_, rfl, rfl, World.ownsRow_nil _ _ _ _, World.ownsRow_nil _ _ _ _, fun g hg => by simp [Value.ownBlock] at hg, fun y hy => by simp at hy⟩
    have h := heap_alloc_new ((w.alloc (.cells #[.int .u8 x.k, .string x.t, .slice x.la x.l.length x.lc, .slice x.ka x.ks.length x.kc] 26)).alloc (.cells #[.int .u8 0, .string ⟨#[]⟩, .slice none 0 0, .slice none 0 0] 26)) (.cells #[.int .u8 x.k, .string x.t, .slice none 0 0, .slice none 0 0] 26)
    simpa using h
  have hb0 : Below (w.heap.size + 2) ((w.alloc (.cells #[.int .u8 x.k, .string x.t, .slice x.la x.l.length x.lc, .slice x.ka x.ks.length x.kc] 26)).alloc (.cells #[.int .u8 0, .string ⟨#[]⟩, .slice none 0 0, .slice none 0 0] 26)) (((w.alloc (.cells #[.int .u8 x.k, .string x.t, .slice x.la x.l.length x.lc, .slice x.ka x.ks.length x.kc] 26)).alloc (.cells #[.int .u8 0, .string ⟨#[]⟩, .slice none 0 0, .slice none 0 0] 26)).alloc (.cells #[.int .u8 x.k, .string x.t, .slice none 0 0, .slice none 0 0] 26)) := (Below.refl _ _).alloc (by simp) _
  have HM0 := Lib.hid hmk0
  clear hmk0
  go_enter Try.func35, Try.ntmps35
  go_wp2_with fail
  go_loopw [7] (fun i wr => ∃ (m : Nat) (ys : List AV) (ks : List ByteArray) (a : Option Addr) (c : Nat) (a2 : Option Addr) (n2 c2 : Nat), m ≤ x.l.length ∧ i = .int .i64 m ∧ Mk wr (w.heap.size + 1 + 1) (w.heap.size + 1 + 1 + 1) x.k x.t a m c ys a2 n2 c2 ks ∧
      ys.map AV.v = picks true by_ x.l.length m (x.l.map fun z => z.v.turned by_) ∧ (n2 = m ∧ ks = picks true by_ x.l.length m x.ks) ∧ Below (w.heap.size + 2) ((w.alloc (.cells #[.int .u8 x.k, .string x.t, .slice x.la x.l.length x.lc, .slice x.ka x.ks.length x.kc] 26)).alloc (.cells #[.int .u8 0, .string ⟨#[]⟩, .slice none 0 0, .slice none 0 0] 26)) wr) (fun i _ => x.l.length - (intOf i).toNat)
  case atStart => exact ⟨0, [], [], none, 0, none, 0, 0, Nat.zero_le _, rfl, HM0.out, rfl, ⟨rfl, rfl⟩, hb0⟩
  clear hb0 HM0
  case round =>
    obtain ⟨m, ys, ks, a, c, a2, n2, c2, hml, rfl, hmk, hys, hks, hbx⟩ := hrel
    obtain ⟨o0, o1, o2, o3, o4, o5⟩ := hmk.cells
    have hbx1 := heap_alloc_new (w.alloc (.cells #[.int .u8 x.k, .string x.t, .slice x.la x.l.length x.lc, .slice x.ka x.ks.length x.kc] 26)) (.cells #[.int .u8 0, .string ⟨#[]⟩, .slice none 0 0, .slice none 0 0] 26)
    rw [World.size_alloc] at hbx1
    obtain ⟨q0, q1, q2, q3, -, -, -, -⟩ := vbox4 ((hbx.block w.heap.size (by omega)).trans ((heap_alloc_old _ _ _ (by simp)).trans (heap_alloc_new w (.cells #[.int .u8 x.k, .string x.t, .slice x.la x.l.length x.lc, .slice x.ka x.ks.length x.kc] 26))))
    have hrb := Lib.hid ((hbx.block (w.heap.size + 1) (by omega)).trans hbx1)
    clear hbx1
    have hbw : Below w.heap.size w wr := (((Below.refl _ _).alloc (Nat.le_refl _) _).alloc (by simp) _).trans (hbx.mono (by omega))
    have hsz := hmk.size
    have HMK := Lib.hid hmk
    have HYS := Lib.hid hys
    have HKS := Lib.hid hks
    clear hmk hys hks
    by_cases hlt : m < x.l.length
    · have hpl := pickAt_lt (k8 := true) (by_ := by_) hlt
      have hpk : x.l[pickAt true by_ x.l.length m]? = some x.l[pickAt true by_ x.l.length m] := List.getElem?_eq_getElem hpl
      have hmem : x.l[pickAt true by_ x.l.length m] ∈ x.l := List.getElem_mem hpl
      have hvs : (x.l.map fun z => z.v.turned by_)[pickAt true by_ x.l.length m]? = some (x.l[pickAt true by_ x.l.length m].v.turned by_) := by rw [List.getElem?_map, hpk]; rfl
      generalize x.l[pickAt true by_ x.l.length m] = y at *
      have HPS := Lib.hid (picks_snoc hvs)
      obtain ⟨b, off, hla, -, hb1, hb2, h0, h1, h2, h3⟩ := vals_at HX.out.sl hpk
      rw [← hbw.cell (p := ⟨_, _, none⟩) hb2] at h0 h1 h2 h3
      have hlt' : (m : Int) < (x.l.length : Int) := by omega
      have HC' := fun W h => HC y hmem W h
      have hP : pickAt true by_ x.l.length m < x.ks.length := by rw [HLE.out]; exact hpl
      have hks2 : x.ks[pickAt true by_ x.l.length m]? = some x.ks[pickAt true by_ x.l.length m] := List.getElem?_eq_getElem hP
      have hidx : (x.l.length : Int) - 1 - (m : Int) = ((pickAt true by_ x.l.length m : Nat) : Int) := by
        have := HEV.out
        unfold pickAt turnAt
        rw [if_pos rfl, if_pos this]; omega
      generalize x.ks[pickAt true by_ x.l.length m] = sk at *
      have HPK := Lib.hid (picks_snoc (k8 := true) hks2)
      obtain ⟨kb, koff, hka, -, hkb1, hkb2, hk0⟩ := key_at HX.out.keys hks2
      rw [← hbw.cell (p := ⟨_, _, none⟩) hkb2] at hk0
      generalize pickAt true by_ x.l.length m = P at *
      rw [hka] at q3
      rw [hla] at q2
      have hbb : b < wr.heap.size := Nat.lt_of_lt_of_le hb2 hbw.size
      have hkbb : kb < wr.heap.size := Nat.lt_of_lt_of_le hkb2 hbw.size
      have hP' : (P : Int) < (x.ks.length : Int) := by omega
      have hPl' : (P : Int) < (x.l.length : Int) := by omega
      clear hla hpk hmem hvs HC hka hks2 hpl
      go_upto_if 54 with fail
      obtain ⟨W00, hW00⟩ : ∃ W00, W00 = (w.alloc (.cells #[.int .u8 x.k, .string x.t, .slice x.la x.l.length x.lc, .slice x.ka x.ks.length x.kc] 26)).alloc (.cells #[.int .u8 0, .string ⟨#[]⟩, .slice none 0 0, .slice none 0 0] 26) := ⟨_, rfl⟩
      rw [← hW00] at hbx
      have HW00 := Lib.hid hW00
      clear hW00
      go_cut [] (fun wx => ∃ a3 c3, Mk wx (w.heap.size + 1 + 1) (w.heap.size + 1 + 1 + 1) x.k x.t a m c ys a3 (n2 + 1) c3 (ks ++ [sk]) ∧ Below (w.heap.size + 2) W00 wx ∧ Below w.heap.size w wx)
      case first =>
        have hn2 : n2 < 16777216 := by have := HKS.out.1; omega
        have hob : w.heap.size + 1 + 1 < wr.heap.size := by omega
        go_wp2_with fail
        go_region_law (first
          | (obtain ⟨a3, c3, W', hrun, p3, p5, hmk2, hbW, hsW⟩ := (HMK.out.below ((Below.refl _ _).drew)).key sk hn2 _ rfl
             refine st_append (s := .tmp 56) (x := .tmp 62) rfl rfl (hrun _) ?_
             clear hrun))
        all_goals
          go_wp2_with fail
          go_meet
          exact ⟨a3, c3, hmk2, hbx.drew.trans ((hbW.mono (by omega)).trans ((Below.refl _ _).setCell (p := ⟨w.heap.size + 1 + 1, 3, none⟩) (by show w.heap.size + 2 ≤ w.heap.size + 1 + 1; omega) _)),
            hbw.drew.trans ((hbW.mono (by omega)).trans ((Below.refl _ _).setCell (p := ⟨w.heap.size + 1 + 1, 3, none⟩) (by show w.heap.size ≤ w.heap.size + 1 + 1; omega) _))⟩
      case rest =>
        obtain ⟨a3, c3, hmk3, hbx3, hbw3⟩ := hcut
        have hs3 := hmk3.size
        clear o0 o1 o2 o3 o4 o5 hidx hpar hP' hkbb
        obtain ⟨o0, o1, o2, o3, o4, o5⟩ := hmk3.cells
        have e0 : ∀ o, wc.cell? ⟨b, o, none⟩ = wr.cell? ⟨b, o, none⟩ := fun o => (hbw3.cell (p := ⟨b, o, none⟩) hb2).trans (hbw.cell (p := ⟨b, o, none⟩) hb2).symm
        have e1 : wc.cell? ⟨w.heap.size, 2, none⟩ = wr.cell? ⟨w.heap.size, 2, none⟩ := (hbx3.cell (p := ⟨w.heap.size, 2, none⟩) (by show w.heap.size < w.heap.size + 2; omega)).trans (hbx.cell (p := ⟨w.heap.size, 2, none⟩) (by show w.heap.size < w.heap.size + 2; omega)).symm
        rw [← e0] at h0 h1 h2 h3
        rw [← e1] at q2
        have hbbc : b < wc.heap.size := by omega
        have HM3 := Lib.hid hmk3
        clear hmk3 e0 e1 q0 q1 q3 hk0 hrb HMK
        go_wp2_with fail
        go_region_law (first
          | (refine st_append (s := .tmp 66) (x := .tmp 74) rfl rfl (hrun _) ?_; clear hrun)
          | (go_simp; go_at_call 35; refine (HC' _ hbw3.drew).out.mono ?_; rintro e w1 ⟨z, rfl, hzv, hzi, hb⟩
             have hl1 : w.heap.size + 1 + 1 < w1.heap.size := Nat.lt_of_lt_of_le hs3 hb.size
             obtain ⟨o0, o1, o2, o3, o4, o5⟩ := ((HM3.out.below ((Below.refl _ _).drew)).below hb).cells
             obtain ⟨a', c', W', hrun, p2, p5, hmk2, hbW⟩ := (HM3.out.below ((Below.refl _ _).drew)).call hb hzi (by omega) _ rfl))
        all_goals
          go_wp2_with fail
          refine ⟨⟨m + 1, ys ++ [z], ks ++ [sk], a', c', a3, n2 + 1, c3, by omega, by go_num, hmk2, ?_, ⟨by have := HKS.out.1; omega, by rw [HPK.out, HKS.out.2]⟩, ?_⟩, by simp [intOf]; omega⟩
          · rw [List.map_append, HYS.out, HPS.out]; simp [hzv]
          · rw [← HW00.out]
            exact hbx3.drew.trans ((hbW.mono (by omega)).trans ((Below.refl _ _).setCell (p := ⟨w.heap.size + 1 + 1, 2, none⟩) (by show w.heap.size + 2 ≤ w.heap.size + 1 + 1; omega) _))
    · obtain rfl : m = x.l.length := by omega
      have hge : ¬ (x.l.length : Int) < (x.l.length : Int) := by omega
      have hvv : ys.map AV.v = turnL by_ (x.l.map fun z => z.v.turned by_) := by rw [HYS.out]; exact (by have := picks_all by_ (x.l.map fun z => z.v.turned by_); rwa [List.length_map] at this)
      obtain ⟨r0, r1, r2, r3, -, -⟩ := HMK.out.cells
      obtain ⟨s0, s1, s2, s3, f0, f1, f2, f3⟩ := vbox4 hrb.out
      have HVV := Lib.hid hvv
      have hn2 : n2 = x.ks.length := by have := HKS.out.1; have := HLE.out; omega
      have HN2 := Lib.hid hn2
      clear hvv hn2
      go_wp2_with fail
      refine bodyPost_ret (v := .agg #[.int .u8 x.k, .string x.t, .slice a x.l.length c, .slice a2 n2 c2]) (by simp [results, Try.results35, go_sem, s0, s1, s2, s3]) rfl ⟨⟨x.k, x.t, a, c, ys, a2, c2, ks⟩, ?_, ?_, ?_, ?_⟩
      · show _ = Ending.returned (.agg #[.int .u8 x.k, .string x.t, .slice a ys.length c, .slice a2 ks.length c2])
        rw [← HMK.out.len, ← HMK.out.len2]
      · have hks3 : ks = turnL by_ x.ks := by
          have := picks_all by_ x.ks
          rw [HLE.out] at this
          rw [HKS.out.2]; exact this
        rw [AV.v_eq, hv.out, HVV.out, hks3]
      · show AV.In (set4 wr (w.heap.size + 1) _ _ _ _) _ _ _
        exact (HMK.out.done hkd (Nat.le_of_eq size4.symm) (fun q hq1 _ => old4 (by omega))).widen (by omega) (Nat.le_refl _)
      · show Below _ _ (set4 wr (w.heap.size + 1) _ _ _ _)
        exact below4 hbw (by omega)
set_option maxRecDepth 100000 in
set_option maxHeartbeats 3200000 in
theorem turned_C (by_ : Nat) (hby : by_ < 256) (x : AV) (w : World) (hx : Rd w x) (hw : x.w ≤ 1048576) (hk8 : x.k = 8) (hlen : x.ks.length = x.l.length) (hev : by_ % 2 = 1)
    (ih : ∀ y ∈ x.l, ∀ W, Rd W y → Calls Try.prog 35 #[y.val, .int .u8 by_] W (TurnPost by_ y.v W)) :
    Calls Try.prog 35 #[x.val, .int .u8 by_] w (TurnPost by_ x.v w) := by
  have hll := x.w_l
  have hlk := x.w_ks
  have hkd := hx.kind
  have hlb : x.l.length ≤ 1048576 := by omega
  have hlkb : x.ks.length ≤ 1048576 := by omega
  have HX := Lib.hid hx
  have HC := fun (y : AV) (hy : y ∈ x.l) (W : World) (hb : Below w.heap.size w W) => Lib.hid (ih y hy W (hx.kid_at hb hy))
  have e8 : (x.k == 8) = true := by simp [hk8]
  have n8 : (x.k != 8) = false := by simp [hk8]
  have hv := Lib.hid (show x.v.turned by_ = ⟨x.k, x.t, turnL by_ (x.l.map fun z => z.v.turned by_), turnL by_ x.ks⟩ by rw [Val.turned_eq, AV.v_k, if_pos hk8, AV.v_t, AV.v_l, AV.v_ks, List.map_map]; rfl)
  clear hk8
  have HLE := Lib.hid hlen
  have hby2 : (by_ : Int) < 256 := by omega
  have hpar : ((by_ : Int) % 2 == 0) = false := by rw [beq_eq_false_iff_ne]; omega
  have HEV := Lib.hid hev
  clear hlen hev
  clear ih hx hll hlk
  have hmk0 : Mk (((w.alloc (.cells #[.int .u8 x.k, .string x.t, .slice x.la x.l.length x.lc, .slice x.ka x.ks.length x.kc] 26)).alloc (.cells #[.int .u8 0, .string ⟨#[]⟩, .slice none 0 0, .slice none 0 0] 26)).alloc (.cells #[.int .u8 x.k, .string x.t, .slice none 0 0, .slice none 0 0] 26)) (w.heap.size + 1 + 1) (w.heap.size + 1 + 1 + 1) x.k x.t none 0 0 [] none 0 0 [] := by
    refine ⟨by omega, by simp, ?_, rfl, rfl, World.ownsRow_nil _ _ _ _, World.ownsRow_nil _ _ _ _, fun g hg => by simp [Value.ownBlock] at hg, fun y hy => by simp at hy⟩
    have h := heap_alloc_new ((w.alloc (.cells #[.int .u8 x.k, .string x.t, .slice x.la x.l.length x.lc, .slice x.ka x.ks.length x.kc] 26)).alloc (.cells #[.int .u8 0, .string ⟨#[]⟩, .slice none 0 0, .slice none 0 0] 26)) (.cells #[.int .u8 x.k, .string x.t, .slice none 0 0, .slice none 0 0] 26)
    simpa using h
  have hb0 : Below (w.heap.size + 2) ((w.alloc (.cells #[.int .u8 x.k, .string x.t, .slice x.la x.l.length x.lc, .slice x.ka x.ks.length x.kc] 26)).alloc (.cells #[.int .u8 0, .string ⟨#[]⟩, .slice none 0 0, .slice none 0 0] 26)) (((w.alloc (.cells #[.int .u8 x.k, .string x.t, .slice x.la x.l.length x.lc, .slice x.ka x.ks.length x.kc] 26)).alloc (.cells #[.int .u8 0, .string ⟨#[]⟩, .slice none 0 0, .slice none 0 0] 26)).alloc (.cells #[.int .u8 x.k, .string x.t, .slice none 0 0, .slice none 0 0] 26)) := (Below.refl _ _).alloc (by simp) _
  have HM0 := Lib.hid hmk0
  clear hmk0
  go_enter Try.func35, Try.ntmps35
  go_wp2_with fail
  go_loopw [7] (fun i wr => ∃ (m : Nat) (ys : List AV) (ks : List ByteArray) (a : Option Addr) (c : Nat) (a2 : Option Addr) (n2 c2 : Nat), m ≤ x.l.length ∧ i = .int .i64 m ∧ Mk wr (w.heap.size + 1 + 1) (w.heap.size + 1 + 1 + 1) x.k x.t a m c ys a2 n2 c2 ks ∧
      ys.map AV.v = picks true by_ x.l.length m (x.l.map fun z => z.v.turned by_) ∧ (n2 = m ∧ ks = picks true by_ x.l.length m x.ks) ∧ Below (w.heap.size + 2) ((w.alloc (.cells #[.int .u8 x.k, .string x.t, .slice x.la x.l.length x.lc, .slice x.ka x.ks.length x.kc] 26)).alloc (.cells #[.int .u8 0, .string ⟨#[]⟩, .slice none 0 0, .slice none 0 0] 26)) wr) (fun i _ => x.l.length - (intOf i).toNat)
  case atStart => exact ⟨0, [], [], none, 0, none, 0, 0, Nat.zero_le _, rfl, HM0.out, rfl, ⟨rfl, rfl⟩, hb0⟩
  clear hb0 HM0
  case round =>
    obtain ⟨m, ys, ks, a, c, a2, n2, c2, hml, rfl, hmk, hys, hks, hbx⟩ := hrel
    obtain ⟨o0, o1, o2, o3, o4, o5⟩ := hmk.cells
    have hbx1 := heap_alloc_new (w.alloc (.cells #[.int .u8 x.k, .string x.t, .slice x.la x.l.length x.lc, .slice x.ka x.ks.length x.kc] 26)) (.cells #[.int .u8 0, .string ⟨#[]⟩, .slice none 0 0, .slice none 0 0] 26)
    rw [World.size_alloc] at hbx1
    obtain ⟨q0, q1, q2, q3, -, -, -, -⟩ := vbox4 ((hbx.block w.heap.size (by omega)).trans ((heap_alloc_old _ _ _ (by simp)).trans (heap_alloc_new w (.cells #[.int .u8 x.k, .string x.t, .slice x.la x.l.length x.lc, .slice x.ka x.ks.length x.kc] 26))))
    have hrb := Lib.hid ((hbx.block (w.heap.size + 1) (by omega)).trans hbx1)
    clear hbx1
    have hbw : Below w.heap.size w wr := (((Below.refl _ _).alloc (Nat.le_refl _) _).alloc (by simp) _).trans (hbx.mono (by omega))
    have hsz := hmk.size
    have HMK := Lib.hid hmk
    have HYS := Lib.hid hys
    have HKS := Lib.hid hks
    clear hmk hys hks
    by_cases hlt : m < x.l.length
    · have hpl := pickAt_lt (k8 := true) (by_ := by_) hlt
      have hpk : x.l[pickAt true by_ x.l.length m]? = some x.l[pickAt true by_ x.l.length m] := List.getElem?_eq_getElem hpl
      have hmem : x.l[pickAt true by_ x.l.length m] ∈ x.l := List.getElem_mem hpl
      have hvs : (x.l.map fun z => z.v.turned by_)[pickAt true by_ x.l.length m]? = some (x.l[pickAt true by_ x.l.length m].v.turned by_) := by rw [List.getElem?_map, hpk]; rfl
      generalize x.l[pickAt true by_ x.l.length m] = y at *
      have HPS := Lib.hid (picks_snoc hvs)
      obtain ⟨b, off, hla, -, hb1, hb2, h0, h1, h2, h3⟩ := vals_at HX.out.sl hpk
      rw [← hbw.cell (p := ⟨_, _, none⟩) hb2] at h0 h1 h2 h3
      have hlt' : (m : Int) < (x.l.length : Int) := by omega
      have HC' := fun W h => HC y hmem W h
      have hP : pickAt true by_ x.l.length m < x.ks.length := by rw [HLE.out]; exact hpl
      have hks2 : x.ks[pickAt true by_ x.l.length m]? = some x.ks[pickAt true by_ x.l.length m] := List.getElem?_eq_getElem hP
      have hidx : ((m : Int) + (by_ : Int) / 2) % (x.l.length : Int) = ((pickAt true by_ x.l.length m : Nat) : Int) := by
        have := HEV.out
        unfold pickAt turnAt
        rw [if_pos rfl, if_neg (by omega)]; push_cast; rfl
      have hb20 : 0 ≤ (by_ : Int) / 2 := by omega
      have hb21 : (by_ : Int) / 2 < 256 := by omega
      generalize x.ks[pickAt true by_ x.l.length m] = sk at *
      have HPK := Lib.hid (picks_snoc (k8 := true) hks2)
      obtain ⟨kb, koff, hka, -, hkb1, hkb2, hk0⟩ := key_at HX.out.keys hks2
      rw [← hbw.cell (p := ⟨_, _, none⟩) hkb2] at hk0
      generalize pickAt true by_ x.l.length m = P at *
      rw [hka] at q3
      rw [hla] at q2
      have hbb : b < wr.heap.size := Nat.lt_of_lt_of_le hb2 hbw.size
      have hkbb : kb < wr.heap.size := Nat.lt_of_lt_of_le hkb2 hbw.size
      have hP' : (P : Int) < (x.ks.length : Int) := by omega
      have hPl' : (P : Int) < (x.l.length : Int) := by omega
      clear hla hpk hmem hvs HC hka hks2 hpl
      go_upto_if 54 with fail
      obtain ⟨W00, hW00⟩ : ∃ W00, W00 = (w.alloc (.cells #[.int .u8 x.k, .string x.t, .slice x.la x.l.length x.lc, .slice x.ka x.ks.length x.kc] 26)).alloc (.cells #[.int .u8 0, .string ⟨#[]⟩, .slice none 0 0, .slice none 0 0] 26) := ⟨_, rfl⟩
      rw [← hW00] at hbx
      have HW00 := Lib.hid hW00
      clear hW00
      simp only [hidx]
      go_cut [] (fun wx => ∃ a3 c3, Mk wx (w.heap.size + 1 + 1) (w.heap.size + 1 + 1 + 1) x.k x.t a m c ys a3 (n2 + 1) c3 (ks ++ [sk]) ∧ Below (w.heap.size + 2) W00 wx ∧ Below w.heap.size w wx)
      case first =>
        have hn2 : n2 < 16777216 := by have := HKS.out.1; omega
        have hob : w.heap.size + 1 + 1 < wr.heap.size := by omega
        go_wp2_with fail
        go_region_law (first
          | (obtain ⟨a3, c3, W', hrun, p3, p5, hmk2, hbW, hsW⟩ := (HMK.out.below ((Below.refl _ _).drew)).key sk hn2 _ rfl
             refine st_append (s := .tmp 56) (x := .tmp 62) rfl rfl (hrun _) ?_
             clear hrun))
        all_goals
          go_wp2_with fail
          go_meet
          exact ⟨a3, c3, hmk2, hbx.drew.trans ((hbW.mono (by omega)).trans ((Below.refl _ _).setCell (p := ⟨w.heap.size + 1 + 1, 3, none⟩) (by show w.heap.size + 2 ≤ w.heap.size + 1 + 1; omega) _)),
            hbw.drew.trans ((hbW.mono (by omega)).trans ((Below.refl _ _).setCell (p := ⟨w.heap.size + 1 + 1, 3, none⟩) (by show w.heap.size ≤ w.heap.size + 1 + 1; omega) _))⟩
      case rest =>
        obtain ⟨a3, c3, hmk3, hbx3, hbw3⟩ := hcut
        have hs3 := hmk3.size
        clear o0 o1 o2 o3 o4 o5 hidx hpar hP' hkbb
        obtain ⟨o0, o1, o2, o3, o4, o5⟩ := hmk3.cells
        have e0 : ∀ o, wc.cell? ⟨b, o, none⟩ = wr.cell? ⟨b, o, none⟩ := fun o => (hbw3.cell (p := ⟨b, o, none⟩) hb2).trans (hbw.cell (p := ⟨b, o, none⟩) hb2).symm
        have e1 : wc.cell? ⟨w.heap.size, 2, none⟩ = wr.cell? ⟨w.heap.size, 2, none⟩ := (hbx3.cell (p := ⟨w.heap.size, 2, none⟩) (by show w.heap.size < w.heap.size + 2; omega)).trans (hbx.cell (p := ⟨w.heap.size, 2, none⟩) (by show w.heap.size < w.heap.size + 2; omega)).symm
        rw [← e0] at h0 h1 h2 h3
        rw [← e1] at q2
        have hbbc : b < wc.heap.size := by omega
        have HM3 := Lib.hid hmk3
        clear hmk3 e0 e1 q0 q1 q3 hk0 hrb HMK
        go_wp2_with fail
        go_region_law (first
          | (refine st_append (s := .tmp 66) (x := .tmp 74) rfl rfl (hrun _) ?_; clear hrun)
          | (go_simp; go_at_call 35; refine (HC' _ hbw3.drew).out.mono ?_; rintro e w1 ⟨z, rfl, hzv, hzi, hb⟩
             have hl1 : w.heap.size + 1 + 1 < w1.heap.size := Nat.lt_of_lt_of_le hs3 hb.size
             obtain ⟨o0, o1, o2, o3, o4, o5⟩ := ((HM3.out.below ((Below.refl _ _).drew)).below hb).cells
             obtain ⟨a', c', W', hrun, p2, p5, hmk2, hbW⟩ := (HM3.out.below ((Below.refl _ _).drew)).call hb hzi (by omega) _ rfl))
        all_goals
          go_wp2_with fail
          refine ⟨⟨m + 1, ys ++ [z], ks ++ [sk], a', c', a3, n2 + 1, c3, by omega, by go_num, hmk2, ?_, ⟨by have := HKS.out.1; omega, by rw [HPK.out, HKS.out.2]⟩, ?_⟩, by simp [intOf]; omega⟩
          · rw [List.map_append, HYS.out, HPS.out]; simp [hzv]
          · rw [← HW00.out]
            exact hbx3.drew.trans ((hbW.mono (by omega)).trans ((Below.refl _ _).setCell (p := ⟨w.heap.size + 1 + 1, 2, none⟩) (by show w.heap.size + 2 ≤ w.heap.size + 1 + 1; omega) _))
    · obtain rfl : m = x.l.length := by omega
      have hge : ¬ (x.l.length : Int) < (x.l.length : Int) := by omega
      have hvv : ys.map AV.v = turnL by_ (x.l.map fun z => z.v.turned by_) := by rw [HYS.out]; exact (by have := picks_all by_ (x.l.map fun z => z.v.turned by_); rwa [List.length_map] at this)
      obtain ⟨r0, r1, r2, r3, -, -⟩ := HMK.out.cells
      obtain ⟨s0, s1, s2, s3, f0, f1, f2, f3⟩ := vbox4 hrb.out
      have HVV := Lib.hid hvv
      have hn2 : n2 = x.ks.length := by have := HKS.out.1; have := HLE.out; omega
      have HN2 := Lib.hid hn2
      clear hvv hn2
      go_wp2_with fail
      refine bodyPost_ret (v := .agg #[.int .u8 x.k, .string x.t, .slice a x.l.length c, .slice a2 n2 c2]) (by simp [results, Try.results35, go_sem, s0, s1, s2, s3]) rfl ⟨⟨x.k, x.t, a, c, ys, a2, c2, ks⟩, ?_, ?_, ?_, ?_⟩
      · show _ = Ending.returned (.agg #[.int .u8 x.k, .string x.t, .slice a ys.length c, .slice a2 ks.length c2])
        rw [← HMK.out.len, ← HMK.out.len2]
      · have hks3 : ks = turnL by_ x.ks := by
          have := picks_all by_ x.ks
          rw [HLE.out] at this
          rw [HKS.out.2]; exact this
        rw [AV.v_eq, hv.out, HVV.out, hks3]
      · show AV.In (set4 wr (w.heap.size + 1) _ _ _ _) _ _ _
        exact (HMK.out.done hkd (Nat.le_of_eq size4.symm) (fun q hq1 _ => old4 (by omega))).widen (by omega) (Nat.le_refl _)
      · show Below _ _ (set4 wr (w.heap.size + 1) _ _ _ _)
        exact below4 hbw (by omega)

theorem turned_c (by_ : Nat) (hby : by_ < 256) : ∀ (N : Nat) (x : AV) (w : World), Rd w x → x.w ≤ 1048576 → x.v.within N = true → Calls Try.prog 35 #[x.val, .int .u8 by_] w (TurnPost by_ x.v w)
  | 0, x, w, hx, hw, hwi => by
    rw [Val.within_0, Bool.and_eq_true, AV.v_k] at hwi
    have hk : x.k < 7 := by simpa using hwi.2
    have hl := shape_leaf2 hwi.1 (by rw [AV.v_k]; exact hk)
    rw [AV.v_l, AV.v_ks] at hl
    exact turned_A by_ hby x w hx hw (by omega) hl.2 (fun y hy => by rw [List.map_eq_nil_iff.1 hl.1] at hy; exact absurd hy List.not_mem_nil)
  | N + 1, x, w, hx, hw, hwi => by
    obtain ⟨sh, hk⟩ := within_k hwi
    have ih : ∀ y ∈ x.l, ∀ W, Rd W y → Calls Try.prog 35 #[y.val, .int .u8 by_] W (TurnPost by_ y.v W) := fun y hy W hW =>
      turned_c by_ hby N y W hW (by have := x.w_kid hy; omega) (hk y.v (by rw [AV.v_l]; exact List.mem_map_of_mem hy))
    by_cases h8 : x.k = 8
    · obtain ⟨_, hl8, _⟩ := shape_map sh (by rw [AV.v_k]; exact h8)
      rw [AV.v_ks, AV.v_l, List.length_map] at hl8
      by_cases he : by_ % 2 = 0
      · exact turned_B by_ hby x w hx hw h8 hl8 he ih
      · exact turned_C by_ hby x w hx hw h8 hl8 (by omega) ih
    · have hks : x.ks = [] := by
        rcases shape_range sh with h | h | h
        · have := (shape_leaf2 sh h).2; rwa [AV.v_ks] at this
        · have := (shape_list sh h).2; rwa [AV.v_ks] at this
        · rw [AV.v_k] at h; exact absurd h h8
      exact turned_A by_ hby x w hx hw h8 hks ih
end Go.Proofs.Ytmhkacafilpliaa
