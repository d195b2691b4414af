/-
  The value of a postorder's node, made of what stands in it. Conditions: the postorder lies in memory; each part of it is the postorder of a value. (Printed by gen_pb.py.)
-/
import Derived.Test.YtmhkacafilpliaaPA
import Derived.Test.YtmhkacafilpliaaRB
import Derived.Test.YtmhkacafilpliaaJO0
import Derived.Test.YtmhkacafilpliaaJN
import Derived.Test.YtmhkacafilpliaaVM
namespace Go.Proofs.Ytmhkacafilpliaa
open Go.RowKit Go.Sort Go.Shelf Go.BigFrame

section
variable {w w' : World} {ob base : Nat} {k : Int} {t : ByteArray} {a a2 : Option Addr} {n c n2 c2 : Nat} {ys : List AV} {ks : List ByteArray}
/-- One more part: appended in whatever world of new blocks, and stored back. -/
theorem Mk.push2 (h : Mk w ob base k t a n c ys a2 n2 c2 ks) (y : AV) {s e : Nat} (hy : y.In w s e) (hs : base ≤ s) (he : e ≤ w.heap.size) (h1 : ∀ g, (Value.slice a n c).ownBlock = some g → ¬ (s ≤ g ∧ g < e)) (h2 : ∀ g, (Value.slice a2 n2 c2).ownBlock = some g → ¬ (s ≤ g ∧ g < e))
    (hn : n < 16777216) (W : World) (hW : W = w.alloc (.cells y.enc.toArray 26)) :
    ∃ a' c' W', (∀ ty, (Builtin.append_ #[23, 23] ty #[.slice a n c, .slice (some ⟨w.heap.size, 0, none⟩) 1 1]).run Try.prog W = .ok (.slice a' (n + 1) c') W') ∧
      W'.cell? ⟨ob, 2, none⟩ = some (.slice a n c) ∧ W'.frozen? ⟨ob, 2, none⟩ = false ∧ Mk (W'.setCell ⟨ob, 2, none⟩ (.slice a' (n + 1) c')) ob base k t a' (n + 1) c' (ys ++ [y]) a2 n2 c2 ks ∧ Below base w W' ∧ w.heap.size ≤ W'.heap.size ∧ (∀ q, q < w.heap.size → (∀ g, (Value.slice a n c).ownBlock = some g → q ≠ g) → W'.heap[q]? = w.heap[q]?) := by
  subst hW
  have hb1 : Below w.heap.size w (w.alloc (.cells y.enc.toArray 26)) := (Below.refl _ _).alloc (Nat.le_refl _) _
  have hm := h.below hb1
  have hsz := World.size_alloc w (.cells y.enc.toArray 26)
  have hlit : SlE AV.enc 4 (w.alloc (.cells y.enc.toArray 26)) w.heap.size (w.heap.size + 1) (some ⟨w.heap.size, 0, none⟩) [y] := lit_sl (t := 26) (fr := (0, 0)) AV.enc_len (by rw [heap_alloc_new]; simp)
  obtain ⟨v', W', hrun, hown, hgr, hat⟩ := app_val (c := 1) hm.own hlit (by have := h.len; simp; omega) hm.size
  have hlt := h.lt; have hsi := h.size; have hle := h.len
  obtain ⟨g', c', hv, hg1, hg2⟩ := hown.form (by simp)
  rw [List.length_append, List.length_singleton, ← hle] at hv
  subst hv
  have hgl : ∀ g, (Value.slice a n c).ownBlock = some g → base ≤ g ∧ g < w.heap.size := h.own.lt
  have hgl2 : ∀ g, (Value.slice a2 n2 c2).ownBlock = some g → base ≤ g ∧ g < w.heap.size := h.own2.lt
  have hkeep : ∀ k, k < w.heap.size → (∀ g, (Value.slice a n c).ownBlock = some g → k ≠ g) → W'.heap[k]? = w.heap[k]? := fun k hk hne => by
    rw [hgr.block k (by omega) (fun e => hne k e.symm rfl), heap_alloc_old _ _ _ hk]
  have hg' : g' = w.heap.size + 1 ∨ (Value.slice a n c).ownBlock = some g' := by
    simp only [Value.ownBlock] at hat
    rcases hat with e | e
    · exact .inr e.symm
    · injection e with e; exact .inl (by omega)
  have hbox : W'.heap[ob]? = _ := (hkeep ob (by omega) (fun g hg e => by have := hgl g hg; omega)).trans h.box
  have hss := hgr.size
  refine ⟨some ⟨g', 0, none⟩, c', W', hrun, ?_, ?_, ?_, ?_, by omega, hkeep⟩
  · simp [World.cell?, hbox]
  · simp [World.frozen?, hbox]
  · have hsW := Go.Sort.setCell_eq W' ob 2 (.slice (some ⟨g', 0, none⟩) (n + 1) c')
    have hS : ∀ (X : World) (q : Nat), q ≠ ob → (W'.setCell ⟨ob, 2, none⟩ (.slice (some ⟨g', 0, none⟩) (n + 1) c')).heap[q]? = W'.heap[q]? := fun _ q hq => Below.heap_setCell W' _ _ q hq
    have hSz : (W'.setCell ⟨ob, 2, none⟩ (.slice (some ⟨g', 0, none⟩) (n + 1) c')).heap.size = W'.heap.size := by simp
    have hgs : W'.grownBy (W'.setCell ⟨ob, 2, none⟩ (.slice (some ⟨g', 0, none⟩) (n + 1) c')) (some ob) :=
      ⟨rfl, rfl, rfl, by rw [hSz]; exact Nat.le_refl _, fun q _ hq => hS W' q (fun e => hq (by rw [e]))⟩
    refine ⟨hlt, by rw [hSz]; omega, by rw [set_blk hbox]; rfl, by simp [hle], h.len2, ?_, ?_, ?_, ?_⟩
    · have : (n + 1) = (ys ++ [y]).length := by simp [hle]
      rw [this]
      rw [hle] at hown
      refine World.ownsRow.kept (row := some ob) (by rw [OwnV, List.length_append, List.length_singleton] at hown; simpa using hown) (by simpa [hle] using hgs) (.inr ?_)
      simp only [Value.ownBlock]
      intro e; injection e with e; omega
    · refine World.ownsRow.kept (row := some ob) (World.ownsRow.kept (own_below h.own2 hb1) hgr ?_) hgs ?_
      · cases hq : (Value.slice a2 n2 c2).ownBlock with
        | none => exact .inl rfl
        | some q => exact .inr fun e => h.sep q e.symm hq
      · cases hq : (Value.slice a2 n2 c2).ownBlock with
        | none => exact .inl rfl
        | some q => exact .inr fun e => by injection e with e; have := hgl2 q hq; omega
    · intro g hg e
      have hgg : g = g' := by simp only [Value.ownBlock] at hg; injection hg with hg; exact hg.symm
      subst hgg
      rcases hg' with e1 | e1
      · have := hgl2 _ e; omega
      · exact h.sep _ e1 e
    · intro z hz
      have key : ∀ z s e, z.In w s e → base ≤ s → e ≤ w.heap.size → (∀ g, (Value.slice a n c).ownBlock = some g → ¬ (s ≤ g ∧ g < e)) → (∀ g, (Value.slice a2 n2 c2).ownBlock = some g → ¬ (s ≤ g ∧ g < e)) →
          Apart (W'.setCell ⟨ob, 2, none⟩ (.slice (some ⟨g', 0, none⟩) (n + 1) c')) base (Value.slice (some ⟨g', 0, none⟩) (n + 1) c').ownBlock (Value.slice a2 n2 c2).ownBlock z := fun z s e hz hs he h1 h2 => by
        refine ⟨s, e, hz.kept (by rw [hSz]; omega) (fun q hq1 hq2 hq3 => ?_), hs, by rw [hSz]; omega, fun g hg hc => ?_, h2⟩
        · rw [hS W' q (by omega)]
          exact hkeep q hq3 fun g hg e => h1 g hg ⟨by omega, by omega⟩
        · have hgg : g = g' := by simp only [Value.ownBlock] at hg; injection hg with hg; exact hg.symm
          subst hgg
          rcases hg' with e1 | e1
          · omega
          · exact h1 _ e1 hc
      rcases List.mem_append.1 hz with hz | hz
      · obtain ⟨s', e', q1, q2, q3, q4, q5⟩ := h.kids z hz
        exact key z s' e' q1 q2 q3 q4 q5
      · simp at hz; subst hz
        exact key _ s e hy hs he h1 h2
  · exact (hb1.mono hsi).grown hgr (by omega) (fun g hg => (hgl g hg).1)

end
theorem blkw {w W : World} {a : Addr} {v : Value} (h : Below w.heap.size w W) (hc : w.cell? a = some v) : W.cell? a = some v := (h.cell (World.block_lt_of_cell? w a hc)).trans hc
theorem app_ib {w : World} {base : Nat} {v : Value} {l : List Nat} (hown : w.ownsRow base 3 1 v l.length (l.flatMap natE)) {lo hi : Nat} {A : Option Addr} {m : List Nat} {c : Nat} (hr : SlE natE 1 w lo hi A m) (hn : l.length + m.length ≤ 16777216) (hbase : base ≤ w.heap.size) :
    ∃ v' w', (∀ ty, (Builtin.append_ #[31, 31] ty #[v, .slice A m.length c]).run Try.prog w = .ok v' w') ∧ w'.ownsRow base 3 1 v' (l ++ m).length ((l ++ m).flatMap natE) ∧ w.grownBy w' v.ownBlock ∧ (v'.ownBlock = v.ownBlock ∨ v'.ownBlock = some w.heap.size) := by
  obtain ⟨i0, hi0, hz0, hz1, hz2⟩ := info_parts info_in
  obtain ⟨v', w', h1, h2, h3, h4⟩ := run_append_sl (P := Try.prog) w natE base 31 0 3 i0 _ 1 8 Try.underlying31 hi0 hz0 hz1 hz2 rfl (by omega) (by omega) v l.length _ hown lo hi A m c hr (fun _ => rfl) (fun x u hu => by simp at hu; subst hu; rfl) hn hbase
  exact ⟨v', w', fun ty => h1, by simp only [List.length_append, List.flatMap_append]; exact h2, h3, h4⟩
theorem own_formB {w : World} {base : Nat} {v : Value} {l : List Nat} (h : w.ownsRow base 3 1 v l.length (l.flatMap natE)) : ∃ a c, v = .slice a l.length c := by
  rcases h.2 with ⟨e, h0⟩ | ⟨g, cap, cur, e, _⟩
  · exact ⟨none, 0, by rw [e, h0]⟩
  · exact ⟨_, _, e⟩
theorem blk_set4 {w : World} {B : Nat} {a b c d a' b' c' d' : Value} {t : TypeId} (h : w.heap[B]? = some (.cells #[a, b, c, d] t (0, 0))) : (set4 w B a' b' c' d').heap[B]? = some (.cells #[a', b', c', d'] t (0, 0)) := by
  rw [set4, set_blk (set_blk (set_blk (set_blk h 0 a') 1 b') 2 c') 3 d']
  rfl
theorem made_boxA {wr w1 : World} {y : AV} {v : Val} (hv : y.v = v) (hi : y.In w1 wr.drew.heap.size w1.heap.size) (hb : Below wr.drew.heap.size wr.drew w1) : ∃ (B : Nat) (y' : AV), Value.pointer (some ⟨w1.heap.size, 0, none⟩) = .pointer (some ⟨B, 0, none⟩) ∧ Value.bool true = .bool true ∧
    Hid ((w1.alloc (.cells #[.int .u8 y.k, .string y.t, .slice y.la y.l.length y.lc, .slice y.ka y.ks.length y.kc] 26)).heap[B]? = some (.cells #[.int .u8 y'.k, .string y'.t, .slice y'.la y'.l.length y'.lc, .slice y'.ka y'.ks.length y'.kc] 26 (0, 0))) ∧ Hid (y'.v = v) ∧ Hid (∃ s e, y'.In (w1.alloc (.cells #[.int .u8 y.k, .string y.t, .slice y.la y.l.length y.lc, .slice y.ka y.ks.length y.kc] 26)) s e ∧ wr.heap.size ≤ s ∧ e ≤ (w1.alloc (.cells #[.int .u8 y.k, .string y.t, .slice y.la y.l.length y.lc, .slice y.ka y.ks.length y.kc] 26)).heap.size) ∧ Hid (Below wr.heap.size wr (w1.alloc (.cells #[.int .u8 y.k, .string y.t, .slice y.la y.l.length y.lc, .slice y.ka y.ks.length y.kc] 26))) :=
  ⟨w1.heap.size, y, rfl, rfl, Lib.hid (heap_alloc_new _ _), Lib.hid hv, Lib.hid ⟨_, _, hi.blw' (below_al (Below.refl _ _)), Nat.le_refl _, by simp⟩, Lib.hid (below_al (below_via (Below.refl wr.heap.size wr).drew hb))⟩
theorem made_boxB {wr w1 : World} {o : Obj} {a b c d : Value} {y : AV} {v : Val} (hv : y.v = v) (hi : y.In w1 (wr.alloc o).drew.heap.size w1.heap.size) (hb : Below (wr.alloc o).drew.heap.size (wr.alloc o).drew w1) (ho : w1.heap[wr.heap.size]? = some (.cells #[a, b, c, d] 26 (0, 0))) : ∃ (B : Nat) (y' : AV), Value.pointer (some ⟨wr.heap.size, 0, none⟩) = .pointer (some ⟨B, 0, none⟩) ∧ Value.bool true = .bool true ∧
    Hid (((((w1.setCell ⟨wr.heap.size, 0, none⟩ (.int .u8 y.k)).setCell ⟨wr.heap.size, 1, none⟩ (.string y.t)).setCell ⟨wr.heap.size, 2, none⟩ (.slice y.la y.l.length y.lc)).setCell ⟨wr.heap.size, 3, none⟩ (.slice y.ka y.ks.length y.kc)).heap[B]? = some (.cells #[.int .u8 y'.k, .string y'.t, .slice y'.la y'.l.length y'.lc, .slice y'.ka y'.ks.length y'.kc] 26 (0, 0))) ∧ Hid (y'.v = v) ∧ Hid (∃ s e, y'.In ((((w1.setCell ⟨wr.heap.size, 0, none⟩ (.int .u8 y.k)).setCell ⟨wr.heap.size, 1, none⟩ (.string y.t)).setCell ⟨wr.heap.size, 2, none⟩ (.slice y.la y.l.length y.lc)).setCell ⟨wr.heap.size, 3, none⟩ (.slice y.ka y.ks.length y.kc)) s e ∧ wr.heap.size ≤ s ∧ e ≤ ((((w1.setCell ⟨wr.heap.size, 0, none⟩ (.int .u8 y.k)).setCell ⟨wr.heap.size, 1, none⟩ (.string y.t)).setCell ⟨wr.heap.size, 2, none⟩ (.slice y.la y.l.length y.lc)).setCell ⟨wr.heap.size, 3, none⟩ (.slice y.ka y.ks.length y.kc)).heap.size) ∧ Hid (Below wr.heap.size wr ((((w1.setCell ⟨wr.heap.size, 0, none⟩ (.int .u8 y.k)).setCell ⟨wr.heap.size, 1, none⟩ (.string y.t)).setCell ⟨wr.heap.size, 2, none⟩ (.slice y.la y.l.length y.lc)).setCell ⟨wr.heap.size, 3, none⟩ (.slice y.ka y.ks.length y.kc))) := by
  rw [show ((((w1.setCell ⟨wr.heap.size, 0, none⟩ (.int .u8 y.k)).setCell ⟨wr.heap.size, 1, none⟩ (.string y.t)).setCell ⟨wr.heap.size, 2, none⟩ (.slice y.la y.l.length y.lc)).setCell ⟨wr.heap.size, 3, none⟩ (.slice y.ka y.ks.length y.kc)) = set4 w1 wr.heap.size (.int .u8 y.k) (.string y.t) (.slice y.la y.l.length y.lc) (.slice y.ka y.ks.length y.kc) from rfl]
  have hs : (wr.alloc o).drew.heap.size = wr.heap.size + 1 := by simp
  exact ⟨wr.heap.size, y, rfl, rfl, Lib.hid (blk_set4 ho), Lib.hid hv, Lib.hid ⟨_, _, hi.kept (Nat.le_of_eq size4.symm) (fun q h1 _ _ => old4 (by omega)), by omega, by rw [size4]; exact Nat.le_refl _⟩, Lib.hid (below4 (below_via ((below_al (Below.refl wr.heap.size wr)).drew) hb) (Nat.le_refl _))⟩
theorem blk_keepd {w W : World} {o : Obj} (hb : Below ((w.alloc o).drew).heap.size ((w.alloc o).drew) W) : W.heap[w.heap.size]? = some o := (hb.block w.heap.size (by simp)).trans (heap_alloc_new w o)
def MadePost (v : Val) (w : World) (e : Ending) (w' : World) : Prop := ∃ y : AV, e = .returned (.tuple #[y.val, .bool true]) ∧ y.v = v ∧ y.In w' w.heap.size w'.heap.size ∧ Below w.heap.size w w'
set_option maxRecDepth 100000 in
set_option maxHeartbeats 12800000 in
theorem made_step (w : World) (p : PA) (hp : p.Rd w) (node fr : Nat) (lb : Lab) (subs : List Plc) (vals : List Val) (hl : p.L[node]? = some lb) (hf : p.F[node]? = some (fr : Int)) (hk : 0 ≤ lb.k ∧ lb.k ≤ 255) (hend : stt fr subs subs.length = node)
    (hkid : ∀ j x, subs[j]? = some x → ∃ y, p.L[stt fr subs (j + 1) - 1]? = some y ∧ y.kd = (lb.k == 8) ∧ y.key = x.key) (hkf : ∀ j x, subs[j]? = some x → p.F[stt fr subs (j + 1) - 1]? = some (stt fr subs j : Int)) (hvl : vals.length = subs.length)
    (ih : ∀ j v, vals[j]? = some v → ∀ W, Below w.heap.size w W → Calls Try.prog 34 #[.agg p.box, .int .i64 ((stt fr subs (j + 1) - 1 : Nat) : Int)] W (MadePost v W)) :
    Calls Try.prog 34 #[.agg p.box, .int .i64 (node : Int)] w (MadePost ⟨lb.k, lb.t, vals, if lb.k = 8 then subs.map (·.key) else []⟩ w) := by
  obtain ⟨V, hV⟩ : ∃ V : Val, V = ⟨lb.k, lb.t, vals, if lb.k = 8 then subs.map (·.key) else []⟩ := ⟨_, rfl⟩
  rw [← hV]
  have HV := Lib.hid hV
  clear hV
  obtain ⟨al, cl, af, cf, ar, cr, L, F, R⟩ := p
  have hp0 := hp
  obtain ⟨hpl, hpf, -, hn1, hn2, -⟩ := hp
  simp only at hpl hpf hn1 hn2 hl hf hkid hkf
  have hnl := (List.getElem?_eq_some_iff.1 hl).1
  have hnf := (List.getElem?_eq_some_iff.1 hf).1
  have HIH := Lib.hid ih
  have HKID := Lib.hid hkid
  have HKF := Lib.hid hkf
  have HVL := Lib.hid hvl
  have HEND := Lib.hid hend
  have HKB := Lib.hid hk
  have HF := Lib.hid hf
  obtain ⟨lb0, lo0, hla, -, hlb2, -, l0, l1, l2, l3⟩ := lab_at hpl hl
  obtain ⟨fb0, fo0, hfa, -, hfb2, -, f0⟩ := int_at hpf hf
  subst hla
  subst hfa
  have b1 : lb0 < w.heap.size + 1 := by omega
  have b2 : lb0 < w.heap.size + 1 + 1 := by omega
  have b3 : lb0 < w.heap.size + 1 + 1 + 1 := by omega
  have c1 : ¬ (node : Int) < 0 := by omega
  have c2 : (node : Int) < (L.length : Int) := by omega
  have c3 : (node : Int) < (F.length : Int) := by omega
  have c4 : (0 : Int) ≤ (node : Int) := by omega
  have HPL := Lib.hid hpl
  have HPF := Lib.hid hpf
  clear hp0 hpl hpf ih hkid hkf hvl hend hl hf
  go_enter Try.func34, Try.ntmps34
  go_upto_region 5 with fail
  go_name_world W0 hW0
  have hb0 : Below w.heap.size w W0 := by rw [← hW0]; exact below_al (below_al (below_al (below_al (Below.refl _ _))))
  have hx0 : W0.heap[w.heap.size]? = some (.cells #[.slice (some ⟨lb0, lo0, none⟩) L.length cl, .slice (some ⟨fb0, fo0, none⟩) F.length cf, .slice ar R.length cr] 33 (0, 0)) := by
    rw [← hW0, heap_alloc_old _ _ _ (by simp; omega), heap_alloc_old _ _ _ (by simp; omega), heap_alloc_old _ _ _ (by simp)]
    exact heap_alloc_new w _
  have hr0 : W0.heap[w.heap.size + 1]? = some (.cells #[.int .u8 0, .string ⟨#[]⟩, .slice none 0 0, .slice none 0 0] 26 (0, 0)) := by
    rw [← hW0, heap_alloc_old _ _ _ (by simp), heap_alloc_old _ _ _ (by simp)]
    have := heap_alloc_new (w.alloc (.cells #[.slice (some ⟨lb0, lo0, none⟩) L.length cl, .slice (some ⟨fb0, fo0, none⟩) F.length cf, .slice ar R.length cr] 33)) (.cells #[.int .u8 0, .string ⟨#[]⟩, .slice none 0 0, .slice none 0 0] 26)
    rwa [World.size_alloc] at this
  have hv0 : W0.heap[w.heap.size + 1 + 1 + 1]? = some (.cells #[.int .u8 lb.k, .string lb.t, .slice none 0 0, .slice none 0 0] 26 (0, 0)) := by
    rw [← hW0]
    have := heap_alloc_new (((w.alloc (.cells #[.slice (some ⟨lb0, lo0, none⟩) L.length cl, .slice (some ⟨fb0, fo0, none⟩) F.length cf, .slice ar R.length cr] 33)).alloc (.cells #[.int .u8 0, .string ⟨#[]⟩, .slice none 0 0, .slice none 0 0] 26)).alloc (.cells #[.bool lb.kd, .string lb.key, .int .u8 lb.k, .string lb.t] 46)) (.cells #[.int .u8 lb.k, .string lb.t, .slice none 0 0, .slice none 0 0] 26)
    rwa [World.size_alloc, World.size_alloc, World.size_alloc] at this
  have hs0 : w.heap.size + 1 + 1 + 1 < W0.heap.size := (Array.getElem?_eq_some_iff.1 hv0).1
  clear hW0
  have hBR : w.heap.size < w.heap.size + 1 := by omega
  have hBV : w.heap.size + 1 < w.heap.size + 1 + 1 + 1 := by omega
  generalize hg1 : w.heap.size + 1 + 1 + 1 = BV at *
  generalize hg2 : w.heap.size + 1 = BR at *
  have hlw : lb0 < w.heap.size := hlb2
  have hfw : fb0 < w.heap.size := hfb2
  clear hg1 hg2 b1 b2 b3 hlb2 hfb2 l0 l1 l2 l3
  have HX0 := Lib.hid hx0
  have HR0 := Lib.hid hr0
  have HV0 := Lib.hid hv0
  have HB0 := Lib.hid hb0
  have HFN := Lib.hid f0
  clear hx0 hr0 hv0 hb0 f0
  go_wp2_with fail
  go_loopw [8, 9] (fun s8 s9 wr => ∃ (j : Nat) (a : Option Addr) (c : Nat), j ≤ subs.length ∧ s9 = .int .i64 ((stt fr subs j : Int) - 1) ∧ s8 = .slice a (rowD fr subs j).length c ∧ Hid (wr.ownsRow W0.heap.size 3 1 (.slice a (rowD fr subs j).length c) (rowD fr subs j).length ((rowD fr subs j).flatMap natE)) ∧ Hid (Below W0.heap.size W0 wr)) (fun _ s9 _ => (intOf s9 + 1).toNat)
  case atStart => exact ⟨subs.length, none, 0, Nat.le_refl _, by rw [HEND.out], by rw [rowD_all]; rfl, Lib.hid (by rw [rowD_all]; exact World.ownsRow_nil _ _ _ _), Lib.hid (Below.refl _ _)⟩
  case round =>
    obtain ⟨j, a, c, hj, rfl, rfl, HO, HBR⟩ := hrel
    have HBW := Lib.hid (below_via HB0.out HBR.out)
    obtain ⟨p0, p1, p2, -, -, -⟩ := box3 (blk_via HBR.out HX0.out)
    have f0 := blkw HBW.out HFN.out
    have hsub := stt_le (fr := fr) hj
    have hrl := rowD_len fr subs j
    have hsub2 : subs.length ≤ node := by have := stt_le (fr := fr) (Nat.le_refl subs.length); rw [HEND.out] at this; omega
    cases j with
    | succ i =>
      have hjs : subs[i]? = some subs[i] := List.getElem?_eq_getElem (by omega)
      have hsu := stt_succ (fr := fr) hjs
      have hF := HKF.out i _ hjs
      have hrF := (List.getElem?_eq_some_iff.1 hF).1
      have hsz := size_pos (subs[i]).v
      have hst := rowD_step (fr := fr) (xs := subs) (j := i) (by omega)
      have hsi := stt_le (fr := fr) (show i ≤ subs.length by omega)
      generalize hsj : stt fr subs (i + 1) = sj at *
      generalize hsk : stt fr subs i = si at *
      obtain ⟨r, hr⟩ : ∃ r, r = sj - 1 := ⟨_, rfl⟩
      rw [← hr] at hF hrF hst
      have hri : (sj : Int) - 1 = (r : Int) := by omega
      rw [hri]
      obtain ⟨fb, fo, hfa, -, -, -, f1w⟩ := int_at HPF.out hF
      have f1 := blkw HBW.out f1w
      cases hfa
      have HST := Lib.hid hst
      have HFR := Lib.hid f1w
      have hsir : si ≤ r := by omega
      have hfsi : fr ≤ si := by omega
      have hge : (fr : Int) ≤ (r : Int) := by omega
      have hr0 : (0 : Int) ≤ (r : Int) := by omega
      have hrF' : (r : Int) < (F.length : Int) := by omega
      have hlen7 : (rowD fr subs (i + 1)).length + 1 ≤ 16777216 := by omega
      have hdec : si < sj := by omega
      clear f1w hst hF hrl hsub hsub2 hsz hsu hr hri hsj hjs
      have HSK := Lib.hid hsk
      clear hdec hsk
      go_upto_region 8 with fail
      have dge : decide ((F.length : Int) ≤ (r : Int)) = false := decide_eq_false (by omega)
      have dgt : decide ((r : Int) < (si : Int)) = false := decide_eq_false (by omega)
      have dlt : decide ((si : Int) < (fr : Int)) = false := decide_eq_false (by omega)
      have nge : decide (F.length ≤ r) = false := decide_eq_false (by omega)
      have ngt : decide (r < si) = false := decide_eq_false (by omega)
      have nlt : decide (si < fr) = false := decide_eq_false (by omega)
      have LD := Lib.hid (fun W (h : Below wr.heap.size wr W) => And.intro (blkw h p0) (And.intro (blkw h p1) (And.intro (blkw h p2) (And.intro (blkw h f0) (blkw h f1)))))
      refine wp_region_bl (by kernel_rfl) (by kernel_rfl) ?_
      repeat (first | go_big_quiet_skip | (go_big_quiet_want; go_big_quiet_op; first | go_big_quiet_on | (refine ⟨_, fun _ _ => (by with_reducible rfl), ?_⟩; go_big_quiet_on) | (apply Exists.intro; refine ⟨fun w' hC => (by simp only [LD.out w' hC, Result.andThen]; exact ⟨trivial, rfl⟩), ?_⟩; go_big_quiet_on)))
      refine wpQuiet_nil ?_; intro wz hbz
      have HBZ := Lib.hid (HBR.out.trans (hbz.mono HBR.out.size))
      have HOZ := Lib.hid (own_below HO.out hbz)
      have z1 := blkw hbz p1
      have z2 := blkw hbz f1
      have z3 := blkw hbz p0
      have z4 := blkw hbz p2
      clear LD hbz p0 p1 p2 f0 f1 dge dgt dlt nge ngt nlt
      have hlit : SlE natE 1 (wz.alloc (.cells #[.int .i64 (r : Int)] 3)) wz.heap.size (wz.heap.size + 1) (some ⟨wz.heap.size, 0, none⟩) [r] := lit_sl (enc := natE) (size := 1) (l := [r]) (t := 3) (fr := (0, 0)) (fun _ => rfl) (heap_alloc_new _ _)
      have hz := HBZ.out.size
      obtain ⟨v', W', hrun, hown', hgr, -⟩ := app_ib (c := 1) (own_below HOZ.out ((Below.refl _ _).alloc (Nat.le_refl _) (.cells #[.int .i64 (r : Int)] 3))) hlit (by simp; omega) (by simp; omega)
      rw [← HST.out] at hown'
      obtain ⟨a', c', rfl⟩ := own_formB hown'
      have hb2 : Below W0.heap.size W0 W' := (HBZ.out.trans ((Below.refl _ _).alloc hz _)).grown hgr (by simp; omega) (fun q hq => (HOZ.out.lt q hq).1)
      have HOW' := Lib.hid hown'
      have HB2 := Lib.hid hb2
      have y0 := blk_via HB2.out HX0.out
      obtain ⟨q0, q1, q2, -, -, -⟩ := box3 y0
      have q3 := blkw (below_via HB0.out HB2.out) (show w.cell? ⟨fb0, fo0 + r, none⟩ = some (.int .i64 (si : Int)) from HFR.out)
      simp only [List.length_singleton] at hrun
      clear hlit hown' hgr hb2 hz y0 z1 z2 z3 z4
      go_wp2_with (at_builtin; refine wl_append (s := .tmp 78) (x := .tmp 80) rfl rfl (hrun _) ?_; clear hrun)
      exact ⟨⟨i, a', c', by omega, by rw [HSK.out], rfl, HOW', HB2⟩, by simp [intOf]; omega⟩
    | zero =>
      rw [stt_zero] at hsub ⊢
      have hge : ¬ (fr : Int) ≤ (fr : Int) - 1 := by omega
      obtain ⟨W1, hW1⟩ : ∃ W, W = wr := ⟨_, rfl⟩
      subst hW1
      obtain ⟨R1, hR1⟩ : ∃ R1, R1 = rowD fr subs 0 := ⟨_, rfl⟩
      have hRl : R1.length = subs.length := by rw [hR1, hrl]; rfl
      have HRA := Lib.hid (show ∀ j, j < subs.length → R1[R1.length - 1 - j]? = some (stt fr subs (j + 1) - 1) from fun j hj => by rw [hRl, hR1]; exact rowD_at hj)
      rw [← hR1] at HO hrl ⊢
      have HRW := Lib.hid (show SlE natE 1 W1 W0.heap.size W1.heap.size a R1 from own_sl (enc := natE) (size := 1) (fun _ => rfl) HO.out)
      have HRL := Lib.hid hRl
      have hR7 : R1.length ≤ 2097152 := by omega
      clear hR1 hRl hrl HO hsub
      have hs1 := HBR.out.size
      have HM0 := Lib.hid (show Mk W1 BV W1.heap.size lb.k lb.t none 0 0 [] none 0 0 [] from ⟨by omega, Nat.le_refl _, blk_via HBR.out HV0.out, rfl, rfl, World.ownsRow_nil _ _ _ _, World.ownsRow_nil _ _ _ _, fun g hg => by simp [Value.ownBlock] at hg, fun y hy => by simp at hy⟩)
      go_wp2_with fail
      go_loopw [10] (fun s10 wr => ∃ (j : Nat) (a : Option Addr) (c : Nat) (ys : List AV) (a2 : Option Addr) (n2 c2 : Nat) (ks : List ByteArray), j ≤ subs.length ∧ s10 = .int .i64 ((R1.length : Int) - 1 - (j : Int)) ∧ Hid (Mk wr BV W1.heap.size lb.k lb.t a j c ys a2 n2 c2 ks) ∧ Hid (ys.map AV.v = vals.take j) ∧ Hid (ks = if lb.k = 8 then (subs.take j).map (·.key) else []) ∧ Hid (Below BV W1 wr) ∧ Hid (∀ q, q < W1.heap.size → q ≠ BV → wr.heap[q]? = W1.heap[q]?)) (fun s10 _ => (intOf s10 + 1).toNat)
      case atStart => exact ⟨0, none, 0, [], none, 0, 0, [], Nat.zero_le _, by go_num, HM0, Lib.hid rfl, Lib.hid (by split <;> rfl), Lib.hid (Below.refl _ _), Lib.hid (fun _ _ _ => rfl)⟩
      case round =>
        obtain ⟨j, a1, c1', ys, a2, n2, c2', ks, hj, rfl, HMK, HYS, HKS, HBI, HOLD⟩ := hrel
        have HBW0 := Lib.hid (HBI.out.mono (show w.heap.size ≤ BV by omega))
        have hsW := HMK.out.size
        have x0 : wr.heap[w.heap.size]? = _ := (HOLD.out w.heap.size (by omega) (by omega)).trans (blk_via HBR.out HX0.out)
        have r0 : wr.heap[BR]? = _ := (HOLD.out BR (by omega) (by omega)).trans (blk_via HBR.out HR0.out)
        obtain ⟨p0, p1, p2, -, -, -⟩ := box3 x0
        have HXR := Lib.hid x0
        have HRR := Lib.hid r0
        have HWR := Lib.hid (show Below w.heap.size w wr from ((HB0.out.trans (HBR.out.mono HB0.out.size)).trans HBW0.out))
        have HROW := Lib.hid (show SlE natE 1 wr W0.heap.size W1.heap.size a R1 from HRW.out.keep hsW fun q h1 h2 _ => HOLD.out q h2 (by omega))
        clear x0 r0
        by_cases hlt : j < subs.length
        · have hjv : j < vals.length := by rw [HVL.out]; exact hlt
          have hvs : vals[j]? = some vals[j] := List.getElem?_eq_getElem hjv
          have hss : subs[j]? = some subs[j] := List.getElem?_eq_getElem hlt
          generalize vals[j] = v at *
          generalize subs[j] = x at *
          have hrj := HRA.out j hlt
          have hca := HIH.out j v hvs
          obtain ⟨yl, hyl, hykd, hykey⟩ := HKID.out j x hss
          generalize stt fr subs (j + 1) - 1 = r at *
          obtain ⟨m, hm⟩ : ∃ m, m = R1.length - 1 - j := ⟨_, rfl⟩
          rw [← hm] at hrj
          have hmi : (R1.length : Int) - 1 - (j : Int) = (m : Int) := by have := HRL.out; omega
          rw [hmi]
          have hm0 : (0 : Int) ≤ (m : Int) := by omega
          have hmR : (m : Int) < (R1.length : Int) := by have := (List.getElem?_eq_some_iff.1 hrj).1; omega
          have HMD := Lib.hid (show ((m : Int) - 1 = (R1.length : Int) - 1 - ((j + 1 : Nat) : Int)) by omega)
          have hjR : j < R1.length := by rw [HRL.out]; exact hlt
          obtain ⟨rb, ro, hra, hrb1, hrb2, -, rc⟩ := nat_at HROW.out hrj
          obtain ⟨yb, yo, hya, -, hyb2, -, t0, t1, t2, t3⟩ := lab_at (HPL.out.up HWR.out) hyl
          cases hya
          have hyr := (List.getElem?_eq_some_iff.1 hyl).1
          have hrL : (r : Int) < (L.length : Int) := by omega
          have hr0' : (0 : Int) ≤ (r : Int) := by omega
          have HC := fun W (h : Below wr.heap.size wr W) => Lib.hid (show Calls Try.prog 34 #[.agg #[.slice (some ⟨lb0, lo0, none⟩) L.length cl, .slice (some ⟨fb0, fo0, none⟩) F.length cf, .slice ar R.length cr], .int .i64 (r : Int)] W (MadePost v W) from hca W (below_via HWR.out h))
          have HVS := Lib.hid hvs
          have HSS := Lib.hid hss
          have HKD := Lib.hid hykd
          have HKY := Lib.hid hykey
          have hbd : Below wr.heap.size wr wr.drew := (Below.refl _ _).drew
          have ha0 : ∀ o, Below wr.heap.size wr ((wr.alloc o).drew) := fun o => (below_al (Below.refl _ _)).drew
          have k0 := fun o => blkw (ha0 o) p0
          have k1 := fun o => blkw (ha0 o) p1
          have k2 := fun o => blkw (ha0 o) p2
          have k3 := fun o => blkw (ha0 o) rc
          have HRC := Lib.hid rc
          clear hca hyl hvs hss hykd hykey hrj hm hmi hyr
          rw [hra]
          go_upto_region 15 with fail
          go_cut [11, 12] (fun s11 s12 wx => ∃ (B : Nat) (y : AV), s11 = .pointer (some ⟨B, 0, none⟩) ∧ s12 = .bool true ∧ Hid (wx.heap[B]? = some (.cells #[.int .u8 y.k, .string y.t, .slice y.la y.l.length y.lc, .slice y.ka y.ks.length y.kc] 26 (0, 0))) ∧ Hid (y.v = v) ∧ Hid (∃ s e, y.In wx s e ∧ wr.heap.size ≤ s ∧ e ≤ wx.heap.size) ∧ Hid (Below wr.heap.size wr wx))
          case first =>
            go_region_law (first
              | (go_simp; go_at_call 34; first
                  | ((with_reducible refine (HC _ hbd).out.mono ?_); rintro e w1 ⟨y, rfl, hyv, hyi, hb⟩; have HIA := Lib.hid (And.intro hyv (And.intro hyi hb)); clear hyv hyi hb)
                  | ((with_reducible refine (HC _ (ha0 _)).out.mono ?_); rintro e w1 ⟨y, rfl, hyv, hyi, hb⟩; obtain ⟨z0, z1, z2, z3, z4, z5, z6, z7⟩ := vbox4 (blk_keepd hb); have HIB := Lib.hid (And.intro hyv (And.intro hyi (And.intro hb (blk_keepd hb)))); clear hyv hyi hb)))
            all_goals
              go_wp2_with fail
              go_meet
              first
                | (have hq := HIA.out; exact made_boxA hq.1 hq.2.1 hq.2.2)
                | (have hq := HIB.out; exact made_boxB hq.1 hq.2.1 hq.2.2.1 hq.2.2.2)
          case rest =>
            obtain ⟨B, y, rfl, rfl, HYB, HYV, HYI, HBX⟩ := hcut
            clear k0 k1 k2 k3 p0 p1 p2 rc HC
            obtain ⟨p0, p1, p2, -, -, -⟩ := box3 (blk_via HBX.out HXR.out)
            have u0 := blkw HBX.out t0
            have u1 := blkw HBX.out t1
            have u2 := blkw HBX.out t2
            have u3 := blkw HBX.out t3
            have rc := blkw HBX.out HRC.out
            clear t0 t1 t2 t3
            obtain ⟨WC, hWC⟩ : ∃ W, W = wc := ⟨_, rfl⟩
            subst hWC
            go_upto_region 16 with fail
            go_cut [13] (fun s13 wy => ∃ B2 : Nat, s13 = .pointer (some ⟨B2, 0, none⟩) ∧ Hid (wy.heap[B2]? = some (.cells #[.bool yl.kd, .string yl.key, .int .u8 yl.k, .string yl.t] 46 (0, 0))) ∧ Hid (WC.heap.size ≤ B2) ∧ Hid (Below WC.heap.size WC wy))
            case first =>
              have hd0 : ∀ o, Below WC.heap.size WC ((WC.alloc o).drew) := fun o => (below_al (Below.refl _ _)).drew
              have k0 := fun o => blkw (hd0 o) p0
              have k1 := fun o => blkw (hd0 o) rc
              have k2 := fun o => blkw (hd0 o) u0
              have k3 := fun o => blkw (hd0 o) u1
              have k4 := fun o => blkw (hd0 o) u2
              have k5 := fun o => blkw (hd0 o) u3
              go_region_law fail
              all_goals
                go_wp2_with fail
                go_meet
                exact ⟨_, rfl, Lib.hid (heap_alloc_new _ _), Lib.hid (Nat.le_refl _), Lib.hid (below_al ((Below.refl _ _).drew))⟩
            case rest =>
              obtain ⟨B2, rfl, HLB, HB2, HBY⟩ := hcut
              rw [HKD.out] at HLB
              have HMY := Lib.hid ((HMK.out.below HBX.out).below HBY.out)
              have hyy := blk_via HBY.out HYB.out
              have hly := HLB.out
              obtain ⟨y0, y1, y2, y3, -, -, -, -⟩ := vbox4 hyy
              obtain ⟨t0, t1, t2, t3, -, -, -, -⟩ := vbox4 hly
              obtain ⟨m0, m1, m2, m3, g2, g3⟩ := HMY.out.cells
              obtain ⟨s, e, hyi, hsl, hel⟩ := HYI.out
              have hown := fun g hg => (HMK.out.own).lt g hg
              have hown2 := fun g hg => (HMK.out.own2).lt g hg
              have hx1 := HBX.out.size
              have hx2 := HBY.out.size
              have hn1 := HMK.out.len
              have hysl : ys.length ≤ subs.length := by
                have h := congrArg List.length HYS.out
                rw [List.length_map, List.length_take] at h
                omega
              obtain ⟨a', c', W', hrun, v2, v5, hmk2, hbW, hsW', hkp⟩ := HMY.out.push2 y (hyi.blw' HBY.out) (by omega) (by omega) (fun g hg hc => by have := hown g hg; omega) (fun g hg hc => by have := hown2 g hg; omega) (by omega) _ rfl
              obtain ⟨d0, d1, d2, d3, e2, e3⟩ := hmk2.cells
              replace hrun : ∀ (ty : TypeId), (Builtin.append_ #[23, 23] ty #[.slice a1 j c1', .slice (some ⟨wc.heap.size, 0, none⟩) 1 1]).run Try.prog (wc.alloc (.cells #[.int .u8 y.k, .string y.t, .slice y.la y.l.length y.lc, .slice y.ka y.ks.length y.kc] 26)) = .ok (.slice a' (j + 1) c') W' := hrun
              have hlb : (W'.setCell ⟨BV, 2, none⟩ (.slice a' (j + 1) c')).heap[B2]? = some (.cells #[.bool (lb.k == 8), .string yl.key, .int .u8 yl.k, .string yl.t] 46 (0, 0)) := by
                rw [Below.heap_setCell _ _ _ B2 (by show B2 ≠ BV; have := HB2.out; omega), hkp B2 ((Array.getElem?_eq_some_iff.1 hly).1) (fun g hg => by have := hown g hg; have := HB2.out; omega)]
                exact hly
              obtain ⟨n0, n1, n2', n3, -, -, -, -⟩ := vbox4 hlb
              have HMK2 := Lib.hid hmk2
              have HBW' := Lib.hid hbW
              have HYS2 := Lib.hid (show (ys ++ [y]).map AV.v = vals.take (j + 1) by rw [List.map_append, HYS.out, List.take_add_one, HVS.out, List.map_singleton, HYV.out]; rfl)
              have HBN := Lib.hid (show Below BV W1 (W'.setCell ⟨BV, 2, none⟩ (.slice a' (j + 1) c')) from
                ((HBI.out.trans ((HBX.out.mono (by have := HMK.out.lt; omega)).trans (HBY.out.mono (by have := HMK.out.lt; omega)))).trans (hbW.mono (by have := HMK.out.lt; omega))).setCell (p := ⟨BV, 2, none⟩) (Nat.le_refl _) _)
              have HON := Lib.hid (show ∀ q, q < W1.heap.size → q ≠ BV → (W'.setCell ⟨BV, 2, none⟩ (.slice a' (j + 1) c')).heap[q]? = W1.heap[q]? from fun q hq hne => by
                rw [Below.heap_setCell _ _ _ q hne, hbW.block q hq, HBY.out.block q (by omega), HBX.out.block q (by omega)]
                exact HOLD.out q hq hne)
              have e8 : ((lb.k == 8) != (lb.k == 8)) = false := by simp
              clear hyy hly hyi hown hown2 hmk2 hbW hlb hkp hn1 g2 g3
              by_cases h8 : lb.k = 8
              · have e9 : (lb.k == 8) = true := by rw [h8]; rfl
                rw [e9] at t0 n0 e8
                have H8 := Lib.hid h8
                clear h8
                go_upto_region 21 with (at_builtin; refine wl_append (s := .tmp 124) (x := .tmp 126) rfl rfl (hrun _) ?_; clear hrun)
                go_name_world WS hWS
                rw [hWS] at n1 d3 e3 HMK2 HBN HON
                clear hWS n0 n2' n3 d0 d1 d2 e2
                have h8 := H8.out
                clear e9
                obtain ⟨a3, c3, W3, hrun3, v3, v6, hmk3, hb3, -⟩ := HMK2.out.key yl.key (by have := HMK2.out.len2; have h := HKS.out; rw [if_pos h8] at h; have h2 := congrArg List.length h; rw [List.length_map, List.length_take] at h2; omega) _ rfl
                have HMK3 := Lib.hid hmk3
                have HB3 := Lib.hid hb3
                have HKS3 := Lib.hid (show ks ++ [yl.key] = if lb.k = 8 then (subs.take (j + 1)).map (·.key) else [] by rw [if_pos h8, HKS.out, if_pos h8, List.take_add_one, HSS.out, List.map_append, HKY.out]; rfl)
                clear hmk3 hb3 h8
                go_wp2_with (at_builtin; refine wl_append (s := .tmp 132) (x := .tmp 135) rfl rfl (hrun3 _) ?_; clear hrun3)
                have HBE := Lib.hid ((HBN.out.trans (HB3.out.mono (by have := HMK.out.lt; omega))).setCell (p := ⟨BV, 3, none⟩) (Nat.le_refl _) (.slice a3 (n2 + 1) c3))
                have HOE := Lib.hid (show ∀ q, q < W1.heap.size → q ≠ BV → (W3.setCell ⟨BV, 3, none⟩ (.slice a3 (n2 + 1) c3)).heap[q]? = W1.heap[q]? from fun q hq hne => by rw [Below.heap_setCell _ _ _ q hne, HB3.out.block q hq]; exact HON.out q hq hne)
                refine ⟨⟨j + 1, a', c', ys ++ [y], a3, n2 + 1, c3, ks ++ [yl.key], by omega, ?_, HMK3, HYS2, HKS3, HBE, HOE⟩, ?_⟩
                · rw [HMD.out]
                · simp [intOf]
              · have e9 : (lb.k == 8) = false := by simpa using h8
                rw [e9] at t0 n0 e8
                have HKS3 := Lib.hid (show ks = if lb.k = 8 then (subs.take (j + 1)).map (·.key) else [] by rw [if_neg h8, HKS.out, if_neg h8])
                go_wp2_with (at_builtin; refine wl_append (s := .tmp 124) (x := .tmp 126) rfl rfl (hrun _) ?_; clear hrun)
                refine ⟨⟨j + 1, a', c', ys ++ [y], a2, n2, c2', ks, by omega, ?_, HMK2, HYS2, HKS3, HBN, HON⟩, ?_⟩
                · rw [HMD.out]
                · simp [intOf]
        · obtain rfl : j = subs.length := by omega
          have hge0 : ¬ (0 : Int) ≤ (R1.length : Int) - 1 - (subs.length : Int) := by have := HRL.out; omega
          obtain ⟨m0, m1, m2, m3, -, -⟩ := HMK.out.cells
          obtain ⟨r0, r1, r2, r3, z0, z1, z2, z3⟩ := vbox4 HRR.out
          have HMK' := Lib.hid HMK.out
          go_wp2_with fail
          have hn1 := HMK.out.len
          have hn2 := HMK.out.len2
          refine bodyPost_ret (v := .tuple #[.agg #[.int .u8 lb.k, .string lb.t, .slice a1 subs.length c1', .slice a2 n2 c2'], .bool true]) (by simp [results, Try.results34, go_sem, r0, r1, r2, r3]) rfl ⟨⟨lb.k, lb.t, a1, c1', ys, a2, c2', ks⟩, ?_, ?_, ?_, ?_⟩
          · show _ = Ending.returned (.tuple #[.agg #[.int .u8 lb.k, .string lb.t, .slice a1 ys.length c1', .slice a2 ks.length c2'], .bool true])
            rw [← hn1, ← hn2]
          · rw [AV.v_eq, HV.out, HYS.out, HKS.out, List.take_length, List.take_of_length_le (by rw [HVL.out]; exact Nat.le_refl _)]
          · show AV.In (set4 wr BR _ _ _ _) _ _ _
            exact (HMK.out.done HKB.out (Nat.le_of_eq size4.symm) (fun q hq1 _ => old4 (by omega))).widen (by omega) (Nat.le_refl _)
          · show Below _ _ (set4 wr BR _ _ _ _)
            exact below4 HWR.out (by omega)
end Go.Proofs.Ytmhkacafilpliaa
