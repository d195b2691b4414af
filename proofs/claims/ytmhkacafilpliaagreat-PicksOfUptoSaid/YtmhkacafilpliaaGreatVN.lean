/-
  The law's other: a value of which one node is another one. Conditions: the tree lies in memory below the counter, its weight is bounded.
-/
import Derived.Test.YtmhkacafilpliaaGreatVM
import Derived.Deep.DeepCutAuto
namespace Go.Proofs.YtmhkacafilpliaaGreat
open Go.RowKit Go.Sort

/-- The tree lies below p, or its own slices lie in blocks from s up to e, and so on. -/
inductive AV.Lies (w : World) (p s e : Nat) : AV → Prop
  | old {y : AV} (h : y.In w 0 p) : AV.Lies w p s e y
  | new {y : AV} (h1 : SlE AV.enc 4 w s e y.la y.l) (h2 : SlE strE 1 w s e y.ka y.ks) (h3 : 0 ≤ y.k ∧ y.k ≤ 255) (h4 : ∀ z ∈ y.l, AV.Lies w p s e z) : AV.Lies w p s e y
theorem AV.Lies.kept {w w' : World} {p s e s' e' : Nat} (hs : w.heap.size ≤ w'.heap.size) (h1 : s' ≤ s) (h2 : e ≤ e') (hk : ∀ k, (k < p ∨ s ≤ k ∧ k < e) → k < w.heap.size → w'.heap[k]? = w.heap[k]?) {y : AV} (h : y.Lies w p s e) : y.Lies w' p s' e' := by
  induction h with
  | old h => exact .old (h.kept hs fun k _ hp hl => hk k (.inl hp) hl)
  | new g1 g2 g3 _ ih => exact .new ((g1.keep hs fun k a b c => hk k (.inr ⟨a, b⟩) c).widen h1 h2) ((g2.keep hs fun k a b c => hk k (.inr ⟨a, b⟩) c).widen h1 h2) g3 ih
theorem AV.Lies.rd {w : World} {p s e : Nat} {y : AV} (h : y.Lies w p s e) : Rd w y := by
  induction h with
  | old h => exact h.clamp
  | new g1 g2 g3 _ ih => exact ⟨(g1.clamp).widen (Nat.zero_le _) (Nat.le_refl _), (g2.clamp).widen (Nat.zero_le _) (Nat.le_refl _), g3, ih⟩

def OtherPost (v : Val) (p n : Nat) (w : World) (e : Ending) (w' : World) : Prop := ∃ (o : AV) (d : Bool) (n' : Nat), e = .returned (.tuple #[o.val, .bool d]) ∧ (d = true → Chg v o.v ∧ o.Lies w' p w.heap.size w'.heap.size) ∧ w'.cell? ⟨p, 0, none⟩ = some (.int .i64 n') ∧ w'.frozen? ⟨p, 0, none⟩ = false ∧ n' ≤ n ∧ w.grownBy w' (some p)

theorem grown_trans {w w1 w2 : World} {r : Option Nat} (h1 : w.grownBy w1 r) (h2 : w1.grownBy w2 r) : w.grownBy w2 r :=
  ⟨h2.os.trans h1.os, h2.tape.trans h1.tape, h2.output.trans h1.output, Nat.le_trans h1.size h2.size, fun k hk hne => (h2.block k (Nat.lt_of_lt_of_le hk h1.size) hne).trans (h1.block k hk hne)⟩
theorem grown_below {w w1 : World} {r : Option Nat} (hb : Below w.heap.size w w1) : w.grownBy w1 r := ⟨hb.os, hb.tape, hb.output, hb.size, fun k hk _ => hb.block k hk⟩
theorem AV.In.grow {w w' : World} {p : Nat} {y : AV} (h : y.In w 0 p) (hg : w.grownBy w' (some p)) : y.In w' 0 p := h.kept hg.size fun k _ hk h2 => hg.block k h2 (fun e => by injection e with e; omega)

/-- Four cells are stored. -/
def put4 (w : World) (B o : Nat) (a b c d : Value) : World := (((w.setCell ⟨B, o, none⟩ a).setCell ⟨B, o + 1, none⟩ b).setCell ⟨B, o + 2, none⟩ c).setCell ⟨B, o + 3, none⟩ d
theorem put4_size {w : World} {B o : Nat} {a b c d : Value} : (put4 w B o a b c d).heap.size = w.heap.size := by simp [put4]
theorem put4_old {w : World} {B o : Nat} {a b c d : Value} {q : Nat} (h : q ≠ B) : (put4 w B o a b c d).heap[q]? = w.heap[q]? := by
  unfold put4
  rw [Below.heap_setCell _ _ _ q h, Below.heap_setCell _ _ _ q h, Below.heap_setCell _ _ _ q h, Below.heap_setCell _ _ _ q h]
theorem put4_grown {w : World} {B o : Nat} {a b c d : Value} : w.grownBy (put4 w B o a b c d) (some B) :=
  ⟨rfl, rfl, rfl, by rw [put4_size]; exact Nat.le_refl _, fun k _ hne => put4_old (fun e => hne (by rw [e]))⟩
theorem put4_cell {w : World} {B o : Nat} {a b c d : Value} (h : ∀ j, j < 4 → ∃ u, w.cell? ⟨B, o + j, none⟩ = some u) (q : Nat) :
    (put4 w B o a b c d).cell? ⟨B, q, none⟩ = if q = o + 3 then some d else if q = o + 2 then some c else if q = o + 1 then some b else if q = o then some a else w.cell? ⟨B, q, none⟩ := by
  obtain ⟨u0, h0⟩ := h 0 (by omega)
  obtain ⟨u1, h1⟩ := h 1 (by omega)
  obtain ⟨u2, h2⟩ := h 2 (by omega)
  obtain ⟨u3, h3⟩ := h 3 (by omega)
  have e0 := cell1 (v := a) h0
  have h1' : (w.setCell ⟨B, o, none⟩ a).cell? ⟨B, o + 1, none⟩ = some u1 := by rw [show (⟨B, o, none⟩ : Addr) = ⟨B, o + 0, none⟩ from rfl, e0, if_neg (by omega)]; exact h1
  have e1 := cell1 (v := b) h1'
  have h2' : ((w.setCell ⟨B, o, none⟩ a).setCell ⟨B, o + 1, none⟩ b).cell? ⟨B, o + 2, none⟩ = some u2 := by rw [e1, if_neg (by omega)]; refine (e0 _).trans ?_; rw [if_neg (by omega)]; exact h2
  have e2 := cell1 (v := c) h2'
  have h3' : (((w.setCell ⟨B, o, none⟩ a).setCell ⟨B, o + 1, none⟩ b).setCell ⟨B, o + 2, none⟩ c).cell? ⟨B, o + 3, none⟩ = some u3 := by rw [e2, if_neg (by omega), e1, if_neg (by omega)]; refine (e0 _).trans ?_; rw [if_neg (by omega)]; exact h3
  unfold put4
  rw [cell1 h3', e2, e1]
  have := e0 q
  rw [Nat.add_zero] at this
  rw [this]

theorem put4_box {w : World} {B : Nat} {a b c d x0 x1 x2 x3 : Value} {T : TypeId} (h : w.heap[B]? = some (.cells #[x0, x1, x2, x3] T (0, 0))) : (put4 w B 0 a b c d).heap[B]? = some (.cells #[a, b, c, d] T (0, 0)) := by
  unfold put4
  rw [set_blk (set_blk (set_blk (set_blk h _ _) _ _) _ _) _ _]
  rfl
/-- A row of values: one element is stored over. -/
theorem OwnV.put {w : World} {base g c : Nat} {n : Nat} {l : List AV} (h : OwnV w base (.slice (some ⟨g, 0, none⟩) n c) l) (hn : n = l.length) {m : Nat} (hm : m < l.length) (z : AV) :
    SlE AV.enc 4 (put4 w g (m * 4) (.int .u8 z.k) (.string z.t) (.slice z.la z.l.length z.lc) (.slice z.ka z.ks.length z.kc)) base w.heap.size (some ⟨g, 0, none⟩) (l.set m z) := by
  subst hn
  have hsl := own_sl AV.enc_len h
  intro hl
  obtain ⟨b, off, e, g1, g2, g3, g4⟩ := hsl (by simpa using hl)
  injection e with e; injection e with e1 e2
  subst e1; subst e2
  have hm4 : ∀ j, j < 4 → ∃ u, w.cell? ⟨g, m * 4 + j, none⟩ = some u := fun j hj => by
    have := g4 m l[m] (List.getElem?_eq_getElem hm) j (l[m].enc[j]'hj) (List.getElem?_eq_getElem hj)
    rw [Nat.zero_add] at this
    exact ⟨_, this⟩
  refine ⟨g, 0, rfl, g1, g2, by rw [put4_size]; exact g3, fun i y hy j u hu => ?_⟩
  have hj : j < 4 := (List.getElem?_eq_some_iff.1 hu).1
  rw [Nat.zero_add, put4_cell hm4]
  by_cases him : i = m
  · subst him
    rw [List.getElem?_set_self hm] at hy
    injection hy with hy
    subst hy
    match j, hj with
    | 0, _ => simp [AV.enc] at hu; simp [hu]
    | 1, _ => simp [AV.enc] at hu; simp [hu]
    | 2, _ => simp [AV.enc] at hu; simp [hu]
    | 3, _ => simp [AV.enc] at hu; simp [hu]
  · rw [List.getElem?_set_ne (by omega)] at hy
    rw [if_neg (by omega), if_neg (by omega), if_neg (by omega), if_neg (by omega)]
    have := g4 i y hy j u hu
    rwa [Nat.zero_add] at this

/-- A copy of a list of values, of a list of texts. -/
theorem copy_val {w : World} {lo hi : Nat} {A : Option Addr} {m : List AV} {cm : Nat} (hr : SlE AV.enc 4 w lo hi A m) (hm : m.length ≤ 16777216) :
    ∃ a' c' W', (∀ ty, (Builtin.append_ #[23, 23] ty #[.slice none 0 0, .slice A m.length cm]).run Tryz.prog w = .ok (.slice a' m.length c') W') ∧ OwnV W' w.heap.size (.slice a' m.length c') m ∧ Below w.heap.size w W' := by
  obtain ⟨v', W', hrun, hown, hgr, -⟩ := app_val (c := cm) (base := w.heap.size) (l := []) (v := .slice none 0 0) (World.ownsRow_nil _ _ _ _) hr (by simpa using hm) (Nat.le_refl _)
  rw [List.nil_append] at hown
  obtain ⟨a', c', rfl⟩ : ∃ a' c', v' = .slice a' m.length c' := by
    rcases hown.2 with ⟨e, h0⟩ | ⟨g, cap, cur, e, _⟩
    · exact ⟨none, 0, by rw [e, h0]⟩
    · exact ⟨_, _, e⟩
  exact ⟨a', c', W', hrun, hown, (Below.refl _ _).grown hgr (Nat.le_refl _) (fun g hg => by simp [Value.ownBlock] at hg)⟩
theorem copy_str {w : World} {lo hi : Nat} {A : Option Addr} {m : List ByteArray} {cm : Nat} (hr : SlE strE 1 w lo hi A m) (hm : m.length ≤ 16777216) :
    ∃ a' c' W', (∀ ty, (Builtin.append_ #[24, 24] ty #[.slice none 0 0, .slice A m.length cm]).run Tryz.prog w = .ok (.slice a' m.length c') W') ∧ OwnS W' w.heap.size (.slice a' m.length c') m ∧ Below w.heap.size w W' := by
  obtain ⟨v', W', hrun, hown, hgr, -⟩ := app_str (c := cm) (base := w.heap.size) (l := []) (v := .slice none 0 0) (World.ownsRow_nil _ _ _ _) hr (by simpa using hm) (Nat.le_refl _)
  rw [List.nil_append] at hown
  obtain ⟨a', c', rfl⟩ : ∃ a' c', v' = .slice a' m.length c' := by
    rcases hown.2 with ⟨e, h0⟩ | ⟨g, cap, cur, e, _⟩
    · exact ⟨none, 0, by rw [e, h0]⟩
    · exact ⟨_, _, e⟩
  exact ⟨a', c', W', hrun, hown, (Below.refl _ _).grown hgr (Nat.le_refl _) (fun g hg => by simp [Value.ownBlock] at hg)⟩

theorem s_alloc0 {N : Nat} {W2 : World} (hN : N ≤ W2.heap.size) (o : Obj) : (∀ b o', b < N → ((W2.alloc o).drew).cell? ⟨b, o', none⟩ = W2.cell? ⟨b, o', none⟩) ∧ Below N W2 ((W2.alloc o).drew) := by
  have hb : Below N W2 ((W2.alloc o).drew) := ((Below.refl _ _).alloc hN _).drew
  exact ⟨fun b o' hlt => hb.cell (p := ⟨b, o', none⟩) hlt, hb⟩
theorem s_put4 {N : Nat} {W2 w' : World} (_hN : N ≤ W2.heap.size) {B : Nat} {a b c d : Value} (h : (∀ b o, b < N → w'.cell? ⟨b, o, none⟩ = W2.cell? ⟨b, o, none⟩) ∧ Below N W2 w') (hB : N ≤ B) :
    (∀ b' o', b' < N → ((((w'.setCell ⟨B, 0, none⟩ a).setCell ⟨B, 1, none⟩ b).setCell ⟨B, 2, none⟩ c).setCell ⟨B, 3, none⟩ d).cell? ⟨b', o', none⟩ = W2.cell? ⟨b', o', none⟩) ∧ Below N W2 ((((w'.setCell ⟨B, 0, none⟩ a).setCell ⟨B, 1, none⟩ b).setCell ⟨B, 2, none⟩ c).setCell ⟨B, 3, none⟩ d) := by
  have hb := below4 (a := a) (b := b) (c := c) (d := d) h.2 hB
  exact ⟨fun b' o' hlt => hb.cell (p := ⟨b', o', none⟩) hlt, hb⟩

/-- A copy, as a step of a region that draws its order: what lies below N stays. -/
theorem st_copy_str {ops : Array Oper} {o : Oper} {a : Act} {K : Act → World → Prop} {Q : Exit → Act → World → Prop} {E : Prop} {W5 cur : World} {N : Nat} (_hN : N ≤ W5.heap.size) {lo hi : Nat} {A : Option Addr} {m : List ByteArray} {cm : Nat}
    (hS : (∀ b o, b < N → cur.cell? ⟨b, o, none⟩ = W5.cell? ⟨b, o, none⟩) ∧ Below N W5 cur) (hr : SlE strE 1 W5 lo hi A m) (hhi : hi ≤ N) (hm : m.length ≤ 16777216)
    (hgd : o.guard = none) {x : Operand} (ho : o.op = .call { callee := .builtin .append, args := #[.const (.slice none 0 0), x], argTypes := #[24, 24] }) (hx : a.eval x = .slice A m.length cm)
    (h : ∀ a' c' W', OwnS W' cur.heap.size (.slice a' m.length c') m → Below cur.heap.size cur W' → K (a.put o.dst (.slice a' m.length c')) W') : if Region.wanted o (yielded ops a.tmps) = true then Oper.wp Tryz.prog o a cur K Q else E := by
  obtain ⟨a', c', W', hrun, h1, h2⟩ := copy_str (cm := cm) (hr.below hS.2 hhi) hm
  exact st_append (s := .const (.slice none 0 0)) (x := x) hgd ho (by rw [hx]; exact hrun _) (h a' c' W' h1 h2)
theorem st_copy_val {ops : Array Oper} {o : Oper} {a : Act} {K : Act → World → Prop} {Q : Exit → Act → World → Prop} {E : Prop} {W5 cur : World} {N : Nat} (_hN : N ≤ W5.heap.size) {lo hi : Nat} {A : Option Addr} {m : List AV} {cm : Nat}
    (hS : (∀ b o, b < N → cur.cell? ⟨b, o, none⟩ = W5.cell? ⟨b, o, none⟩) ∧ Below N W5 cur) (hr : SlE AV.enc 4 W5 lo hi A m) (hhi : hi ≤ N) (hm : m.length ≤ 16777216)
    (hgd : o.guard = none) {x : Operand} (ho : o.op = .call { callee := .builtin .append, args := #[.const (.slice none 0 0), x], argTypes := #[23, 23] }) (hx : a.eval x = .slice A m.length cm)
    (h : ∀ a' c' W', OwnV W' cur.heap.size (.slice a' m.length c') m → Below cur.heap.size cur W' → K (a.put o.dst (.slice a' m.length c')) W') : if Region.wanted o (yielded ops a.tmps) = true then Oper.wp Tryz.prog o a cur K Q else E := by
  obtain ⟨a', c', W', hrun, h1, h2⟩ := copy_val (cm := cm) (hr.below hS.2 hhi) hm
  exact st_append (s := .const (.slice none 0 0)) (x := x) hgd ho (by rw [hx]; exact hrun _) (h a' c' W' h1 h2)

/-- What the first part of other leaves: a copy of the value, whose list and keys are rows of the call's own. -/
structure Cop (W : World) (N g : Nat) (k : Int) (t : ByteArray) (a : Option Addr) (c : Nat) (l : List AV) (a2 : Option Addr) (c2 : Nat) (ks : List ByteArray) : Prop where
  big : N ≤ g
  lt : g < W.heap.size
  box : W.heap[g]? = some (.cells #[.int .u8 k, .string t, .slice a l.length c, .slice a2 ks.length c2] 26 (0, 0))
  own : OwnV W N (.slice a l.length c) l
  own2 : OwnS W N (.slice a2 ks.length c2) ks
  ne : ∀ q, (Value.slice a l.length c).ownBlock = some q → q ≠ g ∧ (Value.slice a2 ks.length c2).ownBlock ≠ some q
  ne2 : ∀ q, (Value.slice a2 ks.length c2).ownBlock = some q → q ≠ g

theorem Cop.of {Wf Ws Wv : World} {N g bs bv : Nat} {k : Int} {t : ByteArray} {a : Option Addr} {c : Nat} {l : List AV} {a2 : Option Addr} {c2 : Nat} {ks : List ByteArray} (hos : OwnS Ws bs (.slice a2 ks.length c2) ks) (hov : OwnV Wv bv (.slice a l.length c) l)
    (hbox : Wf.heap[g]? = some (.cells #[.int .u8 k, .string t, .slice a l.length c, .slice a2 ks.length c2] 26 (0, 0)))
    (h1 : ∀ q, q ≠ g → q < Ws.heap.size → Wf.heap[q]? = Ws.heap[q]?) (h2 : ∀ q, q ≠ g → q < Wv.heap.size → Wf.heap[q]? = Wv.heap[q]?) (z1 : Ws.heap.size ≤ Wf.heap.size) (z2 : Wv.heap.size ≤ Wf.heap.size) (hs : Wf.os = Ws.os ∧ Wf.tape = Ws.tape ∧ Wf.output = Ws.output) (hs2 : Wf.os = Wv.os ∧ Wf.tape = Wv.tape ∧ Wf.output = Wv.output)
    (n1 : N ≤ bs) (n2 : N ≤ bv) (n3 : N ≤ g) (hd : Ws.heap.size ≤ bv ∨ Wv.heap.size ≤ bs) (hgs : g < bs ∨ Ws.heap.size ≤ g) (hgv : g < bv ∨ Wv.heap.size ≤ g) : Cop Wf N g k t a c l a2 c2 ks := by
  have b1 : ∀ q, (Value.slice a2 ks.length c2).ownBlock = some q → bs ≤ q ∧ q < Ws.heap.size := hos.lt
  have b2 : ∀ q, (Value.slice a l.length c).ownBlock = some q → bv ≤ q ∧ q < Wv.heap.size := hov.lt
  refine ⟨n3, ?_, hbox, ?_, ?_, fun q hq => ⟨fun e => ?_, fun e => ?_⟩, fun q hq e => ?_⟩
  · rcases Nat.lt_or_ge g Wf.heap.size with h | h
    · exact h
    · rw [Array.getElem?_eq_none h] at hbox; cases hbox
  · have := World.ownsRow.kept (row := some g) (w' := Wf) hov ⟨hs2.1, hs2.2.1, hs2.2.2, z2, fun q hq hne => h2 q (fun e => hne (by rw [e])) hq⟩ (by
      cases hq : (Value.slice a l.length c).ownBlock with
      | none => exact .inl rfl
      | some q => exact .inr fun e => by injection e with e; have := b2 q hq; omega)
    exact ⟨this.1, this.2.imp id fun ⟨g', cap, cur, e1, e2, e3⟩ => ⟨g', cap, cur, e1, by omega, e3⟩⟩
  · have := World.ownsRow.kept (row := some g) (w' := Wf) hos ⟨hs.1, hs.2.1, hs.2.2, z1, fun q hq hne => h1 q (fun e => hne (by rw [e])) hq⟩ (by
      cases hq : (Value.slice a2 ks.length c2).ownBlock with
      | none => exact .inl rfl
      | some q => exact .inr fun e => by injection e with e; have := b1 q hq; omega)
    exact ⟨this.1, this.2.imp id fun ⟨g', cap, cur, e1, e2, e3⟩ => ⟨g', cap, cur, e1, by omega, e3⟩⟩
  · have := b2 q hq; omega
  · have := b2 q hq; have := b1 q e; omega
  · have := b1 q hq; omega

theorem frz_of_block {w w' : World} {a : Addr} (h : w'.heap[a.block]? = w.heap[a.block]?) : w'.frozen? a = w.frozen? a := by simp [World.frozen?, h]

/-- What is left when a part was another one. -/
theorem other_end {x y z : AV} {p n nn n2 m : Nat} {w wr w7 W9 : World} {gl c c2 : Nat} {a2 : Option Addr} (hx : x.In w 0 p) (hk : x.l[m]? = some y) (hch : Chg y.v z.v) (hz : z.Lies w7 p wr.heap.size w7.heap.size) (hkd : 0 ≤ x.k ∧ x.k ≤ 255) (hp : p < w.heap.size)
    (hcp : w7.cell? ⟨p, 0, none⟩ = some (.int .i64 n2)) (hcf : w7.frozen? ⟨p, 0, none⟩ = false) (hn1 : n2 ≤ nn) (hn2 : nn ≤ n) (hgw : w.grownBy wr (some p)) (hg7 : wr.grownBy w7 (some p)) (hb9 : ∀ q, q ≠ gl → q < w7.heap.size → W9.heap[q]? = w7.heap[q]?)
    (hl9 : SlE AV.enc 4 W9 (w.heap.size + 1 + 1) W9.heap.size (some ⟨gl, 0, none⟩) (x.l.set m z)) (hk9 : SlE strE 1 W9 (w.heap.size + 1 + 1) W9.heap.size a2 x.ks) (hob : W9.os = w7.os ∧ W9.tape = w7.tape ∧ W9.output = w7.output) (hs9 : w7.heap.size ≤ W9.heap.size)
    (hgl : w.heap.size + 1 + 1 ≤ gl) (hgl2 : gl < wr.heap.size) (hws : w.heap.size + 1 < wr.heap.size) {v0 v1 v2 v3 : Value} :
    OtherPost x.v p n w (.returned (.tuple #[.agg #[.int .u8 x.k, .string x.t, .slice (some ⟨gl, 0, none⟩) x.l.length c, .slice a2 x.ks.length c2], .bool true])) (set4 W9 (w.heap.size + 1) v0 v1 v2 v3) := by
  have h7 := hg7.size
  have ho : ∀ q, q ≠ gl → q ≠ w.heap.size + 1 → q < w7.heap.size → (set4 W9 (w.heap.size + 1) v0 v1 v2 v3).heap[q]? = w7.heap[q]? := fun q h1 h2 h3 => (old4 h2).trans (hb9 q h1 h3)
  have hsz : (set4 W9 (w.heap.size + 1) v0 v1 v2 v3).heap.size = W9.heap.size := size4
  have hl := (hl9.keep (w' := set4 W9 (w.heap.size + 1) v0 v1 v2 v3) (by rw [hsz]; exact Nat.le_refl _) fun q h1 h2 h3 => old4 (by omega)).widen (lo' := w.heap.size) (hi' := W9.heap.size) (by omega) (Nat.le_refl _)
  have hks := (hk9.keep (w' := set4 W9 (w.heap.size + 1) v0 v1 v2 v3) (by rw [hsz]; exact Nat.le_refl _) fun q h1 h2 h3 => old4 (by omega)).widen (lo' := w.heap.size) (hi' := W9.heap.size) (by omega) (Nat.le_refl _)
  have hos : (set4 W9 (w.heap.size + 1) v0 v1 v2 v3).os = W9.os ∧ (set4 W9 (w.heap.size + 1) v0 v1 v2 v3).tape = W9.tape ∧ (set4 W9 (w.heap.size + 1) v0 v1 v2 v3).output = W9.output := ⟨rfl, rfl, rfl⟩
  generalize set4 W9 (w.heap.size + 1) v0 v1 v2 v3 = Wf at *
  rw [← hsz] at hl hks
  refine ⟨⟨x.k, x.t, some ⟨gl, 0, none⟩, c, x.l.set m z, a2, c2, x.ks⟩, true, n2, ?_, fun _ => ⟨?_, ?_⟩, ?_, ?_, by omega, ?_⟩
  · show _ = Ending.returned (.tuple #[.agg #[.int .u8 x.k, .string x.t, .slice (some ⟨gl, 0, none⟩) (x.l.set m z).length c, .slice a2 x.ks.length c2], .bool true])
    rw [List.length_set]
  · have := Chg.kid (v := x.v) m (y := y.v) (z := z.v) (by rw [AV.v_l, List.getElem?_map, hk]; rfl) hch
    rw [AV.v_k, AV.v_t, AV.v_l, AV.v_ks, ← List.map_set] at this
    rw [AV.v_eq ⟨x.k, x.t, some ⟨gl, 0, none⟩, c, x.l.set m z, a2, c2, x.ks⟩]
    exact this
  · refine .new hl hks hkd fun y' hy' => ?_
    rcases List.mem_or_eq_of_mem_set hy' with h | rfl
    · exact .old ((((hx.grow hgw).grow hg7).kept (by rw [hsz]; omega) fun q h1 h2 h3 => ho q (by omega) (by omega) h3).kid h)
    · exact hz.kept (by rw [hsz]; omega) (by have := hgw.size; omega) (by rw [hsz]; omega) fun q h1 h2 => ho q (by omega) (by omega) h2
  · exact (World.cell?_of_block (w := w7) (w' := Wf) (a := ⟨p, 0, none⟩) (ho p (by omega) (by omega) (by have := hgw.size; omega))).trans hcp
  · exact (frz_of_block (w := w7) (w' := Wf) (a := ⟨p, 0, none⟩) (ho p (by omega) (by omega) (by have := hgw.size; omega))).trans hcf
  · exact ⟨(hos.1.trans hob.1).trans (hg7.os.trans hgw.os), (hos.2.1.trans hob.2.1).trans (hg7.tape.trans hgw.tape), (hos.2.2.trans hob.2.2).trans (hg7.output.trans hgw.output), by rw [hsz]; have := hgw.size; omega,
      fun q hq hne => (ho q (by omega) (by omega) (by have := hgw.size; omega)).trans ((hg7.block q (by have := hgw.size; omega) hne).trans (hgw.block q hq hne))⟩

/-- What is left when there was no such node. -/
theorem other_none {x : AV} {p n nn : Nat} {w wr : World} {a a2 : Option Addr} {c c2 : Nat} (hp : p < w.heap.size) (hcp : wr.cell? ⟨p, 0, none⟩ = some (.int .i64 nn)) (hcf : wr.frozen? ⟨p, 0, none⟩ = false) (hn2 : nn ≤ n) (hgw : w.grownBy wr (some p)) {v0 v1 v2 v3 : Value} :
    OtherPost x.v p n w (.returned (.tuple #[.agg #[.int .u8 x.k, .string x.t, .slice a x.l.length c, .slice a2 x.ks.length c2], .bool false])) (set4 wr (w.heap.size + 1) v0 v1 v2 v3) := by
  have ho : ∀ q, q ≠ w.heap.size + 1 → (set4 wr (w.heap.size + 1) v0 v1 v2 v3).heap[q]? = wr.heap[q]? := fun q h => old4 h
  have hsz : (set4 wr (w.heap.size + 1) v0 v1 v2 v3).heap.size = wr.heap.size := size4
  have hos : (set4 wr (w.heap.size + 1) v0 v1 v2 v3).os = wr.os ∧ (set4 wr (w.heap.size + 1) v0 v1 v2 v3).tape = wr.tape ∧ (set4 wr (w.heap.size + 1) v0 v1 v2 v3).output = wr.output := ⟨rfl, rfl, rfl⟩
  generalize set4 wr (w.heap.size + 1) v0 v1 v2 v3 = Wf at *
  refine ⟨⟨x.k, x.t, a, c, x.l, a2, c2, x.ks⟩, false, nn, rfl, (fun h => by cases h), ?_, ?_, hn2, ?_⟩
  · exact (World.cell?_of_block (w := wr) (w' := Wf) (a := ⟨p, 0, none⟩) (ho p (by omega))).trans hcp
  · exact (frz_of_block (w := wr) (w' := Wf) (a := ⟨p, 0, none⟩) (ho p (by omega))).trans hcf
  · exact ⟨hos.1.trans hgw.os, hos.2.1.trans hgw.tape, hos.2.2.trans hgw.output, by rw [hsz]; exact hgw.size, fun q hq hne => (ho q (by omega)).trans (hgw.block q hq hne)⟩

end Go.Proofs.YtmhkacafilpliaaGreat
