/-
  A copy of a value (Cop) in later worlds: a part more, a key more; a copy that is joined of two pieces. Plain lemmas; no condition.
-/
import Derived.Test.YtdapimjhjnbfdaaDoorVR
namespace Go.Proofs.YtdapimjhjnbfdaaDoor
open Go.RowKit Go.Sort

section
variable {w w' : World} {N g : Nat} {k : Int} {t : ByteArray} {a a2 : Option Addr} {c c2 : Nat} {l : List AV} {ks : List ByteArray}
theorem Cop.below (h : Cop w N g k t a c l a2 c2 ks) (hb : Below w.heap.size w w') : Cop w' N g k t a c l a2 c2 ks where
  big := h.big
  lt := Nat.lt_of_lt_of_le h.lt hb.size
  box := (hb.block g h.lt).trans h.box
  own := own_below h.own hb
  own2 := own_below h.own2 hb
  ne := h.ne
  ne2 := h.ne2
theorem Cop.cells (h : Cop w N g k t a c l a2 c2 ks) : w.cell? ⟨g, 0, none⟩ = some (.int .u8 k) ∧ w.cell? ⟨g, 1, none⟩ = some (.string t) ∧ w.cell? ⟨g, 2, none⟩ = some (.slice a l.length c) ∧ w.cell? ⟨g, 3, none⟩ = some (.slice a2 ks.length c2) ∧
    w.frozen? ⟨g, 2, none⟩ = false ∧ w.frozen? ⟨g, 3, none⟩ = false := by
  obtain ⟨h0, h1, h2, h3, -, -, h6, h7⟩ := vbox4 h.box
  exact ⟨h0, h1, h2, h3, h6, h7⟩
/-- The copy reads as a value, if its parts do. -/
theorem Cop.rd (h : Cop w N g k t a c l a2 c2 ks) (hk : 0 ≤ k ∧ k ≤ 255) (hl : ∀ y ∈ l, Rd w y) : Rd w ⟨k, t, a, c, l, a2, c2, ks⟩ :=
  ⟨(own_sl AV.enc_len h.own).widen (Nat.zero_le _) (Nat.le_refl _), (own_sl (enc := strE) (size := 1) (fun _ => rfl) h.own2).widen (Nat.zero_le _) (Nat.le_refl _), hk, hl⟩
/-- One key more. -/
theorem Cop.key (h : Cop w N g k t a c l a2 c2 ks) (y : ByteArray) (l' : List ByteArray) (hl' : l' = ks ++ [y]) (hn : ks.length < 16777216) (hN : N ≤ w.heap.size) (W : World) (hW : W = w.alloc (.cells #[.string y] 9)) :
    ∃ a' c' W', (∀ ty, (Builtin.append_ #[39, 39] ty #[.slice a2 ks.length c2, .slice (some ⟨w.heap.size, 0, none⟩) 1 1]).run Tryd.prog W = .ok (.slice a' l'.length c') W') ∧
      W'.cell? ⟨g, 3, none⟩ = some (.slice a2 ks.length c2) ∧ W'.frozen? ⟨g, 3, none⟩ = false ∧ Cop (W'.setCell ⟨g, 3, none⟩ (.slice a' l'.length c')) N g k t a c l a' c' l' ∧ Below N w W' ∧ w.heap.size ≤ W'.heap.size := by
  subst hW
  have hb1 : Below w.heap.size w (w.alloc (.cells #[.string y] 9)) := (Below.refl _ _).alloc (Nat.le_refl _) _
  have hm := h.below hb1
  have hlit : SlE strE 1 (w.alloc (.cells #[.string y] 9)) w.heap.size (w.heap.size + 1) (some ⟨w.heap.size, 0, none⟩) [y] := lit_sl (enc := strE) (size := 1) (l := [y]) (t := 9) (fr := (0, 0)) (fun _ => rfl) (heap_alloc_new _ _)
  obtain ⟨v', W', hrun, hown, hgr, hat⟩ := app_str (c := 1) hm.own2 hlit (by simp; omega) (by simp; omega)
  rw [← hl'] at hown
  obtain ⟨g', c', hv, hg1, hg2⟩ := hown.form (by rw [hl']; simp)
  subst hv
  have hgl : ∀ q, (Value.slice a l.length c).ownBlock = some q → N ≤ q ∧ q < w.heap.size := h.own.lt
  have hgl2 : ∀ q, (Value.slice a2 ks.length c2).ownBlock = some q → N ≤ q ∧ q < w.heap.size := h.own2.lt
  have hlt := h.lt
  have hg' : g' = w.heap.size + 1 ∨ (Value.slice a2 ks.length c2).ownBlock = some g' := by
    simp only [Value.ownBlock] at hat
    rcases hat with e | e
    · exact .inr e.symm
    · injection e with e; exact .inl (by rw [e]; simp)
  have hne' : g' ≠ g := by
    rcases hg' with e | e
    · omega
    · exact h.ne2 _ e
  have hss := hgr.size
  rw [World.size_alloc] at hss
  have hbox : W'.heap[g]? = _ := (hgr.block g (by simp; omega) (fun e => h.ne2 _ e.symm rfl)).trans ((heap_alloc_old _ _ _ hlt).trans h.box)
  have hSz : (W'.setCell ⟨g, 3, none⟩ (.slice (some ⟨g', 0, none⟩) l'.length c')).heap.size = W'.heap.size := by simp
  have hgs : W'.grownBy (W'.setCell ⟨g, 3, none⟩ (.slice (some ⟨g', 0, none⟩) l'.length c')) (some g) :=
    ⟨rfl, rfl, rfl, by rw [hSz]; exact Nat.le_refl _, fun q _ hq => Below.heap_setCell W' _ _ q (fun e => hq (by rw [e]))⟩
  refine ⟨some ⟨g', 0, none⟩, c', W', hrun, by simp [World.cell?, hbox], by simp [World.frozen?, hbox], ⟨h.big, by rw [hSz]; omega, by rw [set_blk hbox]; rfl, ?_, ?_, fun q hq => ⟨(h.ne q hq).1, ?_⟩, ?_⟩, (hb1.mono hN).grown hgr (by simp; omega) (fun q hq => (hgl2 q hq).1), by omega⟩
  · refine World.ownsRow.kept (row := some g) (World.ownsRow.kept hm.own hgr ?_) hgs ?_
    · cases hq : (Value.slice a l.length c).ownBlock with
      | none => exact .inl rfl
      | some q => exact .inr fun e => (h.ne q hq).2 e.symm
    · cases hq : (Value.slice a l.length c).ownBlock with
      | none => exact .inl rfl
      | some q => exact .inr fun e => by injection e with e; exact (h.ne q hq).1 e
  · refine World.ownsRow.kept (row := some g) hown hgs (.inr ?_)
    simp only [Value.ownBlock]
    intro e; injection e with e; exact hne' e
  · simp only [Value.ownBlock]
    intro e; injection e with e
    rcases hg' with e1 | e1
    · have := hgl q hq; omega
    · exact (h.ne q hq).2 (by rw [← e]; exact e1)
  · intro q hq
    simp only [Value.ownBlock] at hq
    injection hq with hq
    rw [← hq]; exact hne'
/-- One part more. -/
theorem Cop.push (h : Cop w N g k t a c l a2 c2 ks) (y : AV) (l' : List AV) (hl' : l' = l ++ [y]) (hn : l.length < 16777216) (hN : N ≤ w.heap.size) (W : World) (hW : W = w.alloc (.cells y.enc.toArray 41)) :
    ∃ a' c' W', (∀ ty, (Builtin.append_ #[38, 38] ty #[.slice a l.length c, .slice (some ⟨w.heap.size, 0, none⟩) 1 1]).run Tryd.prog W = .ok (.slice a' l'.length c') W') ∧
      W'.cell? ⟨g, 2, none⟩ = some (.slice a l.length c) ∧ W'.frozen? ⟨g, 2, none⟩ = false ∧ Cop (W'.setCell ⟨g, 2, none⟩ (.slice a' l'.length c')) N g k t a' c' l' a2 c2 ks ∧ Below N w W' ∧ w.heap.size ≤ W'.heap.size := by
  subst hW
  have hb1 : Below w.heap.size w (w.alloc (.cells y.enc.toArray 41)) := (Below.refl _ _).alloc (Nat.le_refl _) _
  have hm := h.below hb1
  have hlit : SlE AV.enc 4 (w.alloc (.cells y.enc.toArray 41)) w.heap.size (w.heap.size + 1) (some ⟨w.heap.size, 0, none⟩) [y] := lit_sl (t := 41) (fr := (0, 0)) AV.enc_len (by rw [heap_alloc_new]; simp)
  obtain ⟨v', W', hrun, hown, hgr, hat⟩ := app_val (c := 1) hm.own hlit (by simp; omega) (by simp; omega)
  rw [← hl'] at hown
  obtain ⟨g', c', hv, hg1, hg2⟩ := hown.form (by rw [hl']; simp)
  subst hv
  have hgl : ∀ q, (Value.slice a l.length c).ownBlock = some q → N ≤ q ∧ q < w.heap.size := h.own.lt
  have hgl2 : ∀ q, (Value.slice a2 ks.length c2).ownBlock = some q → N ≤ q ∧ q < w.heap.size := h.own2.lt
  have hlt := h.lt
  have hg' : g' = w.heap.size + 1 ∨ (Value.slice a l.length c).ownBlock = some g' := by
    simp only [Value.ownBlock] at hat
    rcases hat with e | e
    · exact .inr e.symm
    · injection e with e; exact .inl (by rw [e]; simp)
  have hne' : g' ≠ g := by
    rcases hg' with e | e
    · omega
    · exact (h.ne _ e).1
  have hss := hgr.size
  rw [World.size_alloc] at hss
  have hbox : W'.heap[g]? = _ := (hgr.block g (by simp; omega) (fun e => (h.ne _ e.symm).1 rfl)).trans ((heap_alloc_old _ _ _ hlt).trans h.box)
  have hSz : (W'.setCell ⟨g, 2, none⟩ (.slice (some ⟨g', 0, none⟩) l'.length c')).heap.size = W'.heap.size := by simp
  have hgs : W'.grownBy (W'.setCell ⟨g, 2, none⟩ (.slice (some ⟨g', 0, none⟩) l'.length c')) (some g) :=
    ⟨rfl, rfl, rfl, by rw [hSz]; exact Nat.le_refl _, fun q _ hq => Below.heap_setCell W' _ _ q (fun e => hq (by rw [e]))⟩
  refine ⟨some ⟨g', 0, none⟩, c', W', hrun, by simp [World.cell?, hbox], by simp [World.frozen?, hbox], ⟨h.big, by rw [hSz]; omega, by rw [set_blk hbox]; rfl, ?_, ?_, ?_, fun q hq => h.ne2 q hq⟩, (hb1.mono hN).grown hgr (by simp; omega) (fun q hq => (hgl q hq).1), by omega⟩
  · refine World.ownsRow.kept (row := some g) hown hgs (.inr ?_)
    simp only [Value.ownBlock]
    intro e; injection e with e; exact hne' e
  · refine World.ownsRow.kept (row := some g) (World.ownsRow.kept hm.own2 hgr ?_) hgs ?_
    · cases hq : (Value.slice a2 ks.length c2).ownBlock with
      | none => exact .inl rfl
      | some q => exact .inr fun e => (h.ne q e.symm).2 hq
    · cases hq : (Value.slice a2 ks.length c2).ownBlock with
      | none => exact .inl rfl
      | some q => exact .inr fun e => by injection e with e; exact h.ne2 q hq e
  · intro q hq
    simp only [Value.ownBlock] at hq
    injection hq with hq
    subst hq
    refine ⟨hne', fun e => ?_⟩
    rcases hg' with e1 | e1
    · have := hgl2 _ e; omega
    · exact (h.ne _ e1).2 e
end

/-- A piece more, as a step of a region that draws its order. -/
theorem st_more_str {ops : Array Oper} {o : Oper} {a : Act} {K : Act → World → Prop} {Q : Exit → Act → World → Prop} {E : Prop} {W5 Ws cur : World} {N base : Nat} {lo hi : Nat} {A : Option Addr} {m m2 : List ByteArray} {cm : Nat} {v : Value}
    (hown : OwnS Ws base v m) (hb : Below Ws.heap.size Ws cur) (hbase : base ≤ Ws.heap.size)
    (hS : (∀ b o, b < N → cur.cell? ⟨b, o, none⟩ = W5.cell? ⟨b, o, none⟩) ∧ Below N W5 cur) (hr : SlE strE 1 W5 lo hi A m2) (hhi : hi ≤ N) (l' : List ByteArray) (hl' : l' = m ++ m2) (hm : m.length + m2.length ≤ 16777216)
    (hgd : o.guard = none) {s x : Operand} (ho : o.op = .call { callee := .builtin .append, args := #[s, x], argTypes := #[39, 39] }) (hs : a.eval s = v) (hx : a.eval x = .slice A m2.length cm)
    (h : ∀ a' c' W', Below Ws.heap.size Ws cur → OwnS W' base (.slice a' l'.length c') l' → cur.grownBy W' v.ownBlock → ((Value.slice a' l'.length c').ownBlock = v.ownBlock ∨ (Value.slice a' l'.length c').ownBlock = some cur.heap.size) → K (a.put o.dst (.slice a' l'.length c')) W') : if Region.wanted o (yielded ops a.tmps) = true then Oper.wp Tryd.prog o a cur K Q else E := by
  obtain ⟨v', W', hrun, h1, h2, h3⟩ := app_str (c := cm) (own_below hown hb) (hr.below hS.2 hhi) hm (Nat.le_trans hbase hb.size)
  rw [← hl'] at h1
  obtain ⟨a', c', rfl⟩ : ∃ a' c', v' = .slice a' l'.length c' := by
    rcases h1.2 with ⟨e, h0⟩ | ⟨g, cap, cur, e, _⟩
    · exact ⟨none, 0, by rw [e, h0]⟩
    · exact ⟨_, _, e⟩
  exact st_append (s := s) (x := x) hgd ho (by rw [hs, hx]; exact hrun _) (h a' c' W' hb h1 h2 h3)
theorem st_more_val {ops : Array Oper} {o : Oper} {a : Act} {K : Act → World → Prop} {Q : Exit → Act → World → Prop} {E : Prop} {W5 Ws cur : World} {N base : Nat} {lo hi : Nat} {A : Option Addr} {m m2 : List AV} {cm : Nat} {v : Value}
    (hown : OwnV Ws base v m) (hb : Below Ws.heap.size Ws cur) (hbase : base ≤ Ws.heap.size)
    (hS : (∀ b o, b < N → cur.cell? ⟨b, o, none⟩ = W5.cell? ⟨b, o, none⟩) ∧ Below N W5 cur) (hr : SlE AV.enc 4 W5 lo hi A m2) (hhi : hi ≤ N) (l' : List AV) (hl' : l' = m ++ m2) (hm : m.length + m2.length ≤ 16777216)
    (hgd : o.guard = none) {s x : Operand} (ho : o.op = .call { callee := .builtin .append, args := #[s, x], argTypes := #[38, 38] }) (hs : a.eval s = v) (hx : a.eval x = .slice A m2.length cm)
    (h : ∀ a' c' W', Below Ws.heap.size Ws cur → OwnV W' base (.slice a' l'.length c') l' → cur.grownBy W' v.ownBlock → ((Value.slice a' l'.length c').ownBlock = v.ownBlock ∨ (Value.slice a' l'.length c').ownBlock = some cur.heap.size) → K (a.put o.dst (.slice a' l'.length c')) W') : if Region.wanted o (yielded ops a.tmps) = true then Oper.wp Tryd.prog o a cur K Q else E := by
  obtain ⟨v', W', hrun, h1, h2, h3⟩ := app_val (c := cm) (own_below hown hb) (hr.below hS.2 hhi) hm (Nat.le_trans hbase hb.size)
  rw [← hl'] at h1
  obtain ⟨a', c', rfl⟩ : ∃ a' c', v' = .slice a' l'.length c' := by
    rcases h1.2 with ⟨e, h0⟩ | ⟨g, cap, cur, e, _⟩
    · exact ⟨none, 0, by rw [e, h0]⟩
    · exact ⟨_, _, e⟩
  exact st_append (s := s) (x := x) hgd ho (by rw [hs, hx]; exact hrun _) (h a' c' W' hb h1 h2 h3)

theorem s_grow {N : Nat} {W2 w' w1 : World} {row : Option Nat} (hN : N ≤ W2.heap.size) (h : (∀ b o, b < N → w'.cell? ⟨b, o, none⟩ = W2.cell? ⟨b, o, none⟩) ∧ Below N W2 w') (hg : w'.grownBy w1 row) (hr : ∀ k, row = some k → N ≤ k) :
    (∀ b o, b < N → w1.cell? ⟨b, o, none⟩ = W2.cell? ⟨b, o, none⟩) ∧ Below N W2 w1 := by
  have hb : Below N w' w1 := (Below.refl N w').grown hg (Nat.le_trans hN h.2.size) hr
  exact ⟨fun b o hlt => (hb.cell (p := ⟨b, o, none⟩) hlt).trans (h.1 b o hlt), h.2.trans hb⟩
/-- The same steps, with what a last part asks of the worlds between. -/
theorem st_first_str {ops : Array Oper} {o : Oper} {a : Act} {K : Act → World → Prop} {Q : Exit → Act → World → Prop} {E : Prop} {W5 cur : World} {N : Nat} (hN : N ≤ W5.heap.size) {lo hi : Nat} {A : Option Addr} {m : List ByteArray} {cm : Nat}
    (hS : (∀ b o, b < N → cur.cell? ⟨b, o, none⟩ = W5.cell? ⟨b, o, none⟩) ∧ Below N W5 cur) (hr : SlE strE 1 W5 lo hi A m) (hhi : hi ≤ N) (hm : m.length ≤ 16777216)
    (hgd : o.guard = none) {x : Operand} (ho : o.op = .call { callee := .builtin .append, args := #[.const (.slice none 0 0), x], argTypes := #[39, 39] }) (hx : a.eval x = .slice A m.length cm)
    (h : ∀ a' c' W', N ≤ cur.heap.size → OwnS W' cur.heap.size (.slice a' m.length c') m → Below cur.heap.size cur W' → K (a.put o.dst (.slice a' m.length c')) W') : if Region.wanted o (yielded ops a.tmps) = true then Oper.wp Tryd.prog o a cur K Q else E :=
  st_copy_str hN hS hr hhi hm hgd ho hx fun a' c' W' h1 h2 => h a' c' W' (Nat.le_trans hN hS.2.size) h1 h2
theorem st_first_val {ops : Array Oper} {o : Oper} {a : Act} {K : Act → World → Prop} {Q : Exit → Act → World → Prop} {E : Prop} {W5 Wp cur : World} {N : Nat} (hN : N ≤ W5.heap.size) {lo hi : Nat} {A : Option Addr} {m : List AV} {cm : Nat}
    (hb : Below Wp.heap.size Wp cur) (hS : (∀ b o, b < N → cur.cell? ⟨b, o, none⟩ = W5.cell? ⟨b, o, none⟩) ∧ Below N W5 cur) (hr : SlE AV.enc 4 W5 lo hi A m) (hhi : hi ≤ N) (hm : m.length ≤ 16777216)
    (hgd : o.guard = none) {x : Operand} (ho : o.op = .call { callee := .builtin .append, args := #[.const (.slice none 0 0), x], argTypes := #[38, 38] }) (hx : a.eval x = .slice A m.length cm)
    (h : ∀ a' c' W', N ≤ cur.heap.size → Below Wp.heap.size Wp cur → OwnV W' cur.heap.size (.slice a' m.length c') m → Below cur.heap.size cur W' → K (a.put o.dst (.slice a' m.length c')) W') : if Region.wanted o (yielded ops a.tmps) = true then Oper.wp Tryd.prog o a cur K Q else E :=
  st_copy_val hN hS hr hhi hm hgd ho hx fun a' c' W' h1 h2 => h a' c' W' (Nat.le_trans hN hS.2.size) hb h1 h2

/-- A block that is made between the four steps stays. -/
theorem keep_g {cur1 Ws cur2 Ws2 cur3 Wv cur4 Wv2 : World} {v1 u1 : Value} {ks1 : List ByteArray} {l1 : List AV}
    (hs1 : OwnS Ws cur1.heap.size v1 ks1) (b1 : Below cur1.heap.size cur1 Ws) (j2 : Below Ws.heap.size Ws cur2) (g2 : cur2.grownBy Ws2 v1.ownBlock) (j3 : Below Ws2.heap.size Ws2 cur3) (hv1 : OwnV Wv cur3.heap.size u1 l1) (b3 : Below cur3.heap.size cur3 Wv) (j4 : Below Wv.heap.size Wv cur4) (g4 : cur4.grownBy Wv2 u1.ownBlock) :
    (∀ g, g < cur1.heap.size → Wv2.heap[g]? = cur1.heap[g]?) ∧ (∀ g, Ws.heap.size ≤ g → g < cur2.heap.size → Wv2.heap[g]? = cur2.heap[g]?) ∧ (∀ g, g < cur3.heap.size → Wv2.heap[g]? = cur3.heap[g]?) ∧ (∀ g, Wv.heap.size ≤ g → g < cur4.heap.size → Wv2.heap[g]? = cur4.heap[g]?) := by
  have z1 := b1.size
  have z2 := j2.size
  have z2' := g2.size
  have z3 := j3.size
  have z3' := b3.size
  have z4 := j4.size
  have r1 : ∀ q, v1.ownBlock = some q → cur1.heap.size ≤ q ∧ q < Ws.heap.size := hs1.lt
  have r3 : ∀ q, u1.ownBlock = some q → cur3.heap.size ≤ q ∧ q < Wv.heap.size := hv1.lt
  have h4 : ∀ g, g < cur4.heap.size → (g < cur3.heap.size ∨ Wv.heap.size ≤ g) → Wv2.heap[g]? = cur4.heap[g]? := fun g hg ho => g4.block g hg fun e => by have := r3 g e.symm; omega
  have h3 : ∀ g, g < cur3.heap.size → Wv2.heap[g]? = cur3.heap[g]? := fun g hg => (h4 g (by omega) (.inl hg)).trans ((j4.block g (by omega)).trans (b3.block g hg))
  have h2 : ∀ g, g < cur2.heap.size → (g < cur1.heap.size ∨ Ws.heap.size ≤ g) → Wv2.heap[g]? = cur2.heap[g]? := fun g hg ho => (h3 g (by omega)).trans ((j3.block g (by omega)).trans (g2.block g hg fun e => by have := r1 g e.symm; omega))
  exact ⟨fun g hg => (h2 g (by omega) (.inl hg)).trans ((j2.block g (by omega)).trans (b1.block g hg)), fun g h1 hg => h2 g hg (.inr h1), h3, fun g h1 hg => h4 g hg (.inr h1)⟩

/-- What the four pieces leave: a copy, wherever among them its box was made. -/
theorem Cop.joined {W5 cur1 Ws cur2 Ws2 cur3 Wv cur4 Wv2 Wf : World} {g : Nat} {k : Int} {t : ByteArray} {a a2 : Option Addr} {c c2 : Nat} {v1 u1 : Value} {ks1 ks : List ByteArray} {l1 l : List AV}
    (j1 : W5.heap.size ≤ cur1.heap.size) (hs1 : OwnS Ws cur1.heap.size v1 ks1) (b1 : cur1.heap.size ≤ Ws.heap.size) (j2 : Ws.heap.size ≤ cur2.heap.size) (hs2 : OwnS Ws2 cur1.heap.size (.slice a2 ks.length c2) ks) (g2 : cur2.grownBy Ws2 v1.ownBlock)
    (e2 : (Value.slice a2 ks.length c2).ownBlock = v1.ownBlock ∨ (Value.slice a2 ks.length c2).ownBlock = some cur2.heap.size) (j3 : Below Ws2.heap.size Ws2 cur3) (hv1 : OwnV Wv cur3.heap.size u1 l1) (b3 : Below cur3.heap.size cur3 Wv) (j4 : Below Wv.heap.size Wv cur4)
    (hv2 : OwnV Wv2 cur3.heap.size (.slice a l.length c) l) (g4 : cur4.grownBy Wv2 u1.ownBlock) (e4 : (Value.slice a l.length c).ownBlock = u1.ownBlock ∨ (Value.slice a l.length c).ownBlock = some cur4.heap.size)
    (hg : (W5.heap.size ≤ g ∧ g < cur1.heap.size) ∨ (Ws.heap.size ≤ g ∧ g < cur2.heap.size) ∨ (Ws2.heap.size ≤ g ∧ g < cur3.heap.size) ∨ (Wv.heap.size ≤ g ∧ g < cur4.heap.size) ∨ Wv2.heap.size ≤ g)
    (hf : Wv2.grownBy Wf (some g)) (hbox : Wf.heap[g]? = some (.cells #[.int .u8 k, .string t, .slice a l.length c, .slice a2 ks.length c2] 41 (0, 0))) :
    Cop Wf W5.heap.size g k t a c l a2 c2 ks := by
  have z2 := g2.size
  have z3 := j3.size
  have z3' := b3.size
  have z4 := j4.size
  have z5 := g4.size
  have z6 := hf.size
  have r1 : ∀ q, v1.ownBlock = some q → cur1.heap.size ≤ q ∧ q < Ws.heap.size := hs1.lt
  have r2 : ∀ q, (Value.slice a2 ks.length c2).ownBlock = some q → (cur1.heap.size ≤ q ∧ q < Ws.heap.size) ∨ q = cur2.heap.size := fun q hq => by
    rcases e2 with e | e
    · exact .inl (r1 q (by rw [← e]; exact hq))
    · rw [e] at hq; injection hq with hq; exact .inr hq.symm
  have r2' : ∀ q, (Value.slice a2 ks.length c2).ownBlock = some q → q < Ws2.heap.size := fun q hq => (hs2.lt q hq).2
  have r3 : ∀ q, u1.ownBlock = some q → cur3.heap.size ≤ q ∧ q < Wv.heap.size := hv1.lt
  have r4 : ∀ q, (Value.slice a l.length c).ownBlock = some q → (cur3.heap.size ≤ q ∧ q < Wv.heap.size) ∨ q = cur4.heap.size := fun q hq => by
    rcases e4 with e | e
    · exact .inl (r3 q (by rw [← e]; exact hq))
    · rw [e] at hq; injection hq with hq; exact .inr hq.symm
  have r4' : ∀ q, (Value.slice a l.length c).ownBlock = some q → q < Wv2.heap.size := fun q hq => (hv2.lt q hq).2
  have glt : g < Wf.heap.size := by
    rcases Nat.lt_or_ge g Wf.heap.size with h | h
    · exact h
    · rw [Array.getElem?_eq_none h] at hbox; cases hbox
  have gS : ∀ q, (Value.slice a2 ks.length c2).ownBlock = some q → q ≠ g := fun q hq e => by
    have := r2 q hq; have := r2' q hq; omega
  have gV : ∀ q, (Value.slice a l.length c).ownBlock = some q → q ≠ g := fun q hq e => by
    have := r4 q hq; have := r4' q hq; omega
  refine ⟨by omega, glt, hbox, ?_, ?_, fun q hq => ⟨gV q hq, fun e => ?_⟩, gS⟩
  · have := World.ownsRow.kept (row := some g) (w' := Wf) hv2 hf (by
      cases hq : (Value.slice a l.length c).ownBlock with
      | none => exact .inl rfl
      | some q => exact .inr fun e => by injection e with e; exact gV q hq e)
    exact ⟨this.1, this.2.imp id fun ⟨g', cap, cur, e1, e2, e3⟩ => ⟨g', cap, cur, e1, by omega, e3⟩⟩
  · have h3 := own_below (own_below (own_below hs2 j3) b3) j4
    have h4 := World.ownsRow.kept (row := u1.ownBlock) (w' := Wv2) h3 g4 (by
      cases hq : (Value.slice a2 ks.length c2).ownBlock with
      | none => exact .inl rfl
      | some q => exact .inr fun e => by have := r3 q e.symm; have := r2' q hq; omega)
    have := World.ownsRow.kept (row := some g) (w' := Wf) h4 hf (by
      cases hq : (Value.slice a2 ks.length c2).ownBlock with
      | none => exact .inl rfl
      | some q => exact .inr fun e => by injection e with e; exact gS q hq e)
    exact ⟨this.1, this.2.imp id fun ⟨g', cap, cur, e1, e2, e3⟩ => ⟨g', cap, cur, e1, by omega, e3⟩⟩
  · have := r4 q hq; have := r2' q e; omega
end Go.Proofs.YtdapimjhjnbfdaaDoor
