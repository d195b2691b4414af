/-
  inarchlaw22.LcsAround, its steps: two lists put behind one another, in new memory. Condition: the lists lie in memory, lengths are bounded.
-/
import Derived.Test.YtjihepdjcbpgoaaDoorMN
import Derived.OneCell
namespace Go.Proofs.YtjihepdjcbpgoaaDoor
open Go.RowKit Go.Sort

/-- The walk at an append whose run is known, behind a guard that says yes. -/
theorem wl_appendG {P : Program} {ops : Array Oper} {rest : List Oper} {o : Oper} {a : Act} {Q : Exit → Act → World → Prop} {w w' : World} {v' : Value} (hw : Region.wanted o (yielded ops a.tmps) = true) {s x : Operand} {t : TypeId}
    (ho : o.op = .call { callee := .builtin .append, args := #[s, x], argTypes := #[t, t] })
    (hrun : (Builtin.append_ #[t, t] o.type #[a.eval s, a.eval x]).run P w = .ok v' w') (h : wpList P ops Q rest (a.put o.dst v') w') : wpList P ops Q (o :: rest) a w :=
  BigFrame.wpList_want hw fun _ hK => by
    unfold Oper.wp execOp
    simp only [ho, resolve, invoke, builtin, Sem.run_bind, Sem.run_pure, Result.andThen_ok, List.map_toArray, List.map_cons, List.map_nil, hrun]
    exact hK _ _ h
theorem own_nilV (w : World) (base : Nat) : OwnV w base (.slice none 0 0) [] := World.ownsRow_nil _ _ _ _
theorem own_rd {w W : World} {a : Option Addr} {l : List AV} {c : Nat} (h : OwnV W w.heap.size (.slice a l.length c) l) (hl : l.length ≤ 1048576) (hk : ∀ v ∈ l, Rd W v ∧ v.w ≤ 1048576) : (⟨a, l, c⟩ : LA).Rd W :=
  ⟨(own_sl AV.enc_len h).widen (Nat.zero_le _) (Nat.le_refl _), hl, hk⟩
/-- append(row, l...): a row of the call's own grows by a list. -/
theorem app_list (w W : World) (v : Value) (l : List AV) (y : LA) (hown : OwnV W w.heap.size v l) (hw : w.heap.size ≤ W.heap.size) (hy : y.Rd W) (_hk : ∀ u ∈ l, Rd W u ∧ u.w ≤ 1048576) (hl : l.length + y.l.length ≤ 1048576) :
    ∃ (u : LA) (W' : World), (∀ ty, (Builtin.append_ #[22, 22] ty #[v, .slice y.a y.l.length y.c]).run Tryd.prog W = .ok (.slice u.a u.l.length u.c) W') ∧
      u.l = l ++ y.l ∧ OwnV W' w.heap.size (.slice u.a u.l.length u.c) u.l ∧ Below w.heap.size W W' ∧ W.grownBy W' v.ownBlock := by
  obtain ⟨v', W', hrun, hown', hgr, -⟩ := app_val (c := y.c) hown hy.sl (by omega) hw
  obtain ⟨a', c', rfl⟩ := own_formV hown'
  exact ⟨⟨a', l ++ y.l, c'⟩, W', hrun, rfl, hown', below_of_grown hgr hw fun k hk => (World.ownsRow.lt hown k hk).1, hgr⟩
/-- append(append(nil, x...), y...). -/
theorem app_two (W : World) (x y : LA) (hx : x.Rd W) (hy : y.Rd W) (hl : x.l.length + y.l.length ≤ 1048576) :
    ∃ (u1 : LA) (W1 : World) (u : LA) (W2 : World), (∀ ty, (Builtin.append_ #[22, 22] ty #[.slice none 0 0, .slice x.a x.l.length x.c]).run Tryd.prog W = .ok (.slice u1.a u1.l.length u1.c) W1) ∧
      (∀ ty, (Builtin.append_ #[22, 22] ty #[.slice u1.a u1.l.length u1.c, .slice y.a y.l.length y.c]).run Tryd.prog W1 = .ok (.slice u.a u.l.length u.c) W2) ∧
      u.l = x.l ++ y.l ∧ u.Rd W2 ∧ OwnV W2 W.heap.size (.slice u.a u.l.length u.c) u.l ∧ Below W.heap.size W W2 := by
  obtain ⟨u1, W1, h1, e1, o1, b1, -⟩ := app_list W W _ [] x (own_nilV W _) (Nat.le_refl _) hx (fun _ h => absurd h List.not_mem_nil) (by simpa using hx.len)
  rw [List.nil_append] at e1
  have hy1 : y.Rd W1 := hy.up b1
  have hk1 : ∀ v ∈ u1.l, Rd W1 v ∧ v.w ≤ 1048576 := fun v hv => by
    rw [e1] at hv
    exact ⟨(hx.kids v hv).1.up b1, (hx.kids v hv).2⟩
  obtain ⟨u, W2, h2, e2, o2, b2, -⟩ := app_list W W1 _ u1.l y o1 b1.size hy1 hk1 (by rw [e1]; exact hl)
  have hb := b1.trans b2
  rw [e1] at e2
  refine ⟨u1, W1, u, W2, h1, h2, e2, own_rd o2 (by rw [e2, List.length_append]; exact hl) fun v hv => ?_, o2, hb⟩
  rw [e2] at hv
  rcases List.mem_append.1 hv with hv | hv
  · exact ⟨(hx.kids v hv).1.up hb, (hx.kids v hv).2⟩
  · exact ⟨(hy.kids v hv).1.up hb, (hy.kids v hv).2⟩

/-- A row of the call's own, its elements trees apart from it. -/
def Trees (base : Nat) (w : World) (u : LA) : Prop := OwnV w base (.slice u.a u.l.length u.c) u.l ∧ ∀ r ∈ u.l, r.w ≤ 1048576 ∧ ∃ lo hi, r.In w lo hi ∧ base ≤ lo ∧ hi ≤ w.heap.size ∧ ∀ q, (Value.slice u.a u.l.length u.c).ownBlock = some q → ¬ (lo ≤ q ∧ q < hi)
theorem Trees.rd {base : Nat} {w : World} {u : LA} (h : Trees base w u) (hl : u.l.length ≤ 1048576) : u.Rd w :=
  ⟨(own_sl AV.enc_len h.1).widen (Nat.zero_le _) (Nat.le_refl _), hl, fun r hr => by
    obtain ⟨h1, lo, hi, h2, h3, h4, -⟩ := h.2 r hr
    exact ⟨h2.widen (Nat.zero_le _) h4, h1⟩⟩
theorem trees_nil (base : Nat) (w : World) : Trees base w ⟨none, [], 0⟩ := ⟨own_nilV w base, fun _r hr => absurd hr List.not_mem_nil⟩
theorem trees_add {base : Nat} {w w2 : World} {u : LA} {z : AV} (ht : Trees base w u) (hbase : base ≤ w.heap.size) (hb : Below w.heap.size w w2) (hz : z.In w2 w.heap.size w2.heap.size) (hzw : z.w ≤ 1048576) (hl : u.l.length ≤ 1048576) :
    ∃ (u' : LA) (W' : World), (∀ ty, (Builtin.append_ #[22, 22] ty #[.slice u.a u.l.length u.c, .slice (some ⟨w2.heap.size, 0, none⟩) 1 1]).run Tryd.prog (w2.alloc (.cells #[.int .u8 z.k, .string z.t, .slice z.la z.l.length z.lc, .slice z.ka z.ks.length z.kc] 28)) = .ok (.slice u'.a u'.l.length u'.c) W') ∧
      u'.l = u.l ++ [z] ∧ Trees base W' u' ∧ Below base w W' := by
  obtain ⟨ho, hk⟩ := ht
  have hsz := hb.size
  have hlit : SlE AV.enc 4 (w2.alloc (.cells #[.int .u8 z.k, .string z.t, .slice z.la z.l.length z.lc, .slice z.ka z.ks.length z.kc] 28)) w2.heap.size (w2.heap.size + 1) (some ⟨w2.heap.size, 0, none⟩) [z] := lit_sl (enc := AV.enc) (size := 4) (l := [z]) (t := 28) (fr := (0, 0)) AV.enc_len (heap_alloc_new _ _)
  obtain ⟨v', W', hrun, hown', hgr, hat⟩ := app_val (c := 1) (own_below (own_below ho hb) ((Below.refl _ _).alloc (Nat.le_refl _) _)) hlit (by simp; omega) (by simp; omega)
  obtain ⟨a', c', rfl⟩ := own_formV hown'
  have hgl : ∀ q, (Value.slice u.a u.l.length u.c).ownBlock = some q → base ≤ q ∧ q < w.heap.size := World.ownsRow.lt ho
  have hsz3 := hgr.size
  rw [World.size_alloc] at hsz3
  have hnew : ∀ q, (Value.slice a' (u.l ++ [z]).length c').ownBlock = some q → (Value.slice u.a u.l.length u.c).ownBlock = some q ∨ q = w2.heap.size + 1 := fun q hq => by
    rcases hat with e | e
    · exact .inl (e ▸ hq)
    · rw [hq, World.size_alloc] at e
      injection e with e
      exact .inr e
  have hblk : ∀ q, q < w2.heap.size → (∀ g, (Value.slice u.a u.l.length u.c).ownBlock = some g → q ≠ g) → W'.heap[q]? = w2.heap[q]? := fun q hq hne => by
    rw [hgr.block q (by rw [World.size_alloc]; omega) (fun e => hne q e.symm rfl), blk_o _ _ _ hq]
  have key : ∀ (r : AV) lo hi, r.In w2 lo hi → base ≤ lo → hi ≤ w2.heap.size → (∀ q, (Value.slice u.a u.l.length u.c).ownBlock = some q → ¬ (lo ≤ q ∧ q < hi)) → ∃ lo hi, r.In W' lo hi ∧ base ≤ lo ∧ hi ≤ W'.heap.size ∧ ∀ q, (Value.slice a' (u.l ++ [z]).length c').ownBlock = some q → ¬ (lo ≤ q ∧ q < hi) := by
    intro r lo hi h1 h2 h3 h4
    refine ⟨lo, hi, h1.kept (by omega) (fun q q1 q2 q3 => hblk q q3 fun g hg e => h4 g hg ⟨by omega, by omega⟩), h2, by omega, fun q hq hc => ?_⟩
    rcases hnew q hq with e | e
    · exact h4 q e hc
    · omega
  refine ⟨⟨a', u.l ++ [z], c'⟩, W', hrun, rfl, ⟨hown', fun r hr => ?_⟩, ((hb.mono hbase).trans ((Below.refl _ _).alloc (by omega) _)).grown hgr (by simp; omega) (fun q hq => (hgl q hq).1)⟩
  rcases List.mem_append.1 hr with hr | hr
  · obtain ⟨hw, lo, hi, h1, h2, h3, h4⟩ := hk r hr
    exact ⟨hw, key r lo hi (h1.blw hb h3) h2 (by omega) h4⟩
  · simp at hr; subst hr
    exact ⟨hzw, key _ w.heap.size w2.heap.size hz hbase (Nat.le_refl _) fun q hq hc => by have := hgl q hq; omega⟩

theorem box_set2 {w : World} {b : Nat} {x0 x1 x2 x3 u : Value} {t : TypeId} (h : w.heap[b]? = some (.cells #[x0, x1, x2, x3] t (0, 0))) : (w.setCell ⟨b, 2, none⟩ u).heap[b]? = some (.cells #[x0, x1, u, x3] t (0, 0)) := by
  have hlt := lt_of_block h
  have h' : w.heap[b] = .cells #[x0, x1, x2, x3] t (0, 0) := by simpa [Array.getElem?_eq_getElem hlt] using h
  show (w.heap.modify b _)[b]? = _
  rw [Array.getElem?_eq_getElem (by simpa using hlt), Array.getElem_modify_self, h']
  rfl
abbrev boxL (o : LA) : Obj := .cells #[.int .u8 7, .string ⟨#[]⟩, .slice o.a o.l.length o.c, .slice none 0 0] 28 (0, 0)
/-- own.List = append(own.List, null): the box holds the grown row. -/
theorem own_step {W : World} {base B : Nat} {o : LA} (hb : W.heap[B]? = some (boxL o)) (ho : OwnV W base (.slice o.a o.l.length o.c) o.l) (hB : base ≤ B) (hne : (Value.slice o.a o.l.length o.c).ownBlock ≠ some B) (hbase : base ≤ W.heap.size) (hl : o.l.length ≤ 1048575) :
    ∃ (u : LA) (W' : World), (∀ ty, (Builtin.append_ #[22, 22] ty #[.slice o.a o.l.length o.c, .slice (some ⟨W.heap.size, 0, none⟩) 1 1]).run Tryd.prog (W.alloc (.cells #[.int .u8 0, .string ⟨#[]⟩, .slice none 0 0, .slice none 0 0] 28)) = .ok (.slice u.a u.l.length u.c) W') ∧
      u.l = o.l ++ [zAV] ∧ W'.heap[B]? = some (boxL o) ∧ (W'.setCell ⟨B, 2, none⟩ (.slice u.a u.l.length u.c)).heap[B]? = some (boxL u) ∧
      OwnV (W'.setCell ⟨B, 2, none⟩ (.slice u.a u.l.length u.c)) base (.slice u.a u.l.length u.c) u.l ∧ Below base W (W'.setCell ⟨B, 2, none⟩ (.slice u.a u.l.length u.c)) := by
  have hBW : B < W.heap.size := by
    rcases Nat.lt_or_ge B W.heap.size with h1 | h1
    · exact h1
    · rw [Array.getElem?_eq_none h1] at hb; cases hb
  have hlit : SlE AV.enc 4 (W.alloc (.cells #[.int .u8 0, .string ⟨#[]⟩, .slice none 0 0, .slice none 0 0] 28)) W.heap.size (W.heap.size + 1) (some ⟨W.heap.size, 0, none⟩) [zAV] := lit_sl (enc := AV.enc) (size := 4) (l := [zAV]) (t := 28) (fr := (0, 0)) AV.enc_len (heap_alloc_new _ _)
  obtain ⟨v', W', hrun, hown', hgr, hat⟩ := app_val (c := 1) (own_below ho ((Below.refl _ _).alloc (Nat.le_refl _) _)) hlit (by simp; omega) (by simp; omega)
  obtain ⟨a', c', rfl⟩ := own_formV hown'
  have hbox : W'.heap[B]? = some (boxL o) := by
    rw [hgr.block B (by simp; omega) (fun e => hne e.symm), blk_o _ _ _ hBW, hb]
  have hne' : (Value.slice a' (o.l ++ [zAV]).length c').ownBlock ≠ some B := fun e => by
    rcases hat with h | h
    · exact hne (h ▸ e)
    · rw [e, World.size_alloc] at h
      injection h with h
      omega
  refine ⟨⟨a', o.l ++ [zAV], c'⟩, W', hrun, rfl, hbox, box_set2 hbox, ownsRow_setCell_other hown' hne' _, ?_⟩
  exact (((Below.refl _ _).alloc hbase _).grown hgr (by simp; omega) (fun q hq => (World.ownsRow.lt ho q hq).1)).setCell hB _

/-- The list of both lists' elements and a null. -/
def ownA (o : LA) : AV := ⟨7, ⟨#[]⟩, o.a, o.c, o.l, none, 0, []⟩
theorem zAV_rd (W : World) : Rd W zAV := ⟨SlE.nil, SlE.nil, by simp [zAV], fun y hy => absurd hy List.not_mem_nil⟩
theorem ownA_rd {W : World} {base : Nat} {x y o : LA} (hown : OwnV W base (.slice o.a o.l.length o.c) o.l) (he : o.l = x.l ++ y.l ++ [zAV]) (hx : x.Rd W) (hy : y.Rd W) : Rd W (ownA o) :=
  ⟨(own_sl AV.enc_len hown).widen (Nat.zero_le _) (Nat.le_refl _), SlE.nil, by simp [ownA], fun r hr => by
    have hr' : r ∈ o.l := hr
    rw [he] at hr'
    rcases List.mem_append.1 hr' with h | h
    · rcases List.mem_append.1 h with h | h
      · exact (hx.kids r h).1
      · exact (hy.kids r h).1
    · simp at h; subst h; exact zAV_rd W⟩
theorem ownA_w {x y o : LA} (he : o.l = x.l ++ y.l ++ [zAV]) (sx : SmallQ x) (sy : SmallQ y) : (ownA o).w ≤ 1048576 := by
  have h1 : (ownA o).v.w = 1 + (o.l.map AV.w).sum := by
    rw [AV.v_eq, Val.w_eq]
    simp only [ownA, List.map_map, List.map_nil, List.sum_nil, List.length_nil]
    have e : (List.map (Val.w ∘ AV.v) o.l) = o.l.map AV.w := rfl
    rw [e]
    have e2 : (⟨#[]⟩ : ByteArray).size = 0 := rfl
    omega
  have h2 : (o.l.map AV.w).sum = (x.l.map AV.w).sum + (y.l.map AV.w).sum + zAV.w := by
    rw [he, List.map_append, List.map_append, List.sum_append, List.sum_append]
    simp
  have h3 : zAV.w ≤ 1 := by
    show Val.w _ ≤ 1
    rw [zAV, AV.v_eq, Val.w_eq]; decide
  have h4 := sx.2
  have h5 := sy.2
  show (ownA o).v.w ≤ _
  omega
theorem ownA_size {x y o : LA} (he : o.l = x.l ++ y.l ++ [zAV]) : ∀ v ∈ y.v, v.size < (ownA o).v.size := fun v hv => by
  refine size_kid ?_
  obtain ⟨r, hr, rfl⟩ := List.mem_map.1 hv
  rw [AV.v_l]
  refine List.mem_map_of_mem ?_
  show r ∈ o.l
  rw [he]
  simp [hr]

theorem weave_len2 {α : Type} (o : α) : ∀ X : List α, (weave o X).length = 2 * X.length
  | [] => rfl
  | x :: X => by
    have e : weave o (x :: X) = o :: x :: weave o X := rfl
    rw [e, List.length_cons, List.length_cons, weave_len2 o X, List.length_cons]; omega
theorem weave_more {α : Type} (o : α) {X : List α} {k : Nat} {x : α} (h : X[k]? = some x) : weave o (X.take (k + 1)) = weave o (X.take k) ++ [o, x] := by
  rw [List.take_add_one, h, weave, weave, List.flatMap_append]; rfl
theorem weave_map {α β : Type} (f : α → β) (o : α) (X : List α) : (weave o X).map f = weave (f o) (X.map f) := by
  rw [weave, weave, List.map_flatMap, List.flatMap_map]; rfl
/-- A row grows by the list of both and one more. -/
theorem pair_add {base : Nat} {w : World} {d o : LA} {t : AV} (ho : OwnV w base (.slice d.a d.l.length d.c) d.l) (hbase : base ≤ w.heap.size) (hl : d.l.length ≤ 1048576) :
    ∃ (d' : LA) (W' : World), (∀ ty, (Builtin.append_ #[22, 22] ty #[.slice d.a d.l.length d.c, .slice (some ⟨w.heap.size, 0, none⟩) 2 2]).run Tryd.prog
        (w.alloc (.cells #[.int .u8 7, .string ⟨#[]⟩, .slice o.a o.l.length o.c, .slice none 0 0, .int .u8 t.k, .string t.t, .slice t.la t.l.length t.lc, .slice t.ka t.ks.length t.kc] 28)) = .ok (.slice d'.a d'.l.length d'.c) W') ∧
      d'.l = d.l ++ [ownA o, t] ∧ OwnV W' base (.slice d'.a d'.l.length d'.c) d'.l ∧ Below base w W' := by
  have hlit : SlE AV.enc 4 (w.alloc (.cells #[.int .u8 7, .string ⟨#[]⟩, .slice o.a o.l.length o.c, .slice none 0 0, .int .u8 t.k, .string t.t, .slice t.la t.l.length t.lc, .slice t.ka t.ks.length t.kc] 28)) w.heap.size (w.heap.size + 1) (some ⟨w.heap.size, 0, none⟩) [ownA o, t] :=
    lit_sl (enc := AV.enc) (size := 4) (l := [ownA o, t]) (t := 28) (fr := (0, 0)) AV.enc_len (heap_alloc_new _ _)
  obtain ⟨v', W', hrun, hown', hgr, -⟩ := app_val (c := 2) (own_below ho ((Below.refl _ _).alloc (Nat.le_refl _) _)) hlit (by simp; omega) (by simp; omega)
  obtain ⟨a', c', rfl⟩ := own_formV hown'
  exact ⟨⟨a', d.l ++ [ownA o, t], c'⟩, W', hrun, rfl, hown', ((Below.refl _ _).alloc hbase _).grown hgr (by simp; omega) (fun q hq => (World.ownsRow.lt ho q hq).1)⟩
end Go.Proofs.YtjihepdjcbpgoaaDoor
