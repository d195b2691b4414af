/-
  The law's other: a value of which one node is another one. Conditions: the tree lies in memory below the counter, its weight is bounded.
-/
import Derived.Test.YtdapimjhjnbfdaaDoorVL
import Derived.Deep.DeepCutAuto
namespace Go.Proofs.YtdapimjhjnbfdaaDoor
open Go.RowKit Go.Sort

/-- The tree lies below p, or its own slices lie in blocks from s up to e, and so on. -/
inductive AV.Lies (w : World) (p s e : Nat) : AV → Prop
  | old {y : AV} (h : y.In w 0 p) : AV.Lies w p s e y
  | new {y : AV} (h1 : SlE AV.enc 4 w s e y.la y.l) (h2 : SlE strE 1 w s e y.ka y.ks) (h3 : 0 ≤ y.k ∧ y.k ≤ 255) (h4 : ∀ z ∈ y.l, AV.Lies w p s e z) : AV.Lies w p s e y
theorem AV.Lies.kept {w w' : World} {p s e s' e' : Nat} (hs : w.heap.size ≤ w'.heap.size) (h1 : s' ≤ s) (h2 : e ≤ e') (hk : ∀ k, (k < p ∨ s ≤ k ∧ k < e) → k < w.heap.size → w'.heap[k]? = w.heap[k]?) {y : AV} (h : y.Lies w p s e) : y.Lies w' p s' e' := by
  induction h with
  | old h => exact .old (h.kept hs fun k _ hp hl => hk k (.inl hp) hl)
  | new g1 g2 g3 _ ih => exact .new ((g1.keep hs fun k a b c => hk k (.inr ⟨a, b⟩) c).widen h1 h2) ((g2.keep hs fun k a b c => hk k (.inr ⟨a, b⟩) c).widen h1 h2) g3 ih
theorem AV.Lies.rd {w : World} {p s e : Nat} {y : AV} (h : y.Lies w p s e) : Rd w y := by
  induction h with
  | old h => exact h.clamp
  | new g1 g2 g3 _ ih => exact ⟨(g1.clamp).widen (Nat.zero_le _) (Nat.le_refl _), (g2.clamp).widen (Nat.zero_le _) (Nat.le_refl _), g3, ih⟩

def OtherPost (v : Val) (p n : Nat) (w : World) (e : Ending) (w' : World) : Prop := ∃ (o : AV) (d : Bool) (n' : Nat), e = .returned (.tuple #[o.val, .bool d]) ∧ (d = true → Chg v o.v ∧ o.Lies w' p w.heap.size w'.heap.size) ∧ w'.cell? ⟨p, 0, none⟩ = some (.int .i64 n') ∧ w'.frozen? ⟨p, 0, none⟩ = false ∧ n' ≤ n ∧ w.grownBy w' (some p)

theorem grown_trans {w w1 w2 : World} {r : Option Nat} (h1 : w.grownBy w1 r) (h2 : w1.grownBy w2 r) : w.grownBy w2 r :=
  ⟨h2.os.trans h1.os, h2.tape.trans h1.tape, h2.output.trans h1.output, Nat.le_trans h1.size h2.size, fun k hk hne => (h2.block k (Nat.lt_of_lt_of_le hk h1.size) hne).trans (h1.block k hk hne)⟩
theorem grown_below {w w1 : World} {r : Option Nat} (hb : Below w.heap.size w w1) : w.grownBy w1 r := ⟨hb.os, hb.tape, hb.output, hb.size, fun k hk _ => hb.block k hk⟩
theorem AV.In.grow {w w' : World} {p : Nat} {y : AV} (h : y.In w 0 p) (hg : w.grownBy w' (some p)) : y.In w' 0 p := h.kept hg.size fun k _ hk h2 => hg.block k h2 (fun e => by injection e with e; omega)

/-- Four cells are stored. -/
def put4 (w : World) (B o : Nat) (a b c d : Value) : World := (((w.setCell ⟨B, o, none⟩ a).setCell ⟨B, o + 1, none⟩ b).setCell ⟨B, o + 2, none⟩ c).setCell ⟨B, o + 3, none⟩ d
theorem put4_size {w : World} {B o : Nat} {a b c d : Value} : (put4 w B o a b c d).heap.size = w.heap.size := by simp [put4]
theorem put4_old {w : World} {B o : Nat} {a b c d : Value} {q : Nat} (h : q ≠ B) : (put4 w B o a b c d).heap[q]? = w.heap[q]? := by
  unfold put4
  rw [Below.heap_setCell _ _ _ q h, Below.heap_setCell _ _ _ q h, Below.heap_setCell _ _ _ q h, Below.heap_setCell _ _ _ q h]
theorem put4_grown {w : World} {B o : Nat} {a b c d : Value} : w.grownBy (put4 w B o a b c d) (some B) :=
  ⟨rfl, rfl, rfl, by rw [put4_size]; exact Nat.le_refl _, fun k _ hne => put4_old (fun e => hne (by rw [e]))⟩
theorem put4_cell {w : World} {B o : Nat} {a b c d : Value} (h : ∀ j, j < 4 → ∃ u, w.cell? ⟨B, o + j, none⟩ = some u) (q : Nat) :
    (put4 w B o a b c d).cell? ⟨B, q, none⟩ = if q = o + 3 then some d else if q = o + 2 then some c else if q = o + 1 then some b else if q = o then some a else w.cell? ⟨B, q, none⟩ := by
  obtain ⟨u0, h0⟩ := h 0 (by omega)
  obtain ⟨u1, h1⟩ := h 1 (by omega)
  obtain ⟨u2, h2⟩ := h 2 (by omega)
  obtain ⟨u3, h3⟩ := h 3 (by omega)
  have e0 := cell1 (v := a) h0
  have h1' : (w.setCell ⟨B, o, none⟩ a).cell? ⟨B, o + 1, none⟩ = some u1 := by rw [show (⟨B, o, none⟩ : Addr) = ⟨B, o + 0, none⟩ from rfl, e0, if_neg (by omega)]; exact h1
  have e1 := cell1 (v := b) h1'
  have h2' : ((w.setCell ⟨B, o, none⟩ a).setCell ⟨B, o + 1, none⟩ b).cell? ⟨B, o + 2, none⟩ = some u2 := by rw [e1, if_neg (by omega)]; refine (e0 _).trans ?_; rw [if_neg (by omega)]; exact h2
  have e2 := cell1 (v := c) h2'
  have h3' : (((w.setCell ⟨B, o, none⟩ a).setCell ⟨B, o + 1, none⟩ b).setCell ⟨B, o + 2, none⟩ c).cell? ⟨B, o + 3, none⟩ = some u3 := by rw [e2, if_neg (by omega), e1, if_neg (by omega)]; refine (e0 _).trans ?_; rw [if_neg (by omega)]; exact h3
  unfold put4
  rw [cell1 h3', e2, e1]
  have := e0 q
  rw [Nat.add_zero] at this
  rw [this]

theorem put4_box {w : World} {B : Nat} {a b c d x0 x1 x2 x3 : Value} {T : TypeId} (h : w.heap[B]? = some (.cells #[x0, x1, x2, x3] T (0, 0))) : (put4 w B 0 a b c d).heap[B]? = some (.cells #[a, b, c, d] T (0, 0)) := by
  unfold put4
  rw [set_blk (set_blk (set_blk (set_blk h _ _) _ _) _ _) _ _]
  rfl
/-- A row of values: one element is stored over. -/
theorem OwnV.put {w : World} {base g c : Nat} {n : Nat} {l : List AV} (h : OwnV w base (.slice (some ⟨g, 0, none⟩) n c) l) (hn : n = l.length) {m : Nat} (hm : m < l.length) (z : AV) :
    SlE AV.enc 4 (put4 w g (m * 4) (.int .u8 z.k) (.string z.t) (.slice z.la z.l.length z.lc) (.slice z.ka z.ks.length z.kc)) base w.heap.size (some ⟨g, 0, none⟩) (l.set m z) := by
  subst hn
  have hsl := own_sl AV.enc_len h
  intro hl
  obtain ⟨b, off, e, g1, g2, g3, g4⟩ := hsl (by simpa using hl)
  injection e with e; injection e with e1 e2
  subst e1; subst e2
  have hm4 : ∀ j, j < 4 → ∃ u, w.cell? ⟨g, m * 4 + j, none⟩ = some u := fun j hj => by
    have := g4 m l[m] (List.getElem?_eq_getElem hm) j (l[m].enc[j]'hj) (List.getElem?_eq_getElem hj)
    rw [Nat.zero_add] at this
    exact ⟨_, this⟩
  refine ⟨g, 0, rfl, g1, g2, by rw [put4_size]; exact g3, fun i y hy j u hu => ?_⟩
  have hj : j < 4 := (List.getElem?_eq_some_iff.1 hu).1
  rw [Nat.zero_add, put4_cell hm4]
  by_cases him : i = m
  · subst him
    rw [List.getElem?_set_self hm] at hy
    injection hy with hy
    subst hy
    match j, hj with
    | 0, _ => simp [AV.enc] at hu; simp [hu]
    | 1, _ => simp [AV.enc] at hu; simp [hu]
    | 2, _ => simp [AV.enc] at hu; simp [hu]
    | 3, _ => simp [AV.enc] at hu; simp [hu]
  · rw [List.getElem?_set_ne (by omega)] at hy
    rw [if_neg (by omega), if_neg (by omega), if_neg (by omega), if_neg (by omega)]
    have := g4 i y hy j u hu
    rwa [Nat.zero_add] at this

/-- A copy of a list of values, of a list of texts. -/
theorem copy_val {w : World} {lo hi : Nat} {A : Option Addr} {m : List AV} {cm : Nat} (hr : SlE AV.enc 4 w lo hi A m) (hm : m.length ≤ 16777216) :
    ∃ a' c' W', (∀ ty, (Builtin.append_ #[38, 38] ty #[.slice none 0 0, .slice A m.length cm]).run Tryd.prog w = .ok (.slice a' m.length c') W') ∧ OwnV W' w.heap.size (.slice a' m.length c') m ∧ Below w.heap.size w W' := by
  obtain ⟨v', W', hrun, hown, hgr, -⟩ := app_val (c := cm) (base := w.heap.size) (l := []) (v := .slice none 0 0) (World.ownsRow_nil _ _ _ _) hr (by simpa using hm) (Nat.le_refl _)
  rw [List.nil_append] at hown
  obtain ⟨a', c', rfl⟩ : ∃ a' c', v' = .slice a' m.length c' := by
    rcases hown.2 with ⟨e, h0⟩ | ⟨g, cap, cur, e, _⟩
    · exact ⟨none, 0, by rw [e, h0]⟩
    · exact ⟨_, _, e⟩
  exact ⟨a', c', W', hrun, hown, (Below.refl _ _).grown hgr (Nat.le_refl _) (fun g hg => by simp [Value.ownBlock] at hg)⟩
theorem copy_str {w : World} {lo hi : Nat} {A : Option Addr} {m : List ByteArray} {cm : Nat} (hr : SlE strE 1 w lo hi A m) (hm : m.length ≤ 16777216) :
    ∃ a' c' W', (∀ ty, (Builtin.append_ #[39, 39] ty #[.slice none 0 0, .slice A m.length cm]).run Tryd.prog w = .ok (.slice a' m.length c') W') ∧ OwnS W' w.heap.size (.slice a' m.length c') m ∧ Below w.heap.size w W' := by
  obtain ⟨v', W', hrun, hown, hgr, -⟩ := app_str (c := cm) (base := w.heap.size) (l := []) (v := .slice none 0 0) (World.ownsRow_nil _ _ _ _) hr (by simpa using hm) (Nat.le_refl _)
  rw [List.nil_append] at hown
  obtain ⟨a', c', rfl⟩ : ∃ a' c', v' = .slice a' m.length c' := by
    rcases hown.2 with ⟨e, h0⟩ | ⟨g, cap, cur, e, _⟩
    · exact ⟨none, 0, by rw [e, h0]⟩
    · exact ⟨_, _, e⟩
  exact ⟨a', c', W', hrun, hown, (Below.refl _ _).grown hgr (Nat.le_refl _) (fun g hg => by simp [Value.ownBlock] at hg)⟩

set_option maxRecDepth 100000 in
set_option maxHeartbeats 3200000 in
theorem other_zero (x : AV) (p : Nat) (w : World) (hw : x.w ≤ 1048576) (_hkd : 0 ≤ x.k ∧ x.k ≤ 255) (hp : w.cell? ⟨p, 0, none⟩ = some (.int .i64 0)) (hpf : w.frozen? ⟨p, 0, none⟩ = false) :
    Calls Tryd.prog 34 #[x.val, .pointer (some ⟨p, 0, none⟩)] w (OtherPost x.v p 0 w) := by
  have hpl := World.block_lt_of_cell? w ⟨p, 0, none⟩ hp
  have hpl2 : p < w.heap.size := hpl
  have htw := x.w_t
  have hb1 := fun o o' => ((Below.refl w.heap.size w).alloc (Nat.le_refl _) o).alloc (by simp) o'
  by_cases h3 : x.k = 3
  · have e3 : (x.k == 3) = true := by simp [h3]
    have hch : Chg x.v ⟨3, x.t ++ ⟨#[120]⟩, [], []⟩ := .str (by rw [AV.v_k]; exact h3) _ (by rw [AV.v_t, ByteArray.size_append]; rfl)
    have HCH := Lib.hid hch
    clear h3 hch
    go_enter Tryd.func34, Tryd.ntmps34
    go_wp2_with fail
    refine bodyPost_ret (v := .tuple #[.agg #[.int .u8 3, .string (x.t ++ ⟨#[120]⟩), .slice none 0 0, .slice none 0 0], .bool true]) (by simp [results, Tryd.results34, go_sem]) rfl ⟨⟨3, x.t ++ ⟨#[120]⟩, none, 0, [], none, 0, []⟩, true, 0, rfl, fun _ => ⟨?_, ?_⟩, ?_, ?_, Nat.le_refl _, ?_⟩
    · rw [AV.v_eq ⟨3, _, none, 0, [], none, 0, []⟩]; exact HCH.out
    · exact .new SlE.nil SlE.nil (by simp) (fun y hy => absurd hy List.not_mem_nil)
    · exact (Below.cell (p := ⟨p, 0, none⟩) (show Below w.heap.size w _ from (by repeat (first | exact Below.refl _ _ | refine Below.drew ?_ | refine below_drewN ?_ _ | refine Below.setCell ?_ (by first | omega | (simp; done) | (simp; omega)) _ | refine Below.alloc ?_ (by first | omega | (simp; done) | (simp; omega)) _))) hpl2).trans hp
    · exact (Below.frozen (p := ⟨p, 0, none⟩) (show Below w.heap.size w _ from (by repeat (first | exact Below.refl _ _ | refine Below.drew ?_ | refine below_drewN ?_ _ | refine Below.setCell ?_ (by first | omega | (simp; done) | (simp; omega)) _ | refine Below.alloc ?_ (by first | omega | (simp; done) | (simp; omega)) _))) hpl2).trans hpf
    · exact grown_below (by repeat (first | exact Below.refl _ _ | refine Below.drew ?_ | refine below_drewN ?_ _ | refine Below.setCell ?_ (by first | omega | (simp; done) | (simp; omega)) _ | refine Below.alloc ?_ (by first | omega | (simp; done) | (simp; omega)) _))
  · have e3 : (x.k == 3) = false := by simp [h3]
    have hch : Chg x.v ⟨3, ⟨#[120]⟩, [], []⟩ := .root (by rw [AV.v_k]; exact h3) _ (by decide)
    have HCH := Lib.hid hch
    clear h3 hch
    go_enter Tryd.func34, Tryd.ntmps34
    go_wp2_with fail
    refine bodyPost_ret (v := .tuple #[.agg #[.int .u8 3, .string ⟨#[120]⟩, .slice none 0 0, .slice none 0 0], .bool true]) (by simp [results, Tryd.results34, go_sem]) rfl ⟨⟨3, ⟨#[120]⟩, none, 0, [], none, 0, []⟩, true, 0, rfl, fun _ => ⟨?_, ?_⟩, ?_, ?_, Nat.le_refl _, ?_⟩
    · rw [AV.v_eq ⟨3, _, none, 0, [], none, 0, []⟩]; exact HCH.out
    · exact .new SlE.nil SlE.nil (by simp) (fun y hy => absurd hy List.not_mem_nil)
    · exact (Below.cell (p := ⟨p, 0, none⟩) (show Below w.heap.size w _ from (by repeat (first | exact Below.refl _ _ | refine Below.drew ?_ | refine below_drewN ?_ _ | refine Below.setCell ?_ (by first | omega | (simp; done) | (simp; omega)) _ | refine Below.alloc ?_ (by first | omega | (simp; done) | (simp; omega)) _))) hpl2).trans hp
    · exact (Below.frozen (p := ⟨p, 0, none⟩) (show Below w.heap.size w _ from (by repeat (first | exact Below.refl _ _ | refine Below.drew ?_ | refine below_drewN ?_ _ | refine Below.setCell ?_ (by first | omega | (simp; done) | (simp; omega)) _ | refine Below.alloc ?_ (by first | omega | (simp; done) | (simp; omega)) _))) hpl2).trans hpf
    · exact grown_below (by repeat (first | exact Below.refl _ _ | refine Below.drew ?_ | refine below_drewN ?_ _ | refine Below.setCell ?_ (by first | omega | (simp; done) | (simp; omega)) _ | refine Below.alloc ?_ (by first | omega | (simp; done) | (simp; omega)) _))

theorem s_alloc0 {N : Nat} {W2 : World} (hN : N ≤ W2.heap.size) (o : Obj) : (∀ b o', b < N → ((W2.alloc o).drew).cell? ⟨b, o', none⟩ = W2.cell? ⟨b, o', none⟩) ∧ Below N W2 ((W2.alloc o).drew) := by
  have hb : Below N W2 ((W2.alloc o).drew) := ((Below.refl _ _).alloc hN _).drew
  exact ⟨fun b o' hlt => hb.cell (p := ⟨b, o', none⟩) hlt, hb⟩
theorem s_put4 {N : Nat} {W2 w' : World} (_hN : N ≤ W2.heap.size) {B : Nat} {a b c d : Value} (h : (∀ b o, b < N → w'.cell? ⟨b, o, none⟩ = W2.cell? ⟨b, o, none⟩) ∧ Below N W2 w') (hB : N ≤ B) :
    (∀ b' o', b' < N → ((((w'.setCell ⟨B, 0, none⟩ a).setCell ⟨B, 1, none⟩ b).setCell ⟨B, 2, none⟩ c).setCell ⟨B, 3, none⟩ d).cell? ⟨b', o', none⟩ = W2.cell? ⟨b', o', none⟩) ∧ Below N W2 ((((w'.setCell ⟨B, 0, none⟩ a).setCell ⟨B, 1, none⟩ b).setCell ⟨B, 2, none⟩ c).setCell ⟨B, 3, none⟩ d) := by
  have hb := below4 (a := a) (b := b) (c := c) (d := d) h.2 hB
  exact ⟨fun b' o' hlt => hb.cell (p := ⟨b', o', none⟩) hlt, hb⟩

/-- A copy, as a step of a region that draws its order: what lies below N stays. -/
theorem st_copy_str {ops : Array Oper} {o : Oper} {a : Act} {K : Act → World → Prop} {Q : Exit → Act → World → Prop} {E : Prop} {W5 cur : World} {N : Nat} (_hN : N ≤ W5.heap.size) {lo hi : Nat} {A : Option Addr} {m : List ByteArray} {cm : Nat}
    (hS : (∀ b o, b < N → cur.cell? ⟨b, o, none⟩ = W5.cell? ⟨b, o, none⟩) ∧ Below N W5 cur) (hr : SlE strE 1 W5 lo hi A m) (hhi : hi ≤ N) (hm : m.length ≤ 16777216)
    (hgd : o.guard = none) {x : Operand} (ho : o.op = .call { callee := .builtin .append, args := #[.const (.slice none 0 0), x], argTypes := #[39, 39] }) (hx : a.eval x = .slice A m.length cm)
    (h : ∀ a' c' W', OwnS W' cur.heap.size (.slice a' m.length c') m → Below cur.heap.size cur W' → K (a.put o.dst (.slice a' m.length c')) W') : if Region.wanted o (yielded ops a.tmps) = true then Oper.wp Tryd.prog o a cur K Q else E := by
  obtain ⟨a', c', W', hrun, h1, h2⟩ := copy_str (cm := cm) (hr.below hS.2 hhi) hm
  exact st_append (s := .const (.slice none 0 0)) (x := x) hgd ho (by rw [hx]; exact hrun _) (h a' c' W' h1 h2)
theorem st_copy_val {ops : Array Oper} {o : Oper} {a : Act} {K : Act → World → Prop} {Q : Exit → Act → World → Prop} {E : Prop} {W5 cur : World} {N : Nat} (_hN : N ≤ W5.heap.size) {lo hi : Nat} {A : Option Addr} {m : List AV} {cm : Nat}
    (hS : (∀ b o, b < N → cur.cell? ⟨b, o, none⟩ = W5.cell? ⟨b, o, none⟩) ∧ Below N W5 cur) (hr : SlE AV.enc 4 W5 lo hi A m) (hhi : hi ≤ N) (hm : m.length ≤ 16777216)
    (hgd : o.guard = none) {x : Operand} (ho : o.op = .call { callee := .builtin .append, args := #[.const (.slice none 0 0), x], argTypes := #[38, 38] }) (hx : a.eval x = .slice A m.length cm)
    (h : ∀ a' c' W', OwnV W' cur.heap.size (.slice a' m.length c') m → Below cur.heap.size cur W' → K (a.put o.dst (.slice a' m.length c')) W') : if Region.wanted o (yielded ops a.tmps) = true then Oper.wp Tryd.prog o a cur K Q else E := by
  obtain ⟨a', c', W', hrun, h1, h2⟩ := copy_val (cm := cm) (hr.below hS.2 hhi) hm
  exact st_append (s := .const (.slice none 0 0)) (x := x) hgd ho (by rw [hx]; exact hrun _) (h a' c' W' h1 h2)

/-- What the first part of other leaves: a copy of the value, whose list and keys are rows of the call's own. -/
structure Cop (W : World) (N g : Nat) (k : Int) (t : ByteArray) (a : Option Addr) (c : Nat) (l : List AV) (a2 : Option Addr) (c2 : Nat) (ks : List ByteArray) : Prop where
  big : N ≤ g
  lt : g < W.heap.size
  box : W.heap[g]? = some (.cells #[.int .u8 k, .string t, .slice a l.length c, .slice a2 ks.length c2] 41 (0, 0))
  own : OwnV W N (.slice a l.length c) l
  own2 : OwnS W N (.slice a2 ks.length c2) ks
  ne : ∀ q, (Value.slice a l.length c).ownBlock = some q → q ≠ g ∧ (Value.slice a2 ks.length c2).ownBlock ≠ some q
  ne2 : ∀ q, (Value.slice a2 ks.length c2).ownBlock = some q → q ≠ g

theorem Cop.of {Wf Ws Wv : World} {N g bs bv : Nat} {k : Int} {t : ByteArray} {a : Option Addr} {c : Nat} {l : List AV} {a2 : Option Addr} {c2 : Nat} {ks : List ByteArray} (hos : OwnS Ws bs (.slice a2 ks.length c2) ks) (hov : OwnV Wv bv (.slice a l.length c) l)
    (hbox : Wf.heap[g]? = some (.cells #[.int .u8 k, .string t, .slice a l.length c, .slice a2 ks.length c2] 41 (0, 0)))
    (h1 : ∀ q, q ≠ g → q < Ws.heap.size → Wf.heap[q]? = Ws.heap[q]?) (h2 : ∀ q, q ≠ g → q < Wv.heap.size → Wf.heap[q]? = Wv.heap[q]?) (z1 : Ws.heap.size ≤ Wf.heap.size) (z2 : Wv.heap.size ≤ Wf.heap.size) (hs : Wf.os = Ws.os ∧ Wf.tape = Ws.tape ∧ Wf.output = Ws.output) (hs2 : Wf.os = Wv.os ∧ Wf.tape = Wv.tape ∧ Wf.output = Wv.output)
    (n1 : N ≤ bs) (n2 : N ≤ bv) (n3 : N ≤ g) (hd : Ws.heap.size ≤ bv ∨ Wv.heap.size ≤ bs) (hgs : g < bs ∨ Ws.heap.size ≤ g) (hgv : g < bv ∨ Wv.heap.size ≤ g) : Cop Wf N g k t a c l a2 c2 ks := by
  have b1 : ∀ q, (Value.slice a2 ks.length c2).ownBlock = some q → bs ≤ q ∧ q < Ws.heap.size := hos.lt
  have b2 : ∀ q, (Value.slice a l.length c).ownBlock = some q → bv ≤ q ∧ q < Wv.heap.size := hov.lt
  refine ⟨n3, ?_, hbox, ?_, ?_, fun q hq => ⟨fun e => ?_, fun e => ?_⟩, fun q hq e => ?_⟩
  · rcases Nat.lt_or_ge g Wf.heap.size with h | h
    · exact h
    · rw [Array.getElem?_eq_none h] at hbox; cases hbox
  · have := World.ownsRow.kept (row := some g) (w' := Wf) hov ⟨hs2.1, hs2.2.1, hs2.2.2, z2, fun q hq hne => h2 q (fun e => hne (by rw [e])) hq⟩ (by
      cases hq : (Value.slice a l.length c).ownBlock with
      | none => exact .inl rfl
      | some q => exact .inr fun e => by injection e with e; have := b2 q hq; omega)
    exact ⟨this.1, this.2.imp id fun ⟨g', cap, cur, e1, e2, e3⟩ => ⟨g', cap, cur, e1, by omega, e3⟩⟩
  · have := World.ownsRow.kept (row := some g) (w' := Wf) hos ⟨hs.1, hs.2.1, hs.2.2, z1, fun q hq hne => h1 q (fun e => hne (by rw [e])) hq⟩ (by
      cases hq : (Value.slice a2 ks.length c2).ownBlock with
      | none => exact .inl rfl
      | some q => exact .inr fun e => by injection e with e; have := b1 q hq; omega)
    exact ⟨this.1, this.2.imp id fun ⟨g', cap, cur, e1, e2, e3⟩ => ⟨g', cap, cur, e1, by omega, e3⟩⟩
  · have := b2 q hq; omega
  · have := b2 q hq; have := b1 q e; omega
  · have := b1 q hq; omega

theorem frz_of_block {w w' : World} {a : Addr} (h : w'.heap[a.block]? = w.heap[a.block]?) : w'.frozen? a = w.frozen? a := by simp [World.frozen?, h]

/-- What is left when a part was another one. -/
theorem other_end {x y z : AV} {p n nn n2 m : Nat} {w wr w7 W9 : World} {gl c c2 : Nat} {a2 : Option Addr} (hx : x.In w 0 p) (hk : x.l[m]? = some y) (hch : Chg y.v z.v) (hz : z.Lies w7 p wr.heap.size w7.heap.size) (hkd : 0 ≤ x.k ∧ x.k ≤ 255) (hp : p < w.heap.size)
    (hcp : w7.cell? ⟨p, 0, none⟩ = some (.int .i64 n2)) (hcf : w7.frozen? ⟨p, 0, none⟩ = false) (hn1 : n2 ≤ nn) (hn2 : nn ≤ n) (hgw : w.grownBy wr (some p)) (hg7 : wr.grownBy w7 (some p)) (hb9 : ∀ q, q ≠ gl → q < w7.heap.size → W9.heap[q]? = w7.heap[q]?)
    (hl9 : SlE AV.enc 4 W9 (w.heap.size + 1 + 1) W9.heap.size (some ⟨gl, 0, none⟩) (x.l.set m z)) (hk9 : SlE strE 1 W9 (w.heap.size + 1 + 1) W9.heap.size a2 x.ks) (hob : W9.os = w7.os ∧ W9.tape = w7.tape ∧ W9.output = w7.output) (hs9 : w7.heap.size ≤ W9.heap.size)
    (hgl : w.heap.size + 1 + 1 ≤ gl) (hgl2 : gl < wr.heap.size) (hws : w.heap.size + 1 < wr.heap.size) {v0 v1 v2 v3 : Value} :
    OtherPost x.v p n w (.returned (.tuple #[.agg #[.int .u8 x.k, .string x.t, .slice (some ⟨gl, 0, none⟩) x.l.length c, .slice a2 x.ks.length c2], .bool true])) (set4 W9 (w.heap.size + 1) v0 v1 v2 v3) := by
  have h7 := hg7.size
  have ho : ∀ q, q ≠ gl → q ≠ w.heap.size + 1 → q < w7.heap.size → (set4 W9 (w.heap.size + 1) v0 v1 v2 v3).heap[q]? = w7.heap[q]? := fun q h1 h2 h3 => (old4 h2).trans (hb9 q h1 h3)
  have hsz : (set4 W9 (w.heap.size + 1) v0 v1 v2 v3).heap.size = W9.heap.size := size4
  have hl := (hl9.keep (w' := set4 W9 (w.heap.size + 1) v0 v1 v2 v3) (by rw [hsz]; exact Nat.le_refl _) fun q h1 h2 h3 => old4 (by omega)).widen (lo' := w.heap.size) (hi' := W9.heap.size) (by omega) (Nat.le_refl _)
  have hks := (hk9.keep (w' := set4 W9 (w.heap.size + 1) v0 v1 v2 v3) (by rw [hsz]; exact Nat.le_refl _) fun q h1 h2 h3 => old4 (by omega)).widen (lo' := w.heap.size) (hi' := W9.heap.size) (by omega) (Nat.le_refl _)
  have hos : (set4 W9 (w.heap.size + 1) v0 v1 v2 v3).os = W9.os ∧ (set4 W9 (w.heap.size + 1) v0 v1 v2 v3).tape = W9.tape ∧ (set4 W9 (w.heap.size + 1) v0 v1 v2 v3).output = W9.output := ⟨rfl, rfl, rfl⟩
  generalize set4 W9 (w.heap.size + 1) v0 v1 v2 v3 = Wf at *
  rw [← hsz] at hl hks
  refine ⟨⟨x.k, x.t, some ⟨gl, 0, none⟩, c, x.l.set m z, a2, c2, x.ks⟩, true, n2, ?_, fun _ => ⟨?_, ?_⟩, ?_, ?_, by omega, ?_⟩
  · show _ = Ending.returned (.tuple #[.agg #[.int .u8 x.k, .string x.t, .slice (some ⟨gl, 0, none⟩) (x.l.set m z).length c, .slice a2 x.ks.length c2], .bool true])
    rw [List.length_set]
  · have := Chg.kid (v := x.v) m (y := y.v) (z := z.v) (by rw [AV.v_l, List.getElem?_map, hk]; rfl) hch
    rw [AV.v_k, AV.v_t, AV.v_l, AV.v_ks, ← List.map_set] at this
    rw [AV.v_eq ⟨x.k, x.t, some ⟨gl, 0, none⟩, c, x.l.set m z, a2, c2, x.ks⟩]
    exact this
  · refine .new hl hks hkd fun y' hy' => ?_
    rcases List.mem_or_eq_of_mem_set hy' with h | rfl
    · exact .old ((((hx.grow hgw).grow hg7).kept (by rw [hsz]; omega) fun q h1 h2 h3 => ho q (by omega) (by omega) h3).kid h)
    · exact hz.kept (by rw [hsz]; omega) (by have := hgw.size; omega) (by rw [hsz]; omega) fun q h1 h2 => ho q (by omega) (by omega) h2
  · exact (World.cell?_of_block (w := w7) (w' := Wf) (a := ⟨p, 0, none⟩) (ho p (by omega) (by omega) (by have := hgw.size; omega))).trans hcp
  · exact (frz_of_block (w := w7) (w' := Wf) (a := ⟨p, 0, none⟩) (ho p (by omega) (by omega) (by have := hgw.size; omega))).trans hcf
  · exact ⟨(hos.1.trans hob.1).trans (hg7.os.trans hgw.os), (hos.2.1.trans hob.2.1).trans (hg7.tape.trans hgw.tape), (hos.2.2.trans hob.2.2).trans (hg7.output.trans hgw.output), by rw [hsz]; have := hgw.size; omega,
      fun q hq hne => (ho q (by omega) (by omega) (by have := hgw.size; omega)).trans ((hg7.block q (by have := hgw.size; omega) hne).trans (hgw.block q hq hne))⟩

/-- What is left when there was no such node. -/
theorem other_none {x : AV} {p n nn : Nat} {w wr : World} {a a2 : Option Addr} {c c2 : Nat} (hp : p < w.heap.size) (hcp : wr.cell? ⟨p, 0, none⟩ = some (.int .i64 nn)) (hcf : wr.frozen? ⟨p, 0, none⟩ = false) (hn2 : nn ≤ n) (hgw : w.grownBy wr (some p)) {v0 v1 v2 v3 : Value} :
    OtherPost x.v p n w (.returned (.tuple #[.agg #[.int .u8 x.k, .string x.t, .slice a x.l.length c, .slice a2 x.ks.length c2], .bool false])) (set4 wr (w.heap.size + 1) v0 v1 v2 v3) := by
  have ho : ∀ q, q ≠ w.heap.size + 1 → (set4 wr (w.heap.size + 1) v0 v1 v2 v3).heap[q]? = wr.heap[q]? := fun q h => old4 h
  have hsz : (set4 wr (w.heap.size + 1) v0 v1 v2 v3).heap.size = wr.heap.size := size4
  have hos : (set4 wr (w.heap.size + 1) v0 v1 v2 v3).os = wr.os ∧ (set4 wr (w.heap.size + 1) v0 v1 v2 v3).tape = wr.tape ∧ (set4 wr (w.heap.size + 1) v0 v1 v2 v3).output = wr.output := ⟨rfl, rfl, rfl⟩
  generalize set4 wr (w.heap.size + 1) v0 v1 v2 v3 = Wf at *
  refine ⟨⟨x.k, x.t, a, c, x.l, a2, c2, x.ks⟩, false, nn, rfl, (fun h => by cases h), ?_, ?_, hn2, ?_⟩
  · exact (World.cell?_of_block (w := wr) (w' := Wf) (a := ⟨p, 0, none⟩) (ho p (by omega))).trans hcp
  · exact (frz_of_block (w := wr) (w' := Wf) (a := ⟨p, 0, none⟩) (ho p (by omega))).trans hcf
  · exact ⟨hos.1.trans hgw.os, hos.2.1.trans hgw.tape, hos.2.2.trans hgw.output, by rw [hsz]; exact hgw.size, fun q hq hne => (ho q (by omega)).trans (hgw.block q hq hne)⟩

set_option maxRecDepth 100000 in
set_option maxHeartbeats 3200000 in
theorem other_pos (x : AV) (p n : Nat) (w : World) (hn : 0 < n) (hn2 : n ≤ 65536) (hx : x.In w 0 p) (hw : x.w ≤ 1048576) (hp : w.cell? ⟨p, 0, none⟩ = some (.int .i64 n)) (hpf : w.frozen? ⟨p, 0, none⟩ = false)
    (ih : ∀ y ∈ x.l, ∀ (m : Nat) (W : World), m < n → y.In W 0 p → W.cell? ⟨p, 0, none⟩ = some (.int .i64 m) → W.frozen? ⟨p, 0, none⟩ = false → Calls Tryd.prog 34 #[y.val, .pointer (some ⟨p, 0, none⟩)] W (OtherPost y.v p m W)) :
    Calls Tryd.prog 34 #[x.val, .pointer (some ⟨p, 0, none⟩)] w (OtherPost x.v p n w) := by
  have hpl := World.block_lt_of_cell? w ⟨p, 0, none⟩ hp
  have hpl2 : p < w.heap.size := hpl
  have hll := x.w_l
  have hlk := x.w_ks
  have hkd := hx.kind
  have hlb : x.l.length ≤ 1048576 := by omega
  have hlkb : x.ks.length ≤ 1048576 := by omega
  have hn0 : ((n : Int) == 0) = false := by rw [beq_eq_false_iff_ne]; omega
  have hsub : IntKind.i64.wrap ((n : Int) - 1) = ((n - 1 : Nat) : Int) := by rw [IntWalk.i64_in _ (by omega)]; omega
  have HX := Lib.hid hx
  have HI := Lib.hid ih
  clear ih hx
  go_enter Tryd.func34, Tryd.ntmps34
  go_wp2_with fail
  go_name_world W5 hW5
  have hz5 : W5.heap.size = w.heap.size + 1 + 1 := by rw [← hW5]; simp
  have hg5 : w.grownBy W5 (some p) := by
    rw [← hW5]
    exact grown_trans (w1 := w.setCell ⟨p, 0, none⟩ (.int .i64 ((n - 1 : Nat) : Int))) ⟨rfl, rfl, rfl, by simp, fun k _ hne => Below.heap_setCell w _ _ k (fun e => hne (by rw [e]))⟩ (grown_below (((Below.refl _ _).alloc (Nat.le_refl _) _).alloc (by simp) _))
  have hp5 : W5.cell? ⟨p, 0, none⟩ = some (.int .i64 ((n - 1 : Nat) : Int)) := by rw [← hW5]; clear hW5; go_simp
  have hf5 : W5.frozen? ⟨p, 0, none⟩ = false := by rw [← hW5]; clear hW5; go_simp
  have hbx5 : W5.heap[w.heap.size]? = some (.cells #[.int .u8 x.k, .string x.t, .slice x.la x.l.length x.lc, .slice x.ka x.ks.length x.kc] 41 (0, 0)) := by
    rw [← hW5, heap_alloc_old _ _ _ (by simp)]
    have := heap_alloc_new (w.setCell ⟨p, 0, none⟩ (.int .i64 ((n - 1 : Nat) : Int))) (.cells #[.int .u8 x.k, .string x.t, .slice x.la x.l.length x.lc, .slice x.ka x.ks.length x.kc] 41)
    simpa using this
  have hrb5 : W5.heap[w.heap.size + 1]? = some (.cells #[.int .u8 0, .string ⟨#[]⟩, .slice none 0 0, .slice none 0 0] 41 (0, 0)) := by
    rw [← hW5]
    have := heap_alloc_new ((w.setCell ⟨p, 0, none⟩ (.int .i64 ((n - 1 : Nat) : Int))).alloc (.cells #[.int .u8 x.k, .string x.t, .slice x.la x.l.length x.lc, .slice x.ka x.ks.length x.kc] 41)) (.cells #[.int .u8 0, .string ⟨#[]⟩, .slice none 0 0, .slice none 0 0] 41)
    simpa using this
  clear hW5 hsub hn0
  have hx5 := HX.out.grow hg5
  obtain ⟨q0, q1, q2, q3, -, -, -, -⟩ := vbox4 hbx5
  have hNN : w.heap.size + 1 + 1 ≤ W5.heap.size := by omega
  have HBX := Lib.hid hbx5
  have HRB := Lib.hid hrb5
  have HG5 := Lib.hid hg5
  have HX5 := Lib.hid hx5
  have HZ5 := Lib.hid hz5
  clear hbx5 hrb5 hg5 hx5 hz5
  go_cut [6] (fun t6 wx => ∃ g a c a2 c2, t6 = .pointer (some ⟨g, 0, none⟩) ∧ Cop wx (w.heap.size + 1 + 1) g x.k x.t a c x.l a2 c2 x.ks ∧ Below (w.heap.size + 1 + 1) W5 wx)
  case first =>
    go_region_held3 (fun w' => (∀ b o, b < w.heap.size + 1 + 1 → w'.cell? ⟨b, o, none⟩ = W5.cell? ⟨b, o, none⟩) ∧ Below (w.heap.size + 1 + 1) W5 w')
      (first
        | (with_reducible exact Q2.out)
        | (with_reducible exact Q1.out)
        | (with_reducible exact s_alloc hNN Q2.out _)
        | (with_reducible exact s_alloc hNN Q1.out _)
        | (with_reducible exact s_put4 hNN Q2.out (by omega))
        | (with_reducible exact s_put4 hNN Q1.out (by omega))
        | (with_reducible exact s_alloc0 hNN _)
        | (with_reducible refine s_alloc hNN (by assumption) _)
        | exact ⟨fun _ _ _ => rfl, (Below.refl _ _).drew⟩)
      (first
        | (refine st_copy_str (x := .tmp 33) hNN (by assumption) HX5.out.keys (by omega) (by omega) rfl rfl rfl ?_; intro a2 c2 Ws hos hbs; have Q1 := Lib.hid (s_step hNN (by assumption) hbs)
           obtain ⟨bs1, bs2⟩ := bcell hbs
           have hss := hbs.size
           try simp only [World.size_drew, World.size_alloc] at hss
           first | (have l1 : W5.heap.size < Ws.heap.size := by omega) | (have l1 : Wv.heap.size < Ws.heap.size := by omega) | skip)
        | (refine st_copy_val (x := .tmp 36) hNN (by assumption) HX5.out.sl (by omega) (by omega) rfl rfl rfl ?_; intro a1 c1 Wv hov hbv; have Q2 := Lib.hid (s_step hNN (by assumption) hbv)
           obtain ⟨bv1, bv2⟩ := bcell hbv
           have hvv := hbv.size
           try simp only [World.size_alloc] at hvv
           first | (have l1 : W5.heap.size < Wv.heap.size := by omega) | (have l1 : Ws.heap.size < Wv.heap.size := by omega) | skip))
    all_goals go_wp2_with fail
    all_goals go_meet
    · have z0 := hbs.size
      have z1 := hbv.size
      exact ⟨Wv.heap.size, a1, c1, a2, c2, rfl, Cop.of (bs := W5.heap.size) (bv := Ws.heap.size) hos hov (heap_alloc_new Wv _) (fun q _ hq => (heap_alloc_old Wv _ q (by omega)).trans (hbv.block q hq)) (fun q _ hq => heap_alloc_old _ _ _ hq) (by simp; omega) (by simp)
        ⟨hbv.os, hbv.tape, hbv.output⟩ ⟨rfl, rfl, rfl⟩ hNN (by simp at z0; omega) (by simp at z0; omega) (.inl (Nat.le_refl _)) (.inr z1) (.inr (Nat.le_refl _)), (s_alloc hNN Q2.out _).2⟩
    · have z0 := hbs.size
      have z1 := hbv.size
      simp only [World.size_drew, World.size_alloc] at z0 z1
      have hbk := heap_alloc_new Ws (.cells #[.int .u8 0, .string ⟨#[]⟩, .slice none 0 0, .slice none 0 0] 41)
      exact ⟨Ws.heap.size, a1, c1, a2, c2, rfl, Cop.of (Wf := put4 Wv Ws.heap.size 0 _ _ _ _) (bs := W5.heap.size) (bv := Ws.heap.size + 1) hos (by rw [World.size_alloc] at hov; exact hov) (put4_box ((hbv.block Ws.heap.size (by simp)).trans hbk)) (fun q hq hlt => (put4_old hq).trans ((hbv.block q (by simp; omega)).trans (heap_alloc_old Ws _ q hlt))) (fun q hq _ => put4_old hq)
        (by rw [put4_size]; omega) (by rw [put4_size]; exact Nat.le_refl _) ⟨hbv.os, hbv.tape, hbv.output⟩ ⟨rfl, rfl, rfl⟩ hNN (by omega) (by omega) (.inl (by omega)) (.inr (Nat.le_refl _)) (.inl (by omega)), (s_put4 hNN Q2.out (by omega)).2⟩
    · have z0 := hbs.size
      have z1 := hbv.size
      simp only [World.size_drew, World.size_alloc] at z0 z1
      have hbk := heap_alloc_new W5 (.cells #[.int .u8 0, .string ⟨#[]⟩, .slice none 0 0, .slice none 0 0] 41)
      exact ⟨W5.heap.size, a1, c1, a2, c2, rfl, Cop.of (Wf := put4 Wv W5.heap.size 0 _ _ _ _) (bs := W5.heap.size + 1) (bv := Ws.heap.size) (by rw [World.size_drew, World.size_alloc] at hos; exact hos) hov (put4_box ((hbv.block W5.heap.size (by omega)).trans ((hbs.block W5.heap.size (by simp)).trans hbk))) (fun q hq hlt => (put4_old hq).trans (hbv.block q hlt)) (fun q hq _ => put4_old hq)
        (by rw [put4_size]; omega) (by rw [put4_size]; exact Nat.le_refl _) ⟨hbv.os, hbv.tape, hbv.output⟩ ⟨rfl, rfl, rfl⟩ (by omega) (by omega) (by omega) (.inl (Nat.le_refl _)) (.inl (by omega)) (.inl (by omega)), (s_put4 hNN Q2.out (by omega)).2⟩
  case rest =>
    obtain ⟨g, a, c, a2, c2, rfl, hcop, hbc⟩ := hcut
    have hgc : w.grownBy wc (some p) := grown_trans HG5.out (grown_below (by rw [HZ5.out]; exact hbc))
    have hszc := hbc.size
    have hcp : wc.cell? ⟨p, 0, none⟩ = some (.int .i64 ((n - 1 : Nat) : Int)) := (hbc.cell (p := ⟨p, 0, none⟩) (by show p < w.heap.size + 1 + 1; omega)).trans hp5
    have hcf : wc.frozen? ⟨p, 0, none⟩ = false := (hbc.frozen (p := ⟨p, 0, none⟩) (by show p < w.heap.size + 1 + 1; omega)).trans hf5
    have hbxc := (hbc.block w.heap.size (by omega)).trans HBX.out
    have hrbc := (hbc.block (w.heap.size + 1) (by omega)).trans HRB.out
    have hbig := hcop.big
    have hglt := hcop.lt
    have hgl : ∀ q, (Value.slice a x.l.length c).ownBlock = some q → w.heap.size + 1 + 1 ≤ q ∧ q < wc.heap.size := hcop.own.lt
    have hgl2 : ∀ q, (Value.slice a2 x.ks.length c2).ownBlock = some q → w.heap.size + 1 + 1 ≤ q ∧ q < wc.heap.size := hcop.own2.lt
    have HCO := Lib.hid hcop
    have HBXC := Lib.hid hbxc
    have HRBC := Lib.hid hrbc
    have HGC := Lib.hid hgc
    clear hcop hbxc hrbc hgc q0 q1 q2 q3 hp5 hf5
    go_wp2_with fail
    go_loopw [7] (fun i wr => ∃ m nn : Nat, m ≤ x.l.length ∧ i = .int .i64 m ∧ wc.grownBy wr (some p) ∧ wr.cell? ⟨p, 0, none⟩ = some (.int .i64 nn) ∧ wr.frozen? ⟨p, 0, none⟩ = false ∧ nn < n) (fun i _ => x.l.length - (intOf i).toNat)
    case atStart => exact ⟨0, n - 1, Nat.zero_le _, rfl, World.grownBy.refl wc _, hcp, hcf, by omega⟩
    clear hcp hcf
    case round =>
      obtain ⟨m, nn, hml, rfl, hgr, hcp, hcf, hnn⟩ := hrel
      have hszr := hgr.size
      have blk : ∀ q, q < wc.heap.size → q ≠ p → wr.heap[q]? = wc.heap[q]? := fun q hq hne => hgr.block q hq (fun e => hne (by injection e))
      obtain ⟨q0, q1, q2, q3, -, -, -, -⟩ := vbox4 ((blk w.heap.size (by omega) (by omega)).trans HBXC.out)
      have hgw := grown_trans HGC.out hgr
      have hxr := HX.out.grow hgw
      have HBLK := Lib.hid blk
      have HGR := Lib.hid hgr
      have HGW := Lib.hid hgw
      have HXR := Lib.hid hxr
      clear blk hgr hgw hxr
      by_cases hlt : m < x.l.length
      · have hks : x.l[m]? = some x.l[m] := List.getElem?_eq_getElem hlt
        have hmem : x.l[m] ∈ x.l := List.getElem_mem hlt
        generalize x.l[m] = y at *
        obtain ⟨b, off, hla, -, hb1, hb2, h0, h1, h2, h3⟩ := vals_at HXR.out.sl hks
        have hlt' : (m : Int) < (x.l.length : Int) := by omega
        have HC := Lib.hid (HI.out y hmem nn wr hnn (HXR.out.kid hmem) hcp hcf)
        have HK := Lib.hid hks
        obtain ⟨gl, cc, hown0, hgl0, hgl1⟩ : ∃ gl cc, Value.slice a x.l.length c = .slice (some ⟨gl, 0, none⟩) x.l.length cc ∧ w.heap.size + 1 + 1 ≤ gl ∧ gl < wc.heap.size := by
          obtain ⟨gl, cc, e, h1, h2⟩ := HCO.out.own.form (by omega)
          exact ⟨gl, cc, e, h1, h2⟩
        injection hown0 with ha hc1 hc2
        subst ha
        subst hc2
        have hgne := HCO.out.ne gl rfl
        rw [hla] at q2
        clear hks hla
        go_wp2_with fail
        refine HC.out.mono ?_
        rintro e w7 ⟨z, d, n2, rfl, hz, hcp7, hcf7, hn2', hg7⟩
        have hs7 := hg7.size
        have blk7 : ∀ q, q < wc.heap.size → q ≠ p → w7.heap[q]? = wc.heap[q]? := fun q hq hne => (hg7.block q (by omega) (fun e => hne (by injection e))).trans (HBLK.out q hq hne)
        obtain ⟨r0, r1, r2, r3, -, -, -, -⟩ := vbox4 ((blk7 g hglt (by omega)).trans HCO.out.box)
        have hpw7 := World.block_lt_of_cell? w7 ⟨p, 0, none⟩ hcp7
        have hpw7' : p < w7.heap.size := hpw7
        cases d with
        | false =>
          have HG7 := Lib.hid hg7
          clear hz hg7 blk7
          go_wp2_with fail
          refine ⟨⟨m + 1, n2, by omega, by go_num, grown_trans HGR.out (grown_trans HG7.out (grown_below ((Below.refl _ _).alloc (Nat.le_refl _) _))), ?_, ?_, by omega⟩, by simp [intOf]; omega⟩
          · exact (((Below.refl w7.heap.size w7).alloc (Nat.le_refl _) _).cell (p := ⟨p, 0, none⟩) hpw7').trans hcp7
          · exact (((Below.refl w7.heap.size w7).alloc (Nat.le_refl _) _).frozen (p := ⟨p, 0, none⟩) hpw7').trans hcf7
        | true =>
          obtain ⟨hchg, hzl⟩ := hz rfl
          have hg8 : wc.grownBy (w7.alloc (.cells #[.int .u8 z.k, .string z.t, .slice z.la z.l.length z.lc, .slice z.ka z.ks.length z.kc] 41)) (some p) := grown_trans HGR.out (grown_trans hg7 (grown_below ((Below.refl _ _).alloc (Nat.le_refl _) _)))
          have hown7 : OwnV w7 (w.heap.size + 1 + 1) (.slice (some ⟨gl, 0, none⟩) x.l.length c) x.l :=
            World.ownsRow.kept (row := some p) HCO.out.own (grown_trans HGR.out hg7) (.inr (by simp only [Value.ownBlock]; intro e; injection e with e; omega))
          have cc4 : ∀ j, j < 4 → ∃ u, w7.cell? ⟨gl, m * 4 + j, none⟩ = some u := fun j hj => by
            have := hown7.cellAt (m * 4 + j) (by omega)
            rw [this]
            exact ⟨_, List.getElem?_eq_getElem (by rw [flat_len AV.enc_len]; omega)⟩
          obtain ⟨v0, c0⟩ := cc4 0 (by omega)
          obtain ⟨v1, c1⟩ := cc4 1 (by omega)
          obtain ⟨v2, c2'⟩ := cc4 2 (by omega)
          obtain ⟨v3, c3⟩ := cc4 3 (by omega)
          rw [Nat.add_zero] at c0
          have f0 := hown7.frozenAt (m * 4)
          have f1 := hown7.frozenAt (m * 4 + 1)
          have f2 := hown7.frozenAt (m * 4 + 2)
          have f3 := hown7.frozenAt (m * 4 + 3)
          have hlw : gl < w7.heap.size := by omega
          have hgw7 : g < w7.heap.size := by omega
          have HZ := Lib.hid hzl
          have HCH := Lib.hid hchg
          have HG8 := Lib.hid hg8
          have HO7 := Lib.hid hown7
          have HG7 := Lib.hid hg7
          have HB7 := Lib.hid blk7
          clear hz hzl hchg hg8 hown7 hg7 cc4 blk7
          go_upto_region 13 with fail
          go_name_world W9 hW9
          have hp9 : W9 = (put4 w7 gl (m * 4) (.int .u8 z.k) (.string z.t) (.slice z.la z.l.length z.lc) (.slice z.ka z.ks.length z.kc)).alloc (.cells #[.int .u8 z.k, .string z.t, .slice z.la z.l.length z.lc, .slice z.ka z.ks.length z.kc] 41) := hW9.symm
          clear hW9
          have hs9 : W9.heap.size = w7.heap.size + 1 := by rw [hp9, World.size_alloc, put4_size]
          have hb9 : ∀ q, q ≠ gl → q < w7.heap.size → W9.heap[q]? = w7.heap[q]? := fun q hq hlt => by rw [hp9, heap_alloc_old _ _ _ (by rw [put4_size]; exact hlt), put4_old hq]
          have hl9 : SlE AV.enc 4 W9 (w.heap.size + 1 + 1) W9.heap.size (some ⟨gl, 0, none⟩) (x.l.set m z) := by
            have := HO7.out.put rfl hlt z
            rw [hp9]
            exact (this.below' ((Below.refl _ _).alloc (Nat.le_refl _) _)).widen (Nat.le_refl _) (by rw [World.size_alloc, put4_size]; omega)
          have hk9 : SlE strE 1 W9 (w.heap.size + 1 + 1) W9.heap.size a2 x.ks := by
            have h8 : OwnS w7 (w.heap.size + 1 + 1) (.slice a2 x.ks.length c2) x.ks := World.ownsRow.kept (row := some p) HCO.out.own2 (grown_trans HGR.out HG7.out) (by
              cases hq : (Value.slice a2 x.ks.length c2).ownBlock with
              | none => exact .inl rfl
              | some q => exact .inr fun e => by injection e with e; have := hgl2 q hq; omega)
            have h9 : OwnS (put4 w7 gl (m * 4) (.int .u8 z.k) (.string z.t) (.slice z.la z.l.length z.lc) (.slice z.ka z.ks.length z.kc)) (w.heap.size + 1 + 1) (.slice a2 x.ks.length c2) x.ks := World.ownsRow.kept (row := some gl) h8 put4_grown (by
              cases hq : (Value.slice a2 x.ks.length c2).ownBlock with
              | none => exact .inl rfl
              | some q => exact .inr fun e => hgne.2 (by rw [hq, e]))
            rw [hp9]
            exact own_sl (enc := strE) (size := 1) (fun _ => rfl) (own_below h9 ((Below.refl _ _).alloc (Nat.le_refl _) _))
          have hob9 : W9.os = w7.os ∧ W9.tape = w7.tape ∧ W9.output = w7.output := by rw [hp9]; exact ⟨rfl, rfl, rfl⟩
          clear hp9
          obtain ⟨t0, t1, t2, t3, -, -, -, -⟩ := vbox4 ((hb9 g hgne.1.symm hgw7).trans ((HB7.out g hglt (by omega)).trans HCO.out.box))
          obtain ⟨s0, s1, s2, s3, y0, y1, y2, y3⟩ := vbox4 ((hb9 (w.heap.size + 1) (by omega) (by omega)).trans ((HB7.out (w.heap.size + 1) (by omega) (by omega)).trans HRBC.out))
          have HB9 := Lib.hid hb9
          have HL9 := Lib.hid hl9
          have HK9 := Lib.hid hk9
          have HOB := Lib.hid hob9
          have HS9 := Lib.hid hs9
          clear hb9 hl9 hk9 hob9 hs9
          go_wp2_with fail
          refine bodyPost_ret (v := .tuple #[.agg #[.int .u8 x.k, .string x.t, .slice (some ⟨gl, 0, none⟩) x.l.length c, .slice a2 x.ks.length c2], .bool true]) (by simp [results, Tryd.results34, go_sem, s0, s1, s2, s3]) rfl (other_end (z := z) (y := y) (m := m) (wr := wr) (w7 := w7) (W9 := W9) (gl := gl) HX.out HK.out HCH.out HZ.out hkd hpl2 hcp7 hcf7 hn2' (by omega) HGW.out HG7.out HB9.out HL9.out HK9.out HOB.out (by rw [HS9.out]; omega) (by omega) (by omega) (by omega))
      · obtain rfl : m = x.l.length := by omega
        have hge : ¬ (x.l.length : Int) < (x.l.length : Int) := by omega
        obtain ⟨t0, t1, t2, t3, -, -, -, -⟩ := vbox4 ((HBLK.out g hglt (by omega)).trans HCO.out.box)
        obtain ⟨s0, s1, s2, s3, y0, y1, y2, y3⟩ := vbox4 ((HBLK.out (w.heap.size + 1) (by omega) (by omega)).trans HRBC.out)
        have hpw := World.block_lt_of_cell? wr ⟨p, 0, none⟩ hcp
        go_wp2_with fail
        refine bodyPost_ret (v := .tuple #[.agg #[.int .u8 x.k, .string x.t, .slice a x.l.length c, .slice a2 x.ks.length c2], .bool false]) (by simp [results, Tryd.results34, go_sem, s0, s1, s2, s3]) rfl (other_none (a := a) (c := c) (a2 := a2) (c2 := c2) hpl2 hcp hcf (by omega) HGW.out)

theorem other_c : ∀ (x : AV) (p n : Nat) (w : World), n ≤ 65536 → x.In w 0 p → x.w ≤ 1048576 → w.cell? ⟨p, 0, none⟩ = some (.int .i64 n) → w.frozen? ⟨p, 0, none⟩ = false → Calls Tryd.prog 34 #[x.val, .pointer (some ⟨p, 0, none⟩)] w (OtherPost x.v p n w) :=
  AV.ind fun x ih p n w hn hx hw hp hpf => by
    rcases Nat.eq_zero_or_pos n with h | h
    · subst h
      exact other_zero x p w hw hx.kind hp hpf
    · exact other_pos x p n w h hn hx hw hp hpf fun y hy m W hm hy' hp' hf' => ih y hy p m W (by omega) hy' (by have := x.w_kid hy; omega) hp' hf'
end Go.Proofs.YtdapimjhjnbfdaaDoor
