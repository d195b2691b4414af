/-
  inarchlaw14.Twin: a value in new memory, with room behind its lists that bears a mark. Conditions: the tree lies in memory, its weight is bounded.
  inarchlaw14.Twin: a value in new memory, with room behind its lists that bears a mark. Conditions: the tree lies in memory, its weight is bounded.
  inarchlaw14.Left at a twin and the value that it was made of: true. Conditions: both lie in memory, the value's weight is bounded.
-/
import Derived.Test.YtmhkacafilpliaaGreatVS
import Derived.Laws.MakeOwn
namespace Go.Proofs.YtmhkacafilpliaaGreat
open Go.RowKit Go.Sort

def mkS : ByteArray := ⟨#[109, 97, 114, 107]⟩
/-- The mark behind a list of values. -/
def mAV : AV := ⟨0, mkS, none, 0, [], none, 0, []⟩
/-- A twin, as it lies: behind each list there is room, and a mark. -/
inductive AV.Tw (w : World) (lo hi : Nat) : AV → Prop
  | mk {x : AV} (h1 : SlE AV.enc 4 w lo hi x.la (x.l ++ [mAV])) (h2 : SlE strE 1 w lo hi x.ka (x.ks ++ [mkS])) (h3 : 0 ≤ x.k ∧ x.k ≤ 255) (h4 : x.l.length < x.lc) (h5 : x.ks.length < x.kc) (h6 : ∀ y ∈ x.l, AV.Tw w lo hi y) : AV.Tw w lo hi x
section
variable {w w' : World} {lo hi : Nat} {x y : AV}
theorem AV.Tw.sl (h : x.Tw w lo hi) : SlE AV.enc 4 w lo hi x.la (x.l ++ [mAV]) := by cases h; assumption
theorem AV.Tw.keys (h : x.Tw w lo hi) : SlE strE 1 w lo hi x.ka (x.ks ++ [mkS]) := by cases h; assumption
theorem AV.Tw.kind (h : x.Tw w lo hi) : 0 ≤ x.k ∧ x.k ≤ 255 := by cases h; assumption
theorem AV.Tw.cap (h : x.Tw w lo hi) : x.l.length < x.lc := by cases h; assumption
theorem AV.Tw.cap2 (h : x.Tw w lo hi) : x.ks.length < x.kc := by cases h; assumption
theorem AV.Tw.kid (h : x.Tw w lo hi) (hy : y ∈ x.l) : y.Tw w lo hi := by cases h with | mk _ _ _ _ _ h => exact h y hy
theorem AV.Tw.imp {lo' hi' : Nat} (hS : ∀ {α : Type} {enc : α → List Value} {size : Nat} {a : Option Addr} {l : List α}, SlE enc size w lo hi a l → SlE enc size w' lo' hi' a l) : ∀ x : AV, x.Tw w lo hi → x.Tw w' lo' hi' :=
  AV.ind fun _ ih h => .mk (hS h.sl) (hS h.keys) h.kind h.cap h.cap2 fun y hy => ih y hy (h.kid hy)
theorem AV.Tw.blw (h : x.Tw w lo hi) {B : Nat} (hb : Below B w w') (hB : hi ≤ B) : x.Tw w' lo hi := AV.Tw.imp (fun h => h.below hb hB) x h
theorem AV.Tw.blw' (h : x.Tw w lo hi) (hb : Below w.heap.size w w') : x.Tw w' lo hi := AV.Tw.imp (fun h => h.below' hb) x h
theorem AV.Tw.widen {lo' hi' : Nat} (h : x.Tw w lo hi) (h1 : lo' ≤ lo) (h2 : hi ≤ hi') : x.Tw w lo' hi' := AV.Tw.imp (fun h => h.widen h1 h2) x h
theorem AV.Tw.clamp (h : x.Tw w lo hi) : x.Tw w lo w.heap.size := AV.Tw.imp (fun h => h.clamp) x h
theorem AV.Tw.kept {s e : Nat} (h : x.Tw w s e) (hs : w.heap.size ≤ w'.heap.size) (hk : ∀ k, s ≤ k → k < e → k < w.heap.size → w'.heap[k]? = w.heap[k]?) : x.Tw w' s e := AV.Tw.imp (fun h => h.keep hs hk) x h
theorem AV.Tw.up (h : x.Tw w 0 w.heap.size) (hb : Below w.heap.size w w') : x.Tw w' 0 w'.heap.size := ((h.blw' hb).clamp)
theorem sl_front {α : Type} {enc : α → List Value} {size : Nat} {a : Option Addr} {l m : List α} (h : SlE enc size w lo hi a (l ++ m)) : SlE enc size w lo hi a l := by
  have := h.take l.length
  rwa [List.take_left] at this
theorem AV.Tw.rd : ∀ x : AV, x.Tw w lo hi → x.In w lo hi := AV.ind fun _x ih h => .mk (sl_front h.sl) (sl_front h.keys) h.kind fun y hy => ih y hy (h.kid hy)
end
def TwinVPost (v : Val) (w : World) (e : Ending) (w' : World) : Prop := ∃ y : AV, e = .returned y.val ∧ y.v = v ∧ y.Tw w' w.heap.size w'.heap.size ∧ Below w.heap.size w w'

theorem own_formV {w : World} {base : Nat} {v : Value} {l : List AV} (h : OwnV w base v l) : ∃ a c, v = .slice a l.length c := by
  rcases h.2 with ⟨e, h0⟩ | ⟨g, cap, cur, e, _⟩
  · exact ⟨none, 0, by rw [e, h0]⟩
  · exact ⟨_, _, e⟩
theorem own_formS {w : World} {base : Nat} {v : Value} {l : List ByteArray} (h : OwnS w base v l) : ∃ a c, v = .slice a l.length c := by
  rcases h.2 with ⟨e, h0⟩ | ⟨g, cap, cur, e, _⟩
  · exact ⟨none, 0, by rw [e, h0]⟩
  · exact ⟨_, _, e⟩
/-- What make(T, 0, c) is: a row of the call's own, in whatever world. -/
theorem make_str (c : Nat) (hc : c ≤ 1048577) : ∃ mc, ∀ W : World, (Instr.makeSlice 24 (.int .i64 0) (.int .i64 (c : Int))).run Tryz.prog W = .ok (.slice (some ⟨W.heap.size, 0, none⟩) 0 c) (W.alloc (.cells mc 9)) ∧ ∀ base, base ≤ W.heap.size → OwnS (W.alloc (.cells mc 9)) base (.slice (some ⟨W.heap.size, 0, none⟩) 0 c) [] := by
  obtain ⟨i0, hi, hz0, hz1, hz2⟩ := info_parts info_str
  refine ⟨madeCells (Value.string ⟨#[]⟩).cells (c * i0.size), fun W => ?_⟩
  have h := run_make (P := Tryz.prog) W 24 9 i0 _ Tryz.underlying24 hi hz0 .i64 .i64 0 c (Int.le_refl _) (by omega) (by rw [hz2]; omega) (by omega)
  rw [Int.toNat_natCast] at h
  refine ⟨h, fun base hb => ?_⟩
  obtain ⟨w0, hmk, hown0, -⟩ := run_make_own (P := Tryz.prog) W base 24 9 i0 _ 1 Tryz.underlying24 hi hz0 hz1 .i64 .i64 c (by rw [hz2]; omega) (by simp only [maxLen]; omega) hb
  rw [h] at hmk
  injection hmk with _ e
  rw [e]
  exact hown0
theorem make_val (c : Nat) (hc : c ≤ 1048577) : ∃ mc, ∀ W : World, (Instr.makeSlice 23 (.int .i64 0) (.int .i64 (c : Int))).run Tryz.prog W = .ok (.slice (some ⟨W.heap.size, 0, none⟩) 0 c) (W.alloc (.cells mc 26)) ∧ ∀ base, base ≤ W.heap.size → OwnV (W.alloc (.cells mc 26)) base (.slice (some ⟨W.heap.size, 0, none⟩) 0 c) [] := by
  obtain ⟨i0, hi, hz0, hz1, hz2⟩ := info_parts info_val
  refine ⟨madeCells (Value.agg #[.int .u8 0, .string ⟨#[]⟩, .slice none 0 0, .slice none 0 0]).cells (c * i0.size), fun W => ?_⟩
  have h := run_make (P := Tryz.prog) W 23 26 i0 _ Tryz.underlying23 hi hz0 .i64 .i64 0 c (Int.le_refl _) (by omega) (by rw [hz2]; omega) (by omega)
  rw [Int.toNat_natCast] at h
  refine ⟨h, fun base hb => ?_⟩
  obtain ⟨w0, hmk, hown0, -⟩ := run_make_own (P := Tryz.prog) W base 23 26 i0 _ 4 Tryz.underlying23 hi hz0 hz1 .i64 .i64 c (by rw [hz2]; omega) (by simp only [maxLen]; omega) hb
  rw [h] at hmk
  injection hmk with _ e
  rw [e]
  exact hown0
theorem lit_mark (W : World) : SlE strE 1 (W.alloc (.cells #[.string mkS] 9)) W.heap.size (W.heap.size + 1) (some ⟨W.heap.size, 0, none⟩) [mkS] := lit_sl (enc := strE) (size := 1) (l := [mkS]) (t := 9) (fr := (0, 0)) (fun _ => rfl) (heap_alloc_new _ _)
theorem lit_markV (W : World) : SlE AV.enc 4 (W.alloc (.cells #[.int .u8 0, .string mkS, .slice none 0 0, .slice none 0 0] 26)) W.heap.size (W.heap.size + 1) (some ⟨W.heap.size, 0, none⟩) [mAV] := lit_sl (enc := AV.enc) (size := 4) (l := [mAV]) (t := 26) (fr := (0, 0)) AV.enc_len (heap_alloc_new _ _)
theorem s_alloc0' {N : Nat} {W2 : World} (hN : N ≤ W2.heap.size) (o : Obj) : (∀ b o', b < N → ((W2.drew).alloc o).cell? ⟨b, o', none⟩ = W2.cell? ⟨b, o', none⟩) ∧ Below N W2 ((W2.drew).alloc o) := by
  have hb : Below N W2 ((W2.drew).alloc o) := ((Below.refl _ _).drew).alloc hN _
  exact ⟨fun b o' hlt => hb.cell (p := ⟨b, o', none⟩) hlt, hb⟩
theorem lit_o2 (W : World) (o : Obj) : SlE strE 1 ((W.alloc o).alloc (.cells #[.string mkS] 9)).drew (W.heap.size + 1) (W.heap.size + 1 + 1) (some ⟨W.heap.size + 1, 0, none⟩) [mkS] := by
  refine lit_sl (enc := strE) (size := 1) (l := [mkS]) (t := 9) (fr := (0, 0)) (fun _ => rfl) ?_
  have := heap_alloc_new (W.alloc o) (.cells #[.string mkS] 9)
  rw [World.size_alloc] at this
  exact this
theorem lit_o1 (W : World) (o : Obj) : SlE strE 1 ((W.alloc (.cells #[.string mkS] 9)).alloc o).drew W.heap.size (W.heap.size + 1) (some ⟨W.heap.size, 0, none⟩) [mkS] := by
  refine lit_sl (enc := strE) (size := 1) (l := [mkS]) (t := 9) (fr := (0, 0)) (fun _ => rfl) ?_
  exact (heap_alloc_old (W.alloc (.cells #[.string mkS] 9)) o W.heap.size (by simp)).trans (heap_alloc_new W _)
theorem s_of {N : Nat} {W2 w' : World} (hb : Below N W2 w') : (∀ b o, b < N → w'.cell? ⟨b, o, none⟩ = W2.cell? ⟨b, o, none⟩) ∧ Below N W2 w' := ⟨fun b o hlt => hb.cell (p := ⟨b, o, none⟩) hlt, hb⟩
theorem s_stepN {N : Nat} {W2 w' w1 : World} (h : (∀ b o, b < N → w'.cell? ⟨b, o, none⟩ = W2.cell? ⟨b, o, none⟩) ∧ Below N W2 w') (hb : Below N w' w1) :
    (∀ b o, b < N → w1.cell? ⟨b, o, none⟩ = W2.cell? ⟨b, o, none⟩) ∧ Below N W2 w1 := by
  have hb' := h.2.trans hb
  exact ⟨fun b o hlt => hb'.cell (p := ⟨b, o, none⟩) hlt, hb'⟩
/-- An append to a row of the call's own, as a step of a region that draws its order. -/
theorem st_app_str {ops : Array Oper} {o : Oper} {a : Act} {K : Act → World → Prop} {Q : Exit → Act → World → Prop} {E : Prop} {cur : World} {base : Nat} {v : Value} {l : List ByteArray} (hown : OwnS cur base v l) (hbase : base ≤ cur.heap.size) {lo hi : Nat} {A : Option Addr} {m : List ByteArray} {cm : Nat}
    (hr : SlE strE 1 cur lo hi A m) (hm : l.length + m.length ≤ 16777216)
    (hgd : o.guard = none) {s x : Operand} (ho : o.op = .call { callee := .builtin .append, args := #[s, x], argTypes := #[24, 24] }) (hs : a.eval s = v) (hx : a.eval x = .slice A m.length cm)
    (h : ∀ a' c' W', (0 < (l ++ m).length → ∃ g, a' = some ⟨g, 0, none⟩) → OwnS W' base (.slice a' (l ++ m).length c') (l ++ m) → cur.grownBy W' v.ownBlock → Below base cur W' → K (a.put o.dst (.slice a' (l ++ m).length c')) W') : if Region.wanted o (yielded ops a.tmps) = true then Oper.wp Tryz.prog o a cur K Q else E := by
  obtain ⟨v', W', hrun, h1, h2, -⟩ := app_str (c := cm) hown hr hm hbase
  obtain ⟨a', c', rfl⟩ := own_formS h1
  exact st_append (s := s) (x := x) hgd ho (by rw [hx, hs]; exact hrun _) (h a' c' W' (fun hp => by obtain ⟨g, cap, e, -⟩ := World.ownsRow.form h1 hp; injection e with e; exact ⟨g, e⟩) h1 h2 (below_of_grown h2 hbase fun k hk => (World.ownsRow.lt hown k hk).1))
theorem st_app_val {ops : Array Oper} {o : Oper} {a : Act} {K : Act → World → Prop} {Q : Exit → Act → World → Prop} {E : Prop} {cur : World} {base : Nat} {v : Value} {l : List AV} (hown : OwnV cur base v l) (hbase : base ≤ cur.heap.size) {lo hi : Nat} {A : Option Addr} {m : List AV} {cm : Nat}
    (hr : SlE AV.enc 4 cur lo hi A m) (hm : l.length + m.length ≤ 16777216)
    (hgd : o.guard = none) {s x : Operand} (ho : o.op = .call { callee := .builtin .append, args := #[s, x], argTypes := #[23, 23] }) (hs : a.eval s = v) (hx : a.eval x = .slice A m.length cm)
    (h : ∀ a' c' W', (0 < (l ++ m).length → ∃ g, a' = some ⟨g, 0, none⟩) → OwnV W' base (.slice a' (l ++ m).length c') (l ++ m) → cur.grownBy W' v.ownBlock → Below base cur W' → K (a.put o.dst (.slice a' (l ++ m).length c')) W') : if Region.wanted o (yielded ops a.tmps) = true then Oper.wp Tryz.prog o a cur K Q else E := by
  obtain ⟨v', W', hrun, h1, h2, -⟩ := app_val (c := cm) hown hr hm hbase
  obtain ⟨a', c', rfl⟩ := own_formV h1
  exact st_append (s := s) (x := x) hgd ho (by rw [hx, hs]; exact hrun _) (h a' c' W' (fun hp => by obtain ⟨g, cap, e, -⟩ := World.ownsRow.form h1 hp; injection e with e; exact ⟨g, e⟩) h1 h2 (below_of_grown h2 hbase fun k hk => (World.ownsRow.lt hown k hk).1))
theorem own_at1 {W W' : World} {o : Obj} {base n c : Nat} {l : List ByteArray} (h : OwnS W' base (.slice (some ⟨(W.alloc o).heap.size, 0, none⟩) n c) l) : OwnS W' base (.slice (some ⟨W.heap.size + 1, 0, none⟩) n c) l := by rwa [World.size_alloc] at h
theorem st_app_val2 {ops : Array Oper} {o : Oper} {a : Act} {K : Act → World → Prop} {Q : Exit → Act → World → Prop} {E : Prop} {W0 cur : World} {base : Nat} {v : Value} {l : List AV} (hown : OwnV W0 base v l) (h0 : Below W0.heap.size W0 cur) (hbase : base ≤ W0.heap.size) {lo hi : Nat} {A : Option Addr} {m : List AV} {cm : Nat}
    (hr : SlE AV.enc 4 cur lo hi A m) (hm : l.length + m.length ≤ 16777216) (hpos : 0 < (l ++ m).length)
    (hgd : o.guard = none) {s x : Operand} (ho : o.op = .call { callee := .builtin .append, args := #[s, x], argTypes := #[23, 23] }) (hs : a.eval s = v) (hx : a.eval x = .slice A m.length cm)
    (h : ∀ g c' W', OwnV W' base (.slice (some ⟨g, 0, none⟩) (l ++ m).length c') (l ++ m) → (∀ k, k < W0.heap.size → (∀ q, v.ownBlock = some q → k ≠ q) → W'.heap[k]? = W0.heap[k]?) → W0.heap.size ≤ W'.heap.size → Below base W0 W' → K (a.put o.dst (.slice (some ⟨g, 0, none⟩) (l ++ m).length c')) W') : if Region.wanted o (yielded ops a.tmps) = true then Oper.wp Tryz.prog o a cur K Q else E := by
  refine st_app_val (own_below hown h0) (Nat.le_trans hbase h0.size) hr hm hgd ho hs hx fun a' c' W' hg h1 h2 h3 => ?_
  obtain ⟨g, rfl⟩ := hg hpos
  exact h g c' W' h1 (fun k hk hne => (h2.block k (Nat.lt_of_lt_of_le hk h0.size) (fun e => hne k e.symm rfl)).trans (h0.block k hk)) (Nat.le_trans h0.size h2.size) ((h0.mono hbase).trans h3)
/-- What a row's growth leaves. -/
theorem sl_kept {α : Type} {enc : α → List Value} {size lo hi r : Nat} {w w' : World} {a : Option Addr} {l : List α} (h : SlE enc size w lo hi a l) (hg : w.grownBy w' (some r)) (hr : r < lo ∨ hi ≤ r) : SlE enc size w' lo hi a l :=
  h.keep hg.size fun k h1 h2 h3 => hg.block k h3 (fun e => by injection e with e; omega)
end Go.Proofs.YtmhkacafilpliaaGreat

namespace Go.Proofs.YtmhkacafilpliaaGreat
open Go.RowKit Go.Sort

set_option maxRecDepth 100000 in
set_option maxHeartbeats 3200000 in
theorem twin14_c : ∀ (x : AV) (w : World), Rd w x → x.w ≤ 1048576 → Calls Tryz.prog 9 #[x.val] w (TwinVPost x.v w) := AV.ind fun x ih w hx hw => by
  have hll := x.w_l
  have hlk := x.w_ks
  have hkd := hx.kind
  have hlb : x.l.length ≤ 1048576 := by omega
  have hlkb : x.ks.length ≤ 1048576 := by omega
  obtain ⟨mc, hmk⟩ := make_val (x.l.length + 1) (by omega)
  obtain ⟨mc2, hmk2⟩ := make_str (x.ks.length + 1) (by omega)
  have hr1 : ∀ W : World, (Instr.makeSlice 23 (.int .i64 0) (.int .i64 ((x.l.length : Int) + 1))).run Tryz.prog W = .ok (.slice (some ⟨W.heap.size, 0, none⟩) 0 (x.l.length + 1)) (W.alloc (.cells mc 26)) := fun W => (hmk W).1
  have hr2 : ∀ W : World, (Instr.makeSlice 24 (.int .i64 0) (.int .i64 ((x.ks.length : Int) + 1))).run Tryz.prog W = .ok (.slice (some ⟨W.heap.size, 0, none⟩) 0 (x.ks.length + 1)) (W.alloc (.cells mc2 9)) := fun W => (hmk2 W).1
  have HO1 := fun W base h => Lib.hid ((hmk W).2 base h)
  have HO2 := fun W base h => Lib.hid ((hmk2 W).2 base h)
  have hw1 : IntKind.i64.wrap ((x.l.length : Int) + 1) = (x.l.length : Int) + 1 := IntWalk.i64_in _ (by omega)
  have hw2 : IntKind.i64.wrap ((x.ks.length : Int) + 1) = (x.ks.length : Int) + 1 := IntWalk.i64_in _ (by omega)
  have HX := Lib.hid hx
  have HI := fun (y : AV) (hy : y ∈ x.l) (W : World) (hb : Below w.heap.size w W) => Lib.hid (ih y hy W (hx.kid_at hb hy) (Nat.le_trans (Nat.le_of_lt (AV.w_kid hy)) hw))
  obtain ⟨W0, hW0⟩ : ∃ W0, W0 = (w.alloc (.cells #[.int .u8 x.k, .string x.t, .slice x.la x.l.length x.lc, .slice x.ka x.ks.length x.kc] 26)).alloc (.cells #[.int .u8 0, .string ⟨#[]⟩, .slice none 0 0, .slice none 0 0] 26) := ⟨_, rfl⟩
  have hz0 : W0.heap.size = w.heap.size + 2 := by rw [hW0]; simp
  have hbx0 : W0.heap[w.heap.size]? = some (.cells #[.int .u8 x.k, .string x.t, .slice x.la x.l.length x.lc, .slice x.ka x.ks.length x.kc] 26 (0, 0)) := by rw [hW0]; exact (heap_alloc_old _ _ _ (by simp)).trans (heap_alloc_new w _)
  have hrb0 : W0.heap[w.heap.size + 1]? = some (.cells #[.int .u8 0, .string ⟨#[]⟩, .slice none 0 0, .slice none 0 0] 26 (0, 0)) := by
    rw [hW0]
    have := heap_alloc_new (w.alloc (.cells #[.int .u8 x.k, .string x.t, .slice x.la x.l.length x.lc, .slice x.ka x.ks.length x.kc] 26)) (.cells #[.int .u8 0, .string ⟨#[]⟩, .slice none 0 0, .slice none 0 0] 26)
    rwa [World.size_alloc] at this
  have hbw0 : Below w.heap.size w W0 := by rw [hW0]; exact ((Below.refl _ _).alloc (Nat.le_refl _) _).alloc (by simp) _
  have HW0 := Lib.hid hW0
  have HZ0 := Lib.hid hz0
  have HBX := Lib.hid hbx0
  have HRB := Lib.hid hrb0
  have HBW := Lib.hid hbw0
  clear hmk hmk2 ih hx hW0 hz0 hbx0 hrb0 hbw0
  go_enter Tryz.func9, Tryz.ntmps9
  go_wp2_with fail
  go_loopw [3, 4] (fun s3 i wr => ∃ (m : Nat) (ys : List AV) (a : Option Addr) (c : Nat), m ≤ x.l.length ∧ i = .int .i64 m ∧ ys.length = m ∧ ys.map AV.v = (x.l.map AV.v).take m ∧ s3 = .slice a ys.length c ∧ OwnV wr (w.heap.size + 2) (.slice a ys.length c) ys ∧ (∀ y ∈ ys, ∃ lo hi, y.Tw wr lo hi ∧ w.heap.size + 2 ≤ lo ∧ hi ≤ wr.heap.size ∧ ∀ q, (Value.slice a ys.length c).ownBlock = some q → ¬ (lo ≤ q ∧ q < hi)) ∧ Below (w.heap.size + 2) W0 wr) (fun _ i _ => x.l.length - (intOf i).toNat)
  case atStart =>
    rw [← HW0.out]
    refine ⟨0, [], some ⟨W0.heap.size, 0, none⟩, x.l.length + 1, Nat.zero_le _, by go_num, rfl, rfl, by rw [HZ0.out]; rfl, (HO1 W0 _ (by rw [HZ0.out]; exact Nat.le_refl _)).out, fun y hy => absurd hy List.not_mem_nil, (Below.refl _ _).alloc (by rw [HZ0.out]; exact Nat.le_refl _) _⟩
  case round =>
    obtain ⟨m, ys, a, c, hml, rfl, hyl, hyv, rfl, hown, hyr, hbr⟩ := hrel
    have hzr : w.heap.size + 2 ≤ wr.heap.size := by rw [← HZ0.out]; exact hbr.size
    have hwr : Below w.heap.size w wr := HBW.out.trans (hbr.mono (by omega))
    obtain ⟨q0, q1, q2, q3, -, -, -, -⟩ := vbox4 ((hbr.block w.heap.size (by omega)).trans HBX.out)
    have hrb := (hbr.block (w.heap.size + 1) (by omega)).trans HRB.out
    have hl0 : w.heap.size < wr.heap.size := by omega
    have HYL := Lib.hid hyl
    have HYV := Lib.hid hyv
    have HOW := Lib.hid hown
    have HYR := Lib.hid hyr
    have HBR := Lib.hid hbr
    have HWR := Lib.hid hwr
    have HRBR := Lib.hid hrb
    clear hyl hyv hown hyr hbr hwr hrb hr1
    by_cases hlt : m < x.l.length
    · have hk : x.l[m]? = some x.l[m] := List.getElem?_eq_getElem hlt
      have hmem : x.l[m] ∈ x.l := List.getElem_mem hlt
      generalize x.l[m] = y at *
      obtain ⟨b, off, hla, -, hb1, hb2, h0, h1, h2, h3⟩ := vals_at HX.out.sl hk
      rw [← HWR.out.cell (p := ⟨_, _, none⟩) hb2] at h0 h1 h2 h3
      have hbb : b < wr.heap.size := Nat.lt_of_lt_of_le hb2 HWR.out.size
      have hlt' : (m : Int) < (x.l.length : Int) := by omega
      have HC := fun W h => HI y hmem W h
      have HK := Lib.hid hk
      rw [hla] at q2
      clear hk hmem HI hla
      go_wp2_with (first
        | (go_at_call 9; refine (HC _ HWR.out).out.mono ?_; rintro e w2 ⟨z, rfl, hzv, hzi, hb⟩
           have hsz2 := hb.size
           have hlit : SlE AV.enc 4 (w2.alloc (.cells #[.int .u8 z.k, .string z.t, .slice z.la z.l.length z.lc, .slice z.ka z.ks.length z.kc] 26)) w2.heap.size (w2.heap.size + 1) (some ⟨w2.heap.size, 0, none⟩) [z] := lit_sl (enc := AV.enc) (size := 4) (l := [z]) (t := 26) (fr := (0, 0)) AV.enc_len (heap_alloc_new _ _)
           obtain ⟨v', W', hrun, hown', hgr, hat⟩ := app_val (c := 1) (own_below (own_below HOW.out hb) ((Below.refl _ _).alloc (Nat.le_refl _) _)) hlit (by have := HYL.out; simp; omega) (by simp; omega)
           obtain ⟨ys', hys'⟩ : ∃ ys', ys' = ys ++ [z] := ⟨_, rfl⟩
           rw [← hys'] at hown'
           obtain ⟨a', c', rfl⟩ := own_formV hown'
           have HYS' := Lib.hid hys'
           have HOW' := Lib.hid hown'
           have HZI := Lib.hid hzi
           have HZV := Lib.hid hzv
           have HB := Lib.hid hb
           have HGR := Lib.hid hgr
           have HAT := Lib.hid hat
           clear hys' hown' hlit hzi hzv hb hgr hat)
        | (at_builtin; refine wl_append (s := .tmp 18) (x := .tmp 25) rfl rfl (hrun _) ?_; clear hrun))
      have hgl : ∀ q, (Value.slice a ys.length c).ownBlock = some q → w.heap.size + 2 ≤ q ∧ q < wr.heap.size := World.ownsRow.lt HOW.out
      have hgr := HGR.out
      have hsz3 := hgr.size
      rw [World.size_alloc] at hsz3
      have hnew : ∀ q, (Value.slice a' ys'.length c').ownBlock = some q → (Value.slice a ys.length c).ownBlock = some q ∨ q = w2.heap.size + 1 := fun q hq => by
        rcases HAT.out with e | e
        · exact .inl (e ▸ hq)
        · rw [hq, World.size_alloc] at e
          injection e with e
          exact .inr e
      have hblk : ∀ q, q < w2.heap.size → (∀ g, (Value.slice a ys.length c).ownBlock = some g → q ≠ g) → W'.heap[q]? = w2.heap[q]? := fun q hq hne => by
        rw [hgr.block q (by rw [World.size_alloc]; omega) (fun e => hne q e.symm rfl), heap_alloc_old _ _ _ hq]
      refine ⟨⟨m + 1, ys', a', c', by omega, by go_num, by rw [HYS'.out]; simp [HYL.out], ?_, rfl, HOW'.out, ?_, ?_⟩, by simp [intOf]; omega⟩
      · rw [HYS'.out, List.map_append, HYV.out, List.take_add_one, List.getElem?_map, HK.out, List.map_singleton, HZV.out]; rfl
      · have key : ∀ (r : AV) lo hi, r.Tw w2 lo hi → w.heap.size + 2 ≤ lo → hi ≤ w2.heap.size → (∀ q, (Value.slice a ys.length c).ownBlock = some q → ¬ (lo ≤ q ∧ q < hi)) → ∃ lo hi, r.Tw W' lo hi ∧ w.heap.size + 2 ≤ lo ∧ hi ≤ W'.heap.size ∧ ∀ q, (Value.slice a' ys'.length c').ownBlock = some q → ¬ (lo ≤ q ∧ q < hi) := by
          intro r lo hi h1 h2 h3 h4
          refine ⟨lo, hi, h1.kept (by omega) (fun q q1 q2 q3 => hblk q q3 fun g hg e => h4 g hg ⟨by omega, by omega⟩), h2, by omega, fun q hq hc => ?_⟩
          rcases hnew q hq with e | e
          · exact h4 q e hc
          · omega
        intro r hr
        rw [HYS'.out] at hr
        rcases List.mem_append.1 hr with hr | hr
        · obtain ⟨lo, hi, h1, h2, h3, h4⟩ := HYR.out r hr
          exact key r lo hi (h1.blw HB.out h3) h2 (by omega) h4
        · simp at hr; subst hr
          exact key _ wr.heap.size w2.heap.size HZI.out hzr (Nat.le_refl _) fun q hq hc => by have := hgl q hq; omega
      · exact (HBR.out.trans ((HB.out.mono hzr).trans ((Below.refl _ _).alloc (by omega) _))).grown hgr (by simp; omega) (fun q hq => (hgl q hq).1)
    · obtain rfl : m = x.l.length := by omega
      have hge : ¬ (x.l.length : Int) < (x.l.length : Int) := by omega
      have HKR := Lib.hid (HX.out.keys.up HWR.out)
      have hNN : wr.heap.size ≤ wr.heap.size := Nat.le_refl _
      clear HI
      go_upto_region 6 with fail
      go_cut [5] (fun s5 wx => ∃ (g c2 : Nat), s5 = .slice (some ⟨g, 0, none⟩) x.ks.length c2 ∧ x.ks.length + 1 ≤ c2 ∧ OwnS wx wr.heap.size (.slice (some ⟨g, 0, none⟩) (x.ks.length + 1) c2) (x.ks ++ [mkS]) ∧ Below wr.heap.size wr wx)
      case first =>
        go_region_held3 (fun w' => (∀ b o, b < wr.heap.size → w'.cell? ⟨b, o, none⟩ = wr.cell? ⟨b, o, none⟩) ∧ Below wr.heap.size wr w')
          (first
            | (with_reducible exact Q2.out)
            | (with_reducible exact Q1.out)
            | exact s_of (by repeat (first | exact Q2.out.2 | exact Q1.out.2 | exact Below.refl _ _ | refine Below.drew ?_ | refine Below.alloc ?_ (by first | omega | (simp; done) | (simp; omega)) _)))
          (first
            | (refine st_app_str (s := .tmp 31) (x := .tmp 33) (base := wr.heap.size) (l := []) (m := x.ks) (by first | exact own_below (HO2 wr _ (Nat.le_refl _)).out (by repeat (first | exact Below.refl _ _ | refine Below.drew ?_ | refine below_drewN ?_ _ | refine Below.alloc ?_ (by first | omega | (simp; done) | (simp; omega)) _)) | exact own_below (own_at1 (HO2 (wr.alloc (.cells #[.string mkS] 9)) _ (by simp)).out) (by repeat (first | exact Below.refl _ _ | refine Below.drew ?_ | refine below_drewN ?_ _ | refine Below.alloc ?_ (by first | omega | (simp; done) | (simp; omega)) _))) (by first | (simp; done) | (simp; omega)) (HKR.out.below (by repeat (first | exact Below.refl _ _ | refine Below.drew ?_ | refine below_drewN ?_ _ | refine Below.alloc ?_ (by first | omega | (simp; done) | (simp; omega)) _)) (Nat.le_refl _)) (by simp; omega) rfl rfl rfl rfl ?_
               intro a1 c1 Ws hg1 hos hgs hb1; have Q1 := Lib.hid (s_stepN (by assumption) hb1); have hsw := Q1.out.2.size)
            | (refine st_app_str (s := .tmp 34) (x := .tmp 35) (base := wr.heap.size) (l := [] ++ x.ks) (m := [mkS]) (by first | exact hos | exact own_below hos ((Below.refl _ _).alloc (Nat.le_refl _) _)) (by have := hb1.size; first | (simp at *; omega) | omega) (by first | exact lit_mark _ | exact sl_kept (lit_o2 _ _) hgs (.inl (Nat.lt_succ_self _)) | exact sl_kept (lit_o1 _ _) hgs (.inr (Nat.le_refl _))) (by simp; omega) rfl rfl rfl rfl ?_
               intro a2 c2 Wt hg2 hot hgt hb2; obtain ⟨g, rfl⟩ := hg2 (by simp); have Q2 := Lib.hid (s_stepN (by assumption) hb2)
               have hcap := own_cap hot rfl
               simp only [List.nil_append, List.length_append, List.length_singleton] at hcap hot
               have hcap' : (x.ks.length : Int) ≤ (c2 : Int) := by omega))
        all_goals go_wp2_with fail
        all_goals go_meet
        all_goals exact ⟨g, c2, rfl, hcap, hot, Q2.out.2⟩
      case rest =>
        obtain ⟨g, c2, rfl, hc2, hkown, hbc⟩ := hcut
        have hsc := hbc.size
        have hzc : w.heap.size + 2 ≤ wc.heap.size := by omega
        have hlc0 : w.heap.size < wc.heap.size := by omega
        have hN7 : w.heap.size + 1 ≤ wc.heap.size := by omega
        obtain ⟨q0, q1, q2, q3, -, -, -, -⟩ := vbox4 ((hbc.block w.heap.size hl0).trans (((HBR.out.block w.heap.size (by omega)).trans HBX.out)))
        have HRC := Lib.hid ((hbc.block (w.heap.size + 1) (by omega)).trans HRBR.out)
        have HOWC := Lib.hid (own_below HOW.out hbc)
        have hgl : ∀ q, (Value.slice a ys.length c).ownBlock = some q → w.heap.size + 2 ≤ q ∧ q < wr.heap.size := World.ownsRow.lt HOW.out
        have HGL := Lib.hid hgl
        have HKO := Lib.hid hkown
        have HBC := Lib.hid hbc
        have hyl7 : ys.length + 1 ≤ 16777216 := by have := HYL.out; omega
        clear hgl hkown hbc HKR HW0 hr2 HO1 HO2
        go_upto_region 7 with fail
        go_region_held3 (fun w' => (∀ b o, b < w.heap.size + 1 → w'.cell? ⟨b, o, none⟩ = wc.cell? ⟨b, o, none⟩) ∧ Below (w.heap.size + 1) wc w')
          (first
            | (with_reducible exact Q1.out)
            | (with_reducible exact s_put4 hN7 Q1.out (by omega))
            | exact s_of (by repeat (first | exact Q1.out.2 | exact Below.refl _ _ | refine Below.drew ?_ | refine Below.alloc ?_ (by first | omega | (simp; done) | (simp; omega)) _)))
          (first
            | (refine st_app_val2 (s := .tmp 45) (x := .tmp 47) (base := w.heap.size + 2) (l := ys) (m := [mAV]) HOWC.out (by repeat (first | exact Below.refl _ _ | refine Below.drew ?_ | refine below_drewN ?_ _ | refine Below.alloc ?_ (by first | omega | (simp; done) | (simp; omega)) _)) hzc (by first | exact lit_markV _ | exact (lit_markV _).below' (Below.refl _ _).drew) (by simp; omega) (by simp) rfl rfl rfl rfl ?_
               intro g3 c3 Wt hot hkt hst hb3
               have Q1 := Lib.hid (s_of (hb3.mono (Nat.le_succ _)))
               have hcap := own_cap hot rfl
               simp only [List.length_append, List.length_singleton] at hcap
               have hcap' : (x.l.length : Int) ≤ (c3 : Int) := by have := HYL.out; omega
               obtain ⟨s0, s1, s2, s3, y0, y1, y2, y3⟩ := vbox4 ((hb3.block (w.heap.size + 1) (by omega)).trans HRC.out)))
        all_goals go_wp2_with fail
        have hys : ys.map AV.v = x.l.map AV.v := by rw [HYV.out]; exact List.take_of_length_le (by simp)
        have hzF : ((set4 Wt (w.heap.size + 1) (.int .u8 x.k) (.string x.t) (.slice (some ⟨g3, 0, none⟩) x.l.length c3) (.slice (some ⟨g, 0, none⟩) x.ks.length c2))).heap.size = Wt.heap.size := size4
        have hsW : w.heap.size + 2 ≤ Wt.heap.size := by omega
        have e1 := SlE.keep (w' := (set4 Wt (w.heap.size + 1) (.int .u8 x.k) (.string x.t) (.slice (some ⟨g3, 0, none⟩) x.l.length c3) (.slice (some ⟨g, 0, none⟩) x.ks.length c2))) (own_sl AV.enc_len hot) (Nat.le_of_eq hzF.symm) fun k h1 _ _ => old4 (by omega)
        have e2 := SlE.keep (w' := (set4 Wt (w.heap.size + 1) (.int .u8 x.k) (.string x.t) (.slice (some ⟨g3, 0, none⟩) x.l.length c3) (.slice (some ⟨g, 0, none⟩) x.ks.length c2))) (own_sl (enc := strE) (size := 1) (fun _ => rfl) HKO.out) (by rw [hzF]; exact hst) fun k h1 h2 h3 => (old4 (by omega)).trans (hkt k h3 fun q hq e => by have := HGL.out q hq; omega)
        have e3 : ∀ u ∈ ys, u.Tw (set4 Wt (w.heap.size + 1) (.int .u8 x.k) (.string x.t) (.slice (some ⟨g3, 0, none⟩) x.l.length c3) (.slice (some ⟨g, 0, none⟩) x.ks.length c2)) w.heap.size ((set4 Wt (w.heap.size + 1) (.int .u8 x.k) (.string x.t) (.slice (some ⟨g3, 0, none⟩) x.l.length c3) (.slice (some ⟨g, 0, none⟩) x.ks.length c2))).heap.size := fun u hu => by
          obtain ⟨lo, hi, h1, h2, h3, h4⟩ := HYR.out u hu
          exact ((h1.blw HBC.out h3).kept (w' := (set4 Wt (w.heap.size + 1) (.int .u8 x.k) (.string x.t) (.slice (some ⟨g3, 0, none⟩) x.l.length c3) (.slice (some ⟨g, 0, none⟩) x.ks.length c2))) (by rw [hzF]; exact hst) fun k q1 q2 q3 => (old4 (by omega)).trans (hkt k q3 fun q hq e => h4 q hq ⟨by omega, by omega⟩)).widen (by omega) (by rw [hzF]; omega)
        have hbF : Below w.heap.size w (set4 Wt (w.heap.size + 1) (.int .u8 x.k) (.string x.t) (.slice (some ⟨g3, 0, none⟩) x.l.length c3) (.slice (some ⟨g, 0, none⟩) x.ks.length c2)) := below4 (HWR.out.trans ((HBC.out.mono (by omega)).trans (hb3.mono (by omega)))) (by omega)
        have htw : AV.Tw (set4 Wt (w.heap.size + 1) (.int .u8 x.k) (.string x.t) (.slice (some ⟨g3, 0, none⟩) x.l.length c3) (.slice (some ⟨g, 0, none⟩) x.ks.length c2)) w.heap.size ((set4 Wt (w.heap.size + 1) (.int .u8 x.k) (.string x.t) (.slice (some ⟨g3, 0, none⟩) x.l.length c3) (.slice (some ⟨g, 0, none⟩) x.ks.length c2))).heap.size ⟨x.k, x.t, some ⟨g3, 0, none⟩, c3, ys, some ⟨g, 0, none⟩, c2, x.ks⟩ := .mk (e1.widen (by omega) (by rw [hzF]; exact Nat.le_refl _)) (e2.widen (by omega) (by rw [hzF]; exact hst)) hkd hcap hc2 e3
        refine bodyPost_ret (v := .agg #[.int .u8 x.k, .string x.t, .slice (some ⟨g3, 0, none⟩) x.l.length c3, .slice (some ⟨g, 0, none⟩) x.ks.length c2]) (by simp [results, Tryz.results9, go_sem, s0, s1, s2, s3]) rfl ⟨⟨x.k, x.t, some ⟨g3, 0, none⟩, c3, ys, some ⟨g, 0, none⟩, c2, x.ks⟩, ?_, ?_, htw, hbF⟩
        · show _ = Ending.returned (.agg #[.int .u8 x.k, .string x.t, .slice (some ⟨g3, 0, none⟩) ys.length c3, .slice (some ⟨g, 0, none⟩) x.ks.length c2])
          rw [HYL.out]
        · rw [AV.v_eq, AV.v_eq x, hys]
end Go.Proofs.YtmhkacafilpliaaGreat

namespace Go.Proofs.YtmhkacafilpliaaGreat
open Go.RowKit Go.Sort

theorem box_two (w : World) (a b : AV) :
    ((w.alloc (.cells #[.int .u8 a.k, .string a.t, .slice a.la a.l.length a.lc, .slice a.ka a.ks.length a.kc] 26)).alloc (.cells #[.int .u8 b.k, .string b.t, .slice b.la b.l.length b.lc, .slice b.ka b.ks.length b.kc] 26)).heap[w.heap.size]? = some (.cells #[.int .u8 a.k, .string a.t, .slice a.la a.l.length a.lc, .slice a.ka a.ks.length a.kc] 26 (0, 0)) ∧
    ((w.alloc (.cells #[.int .u8 a.k, .string a.t, .slice a.la a.l.length a.lc, .slice a.ka a.ks.length a.kc] 26)).alloc (.cells #[.int .u8 b.k, .string b.t, .slice b.la b.l.length b.lc, .slice b.ka b.ks.length b.kc] 26)).heap[w.heap.size + 1]? = some (.cells #[.int .u8 b.k, .string b.t, .slice b.la b.l.length b.lc, .slice b.ka b.ks.length b.kc] 26 (0, 0)) := by
  refine ⟨(heap_alloc_old _ _ _ (by simp)).trans (heap_alloc_new w _), ?_⟩
  have := heap_alloc_new (w.alloc (.cells #[.int .u8 a.k, .string a.t, .slice a.la a.l.length a.lc, .slice a.ka a.ks.length a.kc] 26)) (.cells #[.int .u8 b.k, .string b.t, .slice b.la b.l.length b.lc, .slice b.ka b.ks.length b.kc] 26)
  rwa [World.size_alloc] at this

set_option maxRecDepth 100000 in
set_option maxHeartbeats 3200000 in
theorem left14_c : ∀ (x t : AV) (w : World), t.v = x.v → t.Tw w 0 w.heap.size → Rd w x → x.w ≤ 1048576 → Calls Tryz.prog 15 #[t.val, x.val] w (Ret (.bool true) w) := AV.ind fun x ih t w he ht hx hw => by
  obtain ⟨k, tt, la, lc, l, ka, kc, ks⟩ := t
  have hlk := x.w_l
  have hlks := x.w_ks
  rw [AV.v_eq, AV.v_eq x] at he
  injection he with e1 e2 e3 e4
  subst e1 e2 e4
  have hlen : l.length = x.l.length := by have := congrArg List.length e3; simpa using this
  have hcap := ht.cap
  have hcap2 := ht.cap2
  have hsl := ht.sl
  have hkeys := ht.keys
  have hkid := fun y hy => ht.kid (y := y) hy
  simp only at hcap hcap2 hsl hkeys hkid
  obtain ⟨lb, lo, rfl, -, -, hlb, hlc⟩ := hsl (by simp)
  obtain ⟨kb, ko, rfl, -, -, hkb, hkc⟩ := hkeys (by simp)
  have mk := hkc x.ks.length mkS (by simp) 0 _ rfl
  have ml := hlc l.length mAV (by simp) 1 _ rfl
  rw [hlen] at ml hcap
  rw [Nat.mul_one, Nat.add_zero] at mk
  have HK := Lib.hid (show SlE strE 1 w 0 w.heap.size (some ⟨kb, ko, none⟩) x.ks from sl_front hkeys)
  have HL := Lib.hid (show SlE AV.enc 4 w 0 w.heap.size (some ⟨lb, lo, none⟩) l from sl_front hsl)
  have HX := Lib.hid hx
  have HLEN := Lib.hid hlen
  have HE3 := Lib.hid e3
  have HI := fun (y y' : AV) (hy : y ∈ x.l) (hy' : y' ∈ l) (hv : y'.v = y.v) (W : World) (hb : Below w.heap.size w W) => Lib.hid (ih y hy y' W hv ((hkid y' hy').up hb) (hx.kid_at hb hy) (Nat.le_trans (Nat.le_of_lt (AV.w_kid hy)) hw))
  have hc1 : ¬ (lc : Int) ≤ (x.l.length : Int) := by omega
  have hc2 : ¬ (kc : Int) ≤ (x.ks.length : Int) := by omega
  have hb2 := box_two w ⟨x.k, x.t, some ⟨lb, lo, none⟩, lc, l, some ⟨kb, ko, none⟩, kc, x.ks⟩ x
  simp only [hlen] at hb2
  show Calls Tryz.prog 15 #[.agg #[.int .u8 x.k, .string x.t, .slice (some ⟨lb, lo, none⟩) l.length lc, .slice (some ⟨kb, ko, none⟩) x.ks.length kc], .agg #[.int .u8 x.k, .string x.t, .slice x.la x.l.length x.lc, .slice x.ka x.ks.length x.kc]] w (Ret (.bool true) w)
  rw [hlen]
  obtain ⟨W1, hW1⟩ : ∃ W1, W1 = (w.alloc (.cells #[.int .u8 x.k, .string x.t, .slice (some ⟨lb, lo, none⟩) x.l.length lc, .slice (some ⟨kb, ko, none⟩) x.ks.length kc] 26)).alloc (.cells #[.int .u8 x.k, .string x.t, .slice x.la x.l.length x.lc, .slice x.ka x.ks.length x.kc] 26) := ⟨_, rfl⟩
  have hz1 : W1.heap.size = w.heap.size + 2 := by rw [hW1]; simp
  have hbw1 : Below w.heap.size w W1 := by rw [hW1]; exact ((Below.refl _ _).alloc (Nat.le_refl _) _).alloc (by simp) _
  have hbt := hb2.1
  have hbx := hb2.2
  rw [← hW1] at hbt hbx
  have HW1 := Lib.hid hW1
  have HZ1 := Lib.hid hz1
  have HBW := Lib.hid hbw1
  have HBT := Lib.hid hbt
  have HBX := Lib.hid hbx
  have hz1' : w.heap.size + 1 < W1.heap.size := by omega
  clear hb2 hW1 hz1 hbw1 hbt hbx hlen e3 hsl hkeys hkid ht hx ih hlc hkc
  go_enter Tryz.func15, Tryz.ntmps15
  go_upto_region 5 with fail
  rw [← HW1.out]
  obtain ⟨q0, q1, q2, q3, -, -, -, -⟩ := vbox4 HBT.out
  obtain ⟨p0, p1, p2, p3, -, -, -, -⟩ := vbox4 HBX.out
  have mk1 : W1.cell? ⟨kb, ko + x.ks.length, none⟩ = some (.string ⟨#[109, 97, 114, 107]⟩) := (HBW.out.cell (p := ⟨kb, ko + x.ks.length, none⟩) hkb).trans mk
  have ml1 : W1.cell? ⟨lb, lo + x.l.length * 4 + 1, none⟩ = some (.string ⟨#[109, 97, 114, 107]⟩) := (HBW.out.cell (p := ⟨lb, lo + x.l.length * 4 + 1, none⟩) hlb).trans ml
  have hw1 : IntKind.i64.wrap ((x.l.length : Int) + 1) = (x.l.length : Int) + 1 := IntWalk.i64_in _ (by omega)
  have hw2 : IntKind.i64.wrap ((x.ks.length : Int) + 1) = (x.ks.length : Int) + 1 := IntWalk.i64_in _ (by omega)
  have hn1 : (0 : Int) ≤ (x.l.length : Int) + 1 := by omega
  have hn2 : (0 : Int) ≤ (x.ks.length : Int) + 1 := by omega
  have hn3 : (x.l.length : Int) + 1 ≤ (lc : Int) := by omega
  have hn4 : (x.ks.length : Int) + 1 ≤ (kc : Int) := by omega
  have hkb1 : kb < W1.heap.size := by omega
  have hlb1 : lb < W1.heap.size := by omega
  go_quiet (fail)
  clear mk mk1 ml ml1 hn1 hn2 hn3 hn4
  go_wp2_with fail
  go_loopw [5] (fun i wr => ∃ m : Nat, m ≤ x.ks.length ∧ i = .int .i64 m ∧ Below W1.heap.size W1 wr) (fun i _ => x.ks.length - (intOf i).toNat)
  case atStart => exact ⟨0, Nat.zero_le _, by go_num, below_drewN (Below.refl _ _) _⟩
  case round =>
    obtain ⟨m, hm, rfl, hbr⟩ := hrel
    have hsr := hbr.size
    obtain ⟨q0, q1, q2, q3, -, -, -, -⟩ := vbox4 ((hbr.block w.heap.size (by omega)).trans HBT.out)
    obtain ⟨p0, p1, p2, p3, -, -, -, -⟩ := vbox4 ((hbr.block (w.heap.size + 1) (by omega)).trans HBX.out)
    have hl0 : w.heap.size < wr.heap.size := by omega
    have hl1 : w.heap.size + 1 < wr.heap.size := by omega
    have hbw := below_via HBW.out hbr
    have HBR := Lib.hid hbr
    have HBWR := Lib.hid hbw
    by_cases hlt : m < x.ks.length
    · have hk : x.ks[m]? = some x.ks[m] := List.getElem?_eq_getElem hlt
      generalize x.ks[m] = s at hk
      obtain ⟨b1, o1, h1, -, -, g1, c1⟩ := key_at HK.out hk
      obtain ⟨b2, o2, h2, -, -, g2, c2⟩ := key_at HX.out.keys hk
      cases h1
      rw [← hbw.cell (p := ⟨_, _, none⟩) g1] at c1
      rw [← hbw.cell (p := ⟨_, _, none⟩) g2] at c2
      have hlt' : (m : Int) < (x.ks.length : Int) := by omega
      have hm0 : (0 : Int) ≤ (m : Int) := by omega
      have g1' : kb < wr.heap.size := by omega
      have g2' : b2 < wr.heap.size := by omega
      have hwm : IntKind.i64.wrap ((m : Int) + 1) = ((m + 1 : Nat) : Int) := by rw [IntWalk.i64_in _ (by omega)]; omega
      rw [h2] at p3
      clear h2
      clear hbr hbw hk
      go_upto_region 10 with fail
      go_quiet (fail)
      go_wp2_with fail
      exact ⟨⟨m + 1, by omega, by go_num, below_drewN HBR.out _⟩, by simp [intOf]; omega⟩
    · have hge : ¬ (m : Int) < (x.ks.length : Int) := by omega
      obtain ⟨wo, hwo⟩ : ∃ w0 : World, w0 = wr := ⟨_, rfl⟩
      subst hwo
      clear hbr hbw p0 p1 p3
      go_wp2_with fail
      clear q0 q1 q2 q3 p2 hl0 hl1
      go_loopw [6] (fun i wr => ∃ m : Nat, m ≤ x.l.length ∧ i = .int .i64 m ∧ Below W1.heap.size W1 wr) (fun i _ => x.l.length - (intOf i).toNat)
      case atStart => exact ⟨0, Nat.zero_le _, by go_num, HBR.out⟩
      case round =>
        obtain ⟨m2, hm2, rfl, hbr⟩ := hrel
        have hsr := hbr.size
        obtain ⟨q0, q1, q2, q3, -, -, -, -⟩ := vbox4 ((hbr.block w.heap.size (by omega)).trans HBT.out)
        obtain ⟨p0, p1, p2, p3, -, -, -, -⟩ := vbox4 ((hbr.block (w.heap.size + 1) (by omega)).trans HBX.out)
        have hl0 : w.heap.size < wr.heap.size := by omega
        have hl1 : w.heap.size + 1 < wr.heap.size := by omega
        have hbw := below_via HBW.out hbr
        have HBR2 := Lib.hid hbr
        have HBWR2 := Lib.hid hbw
        by_cases hlt2 : m2 < x.l.length
        · have hk : x.l[m2]? = some x.l[m2] := List.getElem?_eq_getElem hlt2
          have hmem : x.l[m2] ∈ x.l := List.getElem_mem hlt2
          generalize x.l[m2] = y at hk hmem
          obtain ⟨y', hk', hv⟩ : ∃ y', l[m2]? = some y' ∧ y'.v = y.v := by
            have h := congrArg (fun q => q[m2]?) HE3.out
            simp only [List.getElem?_map, hk, Option.map_some] at h
            cases hy : l[m2]? with
            | none => rw [hy] at h; cases h
            | some y' => rw [hy] at h; exact ⟨y', rfl, by simpa using h⟩
          have hmem' : y' ∈ l := List.mem_of_getElem? hk'
          obtain ⟨b1, o1, h1, -, -, g1, c0, c1, c2, c3⟩ := vals_at HL.out hk'
          obtain ⟨b2, o2, h2, -, -, g2, d0, d1, d2, d3⟩ := vals_at HX.out.sl hk
          cases h1
          rw [← hbw.cell (p := ⟨_, _, none⟩) g1] at c0 c1 c2 c3
          rw [← hbw.cell (p := ⟨_, _, none⟩) g2] at d0 d1 d2 d3
          have hlt2' : (m2 : Int) < (x.l.length : Int) := by omega
          have hm0 : (0 : Int) ≤ (m2 : Int) := by omega
          have g1' : lb < wr.heap.size := by omega
          have g2' : b2 < wr.heap.size := by omega
          have hwm : IntKind.i64.wrap ((m2 : Int) + 1) = ((m2 + 1 : Nat) : Int) := by rw [IntWalk.i64_in _ (by omega)]; omega
          rw [h2] at p2
          clear h2
          have HC := fun W h => HI y y' hmem hmem' hv W h
          clear hbr hbw hk hk' hmem hmem' hv HI
          go_upto_region 15 with fail
          go_region_held3 (fun w' => (∀ b o, b < wr.heap.size → w'.cell? ⟨b, o, none⟩ = wr.cell? ⟨b, o, none⟩) ∧ Below wr.heap.size wr w')
            (first | (with_reducible exact Q1.out) | exact ⟨fun _ _ _ => rfl, (Below.refl _ _).drew⟩)
            (first | (go_at_call 15; refine (HC _ (s_below (N := wr.heap.size) HBWR2.out (by omega) (by assumption))).out.mono ?_; rintro e w4 ⟨rfl, hb4⟩; have Q1 := Lib.hid (s_step (Nat.le_refl _) (by assumption) hb4)))
          go_wp2_with fail
          exact ⟨⟨m2 + 1, by omega, by go_num, HBR2.out.trans (Q1.out.2.mono hsr)⟩, by simp [intOf]; omega⟩
        · have hge2 : ¬ (m2 : Int) < (x.l.length : Int) := by omega
          clear hbr hbw
          go_wp2_with fail
          go_ret
          exact ⟨rfl, HBWR2.out⟩
end Go.Proofs.YtmhkacafilpliaaGreat
