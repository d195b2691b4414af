/-
  The document's table of distances that are known: a map by four numbers. Plain lemmas over the program's types, and what a look-up and a store do.
  The document's distance of two rows of trees, by what is known: each call answers right, and what is known stays right. Conditions: both postorders lie in memory. (Printed by gen_fb.py.)
  inarchref14.Size, and the document's distance of two values. Conditions: the values lie in memory, their weights are bounded.
-/
import Derived.Test.YtmhkacafilpliaaGreatEG
import Derived.Maps.Own
import Derived.DeepKeys4
import Derived.WideKeyArr2
import Derived.Test.YtmhkacafilpliaaGreatEW
import Derived.Test.YtmhkacafilpliaaGreatVE
namespace Go.Proofs.YtmhkacafilpliaaGreat
open Go.RowKit Go.Sort Go.Shelf Go.BigFrame Go.WideMaps Go.ChangeMaps Go.Maps
open Go.WideElems (rd rg pl rd_val elemAt)

theorem laid20 : laidOutB Tryz.prog = true := by kernel_rfl
theorem row4 : (68 : TypeId) < Tryz.prog.types.size := of_decide_eq_true (by kernel_rfl)
theorem wide4 : (match Tryz.prog.underlying 68 with | some (.array _ _) | some (.struct _) => true | _ => false) = true := by rw [Tryz.underlying68]
set_option maxRecDepth 100000 in
theorem law4 : Keyed Tryz.prog 68 := Keyed.of_law (deep_law_laid laid20 (m := 2) (by omega) row4 (by kernel_rfl) wide4)
/-- A key. -/
def keyV (a i b j : Int) : Value := .agg #[.int .i64 a, .int .i64 i, .int .i64 b, .int .i64 j]
set_option maxRecDepth 100000 in
theorem key_of {a i b j : Int} (ha : (Lit.int .i64 a).wf = true) (hi : (Lit.int .i64 i).wf = true) (hb : (Lit.int .i64 b).wf = true) (hj : (Lit.int .i64 j).wf = true) : ∃ l, keyOf Tryz.prog 68 (keyV a i b j) = some l := by
  have hkt : Tryz.prog.keyType 68 = true := by kernel_rfl
  have hc : Tryz.prog.cellsOf 68 = 4 := by kernel_rfl
  have hc1 : Tryz.prog.cellsOf 3 = 1 := by kernel_rfl
  obtain ⟨m, hm⟩ : ∃ m, Tryz.prog.types.size = m + 1 := ⟨Tryz.prog.types.size - 1, by have : 0 < Tryz.prog.types.size := of_decide_eq_true (by kernel_rfl); omega⟩
  have h1 : ∀ x : Int, (Lit.int .i64 x).wf = true → Tryz.prog.keyLits (m + 1) 3 [.int .i64 x] = some [.int .i64 x] := fun x hx => by
    unfold Program.keyLits
    simp only [Tryz.underlying3]
    rw [if_pos ⟨trivial, hx⟩]
  refine ⟨.string (keyBytes [.int .i64 a, .int .i64 i, .int .i64 b, .int .i64 j]), ?_⟩
  unfold keyOf keyV
  simp only [Tryz.underlying68]
  rw [if_pos (by simp [hkt, Value.formed, Tryz.underlying68, hc]), hm]
  unfold Program.keyLits
  simp only [Tryz.underlying68, Value.cells]
  rw [if_pos (by rw [hc]; rfl), hc1]
  rw [show List.range 4 = [0, 1, 2, 3] from rfl]
  simp only [List.mapM_cons, List.mapM_nil, Nat.mul_one, List.drop_zero, List.take_succ_cons, List.take_zero, List.drop_succ_cons, h1 a ha, h1 i hi, h1 b hb, h1 j hj]
  rfl
/-- A range of nodes of both, as it comes up. -/
structure OkR (T : Two) (a i b j : Nat) : Prop where
  hi : a ≤ i
  hn : i ≤ T.n
  hj : b ≤ j
  hm : j ≤ T.m
  ca : Clo T.fa a i
  cb : Clo T.fb b j
def codeK (v : Value) : Nat := match v with
  | .agg cs => match cs.toList with
    | [.int _ a, .int _ i, .int _ b, .int _ j] => ((a.toNat * 5000 + (i + 1).toNat) * 5000 + b.toNat) * 5000 + (j + 1).toNat
    | _ => 0
  | _ => 0
theorem code_of (a i b j : Nat) : codeK (keyV a ((i : Int) - 1) b ((j : Int) - 1)) = ((a * 5000 + i) * 5000 + b) * 5000 + j := by
  show (((a : Int).toNat * 5000 + ((i : Int) - 1 + 1).toNat) * 5000 + (b : Int).toNat) * 5000 + ((j : Int) - 1 + 1).toNat = _
  rw [show (i : Int) - 1 + 1 = (i : Int) by omega, show (j : Int) - 1 + 1 = (j : Int) by omega]
  simp
theorem pigeon : ∀ (M : Nat) (l : List Nat), l.Nodup → (∀ x ∈ l, x < M) → l.length ≤ M
  | 0, l, _, h => by
    cases l with
    | nil => simp
    | cons x r => exact absurd (h x (by simp)) (by omega)
  | M + 1, l, hn, h => by
    have h1 := pigeon M (l.filter fun x => decide (x ≠ M)) (hn.filter _) (fun x hx => by
      rw [List.mem_filter] at hx
      have := h x hx.1
      have := of_decide_eq_true hx.2
      omega)
    have h2 : l.length ≤ (l.filter fun x => decide (x ≠ M)).length + 1 := by
      clear h1 h
      induction l with
      | nil => simp
      | cons x r ih =>
        rw [List.nodup_cons] at hn
        by_cases e : x = M
        · subst e
          have : r.filter (fun y => decide (y ≠ x)) = r := List.filter_eq_self.2 fun y hy => by
            simp only [decide_eq_true_eq]
            intro e
            exact hn.1 (e ▸ hy)
          rw [List.filter_cons_of_neg (by simp), this]; simp
        · have := ih hn.2
          simp only [List.filter_cons, decide_eq_true e, if_true, List.length_cons, ne_eq]
          simp
          simpa using this
    omega
/-- What is known of a pair is right. -/
def Memo (T : Two) (MB : Nat) (w : World) : Prop := ∃ (es : Array MapEntry) (clock : Nat), w.heap[MB]? = some (.map es clock) ∧ WideElems.Fit (H := Unit) Tryz.prog 68 (plainElem Tryz.prog 3) es clock ∧
  ∀ e ∈ es.toList, ∃ a i b j, OkR T a i b j ∧ e.key = keyV a ((i : Int) - 1) b ((j : Int) - 1) ∧ e.val = .int .i64 (T.far a i b j : Nat)
theorem Memo.keep {T : Two} {MB : Nat} {w w' : World} (h : Memo T MB w) (hk : w'.heap[MB]? = w.heap[MB]?) : Memo T MB w' := by
  obtain ⟨es, clock, h1, h2⟩ := h
  exact ⟨es, clock, hk.trans h1, h2⟩
theorem wf_of {x : Int} (h1 : -9223372036854775808 ≤ x) (h2 : x ≤ 9223372036854775807) : (Lit.int .i64 x).wf = true := by
  simp [Lit.wf, IntKind.min, IntKind.max, IntKind.signed, IntKind.bits]
  omega
theorem ok_key {T : Two} (hT : T.n ≤ 4096 ∧ T.m ≤ 4096) {a i b j : Nat} (h : OkR T a i b j) : ∃ l, keyOf Tryz.prog 68 (keyV a ((i : Int) - 1) b ((j : Int) - 1)) = some l := by
  have := h.hi; have := h.hn; have := h.hj; have := h.hm
  exact key_of (wf_of (by omega) (by omega)) (wf_of (by omega) (by omega)) (wf_of (by omega) (by omega)) (wf_of (by omega) (by omega))
theorem key_inj {a i b j a' i' b' j' : Nat} (h : keyV a ((i : Int) - 1) b ((j : Int) - 1) = keyV a' ((i' : Int) - 1) b' ((j' : Int) - 1)) : a = a' ∧ i = i' ∧ b = b' ∧ j = j' := by
  simp only [keyV, Value.agg.injEq, Array.mk.injEq, List.cons.injEq, Value.int.injEq, and_true, true_and] at h
  obtain ⟨h1, h2, h3, h4⟩ := h
  omega
/-- m[x], and whether it is there. -/
theorem memo_look {T : Two} {MB : Nat} {w : World} (hT : T.n ≤ 4096 ∧ T.m ≤ 4096) (h : Memo T MB w) {a i b j : Nat} (hr : OkR T a i b j) :
    (∀ W : World, W.heap[MB]? = w.heap[MB]? → (Instr.lookup 59 (.map (some MB)) (keyV a ((i : Int) - 1) b ((j : Int) - 1)) true).run Tryz.prog W = .ok (.tuple #[.int .i64 0, .bool false]) W) ∨
    (∀ W : World, W.heap[MB]? = w.heap[MB]? → (Instr.lookup 59 (.map (some MB)) (keyV a ((i : Int) - 1) b ((j : Int) - 1)) true).run Tryz.prog W = .ok (.tuple #[.int .i64 (T.far a i b j : Nat), .bool true]) W) := by
  obtain ⟨es, clock, hb, F, hE⟩ := h
  obtain ⟨l, hl⟩ := ok_key hT hr
  have hz : ∀ W : World, (zeroValue 3).run Tryz.prog W = .ok (.int .i64 0) W := fun W => by kernel_rfl
  by_cases hk : ∃ e ∈ es.toList, e.key = keyV a ((i : Int) - 1) b ((j : Int) - 1)
  · right
    intro W hW
    rcases fit_look true law4 Tryz.underlying59 (hz W) (hW.trans hb) F hl with ⟨_, h2, _⟩ | ⟨e0, y, h1, h2, h3, _⟩
    · obtain ⟨e, he, hek⟩ := hk
      exact absurd hek (h2 e he)
    · obtain ⟨a', i', b', j', _, hk', hv⟩ := hE e0 h1
      obtain ⟨rfl, rfl, rfl, rfl⟩ := key_inj (hk'.symm.trans h2)
      rw [h3, hv]; rfl
  · left
    intro W hW
    rcases fit_look true law4 Tryz.underlying59 (hz W) (hW.trans hb) F hl with ⟨h1, _, _⟩ | ⟨e0, y, h1, h2, _⟩
    · rw [h1]; rfl
    · exact absurd ⟨e0, h1, h2⟩ hk
/-- Less than a map may hold. -/
theorem memo_room {T : Two} (hT : T.n ≤ 4096 ∧ T.m ≤ 4096) {es : Array MapEntry} {clock : Nat} (F : WideElems.Fit (H := Unit) Tryz.prog 68 (plainElem Tryz.prog 3) es clock)
    (hE : ∀ e ∈ es.toList, ∃ a i b j, OkR T a i b j ∧ e.key = keyV a ((i : Int) - 1) b ((j : Int) - 1) ∧ e.val = .int .i64 (T.far a i b j : Nat)) : es.size < maxLen := by
  have hbd : ∀ e ∈ es.toList, ∃ a i b j : Nat, (a ≤ 4096 ∧ i ≤ 4096 ∧ b ≤ 4096 ∧ j ≤ 4096) ∧ e.key = keyV a ((i : Int) - 1) b ((j : Int) - 1) := fun e he => by
    obtain ⟨a, i, b, j, h, hk, _⟩ := hE e he
    have := h.hi; have := h.hn; have := h.hj; have := h.hm
    exact ⟨a, i, b, j, by omega, hk⟩
  have hn : ((es.toList.map (·.key)).map codeK).Nodup := by
    refine List.pairwise_map.2 (List.Pairwise.imp_of_mem ?_ F.stamped.2.2)
    intro x y hx hy hne e
    obtain ⟨ex, hex, rfl⟩ := List.mem_map.1 hx
    obtain ⟨ey, hey, rfl⟩ := List.mem_map.1 hy
    obtain ⟨a, i, b, j, h, hk⟩ := hbd ex hex
    obtain ⟨a', i', b', j', h', hk'⟩ := hbd ey hey
    rw [hk, hk', code_of, code_of] at e
    refine hne ?_
    rw [hk, hk']
    obtain ⟨rfl, rfl, rfl, rfl⟩ : a = a' ∧ i = i' ∧ b = b' ∧ j = j' := by omega
    rfl
  have h1 := pigeon 625000000000000 _ hn (fun c hc => by
    obtain ⟨k, hk, rfl⟩ := List.mem_map.1 hc
    obtain ⟨e, he, rfl⟩ := List.mem_map.1 hk
    obtain ⟨a, i, b, j, h, hk⟩ := hbd e he
    rw [hk, code_of]
    omega)
  simp only [List.length_map, Array.length_toList] at h1
  unfold maxLen
  omega
/-- m[x] = n. -/
theorem memo_put {T : Two} {MB : Nat} {w : World} (hT : T.n ≤ 4096 ∧ T.m ≤ 4096) (h : Memo T MB w) {a i b j : Nat} (hr : OkR T a i b j) :
    ∃ w', (Instr.mapUpdate 59 (.map (some MB)) (keyV a ((i : Int) - 1) b ((j : Int) - 1)) (.int .i64 (T.far a i b j : Nat))).run Tryz.prog w = .ok () w' ∧ Memo T MB w' ∧ KpM MB (MB + 1) w w' := by
  obtain ⟨es, clock, hb, F, hE⟩ := h
  obtain ⟨l, hl⟩ := ok_key hT hr
  have hfb := T.far_bnd hr.hi hr.hj hr.hn hr.hm hr.ca hr.cb
  have hin := hr.hn
  have hjm := hr.hm
  have hwf : (Lit.int .i64 (T.far a i b j : Nat)).wf = true := wf_of (by omega) (by omega)
  obtain ⟨es', clock', hrun, F', _, _, _, hc⟩ := fit_store (R' := plainElem Tryz.prog 3) law4 Tryz.underlying59 hb F (memo_room hT F hE) (fun _ _ _ _ hz => hz) hl (plainElem_int Tryz.underlying3 hwf)
  refine ⟨_, hrun, ⟨es', clock', heap_setBlock_same hb _, F', fun e he => ?_⟩, ⟨rfl, rfl, rfl, by simp [setBlock], fun k _ hk => heap_setBlock_other hb _ (by omega)⟩⟩
  rcases hc e he with ⟨h1, _⟩ | ⟨h1, h2⟩
  · exact hE e h1
  · exact ⟨a, i, b, j, hr, h1, h2⟩
end Go.Proofs.YtmhkacafilpliaaGreat

namespace Go.Proofs.YtmhkacafilpliaaGreat
open Go.RowKit Go.Sort Go.Shelf Go.BigFrame

theorem FR136 : List.range 136 = [0, 1, 2, 3, 4, 5, 6, 7, 8, 9, 10, 11, 12, 13, 14, 15, 16, 17, 18, 19, 20, 21, 22, 23, 24, 25, 26, 27, 28, 29, 30, 31, 32, 33, 34, 35, 36, 37, 38, 39, 40, 41, 42, 43, 44, 45, 46, 47, 48, 49, 50, 51, 52, 53, 54, 55, 56, 57, 58, 59, 60, 61, 62, 63, 64, 65, 66, 67, 68, 69, 70, 71, 72, 73, 74, 75, 76, 77, 78, 79, 80, 81, 82, 83, 84, 85, 86, 87, 88, 89, 90, 91, 92, 93, 94, 95, 96, 97, 98, 99, 100, 101, 102, 103, 104, 105, 106, 107, 108, 109, 110, 111, 112, 113, 114, 115, 116, 117, 118, 119, 120, 121, 122, 123, 124, 125, 126, 127, 128, 129, 130, 131, 132, 133, 134, 135] := rfl
theorem old_al {w : World} {k : Nat} (o : Obj) (h : k < w.heap.size) : (w.alloc o).heap[k]? = w.heap[k]? := (below_al (Below.refl w.heap.size w)).block k h
theorem op_put {P : Program} {o : Oper} {a : Act} {K : Act → World → Prop} {Q : Exit → Act → World → Prop} {w w' : World} {m x v : Operand} {t : TypeId} {mv xv vv : Value}
    (ho : o.op = .mapUpdate t m x v) (hm : a.eval m = mv) (hx : a.eval x = xv) (hv : a.eval v = vv) (hrun : (Instr.mapUpdate t mv xv vv).run P w = .ok () w') (h : K (a.put o.dst undef) w') : o.wp P a w K Q := by
  subst hm hx hv
  unfold Oper.wp
  simp [execOp, ho, hrun, Result.andThen]
  exact h
/-- A region that draws its order, read once, over a class of worlds. -/
theorem wp_region_cls {P : Program} {id : Nat} {Q : Exit → Act → World → Prop} {a : Act} {w : World} {l : List Oper} {C : World → Prop} (hm : P.follows .mixedOrders = true) (hB : Region.lexB .any l.toArray = true) (hC : C w.drew)
    (h : wpQuiet P l.toArray C (fun a' => ∀ w', C w' → Q .normal a' w') l a) : (Code.region id l.toArray true).wp P Q a w :=
  wp_region_quiet (C := C) hm hB hC (by simpa using h)
/-- Slots that hold constants. -/
def GCl (ks : List Value) (i : Nat) (_ : Unit) (v : Value) (_ : World) : Prop := match ks[i]? with | some c => v = c | none => True
/-- The worlds behind one: what is known is right, and only that was changed. -/
def Kn (T : Two) (MB : Nat) (V W : World) : Prop := KpM MB (MB + 1) V W ∧ Memo T MB W
/-- Behind a call: the number, and what is known is right. -/
def FarC (T : Two) (MB : Nat) (W : World) (f : Nat) (e : Ending) (w' : World) : Prop := e = .returned (.int .i64 (f : Int)) ∧ KpM MB (MB + 1) W w' ∧ Memo T MB w'
set_option maxRecDepth 100000 in
set_option maxHeartbeats 3200000 in
theorem eqi_rlab (w : World) (c d : Lab) : (Op.equalIn 10000 97 c.val d.val).run Tryz.prog w = .ok (decide (c = d)) w := by
  rw [lab_dec]
  simp [go_sem]
  repeat' split
  all_goals simp_all
set_option maxRecDepth 100000 in
theorem eql_rlab (w : World) (c d : Lab) : (binOp .eql 97 c.val d.val).run Tryz.prog w = .ok (.bool (decide (c = d))) w := by
  rw [run_eql_struct, eqi_rlab]; rfl
theorem z_at {w : World} {lo hi : Nat} {a : Option Addr} {l : List Nat} (h : SlE i64Z 1 w lo hi a (intsL l)) {k v : Nat} (hk : l[k]? = some v) :
    ∃ b off, a = some ⟨b, off, none⟩ ∧ lo ≤ b ∧ b < w.heap.size ∧ w.cell? ⟨b, off + k, none⟩ = some (.int .i64 (v : Int)) := by
  have hl : k < l.length := (List.getElem?_eq_some_iff.1 hk).1
  obtain ⟨b, off, e, g1, g2, g4⟩ := rowz h (by omega)
  exact ⟨b, off, e, g1, g2, g4 k v hk⟩
theorem box_ints {w : World} {g : Nat} {a b c d : Value} {t : TypeId} (h : w.heap[g]? = some (.cells #[a, b, c, d] t (0, 0))) : w.cell? ⟨g, 0, none⟩ = some a ∧ w.cell? ⟨g, 1, none⟩ = some b ∧ w.cell? ⟨g, 2, none⟩ = some c ∧ w.cell? ⟨g, 3, none⟩ = some d := vb4 h
/-- A pair of postorders as it lies. -/
structure PairAt (T : Two) (G MB : Nat) (al af ar bl bf br : Option Addr) (ca cf nr cr cb df mr dr : Nat) (LA LB : List Lab) (FA FB : List Nat) (W : World) : Prop where
  box : W.heap[G]? = some (.cells #[.slice al LA.length ca, .slice af FA.length cf, .slice ar nr cr, .slice bl LB.length cb, .slice bf FB.length df, .slice br mr dr, .map (some MB)] 64 (0, 0))
  hG : MB < G
  la : SlE Lab.enc 4 W (MB + 1) W.heap.size al LA
  fa : SlE i64Z 1 W (MB + 1) W.heap.size af (intsL FA)
  lb : SlE Lab.enc 4 W (MB + 1) W.heap.size bl LB
  fb : SlE i64Z 1 W (MB + 1) W.heap.size bf (intsL FB)
  na : T.n = LA.length ∧ T.n = FA.length ∧ T.n ≤ 4096
  nb : T.m = LB.length ∧ T.m = FB.length ∧ T.m ≤ 4096
  ra : ∀ i, i < T.n → LA[i]? = some (T.la i) ∧ FA[i]? = some (T.fa i)
  rb : ∀ i, i < T.m → LB[i]? = some (T.lb i) ∧ FB[i]? = some (T.fb i)
set_option maxRecDepth 100000 in
set_option maxHeartbeats 12800000 in
theorem rfar_c {T : Two} {G MB : Nat} {al af ar bl bf br : Option Addr} {ca cf nr cr cb df mr dr : Nat} {LA LB : List Lab} {FA FB : List Nat} {W0 : World} (hP : PairAt T G MB al af ar bl bf br ca cf nr cr cb df mr dr LA LB FA FB W0) :
    ∀ (n a i b j : Nat), (i - a) + (j - b) ≤ n → OkR T a i b j → ∀ W, KpM MB (MB + 1) W0 W → Memo T MB W → Calls Tryz.prog 58 #[.pointer (some ⟨G, 0, none⟩), keyV a ((i : Int) - 1) b ((j : Int) - 1)] W (FarC T MB W (T.far a i b j)) := by
  intro n
  induction n using Nat.strongRecOn with
  | _ n ih =>
  intro a i b j hn hr W hW hM
  have hia := hr.hi
  have hin := hr.hn
  have hjb := hr.hj
  have hjm := hr.hm
  have hnA := hP.na.2.2
  have hmB := hP.nb.2.2
  have hkp : ∀ o, KpM MB (MB + 1) W (W.alloc o) := fun o => KpM.of_below (below_al (Below.refl _ _))
  have hme : ∀ o, Memo T MB (W.alloc o) := fun o => hM.keep (old_al _ (by obtain ⟨_, _, hb, _⟩ := hM; exact (Array.getElem?_eq_some_iff.1 hb).1))
  unfold keyV
  by_cases h1 : i = a
  · have e := T.none_a (a := a) (i := i) (b := b) (j := j) (by omega) hjb hjm hr.cb
    obtain ⟨f, hf⟩ : ∃ f, f = T.far a i b j := ⟨_, rfl⟩
    rw [← hf] at e ⊢
    obtain ⟨xi, hxi⟩ : ∃ xi : Int, xi = (i : Int) - 1 := ⟨_, rfl⟩
    obtain ⟨xj, hxj⟩ : ∃ xj : Int, xj = (j : Int) - 1 := ⟨_, rfl⟩
    rw [← hxi, ← hxj]
    have c1 : decide (xi < (a : Int)) = true := decide_eq_true (by omega)
    have w1 : IntKind.i64.wrap (xj - (b : Int)) = xj - (b : Int) := IntWalk.i64_in _ (by omega)
    have w2 : IntKind.i64.wrap (xj - (b : Int) + 1) = (f : Int) := by rw [IntWalk.i64_in _ (by omega)]; omega
    have HKP := Lib.hid hkp
    have HME := Lib.hid hme
    clear ih hn hia hin hjb hjm h1 e hf hxi hxj hkp hme
    go_enter Tryz.func58, Tryz.ntmps58
    go_wp2_with fail
    go_ret
    exact ⟨rfl, HKP.out _, HME.out _⟩
  by_cases h2 : j = b
  · have e := T.none_b (a := a) (i := i) (b := b) (j := j) hia (by omega) hin hr.ca
    obtain ⟨f, hf⟩ : ∃ f, f = T.far a i b j := ⟨_, rfl⟩
    rw [← hf] at e ⊢
    obtain ⟨xi, hxi⟩ : ∃ xi : Int, xi = (i : Int) - 1 := ⟨_, rfl⟩
    obtain ⟨xj, hxj⟩ : ∃ xj : Int, xj = (j : Int) - 1 := ⟨_, rfl⟩
    rw [← hxi, ← hxj]
    have c1 : decide (xi < (a : Int)) = false := decide_eq_false (by omega)
    have c2 : decide (xj < (b : Int)) = true := decide_eq_true (by omega)
    have w1 : IntKind.i64.wrap (xi - (a : Int)) = xi - (a : Int) := IntWalk.i64_in _ (by omega)
    have w2 : IntKind.i64.wrap (xi - (a : Int) + 1) = (f : Int) := by rw [IntWalk.i64_in _ (by omega)]; omega
    have HKP := Lib.hid hkp
    have HME := Lib.hid hme
    clear ih hn hia hin hjb hjm h1 h2 e hf hxi hxj hkp hme
    go_enter Tryz.func58, Tryz.ntmps58
    go_wp2_with fail
    go_ret
    exact ⟨rfl, HKP.out _, HME.out _⟩
  obtain ⟨v, rfl⟩ : ∃ v, i = v + 1 := ⟨i - 1, by omega⟩
  obtain ⟨u, rfl⟩ : ∃ u, j = u + 1 := ⟨j - 1, by omega⟩
  have hav : a ≤ v := by omega
  have hbu : b ≤ u := by omega
  have hstep := T.step hav hbu hin hjm hr.ca hr.cb
  have hlv := T.ha.le v (by omega)
  have hmu := T.hb.le u (by omega)
  have hla := hr.ca v hav (by omega)
  have hmb := hr.cb u hbu (by omega)
  have hlook := memo_look ⟨hnA, hmB⟩ hM hr
  obtain ⟨rA1, rA2⟩ := hP.ra v (by omega)
  obtain ⟨rB1, rB2⟩ := hP.rb u (by omega)
  have ok1 : OkR T a v b (u + 1) := ⟨hav, by omega, hjb, hjm, hr.ca.less (by omega), hr.cb⟩
  have ok2 : OkR T a (v + 1) b u := ⟨hia, hin, hbu, by omega, hr.ca, hr.cb.less (by omega)⟩
  have ok3 : OkR T (T.fa v) v (T.fb u) u := ⟨hlv, by omega, hmu, by omega, (T.ha.clo (by omega)).less (by omega), (T.hb.clo (by omega)).less (by omega)⟩
  have ok4 : OkR T a (T.fa v) b (T.fb u) := ⟨hla, by omega, hmb, by omega, hr.ca.less (by omega), hr.cb.less (by omega)⟩
  have b1 := T.far_bnd ok1.hi ok1.hj ok1.hn ok1.hm ok1.ca ok1.cb
  have b2 := T.far_bnd ok2.hi ok2.hj ok2.hn ok2.hm ok2.ca ok2.cb
  have b3 := T.far_bnd ok3.hi ok3.hj ok3.hn ok3.hm ok3.ca ok3.cb
  have b4 := T.far_bnd ok4.hi ok4.hj ok4.hn ok4.hm ok4.ca ok4.cb
  have ih1 := ih ((v - a) + (u + 1 - b)) (by omega) a v b (u + 1) (Nat.le_refl _) ok1
  have ih2 := ih ((v + 1 - a) + (u - b)) (by omega) a (v + 1) b u (Nat.le_refl _) ok2
  have ih3 := ih ((v - T.fa v) + (u - T.fb u)) (by omega) (T.fa v) v (T.fb u) u (Nat.le_refl _) ok3
  have ih4 := ih ((T.fa v - a) + (T.fb u - b)) (by omega) a (T.fa v) b (T.fb u) (Nat.le_refl _) ok4
  have hput := fun W (h : Memo T MB W) => memo_put ⟨hnA, hmB⟩ h hr
  unfold keyV at hlook ih1 ih2 ih3 ih4 hput
  obtain ⟨l, hl⟩ : ∃ l, l = T.fa v := ⟨_, rfl⟩
  obtain ⟨m, hm⟩ : ∃ m, m = T.fb u := ⟨_, rfl⟩
  obtain ⟨R, hR⟩ : ∃ R, R = T.far a (v + 1) b (u + 1) := ⟨_, rfl⟩
  obtain ⟨f1, hf1⟩ : ∃ f, f = T.far a v b (u + 1) := ⟨_, rfl⟩
  obtain ⟨f2, hf2⟩ : ∃ f, f = T.far a (v + 1) b u := ⟨_, rfl⟩
  obtain ⟨f3, hf3⟩ : ∃ f, f = T.far (T.fa v) v (T.fb u) u := ⟨_, rfl⟩
  obtain ⟨f4, hf4⟩ : ∃ f, f = T.far a (T.fa v) b (T.fb u) := ⟨_, rfl⟩
  obtain ⟨lx, hlx⟩ : ∃ x, x = T.la v := ⟨_, rfl⟩
  obtain ⟨ly, hly⟩ : ∃ x, x = T.lb u := ⟨_, rfl⟩
  rw [← hR, ← hf1, ← hf2, ← hf3, ← hf4, ← hlx, ← hly] at hstep
  rw [← hR] at hlook hput ⊢
  rw [← hf1] at ih1 b1
  rw [← hf2] at ih2 b2
  rw [← hf3, ← hl, ← hm] at ih3
  rw [← hf4, ← hl, ← hm] at ih4
  rw [← hf3] at b3
  rw [← hf4] at b4
  rw [← hlx] at rA1
  rw [← hly] at rB1
  rw [← hl] at rA2 hla hlv
  rw [← hm] at rB2 hmb hmu
  have ev : ((v + 1 : Nat) : Int) - 1 = (v : Int) := by omega
  have eu : ((u + 1 : Nat) : Int) - 1 = (u : Int) := by omega
  rw [ev, eu] at hlook hput ⊢
  rw [eu] at ih1
  rw [ev] at ih2
  have hlen := hP.na
  have hlen2 := hP.nb
  have hvA : (v : Int) < (LA.length : Int) := by omega
  have hvF : (v : Int) < (FA.length : Int) := by omega
  have huA : (u : Int) < (LB.length : Int) := by omega
  have huF : (u : Int) < (FB.length : Int) := by omega
  have hv0 : (0 : Int) ≤ (v : Int) := by omega
  have hu0 : (0 : Int) ≤ (u : Int) := by omega
  obtain ⟨a1, o1, eal, ga1, -, ha1, c10, c11, c12, c13⟩ := lab_at hP.la rA1
  obtain ⟨a2, o2, ebl, ga2, -, ha2, c20, c21, c22, c23⟩ := lab_at hP.lb rB1
  obtain ⟨a3, o3, eaf, ga3, ha3, c30⟩ := z_at hP.fa rA2
  obtain ⟨a4, o4, ebf, ga4, ha4, c40⟩ := z_at hP.fb rB2
  have hbx := hP.box
  rw [eal, ebl, eaf, ebf] at hbx
  have hGs : G < W0.heap.size := (Array.getElem?_eq_some_iff.1 hbx).1
  have hGM := hP.hG
  have HPB := Lib.hid (show ∀ V, KpM MB (MB + 1) W0 V → V.cell? ⟨G, 0, none⟩ = some (.slice (some ⟨a1, o1, none⟩) LA.length ca) ∧ V.cell? ⟨G, 1, none⟩ = some (.slice (some ⟨a3, o3, none⟩) FA.length cf) ∧ V.cell? ⟨G, 3, none⟩ = some (.slice (some ⟨a2, o2, none⟩) LB.length cb) ∧ V.cell? ⟨G, 4, none⟩ = some (.slice (some ⟨a4, o4, none⟩) FB.length df) from fun V h => by
    refine ⟨?_, ?_, ?_, ?_⟩ <;> (rw [h.cell hGs (.inr (by omega))]; simp [World.cell?, hbx]))
  have HPM := Lib.hid (show ∀ V, KpM MB (MB + 1) W0 V → V.cell? ⟨G, 6, none⟩ = some (.map (some MB)) from fun V h => by rw [h.cell hGs (.inr (by omega))]; simp [World.cell?, hbx])
  have HLB := Lib.hid (show ∀ V, KpM MB (MB + 1) W0 V → (V.cell? ⟨a1, o1 + v * 4, none⟩ = some (.bool lx.kd) ∧ V.cell? ⟨a1, o1 + v * 4 + 1, none⟩ = some (.string lx.key) ∧ V.cell? ⟨a1, o1 + v * 4 + 2, none⟩ = some (.int .u8 lx.k) ∧ V.cell? ⟨a1, o1 + v * 4 + 3, none⟩ = some (.string lx.t)) ∧ (V.cell? ⟨a2, o2 + u * 4, none⟩ = some (.bool ly.kd) ∧ V.cell? ⟨a2, o2 + u * 4 + 1, none⟩ = some (.string ly.key) ∧ V.cell? ⟨a2, o2 + u * 4 + 2, none⟩ = some (.int .u8 ly.k) ∧ V.cell? ⟨a2, o2 + u * 4 + 3, none⟩ = some (.string ly.t)) from fun V h => by
    refine ⟨⟨?_, ?_, ?_, ?_⟩, ?_, ?_, ?_, ?_⟩ <;> (rw [h.cell (by omega) (.inr (by omega))]; assumption))
  have HLF := Lib.hid (show ∀ V, KpM MB (MB + 1) W0 V → V.cell? ⟨a3, o3 + v, none⟩ = some (.int .i64 (l : Int)) ∧ V.cell? ⟨a4, o4 + u, none⟩ = some (.int .i64 (m : Int)) from fun V h => by
    refine ⟨?_, ?_⟩ <;> (rw [h.cell (by omega) (.inr (by omega))]; assumption))
  have hxs : W.heap.size ≠ MB := by obtain ⟨_, _, hb, _⟩ := hM; have := (Array.getElem?_eq_some_iff.1 hb).1; omega
  have hxb : MB < W.heap.size := by obtain ⟨_, _, hb, _⟩ := hM; exact (Array.getElem?_eq_some_iff.1 hb).1
  have hsz : W0.heap.size ≤ W.heap.size := hW.2.2.2.1
  obtain ⟨g1, hg1⟩ : ∃ g, g = min f1 f2 := ⟨_, rfl⟩
  obtain ⟨g2, hg2⟩ : ∃ g, g = g1 + 1 := ⟨_, rfl⟩
  obtain ⟨g3, hg3⟩ : ∃ g, g = f3 + f4 := ⟨_, rfl⟩
  obtain ⟨g4, hg4⟩ : ∃ g, g = g3 + rel lx ly := ⟨_, rfl⟩
  have hrl := rel_le lx ly
  have hRg : R = min g2 g4 := by omega
  have hmn1 : min (f1 : Int) (f2 : Int) = (g1 : Int) := by omega
  have hmn2 : min (g2 : Int) (g4 : Int) = (R : Int) := by omega
  have hw1 : IntKind.i64.wrap ((v : Int) - 1) = (v : Int) - 1 := IntWalk.i64_in _ (by omega)
  have hw2 : IntKind.i64.wrap ((u : Int) - 1) = (u : Int) - 1 := IntWalk.i64_in _ (by omega)
  have hw3 : IntKind.i64.wrap ((g1 : Int) + 1) = (g2 : Int) := by rw [IntWalk.i64_in _ (by omega)]; omega
  have hw4 : IntKind.i64.wrap ((l : Int) - 1) = (l : Int) - 1 := IntWalk.i64_in _ (by omega)
  have hw5 : IntKind.i64.wrap ((m : Int) - 1) = (m : Int) - 1 := IntWalk.i64_in _ (by omega)
  have hs1 : IntKind.i64.wrap ((f3 : Int) + (f4 : Int)) = (g3 : Int) := by rw [IntWalk.i64_in _ (by omega)]; omega
  have HBD := Lib.hid (show g3 ≤ 100000 ∧ g4 ≤ 100001 by omega)
  have HG4 := Lib.hid hg4
  have d1 : decide ((v : Int) < (a : Int)) = false := decide_eq_false (by omega)
  have d1' : decide (v < a) = false := decide_eq_false (by omega)
  have d2 : decide ((u : Int) < (b : Int)) = false := decide_eq_false (by omega)
  have d2' : decide (u < b) = false := decide_eq_false (by omega)
  have heq : ∀ V : World, (binOp .eql 97 (.agg #[.bool lx.kd, .string lx.key, .int .u8 lx.k, .string lx.t]) (.agg #[.bool ly.kd, .string ly.key, .int .u8 ly.k, .string ly.t])).run Tryz.prog V = .ok (.bool (decide (lx = ly))) V := fun V => eql_rlab V lx ly
  have HLK := Lib.hid hlook
  have HPT := Lib.hid hput
  have HI1 := Lib.hid ih1
  have HI2 := Lib.hid ih2
  have HI3 := Lib.hid ih3
  have HI4 := Lib.hid ih4
  have HW := Lib.hid hW
  have HM := Lib.hid hM
  have HSZ := Lib.hid hsz
  have HKP := Lib.hid hkp
  have HME := Lib.hid hme
  have HEQ := Lib.hid heq
  clear ih hn hr hia hin hjb hjm h1 h2 hP hnA hmB hav hbu hstep hlv hmu hla hmb hlook rA1 rA2 rB1 rB2 ok1 ok2 ok3 ok4 b1 b2 b3 b4 ih1 ih2 ih3 ih4 hput hl hm hR hf1 hf2 hf3 hf4 hlx hly ev eu hlen hlen2 eal ebl eaf ebf ga1 ga2 ga3 ga4 ha1 ha2 ha3 ha4 c10 c11 c12 c13 c20 c21 c22 c23 c30 c40 hbx hGs hGM hxs hsz hg1 hg2 hg3 hg4 hrl hRg hW hM hkp hme heq
  go_enter Tryz.func58, Tryz.ntmps58
  go_upto_region 5 with fail
  go_name_world V hV
  obtain ⟨XB, hXB⟩ : ∃ XB, XB = W.heap.size := ⟨_, rfl⟩
  have hVb : Below W.heap.size W V := by rw [← hV]; exact below_al (Below.refl _ _)
  have hbx : V.heap[XB]? = some (.cells #[.int .i64 (a : Int), .int .i64 (v : Int), .int .i64 (b : Int), .int .i64 (u : Int)] 68 (0, 0)) := by rw [← hV, hXB]; exact heap_alloc_new W _
  have HVM := Lib.hid (show V.heap[MB]? = W.heap[MB]? by rw [← hV]; exact old_al _ hxb)
  have HV0 := Lib.hid (show KpM MB (MB + 1) W V from KpM.of_below hVb)
  have HVW := Lib.hid (HW.out.trans HV0.out)
  have hXM : MB < XB := by rw [hXB]; exact hxb
  have hXV : XB < V.heap.size := (Array.getElem?_eq_some_iff.1 hbx).1
  have HMV := Lib.hid (HM.out.keep HVM.out)
  have HXL0 := Lib.hid (show ∀ V', KpM MB (MB + 1) V V' → V'.cell? ⟨XB, 0, none⟩ = some (.int .i64 (a : Int)) ∧ V'.cell? ⟨XB, 1, none⟩ = some (.int .i64 (v : Int)) ∧ V'.cell? ⟨XB, 2, none⟩ = some (.int .i64 (b : Int)) ∧ V'.cell? ⟨XB, 3, none⟩ = some (.int .i64 (u : Int)) from fun V' h => by
    obtain ⟨x0, x1, x2, x3⟩ := box_ints hbx
    exact ⟨(h.cell hXV (.inr (by omega))).trans x0, (h.cell hXV (.inr (by omega))).trans x1, (h.cell hXV (.inr (by omega))).trans x2, (h.cell hXV (.inr (by omega))).trans x3⟩)
  rw [← hXB]
  clear hV hVb hbx hXB hxb hXM hXV d1 d1' d2 d2'
  have pm := HPM.out V HVW.out
  obtain ⟨x0, x1, x2, x3⟩ := HXL0.out V KpM.refl
  rcases HLK.out with hno | hyes
  · have hrun := fun W' (h : Below V.heap.size V W') => hno W' ((h.block MB (by obtain ⟨_, _, hb, _⟩ := HMV.out; exact (Array.getElem?_eq_some_iff.1 hb).1)).trans HVM.out)
    have LD := Lib.hid (fun W' (h : Below V.heap.size V W') => And.intro (blkv h x0) (And.intro (blkv h x1) (And.intro (blkv h x2) (And.intro (blkv h x3) (And.intro (blkv h pm) (hrun W' h))))))
    clear hno hrun
    refine wp_region_bl (by kernel_rfl) (by kernel_rfl) ?_
    repeat (first | go_big_quiet_skip | (go_big_quiet_want; go_big_quiet_op; first | go_big_quiet_on | (refine ⟨_, fun _ _ => (by with_reducible rfl), ?_⟩; go_big_quiet_on) | (apply Exists.intro; refine ⟨fun w' hC => (by simp only [LD.out w' hC, Result.andThen]; exact ⟨trivial, rfl⟩), ?_⟩; go_big_quiet_on)))
    refine wpQuiet_nil ?_; intro wz hbz
    have HKz := Lib.hid (KpM.of_below (a := MB) (b := MB + 1) hbz)
    have HMz := Lib.hid (HMV.out.keep (hbz.block MB (by obtain ⟨_, _, hb, _⟩ := HMV.out; exact (Array.getElem?_eq_some_iff.1 hb).1)))
    obtain ⟨V1, hV1⟩ : ∃ W, W = wz := ⟨_, rfl⟩
    subst hV1
    clear LD x0 x1 x2 x3 pm hbz
    obtain ⟨x0, x1, x2, x3⟩ := HXL0.out V1 HKz.out
    go_upto_region 10 with fail
    have HK1 := Lib.hid (HVW.out.trans HKz.out)
    have hcm : Kn T MB V1 V1.drew := ⟨KpM.of_below (Below.refl _ _).drew, HMz.out.keep rfl⟩
    have HH1 := fun W' (h : Kn T MB V1 W') => Lib.hid (show Calls Tryz.prog 58 #[.pointer (some ⟨G, 0, none⟩), .agg #[.int .i64 (a : Int), .int .i64 ((v : Int) - 1), .int .i64 (b : Int), .int .i64 (u : Int)]] W' (FarC T MB V1 f1) from (HI1.out W' (HK1.out.trans h.1) h.2).mono fun e w2 h2 => ⟨h2.1, h.1.trans h2.2.1, h2.2.2⟩)
    have HH2 := fun W' (h : Kn T MB V1 W') => Lib.hid (show Calls Tryz.prog 58 #[.pointer (some ⟨G, 0, none⟩), .agg #[.int .i64 (a : Int), .int .i64 (v : Int), .int .i64 (b : Int), .int .i64 ((u : Int) - 1)]] W' (FarC T MB V1 f2) from (HI2.out W' (HK1.out.trans h.1) h.2).mono fun e w2 h2 => ⟨h2.1, h.1.trans h2.2.1, h2.2.2⟩)
    have LD := Lib.hid (fun W' (h : Kn T MB V1 W') => And.intro (HXL0.out W' (HKz.out.trans h.1)).1 (And.intro (HXL0.out W' (HKz.out.trans h.1)).2.1 (And.intro (HXL0.out W' (HKz.out.trans h.1)).2.2.1 (HXL0.out W' (HKz.out.trans h.1)).2.2.2)))
    clear x0 x1 x2 x3
    refine wp_region_cls (C := Kn T MB V1) (by kernel_rfl) (by kernel_rfl) hcm ?_
    repeat (first | go_big_quiet_skip | (go_big_quiet_want; go_big_quiet_op; first | go_big_quiet_on | (refine ⟨_, fun _ _ => (by with_reducible rfl), ?_⟩; go_big_quiet_on) | (apply Exists.intro; refine ⟨fun w' hC => (by simp only [LD.out w' hC, Result.andThen]; exact ⟨trivial, rfl⟩), ?_⟩; go_big_quiet_on) | (apply Exists.intro; refine ⟨fun w' hC => (by (with_reducible refine (HH1 w' hC).out.mono ?_); exact fun e w2 ⟨he, h1, h2⟩ => ⟨he, h1, h2⟩), ?_⟩; go_big_quiet_on) | (apply Exists.intro; refine ⟨fun w' hC => (by (with_reducible refine (HH2 w' hC).out.mono ?_); exact fun e w2 ⟨he, h1, h2⟩ => ⟨he, h1, h2⟩), ?_⟩; go_big_quiet_on)))
    refine wpQuiet_nil ?_
    intro W2a hz2
    have HK2a := Lib.hid (HK1.out.trans hz2.1)
    have HKa := Lib.hid (HV0.out.trans (HKz.out.trans hz2.1))
    have HM2a := Lib.hid hz2.2
    have HXLa := Lib.hid (fun V' (h : KpM MB (MB + 1) W2a V') => HXL0.out V' (HKz.out.trans (hz2.1.trans h)))
    clear hz2 hcm HH1 HH2 LD
    go_upto_region 12 with fail
    obtain ⟨pa, -, pb, -⟩ := HPB.out W2a HK2a.out
    obtain ⟨⟨k0, k1, k2, k3⟩, m0, m1, m2, m3⟩ := HLB.out W2a HK2a.out
    by_cases e : lx = ly
    · have kq := trivial
      have hrel : rel lx ly = 0 := by rw [e, rel_self]
      have HR := Lib.hid (show g4 = g3 + 0 by have := HG4.out; omega)
      have hqq := HEQ.out
      rw [decide_eq_true e] at hqq
      have LD := Lib.hid (fun V (h : Below W2a.heap.size W2a V) => And.intro (blkv h pa) (And.intro (blkv h pb) (And.intro (blkv h k0) (And.intro (blkv h k1) (And.intro (blkv h k2) (And.intro (blkv h k3) (And.intro (blkv h m0) (And.intro (blkv h m1) (And.intro (blkv h m2) (blkv h m3))))))))))
      clear pa pb k0 k1 k2 k3 m0 m1 m2 m3 e hrel
      refine wp_region_bl (by kernel_rfl) (by kernel_rfl) ?_
      repeat (first | go_big_quiet_skip | (go_big_quiet_want; go_big_quiet_op; first | go_big_quiet_on | (refine ⟨_, fun _ _ => (by with_reducible rfl), ?_⟩; go_big_quiet_on) | (apply Exists.intro; refine ⟨fun w' hC => (by simp only [LD.out w' hC, Result.andThen]; exact ⟨trivial, rfl⟩), ?_⟩; go_big_quiet_on)))
      refine wpQuiet_nil ?_; intro wz hbz
      obtain ⟨W2, hW2⟩ : ∃ W, W = wz := ⟨_, rfl⟩
      subst hW2
      have hkk := KpM.of_below (a := MB) (b := MB + 1) hbz
      have HK2 := Lib.hid (HK2a.out.trans hkk)
      have HK02 := Lib.hid (HKa.out.trans hkk)
      have HM2 := Lib.hid (HM2a.out.keep (hbz.block MB (by obtain ⟨_, _, hb, _⟩ := HM2a.out; exact (Array.getElem?_eq_some_iff.1 hb).1)))
      have HXL := Lib.hid (fun V' (h : KpM MB (MB + 1) W2 V') => HXLa.out V' (hkk.trans h))
      clear LD hqq hbz hkk
      have hs2 : IntKind.i64.wrap ((g3 : Int) + 0) = (g4 : Int) := by rw [IntWalk.i64_in _ (by have := HBD.out; omega)]; have := HR.out; omega
      have hs3 : IntKind.i64.wrap (g3 : Int) = (g4 : Int) := by rw [IntWalk.i64_in _ (by have := HBD.out; omega)]; have := HR.out; omega
      obtain ⟨-, p1, -, p4⟩ := HPB.out W2 HK2.out
      obtain ⟨c30, c40⟩ := HLF.out W2 HK2.out
      go_upto_region 16 with fail
      clear p1 p4 c30 c40
      have hcm : Kn T MB W2 W2.drew := ⟨KpM.of_below (Below.refl _ _).drew, HM2.out.keep rfl⟩
      have HH3 := fun W' (h : Kn T MB W2 W') => Lib.hid (show Calls Tryz.prog 58 #[.pointer (some ⟨G, 0, none⟩), .agg #[.int .i64 (l : Int), .int .i64 ((v : Int) - 1), .int .i64 (m : Int), .int .i64 ((u : Int) - 1)]] W' (FarC T MB W2 f3) from (HI3.out W' (HK2.out.trans h.1) h.2).mono fun e w2 h2 => ⟨h2.1, h.1.trans h2.2.1, h2.2.2⟩)
      have HH4 := fun W' (h : Kn T MB W2 W') => Lib.hid (show Calls Tryz.prog 58 #[.pointer (some ⟨G, 0, none⟩), .agg #[.int .i64 (a : Int), .int .i64 ((l : Int) - 1), .int .i64 (b : Int), .int .i64 ((m : Int) - 1)]] W' (FarC T MB W2 f4) from (HI4.out W' (HK2.out.trans h.1) h.2).mono fun e w2 h2 => ⟨h2.1, h.1.trans h2.2.1, h2.2.2⟩)
      have LD := Lib.hid (fun W' (h : Kn T MB W2 W') => And.intro (HXL.out W' h.1).1 (And.intro (HXL.out W' h.1).2.1 (And.intro (HXL.out W' h.1).2.2.1 (HXL.out W' h.1).2.2.2)))
      refine wp_region_cls (C := Kn T MB W2) (by kernel_rfl) (by kernel_rfl) hcm ?_
      repeat (first | go_big_quiet_skip | (go_big_quiet_want; go_big_quiet_op; first | go_big_quiet_on | (refine ⟨_, fun _ _ => (by with_reducible rfl), ?_⟩; go_big_quiet_on) | (apply Exists.intro; refine ⟨fun w' hC => (by simp only [LD.out w' hC, Result.andThen]; exact ⟨trivial, rfl⟩), ?_⟩; go_big_quiet_on) | (apply Exists.intro; refine ⟨fun w' hC => (by (with_reducible refine (HH3 w' hC).out.mono ?_); exact fun e w2 ⟨he, h1, h2⟩ => ⟨he, h1, h2⟩), ?_⟩; go_big_quiet_on) | (apply Exists.intro; refine ⟨fun w' hC => (by (with_reducible refine (HH4 w' hC).out.mono ?_); exact fun e w2 ⟨he, h1, h2⟩ => ⟨he, h1, h2⟩), ?_⟩; go_big_quiet_on)))
      refine wpQuiet_nil ?_
      intro W3 hz3
      have HM3 := Lib.hid hz3.2
      have HK3 := Lib.hid (HK2.out.trans hz3.1)
      have HK03 := Lib.hid (HK02.out.trans hz3.1)
      obtain ⟨x0, x1, x2, x3⟩ := HXL.out W3 hz3.1
      have pm : W3.cell? ⟨G, 6, none⟩ = some (.map (some MB)) := HPM.out W3 HK3.out
      have HPUT := Lib.hid (show ∀ W', Below W3.heap.size W3 W' → ∃ w', (Instr.mapUpdate 59 (.map (some MB)) (.agg #[.int .i64 (a : Int), .int .i64 (v : Int), .int .i64 (b : Int), .int .i64 (u : Int)]) (.int .i64 (R : Int))).run Tryz.prog W' = .ok () w' ∧ Memo T MB w' ∧ KpM MB (MB + 1) W' w' from fun W' h => HPT.out W' (HM3.out.keep (h.block MB (by obtain ⟨_, _, hb, _⟩ := HM3.out; exact (Array.getElem?_eq_some_iff.1 hb).1))))
      clear hz3 LD HH3 HH4 hcm hs1 hs2 hs3 hmn1 hmn2
      go_upto_region 17 with fail
      go_cut [] (fun wx => Hid (Memo T MB wx ∧ KpM MB (MB + 1) W3 wx))
      case first =>
        rename_i J K' hRJ hMK
        have HRJ := Lib.hid hRJ
        have HMK := Lib.hid hMK
        clear hRJ hMK
        refine wp_region_uses (Γ := Unit) (by kernel_rfl) (S := fun _ W => Below W3.heap.size W3 W) (G := GCl [(.pointer (some ⟨G, 0, none⟩)), (.pointer (some ⟨G, 0, none⟩)), (.pointer (some ⟨G, 6, none⟩)), (.map (some MB)), (.agg #[.int .i64 (a : Int), .int .i64 (v : Int), .int .i64 (b : Int), .int .i64 (u : Int)]), (.int .i64 (R : Int))]) (fun _ _ _ _ _ => True) (fun _ => false) () (by kernel_rfl) (by kernel_rfl) (by kernel_rfl) (by kernel_rfl) (by simp) (fun _ _ _ _ _ _ _ _ _ _ h => h) (Below.refl _ _).drew ?_
        refine ⟨?_, ?_, ?_, ?_, ?_, ?_, ?_⟩
        · intro g ac w F D
          have o0 := get_of (F.at 0 (by kernel_rfl)) (by simp [undef])
          refine ⟨wanted_none rfl, fun K hK => ?_⟩
          have HK := Lib.hid hK
          have FC := Lib.hid F.cls
          clear hK D F
          go_simp
          exact HK.out () _ _ FC.out trivial rfl
        · intro g ac w F D
          have e129 : ac.tmps.getD 129 undef = (.pointer (some ⟨G, 0, none⟩)) := (D ⟨0, .data⟩ (by simp) rfl _ _ rfl rfl)
          replace e129 := get_of e129 (by simp [undef])
          refine ⟨wanted_none rfl, fun K hK => ?_⟩
          have HK := Lib.hid hK
          have FC := Lib.hid F.cls
          clear hK D F
          go_simp
          exact HK.out () _ _ FC.out trivial rfl
        · intro g ac w F D
          have e130 : ac.tmps.getD 130 undef = (.pointer (some ⟨G, 0, none⟩)) := (D ⟨1, .data⟩ (by simp) rfl _ _ rfl rfl)
          replace e130 := get_of e130 (by simp [undef])
          refine ⟨wanted_none rfl, fun K hK => ?_⟩
          have HK := Lib.hid hK
          have FC := Lib.hid F.cls
          clear hK D F
          go_simp
          exact HK.out () _ _ FC.out trivial rfl
        · intro g ac w F D
          have e131 : ac.tmps.getD 131 undef = (.pointer (some ⟨G, 6, none⟩)) := (D ⟨2, .data⟩ (by simp) rfl _ _ rfl rfl)
          replace e131 := get_of e131 (by simp [undef])
          have c6 := blkv F.cls pm
          refine ⟨wanted_none rfl, fun K hK => ?_⟩
          have HK := Lib.hid hK
          have FC := Lib.hid F.cls
          clear hK D F
          go_simp
          exact HK.out () _ _ FC.out trivial rfl
        · intro g ac w F D
          have o3 := get_of (F.at 3 (by kernel_rfl)) (by simp [undef])
          have c0 := blkv F.cls x0
          have c1 := blkv F.cls x1
          have c2 := blkv F.cls x2
          have c3 := blkv F.cls x3
          refine ⟨wanted_none rfl, fun K hK => ?_⟩
          have HK := Lib.hid hK
          have FC := Lib.hid F.cls
          clear hK D F
          go_simp
          exact HK.out () _ _ FC.out trivial rfl
        · intro g ac w F D
          have o5 := get_of (F.at 5 (by kernel_rfl)) (by simp [undef])
          refine ⟨wanted_none rfl, fun K hK => ?_⟩
          have HK := Lib.hid hK
          have FC := Lib.hid F.cls
          clear hK D F
          go_simp
          exact HK.out () _ _ FC.out trivial rfl
        · intro g ac w F D _
          have e132 : ac.tmps.getD 132 undef = .map (some MB) := (D ⟨3, .data⟩ (by simp) rfl _ _ rfl rfl)
          have e133 : ac.tmps.getD 133 undef = (.agg #[.int .i64 (a : Int), .int .i64 (v : Int), .int .i64 (b : Int), .int .i64 (u : Int)]) := (D ⟨4, .data⟩ (by simp) rfl _ _ rfl rfl)
          have e134 : ac.tmps.getD 134 undef = .int .i64 (R : Int) := (D ⟨5, .data⟩ (by simp) rfl _ _ rfl rfl)
          obtain ⟨w', hrun, hme, hkp⟩ := HPUT.out w F.cls
          refine ⟨wanted_none rfl, fun K hK => ?_⟩
          obtain ⟨tm, df⟩ := ac
          refine op_put (m := .tmp 132) (x := .tmp 133) (v := .tmp 134) rfl e132 e133 e134 hrun ?_
          refine hK _ _ (HMK.out _ _ (Met.intro (HRJ.out _ _ ?_)))
          repeat apply Exists.intro
          refine ⟨?rel, ?eq⟩
          case eq =>
            have hdf : df = [] := F.defers
            subst hdf
            refine congrArg (fun t => Act.mk t []) ?_
            refine (arr_lit (n := 136) F.len).trans (congrArg List.toArray ?_)
            simp only [FR136, List.map_cons, List.map_nil]
            refine cons_eq ((F.at 0 (by kernel_rfl)).trans rfl) ?_
            refine cons_eq ((F.at 1 (by kernel_rfl)).trans rfl) ?_
            refine cons_eq ((F.at 2 (by kernel_rfl)).trans rfl) ?_
            refine cons_eq ((F.at 3 (by kernel_rfl)).trans rfl) ?_
            refine cons_eq ((F.at 4 (by kernel_rfl)).trans rfl) ?_
            refine cons_eq ((F.at 5 (by kernel_rfl)).trans rfl) ?_
            refine cons_eq ((F.at 6 (by kernel_rfl)).trans rfl) ?_
            refine cons_eq ((F.at 7 (by kernel_rfl)).trans rfl) ?_
            refine cons_eq ((F.at 8 (by kernel_rfl)).trans rfl) ?_
            refine cons_eq ((F.at 9 (by kernel_rfl)).trans rfl) ?_
            refine cons_eq ((F.at 10 (by kernel_rfl)).trans rfl) ?_
            refine cons_eq ((F.at 11 (by kernel_rfl)).trans rfl) ?_
            refine cons_eq ((F.at 12 (by kernel_rfl)).trans rfl) ?_
            refine cons_eq ((F.at 13 (by kernel_rfl)).trans rfl) ?_
            refine cons_eq ((F.at 14 (by kernel_rfl)).trans rfl) ?_
            refine cons_eq ((F.at 15 (by kernel_rfl)).trans rfl) ?_
            refine cons_eq ((F.at 16 (by kernel_rfl)).trans rfl) ?_
            refine cons_eq ((F.at 17 (by kernel_rfl)).trans rfl) ?_
            refine cons_eq ((F.at 18 (by kernel_rfl)).trans rfl) ?_
            refine cons_eq ((F.at 19 (by kernel_rfl)).trans rfl) ?_
            refine cons_eq ((F.at 20 (by kernel_rfl)).trans rfl) ?_
            refine cons_eq ((F.at 21 (by kernel_rfl)).trans rfl) ?_
            refine cons_eq ((F.at 22 (by kernel_rfl)).trans rfl) ?_
            refine cons_eq ((F.at 23 (by kernel_rfl)).trans rfl) ?_
            refine cons_eq ((F.at 24 (by kernel_rfl)).trans rfl) ?_
            refine cons_eq ((F.at 25 (by kernel_rfl)).trans rfl) ?_
            refine cons_eq ((F.at 26 (by kernel_rfl)).trans rfl) ?_
            refine cons_eq ((F.at 27 (by kernel_rfl)).trans rfl) ?_
            refine cons_eq ((F.at 28 (by kernel_rfl)).trans rfl) ?_
            refine cons_eq ((F.at 29 (by kernel_rfl)).trans rfl) ?_
            refine cons_eq ((F.at 30 (by kernel_rfl)).trans rfl) ?_
            refine cons_eq ((F.at 31 (by kernel_rfl)).trans rfl) ?_
            refine cons_eq ((F.at 32 (by kernel_rfl)).trans rfl) ?_
            refine cons_eq ((F.at 33 (by kernel_rfl)).trans rfl) ?_
            refine cons_eq ((F.at 34 (by kernel_rfl)).trans rfl) ?_
            refine cons_eq ((F.at 35 (by kernel_rfl)).trans rfl) ?_
            refine cons_eq ((F.at 36 (by kernel_rfl)).trans rfl) ?_
            refine cons_eq ((F.at 37 (by kernel_rfl)).trans rfl) ?_
            refine cons_eq ((F.at 38 (by kernel_rfl)).trans rfl) ?_
            refine cons_eq ((F.at 39 (by kernel_rfl)).trans rfl) ?_
            refine cons_eq ((F.at 40 (by kernel_rfl)).trans rfl) ?_
            refine cons_eq ((F.at 41 (by kernel_rfl)).trans rfl) ?_
            refine cons_eq ((F.at 42 (by kernel_rfl)).trans rfl) ?_
            refine cons_eq ((F.at 43 (by kernel_rfl)).trans rfl) ?_
            refine cons_eq ((F.at 44 (by kernel_rfl)).trans rfl) ?_
            refine cons_eq ((F.at 45 (by kernel_rfl)).trans rfl) ?_
            refine cons_eq ((F.at 46 (by kernel_rfl)).trans rfl) ?_
            refine cons_eq ((F.at 47 (by kernel_rfl)).trans rfl) ?_
            refine cons_eq ((F.at 48 (by kernel_rfl)).trans rfl) ?_
            refine cons_eq ((F.at 49 (by kernel_rfl)).trans rfl) ?_
            refine cons_eq ((F.at 50 (by kernel_rfl)).trans rfl) ?_
            refine cons_eq ((F.at 51 (by kernel_rfl)).trans rfl) ?_
            refine cons_eq ((F.at 52 (by kernel_rfl)).trans rfl) ?_
            refine cons_eq ((F.at 53 (by kernel_rfl)).trans rfl) ?_
            refine cons_eq ((F.at 54 (by kernel_rfl)).trans rfl) ?_
            refine cons_eq ((F.at 55 (by kernel_rfl)).trans rfl) ?_
            refine cons_eq ((F.at 56 (by kernel_rfl)).trans rfl) ?_
            refine cons_eq ((F.at 57 (by kernel_rfl)).trans rfl) ?_
            refine cons_eq ((F.at 58 (by kernel_rfl)).trans rfl) ?_
            refine cons_eq ((F.at 59 (by kernel_rfl)).trans rfl) ?_
            refine cons_eq ((F.at 60 (by kernel_rfl)).trans rfl) ?_
            refine cons_eq ((F.at 61 (by kernel_rfl)).trans rfl) ?_
            refine cons_eq ((F.at 62 (by kernel_rfl)).trans rfl) ?_
            refine cons_eq ((F.at 63 (by kernel_rfl)).trans rfl) ?_
            refine cons_eq ((F.at 64 (by kernel_rfl)).trans rfl) ?_
            refine cons_eq ((F.at 65 (by kernel_rfl)).trans rfl) ?_
            refine cons_eq ((F.at 66 (by kernel_rfl)).trans rfl) ?_
            refine cons_eq ((F.at 67 (by kernel_rfl)).trans rfl) ?_
            refine cons_eq ((F.at 68 (by kernel_rfl)).trans rfl) ?_
            refine cons_eq ((F.at 69 (by kernel_rfl)).trans rfl) ?_
            refine cons_eq ((F.at 70 (by kernel_rfl)).trans rfl) ?_
            refine cons_eq ((F.at 71 (by kernel_rfl)).trans rfl) ?_
            refine cons_eq ((F.at 72 (by kernel_rfl)).trans rfl) ?_
            refine cons_eq ((F.at 73 (by kernel_rfl)).trans rfl) ?_
            refine cons_eq ((F.at 74 (by kernel_rfl)).trans rfl) ?_
            refine cons_eq ((F.at 75 (by kernel_rfl)).trans rfl) ?_
            refine cons_eq ((F.at 76 (by kernel_rfl)).trans rfl) ?_
            refine cons_eq ((F.at 77 (by kernel_rfl)).trans rfl) ?_
            refine cons_eq ((F.at 78 (by kernel_rfl)).trans rfl) ?_
            refine cons_eq ((F.at 79 (by kernel_rfl)).trans rfl) ?_
            refine cons_eq ((F.at 80 (by kernel_rfl)).trans rfl) ?_
            refine cons_eq ((F.at 81 (by kernel_rfl)).trans rfl) ?_
            refine cons_eq ((F.at 82 (by kernel_rfl)).trans rfl) ?_
            refine cons_eq ((F.at 83 (by kernel_rfl)).trans rfl) ?_
            refine cons_eq ((F.at 84 (by kernel_rfl)).trans rfl) ?_
            refine cons_eq ((F.at 85 (by kernel_rfl)).trans rfl) ?_
            refine cons_eq ((F.at 86 (by kernel_rfl)).trans rfl) ?_
            refine cons_eq ((F.at 87 (by kernel_rfl)).trans rfl) ?_
            refine cons_eq ((F.at 88 (by kernel_rfl)).trans rfl) ?_
            refine cons_eq ((F.at 89 (by kernel_rfl)).trans rfl) ?_
            refine cons_eq ((F.at 90 (by kernel_rfl)).trans rfl) ?_
            refine cons_eq ((F.at 91 (by kernel_rfl)).trans rfl) ?_
            refine cons_eq ((F.at 92 (by kernel_rfl)).trans rfl) ?_
            refine cons_eq ((F.at 93 (by kernel_rfl)).trans rfl) ?_
            refine cons_eq ((F.at 94 (by kernel_rfl)).trans rfl) ?_
            refine cons_eq ((F.at 95 (by kernel_rfl)).trans rfl) ?_
            refine cons_eq ((F.at 96 (by kernel_rfl)).trans rfl) ?_
            refine cons_eq ((F.at 97 (by kernel_rfl)).trans rfl) ?_
            refine cons_eq ((F.at 98 (by kernel_rfl)).trans rfl) ?_
            refine cons_eq ((F.at 99 (by kernel_rfl)).trans rfl) ?_
            refine cons_eq ((F.at 100 (by kernel_rfl)).trans rfl) ?_
            refine cons_eq ((F.at 101 (by kernel_rfl)).trans rfl) ?_
            refine cons_eq ((F.at 102 (by kernel_rfl)).trans rfl) ?_
            refine cons_eq ((F.at 103 (by kernel_rfl)).trans rfl) ?_
            refine cons_eq ((F.at 104 (by kernel_rfl)).trans rfl) ?_
            refine cons_eq ((F.at 105 (by kernel_rfl)).trans rfl) ?_
            refine cons_eq ((F.at 106 (by kernel_rfl)).trans rfl) ?_
            refine cons_eq ((F.at 107 (by kernel_rfl)).trans rfl) ?_
            refine cons_eq ((F.at 108 (by kernel_rfl)).trans rfl) ?_
            refine cons_eq ((F.at 109 (by kernel_rfl)).trans rfl) ?_
            refine cons_eq ((F.at 110 (by kernel_rfl)).trans rfl) ?_
            refine cons_eq ((F.at 111 (by kernel_rfl)).trans rfl) ?_
            refine cons_eq ((F.at 112 (by kernel_rfl)).trans rfl) ?_
            refine cons_eq ((F.at 113 (by kernel_rfl)).trans rfl) ?_
            refine cons_eq ((F.at 114 (by kernel_rfl)).trans rfl) ?_
            refine cons_eq ((F.at 115 (by kernel_rfl)).trans rfl) ?_
            refine cons_eq ((F.at 116 (by kernel_rfl)).trans rfl) ?_
            refine cons_eq ((F.at 117 (by kernel_rfl)).trans rfl) ?_
            refine cons_eq ((F.at 118 (by kernel_rfl)).trans rfl) ?_
            refine cons_eq ((F.at 119 (by kernel_rfl)).trans rfl) ?_
            refine cons_eq ((F.at 120 (by kernel_rfl)).trans rfl) ?_
            refine cons_eq ((F.at 121 (by kernel_rfl)).trans rfl) ?_
            refine cons_eq ((F.at 122 (by kernel_rfl)).trans rfl) ?_
            refine cons_eq ((F.at 123 (by kernel_rfl)).trans rfl) ?_
            refine cons_eq ((F.at 124 (by kernel_rfl)).trans rfl) ?_
            refine cons_eq ((F.at 125 (by kernel_rfl)).trans rfl) ?_
            refine cons_eq ((F.at 126 (by kernel_rfl)).trans rfl) ?_
            refine cons_eq ((F.at 127 (by kernel_rfl)).trans rfl) ?_
            refine cons_eq ((F.at 128 (by kernel_rfl)).trans rfl) ?_
            refine cons_eq rfl ?_
            refine cons_eq rfl ?_
            refine cons_eq rfl ?_
            refine cons_eq rfl ?_
            refine cons_eq rfl ?_
            refine cons_eq rfl ?_
            refine cons_eq ((F.at 135 (by kernel_rfl)).trans rfl) ?_
            rfl
          case rel => exact Lib.hid ⟨hme, (KpM.of_below F.cls).trans hkp⟩
      case rest =>
        clear x0 x1 x2 x3 pm
        go_wp2_with fail
        go_ret
        exact ⟨rfl, HK03.out.trans hcut.out.2, hcut.out.1⟩
    · have kq := trivial
      have hrel : rel lx ly = 1 := by rw [rel, if_neg e]
      have HR := Lib.hid (show g4 = g3 + 1 by have := HG4.out; omega)
      have hqq := HEQ.out
      rw [decide_eq_false e] at hqq
      have LD := Lib.hid (fun V (h : Below W2a.heap.size W2a V) => And.intro (blkv h pa) (And.intro (blkv h pb) (And.intro (blkv h k0) (And.intro (blkv h k1) (And.intro (blkv h k2) (And.intro (blkv h k3) (And.intro (blkv h m0) (And.intro (blkv h m1) (And.intro (blkv h m2) (blkv h m3))))))))))
      clear pa pb k0 k1 k2 k3 m0 m1 m2 m3 e hrel
      refine wp_region_bl (by kernel_rfl) (by kernel_rfl) ?_
      repeat (first | go_big_quiet_skip | (go_big_quiet_want; go_big_quiet_op; first | go_big_quiet_on | (refine ⟨_, fun _ _ => (by with_reducible rfl), ?_⟩; go_big_quiet_on) | (apply Exists.intro; refine ⟨fun w' hC => (by simp only [LD.out w' hC, Result.andThen]; exact ⟨trivial, rfl⟩), ?_⟩; go_big_quiet_on)))
      refine wpQuiet_nil ?_; intro wz hbz
      obtain ⟨W2, hW2⟩ : ∃ W, W = wz := ⟨_, rfl⟩
      subst hW2
      have hkk := KpM.of_below (a := MB) (b := MB + 1) hbz
      have HK2 := Lib.hid (HK2a.out.trans hkk)
      have HK02 := Lib.hid (HKa.out.trans hkk)
      have HM2 := Lib.hid (HM2a.out.keep (hbz.block MB (by obtain ⟨_, _, hb, _⟩ := HM2a.out; exact (Array.getElem?_eq_some_iff.1 hb).1)))
      have HXL := Lib.hid (fun V' (h : KpM MB (MB + 1) W2 V') => HXLa.out V' (hkk.trans h))
      clear LD hqq hbz hkk
      have hs2 : IntKind.i64.wrap ((g3 : Int) + 1) = (g4 : Int) := by rw [IntWalk.i64_in _ (by have := HBD.out; omega)]; have := HR.out; omega
      obtain ⟨-, p1, -, p4⟩ := HPB.out W2 HK2.out
      obtain ⟨c30, c40⟩ := HLF.out W2 HK2.out
      go_upto_region 16 with fail
      clear p1 p4 c30 c40
      have hcm : Kn T MB W2 W2.drew := ⟨KpM.of_below (Below.refl _ _).drew, HM2.out.keep rfl⟩
      have HH3 := fun W' (h : Kn T MB W2 W') => Lib.hid (show Calls Tryz.prog 58 #[.pointer (some ⟨G, 0, none⟩), .agg #[.int .i64 (l : Int), .int .i64 ((v : Int) - 1), .int .i64 (m : Int), .int .i64 ((u : Int) - 1)]] W' (FarC T MB W2 f3) from (HI3.out W' (HK2.out.trans h.1) h.2).mono fun e w2 h2 => ⟨h2.1, h.1.trans h2.2.1, h2.2.2⟩)
      have HH4 := fun W' (h : Kn T MB W2 W') => Lib.hid (show Calls Tryz.prog 58 #[.pointer (some ⟨G, 0, none⟩), .agg #[.int .i64 (a : Int), .int .i64 ((l : Int) - 1), .int .i64 (b : Int), .int .i64 ((m : Int) - 1)]] W' (FarC T MB W2 f4) from (HI4.out W' (HK2.out.trans h.1) h.2).mono fun e w2 h2 => ⟨h2.1, h.1.trans h2.2.1, h2.2.2⟩)
      have LD := Lib.hid (fun W' (h : Kn T MB W2 W') => And.intro (HXL.out W' h.1).1 (And.intro (HXL.out W' h.1).2.1 (And.intro (HXL.out W' h.1).2.2.1 (HXL.out W' h.1).2.2.2)))
      refine wp_region_cls (C := Kn T MB W2) (by kernel_rfl) (by kernel_rfl) hcm ?_
      repeat (first | go_big_quiet_skip | (go_big_quiet_want; go_big_quiet_op; first | go_big_quiet_on | (refine ⟨_, fun _ _ => (by with_reducible rfl), ?_⟩; go_big_quiet_on) | (apply Exists.intro; refine ⟨fun w' hC => (by simp only [LD.out w' hC, Result.andThen]; exact ⟨trivial, rfl⟩), ?_⟩; go_big_quiet_on) | (apply Exists.intro; refine ⟨fun w' hC => (by (with_reducible refine (HH3 w' hC).out.mono ?_); exact fun e w2 ⟨he, h1, h2⟩ => ⟨he, h1, h2⟩), ?_⟩; go_big_quiet_on) | (apply Exists.intro; refine ⟨fun w' hC => (by (with_reducible refine (HH4 w' hC).out.mono ?_); exact fun e w2 ⟨he, h1, h2⟩ => ⟨he, h1, h2⟩), ?_⟩; go_big_quiet_on)))
      refine wpQuiet_nil ?_
      intro W3 hz3
      have HM3 := Lib.hid hz3.2
      have HK3 := Lib.hid (HK2.out.trans hz3.1)
      have HK03 := Lib.hid (HK02.out.trans hz3.1)
      obtain ⟨x0, x1, x2, x3⟩ := HXL.out W3 hz3.1
      have pm : W3.cell? ⟨G, 6, none⟩ = some (.map (some MB)) := HPM.out W3 HK3.out
      have HPUT := Lib.hid (show ∀ W', Below W3.heap.size W3 W' → ∃ w', (Instr.mapUpdate 59 (.map (some MB)) (.agg #[.int .i64 (a : Int), .int .i64 (v : Int), .int .i64 (b : Int), .int .i64 (u : Int)]) (.int .i64 (R : Int))).run Tryz.prog W' = .ok () w' ∧ Memo T MB w' ∧ KpM MB (MB + 1) W' w' from fun W' h => HPT.out W' (HM3.out.keep (h.block MB (by obtain ⟨_, _, hb, _⟩ := HM3.out; exact (Array.getElem?_eq_some_iff.1 hb).1))))
      clear hz3 LD HH3 HH4 hcm hs1 hs2 hmn1 hmn2
      go_upto_region 17 with fail
      go_cut [] (fun wx => Hid (Memo T MB wx ∧ KpM MB (MB + 1) W3 wx))
      case first =>
        rename_i J K' hRJ hMK
        have HRJ := Lib.hid hRJ
        have HMK := Lib.hid hMK
        clear hRJ hMK
        refine wp_region_uses (Γ := Unit) (by kernel_rfl) (S := fun _ W => Below W3.heap.size W3 W) (G := GCl [(.pointer (some ⟨G, 0, none⟩)), (.pointer (some ⟨G, 0, none⟩)), (.pointer (some ⟨G, 6, none⟩)), (.map (some MB)), (.agg #[.int .i64 (a : Int), .int .i64 (v : Int), .int .i64 (b : Int), .int .i64 (u : Int)]), (.int .i64 (R : Int))]) (fun _ _ _ _ _ => True) (fun _ => false) () (by kernel_rfl) (by kernel_rfl) (by kernel_rfl) (by kernel_rfl) (by simp) (fun _ _ _ _ _ _ _ _ _ _ h => h) (Below.refl _ _).drew ?_
        refine ⟨?_, ?_, ?_, ?_, ?_, ?_, ?_⟩
        · intro g ac w F D
          have o0 := get_of (F.at 0 (by kernel_rfl)) (by simp [undef])
          refine ⟨wanted_none rfl, fun K hK => ?_⟩
          have HK := Lib.hid hK
          have FC := Lib.hid F.cls
          clear hK D F
          go_simp
          exact HK.out () _ _ FC.out trivial rfl
        · intro g ac w F D
          have e129 : ac.tmps.getD 129 undef = (.pointer (some ⟨G, 0, none⟩)) := (D ⟨0, .data⟩ (by simp) rfl _ _ rfl rfl)
          replace e129 := get_of e129 (by simp [undef])
          refine ⟨wanted_none rfl, fun K hK => ?_⟩
          have HK := Lib.hid hK
          have FC := Lib.hid F.cls
          clear hK D F
          go_simp
          exact HK.out () _ _ FC.out trivial rfl
        · intro g ac w F D
          have e130 : ac.tmps.getD 130 undef = (.pointer (some ⟨G, 0, none⟩)) := (D ⟨1, .data⟩ (by simp) rfl _ _ rfl rfl)
          replace e130 := get_of e130 (by simp [undef])
          refine ⟨wanted_none rfl, fun K hK => ?_⟩
          have HK := Lib.hid hK
          have FC := Lib.hid F.cls
          clear hK D F
          go_simp
          exact HK.out () _ _ FC.out trivial rfl
        · intro g ac w F D
          have e131 : ac.tmps.getD 131 undef = (.pointer (some ⟨G, 6, none⟩)) := (D ⟨2, .data⟩ (by simp) rfl _ _ rfl rfl)
          replace e131 := get_of e131 (by simp [undef])
          have c6 := blkv F.cls pm
          refine ⟨wanted_none rfl, fun K hK => ?_⟩
          have HK := Lib.hid hK
          have FC := Lib.hid F.cls
          clear hK D F
          go_simp
          exact HK.out () _ _ FC.out trivial rfl
        · intro g ac w F D
          have o3 := get_of (F.at 3 (by kernel_rfl)) (by simp [undef])
          have c0 := blkv F.cls x0
          have c1 := blkv F.cls x1
          have c2 := blkv F.cls x2
          have c3 := blkv F.cls x3
          refine ⟨wanted_none rfl, fun K hK => ?_⟩
          have HK := Lib.hid hK
          have FC := Lib.hid F.cls
          clear hK D F
          go_simp
          exact HK.out () _ _ FC.out trivial rfl
        · intro g ac w F D
          have o5 := get_of (F.at 5 (by kernel_rfl)) (by simp [undef])
          refine ⟨wanted_none rfl, fun K hK => ?_⟩
          have HK := Lib.hid hK
          have FC := Lib.hid F.cls
          clear hK D F
          go_simp
          exact HK.out () _ _ FC.out trivial rfl
        · intro g ac w F D _
          have e132 : ac.tmps.getD 132 undef = .map (some MB) := (D ⟨3, .data⟩ (by simp) rfl _ _ rfl rfl)
          have e133 : ac.tmps.getD 133 undef = (.agg #[.int .i64 (a : Int), .int .i64 (v : Int), .int .i64 (b : Int), .int .i64 (u : Int)]) := (D ⟨4, .data⟩ (by simp) rfl _ _ rfl rfl)
          have e134 : ac.tmps.getD 134 undef = .int .i64 (R : Int) := (D ⟨5, .data⟩ (by simp) rfl _ _ rfl rfl)
          obtain ⟨w', hrun, hme, hkp⟩ := HPUT.out w F.cls
          refine ⟨wanted_none rfl, fun K hK => ?_⟩
          obtain ⟨tm, df⟩ := ac
          refine op_put (m := .tmp 132) (x := .tmp 133) (v := .tmp 134) rfl e132 e133 e134 hrun ?_
          refine hK _ _ (HMK.out _ _ (Met.intro (HRJ.out _ _ ?_)))
          repeat apply Exists.intro
          refine ⟨?rel, ?eq⟩
          case eq =>
            have hdf : df = [] := F.defers
            subst hdf
            refine congrArg (fun t => Act.mk t []) ?_
            refine (arr_lit (n := 136) F.len).trans (congrArg List.toArray ?_)
            simp only [FR136, List.map_cons, List.map_nil]
            refine cons_eq ((F.at 0 (by kernel_rfl)).trans rfl) ?_
            refine cons_eq ((F.at 1 (by kernel_rfl)).trans rfl) ?_
            refine cons_eq ((F.at 2 (by kernel_rfl)).trans rfl) ?_
            refine cons_eq ((F.at 3 (by kernel_rfl)).trans rfl) ?_
            refine cons_eq ((F.at 4 (by kernel_rfl)).trans rfl) ?_
            refine cons_eq ((F.at 5 (by kernel_rfl)).trans rfl) ?_
            refine cons_eq ((F.at 6 (by kernel_rfl)).trans rfl) ?_
            refine cons_eq ((F.at 7 (by kernel_rfl)).trans rfl) ?_
            refine cons_eq ((F.at 8 (by kernel_rfl)).trans rfl) ?_
            refine cons_eq ((F.at 9 (by kernel_rfl)).trans rfl) ?_
            refine cons_eq ((F.at 10 (by kernel_rfl)).trans rfl) ?_
            refine cons_eq ((F.at 11 (by kernel_rfl)).trans rfl) ?_
            refine cons_eq ((F.at 12 (by kernel_rfl)).trans rfl) ?_
            refine cons_eq ((F.at 13 (by kernel_rfl)).trans rfl) ?_
            refine cons_eq ((F.at 14 (by kernel_rfl)).trans rfl) ?_
            refine cons_eq ((F.at 15 (by kernel_rfl)).trans rfl) ?_
            refine cons_eq ((F.at 16 (by kernel_rfl)).trans rfl) ?_
            refine cons_eq ((F.at 17 (by kernel_rfl)).trans rfl) ?_
            refine cons_eq ((F.at 18 (by kernel_rfl)).trans rfl) ?_
            refine cons_eq ((F.at 19 (by kernel_rfl)).trans rfl) ?_
            refine cons_eq ((F.at 20 (by kernel_rfl)).trans rfl) ?_
            refine cons_eq ((F.at 21 (by kernel_rfl)).trans rfl) ?_
            refine cons_eq ((F.at 22 (by kernel_rfl)).trans rfl) ?_
            refine cons_eq ((F.at 23 (by kernel_rfl)).trans rfl) ?_
            refine cons_eq ((F.at 24 (by kernel_rfl)).trans rfl) ?_
            refine cons_eq ((F.at 25 (by kernel_rfl)).trans rfl) ?_
            refine cons_eq ((F.at 26 (by kernel_rfl)).trans rfl) ?_
            refine cons_eq ((F.at 27 (by kernel_rfl)).trans rfl) ?_
            refine cons_eq ((F.at 28 (by kernel_rfl)).trans rfl) ?_
            refine cons_eq ((F.at 29 (by kernel_rfl)).trans rfl) ?_
            refine cons_eq ((F.at 30 (by kernel_rfl)).trans rfl) ?_
            refine cons_eq ((F.at 31 (by kernel_rfl)).trans rfl) ?_
            refine cons_eq ((F.at 32 (by kernel_rfl)).trans rfl) ?_
            refine cons_eq ((F.at 33 (by kernel_rfl)).trans rfl) ?_
            refine cons_eq ((F.at 34 (by kernel_rfl)).trans rfl) ?_
            refine cons_eq ((F.at 35 (by kernel_rfl)).trans rfl) ?_
            refine cons_eq ((F.at 36 (by kernel_rfl)).trans rfl) ?_
            refine cons_eq ((F.at 37 (by kernel_rfl)).trans rfl) ?_
            refine cons_eq ((F.at 38 (by kernel_rfl)).trans rfl) ?_
            refine cons_eq ((F.at 39 (by kernel_rfl)).trans rfl) ?_
            refine cons_eq ((F.at 40 (by kernel_rfl)).trans rfl) ?_
            refine cons_eq ((F.at 41 (by kernel_rfl)).trans rfl) ?_
            refine cons_eq ((F.at 42 (by kernel_rfl)).trans rfl) ?_
            refine cons_eq ((F.at 43 (by kernel_rfl)).trans rfl) ?_
            refine cons_eq ((F.at 44 (by kernel_rfl)).trans rfl) ?_
            refine cons_eq ((F.at 45 (by kernel_rfl)).trans rfl) ?_
            refine cons_eq ((F.at 46 (by kernel_rfl)).trans rfl) ?_
            refine cons_eq ((F.at 47 (by kernel_rfl)).trans rfl) ?_
            refine cons_eq ((F.at 48 (by kernel_rfl)).trans rfl) ?_
            refine cons_eq ((F.at 49 (by kernel_rfl)).trans rfl) ?_
            refine cons_eq ((F.at 50 (by kernel_rfl)).trans rfl) ?_
            refine cons_eq ((F.at 51 (by kernel_rfl)).trans rfl) ?_
            refine cons_eq ((F.at 52 (by kernel_rfl)).trans rfl) ?_
            refine cons_eq ((F.at 53 (by kernel_rfl)).trans rfl) ?_
            refine cons_eq ((F.at 54 (by kernel_rfl)).trans rfl) ?_
            refine cons_eq ((F.at 55 (by kernel_rfl)).trans rfl) ?_
            refine cons_eq ((F.at 56 (by kernel_rfl)).trans rfl) ?_
            refine cons_eq ((F.at 57 (by kernel_rfl)).trans rfl) ?_
            refine cons_eq ((F.at 58 (by kernel_rfl)).trans rfl) ?_
            refine cons_eq ((F.at 59 (by kernel_rfl)).trans rfl) ?_
            refine cons_eq ((F.at 60 (by kernel_rfl)).trans rfl) ?_
            refine cons_eq ((F.at 61 (by kernel_rfl)).trans rfl) ?_
            refine cons_eq ((F.at 62 (by kernel_rfl)).trans rfl) ?_
            refine cons_eq ((F.at 63 (by kernel_rfl)).trans rfl) ?_
            refine cons_eq ((F.at 64 (by kernel_rfl)).trans rfl) ?_
            refine cons_eq ((F.at 65 (by kernel_rfl)).trans rfl) ?_
            refine cons_eq ((F.at 66 (by kernel_rfl)).trans rfl) ?_
            refine cons_eq ((F.at 67 (by kernel_rfl)).trans rfl) ?_
            refine cons_eq ((F.at 68 (by kernel_rfl)).trans rfl) ?_
            refine cons_eq ((F.at 69 (by kernel_rfl)).trans rfl) ?_
            refine cons_eq ((F.at 70 (by kernel_rfl)).trans rfl) ?_
            refine cons_eq ((F.at 71 (by kernel_rfl)).trans rfl) ?_
            refine cons_eq ((F.at 72 (by kernel_rfl)).trans rfl) ?_
            refine cons_eq ((F.at 73 (by kernel_rfl)).trans rfl) ?_
            refine cons_eq ((F.at 74 (by kernel_rfl)).trans rfl) ?_
            refine cons_eq ((F.at 75 (by kernel_rfl)).trans rfl) ?_
            refine cons_eq ((F.at 76 (by kernel_rfl)).trans rfl) ?_
            refine cons_eq ((F.at 77 (by kernel_rfl)).trans rfl) ?_
            refine cons_eq ((F.at 78 (by kernel_rfl)).trans rfl) ?_
            refine cons_eq ((F.at 79 (by kernel_rfl)).trans rfl) ?_
            refine cons_eq ((F.at 80 (by kernel_rfl)).trans rfl) ?_
            refine cons_eq ((F.at 81 (by kernel_rfl)).trans rfl) ?_
            refine cons_eq ((F.at 82 (by kernel_rfl)).trans rfl) ?_
            refine cons_eq ((F.at 83 (by kernel_rfl)).trans rfl) ?_
            refine cons_eq ((F.at 84 (by kernel_rfl)).trans rfl) ?_
            refine cons_eq ((F.at 85 (by kernel_rfl)).trans rfl) ?_
            refine cons_eq ((F.at 86 (by kernel_rfl)).trans rfl) ?_
            refine cons_eq ((F.at 87 (by kernel_rfl)).trans rfl) ?_
            refine cons_eq ((F.at 88 (by kernel_rfl)).trans rfl) ?_
            refine cons_eq ((F.at 89 (by kernel_rfl)).trans rfl) ?_
            refine cons_eq ((F.at 90 (by kernel_rfl)).trans rfl) ?_
            refine cons_eq ((F.at 91 (by kernel_rfl)).trans rfl) ?_
            refine cons_eq ((F.at 92 (by kernel_rfl)).trans rfl) ?_
            refine cons_eq ((F.at 93 (by kernel_rfl)).trans rfl) ?_
            refine cons_eq ((F.at 94 (by kernel_rfl)).trans rfl) ?_
            refine cons_eq ((F.at 95 (by kernel_rfl)).trans rfl) ?_
            refine cons_eq ((F.at 96 (by kernel_rfl)).trans rfl) ?_
            refine cons_eq ((F.at 97 (by kernel_rfl)).trans rfl) ?_
            refine cons_eq ((F.at 98 (by kernel_rfl)).trans rfl) ?_
            refine cons_eq ((F.at 99 (by kernel_rfl)).trans rfl) ?_
            refine cons_eq ((F.at 100 (by kernel_rfl)).trans rfl) ?_
            refine cons_eq ((F.at 101 (by kernel_rfl)).trans rfl) ?_
            refine cons_eq ((F.at 102 (by kernel_rfl)).trans rfl) ?_
            refine cons_eq ((F.at 103 (by kernel_rfl)).trans rfl) ?_
            refine cons_eq ((F.at 104 (by kernel_rfl)).trans rfl) ?_
            refine cons_eq ((F.at 105 (by kernel_rfl)).trans rfl) ?_
            refine cons_eq ((F.at 106 (by kernel_rfl)).trans rfl) ?_
            refine cons_eq ((F.at 107 (by kernel_rfl)).trans rfl) ?_
            refine cons_eq ((F.at 108 (by kernel_rfl)).trans rfl) ?_
            refine cons_eq ((F.at 109 (by kernel_rfl)).trans rfl) ?_
            refine cons_eq ((F.at 110 (by kernel_rfl)).trans rfl) ?_
            refine cons_eq ((F.at 111 (by kernel_rfl)).trans rfl) ?_
            refine cons_eq ((F.at 112 (by kernel_rfl)).trans rfl) ?_
            refine cons_eq ((F.at 113 (by kernel_rfl)).trans rfl) ?_
            refine cons_eq ((F.at 114 (by kernel_rfl)).trans rfl) ?_
            refine cons_eq ((F.at 115 (by kernel_rfl)).trans rfl) ?_
            refine cons_eq ((F.at 116 (by kernel_rfl)).trans rfl) ?_
            refine cons_eq ((F.at 117 (by kernel_rfl)).trans rfl) ?_
            refine cons_eq ((F.at 118 (by kernel_rfl)).trans rfl) ?_
            refine cons_eq ((F.at 119 (by kernel_rfl)).trans rfl) ?_
            refine cons_eq ((F.at 120 (by kernel_rfl)).trans rfl) ?_
            refine cons_eq ((F.at 121 (by kernel_rfl)).trans rfl) ?_
            refine cons_eq ((F.at 122 (by kernel_rfl)).trans rfl) ?_
            refine cons_eq ((F.at 123 (by kernel_rfl)).trans rfl) ?_
            refine cons_eq ((F.at 124 (by kernel_rfl)).trans rfl) ?_
            refine cons_eq ((F.at 125 (by kernel_rfl)).trans rfl) ?_
            refine cons_eq ((F.at 126 (by kernel_rfl)).trans rfl) ?_
            refine cons_eq ((F.at 127 (by kernel_rfl)).trans rfl) ?_
            refine cons_eq ((F.at 128 (by kernel_rfl)).trans rfl) ?_
            refine cons_eq rfl ?_
            refine cons_eq rfl ?_
            refine cons_eq rfl ?_
            refine cons_eq rfl ?_
            refine cons_eq rfl ?_
            refine cons_eq rfl ?_
            refine cons_eq ((F.at 135 (by kernel_rfl)).trans rfl) ?_
            rfl
          case rel => exact Lib.hid ⟨hme, (KpM.of_below F.cls).trans hkp⟩
      case rest =>
        clear x0 x1 x2 x3 pm
        go_wp2_with fail
        go_ret
        exact ⟨rfl, HK03.out.trans hcut.out.2, hcut.out.1⟩
  · have hrun := fun W' (h : Below V.heap.size V W') => hyes W' ((h.block MB (by obtain ⟨_, _, hb, _⟩ := HMV.out; exact (Array.getElem?_eq_some_iff.1 hb).1)).trans HVM.out)
    have LD := Lib.hid (fun W' (h : Below V.heap.size V W') => And.intro (blkv h x0) (And.intro (blkv h x1) (And.intro (blkv h x2) (And.intro (blkv h x3) (And.intro (blkv h pm) (hrun W' h))))))
    clear hyes hrun
    refine wp_region_bl (by kernel_rfl) (by kernel_rfl) ?_
    repeat (first | go_big_quiet_skip | (go_big_quiet_want; go_big_quiet_op; first | go_big_quiet_on | (refine ⟨_, fun _ _ => (by with_reducible rfl), ?_⟩; go_big_quiet_on) | (apply Exists.intro; refine ⟨fun w' hC => (by simp only [LD.out w' hC, Result.andThen]; exact ⟨trivial, rfl⟩), ?_⟩; go_big_quiet_on)))
    refine wpQuiet_nil ?_; intro wz hbz
    go_wp2_with fail
    go_ret
    exact ⟨rfl, HV0.out.trans (KpM.of_below hbz), HMV.out.keep (hbz.block MB (by obtain ⟨_, _, hb, _⟩ := HMV.out; exact (Array.getElem?_eq_some_iff.1 hb).1))⟩
end Go.Proofs.YtmhkacafilpliaaGreat

namespace Go.Proofs.YtmhkacafilpliaaGreat
open Go.RowKit Go.Sort Go.Shelf Go.BigFrame

theorem tri_stepF {N : Nat} {A W W' : World} (h : Below N A W) (hb : Below W.heap.size W W') (hN : N ≤ A.heap.size) : Below N A W' := h.trans (hb.mono (Nat.le_trans hN h.size))
theorem sum_partF {α : Type} (f : α → Nat) {l : List α} {k : Nat} {x : α} (hk : l[k]? = some x) : ((l.take k).map f).sum + f x ≤ (l.map f).sum := by
  have h : ((l.take (k + 1)).map f).sum ≤ (l.map f).sum := by
    conv => rhs; rw [← List.take_append_drop (k + 1) l]
    rw [List.map_append, List.sum_append]
    omega
  rw [List.take_add_one, hk, List.map_append, List.sum_append] at h
  simpa using h
theorem take_sumF {α : Type} (f : α → Nat) {l : List α} {k : Nat} {x : α} (hk : l[k]? = some x) : ((l.take (k + 1)).map f).sum = ((l.take k).map f).sum + f x := by
  rw [List.take_add_one, hk]; simp
set_option maxRecDepth 100000 in
set_option maxHeartbeats 3200000 in
theorem rsizeV_c : ∀ (x : AV) (w : World), Rd w x → x.w ≤ 1048576 → Calls Tryz.prog 27 #[x.val] w (Ret (.int .i64 (szV x.v : Int)) w) := AV.ind fun x ih w hx hw => by
  have hll := x.w_l
  have HM := fun W (h : Below w.heap.size w W) => Lib.hid (rmay_c x W (hx.up h) hw)
  have hB0 : Below (w.heap.size + 1) (w.alloc (.cells #[.int .u8 x.k, .string x.t, .slice x.la x.l.length x.lc, .slice x.ka x.ks.length x.kc] 26)) (w.alloc (.cells #[.int .u8 x.k, .string x.t, .slice x.la x.l.length x.lc, .slice x.ka x.ks.length x.kc] 26)) := Below.refl _ _
  have hb0 : Below w.heap.size w (w.alloc (.cells #[.int .u8 x.k, .string x.t, .slice x.la x.l.length x.lc, .slice x.ka x.ks.length x.kc] 26)) := (Below.refl _ _).alloc (Nat.le_refl _) _
  cases mx : x.v.may with
  | false =>
    have HF := Lib.hid (show szV x.v = 0 by unfold szV; rw [mx]; rfl)
    rw [mx] at HM
    clear mx ih
    go_enter Tryz.func27, Tryz.ntmps27
    go_wp2_with (go_at_call 13; refine (HM _ (by assumption)).out.mono ?_; rintro e w1 ⟨rfl, hb1⟩)
    go_ret
    exact ⟨by rw [HF.out]; rfl, below_via hb0 hb1⟩
  | true =>
    have HF := Lib.hid (show szV x.v = x.v.size by unfold szV; rw [mx]; rfl)
    have hkm : ∀ y ∈ x.l, y.v.may = true := fun y hy => (may_kid mx (by rw [AV.v_l]; exact List.mem_map_of_mem hy)).2
    have hsz := x.v.size_le
    have hxw : x.v.w ≤ 1048576 := hw
    have hse := Val.size_eq x.v
    rw [AV.v_l] at hse
    have HKM := Lib.hid hkm
    have HI := Lib.hid ih
    have HX := Lib.hid hx
    have HSE := Lib.hid hse
    rw [mx] at HM
    clear mx ih hkm hx hse
    go_enter Tryz.func27, Tryz.ntmps27
    go_wp2_with (go_at_call 13; refine (HM _ (by assumption)).out.mono ?_; rintro e w1 ⟨rfl, hb1⟩)
    have hB1 := tri_stepF (N := w.heap.size + 1) hB0 hb1 (by simp)
    have HB1 := Lib.hid hB1
    clear hB1 hB0 hb0 hb1 HM
    go_loopw [3, 4] (fun s3 s4 wr => ∃ (m n : Nat), m ≤ x.l.length ∧ n = 1 + (((x.l.map AV.v).take m).map Val.size).sum ∧ s3 = .int .i64 n ∧ s4 = .int .i64 m ∧ Below (w.heap.size + 1) (w.alloc (.cells #[.int .u8 x.k, .string x.t, .slice x.la x.l.length x.lc, .slice x.ka x.ks.length x.kc] 26)) wr) (fun _ s4 _ => x.l.length - (intOf s4).toNat)
    case atStart => exact ⟨0, 1, Nat.zero_le _, rfl, rfl, rfl, HB1.out⟩
    case round =>
      obtain ⟨m, n, hm, hn, rfl, rfl, hbr⟩ := hrel
      have hsr := hbr.size
      rw [World.size_alloc] at hsr
      obtain ⟨q0, q1, q2, q3⟩ := bx hbr
      have hl0 : w.heap.size < wr.heap.size := by omega
      have HBR := Lib.hid hbr
      have HN := Lib.hid hn
      have HBW := Lib.hid (bx_w hbr)
      clear hbr hn
      by_cases hlt : m < x.l.length
      · have he : x.l[m]? = some x.l[m] := List.getElem?_eq_getElem hlt
        have hem : x.l[m] ∈ x.l := List.getElem_mem hlt
        generalize x.l[m] = e at he hem
        obtain ⟨be, oe, hla, -, -, ge, e0, e1, e2, e3⟩ := vals_at (HX.out.up HBW.out).sl he
        have hew := AV.w_kid hem
        have hev : (x.l.map AV.v)[m]? = some e.v := by rw [List.getElem?_map, he]; rfl
        have hp := sum_partF Val.size hev
        have hnn : n + e.v.size ≤ x.v.size := by rw [HN.out, HSE.out]; omega
        have hes : (szV e.v) = e.v.size := by unfold szV; rw [HKM.out e hem]; rfl
        have HC := HI.out e hem
        rw [hes] at HC
        have HCC := fun W (h : Below w.heap.size w W) => Lib.hid (HC W (Rd.up (HX.out.kid hem) h) (by omega))
        have hNX : n + e.v.size = 1 + (((x.l.map AV.v).take (m + 1)).map Val.size).sum := by rw [take_sumF Val.size hev, HN.out]; omega
        have HNX := Lib.hid hNX
        have hlt' : (m : Int) < (x.l.length : Int) := by omega
        have hm0 : (0 : Int) ≤ (m : Int) := by omega
        have hwm : IntKind.i64.wrap ((m : Int) + 1) = ((m + 1 : Nat) : Int) := by rw [IntWalk.i64_in _ (by omega)]; omega
        generalize e.v.size = es at *
        have hwn : IntKind.i64.wrap ((n : Int) + (es : Int)) = ((n + es : Nat) : Int) := by rw [IntWalk.i64_in _ (by omega)]; omega
        rw [hla] at q2
        clear he hem hev hp hes hla hNX HC
        go_wp2_with (go_at_call 27; refine (HCC _ HBW.out).out.mono ?_; rintro e2' w2 ⟨rfl, hb2⟩)
        exact ⟨⟨m + 1, n + es, by omega, HNX.out, by go_num, by go_num, tri_stepF HBR.out hb2 (by simp)⟩, by simp [intOf]; omega⟩
      · obtain rfl : m = x.l.length := by omega
        have hge : ¬ (x.l.length : Int) < (x.l.length : Int) := by omega
        have hnF : n = x.v.size := by rw [HN.out, List.take_of_length_le (by rw [List.length_map]; exact Nat.le_refl _), HSE.out]
        have HNF := Lib.hid hnF
        clear hnF
        go_wp2_with fail
        go_ret
        exact ⟨by rw [HF.out, ← HNF.out]; rfl, HBW.out⟩

theorem seven {w : World} {g : Nat} {v0 v1 v2 v3 v4 v5 v6 : Value} {t : TypeId} (h : w.heap[g]? = some (.cells #[v0, v1, v2, v3, v4, v5, v6] t (0, 0))) :
    w.cell? ⟨g, 0, none⟩ = some v0 ∧ w.cell? ⟨g, 1, none⟩ = some v1 ∧ w.cell? ⟨g, 2, none⟩ = some v2 ∧ w.cell? ⟨g, 3, none⟩ = some v3 ∧ w.cell? ⟨g, 4, none⟩ = some v4 ∧ w.cell? ⟨g, 5, none⟩ = some v5 ∧ w.cell? ⟨g, 6, none⟩ = some v6 := by
  refine ⟨?_, ?_, ?_, ?_, ?_, ?_, ?_⟩ <;> simp [World.cell?, h]
theorem sevenf {w : World} {g : Nat} {c : Array Value} {t : TypeId} (h : w.heap[g]? = some (.cells c t (0, 0))) (o : Nat) : w.frozen? ⟨g, o, none⟩ = false := by simp [World.frozen?, h]
theorem labs0_yes {v : Val} (h : v.may = true) : v.labs0 = v.labs ∧ v.lefts0 = v.lefts := ⟨by rw [Val.labs0, h]; rfl, by rw [Val.lefts0, h]; rfl⟩
set_option maxRecDepth 100000 in
set_option maxHeartbeats 6400000 in
theorem rfar20_c (w : World) (x y : AV) (hx : Rd w x) (hy : Rd w y) (hwx : x.w ≤ 1048576) (hwy : y.w ≤ 1048576) : Calls Tryz.prog 34 #[x.val, y.val] w (Ret (.int .i64 (farI x.v y.v)) w) := by
  have bN := szV_le x.v
  have bM := szV_le y.v
  have hxw : x.v.w = x.w := rfl
  have hyw : y.v.w = y.w := rfl
  have HRX := Lib.hid (show ∀ W, Below w.heap.size w W → Rd W x from fun W h => hx.up h)
  have HRY := Lib.hid (show ∀ W, Below w.heap.size w W → Rd W y from fun W h => hy.up h)
  obtain ⟨F, hF⟩ : ∃ F, F = farI x.v y.v := ⟨_, rfl⟩
  obtain ⟨N, hN⟩ : ∃ N, N = szV x.v := ⟨_, rfl⟩
  obtain ⟨M, hM⟩ : ∃ M, M = szV y.v := ⟨_, rfl⟩
  have HSX := fun W (h : Below w.heap.size w W) => Lib.hid (show Calls Tryz.prog 27 #[x.val] W (Ret (.int .i64 (N : Int)) W) by rw [hN]; exact rsizeV_c x W (HRX.out W h) hwx)
  have HSY := fun W (h : Below w.heap.size w W) => Lib.hid (show Calls Tryz.prog 27 #[y.val] W (Ret (.int .i64 (M : Int)) W) by rw [hM]; exact rsizeV_c y W (HRY.out W h) hwy)
  rw [← hF]
  rw [← hN] at bN
  rw [← hM] at bM
  have HNM := Lib.hid (And.intro hF (And.intro hN hM))
  have hNM : N * M ≤ 1048576 * 1048576 := Nat.mul_le_mul (by omega) (by omega)
  have hNM2 : (N : Int) * (M : Int) = ((N * M : Nat) : Int) := by simp
  have hw1 : IntKind.i64.wrap ((N : Int) * (M : Int)) = (N : Int) * (M : Int) := IntWalk.i64_in _ (by rw [hNM2]; omega)
  clear hx hy hF hN hM
  go_enter Tryz.func34, Tryz.ntmps34
  go_upto_region 1 with fail
  go_name_world W1 hW1
  have HX1 := Lib.hid (show W1.heap[w.heap.size]? = some (.cells #[.int .u8 x.k, .string x.t, .slice x.la x.l.length x.lc, .slice x.ka x.ks.length x.kc] 26 (0, 0)) by rw [← hW1]; exact blk_al (heap_alloc_new w _))
  have HY1 := Lib.hid (show W1.heap[w.heap.size + 1]? = some (.cells #[.int .u8 y.k, .string y.t, .slice y.la y.l.length y.lc, .slice y.ka y.ks.length y.kc] 26 (0, 0)) by rw [← hW1]; exact blk_new2 w _ _)
  have HB1 := Lib.hid (show Below w.heap.size w W1 by rw [← hW1]; exact below_al (below_al (Below.refl _ _)))
  obtain ⟨p0, p1, p2, p3⟩ := vb4 HX1.out
  obtain ⟨q0, q1, q2, q3⟩ := vb4 HY1.out
  clear hW1
  go_upto_region 3 with (first
    | (have kq := HB2; go_at_call 27; (with_reducible refine (HSY _ HB2.out).out.mono ?_); rintro e w3 ⟨rfl, h3⟩; have HB3 := Lib.hid (below_via HB2.out h3); have HX3 := Lib.hid (blk_via h3 HX2.out); have HY3 := Lib.hid (blk_via h3 HY2.out); clear h3)
    | (go_at_call 27; (with_reducible refine (HSX _ HB1.out).out.mono ?_); rintro e w2 ⟨rfl, h2⟩; have HB2 := Lib.hid (below_via HB1.out h2); have HX2 := Lib.hid (blk_via h2 HX1.out); have HY2 := Lib.hid (blk_via h2 HY1.out); clear p0 p1 p2 p3 q0 q1 q2 q3; obtain ⟨q0, q1, q2, q3⟩ := vb4 HY2.out; clear h2))
  clear q0 q1 q2 q3
  by_cases n0 : N = 0
  · have n0' : ((N : Int) == 0) = true := by simp [n0]
    have hF : F = -1 := by rw [HNM.out.1]; exact farI_no (.inl (by rw [← HNM.out.2.1]; exact n0))
    subst hF
    clear n0
    go_wp2_with fail
    go_ret
    exact ⟨rfl, HB3.out⟩
  have n0' : ((N : Int) == 0) = false := by simp [n0]
  by_cases m0 : M = 0
  · have m0' : ((M : Int) == 0) = true := by simp [m0]
    have hF : F = -1 := by rw [HNM.out.1]; exact farI_no (.inr (.inl (by rw [← HNM.out.2.2]; exact m0)))
    subst hF
    clear n0 m0
    go_wp2_with fail
    go_ret
    exact ⟨rfl, HB3.out⟩
  have m0' : ((M : Int) == 0) = false := by simp [m0]
  by_cases n4 : 4096 < N
  · have n4' : (4096 : Int) < (N : Int) := by omega
    have hF : F = -1 := by rw [HNM.out.1]; exact farI_no (.inr (.inr (.inl (by rw [← HNM.out.2.1]; exact n4))))
    subst hF
    clear n0 m0 n4
    go_wp2_with fail
    go_ret
    exact ⟨rfl, HB3.out⟩
  have n4' : ¬ (4096 : Int) < (N : Int) := by omega
  by_cases p4 : 4096 < N * M
  · have p4' : (4096 : Int) < (N : Int) * (M : Int) := by rw [hNM2]; omega
    have hF : F = -1 := by rw [HNM.out.1]; exact farI_no (.inr (.inr (.inr (by rw [← HNM.out.2.1, ← HNM.out.2.2]; exact p4))))
    subst hF
    clear n0 m0 n4 p4 hNM2
    go_wp2_with fail
    go_ret
    exact ⟨rfl, HB3.out⟩
  have p4' : ¬ (4096 : Int) < (N : Int) * (M : Int) := by rw [hNM2]; omega
  have hF : F = (farV x.v y.v : Nat) := by rw [HNM.out.1]; exact farI_yes (by rw [← HNM.out.2.1]; exact n0) (by rw [← HNM.out.2.2]; exact m0) (by rw [← HNM.out.2.1]; exact n4) (by rw [← HNM.out.2.1, ← HNM.out.2.2]; exact p4)
  obtain ⟨mx, ex⟩ := szV_may (a := x.v) (by rw [← HNM.out.2.1]; exact n0)
  obtain ⟨my, ey⟩ := szV_may (a := y.v) (by rw [← HNM.out.2.2]; exact m0)
  have hm4 : M ≤ 4096 := by
    have : M ≤ N * M := Nat.le_mul_of_pos_left _ (by omega)
    omega
  have elx : x.v.labs.length = N := by rw [labs_size mx, ← ex, ← HNM.out.2.1]
  have ely : y.v.labs.length = M := by rw [labs_size my, ← ey, ← HNM.out.2.2]
  have efx : x.v.lefts.length = N := by rw [lefts_labs]; exact elx
  have efy : y.v.lefts.length = M := by rw [lefts_labs]; exact ely
  have hOX := fun W (h : Below w.heap.size w W) => rof_u W x (HRX.out W h) hwx
  have hOY := fun W (h : Below w.heap.size w W) => rof_u W y (HRY.out W h) hwy
  unfold ROfU at hOX hOY
  rw [(labs0_yes mx).1, (labs0_yes mx).2] at hOX
  rw [(labs0_yes my).1, (labs0_yes my).2] at hOY
  have HOX := Lib.hid hOX
  have HOY := Lib.hid hOY
  have HM2 := Lib.hid (And.intro mx my)
  have HLN := Lib.hid (And.intro elx (And.intro ely (And.intro efx efy)))
  have HF := Lib.hid hF
  have hw2 : IntKind.i64.wrap ((N : Int) - 1) = (N : Int) - 1 := IntWalk.i64_in _ (by omega)
  have hw3 : IntKind.i64.wrap ((M : Int) - 1) = (M : Int) - 1 := IntWalk.i64_in _ (by omega)
  have HN4 := Lib.hid (show N ≤ 4096 ∧ M ≤ 4096 by omega)
  clear mx my ex ey hm4 elx ely efx efy hOX hOY hF n0 m0 n4 p4 hNM2
  have hmm := @run_makeMap Tryz.prog
  go_upto_region 6 with fail
  go_name_world W5 hW5
  obtain ⟨G, hG⟩ : ∃ G, G = w3.heap.size + 1 := ⟨_, rfl⟩
  obtain ⟨MB, hMB⟩ : ∃ MB, MB = w3.heap.size := ⟨_, rfl⟩
  have hM5 : W5.heap[MB]? = some (.map #[] 0) := by rw [← hW5, hMB]; exact blk_al (heap_alloc_new w3 _)
  have hG5 : W5.heap[G]? = some (.cells #[.slice none 0 0, .slice none 0 0, .slice none 0 0, .slice none 0 0, .slice none 0 0, .slice none 0 0, .map (some MB)] 64 (0, 0)) := by rw [← hW5, hG, hMB]; exact blk_new2 w3 _ _
  have hb5 : Below w3.heap.size w3 W5 := by rw [← hW5]; exact below_al (below_al (Below.refl _ _))
  have hsz5 : W5.heap.size = G + 1 := by rw [← hW5, hG]; simp
  have HGM := Lib.hid (show G = MB + 1 by omega)
  have HMW := Lib.hid hMB
  rw [← hG, ← hMB]
  have HX5 := Lib.hid (blk_via hb5 HX3.out)
  have HY5 := Lib.hid (blk_via hb5 HY3.out)
  have HB5 := Lib.hid (below_via HB3.out hb5)
  have HD5 := Lib.hid hb5
  have HM5 := Lib.hid hM5
  have HG5 := Lib.hid hG5
  have HZ5 := Lib.hid hsz5
  obtain ⟨p0, p1, p2, p3⟩ := vb4 HX5.out
  have hw50 : w.heap.size ≠ G := by have := (Array.getElem?_eq_some_iff.1 HX3.out).1; omega
  have hw51 : w.heap.size + 1 ≠ G := by have := (Array.getElem?_eq_some_iff.1 HY3.out).1; omega
  have HNEQ := Lib.hid (And.intro hw50 hw51)
  clear hW5 hG hMB hM5 hG5 hb5 hsz5 hmm hw50 hw51 n0' m0' n4' p4' hw1 HSX HSY
  go_upto_region 7 with (go_at_call 57; refine (HOX.out _ HB5.out).mono ?_; rintro e w6 ⟨al, cl, af, cf, ar, cr, rfl, o6, h6⟩; obtain ⟨s0, s1, s2, s3, s4, s5, s6⟩ := seven (blk_via h6 HG5.out); have f0 := sevenf (blk_via h6 HG5.out) 0; have f1 := sevenf (blk_via h6 HG5.out) 1; have f2 := sevenf (blk_via h6 HG5.out) 2)
  go_name_world W6 hW6
  have hG6 : W6.heap[G]? = some (.cells #[.slice al x.v.labs.length cl, .slice af x.v.labs.length cf, .slice ar (rootsL x.v.lefts).length cr, .slice none 0 0, .slice none 0 0, .slice none 0 0, .map (some MB)] 64 (0, 0)) := by
    rw [← hW6]
    exact Go.Joins.block_setCell (Go.Joins.block_setCell (Go.Joins.block_setCell (blk_via h6 HG5.out) (i := 0) _) (i := 1) _) (i := 2) _
  have hne6 : ∀ k, k ≠ G → W6.heap[k]? = w6.heap[k]? := fun k hk => by
    rw [← hW6, Below.heap_setCell _ _ _ k hk, Below.heap_setCell _ _ _ k hk, Below.heap_setCell _ _ _ k hk]
  have hM6 : W6.heap[MB]? = some (.map #[] 0) := by rw [hne6 MB (by have := HGM.out; omega)]; exact blk_via h6 HM5.out
  have hb6 : Below w3.heap.size w3 W6 := by
    have hg : w3.heap.size ≤ G := by have := HGM.out; have := HMW.out; omega
    rw [← hW6]
    exact (((HD5.out.trans (h6.mono HD5.out.size)).setCell (p := ⟨G, 0, none⟩) hg _).setCell (p := ⟨G, 1, none⟩) hg _).setCell (p := ⟨G, 2, none⟩) hg _
  have hs6 : W6.heap.size = w6.heap.size := by rw [← hW6]; simp
  have o6' := o6.kept (w' := W6) (by omega) (fun q hq _ => hne6 q (by have := HZ5.out; omega))
  have HZ6 := Lib.hid (show G < W6.heap.size from (Array.getElem?_eq_some_iff.1 hG6).1)
  have HO6 := Lib.hid o6'
  have HY6 := Lib.hid (blk_via hb6 HY3.out)
  have HB6 := Lib.hid (below_via HB3.out hb6)
  have HD6 := Lib.hid hb6
  have HM6 := Lib.hid hM6
  have HG6 := Lib.hid hG6
  clear hW6 hG6 hne6 hM6 hb6 hs6 o6 o6' h6 s0 s1 s2 s3 s4 s5 s6 f0 f1 f2 p0 p1 p2 p3
  obtain ⟨q0, q1, q2, q3⟩ := vb4 HY6.out
  go_upto_region 8 with (go_at_call 57; refine (HOY.out _ HB6.out).mono ?_; rintro e w7 ⟨bl, dl, bf, df, br, dr, rfl, o7, h7⟩; obtain ⟨s0, s1, s2, s3, s4, s5, s6⟩ := seven (blk_via h7 HG6.out); have f3 := sevenf (blk_via h7 HG6.out) 3; have f4 := sevenf (blk_via h7 HG6.out) 4; have f5 := sevenf (blk_via h7 HG6.out) 5)
  go_name_world W7 hW7
  have hG7 : W7.heap[G]? = some (.cells #[.slice al x.v.labs.length cl, .slice af x.v.labs.length cf, .slice ar (rootsL x.v.lefts).length cr, .slice bl y.v.labs.length dl, .slice bf y.v.labs.length df, .slice br (rootsL y.v.lefts).length dr, .map (some MB)] 64 (0, 0)) := by
    rw [← hW7]
    exact Go.Joins.block_setCell (Go.Joins.block_setCell (Go.Joins.block_setCell (blk_via h7 HG6.out) (i := 3) _) (i := 4) _) (i := 5) _
  have hne7 : ∀ k, k ≠ G → W7.heap[k]? = w7.heap[k]? := fun k hk => by
    rw [← hW7, Below.heap_setCell _ _ _ k hk, Below.heap_setCell _ _ _ k hk, Below.heap_setCell _ _ _ k hk]
  have hM7 : W7.heap[MB]? = some (.map #[] 0) := by rw [hne7 MB (by have := HGM.out; omega)]; exact blk_via h7 HM6.out
  have hb7 : Below w3.heap.size w3 W7 := by
    have hg : w3.heap.size ≤ G := by have := HGM.out; have := HMW.out; omega
    rw [← hW7]
    exact (((HD6.out.trans (h7.mono HD6.out.size)).setCell (p := ⟨G, 3, none⟩) hg _).setCell (p := ⟨G, 4, none⟩) hg _).setCell (p := ⟨G, 5, none⟩) hg _
  have hs7 : W7.heap.size = w7.heap.size := by rw [← hW7]; simp
  have h67 := h7.size
  have oy := o7.kept (w' := W7) (by omega) (fun q hq _ => hne7 q (by have := HZ6.out; omega))
  have ox := HO6.out.kept (w' := W7) (by omega) (fun q hq hq2 => (hne7 q (by have := HZ5.out; omega)).trans (h7.block q hq2))
  obtain ⟨mx, my⟩ := HM2.out
  obtain ⟨elx, ely, efx, efy⟩ := HLN.out
  have hP : PairAt (twoV x.v y.v mx my) G MB al af ar bl bf br cl cf (rootsL x.v.lefts).length cr dl df (rootsL y.v.lefts).length dr x.v.labs y.v.labs x.v.lefts y.v.lefts W7 := by
    have hg := HGM.out
    have hz5 := HZ5.out
    have hz6 := HZ6.out
    have hn4 := HN4.out
    refine ⟨by rw [efx, efy, ← elx, ← ely]; exact hG7, by omega, ox.l.widen (by omega) (Nat.le_refl _), ox.f.widen (by omega) (Nat.le_refl _), oy.l.widen (by omega) (Nat.le_refl _), oy.f.widen (by omega) (Nat.le_refl _), ⟨rfl, by show x.v.labs.length = _; omega, by show x.v.labs.length ≤ _; omega⟩, ⟨rfl, by show y.v.labs.length = _; omega, by show y.v.labs.length ≤ _; omega⟩, fun i hi => ⟨lab_get hi, num_get (by rw [lefts_labs]; exact hi)⟩, fun i hi => ⟨lab_get hi, num_get (by rw [lefts_labs]; exact hi)⟩⟩
  have hme : Memo (twoV x.v y.v mx my) MB W7 := ⟨#[], 0, hM7, ⟨by simp, Go.MapKept.stamped_empty 0, by simp⟩, by simp⟩
  have hok : OkR (twoV x.v y.v mx my) 0 N 0 M := ⟨Nat.zero_le _, by show N ≤ x.v.labs.length; omega, Nat.zero_le _, by show M ≤ y.v.labs.length; omega, fun u _ _ => Nat.zero_le _, fun u _ _ => Nat.zero_le _⟩
  have hcall := rfar_c hP ((N - 0) + (M - 0)) 0 N 0 M (Nat.le_refl _) hok W7 KpM.refl hme
  have hfar : (twoV x.v y.v mx my).far 0 N 0 M = farV x.v y.v := by rw [← elx, ← ely]; exact twoV_far mx my
  rw [hfar] at hcall
  unfold keyV at hcall
  have HC := Lib.hid hcall
  have HB7 := Lib.hid hb7
  have HMS := Lib.hid (show MB ≤ W7.heap.size by have := hb7.size; have := HMW.out; omega)
  clear hW7 hG7 hne7 hM7 hb7 hs7 h67 oy ox elx ely efx efy hP hme hok hcall hfar o7 h7 s0 s1 s2 s3 s4 s5 s6 f3 f4 f5 q0 q1 q2 q3
  go_wp2_with (go_at_call 58; refine HC.out.mono ?_; rintro e w8 ⟨rfl, h8, -⟩)
  go_ret
  exact ⟨by rw [HF.out]; rfl, below_via HB3.out (HB7.out.trans (HMW.out ▸ h8.below HMS.out))⟩
end Go.Proofs.YtmhkacafilpliaaGreat
