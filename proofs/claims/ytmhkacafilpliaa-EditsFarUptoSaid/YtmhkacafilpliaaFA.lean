/-
  The document's table of distances that are known: a map by four numbers. Plain lemmas over the program's types, and what a look-up and a store do.
-/
import Derived.Test.YtmhkacafilpliaaEG
import Derived.Maps.Own
import Derived.DeepKeys4
import Derived.WideKeyArr2
namespace Go.Proofs.Ytmhkacafilpliaa
open Go.RowKit Go.Sort Go.Shelf Go.BigFrame Go.WideMaps Go.ChangeMaps Go.Maps
open Go.WideElems (rd rg pl rd_val elemAt)

theorem laid20 : laidOutB Try.prog = true := by kernel_rfl
theorem row4 : (93 : TypeId) < Try.prog.types.size := of_decide_eq_true (by kernel_rfl)
theorem wide4 : (match Try.prog.underlying 93 with | some (.array _ _) | some (.struct _) => true | _ => false) = true := by rw [Try.underlying93]
set_option maxRecDepth 100000 in
theorem law4 : Keyed Try.prog 93 := Keyed.of_law (deep_law_laid laid20 (m := 2) (by omega) row4 (by kernel_rfl) wide4)
/-- A key. -/
def keyV (a i b j : Int) : Value := .agg #[.int .i64 a, .int .i64 i, .int .i64 b, .int .i64 j]
set_option maxRecDepth 100000 in
theorem key_of {a i b j : Int} (ha : (Lit.int .i64 a).wf = true) (hi : (Lit.int .i64 i).wf = true) (hb : (Lit.int .i64 b).wf = true) (hj : (Lit.int .i64 j).wf = true) : ∃ l, keyOf Try.prog 93 (keyV a i b j) = some l := by
  have hkt : Try.prog.keyType 93 = true := by kernel_rfl
  have hc : Try.prog.cellsOf 93 = 4 := by kernel_rfl
  have hc1 : Try.prog.cellsOf 3 = 1 := by kernel_rfl
  obtain ⟨m, hm⟩ : ∃ m, Try.prog.types.size = m + 1 := ⟨Try.prog.types.size - 1, by have : 0 < Try.prog.types.size := of_decide_eq_true (by kernel_rfl); omega⟩
  have h1 : ∀ x : Int, (Lit.int .i64 x).wf = true → Try.prog.keyLits (m + 1) 3 [.int .i64 x] = some [.int .i64 x] := fun x hx => by
    unfold Program.keyLits
    simp only [Try.underlying3]
    rw [if_pos ⟨trivial, hx⟩]
  refine ⟨.string (keyBytes [.int .i64 a, .int .i64 i, .int .i64 b, .int .i64 j]), ?_⟩
  unfold keyOf keyV
  simp only [Try.underlying93]
  rw [if_pos (by simp [hkt, Value.formed, Try.underlying93, hc]), hm]
  unfold Program.keyLits
  simp only [Try.underlying93, Value.cells]
  rw [if_pos (by rw [hc]; rfl), hc1]
  rw [show List.range 4 = [0, 1, 2, 3] from rfl]
  simp only [List.mapM_cons, List.mapM_nil, Nat.mul_one, List.drop_zero, List.take_succ_cons, List.take_zero, List.drop_succ_cons, h1 a ha, h1 i hi, h1 b hb, h1 j hj]
  rfl
/-- A range of nodes of both, as it comes up. -/
structure OkR (T : Two) (a i b j : Nat) : Prop where
  hi : a ≤ i
  hn : i ≤ T.n
  hj : b ≤ j
  hm : j ≤ T.m
  ca : Clo T.fa a i
  cb : Clo T.fb b j
def codeK (v : Value) : Nat := match v with
  | .agg cs => match cs.toList with
    | [.int _ a, .int _ i, .int _ b, .int _ j] => ((a.toNat * 5000 + (i + 1).toNat) * 5000 + b.toNat) * 5000 + (j + 1).toNat
    | _ => 0
  | _ => 0
theorem code_of (a i b j : Nat) : codeK (keyV a ((i : Int) - 1) b ((j : Int) - 1)) = ((a * 5000 + i) * 5000 + b) * 5000 + j := by
  show (((a : Int).toNat * 5000 + ((i : Int) - 1 + 1).toNat) * 5000 + (b : Int).toNat) * 5000 + ((j : Int) - 1 + 1).toNat = _
  rw [show (i : Int) - 1 + 1 = (i : Int) by omega, show (j : Int) - 1 + 1 = (j : Int) by omega]
  simp
theorem pigeon : ∀ (M : Nat) (l : List Nat), l.Nodup → (∀ x ∈ l, x < M) → l.length ≤ M
  | 0, l, _, h => by
    cases l with
    | nil => simp
    | cons x r => exact absurd (h x (by simp)) (by omega)
  | M + 1, l, hn, h => by
    have h1 := pigeon M (l.filter fun x => decide (x ≠ M)) (hn.filter _) (fun x hx => by
      rw [List.mem_filter] at hx
      have := h x hx.1
      have := of_decide_eq_true hx.2
      omega)
    have h2 : l.length ≤ (l.filter fun x => decide (x ≠ M)).length + 1 := by
      clear h1 h
      induction l with
      | nil => simp
      | cons x r ih =>
        rw [List.nodup_cons] at hn
        by_cases e : x = M
        · subst e
          have : r.filter (fun y => decide (y ≠ x)) = r := List.filter_eq_self.2 fun y hy => by
            simp only [decide_eq_true_eq]
            intro e
            exact hn.1 (e ▸ hy)
          rw [List.filter_cons_of_neg (by simp), this]; simp
        · have := ih hn.2
          simp only [List.filter_cons, decide_eq_true e, if_true, List.length_cons, ne_eq]
          simp
          simpa using this
    omega
/-- What is known of a pair is right. -/
def Memo (T : Two) (MB : Nat) (w : World) : Prop := ∃ (es : Array MapEntry) (clock : Nat), w.heap[MB]? = some (.map es clock) ∧ WideElems.Fit (H := Unit) Try.prog 93 (plainElem Try.prog 3) es clock ∧
  ∀ e ∈ es.toList, ∃ a i b j, OkR T a i b j ∧ e.key = keyV a ((i : Int) - 1) b ((j : Int) - 1) ∧ e.val = .int .i64 (T.far a i b j : Nat)
theorem Memo.keep {T : Two} {MB : Nat} {w w' : World} (h : Memo T MB w) (hk : w'.heap[MB]? = w.heap[MB]?) : Memo T MB w' := by
  obtain ⟨es, clock, h1, h2⟩ := h
  exact ⟨es, clock, hk.trans h1, h2⟩
theorem wf_of {x : Int} (h1 : -9223372036854775808 ≤ x) (h2 : x ≤ 9223372036854775807) : (Lit.int .i64 x).wf = true := by
  simp [Lit.wf, IntKind.min, IntKind.max, IntKind.signed, IntKind.bits]
  omega
theorem ok_key {T : Two} (hT : T.n ≤ 4096 ∧ T.m ≤ 4096) {a i b j : Nat} (h : OkR T a i b j) : ∃ l, keyOf Try.prog 93 (keyV a ((i : Int) - 1) b ((j : Int) - 1)) = some l := by
  have := h.hi; have := h.hn; have := h.hj; have := h.hm
  exact key_of (wf_of (by omega) (by omega)) (wf_of (by omega) (by omega)) (wf_of (by omega) (by omega)) (wf_of (by omega) (by omega))
theorem key_inj {a i b j a' i' b' j' : Nat} (h : keyV a ((i : Int) - 1) b ((j : Int) - 1) = keyV a' ((i' : Int) - 1) b' ((j' : Int) - 1)) : a = a' ∧ i = i' ∧ b = b' ∧ j = j' := by
  simp only [keyV, Value.agg.injEq, Array.mk.injEq, List.cons.injEq, Value.int.injEq, and_true, true_and] at h
  obtain ⟨h1, h2, h3, h4⟩ := h
  omega
/-- m[x], and whether it is there. -/
theorem memo_look {T : Two} {MB : Nat} {w : World} (hT : T.n ≤ 4096 ∧ T.m ≤ 4096) (h : Memo T MB w) {a i b j : Nat} (hr : OkR T a i b j) :
    (∀ W : World, W.heap[MB]? = w.heap[MB]? → (Instr.lookup 89 (.map (some MB)) (keyV a ((i : Int) - 1) b ((j : Int) - 1)) true).run Try.prog W = .ok (.tuple #[.int .i64 0, .bool false]) W) ∨
    (∀ W : World, W.heap[MB]? = w.heap[MB]? → (Instr.lookup 89 (.map (some MB)) (keyV a ((i : Int) - 1) b ((j : Int) - 1)) true).run Try.prog W = .ok (.tuple #[.int .i64 (T.far a i b j : Nat), .bool true]) W) := by
  obtain ⟨es, clock, hb, F, hE⟩ := h
  obtain ⟨l, hl⟩ := ok_key hT hr
  have hz : ∀ W : World, (zeroValue 3).run Try.prog W = .ok (.int .i64 0) W := fun W => by kernel_rfl
  by_cases hk : ∃ e ∈ es.toList, e.key = keyV a ((i : Int) - 1) b ((j : Int) - 1)
  · right
    intro W hW
    rcases fit_look true law4 Try.underlying89 (hz W) (hW.trans hb) F hl with ⟨_, h2, _⟩ | ⟨e0, y, h1, h2, h3, _⟩
    · obtain ⟨e, he, hek⟩ := hk
      exact absurd hek (h2 e he)
    · obtain ⟨a', i', b', j', _, hk', hv⟩ := hE e0 h1
      obtain ⟨rfl, rfl, rfl, rfl⟩ := key_inj (hk'.symm.trans h2)
      rw [h3, hv]; rfl
  · left
    intro W hW
    rcases fit_look true law4 Try.underlying89 (hz W) (hW.trans hb) F hl with ⟨h1, _, _⟩ | ⟨e0, y, h1, h2, _⟩
    · rw [h1]; rfl
    · exact absurd ⟨e0, h1, h2⟩ hk
/-- Less than a map may hold. -/
theorem memo_room {T : Two} (hT : T.n ≤ 4096 ∧ T.m ≤ 4096) {es : Array MapEntry} {clock : Nat} (F : WideElems.Fit (H := Unit) Try.prog 93 (plainElem Try.prog 3) es clock)
    (hE : ∀ e ∈ es.toList, ∃ a i b j, OkR T a i b j ∧ e.key = keyV a ((i : Int) - 1) b ((j : Int) - 1) ∧ e.val = .int .i64 (T.far a i b j : Nat)) : es.size < maxLen := by
  have hbd : ∀ e ∈ es.toList, ∃ a i b j : Nat, (a ≤ 4096 ∧ i ≤ 4096 ∧ b ≤ 4096 ∧ j ≤ 4096) ∧ e.key = keyV a ((i : Int) - 1) b ((j : Int) - 1) := fun e he => by
    obtain ⟨a, i, b, j, h, hk, _⟩ := hE e he
    have := h.hi; have := h.hn; have := h.hj; have := h.hm
    exact ⟨a, i, b, j, by omega, hk⟩
  have hn : ((es.toList.map (·.key)).map codeK).Nodup := by
    refine List.pairwise_map.2 (List.Pairwise.imp_of_mem ?_ F.stamped.2.2)
    intro x y hx hy hne e
    obtain ⟨ex, hex, rfl⟩ := List.mem_map.1 hx
    obtain ⟨ey, hey, rfl⟩ := List.mem_map.1 hy
    obtain ⟨a, i, b, j, h, hk⟩ := hbd ex hex
    obtain ⟨a', i', b', j', h', hk'⟩ := hbd ey hey
    rw [hk, hk', code_of, code_of] at e
    refine hne ?_
    rw [hk, hk']
    obtain ⟨rfl, rfl, rfl, rfl⟩ : a = a' ∧ i = i' ∧ b = b' ∧ j = j' := by omega
    rfl
  have h1 := pigeon 625000000000000 _ hn (fun c hc => by
    obtain ⟨k, hk, rfl⟩ := List.mem_map.1 hc
    obtain ⟨e, he, rfl⟩ := List.mem_map.1 hk
    obtain ⟨a, i, b, j, h, hk⟩ := hbd e he
    rw [hk, code_of]
    omega)
  simp only [List.length_map, Array.length_toList] at h1
  unfold maxLen
  omega
/-- m[x] = n. -/
theorem memo_put {T : Two} {MB : Nat} {w : World} (hT : T.n ≤ 4096 ∧ T.m ≤ 4096) (h : Memo T MB w) {a i b j : Nat} (hr : OkR T a i b j) :
    ∃ w', (Instr.mapUpdate 89 (.map (some MB)) (keyV a ((i : Int) - 1) b ((j : Int) - 1)) (.int .i64 (T.far a i b j : Nat))).run Try.prog w = .ok () w' ∧ Memo T MB w' ∧ KpM MB (MB + 1) w w' := by
  obtain ⟨es, clock, hb, F, hE⟩ := h
  obtain ⟨l, hl⟩ := ok_key hT hr
  have hfb := T.far_bnd hr.hi hr.hj hr.hn hr.hm hr.ca hr.cb
  have hin := hr.hn
  have hjm := hr.hm
  have hwf : (Lit.int .i64 (T.far a i b j : Nat)).wf = true := wf_of (by omega) (by omega)
  obtain ⟨es', clock', hrun, F', _, _, _, hc⟩ := fit_store (R' := plainElem Try.prog 3) law4 Try.underlying89 hb F (memo_room hT F hE) (fun _ _ _ _ hz => hz) hl (plainElem_int Try.underlying3 hwf)
  refine ⟨_, hrun, ⟨es', clock', heap_setBlock_same hb _, F', fun e he => ?_⟩, ⟨rfl, rfl, rfl, by simp [setBlock], fun k _ hk => heap_setBlock_other hb _ (by omega)⟩⟩
  rcases hc e he with ⟨h1, _⟩ | ⟨h1, h2⟩
  · exact hE e h1
  · exact ⟨a, i, b, j, hr, h1, h2⟩
end Go.Proofs.Ytmhkacafilpliaa
