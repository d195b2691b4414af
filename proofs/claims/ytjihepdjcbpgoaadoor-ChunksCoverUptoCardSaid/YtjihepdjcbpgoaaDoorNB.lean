/-
  The renames of two maps, plain: who holds a value alone, what a rename tells, which are used. No program. Condition: the values may be.
  The map of holders that the renames keep: a value's key tells who holds it. Rows of renames. Plain lemmas over the program's types; condition: keys are no longer than a text may be.
-/
import Derived.Test.YtjihepdjcbpgoaaDoorSE
import Derived.Test.YtjihepdjcbpgoaaDoorO5
namespace Go.Proofs.YtjihepdjcbpgoaaDoor
open Go.RowKit Go.Sort

/-- How big a value is; 0: it may not be. -/
def Val.sz (v : Val) : Nat := if v.may then v.size else 0
/-- The keys that another map has not, of values that are big enough, with these values' keys. -/
def cand (v o : Val) : List (ByteArray × ByteArray) := ((v.ks.zip v.l).filter fun e : ByteArray × Val => decide (e.1 ∉ o.ks ∧ 2 ≤ e.2.sz)).map fun e => (e.1, e.2.key)
/-- Those of one value. -/
def sel (C : List (ByteArray × ByteArray)) (s : ByteArray) : List (ByteArray × ByteArray) := C.filter fun c => decide (c.2 = s)
def lastKey : List (ByteArray × ByteArray) → ByteArray
  | [] => ⟨#[]⟩
  | [c] => c.1
  | _ :: l => lastKey l
/-- Who holds a value: the last key, and how many. -/
def hold (C : List (ByteArray × ByteArray)) (s : ByteArray) : ByteArray × Nat := (lastKey (sel C s), (sel C s).length)
theorem lastKey_snoc (l : List (ByteArray × ByteArray)) (c : ByteArray × ByteArray) : lastKey (l ++ [c]) = c.1 := by
  induction l with
  | nil => rfl
  | cons x l ih =>
    cases l with
    | nil => rfl
    | cons y l => exact ih
theorem sel_snoc (C : List (ByteArray × ByteArray)) (c : ByteArray × ByteArray) (s : ByteArray) : sel (C ++ [c]) s = if c.2 = s then sel C s ++ [c] else sel C s := by
  simp only [sel, List.filter_append]
  by_cases h : c.2 = s <;> simp [h]
theorem hold_snoc (C : List (ByteArray × ByteArray)) (c : ByteArray × ByteArray) (s : ByteArray) : hold (C ++ [c]) s = if c.2 = s then (c.1, (hold C s).2 + 1) else hold C s := by
  unfold hold
  rw [sel_snoc]
  by_cases h : c.2 = s
  · rw [if_pos h, if_pos h, lastKey_snoc]; simp
  · rw [if_neg h, if_neg h]
theorem hold_one {C : List (ByteArray × ByteArray)} {s : ByteArray} (h : (hold C s).2 = 1) : sel C s = [((hold C s).1, s)] := by
  unfold hold at *
  simp only at h
  match hc : sel C s, h with
  | [c], _ =>
    have : c ∈ sel C s := by rw [hc]; simp
    have h2 : c.2 = s := by simpa using (List.mem_filter.1 this).2
    show [c] = [(c.1, s)]
    rw [← h2]
theorem hold_of {C : List (ByteArray × ByteArray)} {s k : ByteArray} {c : ByteArray × ByteArray} (h : sel C s = [c]) (hk : c.1 = k) : hold C s = (k, 1) := by
  unfold hold; rw [h, ← hk]; rfl

/-- The renames of two maps that may be. -/
def ofP (b x : Val) : List (ByteArray × ByteArray) := (b.ks.zip b.l).filterMap fun e : ByteArray × Val => if hold (cand b x) e.2.key = (e.1, 1) ∧ (hold (cand x b) e.2.key).2 = 1 then some (e.1, (hold (cand x b) e.2.key).1) else none
def Val.isMap (v : Val) : Bool := decide (v.k = 8) && v.may
def ofV (b x : Val) : List (ByteArray × ByteArray) := if b.isMap && x.isMap then ofP b x else []

theorem zip_at {α β : Type} {l : List α} {m : List β} {e : α × β} (h : e ∈ l.zip m) : ∃ i : Nat, l[i]? = some e.1 ∧ m[i]? = some e.2 := by
  obtain ⟨i, hi⟩ := List.getElem?_of_mem h
  obtain ⟨h1, h2⟩ := List.getElem?_zip_eq_some.1 hi
  exact ⟨i, h1, h2⟩
theorem at_zip {α β : Type} {l : List α} {m : List β} {i : Nat} {a : α} {b : β} (h1 : l[i]? = some a) (h2 : m[i]? = some b) : (a, b) ∈ l.zip m :=
  List.mem_of_getElem? (List.getElem?_zip_eq_some.2 ⟨h1, h2⟩ : (l.zip m)[i]? = some (a, b))
/-- What a rename tells: both keys, both values. -/
structure Ren (b x : Val) (r : ByteArray × ByteArray) (v w : Val) : Prop where
  src : (r.1, v) ∈ b.ks.zip b.l
  dst : (r.2, w) ∈ x.ks.zip x.l
  gone : r.1 ∉ x.ks
  come : r.2 ∉ b.ks
  bigv : 2 ≤ v.sz
  bigw : 2 ≤ w.sz
  key : w.key = v.key
  selb : sel (cand b x) v.key = [(r.1, v.key)]
  selx : sel (cand x b) v.key = [(r.2, v.key)]
theorem cand_mem {v o : Val} {c : ByteArray × ByteArray} (h : c ∈ cand v o) : ∃ y, (c.1, y) ∈ v.ks.zip v.l ∧ c.1 ∉ o.ks ∧ 2 ≤ y.sz ∧ c.2 = y.key := by
  obtain ⟨e, he, rfl⟩ := List.mem_map.1 h
  obtain ⟨h1, h2⟩ := List.mem_filter.1 he
  have h3 := of_decide_eq_true h2
  exact ⟨e.2, h1, h3.1, h3.2, rfl⟩
theorem sel_mem {C : List (ByteArray × ByteArray)} {s : ByteArray} {c : ByteArray × ByteArray} (h : c ∈ sel C s) : c ∈ C ∧ c.2 = s := by
  obtain ⟨h1, h2⟩ := List.mem_filter.1 h
  exact ⟨h1, of_decide_eq_true h2⟩
theorem zip_one {v : Val} (hn : v.ks.Nodup) {k : ByteArray} {y z : Val} (h1 : (k, y) ∈ v.ks.zip v.l) (h2 : (k, z) ∈ v.ks.zip v.l) : y = z := by
  have := zip_key _ _ hn (k, y) h1 (k, z) h2 rfl
  exact (Prod.mk.inj this).2
theorem ofP_mem {b x : Val} (hb : b.ks.Nodup) {r : ByteArray × ByteArray} (h : r ∈ ofP b x) : ∃ v w, Ren b x r v w := by
  obtain ⟨e, he, hr⟩ := List.mem_filterMap.1 h
  split at hr
  · rename_i hc
    obtain ⟨h1, h2⟩ := hc
    cases hr
    have s1 := hold_one (C := cand b x) (s := e.2.key) (by rw [h1])
    have s2 := hold_one h2
    rw [h1] at s1
    obtain ⟨c1, -⟩ := sel_mem (by rw [s1]; exact List.mem_singleton.2 rfl : (e.1, e.2.key) ∈ sel (cand b x) e.2.key)
    obtain ⟨c2, -⟩ := sel_mem (by rw [s2]; exact List.mem_singleton.2 rfl : ((hold (cand x b) e.2.key).1, e.2.key) ∈ sel (cand x b) e.2.key)
    obtain ⟨y, m1, m2, m3, m4⟩ := cand_mem c1
    obtain ⟨z, n1, n2, n3, n4⟩ := cand_mem c2
    have hy := zip_one hb m1 he
    subst hy
    exact ⟨e.2, z, he, n1, m2, n2, m3, n3, n4.symm, s1, s2⟩
  · cases hr
theorem ren_mem {b x : Val} {r : ByteArray × ByteArray} {v w : Val} (h : Ren b x r v w) : r ∈ ofP b x := by
  refine List.mem_filterMap.2 ⟨(r.1, v), h.src, ?_⟩
  have h1 := hold_of h.selb rfl
  have h2 := hold_of h.selx rfl
  simp only
  rw [h1, h2, if_pos ⟨rfl, rfl⟩]
theorem Ren.turn {b x : Val} {r : ByteArray × ByteArray} {v w : Val} (h : Ren b x r v w) : Ren x b (r.2, r.1) w v :=
  ⟨h.dst, h.src, h.come, h.gone, h.bigw, h.bigv, h.key.symm, by rw [h.key]; exact h.selx, by rw [h.key]; exact h.selb⟩
theorem ofP_turn {b x : Val} (hb : b.ks.Nodup) {r : ByteArray × ByteArray} (h : r ∈ ofP b x) : (r.2, r.1) ∈ ofP x b := by
  obtain ⟨v, w, h⟩ := ofP_mem hb h
  exact ren_mem h.turn
theorem zip_fst_sub {α β : Type} : ∀ (l : List α) (m : List β), ((l.zip m).map (·.1)).Sublist l
  | [], _ => by simp
  | _ :: _, [] => by simp
  | x :: l, y :: m => by rw [List.zip_cons_cons, List.map_cons]; exact (zip_fst_sub l m).cons_cons x
theorem ofP_src (b x : Val) : ((ofP b x).map (·.1)).Sublist b.ks := by
  have : ∀ l : List (ByteArray × Val), ((l.filterMap fun e : ByteArray × Val => if hold (cand b x) e.2.key = (e.1, 1) ∧ (hold (cand x b) e.2.key).2 = 1 then some (e.1, (hold (cand x b) e.2.key).1) else none).map (·.1)).Sublist (l.map (·.1)) := fun l => by
    induction l with
    | nil => exact .slnil
    | cons e l ih =>
      rw [List.filterMap_cons, List.map_cons]
      split
      · exact ih.cons _
      · rename_i y hy
        split at hy
        · cases hy; rw [List.map_cons]; exact ih.cons_cons _
        · cases hy
  exact (this _).trans (zip_fst_sub _ _)
theorem nodup_sub {α : Type} {l m : List α} (h : l.Sublist m) (hm : m.Nodup) : l.Nodup := List.Nodup.sublist h hm
theorem ofP_src_nodup {b x : Val} (hb : b.ks.Nodup) : ((ofP b x).map (·.1)).Nodup := nodup_sub (ofP_src b x) hb
theorem ofP_two {b x : Val} (hb : b.ks.Nodup) (hx : x.ks.Nodup) {i j : Nat} {r s : ByteArray × ByteArray} (hi : (ofP b x)[i]? = some r) (hj : (ofP b x)[j]? = some s) (hij : i < j) : r.1 ≠ s.1 ∧ r.2 ≠ s.2 := by
  have hn := ofP_src_nodup (x := x) hb
  have h1 : r.1 ≠ s.1 := fun e => by
    have a1 : ((ofP b x).map (·.1))[i]? = some r.1 := by rw [List.getElem?_map, hi]; rfl
    have a2 : ((ofP b x).map (·.1))[j]? = some s.1 := by rw [List.getElem?_map, hj]; rfl
    obtain ⟨l1, e1⟩ := List.getElem?_eq_some_iff.1 a1
    obtain ⟨l2, e2⟩ := List.getElem?_eq_some_iff.1 a2
    exact List.pairwise_iff_getElem.1 hn i j l1 l2 hij (by rw [e1, e2, e])
  refine ⟨h1, fun e => ?_⟩
  obtain ⟨v, w, p⟩ := ofP_mem hb (List.mem_of_getElem? hi)
  obtain ⟨v', w', q⟩ := ofP_mem hb (List.mem_of_getElem? hj)
  have ew : w = w' := zip_one hx p.dst (by rw [e]; exact q.dst)
  have ek : v.key = v'.key := by rw [← p.key, ← q.key, ew]
  have := p.selb
  rw [ek, q.selb] at this
  exact h1 (congrArg Prod.fst (List.cons.inj this).1).symm
theorem nodup_of_fst {α β : Type} {l : List (α × β)} (h : (l.map (·.1)).Nodup) : l.Nodup := by
  induction l with
  | nil => exact .nil
  | cons x l ih =>
    rw [List.map_cons, List.nodup_cons] at h
    exact List.nodup_cons.2 ⟨fun hm => h.1 (List.mem_map_of_mem hm), ih h.2⟩
theorem nodup_snd {b x : Val} (hb : b.ks.Nodup) (hx : x.ks.Nodup) : ((ofP b x).map fun r => (r.2, r.1)).Nodup := by
  refine nodup_of_fst ?_
  rw [List.map_map]
  refine List.pairwise_iff_getElem.2 fun i j hi hj hij => ?_
  rw [List.length_map] at hi hj
  rw [List.getElem_map, List.getElem_map]
  exact (ofP_two hb hx (List.getElem?_eq_getElem hi) (List.getElem?_eq_getElem hj) hij).2
theorem ofP_len {b x : Val} (hb : b.ks.Nodup) (hx : x.ks.Nodup) : (ofP b x).length = (ofP x b).length := by
  have h1 := nodup_snd hb hx
  have h2 := nodup_of_fst (ofP_src_nodup (b := x) (x := b) hx)
  have hp : ((ofP b x).map fun r => (r.2, r.1)).Perm (ofP x b) := by
    refine (List.perm_ext_iff_of_nodup h1 h2).2 fun r => ⟨fun h => ?_, fun h => ?_⟩
    · obtain ⟨s, hs, rfl⟩ := List.mem_map.1 h
      exact ofP_turn hb hs
    · exact List.mem_map.2 ⟨(r.2, r.1), ofP_turn hx h, rfl⟩
  rw [← hp.length_eq, List.length_map]
theorem isMap_k {v : Val} (h : v.isMap = true) : v.k = 8 ∧ v.may = true := by simpa [Val.isMap] using h
theorem isMap_len {v : Val} (h : v.isMap = true) : v.ks.length = v.l.length ∧ v.ks.Nodup := by
  obtain ⟨h1, h2⟩ := isMap_k h
  rw [← Val.may_eq] at h2
  exact (shape_map (within_k h2).1 h1).2
theorem get_zip {v y : Val} {s : ByteArray} (h : v.isMap = true) (hm : (s, y) ∈ v.ks.zip v.l) : v.get s = some y := by
  obtain ⟨i, h1, h2⟩ := zip_at hm
  exact get_at (isMap_k h).2 h1 h2
theorem get_some {v y : Val} {s : ByteArray} (h : v.get s = some y) : s ∈ v.ks := by
  rcases Classical.em (s ∈ v.ks) with hs | hs
  · exact hs
  · rw [get_none hs] at h; cases h
theorem zip_may {v y : Val} {s : ByteArray} (h : v.isMap = true) (hm : (s, y) ∈ v.ks.zip v.l) : y.may = true := (may_kid (isMap_k h).2 (List.of_mem_zip hm).2).2
/-- What a law asks of each rename. -/
theorem ofV_ren {b x : Val} {r : ByteArray × ByteArray} (h : r ∈ ofV b x) : ∃ v w, b.get r.1 = some v ∧ x.get r.2 = some w ∧ x.get r.1 = none ∧ b.get r.2 = none ∧ sameV v w = true ∧ 2 ≤ v.sz ∧ v.may = true ∧ w.may = true ∧ r.1 ∈ b.ks ∧ r.1 ∉ x.ks ∧ r.2 ∈ x.ks ∧ r.2 ∉ b.ks := by
  unfold ofV at h
  by_cases hm : (b.isMap && x.isMap) = true
  · rw [if_pos hm] at h
    rw [Bool.and_eq_true] at hm
    obtain ⟨v, w, p⟩ := ofP_mem (isMap_len hm.1).2 h
    have mv := zip_may hm.1 p.src
    have mw := zip_may hm.2 p.dst
    refine ⟨v, w, get_zip hm.1 p.src, get_zip hm.2 p.dst, get_none p.gone, get_none p.come, ?_, p.bigv, mv, mw, (List.of_mem_zip p.src).1, p.gone, (List.of_mem_zip p.dst).1, p.come⟩
    simp [sameV, mv, mw, (key_same mv mw).1 p.key.symm]
  · rw [if_neg hm] at h; cases h
theorem ofV_turn {b x : Val} {r : ByteArray × ByteArray} (h : r ∈ ofV b x) : (r.2, r.1) ∈ ofV x b := by
  unfold ofV at h ⊢
  by_cases hm : (b.isMap && x.isMap) = true
  · rw [if_pos hm] at h
    rw [Bool.and_comm, if_pos hm]
    rw [Bool.and_eq_true] at hm
    exact ofP_turn (isMap_len hm.1).2 h
  · rw [if_neg hm] at h; cases h
theorem ofV_len (b x : Val) : (ofV b x).length = (ofV x b).length := by
  unfold ofV
  rw [Bool.and_comm x.isMap]
  by_cases hm : (b.isMap && x.isMap) = true
  · rw [if_pos hm, if_pos hm]
    rw [Bool.and_eq_true] at hm
    exact ofP_len (isMap_len hm.1).2 (isMap_len hm.2).2
  · rw [if_neg hm, if_neg hm]
theorem ofV_two {b x : Val} {i j : Nat} {r s : ByteArray × ByteArray} (hi : (ofV b x)[i]? = some r) (hj : (ofV b x)[j]? = some s) (hij : i < j) : r.1 ≠ s.1 ∧ r.2 ≠ s.2 := by
  unfold ofV at hi hj
  by_cases hm : (b.isMap && x.isMap) = true
  · rw [if_pos hm] at hi hj
    rw [Bool.and_eq_true] at hm
    exact ofP_two (isMap_len hm.1).2 (isMap_len hm.2).2 hi hj hij
  · rw [if_neg hm] at hi; simp at hi

/-- Of a side's renames those that are used. -/
def usedP (L : List (ByteArray × ByteArray)) (b o : Val) : List (ByteArray × ByteArray) := L.filter fun r => match b.get r.1, o.get r.1 with | some was, some now => !sameV was now && decide (r.2 ∉ o.ks) | none, some _ => decide (r.2 ∉ o.ks) | _, none => false
def usedV (b l r : Val) : List (ByteArray × ByteArray) × List (ByteArray × ByteArray) := if b.isMap && l.isMap && r.isMap then (usedP (ofV b l) b r, usedP (ofV b r) b l) else ([], [])
theorem sameV_symm (a b : Val) : sameV a b = sameV b a := by
  unfold sameV
  have := (cmpV_ord 256).anti a b trivial trivial
  have e : decide (cmpV 256 a b = 0) = decide (cmpV 256 b a = 0) := by congr 1; rw [this]; simp
  rw [e, Bool.and_comm a.may]
theorem usedV_turn (b l r : Val) : usedV b r l = ((usedV b l r).2, (usedV b l r).1) := by
  unfold usedV
  rw [show (b.isMap && r.isMap && l.isMap) = (b.isMap && l.isMap && r.isMap) by rw [Bool.and_assoc, Bool.and_assoc, Bool.and_comm r.isMap]]
  split <;> rfl
theorem ofV_self (b : Val) : ofV b b = [] := by
  refine List.eq_nil_iff_forall_not_mem.2 fun r h => ?_
  obtain ⟨v, w, -, -, -, -, -, -, -, -, h1, h2, -⟩ := ofV_ren h
  exact h2 h1
theorem usedV_base (b l : Val) : usedV b l b = ([], []) := by
  unfold usedV
  split
  · have e1 : usedP (ofV b l) b b = [] := by
      refine List.filter_eq_nil_iff.2 fun r h => ?_
      obtain ⟨v, w, h1, -, -, -, -, -, h2, -⟩ := ofV_ren h
      simp [h1, same_refl h2]
    rw [e1, ofV_self]; rfl
  · rfl
theorem usedV_left {b l r : Val} {p : ByteArray × ByteArray} (h : p ∈ (usedV b l r).1) : ∃ v w, r.get p.1 = some v ∧ b.get p.1 = some w ∧ sameV v w = false ∧ r.get p.2 = none ∧ p.1 ∈ b.ks ∧ p.1 ∈ r.ks ∧ p.1 ∉ l.ks := by
  unfold usedV at h
  split at h
  · obtain ⟨h1, h2⟩ := List.mem_filter.1 h
    obtain ⟨v, w, g1, -, -, -, -, -, g2, -, k1, k2, -⟩ := ofV_ren h1
    rw [g1] at h2
    cases hn : r.get p.1 with
    | none => rw [hn] at h2; cases h2
    | some now =>
      rw [hn] at h2
      simp only [Bool.and_eq_true, Bool.not_eq_true', decide_eq_true_eq] at h2
      exact ⟨now, v, rfl, g1, by rw [sameV_symm]; exact h2.1, get_none h2.2, k1, get_some hn, k2⟩
  · cases h
theorem usedV_both {b l r : Val} {p q : ByteArray × ByteArray} (hp : p ∈ (usedV b l r).1) (hq : q ∈ (usedV b l r).2) : p.1 ≠ q.1 := by
  have h2 : q ∈ (usedV b r l).1 := by rw [usedV_turn]; exact hq
  obtain ⟨-, -, -, -, -, -, -, h3, -⟩ := usedV_left hp
  obtain ⟨-, -, -, -, -, -, -, -, h4⟩ := usedV_left h2
  exact fun e => h4 (e ▸ h3)
end Go.Proofs.YtjihepdjcbpgoaaDoor

namespace Go.Proofs.YtjihepdjcbpgoaaDoor
open Go.RowKit Go.Sort

/-- How a holder reads. -/
def holdL (l : List Value) : Option (DataW Unit × List MemPlace) := match l with
  | [.string s, .int .i64 n] => some (.agg [.lit (.string s.data.toList), .lit (.int .i64 n)], [])
  | _ => none
def holdR (v : Value) : Option (DataW Unit × List MemPlace) := match v with
  | .agg cs => holdL cs.toList
  | _ => none
def holdD (p : ByteArray × Nat) : DataW Unit := .agg [.lit (.string p.1.data.toList), .lit (.int .i64 (p.2 : Int))]
abbrev holdV (p : ByteArray × Nat) : Value := .agg #[.string p.1, .int .i64 (p.2 : Int)]
theorem holdR_mk (p : ByteArray × Nat) : holdR (holdV p) = some (holdD p, []) := rfl
theorem holdR_inv {v : Value} {p : ByteArray × Nat} {ps : List MemPlace} (h : holdR v = some (holdD p, ps)) : v = holdV p := by
  unfold holdR at h
  split at h
  · rename_i cs
    unfold holdL at h
    split at h
    · rename_i s n e
      simp only [holdD, Option.some.injEq, Prod.mk.injEq, DataW.agg.injEq, List.cons.injEq, DataW.lit.injEq, Lit.string.injEq, Lit.int.injEq, true_and, and_true] at h
      obtain ⟨⟨h1, h2⟩, -⟩ := h
      have : s = p.1 := by
        cases s; obtain ⟨⟨t⟩, q⟩ := p
        simp only at h1
        rw [Array.toList_inj.1 h1]
      have e2 : cs = #[.string s, .int .i64 n] := by rw [← Array.toArray_toList (xs := cs), e]
      rw [e2, this, h2]
    · cases h
  · cases h
/-- Block B is a map that tells who holds what. -/
def MapH (w : World) (B : Nat) (C : List (ByteArray × ByteArray)) : Prop :=
  ∃ (n : Nat) (D : DataW Unit), w.ownsMap Tryd.prog 9 holdR B n D ∧ n ≤ C.length ∧ ∀ s : ByteArray, s.size ≤ Go.maxLen → D.atKey (keyLit s) (holdD (⟨#[]⟩, 0)) = holdD (hold C s)
theorem MapH.made (w : World) : MapH (w.alloc (.map #[] 0)) w.heap.size [] :=
  ⟨0, .map [], World.ownsMap_made _ _ _ _, Nat.le_refl _, fun _s _ => rfl⟩
theorem MapH.kept {w w' : World} {B : Nat} {C : List (ByteArray × ByteArray)} {row : Option Nat} (h : MapH w B C) (hg : w.grownBy w' row) (hne : some B ≠ row) : MapH w' B C := by
  obtain ⟨n, D, h1, h2, h3⟩ := h
  exact ⟨n, D, h1.kept hg hne, h2, h3⟩
theorem MapH.lt {w : World} {B : Nat} {C : List (ByteArray × ByteArray)} (h : MapH w B C) : B < w.heap.size := by
  obtain ⟨n, D, h1, -⟩ := h
  exact h1.lt
theorem MapH.blk {w w' : World} {B : Nat} {C : List (ByteArray × ByteArray)} (h : MapH w B C) (hb : w'.heap[B]? = w.heap[B]?) : MapH w' B C := by
  obtain ⟨n, D, ⟨es, clock, g1, g2⟩, h2, h3⟩ := h
  exact ⟨n, D, ⟨es, clock, hb.trans g1, g2⟩, h2, h3⟩
theorem MapH.up {w w' : World} {B : Nat} {C : List (ByteArray × ByteArray)} (h : MapH w B C) (hb : Below w.heap.size w w') : MapH w' B C := h.blk (hb.block B h.lt)
/-- A rename, as it lies. -/
def renE (r : ByteArray × ByteArray) : List Value := [.string r.1, .string r.2]
abbrev renV (r : ByteArray × ByteArray) : Value := .agg #[.string r.1, .string r.2]
theorem ren_at {w : World} {lo hi : Nat} {a : Option Addr} {l : List (ByteArray × ByteArray)} (h : SlE renE 2 w lo hi a l) {k : Nat} {y : ByteArray × ByteArray} (hk : l[k]? = some y) :
    ∃ b off, a = some ⟨b, off, none⟩ ∧ lo ≤ b ∧ b < hi ∧ b < w.heap.size ∧ w.cell? ⟨b, off + k * 2, none⟩ = some (.string y.1) ∧ w.cell? ⟨b, off + k * 2 + 1, none⟩ = some (.string y.2) := by
  have hl : k < l.length := (List.getElem?_eq_some_iff.1 hk).1
  obtain ⟨b, off, e, g1, g2, g3, g4⟩ := h (by omega)
  have c := g4 k y hk
  exact ⟨b, off, e, g1, g2, g3, by simpa using c 0 _ rfl, c 1 _ rfl⟩
end Go.Proofs.YtjihepdjcbpgoaaDoor
