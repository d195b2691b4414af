/-
  The document's renames are the program's, plain: of the keys that another map has not, the last one that has a value, and how many. No program. Condition: both are maps that may be.
  inarchref14.same, Same, Size: as the program's Same and Size. Conditions: the trees lie in memory, their weights are bounded.
  inarchref24.has, IsMap, only: as the plain functions. Conditions: the trees lie in memory, their weights are bounded.
-/
import Derived.Test.YtcpdogjcofkpcaaGreatDoorNB
import Derived.Test.YtcpdogjcofkpcaaGreatDoorTE
import Derived.Test.YtcpdogjcofkpcaaGreatDoorRB
import Derived.Test.YtcpdogjcofkpcaaGreatDoorNK
import Derived.Test.YtcpdogjcofkpcaaGreatDoorO5
import Derived.Test.YtcpdogjcofkpcaaGreatDoorNG
namespace Go.Proofs.YtcpdogjcofkpcaaGreatDoor
open Go.RowKit Go.Sort

/-- Of some entries those whose key another map has not, and whose value is the same as a value. -/
def onlyL (o x : Val) (l : List (ByteArray × Val)) : List (ByteArray × ByteArray) := (l.filter fun e : ByteArray × Val => decide (e.1 ∉ o.ks) && sameV e.2 x).map fun e => (e.1, e.2.key)
/-- The last one's key, and how many. -/
def onlyV (v o x : Val) : ByteArray × Nat := (lastKey (onlyL o x (v.ks.zip v.l)), (onlyL o x (v.ks.zip v.l)).length)
theorem onlyL_snoc (o x : Val) (l : List (ByteArray × Val)) (e : ByteArray × Val) : onlyL o x (l ++ [e]) = if (decide (e.1 ∉ o.ks) && sameV e.2 x) = true then onlyL o x l ++ [(e.1, e.2.key)] else onlyL o x l := by
  unfold onlyL
  rw [List.filter_append]
  by_cases h : (decide (e.1 ∉ o.ks) && sameV e.2 x) = true
  · rw [if_pos h, List.filter_cons_of_pos (p := fun e : ByteArray × Val => decide (e.1 ∉ o.ks) && sameV e.2 x) h]; simp
  · rw [if_neg h, List.filter_cons_of_neg (p := fun e : ByteArray × Val => decide (e.1 ∉ o.ks) && sameV e.2 x) h]; simp
theorem onlyL_len (o x : Val) (l : List (ByteArray × Val)) : (onlyL o x l).length ≤ l.length := by
  unfold onlyL
  rw [List.length_map]
  exact List.length_filter_le _ _
theorem same_key {a b : Val} (ha : a.may = true) (hb : b.may = true) : sameV a b = decide (a.key = b.key) := by
  unfold sameV
  rw [ha, hb, Bool.true_and, Bool.true_and]
  exact decide_eq_decide.2 (key_same ha hb).symm
theorem same_sz {a b : Val} (ha : a.may = true) (hb : b.may = true) (h : a.key = b.key) : a.sz = b.sz := by
  have wa : a.within 256 = true := by rw [Val.may_eq]; exact ha
  have wb : b.within 256 = true := by rw [Val.may_eq]; exact hb
  have h1 := (cmpV_zero 256 a b wa wb).1 ((key_same ha hb).1 h)
  unfold Val.sz
  rw [if_pos ha, if_pos hb, ← canon_size 256 a wa, ← canon_size 256 b wb, h1]
theorem sel_only {v o x : Val} (hv : v.isMap = true) (hx : x.may = true) (hs : 2 ≤ x.sz) : sel (cand v o) x.key = onlyL o x (v.ks.zip v.l) := by
  unfold sel cand onlyL
  rw [List.filter_map, List.filter_filter]
  congr 1
  refine List.filter_congr fun e he => ?_
  have hm := zip_may hv (s := e.1) (y := e.2) he
  rw [same_key hm hx]
  rw [Bool.eq_iff_iff]
  simp only [Function.comp, Bool.and_eq_true, decide_eq_true_eq]
  constructor
  · rintro ⟨h1, h2, -⟩; exact ⟨h2, h1⟩
  · rintro ⟨h1, h2⟩; exact ⟨h2, h1, by rw [same_sz hm hx h2]; exact hs⟩
theorem hold_only {v o x : Val} (hv : v.isMap = true) (hx : x.may = true) (hs : 2 ≤ x.sz) : hold (cand v o) x.key = onlyV v o x := by
  unfold hold onlyV
  rw [sel_only hv hx hs]
theorem filterMap_same {α β : Type} {f g : α → Option β} : ∀ {l : List α}, (∀ x ∈ l, f x = g x) → l.filterMap f = l.filterMap g
  | [], _ => rfl
  | x :: l, h => by
    rw [List.filterMap_cons, List.filterMap_cons, h x List.mem_cons_self, filterMap_same fun y hy => h y (List.mem_cons_of_mem _ hy)]
/-- The document's renames, of some entries. -/
def refL (b x : Val) (l : List (ByteArray × Val)) : List (ByteArray × ByteArray) := l.filterMap fun e : ByteArray × Val => if (e.1 ∉ x.ks ∧ 2 ≤ e.2.sz) ∧ (onlyV b x e.2).2 = 1 ∧ (onlyV x b e.2).2 = 1 then some (e.1, (onlyV x b e.2).1) else none
theorem refL_snoc (b x : Val) (l : List (ByteArray × Val)) (e : ByteArray × Val) : refL b x (l ++ [e]) = if (e.1 ∉ x.ks ∧ 2 ≤ e.2.sz) ∧ (onlyV b x e.2).2 = 1 ∧ (onlyV x b e.2).2 = 1 then refL b x l ++ [(e.1, (onlyV x b e.2).1)] else refL b x l := by
  unfold refL
  rw [List.filterMap_append]
  by_cases h : (e.1 ∉ x.ks ∧ 2 ≤ e.2.sz) ∧ (onlyV b x e.2).2 = 1 ∧ (onlyV x b e.2).2 = 1
  · rw [if_pos h]; simp [h]
  · rw [if_neg h]; simp only [List.filterMap_cons, if_neg h, List.filterMap_nil, List.append_nil]
theorem refL_of {b x : Val} (hb : b.isMap = true) (hx : x.isMap = true) : refL b x (b.ks.zip b.l) = ofP b x := by
  unfold refL ofP
  refine filterMap_same fun e he => ?_
  have hm := zip_may hb (s := e.1) (y := e.2) he
  by_cases h : e.1 ∉ x.ks ∧ 2 ≤ e.2.sz
  · rw [hold_only hb hm h.2, hold_only hx hm h.2]
    by_cases h2 : (onlyV b x e.2).2 = 1 ∧ (onlyV x b e.2).2 = 1
    · have hc : (e.1, e.2.key) ∈ sel (cand b x) e.2.key := List.mem_filter.2 ⟨List.mem_map.2 ⟨e, List.mem_filter.2 ⟨he, decide_eq_true h⟩, rfl⟩, decide_eq_true rfl⟩
      have h1 := h2.1
      rw [← hold_only hb hm h.2] at h1
      rw [hold_one h1, List.mem_singleton, hold_only hb hm h.2] at hc
      have e1 : onlyV b x e.2 = (e.1, 1) := Prod.ext (Prod.mk.inj hc).1.symm h2.1
      rw [if_pos ⟨h, h2⟩, if_pos ⟨e1, h2.2⟩]
    · rw [if_neg fun q => h2 q.2, if_neg fun q => h2 ⟨by rw [q.1], q.2⟩]
  · rw [if_neg fun q => h q.1]
    rw [if_neg]
    rintro ⟨h1, -⟩
    have s1 := hold_one (C := cand b x) (s := e.2.key) (by rw [h1])
    rw [h1] at s1
    obtain ⟨c1, -⟩ := sel_mem (by rw [s1]; exact List.mem_singleton.2 rfl : (e.1, e.2.key) ∈ sel (cand b x) e.2.key)
    obtain ⟨y, m1, m2, m3, m4⟩ := cand_mem c1
    have hy := zip_one (isMap_len hb).2 m1 he
    exact h ⟨m2, hy ▸ m3⟩
end Go.Proofs.YtcpdogjcofkpcaaGreatDoor

namespace Go.Proofs.YtcpdogjcofkpcaaGreatDoor
open Go.RowKit Go.Sort

theorem shape_nokeys {v : Val} (h : v.shape = true) (hk : v.k ≠ 8) : v.ks = [] := by
  unfold Val.shape at h
  split at h
  · simp at h; exact h.2.2
  split at h
  · simp at h; exact h.2.2
  split at h
  · simp at h; exact h.2
  split at h
  · simp at h; exact h.2.2
  split at h
  · simp at h; exact h.2
  · cases h
theorem sub_perm {α : Type} : ∀ {l m : List α}, l.Nodup → (∀ x ∈ l, x ∈ m) → m.length ≤ l.length → l.Perm m
  | [], m, _, _, h => by
    have : m = [] := List.length_eq_zero_iff.1 (by simpa using h)
    rw [this]
  | x :: l, m, hn, hs, hl => by
    obtain ⟨s, t, rfl⟩ := List.append_of_mem (hs x List.mem_cons_self)
    rw [List.nodup_cons] at hn
    have h1 : l.Perm (s ++ t) := sub_perm hn.2 (fun y hy => by
      have := hs y (List.mem_cons_of_mem _ hy)
      simp only [List.mem_append, List.mem_cons] at this ⊢
      rcases this with h | h | h
      · exact .inl h
      · exact absurd (h ▸ hy) hn.1
      · exact .inr h) (by simp at hl ⊢; omega)
    exact (h1.cons x).trans List.perm_middle.symm
/-- A part of one value, and the one of another that it is to be the same as. -/
def Corr (a b : Val) (i : Nat) (y : Val) : Prop := ∃ j z, (if a.k = 8 then ∃ s, a.ks[i]? = some s ∧ idxB b.ks s = some j else j = i) ∧ b.l[j]? = some z ∧ cmpV 256 y z = 0
theorem kid_zero {y z : Val} (hy : y.within 255 = true) (hz : z.within 255 = true) : cmpV 256 y z = 0 ↔ canon 255 y = canon 255 z := by
  rw [cmpV_more 255 y z hy hz]
  exact cmpV_zero 255 y z hy hz
theorem zip_mem_iff {v : Val} {s : ByteArray} {y : Val} : (s, y) ∈ v.ks.zip v.l ↔ ∃ i : Nat, v.ks[i]? = some s ∧ v.l[i]? = some y := by
  constructor
  · intro h
    obtain ⟨i, hi⟩ := List.getElem?_of_mem h
    exact ⟨i, List.getElem?_zip_eq_some.1 hi⟩
  · rintro ⟨i, h1, h2⟩
    exact List.mem_of_getElem? (List.getElem?_zip_eq_some.2 ⟨h1, h2⟩ : (v.ks.zip v.l)[i]? = some (s, y))
set_option maxRecDepth 100000 in
theorem same_iff {a b : Val} (ha : a.may = true) (hb : b.may = true) : cmpV 256 a b = 0 ↔ (a.k = b.k ∧ a.t = b.t ∧ a.l.length = b.l.length) ∧ ∀ i y, a.l[i]? = some y → Corr a b i y := by
  have wa : a.within 256 = true := by rw [Val.may_eq]; exact ha
  have wb : b.within 256 = true := by rw [Val.may_eq]; exact hb
  obtain ⟨sa, ka⟩ := within_k (n := 255) wa
  obtain ⟨sb, kb⟩ := within_k (n := 255) wb
  rw [cmpV_zero 256 a b wa wb]
  by_cases hk : a.k = b.k
  · by_cases h8 : a.k = 8
    · have h8b : b.k = 8 := by rw [← hk]; exact h8
      obtain ⟨-, la, na⟩ := shape_map sa h8
      obtain ⟨-, lb, nb⟩ := shape_map sb h8b
      rw [canon_s 255 a, canon_s 255 b, if_pos h8, if_pos h8b, Val.mk.injEq]
      constructor
      · rintro ⟨-, ht, hv, hks⟩
        have hlen : a.l.length = b.l.length := by
          have := congrArg List.length hks
          rw [List.length_map, List.length_map, ents_len la, ents_len lb] at this
          exact this
        refine ⟨⟨hk, ht, hlen⟩, fun i y hy => ?_⟩
        have hi : i < a.ks.length := by have := (List.getElem?_eq_some_iff.1 hy).1; omega
        have hs : a.ks[i]? = some a.ks[i] := List.getElem?_eq_getElem hi
        generalize a.ks[i] = s at hs
        have hm : (s, y) ∈ a.ents := (ents_perm a).symm.subset (zip_mem_iff.2 ⟨i, hs, hy⟩)
        obtain ⟨p, hp⟩ := List.getElem?_of_mem hm
        have e1 : (a.ents.map (·.1))[p]? = some s := by rw [List.getElem?_map, hp]; rfl
        have e2 : (a.ents.map fun e => canon 255 e.2)[p]? = some (canon 255 y) := by rw [List.getElem?_map, hp]; rfl
        rw [hks, List.getElem?_map] at e1
        rw [hv, List.getElem?_map] at e2
        cases hq : b.ents[p]? with
        | none => rw [hq] at e1; cases e1
        | some e =>
          rw [hq] at e1 e2
          simp only [Option.map_some, Option.some.injEq] at e1 e2
          obtain ⟨t, z⟩ := e
          subst e1
          obtain ⟨j, j1, j2⟩ := zip_mem_iff.1 ((ents_perm b).subset (List.mem_of_getElem? hq))
          refine ⟨j, z, by rw [if_pos h8]; exact ⟨t, hs, idxB_at j1 nb⟩, j2, ?_⟩
          rw [kid_zero (ka y (List.mem_of_getElem? hy)) (kb z (List.mem_of_getElem? j2))]
          exact e2.symm
      · rintro ⟨⟨-, ht, hlen⟩, hc⟩
        have hA : (a.ents.map fun e => (e.1, canon 255 e.2)) = b.ents.map fun e => (e.1, canon 255 e.2) := by
          refine sorted_eq (sub_perm ?_ ?_ ?_) ?_ ?_ ?_
          · refine nodup_of_fst ?_
            rw [List.map_map]
            show (a.ents.map fun e => e.1).Nodup
            have hp := (ents_perm a).map (·.1)
            refine hp.nodup_iff.2 ?_
            rw [List.map_fst_zip (by omega)]
            exact na
          · intro x hx
            obtain ⟨⟨s, y⟩, hm, rfl⟩ := List.mem_map.1 hx
            obtain ⟨i, i1, i2⟩ := zip_mem_iff.1 ((ents_perm a).subset hm)
            obtain ⟨j, z, hj, hz, h0⟩ := hc i y i2
            rw [if_pos h8] at hj
            obtain ⟨t, t1, t2⟩ := hj
            rw [i1] at t1
            cases t1
            rw [kid_zero (ka y (List.mem_of_getElem? i2)) (kb z (List.mem_of_getElem? hz))] at h0
            refine List.mem_map.2 ⟨(s, z), (ents_perm b).symm.subset (zip_mem_iff.2 ⟨j, idxB_some t2, hz⟩), ?_⟩
            show (s, canon 255 z) = (s, canon 255 y)
            rw [h0]
          · rw [List.length_map, List.length_map, ents_len la, ents_len lb, hlen]; exact Nat.le_refl _
          · intro x hx y hy e
            obtain ⟨p, hp, rfl⟩ := List.mem_map.1 hx
            obtain ⟨q, hq, rfl⟩ := List.mem_map.1 hy
            have := ents_key na p hp q hq e
            rw [this]
          · exact List.pairwise_map.2 (ents_sorted a)
          · exact List.pairwise_map.2 (ents_sorted b)
        refine ⟨hk, ht, ?_, ?_⟩
        · have := congrArg (List.map (·.2)) hA
          rw [List.map_map, List.map_map] at this
          exact this
        · have := congrArg (List.map (·.1)) hA
          rw [List.map_map, List.map_map] at this
          exact this
    · have h8b : b.k ≠ 8 := by rw [← hk]; exact h8
      rw [canon_s 255 a, canon_s 255 b, if_neg h8, if_neg h8b, shape_nokeys sa h8, shape_nokeys sb h8b, Val.mk.injEq]
      constructor
      · rintro ⟨-, ht, hl, -⟩
        have hlen : a.l.length = b.l.length := by
          have := congrArg List.length hl
          rwa [List.length_map, List.length_map] at this
        refine ⟨⟨hk, ht, hlen⟩, fun i y hy => ?_⟩
        have hi := (List.getElem?_eq_some_iff.1 hy).1
        have hz : b.l[i]? = some b.l[i] := List.getElem?_eq_getElem (by omega)
        refine ⟨i, b.l[i], by rw [if_neg h8], hz, ?_⟩
        rw [kid_zero (ka y (List.mem_of_getElem? hy)) (kb _ (List.mem_of_getElem? hz))]
        have := congrArg (fun l => l[i]?) hl
        simp only [List.getElem?_map, hy, hz, Option.map_some, Option.some.injEq] at this
        exact this
      · rintro ⟨⟨-, ht, hlen⟩, hc⟩
        refine ⟨hk, ht, List.ext_getElem? fun i => ?_, rfl⟩
        rw [List.getElem?_map, List.getElem?_map]
        cases hy : a.l[i]? with
        | none =>
          have : b.l[i]? = none := List.getElem?_eq_none (by have := List.getElem?_eq_none_iff.1 hy; omega)
          rw [this]
        | some y =>
          obtain ⟨j, z, hj, hz, h0⟩ := hc i y hy
          rw [if_neg h8] at hj
          subst hj
          rw [kid_zero (ka y (List.mem_of_getElem? hy)) (kb z (List.mem_of_getElem? hz))] at h0
          rw [hz, Option.map_some, Option.map_some, h0]
  · constructor
    · intro h
      have := congrArg Val.k h
      rw [canon_k, canon_k] at this
      exact absurd this hk
    · rintro ⟨⟨h, -⟩, -⟩
      exact absurd h hk

set_option maxRecDepth 100000 in
set_option maxHeartbeats 3200000 in
theorem rsame1_c : ∀ (x y : AV) (w : World), Rd w x → Rd w y → x.w ≤ 1048576 → y.w ≤ 1048576 → x.v.may = true → y.v.may = true →
    Calls Tryz.prog 91 #[x.val, y.val] w (Ret (.bool (decide (cmpV 256 x.v y.v = 0))) w) := fun x => AV.ind (P := fun x => ∀ (y : AV) (w : World), Rd w x → Rd w y → x.w ≤ 1048576 → y.w ≤ 1048576 → x.v.may = true → y.v.may = true →
    Calls Tryz.prog 91 #[x.val, y.val] w (Ret (.bool (decide (cmpV 256 x.v y.v = 0))) w)) (fun x ih y w hx hy hwx hwy hmx hmy => by
  have hll := x.w_l
  have hll2 := y.w_l
  have hlk2 := y.w_ks
  have hiff := same_iff hmx hmy
  rw [AV.v_k, AV.v_k, AV.v_t, AV.v_t, AV.v_l, AV.v_l, List.length_map, List.length_map] at hiff
  have hB0 := duo_0 (w := w) (o1 := .cells #[.int .u8 x.k, .string x.t, .slice x.la x.l.length x.lc, .slice x.ka x.ks.length x.kc] 48) (o2 := .cells #[.int .u8 y.k, .string y.t, .slice y.la y.l.length y.lc, .slice y.ka y.ks.length y.kc] 48)
  obtain ⟨W2, hW2⟩ : ∃ W2, (w.alloc (.cells #[.int .u8 x.k, .string x.t, .slice x.la x.l.length x.lc, .slice x.ka x.ks.length x.kc] 48)).alloc (.cells #[.int .u8 y.k, .string y.t, .slice y.la y.l.length y.lc, .slice y.ka y.ks.length y.kc] 48) = W2 := ⟨_, rfl⟩
  have HT := Lib.hid (show ∀ W, Below (w.heap.size + 1 + 1) W2 W → _ from fun W (h : Below (w.heap.size + 1 + 1) W2 W) => duo_at (w := w) (W := W) (o1 := .cells #[.int .u8 x.k, .string x.t, .slice x.la x.l.length x.lc, .slice x.ka x.ks.length x.kc] 48) (o2 := .cells #[.int .u8 y.k, .string y.t, .slice y.la y.l.length y.lc, .slice y.ka y.ks.length y.kc] 48) (by rw [hW2]; exact h))
  rw [hW2] at hB0
  obtain ⟨k1, k2, k3, k4⟩ := HT.out W2 hB0
  obtain ⟨q0, q1, q2, q3, -, -, -, -⟩ := vbox4 k1
  obtain ⟨p0, p1, p2, p3, -, -, -, -⟩ := vbox4 k2
  have hs2 : W2.heap.size = w.heap.size + 1 + 1 := by rw [← hW2]; simp
  have l1 : w.heap.size < W2.heap.size := by omega
  have HB0 := Lib.hid hB0
  have HS2 := Lib.hid hs2
  have HW2 := Lib.hid hW2
  have HX := Lib.hid hx
  have HY := Lib.hid hy
  have HI := Lib.hid ih
  have HM := Lib.hid (And.intro hmx hmy)
  have K4 := Lib.hid k4
  clear hB0 hW2 hs2 hx hy ih hmx hmy k1 k2 k3 k4
  by_cases hk : x.k = y.k
  · by_cases ht : x.t = y.t
    · by_cases hl : x.l.length = y.l.length
      · have e0 : (x.k != y.k) = false := by simp [hk]
        have e1 : (x.t.toList == y.t.toList) = true := by rw [str_beq]; exact decide_eq_true ht
        have e1' : decide (x.t = y.t) = true := decide_eq_true ht
        have e2 : ((x.l.length : Int) != (y.l.length : Int)) = false := by rw [bne_eq_false_iff_eq]; omega
        have hsh : x.k = 8 → x.ks.length = x.l.length ∧ y.ks.length = y.l.length := fun h8 => by
          have h1 := (shape_map (within_sh (n := 256) (by rw [Val.may_eq]; exact HM.out.1)) (by rw [AV.v_k]; exact h8)).2.1
          have h2 := (shape_map (within_sh (n := 256) (by rw [Val.may_eq]; exact HM.out.2)) (by rw [AV.v_k, ← hk]; exact h8)).2.1
          rw [AV.v_ks, AV.v_l, List.length_map] at h1 h2
          exact ⟨h1, h2⟩
        have HC : ∀ m e, x.l[m]? = some e → ¬ Corr x.v y.v m e.v → decide (cmpV 256 x.v y.v = 0) = false := fun m e he hn => decide_eq_false fun h => hn ((hiff.1 h).2 m e.v (by rw [List.getElem?_map, he]; rfl))
        have HT1 : (∀ m e, x.l[m]? = some e → Corr x.v y.v m e.v) → decide (cmpV 256 x.v y.v = 0) = true := fun h => decide_eq_true (hiff.2 ⟨⟨hk, ht, hl⟩, fun i v hv => by
          rw [List.getElem?_map] at hv
          cases he : x.l[i]? with
          | none => rw [he] at hv; cases hv
          | some e => rw [he] at hv; cases hv; exact h i e he⟩)
        have HSH := Lib.hid hsh
        have HHC := Lib.hid HC
        have HHT := Lib.hid HT1
        have HK := Lib.hid hk
        have HLL := Lib.hid hl
        clear hiff hsh HC HT1 hk ht hl
        go_enter Tryz.func91, Tryz.ntmps91
        go_wp2_with fail
        rw [HW2.out]
        go_loopw [5] (fun s5 wr => ∃ m : Nat, m ≤ x.l.length ∧ s5 = .int .i64 m ∧ (∀ q e, q < m → x.l[q]? = some e → Corr x.v y.v q e.v) ∧ Below (w.heap.size + 1 + 1) W2 wr) (fun s5 _ => x.l.length - (intOf s5).toNat)
        case atStart => exact ⟨0, Nat.zero_le _, rfl, fun q e h => absurd h (Nat.not_lt_zero _), HB0.out⟩
        case round =>
          obtain ⟨m, hm, rfl, hall, hbr⟩ := hrel
          clear q0 q1 q2 q3 p0 p1 p2 p3 l1 K4
          obtain ⟨k1, k2, k3, k5⟩ := HT.out wr hbr
          obtain ⟨q0, q1, q2, q3, -, -, -, -⟩ := vbox4 k1
          have l1 : w.heap.size < wr.heap.size := by omega
          have HBR := Lib.hid hbr
          have HALL := Lib.hid hall
          have K1 := Lib.hid k1
          have K2 := Lib.hid k2
          have K5 := Lib.hid k5
          clear hbr hall k1 k2 k5
          by_cases hlt : m < x.l.length
          · have he : x.l[m]? = some x.l[m] := List.getElem?_eq_getElem hlt
            have hem : x.l[m] ∈ x.l := List.getElem_mem hlt
            generalize x.l[m] = e at he hem
            obtain ⟨be, oe, hla, -, -, ge, e0', e1', e2', e3'⟩ := vals_at (HX.out.up K5.out).sl he
            have hew := AV.w_kid hem
            have hemay : e.v.may = true := (may_kid HM.out.1 (by rw [AV.v_l]; exact List.mem_map_of_mem hem)).2
            have hlt' : (m : Int) < (x.l.length : Int) := by omega
            have hm0 : (0 : Int) ≤ (m : Int) := by omega
            have hwm : IntKind.i64.wrap ((m : Int) + 1) = ((m + 1 : Nat) : Int) := by rw [IntWalk.i64_in _ (by omega)]; omega
            have hnext : Corr x.v y.v m e.v → ∀ q e', q < m + 1 → x.l[q]? = some e' → Corr x.v y.v q e'.v := fun hc q e' hq he' => by
              rcases Nat.lt_or_ge q m with h | h
              · exact HALL.out q e' h he'
              · obtain rfl : q = m := by omega
                rw [he] at he'; cases he'; exact hc
            have HNX := Lib.hid hnext
            have HHCm := Lib.hid (HHC.out m e he)
            by_cases h8 : x.k = 8
            · have e8 : (x.k == 8) = true := by simp [h8]
              have HSM := Lib.hid (HSH.out h8)
              have hmk : m < x.ks.length := by have := HSM.out.1; omega
              have hks : x.ks[m]? = some x.ks[m] := List.getElem?_eq_getElem hmk
              generalize x.ks[m] = s at hks
              obtain ⟨bk, ok, hka, -, -, gk, s0'⟩ := key_at (HX.out.up K5.out).keys hks
              have hm2 : (m : Int) < (x.ks.length : Int) := by have := HSM.out.1; omega
              have HFI := fun W (h : Below wr.heap.size wr W) => Lib.hid (find14_c y s W (HY.out.up (below_via K5.out h)) (by omega))
              have LD := Lib.hid (show ∀ W, Below wr.heap.size wr W → _ from fun W (h : Below wr.heap.size wr W) => And.intro (vbox4 (blk_up h K1.out)) (And.intro (vbox4 (blk_up h K2.out)) ((h.cell (p := ⟨_, _, none⟩) gk).trans s0')))
              rw [hka] at LD
              cases hi : idxB y.ks s with
              | none =>
                have hii : idxI y.ks s = -1 := by rw [idxI, hi]
                rw [hii] at HFI
                have HF := Lib.hid (HHCm.out (fun h => by
                  obtain ⟨j, z, hj, -, -⟩ := h
                  rw [AV.v_k, if_pos h8, AV.v_ks, AV.v_ks] at hj
                  obtain ⟨t, t1, t2⟩ := hj
                  rw [hks] at t1; cases t1
                  rw [hi] at t2; cases t2))
                have hm1 : decide ((-1 : Int) < 0) = true := by decide
                clear he hem hks hka hi hii hnext e0' e1' e2' e3' s0' hla h8
                go_wp2_with fail
                refine wp_region_bl (by kernel_rfl) (by kernel_rfl) ?_
                repeat (first | go_big_quiet_skip | (go_big_quiet_want; go_big_quiet_op; first | go_big_quiet_on | (refine ⟨_, fun _ _ => (by with_reducible rfl), ?_⟩; go_big_quiet_on) | (apply Exists.intro; refine ⟨fun w' hC => (by simp only [LD.out w' hC, Result.andThen]; exact ⟨trivial, rfl⟩), ?_⟩; go_big_quiet_on) | (apply Exists.intro; refine ⟨fun w' hC => (by (with_reducible refine (HFI w' hC).out.mono ?_); exact fun e w2 ⟨he, hb⟩ => ⟨he, hC.trans (hb.mono hC.size)⟩), ?_⟩; go_big_quiet_on)))
                refine wpQuiet_nil ?_; intro wz hbz
                go_wp2_with fail
                have LD := Lib.hid (show ∀ W, Below wz.heap.size wz W → _ from fun W (h : Below wz.heap.size wz W) => LD.out W (below_via hbz h))
                have hbz0 := Lib.hid hbz
                have l2 : w.heap.size < wz.heap.size := by have := hbz.size; omega
                refine wp_region_bl (by kernel_rfl) (by kernel_rfl) ?_
                repeat (first | go_big_quiet_skip | (go_big_quiet_want; go_big_quiet_op; first | go_big_quiet_on | (refine ⟨_, fun _ _ => (by with_reducible rfl), ?_⟩; go_big_quiet_on)))
                refine wpQuiet_nil ?_; intro wz hbz
                go_wp2_with fail
                go_ret
                exact ⟨by rw [HF.out]; rfl, below_via K5.out (below_via hbz0.out hbz)⟩
              | some j =>
                have hii : idxI y.ks s = (j : Int) := by rw [idxI, hi]
                rw [hii] at HFI
                have hjk := idxB_some hi
                have hlt2 : j < y.l.length := by have := (List.getElem?_eq_some_iff.1 hjk).1; have := HSM.out.2; omega
                have hf : y.l[j]? = some y.l[j] := List.getElem?_eq_getElem hlt2
                have hfm : y.l[j] ∈ y.l := List.getElem_mem hlt2
                generalize y.l[j] = f at hf hfm
                have hcorr : Corr x.v y.v m e.v ↔ cmpV 256 e.v f.v = 0 := by
                  unfold Corr
                  rw [AV.v_k]
                  constructor
                  · rintro ⟨q, z, hj, hz, h0⟩
                    rw [if_pos h8, AV.v_ks, AV.v_ks] at hj
                    obtain ⟨t, t1, t2⟩ := hj
                    rw [hks] at t1; cases t1
                    rw [hi] at t2; cases t2
                    rw [AV.v_l, List.getElem?_map, hf] at hz
                    cases hz
                    exact h0
                  · intro h0
                    exact ⟨j, f.v, by rw [if_pos h8, AV.v_ks, AV.v_ks]; exact ⟨s, hks, hi⟩, by rw [AV.v_l, List.getElem?_map, hf]; rfl, h0⟩
                obtain ⟨bf, of, hlb, -, -, gf, f0', f1', f2', f3'⟩ := vals_at (HY.out.up K5.out).sl hf
                have hfw := AV.w_kid hfm
                have hfmay : f.v.may = true := (may_kid HM.out.2 (by rw [AV.v_l]; exact List.mem_map_of_mem hfm)).2
                have HH0 := fun W (h : Below wr.heap.size wr W) => Lib.hid (HI.out e hem f W (Rd.up (HX.out.kid hem) (below_via K5.out h)) (Rd.up (HY.out.kid hfm) (below_via K5.out h)) (by omega) (by omega) hemay hfmay)
                have LDB := Lib.hid (show ∀ W, Below wr.heap.size wr W → _ from fun W (h : Below wr.heap.size wr W) => And.intro (vbox4 (blk_up h K1.out)) (And.intro (vbox4 (blk_up h K2.out)) (And.intro ((h.cell (p := ⟨_, _, none⟩) ge).trans e0') (And.intro ((h.cell (p := ⟨_, _, none⟩) ge).trans e1') (And.intro ((h.cell (p := ⟨_, _, none⟩) ge).trans e2') (And.intro ((h.cell (p := ⟨_, _, none⟩) ge).trans e3') (And.intro ((h.cell (p := ⟨_, _, none⟩) gf).trans f0') (And.intro ((h.cell (p := ⟨_, _, none⟩) gf).trans f1') (And.intro ((h.cell (p := ⟨_, _, none⟩) gf).trans f2') ((h.cell (p := ⟨_, _, none⟩) gf).trans f3'))))))))))
                rw [hla, hlb] at LDB
                have hlt2' : (j : Int) < (y.l.length : Int) := by omega
                have hj0 : (0 : Int) ≤ (j : Int) := by omega
                have hm1 : decide ((j : Int) < 0) = false := by rw [decide_eq_false_iff_not]; omega
                have HCR := Lib.hid hcorr
                clear he hem hks hka hi hii hnext e0' e1' e2' e3' s0' hla hlb f0' f1' f2' f3' hf hfm hcorr hjk h8
                go_wp2_with fail
                refine wp_region_bl (by kernel_rfl) (by kernel_rfl) ?_
                repeat (first | go_big_quiet_skip | (go_big_quiet_want; go_big_quiet_op; first | go_big_quiet_on | (refine ⟨_, fun _ _ => (by with_reducible rfl), ?_⟩; go_big_quiet_on) | (apply Exists.intro; refine ⟨fun w' hC => (by simp only [LD.out w' hC, Result.andThen]; exact ⟨trivial, rfl⟩), ?_⟩; go_big_quiet_on) | (apply Exists.intro; refine ⟨fun w' hC => (by (with_reducible refine (HFI w' hC).out.mono ?_); exact fun e w2 ⟨he, hb⟩ => ⟨he, hC.trans (hb.mono hC.size)⟩), ?_⟩; go_big_quiet_on)))
                refine wpQuiet_nil ?_; intro wz hbz
                go_wp2_with fail
                have HBZ := Lib.hid hbz
                have LD := Lib.hid (show ∀ W, Below wz.heap.size wz W → _ from fun W (h : Below wz.heap.size wz W) => LDB.out W (below_via HBZ.out h))
                have HH := fun W (h : Below wz.heap.size wz W) => HH0 W (below_via HBZ.out h)
                clear hbz LDB HH0 HFI
                cases hd : decide (cmpV 256 e.v f.v = 0) with
                | false =>
                  rw [hd] at HH
                  have HF := Lib.hid (HHCm.out (fun h => of_decide_eq_false hd (HCR.out.1 h)))
                  clear hd
                  refine wp_region_bl (by kernel_rfl) (by kernel_rfl) ?_
                  repeat (first | go_big_quiet_skip | (go_big_quiet_want; go_big_quiet_op; first | go_big_quiet_on | (refine ⟨_, fun _ _ => (by with_reducible rfl), ?_⟩; go_big_quiet_on) | (apply Exists.intro; refine ⟨fun w' hC => (by simp only [LD.out w' hC, Result.andThen]; exact ⟨trivial, rfl⟩), ?_⟩; go_big_quiet_on) | (apply Exists.intro; refine ⟨fun w' hC => (by (with_reducible refine (HH w' hC).out.mono ?_); exact fun e w2 ⟨he, hb⟩ => ⟨he, hC.trans (hb.mono hC.size)⟩), ?_⟩; go_big_quiet_on)))
                  refine wpQuiet_nil ?_; intro wz hbz
                  go_wp2_with fail
                  go_ret
                  exact ⟨by rw [HF.out]; rfl, below_via K5.out (below_via HBZ.out hbz)⟩
                | true =>
                  rw [hd] at HH
                  have HN := Lib.hid (HNX.out (HCR.out.2 (of_decide_eq_true hd)))
                  clear hd
                  refine wp_region_bl (by kernel_rfl) (by kernel_rfl) ?_
                  repeat (first | go_big_quiet_skip | (go_big_quiet_want; go_big_quiet_op; first | go_big_quiet_on | (refine ⟨_, fun _ _ => (by with_reducible rfl), ?_⟩; go_big_quiet_on) | (apply Exists.intro; refine ⟨fun w' hC => (by simp only [LD.out w' hC, Result.andThen]; exact ⟨trivial, rfl⟩), ?_⟩; go_big_quiet_on) | (apply Exists.intro; refine ⟨fun w' hC => (by (with_reducible refine (HH w' hC).out.mono ?_); exact fun e w2 ⟨he, hb⟩ => ⟨he, hC.trans (hb.mono hC.size)⟩), ?_⟩; go_big_quiet_on)))
                  refine wpQuiet_nil ?_; intro wz hbz
                  go_wp2_with fail
                  exact ⟨⟨m + 1, by omega, by go_num, HN.out, tri_step HBR.out (below_via HBZ.out hbz) (by rw [HS2.out]; exact Nat.le_refl _)⟩, by simp [intOf]; omega⟩
            · have e8 : (x.k == 8) = false := by simp [h8]
              have hlt2 : m < y.l.length := by have := HLL.out; omega
              have hf : y.l[m]? = some y.l[m] := List.getElem?_eq_getElem hlt2
              have hfm : y.l[m] ∈ y.l := List.getElem_mem hlt2
              generalize y.l[m] = f at hf hfm
              have hcorr : Corr x.v y.v m e.v ↔ cmpV 256 e.v f.v = 0 := by
                unfold Corr
                rw [AV.v_k]
                constructor
                · rintro ⟨j, z, hj, hz, h0⟩
                  rw [if_neg h8] at hj
                  subst hj
                  rw [AV.v_l, List.getElem?_map, hf] at hz
                  cases hz
                  exact h0
                · intro h0
                  exact ⟨m, f.v, by rw [if_neg h8], by rw [AV.v_l, List.getElem?_map, hf]; rfl, h0⟩
              have BB := fun W (h : Below wr.heap.size wr W) => h
              obtain ⟨bf, of, hlb, -, -, gf, f0', f1', f2', f3'⟩ := vals_at (HY.out.up K5.out).sl hf
              have hfw := AV.w_kid hfm
              have hfmay : f.v.may = true := (may_kid HM.out.2 (by rw [AV.v_l]; exact List.mem_map_of_mem hfm)).2
              have HH := fun W (h : Below wr.heap.size wr W) => Lib.hid (HI.out e hem f W (Rd.up (HX.out.kid hem) (below_via K5.out h)) (Rd.up (HY.out.kid hfm) (below_via K5.out h)) (by omega) (by omega) hemay hfmay)
              have LD := Lib.hid (show ∀ W, Below wr.heap.size wr W → _ from fun W (h : Below wr.heap.size wr W) => And.intro (vbox4 (blk_up h K1.out)) (And.intro (vbox4 (blk_up h K2.out)) (And.intro ((h.cell (p := ⟨_, _, none⟩) ge).trans e0') (And.intro ((h.cell (p := ⟨_, _, none⟩) ge).trans e1') (And.intro ((h.cell (p := ⟨_, _, none⟩) ge).trans e2') (And.intro ((h.cell (p := ⟨_, _, none⟩) ge).trans e3') (And.intro ((h.cell (p := ⟨_, _, none⟩) gf).trans f0') (And.intro ((h.cell (p := ⟨_, _, none⟩) gf).trans f1') (And.intro ((h.cell (p := ⟨_, _, none⟩) gf).trans f2') ((h.cell (p := ⟨_, _, none⟩) gf).trans f3'))))))))))
              have hlt2' : (m : Int) < (y.l.length : Int) := by omega
              have hm1 : decide ((m : Int) < 0) = false := by rw [decide_eq_false_iff_not]; omega
              rw [hla, hlb] at LD
              have HCR := Lib.hid hcorr
              clear he hem hf hfm hcorr hla hlb hnext e0' e1' e2' e3' f0' f1' f2' f3'
              cases hd : decide (cmpV 256 e.v f.v = 0) with
              | false =>
                rw [hd] at HH
                have HF := Lib.hid (HHCm.out (fun h => of_decide_eq_false hd (HCR.out.1 h)))
                clear hd
                go_wp2_with fail
                refine wp_region_bl (by kernel_rfl) (by kernel_rfl) ?_
                repeat (first | go_big_quiet_skip | (go_big_quiet_want; go_big_quiet_op; first | go_big_quiet_on | (refine ⟨_, fun _ _ => (by with_reducible rfl), ?_⟩; go_big_quiet_on) | (apply Exists.intro; refine ⟨fun w' hC => (by simp only [LD.out w' hC, Result.andThen]; exact ⟨trivial, rfl⟩), ?_⟩; go_big_quiet_on) | (apply Exists.intro; refine ⟨fun w' hC => (by (with_reducible refine (HH w' hC).out.mono ?_); exact fun e w2 ⟨he, hb⟩ => ⟨he, hC.trans (hb.mono hC.size)⟩), ?_⟩; go_big_quiet_on)))
                refine wpQuiet_nil ?_; intro wz hbz
                go_wp2_with fail
                go_ret
                exact ⟨by rw [HF.out]; rfl, below_via K5.out hbz⟩
              | true =>
                rw [hd] at HH
                have HN := Lib.hid (HNX.out (HCR.out.2 (of_decide_eq_true hd)))
                clear hd
                go_wp2_with fail
                refine wp_region_bl (by kernel_rfl) (by kernel_rfl) ?_
                repeat (first | go_big_quiet_skip | (go_big_quiet_want; go_big_quiet_op; first | go_big_quiet_on | (refine ⟨_, fun _ _ => (by with_reducible rfl), ?_⟩; go_big_quiet_on) | (apply Exists.intro; refine ⟨fun w' hC => (by simp only [LD.out w' hC, Result.andThen]; exact ⟨trivial, rfl⟩), ?_⟩; go_big_quiet_on) | (apply Exists.intro; refine ⟨fun w' hC => (by (with_reducible refine (HH w' hC).out.mono ?_); exact fun e w2 ⟨he, hb⟩ => ⟨he, hC.trans (hb.mono hC.size)⟩), ?_⟩; go_big_quiet_on)))
                refine wpQuiet_nil ?_; intro wz hbz
                go_wp2_with fail
                exact ⟨⟨m + 1, by omega, by go_num, HN.out, tri_step HBR.out hbz (by rw [HS2.out]; exact Nat.le_refl _)⟩, by simp [intOf]; omega⟩
          · obtain rfl : m = x.l.length := by omega
            have hge : ¬ (x.l.length : Int) < (x.l.length : Int) := by omega
            have HF := Lib.hid (HHT.out fun q e he => HALL.out q e (List.getElem?_eq_some_iff.1 he).1 he)
            go_wp2_with fail
            go_ret
            exact ⟨by rw [HF.out]; rfl, K5.out⟩
      · have HF := Lib.hid (show decide (cmpV 256 x.v y.v = 0) = false from decide_eq_false fun h => hl (hiff.1 h).1.2.2)
        have e2 : ((x.l.length : Int) != (y.l.length : Int)) = true := by simp; omega
        have e0 : (x.k != y.k) = false := by simp [hk]
        have e1 : (x.t.toList == y.t.toList) = true := by rw [str_beq]; exact decide_eq_true ht
        have e1' : decide (x.t = y.t) = true := decide_eq_true ht
        clear hiff hk ht hl
        go_enter Tryz.func91, Tryz.ntmps91
        go_wp2_with fail
        go_ret
        exact ⟨by rw [HF.out]; rfl, (by repeat (first | exact Below.refl _ _ | refine Below.drew ?_ | refine below_drewN ?_ _ | refine Below.setCell ?_ (by first | omega | (simp; done) | (simp; omega)) _ | refine Below.alloc ?_ (by first | omega | (simp; done) | (simp; omega)) _))⟩
    · have HF := Lib.hid (show decide (cmpV 256 x.v y.v = 0) = false from decide_eq_false fun h => ht (hiff.1 h).1.2.1)
      have e1 : (x.t.toList == y.t.toList) = false := by rw [str_beq]; exact decide_eq_false ht
      have e1' : decide (x.t = y.t) = false := decide_eq_false ht
      have e0 : (x.k != y.k) = false := by simp [hk]
      clear hiff hk ht
      go_enter Tryz.func91, Tryz.ntmps91
      go_wp2_with fail
      go_ret
      exact ⟨by rw [HF.out]; rfl, (by repeat (first | exact Below.refl _ _ | refine Below.drew ?_ | refine below_drewN ?_ _ | refine Below.setCell ?_ (by first | omega | (simp; done) | (simp; omega)) _ | refine Below.alloc ?_ (by first | omega | (simp; done) | (simp; omega)) _))⟩
  · have HF := Lib.hid (show decide (cmpV 256 x.v y.v = 0) = false from decide_eq_false fun h => hk (hiff.1 h).1.1)
    have e0 : (x.k != y.k) = true := by simp [hk]
    clear hiff hk
    go_enter Tryz.func91, Tryz.ntmps91
    go_wp2_with fail
    go_ret
    exact ⟨by rw [HF.out]; rfl, (by repeat (first | exact Below.refl _ _ | refine Below.drew ?_ | refine below_drewN ?_ _ | refine Below.setCell ?_ (by first | omega | (simp; done) | (simp; omega)) _ | refine Below.alloc ?_ (by first | omega | (simp; done) | (simp; omega)) _))⟩) x

set_option maxRecDepth 100000 in
set_option maxHeartbeats 3200000 in
theorem rsame_c (x y : AV) (w : World) (hx : Rd w x) (hy : Rd w y) (hwx : x.w ≤ 1048576) (hwy : y.w ≤ 1048576) : Calls Tryz.prog 34 #[x.val, y.val] w (Ret (.bool (sameV x.v y.v)) w) := by
  have HMX := fun W (h : Below w.heap.size w W) => Lib.hid (rmay_c x W (hx.up h) hwx)
  have HMY := fun W (h : Below w.heap.size w W) => Lib.hid (rmay_c y W (hy.up h) hwy)
  have hB0 := duo_0 (w := w) (o1 := .cells #[.int .u8 x.k, .string x.t, .slice x.la x.l.length x.lc, .slice x.ka x.ks.length x.kc] 48) (o2 := .cells #[.int .u8 y.k, .string y.t, .slice y.la y.l.length y.lc, .slice y.ka y.ks.length y.kc] 48)
  have hb0 := duo_b (w := w) (o1 := .cells #[.int .u8 x.k, .string x.t, .slice x.la x.l.length x.lc, .slice x.ka x.ks.length x.kc] 48) (o2 := .cells #[.int .u8 y.k, .string y.t, .slice y.la y.l.length y.lc, .slice y.ka y.ks.length y.kc] 48)
  cases mx : x.v.may with
  | false =>
    have HF := Lib.hid (show sameV x.v y.v = false by simp [sameV, mx])
    rw [mx] at HMX
    clear mx
    go_enter Tryz.func34, Tryz.ntmps34
    go_wp2_with (go_at_call 32; refine (HMX _ (by assumption)).out.mono ?_; rintro e w1 ⟨rfl, hb1⟩)
    go_ret
    exact ⟨by rw [HF.out]; rfl, below_via hb0 hb1⟩
  | true =>
    cases my : y.v.may with
    | false =>
      have HF := Lib.hid (show sameV x.v y.v = false by simp [sameV, my])
      rw [mx] at HMX
      rw [my] at HMY
      clear mx my
      go_enter Tryz.func34, Tryz.ntmps34
      go_wp2_with (go_at_call 32; first
        | ((with_reducible refine (HMX _ (by assumption)).out.mono ?_); rintro e w1 ⟨rfl, hb1⟩
           have hB1 := tri_step (N := w.heap.size + 1 + 1) hB0 hb1 (by simp)
           obtain ⟨k1, k2, k3, k4⟩ := duo_at hB1
           obtain ⟨q0, q1, q2, q3, -, -, -, -⟩ := vbox4 k1
           obtain ⟨p0, p1, p2, p3, -, -, -, -⟩ := vbox4 k2)
        | ((with_reducible refine (HMY _ (by assumption)).out.mono ?_); rintro e w2 ⟨rfl, hb2⟩))
      go_ret
      exact ⟨by rw [HF.out]; rfl, below_via k4 hb2⟩
    | true =>
      have HF := Lib.hid (show sameV x.v y.v = decide (cmpV 256 x.v y.v = 0) by simp [sameV, mx, my])
      have HS := fun W (h : Below w.heap.size w W) => Lib.hid (rsame1_c x y W (hx.up h) (hy.up h) hwx hwy mx my)
      rw [mx] at HMX
      rw [my] at HMY
      clear mx my
      go_enter Tryz.func34, Tryz.ntmps34
      go_wp2_with (first
       | (go_at_call 32; first
          | ((with_reducible refine (HMX _ (by assumption)).out.mono ?_); rintro e w1 ⟨rfl, hb1⟩
             have hB1 := tri_step (N := w.heap.size + 1 + 1) hB0 hb1 (by simp)
             obtain ⟨k1, k2, k3, k4⟩ := duo_at hB1
             obtain ⟨q0, q1, q2, q3, -, -, -, -⟩ := vbox4 k1
             obtain ⟨p0, p1, p2, p3, -, -, -, -⟩ := vbox4 k2)
          | ((with_reducible refine (HMY _ (by assumption)).out.mono ?_); rintro e w2 ⟨rfl, hb2⟩
             have hB2 := tri_step (N := w.heap.size + 1 + 1) hB1 hb2 (by simp)
             clear k1 k2 k3 q0 q1 q2 q3 p0 p1 p2 p3
             obtain ⟨k1, k2, k3, k5⟩ := duo_at hB2
             obtain ⟨q0, q1, q2, q3, -, -, -, -⟩ := vbox4 k1
             obtain ⟨p0, p1, p2, p3, -, -, -, -⟩ := vbox4 k2))
       | (go_at_call 91; refine (HS _ k5).out.mono ?_; rintro e w3 ⟨rfl, hb3⟩))
      go_ret
      exact ⟨by rw [HF.out]; rfl, below_via k5 hb3⟩

theorem take_sum1 {α : Type} (f : α → Nat) {l : List α} {k : Nat} {x : α} (hk : l[k]? = some x) : ((l.take (k + 1)).map f).sum = ((l.take k).map f).sum + f x := by
  rw [List.take_add_one, hk]; simp
set_option maxRecDepth 100000 in
set_option maxHeartbeats 3200000 in
theorem rsize_c : ∀ (x : AV) (w : World), Rd w x → x.w ≤ 1048576 → Calls Tryz.prog 38 #[x.val] w (Ret (.int .i64 (x.v.sz : Int)) w) := AV.ind fun x ih w hx hw => by
  have hll := x.w_l
  have HM := fun W (h : Below w.heap.size w W) => Lib.hid (rmay_c x W (hx.up h) hw)
  have hB0 : Below (w.heap.size + 1) (w.alloc (.cells #[.int .u8 x.k, .string x.t, .slice x.la x.l.length x.lc, .slice x.ka x.ks.length x.kc] 48)) (w.alloc (.cells #[.int .u8 x.k, .string x.t, .slice x.la x.l.length x.lc, .slice x.ka x.ks.length x.kc] 48)) := Below.refl _ _
  have hb0 : Below w.heap.size w (w.alloc (.cells #[.int .u8 x.k, .string x.t, .slice x.la x.l.length x.lc, .slice x.ka x.ks.length x.kc] 48)) := (Below.refl _ _).alloc (Nat.le_refl _) _
  cases mx : x.v.may with
  | false =>
    have HF := Lib.hid (show x.v.sz = 0 by unfold Val.sz; rw [mx]; rfl)
    rw [mx] at HM
    clear mx ih
    go_enter Tryz.func38, Tryz.ntmps38
    go_wp2_with (go_at_call 32; refine (HM _ (by assumption)).out.mono ?_; rintro e w1 ⟨rfl, hb1⟩)
    go_ret
    exact ⟨by rw [HF.out]; rfl, below_via hb0 hb1⟩
  | true =>
    have HF := Lib.hid (show x.v.sz = x.v.size by unfold Val.sz; rw [mx]; rfl)
    have hkm : ∀ y ∈ x.l, y.v.may = true := fun y hy => (may_kid mx (by rw [AV.v_l]; exact List.mem_map_of_mem hy)).2
    have hsz := x.v.size_le
    have hxw : x.v.w ≤ 1048576 := hw
    have hse := Val.size_eq x.v
    rw [AV.v_l] at hse
    have HKM := Lib.hid hkm
    have HI := Lib.hid ih
    have HX := Lib.hid hx
    have HSE := Lib.hid hse
    rw [mx] at HM
    clear mx ih hkm hx hse
    go_enter Tryz.func38, Tryz.ntmps38
    go_wp2_with (go_at_call 32; refine (HM _ (by assumption)).out.mono ?_; rintro e w1 ⟨rfl, hb1⟩)
    have hB1 := tri_step (N := w.heap.size + 1) hB0 hb1 (by simp)
    have HB1 := Lib.hid hB1
    clear hB1 hB0 hb0 hb1 HM
    go_loopw [3, 4] (fun s3 s4 wr => ∃ (m n : Nat), m ≤ x.l.length ∧ n = 1 + (((x.l.map AV.v).take m).map Val.size).sum ∧ s3 = .int .i64 n ∧ s4 = .int .i64 m ∧ Below (w.heap.size + 1) (w.alloc (.cells #[.int .u8 x.k, .string x.t, .slice x.la x.l.length x.lc, .slice x.ka x.ks.length x.kc] 48)) wr) (fun _ s4 _ => x.l.length - (intOf s4).toNat)
    case atStart => exact ⟨0, 1, Nat.zero_le _, rfl, rfl, rfl, HB1.out⟩
    case round =>
      obtain ⟨m, n, hm, hn, rfl, rfl, hbr⟩ := hrel
      have hsr := hbr.size
      rw [World.size_alloc] at hsr
      obtain ⟨q0, q1, q2, q3⟩ := bx hbr
      have hl0 : w.heap.size < wr.heap.size := by omega
      have HBR := Lib.hid hbr
      have HN := Lib.hid hn
      have HBW := Lib.hid (bx_w hbr)
      clear hbr hn
      by_cases hlt : m < x.l.length
      · have he : x.l[m]? = some x.l[m] := List.getElem?_eq_getElem hlt
        have hem : x.l[m] ∈ x.l := List.getElem_mem hlt
        generalize x.l[m] = e at he hem
        obtain ⟨be, oe, hla, -, -, ge, e0, e1, e2, e3⟩ := vals_at (HX.out.up HBW.out).sl he
        have hew := AV.w_kid hem
        have hev : (x.l.map AV.v)[m]? = some e.v := by rw [List.getElem?_map, he]; rfl
        have hp := sum_part1 Val.size hev
        have hnn : n + e.v.size ≤ x.v.size := by rw [HN.out, HSE.out]; omega
        have hes : e.v.sz = e.v.size := by unfold Val.sz; rw [HKM.out e hem]; rfl
        have HC := HI.out e hem
        rw [hes] at HC
        have HCC := fun W (h : Below w.heap.size w W) => Lib.hid (HC W (Rd.up (HX.out.kid hem) h) (by omega))
        have hNX : n + e.v.size = 1 + (((x.l.map AV.v).take (m + 1)).map Val.size).sum := by rw [take_sum1 Val.size hev, HN.out]; omega
        have HNX := Lib.hid hNX
        have hlt' : (m : Int) < (x.l.length : Int) := by omega
        have hm0 : (0 : Int) ≤ (m : Int) := by omega
        have hwm : IntKind.i64.wrap ((m : Int) + 1) = ((m + 1 : Nat) : Int) := by rw [IntWalk.i64_in _ (by omega)]; omega
        generalize e.v.size = es at *
        have hwn : IntKind.i64.wrap ((n : Int) + (es : Int)) = ((n + es : Nat) : Int) := by rw [IntWalk.i64_in _ (by omega)]; omega
        rw [hla] at q2
        clear he hem hev hp hes hla hNX HC
        go_wp2_with (go_at_call 38; refine (HCC _ HBW.out).out.mono ?_; rintro e2' w2 ⟨rfl, hb2⟩)
        exact ⟨⟨m + 1, n + es, by omega, HNX.out, by go_num, by go_num, tri_step HBR.out hb2 (by simp)⟩, by simp [intOf]; omega⟩
      · obtain rfl : m = x.l.length := by omega
        have hge : ¬ (x.l.length : Int) < (x.l.length : Int) := by omega
        have hnF : n = x.v.size := by rw [HN.out, List.take_of_length_le (by rw [List.length_map]; exact Nat.le_refl _), HSE.out]
        have HNF := Lib.hid hnF
        clear hnF
        go_wp2_with fail
        go_ret
        exact ⟨by rw [HF.out, ← HNF.out]; rfl, HBW.out⟩
end Go.Proofs.YtcpdogjcofkpcaaGreatDoor

namespace Go.Proofs.YtcpdogjcofkpcaaGreatDoor
open Go.RowKit Go.Sort

set_option maxRecDepth 100000 in
set_option maxHeartbeats 3200000 in
theorem rhas_c (x : AV) (s : ByteArray) (w : World) (hx : Rd w x) (hlk : x.ks.length ≤ 1048576) : Calls Tryz.prog 83 #[x.val, .string s] w (Ret (.bool (decide (s ∈ x.ks))) w) := by
  have HX := Lib.hid hx
  clear hx
  have hb0 : Below w.heap.size w (w.alloc (.cells #[.int .u8 x.k, .string x.t, .slice x.la x.l.length x.lc, .slice x.ka x.ks.length x.kc] 48)) := (Below.refl _ _).alloc (Nat.le_refl _) _
  have HB0 := Lib.hid hb0
  have HBX := Lib.hid (heap_alloc_new w (.cells #[.int .u8 x.k, .string x.t, .slice x.la x.l.length x.lc, .slice x.ka x.ks.length x.kc] 48))
  clear hb0
  go_enter Tryz.func83, Tryz.ntmps83
  go_wp2_with fail
  go_loopw [5] (fun i wr => ∃ m : Nat, m ≤ x.ks.length ∧ i = .int .i64 m ∧ s ∉ x.ks.take m ∧ Below (w.heap.size + 1) (w.alloc (.cells #[.int .u8 x.k, .string x.t, .slice x.la x.l.length x.lc, .slice x.ka x.ks.length x.kc] 48)) wr) (fun i _ => x.ks.length - (intOf i).toNat)
  case atStart => exact ⟨0, Nat.zero_le _, by go_num, by simp, Below.refl _ _⟩
  case round =>
    obtain ⟨m, hm, rfl, hn, hbr⟩ := hrel
    have hbw : Below w.heap.size w wr := HB0.out.trans (hbr.mono (by omega))
    have hsr := hbr.size
    rw [World.size_alloc] at hsr
    have hbx := (hbr.block w.heap.size (by omega)).trans HBX.out
    obtain ⟨q0, q1, q2, q3, -, -, -, -⟩ := vbox4 hbx
    have hl0 : w.heap.size < wr.heap.size := by omega
    have HBR := Lib.hid hbr
    have HBW := Lib.hid hbw
    have HN := Lib.hid hn
    by_cases hlt : m < x.ks.length
    · have hk : x.ks[m]? = some x.ks[m] := List.getElem?_eq_getElem hlt
      generalize x.ks[m] = k at hk
      obtain ⟨b2, o2, h2, -, -, g2, c2⟩ := key_at HX.out.keys hk
      rw [← hbw.cell (p := ⟨_, _, none⟩) g2] at c2
      have hlt' : (m : Int) < (x.ks.length : Int) := by omega
      have hm0 : (0 : Int) ≤ (m : Int) := by omega
      have g2' : b2 < wr.heap.size := by omega
      have hwm : IntKind.i64.wrap ((m : Int) + 1) = ((m + 1 : Nat) : Int) := by rw [IntWalk.i64_in _ (by omega)]; omega
      rw [h2] at q3
      by_cases he : k = s
      · subst he
        have hi := Lib.hid (show decide (k ∈ x.ks) = true from decide_eq_true (List.mem_of_getElem? hk))
        have hbd : (k.toList == k.toList) = true := by simp
        clear h2 hbr hbw hn hbx hk
        go_wp2_with fail
        go_ret
        exact ⟨by rw [hi.out]; rfl, HBW.out⟩
      · have hbe : ¬ k.toList = s.toList := fun e => he (bl_eq e)
        have hbd : (k.toList == s.toList) = false := beq_false_of_ne hbe
        have hn' := Lib.hid (not_take_snoc hk hn he)
        clear h2 hbr hbw hn hbx hk
        go_wp2_with fail
        exact ⟨⟨m + 1, by omega, by go_num, hn'.out, HBR.out⟩, by simp [intOf]; omega⟩
    · obtain rfl : m = x.ks.length := by omega
      have hge : ¬ (x.ks.length : Int) < (x.ks.length : Int) := by omega
      have hi := Lib.hid (show decide (s ∈ x.ks) = false from decide_eq_false (by rw [List.take_length] at hn; exact hn))
      clear hbr hbw hn hbx
      go_wp2_with fail
      go_ret
      exact ⟨by rw [hi.out]; rfl, HBW.out⟩
theorem rismap_c (w : World) (x : AV) (hx : Rd w x) (hw : x.w ≤ 1048576) : Calls Tryz.prog 81 #[x.val] w (Ret (.bool x.v.isMap) w) := by
  have hb0 := fun o => (Below.refl w.heap.size w).alloc (Nat.le_refl _) o
  have HM := fun W h => Lib.hid (rmay_c x W h hw)
  have hv : x.v.isMap = (decide (x.k = 8) && x.v.may) := by rw [Val.isMap, AV.v_k]
  have HV := Lib.hid hv
  clear hv
  by_cases h8 : x.k = 8
  · have e8 : (x.k == 8) = true := by simp [h8]
    have HE := Lib.hid (show (decide (x.k = 8) && x.v.may) = x.v.may by simp [h8])
    clear h8
    go_enter Tryz.func81, Tryz.ntmps81
    go_wp2_with (go_at_call 32; refine (HM _ (hx.up (by first | exact hb0 _ | exact (hb0 _).drew))).out.mono ?_; rintro e w2 ⟨rfl, hb⟩)
    go_ret
    exact ⟨by rw [HV.out, HE.out]; rfl, by first | exact below_via (hb0 _) hb | exact below_via (hb0 _).drew hb⟩
  · have e8 : (x.k == 8) = false := by simp [h8]
    have HE := Lib.hid (show (decide (x.k = 8) && x.v.may) = false by simp [h8])
    clear h8
    go_enter Tryz.func81, Tryz.ntmps81
    go_wp2_with fail
    go_ret
    exact ⟨by rw [HV.out, HE.out]; rfl, hb0 _⟩

/-- The renames, as the reference has them in memory. -/
def OwnRr (w : World) (base : Nat) (v : Value) (l : List (ByteArray × ByteArray)) : Prop := w.ownsRow base 124 2 v l.length (l.flatMap renE)
theorem info_rren : (Tryz.prog.info? 124).map (fun i => (i.zero, i.size, i.bytes)) = some (some (.agg #[.string ⟨#[]⟩, .string ⟨#[]⟩]), 2, 32) := by kernel_rfl
theorem app_rren {w : World} {base : Nat} {v : Value} {l : List (ByteArray × ByteArray)} (hown : OwnRr w base v l) {lo hi : Nat} {A : Option Addr} {m : List (ByteArray × ByteArray)} {c : Nat} (hr : SlE renE 2 w lo hi A m) (hn : l.length + m.length ≤ 16777216) (hbase : base ≤ w.heap.size) :
    ∃ v' w', (∀ ty, (Builtin.append_ #[55, 55] ty #[v, .slice A m.length c]).run Tryz.prog w = .ok v' w') ∧ OwnRr w' base v' (l ++ m) ∧ w.grownBy w' v.ownBlock ∧ (v'.ownBlock = v.ownBlock ∨ v'.ownBlock = some w.heap.size) := by
  obtain ⟨i0, hi0, hz0, hz1, hz2⟩ := info_parts info_rren
  obtain ⟨v', w', h1, h2, h3, h4⟩ := run_append_sl (P := Tryz.prog) w renE base 55 0 124 i0 _ 2 32 Tryz.underlying55 hi0 hz0 hz1 hz2 rfl (by omega) (by omega) v l.length _ hown lo hi A m c hr (fun _ => rfl) (fun x u hu => by simp [renE] at hu; rcases hu with rfl | rfl <;> rfl) hn hbase
  exact ⟨v', w', fun ty => h1, by simp only [OwnRr, List.length_append, List.flatMap_append]; exact h2, h3, h4⟩
theorem own_formRr {w : World} {base : Nat} {v : Value} {l : List (ByteArray × ByteArray)} (h : OwnRr w base v l) : ∃ a c, v = .slice a l.length c := by
  rcases h.2 with ⟨e, h0⟩ | ⟨g, cap, cur, e, _⟩
  · exact ⟨none, 0, by rw [e, h0]⟩
  · exact ⟨_, _, e⟩

set_option maxRecDepth 100000 in
set_option maxHeartbeats 3200000 in
theorem ronly_c (w : World) (x y z : AV) (hx : Rd w x) (hy : Rd w y) (hz : Rd w z) (hwx : x.w ≤ 1048576) (hwy : y.w ≤ 1048576) (hwz : z.w ≤ 1048576) (hl : x.ks.length = x.l.length) :
    Calls Tryz.prog 84 #[x.val, y.val, z.val] w (Ret (.tuple #[.string (onlyV x.v y.v z.v).1, .bool (decide ((onlyV x.v y.v z.v).2 = 1))]) w) := by
  have hlk := x.w_ks
  have hlk2 := y.w_ks
  have HX := Lib.hid hx
  have HL := Lib.hid hl
  have HHAS := fun (s : ByteArray) W (h : Below w.heap.size w W) => Lib.hid (rhas_c y s W (hy.up h) (by omega))
  have HSM := fun (e : AV) (he : e ∈ x.l) W (h : Below w.heap.size w W) => Lib.hid (rsame_c e z W (Rd.up (hx.kid he) h) (hz.up h) (by have := AV.w_kid he; omega) hwz)
  have hB0 := tri_0 (w := w) (o1 := .cells #[.int .u8 x.k, .string x.t, .slice x.la x.l.length x.lc, .slice x.ka x.ks.length x.kc] 48) (o2 := .cells #[.int .u8 y.k, .string y.t, .slice y.la y.l.length y.lc, .slice y.ka y.ks.length y.kc] 48) (o3 := .cells #[.int .u8 z.k, .string z.t, .slice z.la z.l.length z.lc, .slice z.ka z.ks.length z.kc] 48)
  obtain ⟨W2, hW2⟩ : ∃ W2, ((w.alloc (.cells #[.int .u8 x.k, .string x.t, .slice x.la x.l.length x.lc, .slice x.ka x.ks.length x.kc] 48)).alloc (.cells #[.int .u8 y.k, .string y.t, .slice y.la y.l.length y.lc, .slice y.ka y.ks.length y.kc] 48)).alloc (.cells #[.int .u8 z.k, .string z.t, .slice z.la z.l.length z.lc, .slice z.ka z.ks.length z.kc] 48) = W2 := ⟨_, rfl⟩
  have HT := Lib.hid (show ∀ W, Below (w.heap.size + 1 + 1 + 1) W2 W → _ from fun W (h : Below (w.heap.size + 1 + 1 + 1) W2 W) => tri_at (w := w) (W := W) (o1 := .cells #[.int .u8 x.k, .string x.t, .slice x.la x.l.length x.lc, .slice x.ka x.ks.length x.kc] 48) (o2 := .cells #[.int .u8 y.k, .string y.t, .slice y.la y.l.length y.lc, .slice y.ka y.ks.length y.kc] 48) (o3 := .cells #[.int .u8 z.k, .string z.t, .slice z.la z.l.length z.lc, .slice z.ka z.ks.length z.kc] 48) (by rw [hW2]; exact h))
  rw [hW2] at hB0
  have HB0 := Lib.hid hB0
  have hs2 : W2.heap.size = w.heap.size + 1 + 1 + 1 := by rw [← hW2]; simp
  have HS2 := Lib.hid hs2
  have HW2 := Lib.hid hW2
  clear hx hy hz hl hB0 hW2 hs2
  go_enter Tryz.func84, Tryz.ntmps84
  go_wp2_with fail
  rw [HW2.out]
  go_loopw [8, 9, 10] (fun s8 s9 s10 wr => ∃ (m : Nat) (R : List (ByteArray × ByteArray)), m ≤ x.ks.length ∧ R = onlyL y.v z.v ((x.v.ks.zip x.v.l).take m) ∧ s8 = .int .i64 R.length ∧ s9 = .string (lastKey R) ∧ s10 = .int .i64 m ∧ Below (w.heap.size + 1 + 1 + 1) W2 wr) (fun _ _ s10 _ => x.ks.length - (intOf s10).toNat)
  case atStart => exact ⟨0, [], Nat.zero_le _, rfl, rfl, rfl, rfl, HB0.out⟩
  case round =>
    obtain ⟨m, R, hm, hR, rfl, rfl, rfl, hbr⟩ := hrel
    obtain ⟨k1, k2, k3, k4, k5⟩ := HT.out wr hbr
    have hRl := onlyL_len y.v z.v ((x.v.ks.zip x.v.l).take m)
    rw [← hR, List.length_take] at hRl
    obtain ⟨q0, q1, q2, q3, -, -, -, -⟩ := vbox4 k1
    have HBR := Lib.hid hbr
    have HRR := Lib.hid hR
    have K1 := Lib.hid k1
    have K2 := Lib.hid k2
    have K3 := Lib.hid k3
    have K5 := Lib.hid k5
    clear hbr hR k1 k2 k3 k5
    by_cases hlt : m < x.ks.length
    · have hk : x.ks[m]? = some x.ks[m] := List.getElem?_eq_getElem hlt
      have hltl : m < x.l.length := by have := HL.out; omega
      have hkl : x.l[m]? = some x.l[m] := List.getElem?_eq_getElem hltl
      have hmem : x.l[m] ∈ x.l := List.getElem_mem hltl
      generalize x.ks[m] = k at hk
      generalize x.l[m] = e at hkl hmem
      have hz' : (x.v.ks.zip x.v.l)[m]? = some (k, e.v) := List.getElem?_zip_eq_some.2 ⟨by rw [AV.v_ks]; exact hk, by rw [AV.v_l, List.getElem?_map, hkl]; rfl⟩
      have hsn : onlyL y.v z.v ((x.v.ks.zip x.v.l).take (m + 1)) = if (decide (k ∉ y.v.ks) && sameV e.v z.v) = true then R ++ [(k, e.v.key)] else R := by
        rw [List.take_add_one, hz', HRR.out]
        exact onlyL_snoc y.v z.v ((x.v.ks.zip x.v.l).take m) (k, e.v)
      rw [AV.v_ks y] at hsn
      obtain ⟨bk, ok, hka, -, -, gk, ck⟩ := key_at (HX.out.up K5.out).keys hk
      obtain ⟨be, oe, hla, -, -, ge, e0, e1, e2, e3⟩ := vals_at (HX.out.up K5.out).sl hkl
      have HH := fun W (h : Below wr.heap.size wr W) => HHAS k W (below_via K5.out h)
      have HS := fun W (h : Below wr.heap.size wr W) => HSM e hmem W (below_via K5.out h)
      have hlt' : (m : Int) < (x.ks.length : Int) := by omega
      have hltl' : (m : Int) < (x.l.length : Int) := by omega
      have hm0 : (0 : Int) ≤ (m : Int) := by omega
      rw [hla] at q2
      rw [hka] at q3
      have LD := Lib.hid (show ∀ W, Below wr.heap.size wr W → _ from fun W (h : Below wr.heap.size wr W) => And.intro (vbox4 (blk_up h K1.out)) (And.intro (vbox4 (blk_up h K2.out)) (And.intro (vbox4 (blk_up h K3.out)) (And.intro ((h.cell (p := ⟨_, _, none⟩) gk).trans ck) (And.intro ((h.cell (p := ⟨_, _, none⟩) ge).trans e0) (And.intro ((h.cell (p := ⟨_, _, none⟩) ge).trans e1) (And.intro ((h.cell (p := ⟨_, _, none⟩) ge).trans e2) ((h.cell (p := ⟨_, _, none⟩) ge).trans e3))))))))
      rw [hla, hka] at LD
      have HSN := Lib.hid hsn
      clear hsn hk hkl hmem hz' hla hka HHAS HSM ck e0 e1 e2 e3
      by_cases hin : k ∈ y.ks
      · have HS1 := Lib.hid (show onlyL y.v z.v ((x.v.ks.zip x.v.l).take (m + 1)) = R by rw [HSN.out]; simp [hin])
        rw [decide_eq_true hin] at HH
        clear hin
        go_wp2_with fail
        refine wp_region_bl (by kernel_rfl) (by kernel_rfl) ?_
        repeat (first | go_big_quiet_skip | (go_big_quiet_want; go_big_quiet_op; first | go_big_quiet_on | (refine ⟨_, fun _ _ => (by with_reducible rfl), ?_⟩; go_big_quiet_on) | (apply Exists.intro; refine ⟨fun w' hC => (by simp only [LD.out w' hC, Result.andThen]; exact ⟨trivial, rfl⟩), ?_⟩; go_big_quiet_on) | (apply Exists.intro; refine ⟨fun w' hC => (by (with_reducible refine (HH w' hC).out.mono ?_); exact fun e w2 ⟨he, hb⟩ => ⟨he, hC.trans (hb.mono hC.size)⟩), ?_⟩; go_big_quiet_on) | (apply Exists.intro; refine ⟨fun w' hC => (by (with_reducible refine (HS w' hC).out.mono ?_); exact fun e w2 ⟨he, hb⟩ => ⟨he, hC.trans (hb.mono hC.size)⟩), ?_⟩; go_big_quiet_on)))
        refine wpQuiet_nil ?_; intro wz hbz
        go_wp2_with fail
        exact ⟨⟨m + 1, R, by omega, HS1.out.symm, rfl, rfl, by go_num, tri_step HBR.out hbz (by rw [HS2.out]; exact Nat.le_refl _)⟩, by simp [intOf]; omega⟩
      · rw [decide_eq_false hin] at HH
        cases hsm : sameV e.v z.v with
        | false =>
          have HS1 := Lib.hid (show onlyL y.v z.v ((x.v.ks.zip x.v.l).take (m + 1)) = R by rw [HSN.out, hsm]; simp)
          rw [hsm] at HS
          clear hin hsm
          go_wp2_with fail
          refine wp_region_bl (by kernel_rfl) (by kernel_rfl) ?_
          repeat (first | go_big_quiet_skip | (go_big_quiet_want; go_big_quiet_op; first | go_big_quiet_on | (refine ⟨_, fun _ _ => (by with_reducible rfl), ?_⟩; go_big_quiet_on) | (apply Exists.intro; refine ⟨fun w' hC => (by simp only [LD.out w' hC, Result.andThen]; exact ⟨trivial, rfl⟩), ?_⟩; go_big_quiet_on) | (apply Exists.intro; refine ⟨fun w' hC => (by (with_reducible refine (HH w' hC).out.mono ?_); exact fun e w2 ⟨he, hb⟩ => ⟨he, hC.trans (hb.mono hC.size)⟩), ?_⟩; go_big_quiet_on) | (apply Exists.intro; refine ⟨fun w' hC => (by (with_reducible refine (HS w' hC).out.mono ?_); exact fun e w2 ⟨he, hb⟩ => ⟨he, hC.trans (hb.mono hC.size)⟩), ?_⟩; go_big_quiet_on)))
          refine wpQuiet_nil ?_; intro wz hbz
          go_wp2_with fail
          exact ⟨⟨m + 1, R, by omega, HS1.out.symm, rfl, rfl, by go_num, tri_step HBR.out hbz (by rw [HS2.out]; exact Nat.le_refl _)⟩, by simp [intOf]; omega⟩
        | true =>
          have HS1 := Lib.hid (show onlyL y.v z.v ((x.v.ks.zip x.v.l).take (m + 1)) = R ++ [(k, e.v.key)] by rw [HSN.out, hsm]; simp [hin])
          rw [hsm] at HS
          have hll : IntKind.i64.wrap ((R.length : Int) + 1) = ((R.length + 1 : Nat) : Int) := by rw [IntWalk.i64_in _ (by omega)]; omega
          clear hin hsm
          go_wp2_with fail
          refine wp_region_bl (by kernel_rfl) (by kernel_rfl) ?_
          repeat (first | go_big_quiet_skip | (go_big_quiet_want; go_big_quiet_op; first | go_big_quiet_on | (refine ⟨_, fun _ _ => (by with_reducible rfl), ?_⟩; go_big_quiet_on) | (apply Exists.intro; refine ⟨fun w' hC => (by simp only [LD.out w' hC, Result.andThen]; exact ⟨trivial, rfl⟩), ?_⟩; go_big_quiet_on) | (apply Exists.intro; refine ⟨fun w' hC => (by (with_reducible refine (HH w' hC).out.mono ?_); exact fun e w2 ⟨he, hb⟩ => ⟨he, hC.trans (hb.mono hC.size)⟩), ?_⟩; go_big_quiet_on) | (apply Exists.intro; refine ⟨fun w' hC => (by (with_reducible refine (HS w' hC).out.mono ?_); exact fun e w2 ⟨he, hb⟩ => ⟨he, hC.trans (hb.mono hC.size)⟩), ?_⟩; go_big_quiet_on)))
          refine wpQuiet_nil ?_; intro wz hbz
          obtain ⟨⟨q0, q1, q2, q3, -, -, -, -⟩, -, -, ck, -, -, -, -⟩ := LD.out wz hbz
          have i1 : w.heap.size < wz.heap.size := by have := hbz.size; omega
          have i2 : bk < wz.heap.size := by have := hbz.size; omega
          go_wp2_with fail
          exact ⟨⟨m + 1, R ++ [(k, e.v.key)], by omega, HS1.out.symm, by rw [List.length_append]; go_num, by rw [lastKey_snoc], by go_num, tri_step HBR.out hbz (by rw [HS2.out]; exact Nat.le_refl _)⟩, by simp [intOf]; omega⟩
    · obtain rfl : m = x.ks.length := by omega
      have hge : ¬ (x.ks.length : Int) < (x.ks.length : Int) := by omega
      have hz' : (x.v.ks.zip x.v.l).take x.ks.length = x.v.ks.zip x.v.l := List.take_of_length_le (by rw [List.length_zip, AV.v_ks]; omega)
      have hF : onlyV x.v y.v z.v = (lastKey R, R.length) := by unfold onlyV; rw [HRR.out, hz']
      have HF := Lib.hid hF
      have hd : ((R.length : Int) == 1) = decide (R.length = 1) := by rw [Bool.eq_iff_iff]; simp; omega
      clear hz' hF
      go_wp2_with fail
      refine bodyPost_ret (v := .tuple #[.string (lastKey R), .bool (decide (R.length = 1))]) (by simp [results, Tryz.results84, go_sem]) rfl ⟨by rw [HF.out], K5.out⟩
end Go.Proofs.YtcpdogjcofkpcaaGreatDoor
