/-
  Values whose keys are turned, values of which one node is another one. Plain; condition: the values may be.
-/
import Derived.Test.YtcpdogjcofkpcaaDoorO1
namespace Go.Proofs.YtcpdogjcofkpcaaDoor
open Go.RowKit Go.Sort

/-- Where a turned map's entries come from. -/
def turnAt (by_ n i : Nat) : Nat := if by_ % 2 = 0 then n - 1 - i else (i + by_ / 2) % n
def turnIdx (by_ n : Nat) : List Nat := (List.range n).map (turnAt by_ n)
def turnL {α : Type} (by_ : Nat) (l : List α) : List α := (turnIdx by_ l.length).filterMap (l[·]?)
def Val.turned (by_ : Nat) (x : Val) : Val :=
  if x.k = 8 then ⟨x.k, x.t, turnL by_ (x.l.map (Val.turned by_)), turnL by_ x.ks⟩ else ⟨x.k, x.t, x.l.map (Val.turned by_), x.ks⟩
termination_by SizeOf.sizeOf x
decreasing_by all_goals (rename_i y h; exact Val.lt h)
theorem Val.turned_eq (by_ : Nat) (x : Val) : x.turned by_ = if x.k = 8 then ⟨x.k, x.t, turnL by_ (x.l.map (Val.turned by_)), turnL by_ x.ks⟩ else ⟨x.k, x.t, x.l.map (Val.turned by_), x.ks⟩ := by rw [Val.turned]
theorem turnAt_lt {by_ n i : Nat} (h : i < n) : turnAt by_ n i < n := by
  unfold turnAt; split
  · omega
  · exact Nat.mod_lt _ (by omega)
theorem mod_inj {n i j k : Nat} (hi : i < n) (hj : j < n) (h : (i + k) % n = (j + k) % n) : i = j := by
  have hm : k % n < n := Nat.mod_lt _ (by omega)
  rw [Nat.add_mod, Nat.add_mod j, Nat.mod_eq_of_lt hi, Nat.mod_eq_of_lt hj] at h
  generalize k % n = r at *
  by_cases h1 : i + r < n <;> by_cases h2 : j + r < n
  · rw [Nat.mod_eq_of_lt h1, Nat.mod_eq_of_lt h2] at h; omega
  · rw [Nat.mod_eq_of_lt h1, Nat.mod_eq_sub_mod (by omega), Nat.mod_eq_of_lt (by omega)] at h; omega
  · rw [Nat.mod_eq_of_lt h2, Nat.mod_eq_sub_mod (by omega), Nat.mod_eq_of_lt (by omega)] at h; omega
  · rw [Nat.mod_eq_sub_mod (by omega), Nat.mod_eq_of_lt (by omega), Nat.mod_eq_sub_mod (a := j + r) (by omega), Nat.mod_eq_of_lt (by omega)] at h; omega
theorem turnIdx_perm (by_ n : Nat) : (turnIdx by_ n).Perm (List.range n) := by
  have hn : (turnIdx by_ n).Nodup := by
    unfold turnIdx
    refine List.Pairwise.map _ (fun a b hab => hab) ?_
    have := List.nodup_range (n := n)
    refine List.Pairwise.imp_of_mem (fun {a b} ha hb hab e => hab ?_) this
    have ha := List.mem_range.1 ha; have hb := List.mem_range.1 hb
    unfold turnAt at e
    split at e
    · omega
    · exact mod_inj ha hb e
  have hs : ∀ i ∈ turnIdx by_ n, i ∈ List.range n := fun i hi => by
    obtain ⟨j, hj, rfl⟩ := List.mem_map.1 hi
    exact List.mem_range.2 (turnAt_lt (List.mem_range.1 hj))
  refine (List.perm_ext_iff_of_nodup hn List.nodup_range).2 fun j => ⟨hs j, fun hj => Classical.byContradiction fun hno => ?_⟩
  have := (List.nodup_cons.2 ⟨hno, hn⟩).length_le_of_subset (l₂ := List.range n) fun i hi => by
    rcases List.mem_cons.1 hi with rfl | hi
    · exact hj
    · exact hs i hi
  simp [turnIdx] at this
  omega
theorem range_get {α : Type} (l : List α) : (List.range l.length).filterMap (l[·]?) = l := by
  induction l with
  | nil => rfl
  | cons x l ih =>
    rw [List.length_cons, List.range_succ_eq_map, List.filterMap_cons]
    simp only [List.getElem?_cons_zero, List.filterMap_map]
    congr 1
theorem turnL_perm {α : Type} (by_ : Nat) (l : List α) : (turnL by_ l).Perm l := by
  have := (turnIdx_perm by_ l.length).filterMap (l[·]?)
  rw [range_get] at this
  exact this
theorem turnL_len {α : Type} (by_ : Nat) (l : List α) : (turnL by_ l).length = l.length := (turnL_perm by_ l).length_eq
theorem turnL_map {α β : Type} (f : α → β) (by_ : Nat) (l : List α) : turnL by_ (l.map f) = (turnL by_ l).map f := by
  unfold turnL
  rw [List.length_map, List.map_filterMap]
  congr 1
  funext i
  simp
theorem turnL_zip {α β : Type} (by_ : Nat) (k : List α) (l : List β) (h : k.length = l.length) : (turnL by_ k).zip (turnL by_ l) = turnL by_ (k.zip l) := by
  have e : ∀ is : List Nat, (∀ i ∈ is, i < l.length) → (is.filterMap (k[·]?)).zip (is.filterMap (l[·]?)) = is.filterMap ((k.zip l)[·]?) := by
    intro is
    induction is with
    | nil => intro _; rfl
    | cons i is ih =>
      intro hi
      have h1 : i < l.length := hi i (by simp)
      have h2 : i < k.length := by omega
      have h3 : i < (k.zip l).length := by simp; omega
      simp only [List.filterMap_cons, List.getElem?_eq_getElem h1, List.getElem?_eq_getElem h2, List.getElem?_eq_getElem h3, List.zip_cons_cons, List.getElem_zip]
      rw [ih fun j hj => hi j (by simp [hj])]
  unfold turnL
  rw [h, List.length_zip, h, Nat.min_self]
  refine e _ fun i hi => ?_
  exact List.mem_range.1 ((turnIdx_perm by_ _).subset hi)
theorem ents_turned (by_ : Nat) {v : Val} (h8 : v.k = 8) (hl : v.ks.length = v.l.length) (hn : v.ks.Nodup) : (v.turned by_).ents = v.ents.map fun e => (e.1, e.2.turned by_) := by
  have hp : (v.turned by_).ents.Perm (v.ents.map fun e => (e.1, e.2.turned by_)) := by
    refine (ents_perm _).trans ?_
    rw [Val.turned_eq, if_pos h8]
    show ((turnL by_ v.ks).zip (turnL by_ (v.l.map (Val.turned by_)))).Perm _
    rw [turnL_zip _ _ _ (by simpa using hl)]
    refine (turnL_perm _ _).trans ?_
    have := (ents_perm v).map fun e => (e.1, e.2.turned by_)
    refine List.Perm.trans ?_ this.symm
    rw [List.zip_map_right]
    exact List.Perm.refl _
  refine sorted_eq hp (fun a ha b hb e => ?_) (ents_sorted _) ?_
  · have ha := hp.subset ha; have hb := hp.subset hb
    obtain ⟨a', ha', rfl⟩ := List.mem_map.1 ha
    obtain ⟨b', hb', rfl⟩ := List.mem_map.1 hb
    rw [ents_key hn a' ha' b' hb' e]
  · exact List.Pairwise.map _ (fun a b h => h) (ents_sorted v)
theorem turned_k (by_ : Nat) (v : Val) : (v.turned by_).k = v.k := by rw [Val.turned_eq]; split <;> rfl
theorem turned_t (by_ : Nat) (v : Val) : (v.turned by_).t = v.t := by rw [Val.turned_eq]; split <;> rfl
theorem turned_l (by_ : Nat) (v : Val) : (v.turned by_).l.Perm (v.l.map (Val.turned by_)) := by
  rw [Val.turned_eq]; split
  · exact turnL_perm _ _
  · exact List.Perm.refl _
theorem turned_ks (by_ : Nat) (v : Val) : (v.turned by_).ks.Perm v.ks := by
  rw [Val.turned_eq]; split
  · exact turnL_perm _ _
  · exact List.Perm.refl _
/-- What a shape asks hangs on kind, text, how many parts, which keys. -/
theorem shape_of {v w : Val} (hk : w.k = v.k) (ht : w.t = v.t) (hl : w.l.length = v.l.length) (hs : w.ks.Perm v.ks) : w.shape = v.shape := by
  unfold Val.shape
  rw [hk, ht, hl, hs.length_eq, show decide w.ks.Nodup = decide v.ks.Nodup from decide_eq_decide.2 hs.nodup_iff]
theorem turned_shape (by_ : Nat) (v : Val) : (v.turned by_).shape = v.shape :=
  shape_of (turned_k _ _) (turned_t _ _) (by rw [(turned_l by_ v).length_eq, List.length_map]) (turned_ks _ _)
theorem turned_within (by_ : Nat) : ∀ (n : Nat) (v : Val), v.within n = true → (v.turned by_).within n = true
  | 0, v, h => by
    rw [Val.within_0, Bool.and_eq_true] at h ⊢
    rw [turned_shape, turned_k]; exact h
  | n + 1, v, h => by
    obtain ⟨sh, hk⟩ := within_k h
    rw [Val.within_s, turned_shape, sh, Bool.true_and, List.all_eq_true]
    intro y hy
    obtain ⟨z, hz, rfl⟩ := List.mem_map.1 ((turned_l by_ v).subset hy)
    exact turned_within by_ n z (hk z hz)
theorem turned_leaf (by_ : Nat) {v : Val} (h : v.l = []) (hs : v.ks = []) : v.turned by_ = v := by
  rw [Val.turned_eq, h, hs]
  cases v
  simp at h hs
  subst h hs
  simp [turnL, turnIdx]
theorem canon_turned (by_ : Nat) : ∀ (n : Nat) (v : Val), v.within n = true → canon n (v.turned by_) = canon n v
  | 0, v, h => by
    rw [Val.within_0, Bool.and_eq_true] at h
    have := shape_leaf2 h.1 (by simpa using h.2)
    rw [turned_leaf by_ this.1 this.2]
  | n + 1, v, h => by
    obtain ⟨sh, hk⟩ := within_k h
    rw [canon_s, canon_s, turned_k]
    split
    · rename_i h8
      obtain ⟨_, hl, hn⟩ := shape_map sh h8
      rw [turned_t, ents_turned by_ h8 hl hn, List.map_map, List.map_map]
      simp only [Val.mk.injEq, true_and]
      refine ⟨List.map_congr_left fun e he => canon_turned by_ n e.2 (hk _ (ents_mem he).2), rfl⟩
    · rename_i h8
      rw [turned_t, Val.turned_eq, if_neg h8, List.map_map]
      simp only [Val.mk.injEq, true_and, and_true]
      exact List.map_congr_left fun y hy => canon_turned by_ n y (hk y hy)

/-- One node of a value is another one. -/
inductive Chg : Val → Val → Prop
  | str {v : Val} (h : v.k = 3) (t : ByteArray) (ht : t.size = v.t.size + 1) : Chg v ⟨3, t, [], []⟩
  | root {v : Val} (h : v.k ≠ 3) (t : ByteArray) (ht : t.size ≤ 1) : Chg v ⟨3, t, [], []⟩
  | kid {v y z : Val} (i : Nat) (hy : v.l[i]? = some y) (h : Chg y z) : Chg v ⟨v.k, v.t, v.l.set i z, v.ks⟩
theorem leaf_within (n : Nat) (t : ByteArray) : Val.within n ⟨3, t, [], []⟩ = true := by
  cases n with
  | zero => rw [Val.within_0]; simp [Val.shape]
  | succ n => rw [Val.within_s]; simp [Val.shape]
theorem chg_within : ∀ (n : Nat) {v o : Val}, Chg v o → v.within n = true → o.within n = true
  | n, _, _, .str _ t _, _ => leaf_within n t
  | n, _, _, .root _ t _, _ => leaf_within n t
  | 0, v, _, .kid i hy _, h => by
    rw [Val.within_0, Bool.and_eq_true] at h
    rw [(shape_leaf2 h.1 (by simpa using h.2)).1] at hy
    simp at hy
  | n + 1, v, _, .kid (z := z) i hy hc, h => by
    obtain ⟨sh, hk⟩ := within_k h
    have hs : Val.shape ⟨v.k, v.t, v.l.set i z, v.ks⟩ = true := (shape_of (v := v) (w := ⟨v.k, v.t, v.l.set i z, v.ks⟩) rfl rfl (by simp) (List.Perm.refl _)).trans sh
    rw [Val.within_s, hs, Bool.true_and, List.all_eq_true]
    intro x hx
    rcases List.mem_or_eq_of_mem_set hx with hx | rfl
    · exact hk x hx
    · exact chg_within n hc (hk _ (List.mem_of_getElem? hy))
/-- The parts of a map, by its keys' order. -/
theorem key_val {β : Type} {ks : List ByteArray} {l l' : List β} {e e' : List (ByteArray × β)} (hn : ks.Nodup) (hl : ks.length = l.length) (hl' : ks.length = l'.length) (h1 : e.Perm (ks.zip l)) (h2 : e'.Perm (ks.zip l')) {γ : Type} (f : β → γ)
    (hf : e.map (fun x => (x.1, f x.2)) = e'.map fun x => (x.1, f x.2)) (i : Nat) (x y : β) (hx : l[i]? = some x) (hy : l'[i]? = some y) : f x = f y := by
  obtain ⟨hi, rfl⟩ := List.getElem?_eq_some_iff.1 hx
  obtain ⟨hi', rfl⟩ := List.getElem?_eq_some_iff.1 hy
  have hk : i < ks.length := by omega
  have m1 : (ks[i], l[i]) ∈ e := h1.symm.subset (List.mem_iff_getElem.2 ⟨i, by simp; omega, by simp⟩)
  have m3 : (ks[i], f l[i]) ∈ e'.map fun x => (x.1, f x.2) := by
    rw [← hf]; exact List.mem_map.2 ⟨_, m1, rfl⟩
  obtain ⟨q, hq, e1⟩ := List.mem_map.1 m3
  have m4 := h2.subset hq
  obtain ⟨j, hj, rfl⟩ := List.mem_iff_getElem.1 m4
  simp only [List.length_zip] at hj
  simp only [List.getElem_zip, Prod.mk.injEq] at e1
  have : j = i := (List.getElem_inj hn).1 e1.1
  subst this
  exact e1.2.symm
theorem chg_canon : ∀ (n : Nat) {v o : Val}, Chg v o → v.within n = true → canon n v ≠ canon n o
  | n, v, _, .str h t ht, _, e => by
    have := congrArg Val.t e
    rw [canon_t, canon_t] at this
    rw [this] at ht
    simp at ht
  | n, v, _, .root h t _, _, e => by
    have := congrArg Val.k e
    rw [canon_k, canon_k] at this
    exact h this
  | 0, v, _, .kid i hy _, h, _ => by
    rw [Val.within_0, Bool.and_eq_true] at h
    rw [(shape_leaf2 h.1 (by simpa using h.2)).1] at hy
    simp at hy
  | n + 1, v, _, .kid (y := y) (z := z) i hy hc, h, e => by
    obtain ⟨sh, hk⟩ := within_k h
    have ne := chg_canon n hc (hk _ (List.mem_of_getElem? hy))
    have hi := (List.getElem?_eq_some_iff.1 hy).1
    have hz : (v.l.set i z)[i]? = some z := by simp [hi]
    rw [canon_s, canon_s] at e
    dsimp only at e
    by_cases h8 : v.k = 8
    · obtain ⟨_, hl, hn⟩ := shape_map sh h8
      rw [if_pos h8, if_pos h8] at e
      simp only [Val.mk.injEq, true_and] at e
      refine ne (key_val hn hl (by simpa using hl) (ents_perm v) (ents_perm ⟨v.k, v.t, v.l.set i z, v.ks⟩) (canon n) ?_ i y z hy hz)
      have zz : ∀ l : List (ByteArray × Val), l.map (fun e => (e.1, canon n e.2)) = (l.map (·.1)).zip (l.map fun e => canon n e.2) := fun l => by
        rw [List.zip_map', List.map_inj_left]; intro e _; rfl
      rw [zz, zz, e.1, e.2]
    · rw [if_neg h8, if_neg h8] at e
      simp only [Val.mk.injEq, true_and, and_true] at e
      have := congrArg (·[i]?) e
      simp only [List.getElem?_map, hy, hz, Option.map_some, Option.some.injEq] at this
      exact ne this
theorem sum_set {α : Type} (f : α → Nat) : ∀ (l : List α) (i : Nat) (y z : α), l[i]? = some y → f z ≤ f y + 1 → ((l.set i z).map f).sum ≤ (l.map f).sum + 1
  | [], _, _, _, h, _ => by simp at h
  | x :: l, 0, y, z, h, hf => by
    simp at h; subst h
    simp only [List.set_cons_zero, List.map_cons, List.sum_cons]; omega
  | x :: l, i + 1, y, z, h, hf => by
    have := sum_set f l i y z (by simpa using h) hf
    simp only [List.set_cons_succ, List.map_cons, List.sum_cons]; omega
theorem chg_w : ∀ {v o : Val}, Chg v o → o.w ≤ v.w + 1 := by
  intro v o h
  induction h with
  | str h t ht => rw [Val.w_eq, Val.w_eq (_ : Val)]; simp; omega
  | @root v h t ht => have := v.w_pos; rw [Val.w_eq]; simp; omega
  | @kid v y z i hy h ih =>
    have := sum_set Val.w v.l i y z hy ih
    rw [Val.w_eq, Val.w_eq v]; simp only; omega
/-- A comparison tells -1, 0 or 1. -/
def Sgn (x : Int) : Prop := x = -1 ∨ x = 0 ∨ x = 1
theorem sgn_int (a b : Int) : Sgn (cmpInt a b) := by unfold cmpInt Sgn; split <;> (try split) <;> omega
theorem sgn_str (a b : ByteArray) : Sgn (cmpStr a b) := by rw [cmpStr_spec]; unfold Sgn; split <;> (try split) <;> omega
theorem sgn_or {a b : Int} (h1 : Sgn a) (h2 : Sgn b) : Sgn (orInt [a, b]) := by
  unfold Sgn at *
  simp only [orInt]
  split
  · split <;> omega
  · exact h1
theorem sgn_list {α : Type} {f : α → α → Int} (h : ∀ a b, Sgn (f a b)) : ∀ l m : List α, Sgn (cmpL f l m)
  | [], [] => .inr (.inl rfl)
  | [], _ :: _ => .inl rfl
  | _ :: _, [] => .inr (.inr rfl)
  | x :: l, y :: m => by
    simp only [cmpL]
    split
    · exact sgn_list h l m
    · exact h x y
theorem sgn_cmp : ∀ (n : Nat) (a b : Val), Sgn (cmpV n a b)
  | 0, a, b => sgn_or (sgn_int _ _) (sgn_str _ _)
  | n + 1, a, b => by
    rw [cmpV_two]
    refine sgn_or (sgn_or (sgn_int _ _) (sgn_str _ _)) ?_
    unfold cmpT
    split
    · exact .inr (.inl rfl)
    split
    · exact sgn_list (sgn_cmp n) _ _
    · exact sgn_list (fun x y => sgn_or (sgn_str _ _) (sgn_cmp n _ _)) _ _
end Go.Proofs.YtcpdogjcofkpcaaDoor
