/-
  What placing leaves, as lists: the triples that were there, told of the side's places, and behind them the side's new names in its order. Plain; condition: names are all unlike.
  How what is new stands in Plan's triples, by the union. Plain; condition: names are all unlike.
-/
import Derived.Test.YtdapimjhjnbfdaaDoorKI
namespace Go.Proofs.YtdapimjhjnbfdaaDoor
open Go.RowKit Go.Sort

/-- A triple is told of a side's names. -/
def updT (side : Nat) (ns : List ByteArray) (t : Tr) : Tr := match idxB ns t.id with | some i => t.put side (i : Nat) | none => t
theorem updT_id (side : Nat) (ns : List ByteArray) (t : Tr) : (updT side ns t).id = t.id := by unfold updT; split; exact Tr.put_id _ _ _; rfl
instance memDec (s : ByteArray) (l : List ByteArray) : Decidable (s ∈ l) := decidable_of_iff ((idxB l s).isSome = true) (by
  cases h : idxB l s with
  | none => simp [idxB_none.1 h]
  | some i => simp [List.mem_of_getElem? (idxB_some h)])
/-- A side's names that are not among the old ones. -/
def newL (side : Nat) (old : List ByteArray) : List ByteArray → Nat → List Tr
  | [], _ => []
  | s :: ns, i => if s ∈ old then newL side old ns (i + 1) else (newTr s).put side (i : Nat) :: newL side old ns (i + 1)
theorem newL_snoc (side : Nat) (old : List ByteArray) (s : ByteArray) : ∀ (ns : List ByteArray) (i : Nat), newL side old (ns ++ [s]) i = newL side old ns i ++ if s ∈ old then [] else [(newTr s).put side ((i + ns.length : Nat) : Int)]
  | [], i => by simp only [List.nil_append, newL]; split <;> simp
  | t :: ns, i => by
    have ih := newL_snoc side old s ns (i + 1)
    simp only [List.cons_append, newL, ih, List.length_cons]
    rw [show i + 1 + ns.length = i + (ns.length + 1) by omega]
    split <;> simp
theorem newL_ids (side : Nat) (old : List ByteArray) : ∀ (ns : List ByteArray) (i : Nat), (newL side old ns i).map Tr.id = ns.filter (fun s => decide (s ∉ old))
  | [], _ => rfl
  | s :: ns, i => by
    have ih := newL_ids side old ns (i + 1)
    simp only [newL]
    split
    · rename_i h; rw [ih, List.filter_cons_of_neg (by simp [h])]
    · rename_i h; rw [List.map_cons, ih, List.filter_cons_of_pos (by simp [h]), Tr.put_id]; rfl
theorem idxB_app {s : ByteArray} : ∀ {l m : List ByteArray}, s ∈ l → idxB (l ++ m) s = idxB l s
  | t :: l, m, h => by
    simp only [List.cons_append, idxB]
    split
    · rfl
    · rename_i hne
      rw [idxB_app (by rcases List.mem_cons.1 h with h | h; exact absurd h.symm hne; exact h)]
theorem modify_map {f g f' : Tr → Tr} {s : ByteArray} : ∀ {l : List Tr} {j : Nat}, (l.map Tr.id).Nodup → (l.map Tr.id)[j]? = some s → (∀ t ∈ l, t.id = s → f' t = g (f t)) → (∀ t ∈ l, t.id ≠ s → f' t = f t) → (l.map f).modify j g = l.map f'
  | [], j, _, h, _, _ => by simp at h
  | t :: l, 0, hn, h, h1, h2 => by
    simp at h
    rw [List.map_cons, List.nodup_cons] at hn
    have : l.map f = l.map f' := List.map_congr_left fun u hu => (h2 u (by simp [hu]) (fun e => hn.1 (by rw [h, ← e]; exact List.mem_map_of_mem hu))).symm
    show g (f t) :: l.map f = f' t :: l.map f'
    rw [this, h1 t (by simp) h]
  | t :: l, j + 1, hn, h, h1, h2 => by
    rw [List.map_cons, List.nodup_cons] at hn
    have h' : (l.map Tr.id)[j]? = some s := by simpa using h
    have ht : t.id ≠ s := fun e => hn.1 (by rw [e]; exact List.mem_of_getElem? h')
    have ih := modify_map (f := f) (g := g) (f' := f') hn.2 h' (fun u hu => h1 u (by simp [hu])) (fun u hu => h2 u (by simp [hu]))
    show f t :: (l.map f).modify j g = f' t :: l.map f'
    rw [ih, h2 t (by simp) ht]
theorem modify_app {α : Type} (f : α → α) : ∀ (l m : List α) (j : Nat), j < l.length → (l ++ m).modify j f = l.modify j f ++ m
  | [], _, j, h => by simp at h
  | x :: l, m, 0, _ => rfl
  | x :: l, m, j + 1, h => by
    have := modify_app f l m j (by simpa using h)
    show x :: (l ++ m).modify j f = x :: l.modify j f ++ m
    rw [this]; rfl
/-- What the first k names of a side leave. -/
theorem placeN_eq (side : Nat) (ns : List ByteArray) (hn : ns.Nodup) (T : List Tr) (hT : (T.map Tr.id).Nodup) : ∀ k, k ≤ ns.length → placeN side ns T k = T.map (updT side (ns.take k)) ++ newL side (T.map Tr.id) (ns.take k) 0
  | 0, _ => by
    simp only [placeN, List.take_zero, newL, List.append_nil]
    exact (List.map_id' T).symm.trans (List.map_congr_left fun t _ => by simp [updT, idxB])
  | k + 1, hk => by
    have ih := placeN_eq side ns hn T hT k (by omega)
    have hs : ns[k]? = some ns[k] := List.getElem?_eq_getElem hk
    have hg : ns.getD k ⟨#[]⟩ = ns[k] := by rw [List.getD_eq_getElem?_getD, hs]; rfl
    have htk : ns.take (k + 1) = ns.take k ++ [ns[k]] := by rw [List.take_add_one, hs]; rfl
    have hnot : ns[k] ∉ ns.take k := by
      intro hm
      obtain ⟨j, hj, e⟩ := List.mem_take_iff_getElem.1 hm
      exact (List.pairwise_iff_getElem.1 hn) j k (by omega) hk (by omega) e
    have hlk : (ns.take k).length = k := by rw [List.length_take]; omega
    rw [placeN, hg, ih, htk, newL_snoc, hlk, Nat.zero_add]
    generalize ns[k] = s at *
    have hids : (T.map (updT side (ns.take k)) ++ newL side (T.map Tr.id) (ns.take k) 0).map Tr.id = T.map Tr.id ++ (ns.take k).filter (fun s => decide (s ∉ T.map Tr.id)) := by
      rw [List.map_append, newL_ids, List.map_map]
      congr 1
      exact List.map_congr_left fun t _ => updT_id _ _ t
    have hnone : idxB (ns.take k) s = none := idxB_none.2 hnot
    unfold place1
    rw [hids]
    by_cases hm : s ∈ T.map Tr.id
    · rw [if_pos hm, List.append_nil, idxB_app hm]
      cases hi : idxB (T.map Tr.id) s with
      | none => exact absurd hm (idxB_none.1 hi)
      | some j =>
        have hj := idxB_some hi
        have hjl : j < T.length := by have := (List.getElem?_eq_some_iff.1 hj).1; simpa using this
        simp only
        rw [modify_app _ _ _ _ (by simpa using hjl), modify_map (f' := updT side (ns.take k ++ [s])) hT hj]
        · intro t _ e
          unfold updT
          rw [e, hnone, idxB_snoc_new hnot, hlk]
        · intro t _ e
          unfold updT
          rw [idxB_snoc_old e]
    · have hno : idxB (T.map Tr.id ++ (ns.take k).filter (fun s => decide (s ∉ T.map Tr.id))) s = none := idxB_none.2 (by
        rw [List.mem_append, List.mem_filter]
        rintro (h | h)
        · exact hm h
        · exact hnot h.1)
      rw [hno, if_neg hm]
      simp only
      rw [List.append_assoc]
      congr 1
      exact List.map_congr_left fun t ht => by
        have : t.id ≠ s := fun e => hm (by rw [← e]; exact List.mem_map_of_mem ht)
        unfold updT
        rw [idxB_snoc_old this]
end Go.Proofs.YtdapimjhjnbfdaaDoor

namespace Go.Proofs.YtdapimjhjnbfdaaDoor
open Go.RowKit Go.Sort

/-- A triple's place on a side. -/
def fld (side : Nat) (t : Tr) : Int := if side = 0 then t.b else if side = 1 then t.l else t.r
theorem fld_same (side : Nat) (t : Tr) (i : Int) : fld side (t.put side i) = i := by unfold fld Tr.put; split; rfl; split <;> rfl
theorem fld_other {side s' : Nat} (h1 : side < 3) (h2 : s' < 3) (hne : s' ≠ side) (t : Tr) (i : Int) : fld s' (t.put side i) = fld s' t := by
  have a : side = 0 ∨ side = 1 ∨ side = 2 := by omega
  have b : s' = 0 ∨ s' = 1 ∨ s' = 2 := by omega
  rcases a with rfl | rfl | rfl <;> rcases b with rfl | rfl | rfl <;> first | exact absurd rfl hne | rfl
theorem fld_upd {side s' : Nat} (h1 : side < 3) (h2 : s' < 3) (hne : s' ≠ side) (ns : List ByteArray) (t : Tr) : fld s' (updT side ns t) = fld s' t := by
  unfold updT; split
  · exact fld_other h1 h2 hne _ _
  · rfl
theorem fld_new {s' : Nat} (h : s' < 3) (s : ByteArray) : fld s' (newTr s) = -1 := by
  have b : s' = 0 ∨ s' = 1 ∨ s' = 2 := by omega
  rcases b with rfl | rfl | rfl <;> rfl
theorem newL_fld {side : Nat} (h1 : side < 3) (old : List ByteArray) : ∀ (ns : List ByteArray) (i : Nat), ∀ t ∈ newL side old ns i, (i : Int) ≤ fld side t ∧ ∀ s', s' < 3 → s' ≠ side → fld s' t = -1
  | [], _, t, h => by simp [newL] at h
  | s :: ns, i, t, h => by
    have ih := newL_fld h1 old ns (i + 1)
    simp only [newL] at h
    split at h
    · obtain ⟨a, b⟩ := ih t h; exact ⟨by omega, b⟩
    · rcases List.mem_cons.1 h with rfl | h
      · exact ⟨by rw [fld_same]; omega, fun s' h2 hne => by rw [fld_other h1 h2 hne]; exact fld_new h2 _⟩
      · obtain ⟨a, b⟩ := ih t h; exact ⟨by omega, b⟩
theorem newL_rise {side : Nat} (h1 : side < 3) (old : List ByteArray) : ∀ (ns : List ByteArray) (i : Nat), (newL side old ns i).Pairwise fun a b => fld side a < fld side b
  | [], _ => by simp [newL]
  | s :: ns, i => by
    have ih := newL_rise h1 old ns (i + 1)
    simp only [newL]
    split
    · exact ih
    · refine List.pairwise_cons.2 ⟨fun t ht => ?_, ih⟩
      have := (newL_fld h1 old ns (i + 1) t ht).1
      rw [fld_same]; omega
theorem newL_len0 : ∀ (ns : List ByteArray) (i : Nat), (newL 0 [] ns i).length = ns.length
  | [], _ => rfl
  | s :: ns, i => by
    have ih := newL_len0 ns (i + 1)
    simp only [newL]
    rw [if_neg (by simp)]
    simp [ih]
/-- What stands behind base's, s1's names put ahead of s2's. -/
def tail2 (s1 s2 : Nat) (xb n1 n2 : List ByteArray) : List Tr := (newL s1 xb n1 0).map (updT s2 n2) ++ newL s2 (xb ++ n1.filter fun s => decide (s ∉ xb)) n2 0
def base2 (s1 s2 : Nat) (xb n1 n2 : List ByteArray) : List Tr := ((newL 0 [] xb 0).map (updT s1 n1)).map (updT s2 n2)
theorem base2_len (s1 s2 : Nat) (xb n1 n2 : List ByteArray) : (base2 s1 s2 xb n1 n2).length = xb.length := by simp [base2, newL_len0]
theorem ids0 (xb : List ByteArray) : (newL 0 [] xb 0).map Tr.id = xb := by
  rw [newL_ids]
  exact List.filter_eq_self.2 fun s _ => by simp
theorem filter_nodup {xb n1 : List ByteArray} (hb : xb.Nodup) (h1 : n1.Nodup) : (xb ++ n1.filter fun s => decide (s ∉ xb)).Nodup := by
  refine List.nodup_append.2 ⟨hb, h1.filter _, fun a ha b hb' e => ?_⟩
  subst e
  have := (List.mem_filter.1 hb').2
  simp at this
  exact this ha
theorem placed2 (s1 s2 : Nat) {xb n1 n2 : List ByteArray} (hb : xb.Nodup) (h1 : n1.Nodup) (h2 : n2.Nodup) : placeN s2 n2 (placeN s1 n1 (placeN 0 xb [] xb.length) n1.length) n2.length = base2 s1 s2 xb n1 n2 ++ tail2 s1 s2 xb n1 n2 := by
  have e0 : placeN 0 xb [] xb.length = newL 0 [] xb 0 := by
    have := placeN_eq 0 xb hb [] (by simp) xb.length (Nat.le_refl _)
    rw [List.take_length] at this
    simpa using this
  have e1 : placeN s1 n1 (newL 0 [] xb 0) n1.length = (newL 0 [] xb 0).map (updT s1 n1) ++ newL s1 xb n1 0 := by
    have := placeN_eq s1 n1 h1 (newL 0 [] xb 0) (by rw [ids0]; exact hb) n1.length (Nat.le_refl _)
    rwa [List.take_length, ids0] at this
  have hid : ((newL 0 [] xb 0).map (updT s1 n1) ++ newL s1 xb n1 0).map Tr.id = xb ++ n1.filter fun s => decide (s ∉ xb) := by
    rw [List.map_append, newL_ids, List.map_map]
    congr 1
    rw [← ids0 xb]
    conv => lhs; rw [ids0]
    exact List.map_congr_left fun t _ => updT_id _ _ t
  have e2 := placeN_eq s2 n2 h2 ((newL 0 [] xb 0).map (updT s1 n1) ++ newL s1 xb n1 0) (by rw [hid]; exact filter_nodup hb h1) n2.length (Nat.le_refl _)
  rw [List.take_length, hid] at e2
  rw [e0, e1, e2, List.map_append, base2, tail2, List.append_assoc]
theorem tail2_ids (s1 s2 : Nat) {xb n1 n2 : List ByteArray} (hb : xb.Nodup) (h1 : n1.Nodup) (h2 : n2.Nodup) : ((tail2 s1 s2 xb n1 n2).map Tr.id).Nodup := by
  have h := filter_nodup (filter_nodup hb h1) h2
  rw [List.append_assoc, List.nodup_append] at h
  rw [tail2, List.map_append, newL_ids, List.map_map]
  have e : (newL s1 xb n1 0).map (Tr.id ∘ updT s2 n2) = n1.filter fun s => decide (s ∉ xb) := by
    rw [← newL_ids s1 xb n1 0]
    exact List.map_congr_left fun t _ => updT_id _ _ t
  rw [e]
  exact h.2.1
/-- The order of what is new: s1's in its order ahead of s2's others. -/
def Ahead (s1 s2 : Nat) (a b : Tr) : Prop := (0 ≤ fld s1 a ∧ (fld s1 b < 0 ∨ fld s1 a < fld s1 b)) ∨ (fld s1 a < 0 ∧ fld s1 b < 0 ∧ fld s2 a < fld s2 b)
theorem tail2_ahead {s1 s2 : Nat} (h1 : s1 < 3) (h2 : s2 < 3) (hne : s1 ≠ s2) (xb n1 n2 : List ByteArray) : (tail2 s1 s2 xb n1 n2).Pairwise (Ahead s1 s2) := by
  have f1 := newL_fld h1 xb n1 0
  have f2 := newL_fld h2 (xb ++ n1.filter fun s => decide (s ∉ xb)) n2 0
  refine List.pairwise_append.2 ⟨List.pairwise_map.2 ?_, ?_, ?_⟩
  · refine (newL_rise h1 xb n1 0).imp_of_mem fun {a b} ha hb h => ?_
    have := (f1 a ha).1
    refine .inl ⟨by rw [fld_upd h2 h1 hne]; omega, .inr (by rw [fld_upd h2 h1 hne, fld_upd h2 h1 hne]; exact h)⟩
  · refine (newL_rise h2 _ n2 0).imp_of_mem fun {a b} ha hb h => ?_
    have e1 := (f2 a ha).2 s1 h1 hne
    have e2 := (f2 b hb).2 s1 h1 hne
    exact .inr ⟨by omega, by omega, h⟩
  · intro a ha b hb
    obtain ⟨t, ht, rfl⟩ := List.mem_map.1 ha
    have := (f1 t ht).1
    have e2 := (f2 b hb).2 s1 h1 hne
    exact .inl ⟨by rw [fld_upd h2 h1 hne]; omega, .inl (by omega)⟩
/-- How two that are new stand. -/
def Stand (u : Int) (a b : Tr) : Prop := if u = 1 then Ahead 1 2 a b else if u = 2 then Ahead 2 1 a b else a.id.toList < b.id.toList
theorem plan_stand {u : Int} {xb xl xr : List ByteArray} (hb : xb.Nodup) (hl : xl.Nodup) (hr : xr.Nodup) {T : List Tr} (h : PlanIs u xb xl xr T) : (T.drop xb.length).Pairwise (Stand u) := by
  have d : ∀ s1 s2 n1 n2, (base2 s1 s2 xb n1 n2 ++ tail2 s1 s2 xb n1 n2).drop xb.length = tail2 s1 s2 xb n1 n2 := fun s1 s2 n1 n2 => by
    have := List.drop_left' (l₁ := base2 s1 s2 xb n1 n2) (l₂ := tail2 s1 s2 xb n1 n2) (base2_len s1 s2 xb n1 n2)
    exact this
  rw [PlanIs] at h
  by_cases h1 : u = 1
  · rw [if_pos (.inl h1)] at h
    subst h
    rw [placed, if_neg (by omega), placed2 1 2 hb hl hr, d]
    refine (tail2_ahead (by omega) (by omega) (by omega) xb xl xr).imp fun {a b} hab => ?_
    rw [Stand, if_pos h1]; exact hab
  · by_cases h2 : u = 2
    · rw [if_pos (.inr h2)] at h
      subst h
      rw [placed, if_pos h2, placed2 2 1 hb hr hl, d]
      refine (tail2_ahead (by omega) (by omega) (by omega) xb xr xl).imp fun {a b} hab => ?_
      rw [Stand, if_neg h1, if_pos h2]; exact hab
    · rw [if_neg (by omega)] at h
      obtain ⟨S, hp, hs, rfl⟩ := h
      rw [placed, if_neg h2, placed2 1 2 hb hl hr] at hp ⊢
      rw [d] at hp
      have hlen : ((base2 1 2 xb xl xr ++ tail2 1 2 xb xl xr).take xb.length).length = xb.length := by
        rw [List.length_take, List.length_append, base2_len]; omega
      rw [List.drop_left' hlen]
      have hn : (S.map Tr.id).Nodup := (hp.map Tr.id).nodup_iff.2 (tail2_ids 1 2 hb hl hr)
      have hn' : S.Pairwise fun a b => a.id ≠ b.id := List.pairwise_map.1 hn
      refine (hs.and hn').imp fun {a b} hab => ?_
      rw [Stand, if_neg h1, if_neg h2]
      rcases List.le_iff_lt_or_eq.1 hab.1 with h | h
      · exact h
      · exact absurd (bl_eq h) hab.2
end Go.Proofs.YtdapimjhjnbfdaaDoor
