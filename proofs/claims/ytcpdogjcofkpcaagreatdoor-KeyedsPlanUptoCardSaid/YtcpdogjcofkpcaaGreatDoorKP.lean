/-
  What placing leaves, as lists: the triples that were there, told of the side's places, and behind them the side's new names in its order. Plain; condition: names are all unlike.
  How what is new stands in Plan's triples, by the union. Plain; condition: names are all unlike.
  The plain law of KeyedsEach: a triple's places are those of its name in the lists; ids are base's, then the new ones; turned round the triples are those turned round.
-/
import Derived.Test.YtcpdogjcofkpcaaGreatDoorKI
namespace Go.Proofs.YtcpdogjcofkpcaaGreatDoor
open Go.RowKit Go.Sort

/-- A triple is told of a side's names. -/
def updT (side : Nat) (ns : List ByteArray) (t : Tr) : Tr := match idxB ns t.id with | some i => t.put side (i : Nat) | none => t
theorem updT_id (side : Nat) (ns : List ByteArray) (t : Tr) : (updT side ns t).id = t.id := by unfold updT; split; exact Tr.put_id _ _ _; rfl
/-- A side's names that are not among the old ones. -/
def newL (side : Nat) (old : List ByteArray) : List ByteArray → Nat → List Tr
  | [], _ => []
  | s :: ns, i => if s ∈ old then newL side old ns (i + 1) else (newTr s).put side (i : Nat) :: newL side old ns (i + 1)
theorem newL_snoc (side : Nat) (old : List ByteArray) (s : ByteArray) : ∀ (ns : List ByteArray) (i : Nat), newL side old (ns ++ [s]) i = newL side old ns i ++ if s ∈ old then [] else [(newTr s).put side ((i + ns.length : Nat) : Int)]
  | [], i => by simp only [List.nil_append, newL]; split <;> simp
  | t :: ns, i => by
    have ih := newL_snoc side old s ns (i + 1)
    simp only [List.cons_append, newL, ih, List.length_cons]
    rw [show i + 1 + ns.length = i + (ns.length + 1) by omega]
    split <;> simp
theorem newL_ids (side : Nat) (old : List ByteArray) : ∀ (ns : List ByteArray) (i : Nat), (newL side old ns i).map Tr.id = ns.filter (fun s => decide (s ∉ old))
  | [], _ => rfl
  | s :: ns, i => by
    have ih := newL_ids side old ns (i + 1)
    simp only [newL]
    split
    · rename_i h; rw [ih, List.filter_cons_of_neg (by simp [h])]
    · rename_i h; rw [List.map_cons, ih, List.filter_cons_of_pos (by simp [h]), Tr.put_id]; rfl
theorem idxB_app {s : ByteArray} : ∀ {l m : List ByteArray}, s ∈ l → idxB (l ++ m) s = idxB l s
  | t :: l, m, h => by
    simp only [List.cons_append, idxB]
    split
    · rfl
    · rename_i hne
      rw [idxB_app (by rcases List.mem_cons.1 h with h | h; exact absurd h.symm hne; exact h)]
theorem modify_map {f g f' : Tr → Tr} {s : ByteArray} : ∀ {l : List Tr} {j : Nat}, (l.map Tr.id).Nodup → (l.map Tr.id)[j]? = some s → (∀ t ∈ l, t.id = s → f' t = g (f t)) → (∀ t ∈ l, t.id ≠ s → f' t = f t) → (l.map f).modify j g = l.map f'
  | [], j, _, h, _, _ => by simp at h
  | t :: l, 0, hn, h, h1, h2 => by
    simp at h
    rw [List.map_cons, List.nodup_cons] at hn
    have : l.map f = l.map f' := List.map_congr_left fun u hu => (h2 u (by simp [hu]) (fun e => hn.1 (by rw [h, ← e]; exact List.mem_map_of_mem hu))).symm
    show g (f t) :: l.map f = f' t :: l.map f'
    rw [this, h1 t (by simp) h]
  | t :: l, j + 1, hn, h, h1, h2 => by
    rw [List.map_cons, List.nodup_cons] at hn
    have h' : (l.map Tr.id)[j]? = some s := by simpa using h
    have ht : t.id ≠ s := fun e => hn.1 (by rw [e]; exact List.mem_of_getElem? h')
    have ih := modify_map (f := f) (g := g) (f' := f') hn.2 h' (fun u hu => h1 u (by simp [hu])) (fun u hu => h2 u (by simp [hu]))
    show f t :: (l.map f).modify j g = f' t :: l.map f'
    rw [ih, h2 t (by simp) ht]
theorem modify_app {α : Type} (f : α → α) : ∀ (l m : List α) (j : Nat), j < l.length → (l ++ m).modify j f = l.modify j f ++ m
  | [], _, j, h => by simp at h
  | x :: l, m, 0, _ => rfl
  | x :: l, m, j + 1, h => by
    have := modify_app f l m j (by simpa using h)
    show x :: (l ++ m).modify j f = x :: l.modify j f ++ m
    rw [this]; rfl
/-- What the first k names of a side leave. -/
theorem placeN_eq (side : Nat) (ns : List ByteArray) (hn : ns.Nodup) (T : List Tr) (hT : (T.map Tr.id).Nodup) : ∀ k, k ≤ ns.length → placeN side ns T k = T.map (updT side (ns.take k)) ++ newL side (T.map Tr.id) (ns.take k) 0
  | 0, _ => by
    simp only [placeN, List.take_zero, newL, List.append_nil]
    exact (List.map_id' T).symm.trans (List.map_congr_left fun t _ => by simp [updT, idxB])
  | k + 1, hk => by
    have ih := placeN_eq side ns hn T hT k (by omega)
    have hs : ns[k]? = some ns[k] := List.getElem?_eq_getElem hk
    have hg : ns.getD k ⟨#[]⟩ = ns[k] := by rw [List.getD_eq_getElem?_getD, hs]; rfl
    have htk : ns.take (k + 1) = ns.take k ++ [ns[k]] := by rw [List.take_add_one, hs]; rfl
    have hnot : ns[k] ∉ ns.take k := by
      intro hm
      obtain ⟨j, hj, e⟩ := List.mem_take_iff_getElem.1 hm
      exact (List.pairwise_iff_getElem.1 hn) j k (by omega) hk (by omega) e
    have hlk : (ns.take k).length = k := by rw [List.length_take]; omega
    rw [placeN, hg, ih, htk, newL_snoc, hlk, Nat.zero_add]
    generalize ns[k] = s at *
    have hids : (T.map (updT side (ns.take k)) ++ newL side (T.map Tr.id) (ns.take k) 0).map Tr.id = T.map Tr.id ++ (ns.take k).filter (fun s => decide (s ∉ T.map Tr.id)) := by
      rw [List.map_append, newL_ids, List.map_map]
      congr 1
      exact List.map_congr_left fun t _ => updT_id _ _ t
    have hnone : idxB (ns.take k) s = none := idxB_none.2 hnot
    unfold place1
    rw [hids]
    by_cases hm : s ∈ T.map Tr.id
    · rw [if_pos hm, List.append_nil, idxB_app hm]
      cases hi : idxB (T.map Tr.id) s with
      | none => exact absurd hm (idxB_none.1 hi)
      | some j =>
        have hj := idxB_some hi
        have hjl : j < T.length := by have := (List.getElem?_eq_some_iff.1 hj).1; simpa using this
        simp only
        rw [modify_app _ _ _ _ (by simpa using hjl), modify_map (f' := updT side (ns.take k ++ [s])) hT hj]
        · intro t _ e
          unfold updT
          rw [e, hnone, idxB_snoc_new hnot, hlk]
        · intro t _ e
          unfold updT
          rw [idxB_snoc_old e]
    · have hno : idxB (T.map Tr.id ++ (ns.take k).filter (fun s => decide (s ∉ T.map Tr.id))) s = none := idxB_none.2 (by
        rw [List.mem_append, List.mem_filter]
        rintro (h | h)
        · exact hm h
        · exact hnot h.1)
      rw [hno, if_neg hm]
      simp only
      rw [List.append_assoc]
      congr 1
      exact List.map_congr_left fun t ht => by
        have : t.id ≠ s := fun e => hm (by rw [← e]; exact List.mem_map_of_mem ht)
        unfold updT
        rw [idxB_snoc_old this]
end Go.Proofs.YtcpdogjcofkpcaaGreatDoor

namespace Go.Proofs.YtcpdogjcofkpcaaGreatDoor
open Go.RowKit Go.Sort

/-- A triple's place on a side. -/
def fld (side : Nat) (t : Tr) : Int := if side = 0 then t.b else if side = 1 then t.l else t.r
theorem fld_same (side : Nat) (t : Tr) (i : Int) : fld side (t.put side i) = i := by unfold fld Tr.put; split; rfl; split <;> rfl
theorem fld_other {side s' : Nat} (h1 : side < 3) (h2 : s' < 3) (hne : s' ≠ side) (t : Tr) (i : Int) : fld s' (t.put side i) = fld s' t := by
  have a : side = 0 ∨ side = 1 ∨ side = 2 := by omega
  have b : s' = 0 ∨ s' = 1 ∨ s' = 2 := by omega
  rcases a with rfl | rfl | rfl <;> rcases b with rfl | rfl | rfl <;> first | exact absurd rfl hne | rfl
theorem fld_upd {side s' : Nat} (h1 : side < 3) (h2 : s' < 3) (hne : s' ≠ side) (ns : List ByteArray) (t : Tr) : fld s' (updT side ns t) = fld s' t := by
  unfold updT; split
  · exact fld_other h1 h2 hne _ _
  · rfl
theorem fld_new {s' : Nat} (h : s' < 3) (s : ByteArray) : fld s' (newTr s) = -1 := by
  have b : s' = 0 ∨ s' = 1 ∨ s' = 2 := by omega
  rcases b with rfl | rfl | rfl <;> rfl
theorem newL_fld {side : Nat} (h1 : side < 3) (old : List ByteArray) : ∀ (ns : List ByteArray) (i : Nat), ∀ t ∈ newL side old ns i, (i : Int) ≤ fld side t ∧ ∀ s', s' < 3 → s' ≠ side → fld s' t = -1
  | [], _, t, h => by simp [newL] at h
  | s :: ns, i, t, h => by
    have ih := newL_fld h1 old ns (i + 1)
    simp only [newL] at h
    split at h
    · obtain ⟨a, b⟩ := ih t h; exact ⟨by omega, b⟩
    · rcases List.mem_cons.1 h with rfl | h
      · exact ⟨by rw [fld_same]; omega, fun s' h2 hne => by rw [fld_other h1 h2 hne]; exact fld_new h2 _⟩
      · obtain ⟨a, b⟩ := ih t h; exact ⟨by omega, b⟩
theorem newL_rise {side : Nat} (h1 : side < 3) (old : List ByteArray) : ∀ (ns : List ByteArray) (i : Nat), (newL side old ns i).Pairwise fun a b => fld side a < fld side b
  | [], _ => by simp [newL]
  | s :: ns, i => by
    have ih := newL_rise h1 old ns (i + 1)
    simp only [newL]
    split
    · exact ih
    · refine List.pairwise_cons.2 ⟨fun t ht => ?_, ih⟩
      have := (newL_fld h1 old ns (i + 1) t ht).1
      rw [fld_same]; omega
theorem newL_len0 : ∀ (ns : List ByteArray) (i : Nat), (newL 0 [] ns i).length = ns.length
  | [], _ => rfl
  | s :: ns, i => by
    have ih := newL_len0 ns (i + 1)
    simp only [newL]
    rw [if_neg (by simp)]
    simp [ih]
/-- What stands behind base's, s1's names put ahead of s2's. -/
def tail2 (s1 s2 : Nat) (xb n1 n2 : List ByteArray) : List Tr := (newL s1 xb n1 0).map (updT s2 n2) ++ newL s2 (xb ++ n1.filter fun s => decide (s ∉ xb)) n2 0
def base2 (s1 s2 : Nat) (xb n1 n2 : List ByteArray) : List Tr := ((newL 0 [] xb 0).map (updT s1 n1)).map (updT s2 n2)
theorem base2_len (s1 s2 : Nat) (xb n1 n2 : List ByteArray) : (base2 s1 s2 xb n1 n2).length = xb.length := by simp [base2, newL_len0]
theorem ids0 (xb : List ByteArray) : (newL 0 [] xb 0).map Tr.id = xb := by
  rw [newL_ids]
  exact List.filter_eq_self.2 fun s _ => by simp
theorem filter_nodup {xb n1 : List ByteArray} (hb : xb.Nodup) (h1 : n1.Nodup) : (xb ++ n1.filter fun s => decide (s ∉ xb)).Nodup := by
  refine List.nodup_append.2 ⟨hb, h1.filter _, fun a ha b hb' e => ?_⟩
  subst e
  have := (List.mem_filter.1 hb').2
  simp at this
  exact this ha
theorem placed2 (s1 s2 : Nat) {xb n1 n2 : List ByteArray} (hb : xb.Nodup) (h1 : n1.Nodup) (h2 : n2.Nodup) : placeN s2 n2 (placeN s1 n1 (placeN 0 xb [] xb.length) n1.length) n2.length = base2 s1 s2 xb n1 n2 ++ tail2 s1 s2 xb n1 n2 := by
  have e0 : placeN 0 xb [] xb.length = newL 0 [] xb 0 := by
    have := placeN_eq 0 xb hb [] (by simp) xb.length (Nat.le_refl _)
    rw [List.take_length] at this
    simpa using this
  have e1 : placeN s1 n1 (newL 0 [] xb 0) n1.length = (newL 0 [] xb 0).map (updT s1 n1) ++ newL s1 xb n1 0 := by
    have := placeN_eq s1 n1 h1 (newL 0 [] xb 0) (by rw [ids0]; exact hb) n1.length (Nat.le_refl _)
    rwa [List.take_length, ids0] at this
  have hid : ((newL 0 [] xb 0).map (updT s1 n1) ++ newL s1 xb n1 0).map Tr.id = xb ++ n1.filter fun s => decide (s ∉ xb) := by
    rw [List.map_append, newL_ids, List.map_map]
    congr 1
    rw [← ids0 xb]
    conv => lhs; rw [ids0]
    exact List.map_congr_left fun t _ => updT_id _ _ t
  have e2 := placeN_eq s2 n2 h2 ((newL 0 [] xb 0).map (updT s1 n1) ++ newL s1 xb n1 0) (by rw [hid]; exact filter_nodup hb h1) n2.length (Nat.le_refl _)
  rw [List.take_length, hid] at e2
  rw [e0, e1, e2, List.map_append, base2, tail2, List.append_assoc]
theorem tail2_ids (s1 s2 : Nat) {xb n1 n2 : List ByteArray} (hb : xb.Nodup) (h1 : n1.Nodup) (h2 : n2.Nodup) : ((tail2 s1 s2 xb n1 n2).map Tr.id).Nodup := by
  have h := filter_nodup (filter_nodup hb h1) h2
  rw [List.append_assoc, List.nodup_append] at h
  rw [tail2, List.map_append, newL_ids, List.map_map]
  have e : (newL s1 xb n1 0).map (Tr.id ∘ updT s2 n2) = n1.filter fun s => decide (s ∉ xb) := by
    rw [← newL_ids s1 xb n1 0]
    exact List.map_congr_left fun t _ => updT_id _ _ t
  rw [e]
  exact h.2.1
/-- The order of what is new: s1's in its order ahead of s2's others. -/
def Ahead (s1 s2 : Nat) (a b : Tr) : Prop := (0 ≤ fld s1 a ∧ (fld s1 b < 0 ∨ fld s1 a < fld s1 b)) ∨ (fld s1 a < 0 ∧ fld s1 b < 0 ∧ fld s2 a < fld s2 b)
theorem tail2_ahead {s1 s2 : Nat} (h1 : s1 < 3) (h2 : s2 < 3) (hne : s1 ≠ s2) (xb n1 n2 : List ByteArray) : (tail2 s1 s2 xb n1 n2).Pairwise (Ahead s1 s2) := by
  have f1 := newL_fld h1 xb n1 0
  have f2 := newL_fld h2 (xb ++ n1.filter fun s => decide (s ∉ xb)) n2 0
  refine List.pairwise_append.2 ⟨List.pairwise_map.2 ?_, ?_, ?_⟩
  · refine (newL_rise h1 xb n1 0).imp_of_mem fun {a b} ha hb h => ?_
    have := (f1 a ha).1
    refine .inl ⟨by rw [fld_upd h2 h1 hne]; omega, .inr (by rw [fld_upd h2 h1 hne, fld_upd h2 h1 hne]; exact h)⟩
  · refine (newL_rise h2 _ n2 0).imp_of_mem fun {a b} ha hb h => ?_
    have e1 := (f2 a ha).2 s1 h1 hne
    have e2 := (f2 b hb).2 s1 h1 hne
    exact .inr ⟨by omega, by omega, h⟩
  · intro a ha b hb
    obtain ⟨t, ht, rfl⟩ := List.mem_map.1 ha
    have := (f1 t ht).1
    have e2 := (f2 b hb).2 s1 h1 hne
    exact .inl ⟨by rw [fld_upd h2 h1 hne]; omega, .inl (by omega)⟩
/-- How two that are new stand. -/
def Stand (u : Int) (a b : Tr) : Prop := if u = 1 then Ahead 1 2 a b else if u = 2 then Ahead 2 1 a b else a.id.toList < b.id.toList
theorem plan_stand {u : Int} {xb xl xr : List ByteArray} (hb : xb.Nodup) (hl : xl.Nodup) (hr : xr.Nodup) {T : List Tr} (h : PlanIs u xb xl xr T) : (T.drop xb.length).Pairwise (Stand u) := by
  have d : ∀ s1 s2 n1 n2, (base2 s1 s2 xb n1 n2 ++ tail2 s1 s2 xb n1 n2).drop xb.length = tail2 s1 s2 xb n1 n2 := fun s1 s2 n1 n2 => by
    have := List.drop_left' (l₁ := base2 s1 s2 xb n1 n2) (l₂ := tail2 s1 s2 xb n1 n2) (base2_len s1 s2 xb n1 n2)
    exact this
  rw [PlanIs] at h
  by_cases h1 : u = 1
  · rw [if_pos (.inl h1)] at h
    subst h
    rw [placed, if_neg (by omega), placed2 1 2 hb hl hr, d]
    refine (tail2_ahead (by omega) (by omega) (by omega) xb xl xr).imp fun {a b} hab => ?_
    rw [Stand, if_pos h1]; exact hab
  · by_cases h2 : u = 2
    · rw [if_pos (.inr h2)] at h
      subst h
      rw [placed, if_pos h2, placed2 2 1 hb hr hl, d]
      refine (tail2_ahead (by omega) (by omega) (by omega) xb xr xl).imp fun {a b} hab => ?_
      rw [Stand, if_neg h1, if_pos h2]; exact hab
    · rw [if_neg (by omega)] at h
      obtain ⟨S, hp, hs, rfl⟩ := h
      rw [placed, if_neg h2, placed2 1 2 hb hl hr] at hp ⊢
      rw [d] at hp
      have hlen : ((base2 1 2 xb xl xr ++ tail2 1 2 xb xl xr).take xb.length).length = xb.length := by
        rw [List.length_take, List.length_append, base2_len]; omega
      rw [List.drop_left' hlen]
      have hn : (S.map Tr.id).Nodup := (hp.map Tr.id).nodup_iff.2 (tail2_ids 1 2 hb hl hr)
      have hn' : S.Pairwise fun a b => a.id ≠ b.id := List.pairwise_map.1 hn
      refine (hs.and hn').imp fun {a b} hab => ?_
      rw [Stand, if_neg h1, if_neg h2]
      rcases List.le_iff_lt_or_eq.1 hab.1 with h | h
      · exact h
      · exact absurd (bl_eq h) hab.2
end Go.Proofs.YtcpdogjcofkpcaaGreatDoor

namespace Go.Proofs.YtcpdogjcofkpcaaGreatDoor
open Go.RowKit Go.Sort

def idxI (ns : List ByteArray) (s : ByteArray) : Int := match idxB ns s with | some i => ((i : Nat) : Int) | none => -1
theorem idxI_none {ns : List ByteArray} {s : ByteArray} (h : s ∉ ns) : idxI ns s = -1 := by rw [idxI, idxB_none.2 h]
theorem idxI_at {ns : List ByteArray} {s : ByteArray} {j : Nat} (h : ns[j]? = some s) (hn : ns.Nodup) : idxI ns s = (j : Int) := by rw [idxI, idxB_at h hn]
theorem idxI_cases (ns : List ByteArray) (s : ByteArray) : (s ∉ ns ∧ idxI ns s = -1) ∨ ∃ j : Nat, idxI ns s = (j : Int) ∧ ns[j]? = some s := by
  cases h : idxB ns s with
  | none => exact .inl ⟨idxB_none.1 h, by rw [idxI, h]⟩
  | some i => exact .inr ⟨i, by rw [idxI, h], idxB_some h⟩
theorem idxI_mem (ns : List ByteArray) (s : ByteArray) : 0 ≤ idxI ns s ↔ s ∈ ns := by
  rcases idxI_cases ns s with ⟨h, e⟩ | ⟨j, e, h⟩
  · rw [e]; exact ⟨fun h => by omega, fun h' => absurd h' h⟩
  · rw [e]; exact ⟨fun _ => List.mem_of_getElem? h, fun _ => by omega⟩
def mk3 (xb xl xr : List ByteArray) (s : ByteArray) : Tr := ⟨s, idxI xb s, idxI xl s, idxI xr s⟩
def Tr.swap (t : Tr) : Tr := ⟨t.id, t.b, t.r, t.l⟩

theorem updT_fld {side : Nat} (ns : List ByteArray) (t : Tr) (h0 : fld side t = -1) : fld side (updT side ns t) = idxI ns t.id := by
  rw [updT, idxI]
  cases h : idxB ns t.id with
  | none => exact h0
  | some i => exact fld_same _ _ _
theorem newL_mem (side : Nat) (old : List ByteArray) : ∀ (ns : List ByteArray) (i : Nat), ∀ t ∈ newL side old ns i, ∃ j : Nat, ns[j]? = some t.id ∧ fld side t = ((i + j : Nat) : Int) ∧ t.id ∉ old
  | [], _, t, h => by simp [newL] at h
  | s :: ns, i, t, h => by
    have ih := newL_mem side old ns (i + 1)
    simp only [newL] at h
    have up : t ∈ newL side old ns (i + 1) → ∃ j : Nat, (s :: ns)[j]? = some t.id ∧ fld side t = ((i + j : Nat) : Int) ∧ t.id ∉ old := fun h => by
      obtain ⟨j, h1, h2, h3⟩ := ih t h
      exact ⟨j + 1, by simpa using h1, by rw [h2]; omega, h3⟩
    split at h
    · exact up h
    · rename_i hs
      rcases List.mem_cons.1 h with rfl | h
      · exact ⟨0, by simp [Tr.put_id, newTr], by rw [fld_same]; rfl, by rw [Tr.put_id]; exact hs⟩
      · exact up h
theorem newL_idx {side : Nat} {old ns : List ByteArray} (hn : ns.Nodup) {t : Tr} (h : t ∈ newL side old ns 0) : fld side t = idxI ns t.id ∧ t.id ∉ old := by
  obtain ⟨j, h1, h2, h3⟩ := newL_mem side old ns 0 t h
  exact ⟨by rw [idxI_at h1 hn, h2, Nat.zero_add], h3⟩
theorem two_fld {s1 s2 : Nat} (h1 : s1 < 3) (h2 : s2 < 3) (hne : s1 ≠ s2) (z1 : s1 ≠ 0) (z2 : s2 ≠ 0) {xb n1 n2 : List ByteArray} (hb : xb.Nodup) (hn1 : n1.Nodup) (hn2 : n2.Nodup) :
    ∀ t ∈ base2 s1 s2 xb n1 n2 ++ tail2 s1 s2 xb n1 n2, fld 0 t = idxI xb t.id ∧ fld s1 t = idxI n1 t.id ∧ fld s2 t = idxI n2 t.id := by
  intro t ht
  rcases List.mem_append.1 ht with ht | ht
  · rw [base2, List.map_map] at ht
    obtain ⟨t0, ht0, rfl⟩ := List.mem_map.1 ht
    have f := (newL_fld (by omega : 0 < 3) [] xb 0 t0 ht0).2
    have e := (newL_idx hb ht0).1
    simp only [Function.comp, updT_id]
    refine ⟨?_, ?_, ?_⟩
    · rw [fld_upd h2 (by omega) (Ne.symm z2), fld_upd h1 (by omega) (Ne.symm z1)]; exact e
    · rw [fld_upd h2 h1 hne]; exact updT_fld n1 t0 (f s1 h1 z1)
    · rw [updT_fld n2 _ (by rw [fld_upd h1 h2 (Ne.symm hne)]; exact f s2 h2 z2), updT_id]
  · rw [tail2] at ht
    rcases List.mem_append.1 ht with ht | ht
    · obtain ⟨t0, ht0, rfl⟩ := List.mem_map.1 ht
      have f := (newL_fld h1 xb n1 0 t0 ht0).2
      obtain ⟨e, hx⟩ := newL_idx hn1 ht0
      rw [updT_id]
      refine ⟨?_, ?_, ?_⟩
      · rw [fld_upd h2 (by omega) (Ne.symm z2), f 0 (by omega) (Ne.symm z1), idxI_none hx]
      · rw [fld_upd h2 h1 hne]; exact e
      · exact updT_fld n2 t0 (f s2 h2 (Ne.symm hne))
    · have f := (newL_fld h2 _ n2 0 t ht).2
      obtain ⟨e, hx⟩ := newL_idx hn2 ht
      have hx1 : t.id ∉ xb := fun h => hx (List.mem_append_left _ h)
      have hx2 : t.id ∉ n1 := fun h => hx (List.mem_append_right _ (List.mem_filter.2 ⟨h, by simpa using hx1⟩))
      exact ⟨by rw [f 0 (by omega) (Ne.symm z2), idxI_none hx1], by rw [f s1 h1 hne, idxI_none hx2], e⟩
def newIds (xb n1 n2 : List ByteArray) : List ByteArray := (n1.filter fun s => decide (s ∉ xb)) ++ n2.filter fun s => decide (s ∉ xb ++ n1.filter fun s => decide (s ∉ xb))
theorem newIds_mem {xb n1 n2 : List ByteArray} {s : ByteArray} : s ∈ newIds xb n1 n2 ↔ s ∉ xb ∧ (s ∈ n1 ∨ s ∈ n2) := by
  rw [newIds, List.mem_append, List.mem_filter, List.mem_filter]
  simp only [decide_eq_true_eq, List.mem_append, List.mem_filter]
  constructor
  · rintro (⟨h, g⟩ | ⟨h, g⟩)
    · exact ⟨g, .inl h⟩
    · exact ⟨fun h' => g (.inl h'), .inr h⟩
  · rintro ⟨g, h⟩
    by_cases h1 : s ∈ n1
    · exact .inl ⟨h1, g⟩
    · exact .inr ⟨h.resolve_left h1, fun h' => h'.elim g fun h'' => h1 h''.1⟩
theorem newIds_nodup {xb n1 n2 : List ByteArray} (hb : xb.Nodup) (h1 : n1.Nodup) (h2 : n2.Nodup) : (newIds xb n1 n2).Nodup := by
  have h := filter_nodup (filter_nodup hb h1) h2
  rw [List.append_assoc, List.nodup_append] at h
  exact h.2.1
theorem newIds_perm {xb n1 n2 : List ByteArray} (hb : xb.Nodup) (h1 : n1.Nodup) (h2 : n2.Nodup) : (newIds xb n1 n2).Perm (newIds xb n2 n1) :=
  (List.perm_ext_iff_of_nodup (newIds_nodup hb h1 h2) (newIds_nodup hb h2 h1)).2 fun s => by rw [newIds_mem, newIds_mem]; exact and_congr_right fun _ => or_comm
theorem base2_ids (s1 s2 : Nat) (xb n1 n2 : List ByteArray) : (base2 s1 s2 xb n1 n2).map Tr.id = xb := by
  rw [base2, List.map_map, List.map_map]
  conv => rhs; rw [← ids0 xb]
  exact List.map_congr_left fun t _ => by simp [updT_id]
theorem tail2_ids' (s1 s2 : Nat) (xb n1 n2 : List ByteArray) : (tail2 s1 s2 xb n1 n2).map Tr.id = newIds xb n1 n2 := by
  rw [tail2, List.map_append, newL_ids, List.map_map, newIds]
  congr 1
  rw [← newL_ids s1 xb n1 0]
  exact List.map_congr_left fun t _ => updT_id _ _ t
/-- How the ids stand. -/
def IdsAre (u : Int) (xb xl xr ids : List ByteArray) : Prop := ∃ S, ids = xb ++ S ∧ S.Perm (newIds xb xl xr) ∧ (u = 1 → S = newIds xb xl xr) ∧ (u = 2 → S = newIds xb xr xl) ∧ (u ≠ 1 → u ≠ 2 → S.Pairwise fun a b => a.toList ≤ b.toList)
theorem plan_ids {u : Int} {xb xl xr : List ByteArray} (hb : xb.Nodup) (hl : xl.Nodup) (hr : xr.Nodup) {T : List Tr} (h : PlanIs u xb xl xr T) : (∀ t ∈ T, t = mk3 xb xl xr t.id) ∧ IdsAre u xb xl xr (T.map Tr.id) := by
  have F1 : ∀ t ∈ base2 1 2 xb xl xr ++ tail2 1 2 xb xl xr, t = mk3 xb xl xr t.id := fun t ht => by
    obtain ⟨a, b, c⟩ := two_fld (by omega) (by omega) (by omega) (by omega) (by omega) hb hl hr t ht
    cases t; simp only [mk3, Tr.mk.injEq, true_and]; exact ⟨a, b, c⟩
  have F2 : ∀ t ∈ base2 2 1 xb xr xl ++ tail2 2 1 xb xr xl, t = mk3 xb xl xr t.id := fun t ht => by
    obtain ⟨a, b, c⟩ := two_fld (by omega) (by omega) (by omega) (by omega) (by omega) hb hr hl t ht
    cases t; simp only [mk3, Tr.mk.injEq, true_and]; exact ⟨a, c, b⟩
  rw [PlanIs] at h
  by_cases h2 : u = 2
  · rw [if_pos (.inr h2)] at h
    subst h
    rw [placed, if_pos h2, placed2 2 1 hb hr hl]
    refine ⟨F2, newIds xb xr xl, by rw [List.map_append, base2_ids, tail2_ids'], newIds_perm hb hr hl, fun h => by omega, fun _ => rfl, fun _ h => absurd h2 h⟩
  · have e : placed u xb xl xr = base2 1 2 xb xl xr ++ tail2 1 2 xb xl xr := by rw [placed, if_neg h2, placed2 1 2 hb hl hr]
    rw [e] at h
    by_cases h1 : u = 1
    · rw [if_pos (.inl h1)] at h
      subst h
      exact ⟨F1, newIds xb xl xr, by rw [List.map_append, base2_ids, tail2_ids'], .refl _, fun _ => rfl, fun h => absurd h h2, fun h => absurd h1 h⟩
    · rw [if_neg (by omega)] at h
      obtain ⟨S, hp, hs, rfl⟩ := h
      rw [List.drop_left' (base2_len 1 2 xb xl xr)] at hp
      rw [List.take_left' (base2_len 1 2 xb xl xr)]
      refine ⟨fun t ht => ?_, S.map Tr.id, by rw [List.map_append, base2_ids], ?_, fun h => absurd h h1, fun h => absurd h h2, fun _ _ => List.pairwise_map.2 hs⟩
      · rcases List.mem_append.1 ht with ht | ht
        · exact F1 t (List.mem_append_left _ ht)
        · exact F1 t (List.mem_append_right _ (hp.mem_iff.1 ht))
      · rw [← tail2_ids' 1 2]; exact hp.map _
theorem ids_nodup {u : Int} {xb xl xr ids : List ByteArray} (hb : xb.Nodup) (hl : xl.Nodup) (hr : xr.Nodup) (h : IdsAre u xb xl xr ids) : ids.Nodup ∧ ∀ s, s ∈ ids ↔ s ∈ xb ∨ s ∈ xl ∨ s ∈ xr := by
  obtain ⟨S, rfl, hp, -⟩ := h
  refine ⟨List.nodup_append.2 ⟨hb, hp.nodup_iff.2 (newIds_nodup hb hl hr), fun a ha b hb' e => ?_⟩, fun s => ?_⟩
  · subst e
    exact (newIds_mem.1 (hp.mem_iff.1 hb')).1 ha
  · rw [List.mem_append, hp.mem_iff, newIds_mem]
    by_cases hs : s ∈ xb
    · simp [hs]
    · simp [hs]
theorem sortedB_eq {S S' : List ByteArray} (hp : S.Perm S') (h : S.Pairwise fun a b => a.toList ≤ b.toList) (h' : S'.Pairwise fun a b => a.toList ≤ b.toList) : S = S' :=
  hp.eq_of_pairwise (fun _ _ _ _ h1 h2 => bl_eq (List.le_antisymm h1 h2)) h h'
theorem ids_turn {u : Int} (hu : 0 ≤ u ∧ u ≤ 2) {xb xl xr I J : List ByteArray} (hb : xb.Nodup) (hl : xl.Nodup) (hr : xr.Nodup) (h : IdsAre u xb xl xr I) (h' : IdsAre (if u = 0 then 0 else 3 - u) xb xr xl J) : I = J := by
  obtain ⟨S, rfl, hp, a1, a2, a3⟩ := h
  obtain ⟨S', rfl, hp', b1, b2, b3⟩ := h'
  congr 1
  have c : u = 0 ∨ u = 1 ∨ u = 2 := by omega
  rcases c with rfl | rfl | rfl
  · exact sortedB_eq (hp.trans ((newIds_perm hb hl hr).trans hp'.symm)) (a3 (by omega) (by omega)) (b3 (by simp) (by simp))
  · rw [a1 rfl, b2 (by simp)]
  · rw [a2 rfl, b1 (by simp)]
theorem plan_turn {u : Int} (hu : 0 ≤ u ∧ u ≤ 2) {xb xl xr : List ByteArray} (hb : xb.Nodup) (hl : xl.Nodup) (hr : xr.Nodup) {T U : List Tr} (h : PlanIs u xb xl xr T) (h' : PlanIs (if u = 0 then 0 else 3 - u) xb xr xl U) : U = T.map Tr.swap := by
  obtain ⟨f1, i1⟩ := plan_ids hb hl hr h
  obtain ⟨f2, i2⟩ := plan_ids hb hr hl h'
  have e := ids_turn hu hb hl hr i1 i2
  have e1 : T = (T.map Tr.id).map (mk3 xb xl xr) := by
    rw [List.map_map]
    conv => lhs; rw [← List.map_id T]
    exact List.map_congr_left fun t ht => f1 t ht
  have e2 : U = (U.map Tr.id).map (mk3 xb xr xl) := by
    rw [List.map_map]
    conv => lhs; rw [← List.map_id U]
    exact List.map_congr_left fun t ht => f2 t ht
  have e3 : T.map Tr.swap = ((T.map Tr.id).map (mk3 xb xl xr)).map Tr.swap := congrArg (List.map Tr.swap) e1
  rw [e3, e2, ← e]
  generalize T.map Tr.id = I
  rw [List.map_map]
  exact List.map_congr_left fun s _ => rfl
theorem count_in {ids xs : List ByteArray} (hi : ids.Nodup) (hx : xs.Nodup) (hs : ∀ s ∈ xs, s ∈ ids) : (ids.filter fun s => decide (0 ≤ idxI xs s)).length = xs.length := by
  refine ((List.perm_ext_iff_of_nodup (hi.filter _) hx).2 fun s => ?_).length_eq
  rw [List.mem_filter, decide_eq_true_eq, idxI_mem]
  exact ⟨fun h => h.2, fun h => ⟨hs s h, h⟩⟩
/-- What KeyedsEach asks of the triples. -/
structure EachOk (xb xl xr : List ByteArray) (T : List Tr) : Prop where
  ids : (T.map Tr.id).Nodup
  base : ∀ (i : Nat) (t : Tr), T[i]? = Option.some t → (i < xb.length → t.b = (i : Int)) ∧ (¬ i < xb.length → t.b = -1)
  any : ∀ t ∈ T, 0 ≤ t.b ∨ 0 ≤ t.l ∨ 0 ≤ t.r
  pb : ∀ t ∈ T, t.b = -1 ∨ ∃ j : Nat, t.b = (j : Int) ∧ xb[j]? = Option.some t.id
  pl : ∀ t ∈ T, t.l = -1 ∨ ∃ j : Nat, t.l = (j : Int) ∧ xl[j]? = Option.some t.id
  pr : ∀ t ∈ T, t.r = -1 ∨ ∃ j : Nat, t.r = (j : Int) ∧ xr[j]? = Option.some t.id
  cb : (T.filter fun t => decide (0 ≤ t.b)).length = xb.length
  cl : (T.filter fun t => decide (0 ≤ t.l)).length = xl.length
  cr : (T.filter fun t => decide (0 ≤ t.r)).length = xr.length
theorem each_ok {u : Int} {xb xl xr : List ByteArray} (hb : xb.Nodup) (hl : xl.Nodup) (hr : xr.Nodup) {T : List Tr} (h : PlanIs u xb xl xr T) : EachOk xb xl xr T := by
  obtain ⟨f, hi⟩ := plan_ids hb hl hr h
  obtain ⟨hn, hm⟩ := ids_nodup hb hl hr hi
  have hid : ∀ t ∈ T, t.id ∈ xb ∨ t.id ∈ xl ∨ t.id ∈ xr := fun t ht => (hm t.id).1 (List.mem_map_of_mem ht)
  have fb : ∀ t ∈ T, t.b = idxI xb t.id := fun t ht => by conv => lhs; rw [f t ht]
                                                          rfl
  have fl : ∀ t ∈ T, t.l = idxI xl t.id := fun t ht => by conv => lhs; rw [f t ht]
                                                          rfl
  have fr : ∀ t ∈ T, t.r = idxI xr t.id := fun t ht => by conv => lhs; rw [f t ht]
                                                          rfl
  have P : ∀ (ns : List ByteArray) (s : ByteArray), idxI ns s = -1 ∨ ∃ j : Nat, idxI ns s = (j : Int) ∧ ns[j]? = some s := fun ns s => (idxI_cases ns s).imp (·.2) id
  have C : ∀ (g : Tr → Int) (xs : List ByteArray), (∀ t ∈ T, g t = idxI xs t.id) → xs.Nodup → (∀ s ∈ xs, s ∈ T.map Tr.id) → (T.filter fun t => decide (0 ≤ g t)).length = xs.length := fun g xs hg hx hs => by
    rw [← count_in hn hx hs, List.filter_map, List.length_map]
    congr 1
    exact List.filter_congr fun t ht => by rw [hg t ht]; rfl
  obtain ⟨S, hS, hp, -⟩ := hi
  refine ⟨hn, fun i t hit => ?_, fun t ht => ?_, fun t ht => by rw [fb t ht]; exact P _ _, fun t ht => by rw [fl t ht]; exact P _ _, fun t ht => by rw [fr t ht]; exact P _ _,
    C Tr.b xb fb hb fun s hs => (hm s).2 (.inl hs), C Tr.l xl fl hl fun s hs => (hm s).2 (.inr (.inl hs)), C Tr.r xr fr hr fun s hs => (hm s).2 (.inr (.inr hs))⟩
  · have ht := List.mem_of_getElem? hit
    have hg : (xb ++ S)[i]? = some t.id := by rw [← hS, List.getElem?_map, hit]; rfl
    rw [fb t ht]
    refine ⟨fun hlt => idxI_at (by rw [List.getElem?_append_left hlt] at hg; exact hg) hb, fun hge => idxI_none fun hx => ?_⟩
    rw [List.getElem?_append_right (by omega)] at hg
    exact (newIds_mem.1 (hp.mem_iff.1 (List.mem_of_getElem? hg))).1 hx
  · rw [fb t ht, fl t ht, fr t ht, idxI_mem, idxI_mem, idxI_mem]
    exact hid t ht
end Go.Proofs.YtcpdogjcofkpcaaGreatDoor
