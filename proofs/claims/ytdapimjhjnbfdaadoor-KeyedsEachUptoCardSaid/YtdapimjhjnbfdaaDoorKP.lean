/-
  The plain law of KeyedsEach: a triple's places are those of its name in the lists; ids are base's, then the new ones; turned round the triples are those turned round.
-/
import Derived.Test.YtdapimjhjnbfdaaDoorKN
namespace Go.Proofs.YtdapimjhjnbfdaaDoor
open Go.RowKit Go.Sort

def idxI (ns : List ByteArray) (s : ByteArray) : Int := match idxB ns s with | some i => ((i : Nat) : Int) | none => -1
theorem idxI_none {ns : List ByteArray} {s : ByteArray} (h : s ∉ ns) : idxI ns s = -1 := by rw [idxI, idxB_none.2 h]
theorem idxI_at {ns : List ByteArray} {s : ByteArray} {j : Nat} (h : ns[j]? = some s) (hn : ns.Nodup) : idxI ns s = (j : Int) := by rw [idxI, idxB_at h hn]
theorem idxI_cases (ns : List ByteArray) (s : ByteArray) : (s ∉ ns ∧ idxI ns s = -1) ∨ ∃ j : Nat, idxI ns s = (j : Int) ∧ ns[j]? = some s := by
  cases h : idxB ns s with
  | none => exact .inl ⟨idxB_none.1 h, by rw [idxI, h]⟩
  | some i => exact .inr ⟨i, by rw [idxI, h], idxB_some h⟩
theorem idxI_mem (ns : List ByteArray) (s : ByteArray) : 0 ≤ idxI ns s ↔ s ∈ ns := by
  rcases idxI_cases ns s with ⟨h, e⟩ | ⟨j, e, h⟩
  · rw [e]; exact ⟨fun h => by omega, fun h' => absurd h' h⟩
  · rw [e]; exact ⟨fun _ => List.mem_of_getElem? h, fun _ => by omega⟩
def mk3 (xb xl xr : List ByteArray) (s : ByteArray) : Tr := ⟨s, idxI xb s, idxI xl s, idxI xr s⟩
def Tr.swap (t : Tr) : Tr := ⟨t.id, t.b, t.r, t.l⟩

theorem updT_fld {side : Nat} (ns : List ByteArray) (t : Tr) (h0 : fld side t = -1) : fld side (updT side ns t) = idxI ns t.id := by
  rw [updT, idxI]
  cases h : idxB ns t.id with
  | none => exact h0
  | some i => exact fld_same _ _ _
theorem newL_mem (side : Nat) (old : List ByteArray) : ∀ (ns : List ByteArray) (i : Nat), ∀ t ∈ newL side old ns i, ∃ j : Nat, ns[j]? = some t.id ∧ fld side t = ((i + j : Nat) : Int) ∧ t.id ∉ old
  | [], _, t, h => by simp [newL] at h
  | s :: ns, i, t, h => by
    have ih := newL_mem side old ns (i + 1)
    simp only [newL] at h
    have up : t ∈ newL side old ns (i + 1) → ∃ j : Nat, (s :: ns)[j]? = some t.id ∧ fld side t = ((i + j : Nat) : Int) ∧ t.id ∉ old := fun h => by
      obtain ⟨j, h1, h2, h3⟩ := ih t h
      exact ⟨j + 1, by simpa using h1, by rw [h2]; omega, h3⟩
    split at h
    · exact up h
    · rename_i hs
      rcases List.mem_cons.1 h with rfl | h
      · exact ⟨0, by simp [Tr.put_id, newTr], by rw [fld_same]; rfl, by rw [Tr.put_id]; exact hs⟩
      · exact up h
theorem newL_idx {side : Nat} {old ns : List ByteArray} (hn : ns.Nodup) {t : Tr} (h : t ∈ newL side old ns 0) : fld side t = idxI ns t.id ∧ t.id ∉ old := by
  obtain ⟨j, h1, h2, h3⟩ := newL_mem side old ns 0 t h
  exact ⟨by rw [idxI_at h1 hn, h2, Nat.zero_add], h3⟩
theorem two_fld {s1 s2 : Nat} (h1 : s1 < 3) (h2 : s2 < 3) (hne : s1 ≠ s2) (z1 : s1 ≠ 0) (z2 : s2 ≠ 0) {xb n1 n2 : List ByteArray} (hb : xb.Nodup) (hn1 : n1.Nodup) (hn2 : n2.Nodup) :
    ∀ t ∈ base2 s1 s2 xb n1 n2 ++ tail2 s1 s2 xb n1 n2, fld 0 t = idxI xb t.id ∧ fld s1 t = idxI n1 t.id ∧ fld s2 t = idxI n2 t.id := by
  intro t ht
  rcases List.mem_append.1 ht with ht | ht
  · rw [base2, List.map_map] at ht
    obtain ⟨t0, ht0, rfl⟩ := List.mem_map.1 ht
    have f := (newL_fld (by omega : 0 < 3) [] xb 0 t0 ht0).2
    have e := (newL_idx hb ht0).1
    simp only [Function.comp, updT_id]
    refine ⟨?_, ?_, ?_⟩
    · rw [fld_upd h2 (by omega) (Ne.symm z2), fld_upd h1 (by omega) (Ne.symm z1)]; exact e
    · rw [fld_upd h2 h1 hne]; exact updT_fld n1 t0 (f s1 h1 z1)
    · rw [updT_fld n2 _ (by rw [fld_upd h1 h2 (Ne.symm hne)]; exact f s2 h2 z2), updT_id]
  · rw [tail2] at ht
    rcases List.mem_append.1 ht with ht | ht
    · obtain ⟨t0, ht0, rfl⟩ := List.mem_map.1 ht
      have f := (newL_fld h1 xb n1 0 t0 ht0).2
      obtain ⟨e, hx⟩ := newL_idx hn1 ht0
      rw [updT_id]
      refine ⟨?_, ?_, ?_⟩
      · rw [fld_upd h2 (by omega) (Ne.symm z2), f 0 (by omega) (Ne.symm z1), idxI_none hx]
      · rw [fld_upd h2 h1 hne]; exact e
      · exact updT_fld n2 t0 (f s2 h2 (Ne.symm hne))
    · have f := (newL_fld h2 _ n2 0 t ht).2
      obtain ⟨e, hx⟩ := newL_idx hn2 ht
      have hx1 : t.id ∉ xb := fun h => hx (List.mem_append_left _ h)
      have hx2 : t.id ∉ n1 := fun h => hx (List.mem_append_right _ (List.mem_filter.2 ⟨h, by simpa using hx1⟩))
      exact ⟨by rw [f 0 (by omega) (Ne.symm z2), idxI_none hx1], by rw [f s1 h1 hne, idxI_none hx2], e⟩
def newIds (xb n1 n2 : List ByteArray) : List ByteArray := (n1.filter fun s => decide (s ∉ xb)) ++ n2.filter fun s => decide (s ∉ xb ++ n1.filter fun s => decide (s ∉ xb))
theorem newIds_mem {xb n1 n2 : List ByteArray} {s : ByteArray} : s ∈ newIds xb n1 n2 ↔ s ∉ xb ∧ (s ∈ n1 ∨ s ∈ n2) := by
  rw [newIds, List.mem_append, List.mem_filter, List.mem_filter]
  simp only [decide_eq_true_eq, List.mem_append, List.mem_filter]
  constructor
  · rintro (⟨h, g⟩ | ⟨h, g⟩)
    · exact ⟨g, .inl h⟩
    · exact ⟨fun h' => g (.inl h'), .inr h⟩
  · rintro ⟨g, h⟩
    by_cases h1 : s ∈ n1
    · exact .inl ⟨h1, g⟩
    · exact .inr ⟨h.resolve_left h1, fun h' => h'.elim g fun h'' => h1 h''.1⟩
theorem newIds_nodup {xb n1 n2 : List ByteArray} (hb : xb.Nodup) (h1 : n1.Nodup) (h2 : n2.Nodup) : (newIds xb n1 n2).Nodup := by
  have h := filter_nodup (filter_nodup hb h1) h2
  rw [List.append_assoc, List.nodup_append] at h
  exact h.2.1
theorem newIds_perm {xb n1 n2 : List ByteArray} (hb : xb.Nodup) (h1 : n1.Nodup) (h2 : n2.Nodup) : (newIds xb n1 n2).Perm (newIds xb n2 n1) :=
  (List.perm_ext_iff_of_nodup (newIds_nodup hb h1 h2) (newIds_nodup hb h2 h1)).2 fun s => by rw [newIds_mem, newIds_mem]; exact and_congr_right fun _ => or_comm
theorem base2_ids (s1 s2 : Nat) (xb n1 n2 : List ByteArray) : (base2 s1 s2 xb n1 n2).map Tr.id = xb := by
  rw [base2, List.map_map, List.map_map]
  conv => rhs; rw [← ids0 xb]
  exact List.map_congr_left fun t _ => by simp [updT_id]
theorem tail2_ids' (s1 s2 : Nat) (xb n1 n2 : List ByteArray) : (tail2 s1 s2 xb n1 n2).map Tr.id = newIds xb n1 n2 := by
  rw [tail2, List.map_append, newL_ids, List.map_map, newIds]
  congr 1
  rw [← newL_ids s1 xb n1 0]
  exact List.map_congr_left fun t _ => updT_id _ _ t
/-- How the ids stand. -/
def IdsAre (u : Int) (xb xl xr ids : List ByteArray) : Prop := ∃ S, ids = xb ++ S ∧ S.Perm (newIds xb xl xr) ∧ (u = 1 → S = newIds xb xl xr) ∧ (u = 2 → S = newIds xb xr xl) ∧ (u ≠ 1 → u ≠ 2 → S.Pairwise fun a b => a.toList ≤ b.toList)
theorem plan_ids {u : Int} {xb xl xr : List ByteArray} (hb : xb.Nodup) (hl : xl.Nodup) (hr : xr.Nodup) {T : List Tr} (h : PlanIs u xb xl xr T) : (∀ t ∈ T, t = mk3 xb xl xr t.id) ∧ IdsAre u xb xl xr (T.map Tr.id) := by
  have F1 : ∀ t ∈ base2 1 2 xb xl xr ++ tail2 1 2 xb xl xr, t = mk3 xb xl xr t.id := fun t ht => by
    obtain ⟨a, b, c⟩ := two_fld (by omega) (by omega) (by omega) (by omega) (by omega) hb hl hr t ht
    cases t; simp only [mk3, Tr.mk.injEq, true_and]; exact ⟨a, b, c⟩
  have F2 : ∀ t ∈ base2 2 1 xb xr xl ++ tail2 2 1 xb xr xl, t = mk3 xb xl xr t.id := fun t ht => by
    obtain ⟨a, b, c⟩ := two_fld (by omega) (by omega) (by omega) (by omega) (by omega) hb hr hl t ht
    cases t; simp only [mk3, Tr.mk.injEq, true_and]; exact ⟨a, c, b⟩
  rw [PlanIs] at h
  by_cases h2 : u = 2
  · rw [if_pos (.inr h2)] at h
    subst h
    rw [placed, if_pos h2, placed2 2 1 hb hr hl]
    refine ⟨F2, newIds xb xr xl, by rw [List.map_append, base2_ids, tail2_ids'], newIds_perm hb hr hl, fun h => by omega, fun _ => rfl, fun _ h => absurd h2 h⟩
  · have e : placed u xb xl xr = base2 1 2 xb xl xr ++ tail2 1 2 xb xl xr := by rw [placed, if_neg h2, placed2 1 2 hb hl hr]
    rw [e] at h
    by_cases h1 : u = 1
    · rw [if_pos (.inl h1)] at h
      subst h
      exact ⟨F1, newIds xb xl xr, by rw [List.map_append, base2_ids, tail2_ids'], .refl _, fun _ => rfl, fun h => absurd h h2, fun h => absurd h1 h⟩
    · rw [if_neg (by omega)] at h
      obtain ⟨S, hp, hs, rfl⟩ := h
      rw [List.drop_left' (base2_len 1 2 xb xl xr)] at hp
      rw [List.take_left' (base2_len 1 2 xb xl xr)]
      refine ⟨fun t ht => ?_, S.map Tr.id, by rw [List.map_append, base2_ids], ?_, fun h => absurd h h1, fun h => absurd h h2, fun _ _ => List.pairwise_map.2 hs⟩
      · rcases List.mem_append.1 ht with ht | ht
        · exact F1 t (List.mem_append_left _ ht)
        · exact F1 t (List.mem_append_right _ (hp.mem_iff.1 ht))
      · rw [← tail2_ids' 1 2]; exact hp.map _
theorem ids_nodup {u : Int} {xb xl xr ids : List ByteArray} (hb : xb.Nodup) (hl : xl.Nodup) (hr : xr.Nodup) (h : IdsAre u xb xl xr ids) : ids.Nodup ∧ ∀ s, s ∈ ids ↔ s ∈ xb ∨ s ∈ xl ∨ s ∈ xr := by
  obtain ⟨S, rfl, hp, -⟩ := h
  refine ⟨List.nodup_append.2 ⟨hb, hp.nodup_iff.2 (newIds_nodup hb hl hr), fun a ha b hb' e => ?_⟩, fun s => ?_⟩
  · subst e
    exact (newIds_mem.1 (hp.mem_iff.1 hb')).1 ha
  · rw [List.mem_append, hp.mem_iff, newIds_mem]
    by_cases hs : s ∈ xb
    · simp [hs]
    · simp [hs]
theorem sortedB_eq {S S' : List ByteArray} (hp : S.Perm S') (h : S.Pairwise fun a b => a.toList ≤ b.toList) (h' : S'.Pairwise fun a b => a.toList ≤ b.toList) : S = S' :=
  hp.eq_of_pairwise (fun _ _ _ _ h1 h2 => bl_eq (List.le_antisymm h1 h2)) h h'
theorem ids_turn {u : Int} (hu : 0 ≤ u ∧ u ≤ 2) {xb xl xr I J : List ByteArray} (hb : xb.Nodup) (hl : xl.Nodup) (hr : xr.Nodup) (h : IdsAre u xb xl xr I) (h' : IdsAre (if u = 0 then 0 else 3 - u) xb xr xl J) : I = J := by
  obtain ⟨S, rfl, hp, a1, a2, a3⟩ := h
  obtain ⟨S', rfl, hp', b1, b2, b3⟩ := h'
  congr 1
  have c : u = 0 ∨ u = 1 ∨ u = 2 := by omega
  rcases c with rfl | rfl | rfl
  · exact sortedB_eq (hp.trans ((newIds_perm hb hl hr).trans hp'.symm)) (a3 (by omega) (by omega)) (b3 (by simp) (by simp))
  · rw [a1 rfl, b2 (by simp)]
  · rw [a2 rfl, b1 (by simp)]
theorem plan_turn {u : Int} (hu : 0 ≤ u ∧ u ≤ 2) {xb xl xr : List ByteArray} (hb : xb.Nodup) (hl : xl.Nodup) (hr : xr.Nodup) {T U : List Tr} (h : PlanIs u xb xl xr T) (h' : PlanIs (if u = 0 then 0 else 3 - u) xb xr xl U) : U = T.map Tr.swap := by
  obtain ⟨f1, i1⟩ := plan_ids hb hl hr h
  obtain ⟨f2, i2⟩ := plan_ids hb hr hl h'
  have e := ids_turn hu hb hl hr i1 i2
  have e1 : T = (T.map Tr.id).map (mk3 xb xl xr) := by
    rw [List.map_map]
    conv => lhs; rw [← List.map_id T]
    exact List.map_congr_left fun t ht => f1 t ht
  have e2 : U = (U.map Tr.id).map (mk3 xb xr xl) := by
    rw [List.map_map]
    conv => lhs; rw [← List.map_id U]
    exact List.map_congr_left fun t ht => f2 t ht
  have e3 : T.map Tr.swap = ((T.map Tr.id).map (mk3 xb xl xr)).map Tr.swap := congrArg (List.map Tr.swap) e1
  rw [e3, e2, ← e]
  generalize T.map Tr.id = I
  rw [List.map_map]
  exact List.map_congr_left fun s _ => rfl
theorem count_in {ids xs : List ByteArray} (hi : ids.Nodup) (hx : xs.Nodup) (hs : ∀ s ∈ xs, s ∈ ids) : (ids.filter fun s => decide (0 ≤ idxI xs s)).length = xs.length := by
  refine ((List.perm_ext_iff_of_nodup (hi.filter _) hx).2 fun s => ?_).length_eq
  rw [List.mem_filter, decide_eq_true_eq, idxI_mem]
  exact ⟨fun h => h.2, fun h => ⟨hs s h, h⟩⟩
/-- What KeyedsEach asks of the triples. -/
structure EachOk (xb xl xr : List ByteArray) (T : List Tr) : Prop where
  ids : (T.map Tr.id).Nodup
  base : ∀ (i : Nat) (t : Tr), T[i]? = Option.some t → (i < xb.length → t.b = (i : Int)) ∧ (¬ i < xb.length → t.b = -1)
  any : ∀ t ∈ T, 0 ≤ t.b ∨ 0 ≤ t.l ∨ 0 ≤ t.r
  pb : ∀ t ∈ T, t.b = -1 ∨ ∃ j : Nat, t.b = (j : Int) ∧ xb[j]? = Option.some t.id
  pl : ∀ t ∈ T, t.l = -1 ∨ ∃ j : Nat, t.l = (j : Int) ∧ xl[j]? = Option.some t.id
  pr : ∀ t ∈ T, t.r = -1 ∨ ∃ j : Nat, t.r = (j : Int) ∧ xr[j]? = Option.some t.id
  cb : (T.filter fun t => decide (0 ≤ t.b)).length = xb.length
  cl : (T.filter fun t => decide (0 ≤ t.l)).length = xl.length
  cr : (T.filter fun t => decide (0 ≤ t.r)).length = xr.length
theorem each_ok {u : Int} {xb xl xr : List ByteArray} (hb : xb.Nodup) (hl : xl.Nodup) (hr : xr.Nodup) {T : List Tr} (h : PlanIs u xb xl xr T) : EachOk xb xl xr T := by
  obtain ⟨f, hi⟩ := plan_ids hb hl hr h
  obtain ⟨hn, hm⟩ := ids_nodup hb hl hr hi
  have hid : ∀ t ∈ T, t.id ∈ xb ∨ t.id ∈ xl ∨ t.id ∈ xr := fun t ht => (hm t.id).1 (List.mem_map_of_mem ht)
  have fb : ∀ t ∈ T, t.b = idxI xb t.id := fun t ht => by conv => lhs; rw [f t ht]
                                                          rfl
  have fl : ∀ t ∈ T, t.l = idxI xl t.id := fun t ht => by conv => lhs; rw [f t ht]
                                                          rfl
  have fr : ∀ t ∈ T, t.r = idxI xr t.id := fun t ht => by conv => lhs; rw [f t ht]
                                                          rfl
  have P : ∀ (ns : List ByteArray) (s : ByteArray), idxI ns s = -1 ∨ ∃ j : Nat, idxI ns s = (j : Int) ∧ ns[j]? = some s := fun ns s => (idxI_cases ns s).imp (·.2) id
  have C : ∀ (g : Tr → Int) (xs : List ByteArray), (∀ t ∈ T, g t = idxI xs t.id) → xs.Nodup → (∀ s ∈ xs, s ∈ T.map Tr.id) → (T.filter fun t => decide (0 ≤ g t)).length = xs.length := fun g xs hg hx hs => by
    rw [← count_in hn hx hs, List.filter_map, List.length_map]
    congr 1
    exact List.filter_congr fun t ht => by rw [hg t ht]; rfl
  obtain ⟨S, hS, hp, -⟩ := hi
  refine ⟨hn, fun i t hit => ?_, fun t ht => ?_, fun t ht => by rw [fb t ht]; exact P _ _, fun t ht => by rw [fl t ht]; exact P _ _, fun t ht => by rw [fr t ht]; exact P _ _,
    C Tr.b xb fb hb fun s hs => (hm s).2 (.inl hs), C Tr.l xl fl hl fun s hs => (hm s).2 (.inr (.inl hs)), C Tr.r xr fr hr fun s hs => (hm s).2 (.inr (.inr hs))⟩
  · have ht := List.mem_of_getElem? hit
    have hg : (xb ++ S)[i]? = some t.id := by rw [← hS, List.getElem?_map, hit]; rfl
    rw [fb t ht]
    refine ⟨fun hlt => idxI_at (by rw [List.getElem?_append_left hlt] at hg; exact hg) hb, fun hge => idxI_none fun hx => ?_⟩
    rw [List.getElem?_append_right (by omega)] at hg
    exact (newIds_mem.1 (hp.mem_iff.1 (List.mem_of_getElem? hg))).1 hx
  · rw [fb t ht, fl t ht, fr t ht, idxI_mem, idxI_mem, idxI_mem]
    exact hid t ht
end Go.Proofs.YtdapimjhjnbfdaaDoor
