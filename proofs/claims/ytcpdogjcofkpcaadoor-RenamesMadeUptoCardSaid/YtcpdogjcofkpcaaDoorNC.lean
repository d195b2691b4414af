/-
  A key that is named otherwise is the only rename, plain. Condition: the map may be, the new name is not there.
-/
import Derived.Test.YtcpdogjcofkpcaaDoorNA
namespace Go.Proofs.YtcpdogjcofkpcaaDoor
open Go.RowKit Go.Sort

/-- The map with one key named otherwise. -/
def Val.named (b : Val) (i : Nat) (s : ByteArray) : Val := ⟨8, ⟨#[]⟩, b.l, b.ks.set i s⟩
theorem all_one {α : Type} {l : List α} {a : α} (hn : l.Nodup) (h : ∀ x ∈ l, x = a) (ha : a ∈ l) : l = [a] := by
  cases l with
  | nil => cases ha
  | cons x l =>
    obtain rfl := h x (by simp)
    cases l with
    | nil => rfl
    | cons y l =>
      obtain rfl := h y (by simp)
      rw [List.nodup_cons] at hn
      exact absurd (List.mem_cons_self) hn.1
theorem cand_nodup {v : Val} (o : Val) (h : v.ks.Nodup) : (cand v o).Nodup := by
  refine nodup_of_fst ?_
  have : ((cand v o).map (·.1)).Sublist v.ks := by
    unfold cand
    rw [List.map_map]
    have h1 : (((v.ks.zip v.l).filter fun e : ByteArray × Val => decide (e.1 ∉ o.ks ∧ 2 ≤ e.2.sz)).map (·.1)).Sublist ((v.ks.zip v.l).map (·.1)) := List.filter_sublist.map _
    exact (show List.Sublist _ _ from h1).trans (zip_fst_sub _ _)
  exact nodup_sub this h
theorem mem_set_iff {l : List ByteArray} {i : Nat} {s t k : ByteArray} (hk : l[i]? = some k) (hn : l.Nodup) (hs : s ∉ l) : t ∈ l.set i s ↔ t = s ∨ t ∈ l ∧ t ≠ k := by
  obtain ⟨hi, e⟩ := List.getElem?_eq_some_iff.1 hk
  constructor
  · intro h
    obtain ⟨j, hj⟩ := List.getElem?_of_mem h
    by_cases hij : i = j
    · subst hij
      rw [List.getElem?_set_self hi] at hj
      exact .inl (Option.some.inj hj).symm
    · rw [List.getElem?_set_ne hij] at hj
      refine .inr ⟨List.mem_of_getElem? hj, fun e2 => ?_⟩
      subst e2
      exact hij ((List.getElem?_inj hi hn).1 (hk.trans hj.symm))
  · rintro (rfl | ⟨h1, h2⟩)
    · exact List.mem_of_getElem? (List.getElem?_set_self hi)
    · obtain ⟨j, hj⟩ := List.getElem?_of_mem h1
      have hij : i ≠ j := fun e2 => by subst e2; rw [hk] at hj; exact h2 (Option.some.inj hj).symm
      exact List.mem_of_getElem? ((List.getElem?_set_ne hij).trans hj)
theorem nodup_set {l : List ByteArray} {i : Nat} {s : ByteArray} (hn : l.Nodup) (hs : s ∉ l) : (l.set i s).Nodup := by
  refine List.pairwise_iff_getElem.2 fun p q hp hq hpq => ?_
  rw [List.length_set] at hp hq
  rw [List.getElem_set, List.getElem_set]
  split
  · rw [if_neg (by omega)]
    exact fun e => hs (e ▸ List.getElem_mem hq)
  · split
    · exact fun e => hs (e ▸ List.getElem_mem hp)
    · exact List.pairwise_iff_getElem.1 hn p q hp hq hpq
section
variable {b : Val} {i : Nat} {k s : ByteArray} {y : Val}
theorem named_map (hb : b.isMap = true) (hs : s ∉ b.ks) : (b.named i s).isMap = true := by
  obtain ⟨h8, hm⟩ := isMap_k hb
  obtain ⟨hl, hn⟩ := isMap_len hb
  have hw : (b.named i s).may = true := may_map (map_shape rfl ByteArray.toList_empty (by show (b.ks.set i s).length = b.l.length; rw [List.length_set]; exact hl) (nodup_set hn hs)) fun y hy => (may_kid hm hy).1
  have e8 : (b.named i s).k = 8 := rfl
  unfold Val.isMap
  rw [hw, e8]; rfl
theorem named_law (hb : b.isMap = true) (hk : b.ks[i]? = some k) (hy : b.l[i]? = some y) (hs : s ∉ b.ks) : ofV b (b.named i s) = if 2 ≤ y.sz then [(k, s)] else [] := by
  obtain ⟨hl, hn⟩ := isMap_len hb
  have hx := named_map (i := i) hb hs
  have hnx : (b.named i s).ks.Nodup := nodup_set hn hs
  have hks : ∀ t, t ∈ (b.named i s).ks ↔ t = s ∨ t ∈ b.ks ∧ t ≠ k := fun t => mem_set_iff hk hn hs
  have hkm : k ∈ b.ks := List.mem_of_getElem? hk
  have hkx : k ∉ (b.named i s).ks := fun h => by
    rcases (hks k).1 h with e | ⟨-, e⟩
    · exact hs (e ▸ hkm)
    · exact e rfl
  have hzb : (k, y) ∈ b.ks.zip b.l := at_zip hk hy
  have hi := (List.getElem?_eq_some_iff.1 hk).1
  have hzx : (s, y) ∈ (b.named i s).ks.zip (b.named i s).l := at_zip (i := i) (List.getElem?_set_self hi) hy
  have hall : ∀ r ∈ ofV b (b.named i s), r = (k, s) := fun r hr => by
    obtain ⟨v, w, -, -, -, -, -, -, -, -, h1, h2, h3, h4⟩ := ofV_ren hr
    have e1 : r.1 = k := by
      rcases Classical.em (r.1 = k) with e | e
      · exact e
      · exact absurd ((hks r.1).2 (.inr ⟨h1, e⟩)) h2
    have e2 : r.2 = s := by
      rcases (hks r.2).1 h3 with e | e
      · exact e
      · exact absurd e.1 h4
    rw [← e1, ← e2]
  have hnd : (ofV b (b.named i s)).Nodup := by
    unfold ofV
    split
    · exact nodup_of_fst (ofP_src_nodup hn)
    · exact .nil
  by_cases hz : 2 ≤ y.sz
  · rw [if_pos hz]
    refine all_one hnd hall ?_
    have c1 : cand b (b.named i s) = [(k, y.key)] := by
      refine all_one (cand_nodup _ hn) (fun c hc => ?_) (List.mem_map.2 ⟨(k, y), List.mem_filter.2 ⟨hzb, decide_eq_true ⟨hkx, hz⟩⟩, rfl⟩)
      obtain ⟨v, h1, h2, -, h4⟩ := cand_mem hc
      have e1 : c.1 = k := by
        rcases Classical.em (c.1 = k) with e | e
        · exact e
        · exact absurd ((hks c.1).2 (.inr ⟨(List.of_mem_zip h1).1, e⟩)) h2
      rw [e1] at h1
      rw [← zip_one hn hzb h1] at h4
      rw [← e1, ← h4]
    have c2 : cand (b.named i s) b = [(s, y.key)] := by
      refine all_one (cand_nodup _ hnx) (fun c hc => ?_) (List.mem_map.2 ⟨(s, y), List.mem_filter.2 ⟨hzx, decide_eq_true ⟨hs, hz⟩⟩, rfl⟩)
      obtain ⟨v, h1, h2, -, h4⟩ := cand_mem hc
      have e1 : c.1 = s := by
        rcases (hks c.1).1 (List.of_mem_zip h1).1 with e | e
        · exact e
        · exact absurd e.1 h2
      rw [e1] at h1
      rw [← zip_one hnx hzx h1] at h4
      rw [← e1, ← h4]
    unfold ofV
    rw [hb, hx, Bool.and_true, if_pos rfl]
    exact ren_mem (v := y) (w := y) ⟨hzb, hzx, hkx, hs, hz, hz, rfl, by rw [c1]; simp [sel], by rw [c2]; simp [sel]⟩
  · rw [if_neg hz]
    refine List.eq_nil_iff_forall_not_mem.2 fun r hr => ?_
    obtain ⟨v, w, h1, -, -, -, -, h2, -⟩ := ofV_ren hr
    rw [hall r hr, get_zip hb hzb] at h1
    cases h1
    exact hz h2
end
end Go.Proofs.YtcpdogjcofkpcaaDoor
