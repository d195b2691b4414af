/-
  The order of values, as a plain function; what slices.SortFunc gave is the one sorted list of a map's entries. Conditions: the keys are all unlike.
-/
import Derived.Test.YtdapimjhjnbfdaaDoorV7
namespace Go.Proofs.YtdapimjhjnbfdaaDoor
open Go.RowKit Go.Sort

/-- A map's entries, by keys. -/
def Val.ents (v : Val) : List (ByteArray × Val) := (v.ks.zip v.l).mergeSort fun a b => decide (a.1.toList ≤ b.1.toList)
def Ent.v (e : Ent) : ByteArray × Val := (e.key, e.x.v)

theorem zip_key {α β : Type} : ∀ (ks : List α) (l : List β), ks.Nodup → ∀ a ∈ ks.zip l, ∀ b ∈ ks.zip l, a.1 = b.1 → a = b
  | [], _, _, a, ha, _, _, _ => by simp at ha
  | _ :: _, [], _, a, ha, _, _, _ => by simp at ha
  | k :: ks, y :: l, hn, a, ha, b, hb, e => by
    simp only [List.zip_cons_cons, List.mem_cons] at ha hb
    rw [List.nodup_cons] at hn
    rcases ha with rfl | ha <;> rcases hb with rfl | hb
    · rfl
    · exact absurd (by rw [show k = b.1 from e]; exact (List.of_mem_zip (a := b.1) (b := b.2) hb).1) hn.1
    · exact absurd (by rw [show k = a.1 from e.symm]; exact (List.of_mem_zip (a := a.1) (b := a.2) ha).1) hn.1
    · exact zip_key ks l hn.2 a ha b hb e

theorem ents_eq (x : AV) (hnd : x.ks.Nodup) (L : List Ent) (hp : L.Perm (ents0 x.ks x.l)) (hs : L.Pairwise fun a b => a.key.toList ≤ b.key.toList) : L.map Ent.v = x.v.ents := by
  have e0 : (ents0 x.ks x.l).map Ent.v = x.v.ks.zip x.v.l := by
    rw [AV.v_ks, AV.v_l, ents0, List.zip_map_right, List.map_map]
    rfl
  have hp' : (L.map Ent.v).Perm (x.v.ks.zip x.v.l) := by rw [← e0]; exact hp.map _
  have hm : x.v.ents.Perm (x.v.ks.zip x.v.l) := List.mergeSort_perm _ _
  have hs2 : x.v.ents.Pairwise fun a b => a.1.toList ≤ b.1.toList := by
    have := List.pairwise_mergeSort (le := fun a b : ByteArray × Val => decide (a.1.toList ≤ b.1.toList)) (fun a b c h1 h2 => by simp at *; exact List.le_trans h1 h2) (fun a b => by simp; exact List.le_total _ _) (x.v.ks.zip x.v.l)
    exact this.imp fun h => by simpa using h
  have hs1 : (L.map Ent.v).Pairwise fun a b => a.1.toList ≤ b.1.toList := List.Pairwise.map _ (fun a b h => h) hs
  refine List.Perm.eq_of_pairwise (fun a b ha hb h1 h2 => ?_) hs1 hs2 (hp'.trans hm.symm)
  have e := List.le_antisymm h1 h2
  have ek : a.1 = b.1 := by
    have : a.1.data = b.1.data := by
      rw [ByteArray.toList_eq, ByteArray.toList_eq] at e
      exact Array.toList_inj.1 e
    cases ha1 : a.1; cases hb1 : b.1; simp_all
  exact zip_key _ _ (by rw [AV.v_ks]; exact hnd) a (hp'.subset ha) b (hm.subset hb) ek

/-- values.compare, n lists and maps deep at most. -/
def cmpV : Nat → Val → Val → Int
  | 0, a, b => orInt [cmpInt a.k b.k, cmpStr a.t b.t]
  | n + 1, a, b =>
    let c := orInt [cmpInt a.k b.k, cmpStr a.t b.t]
    if c ≠ 0 ∨ a.k < 7 then c
    else if a.k = 7 then cmpL (cmpV n) a.l b.l
    else cmpL (fun x y => orInt [cmpStr x.1 y.1, cmpV n x.2 y.2]) a.ents b.ents
end Go.Proofs.YtdapimjhjnbfdaaDoor
