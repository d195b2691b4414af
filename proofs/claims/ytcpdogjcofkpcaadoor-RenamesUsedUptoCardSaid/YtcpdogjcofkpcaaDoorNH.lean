/-
  The examples of chapter 24, as plain values: what their renames are. No condition.
-/
import Derived.Test.YtcpdogjcofkpcaaDoorNG
import Derived.Test.YtcpdogjcofkpcaaDoorVO
namespace Go.Proofs.YtcpdogjcofkpcaaDoor
open Go.RowKit Go.Sort

def numV (s : ByteArray) : Val := ⟨2, s, [], []⟩
def listV (l : List ByteArray) : Val := ⟨7, ⟨#[]⟩, l.map numV, []⟩
def objV (ks : List ByteArray) (l : List Val) : Val := ⟨8, ⟨#[]⟩, l, ks⟩
def e1 : ByteArray := ⟨#[49, 101, 48]⟩
def e2 : ByteArray := ⟨#[50, 101, 48]⟩
def e3 : ByteArray := ⟨#[51, 101, 48]⟩
def ka : ByteArray := ⟨#[97]⟩
def kb : ByteArray := ⟨#[98]⟩
def kc : ByteArray := ⟨#[99]⟩
def kd : ByteArray := ⟨#[100]⟩
def eb : Val := objV [ka, kb] [listV [e1], listV [e2]]
def ex : Val := objV [kb, kc] [listV [e2], listV [e1]]
def ey : Val := objV [kb, kc, kd] [listV [e2], listV [e1], listV [e1]]
def er : Val := objV [ka, kb] [listV [e1, e3], listV [e2]]
theorem e1_may : (listV [e1]).may = true := by
  rw [← Val.may_eq, plain_within]
  simp [Val.deepR_eq, Val.plain_eq, listV, numV, maxL, Val.shape, e1, ByteArray.toList_eq]
theorem e2_may : (listV [e2]).may = true := by
  rw [← Val.may_eq, plain_within]
  simp [Val.deepR_eq, Val.plain_eq, listV, numV, maxL, Val.shape, e2, ByteArray.toList_eq]
theorem e13_may : (listV [e1, e3]).may = true := by
  rw [← Val.may_eq, plain_within]
  simp [Val.deepR_eq, Val.plain_eq, listV, numV, maxL, Val.shape, e1, e3, ByteArray.toList_eq]
theorem e1_sz : (listV [e1]).sz = 2 := by rw [Val.sz, if_pos e1_may]; simp [Val.size_eq, listV, numV]
theorem e2_sz : (listV [e2]).sz = 2 := by rw [Val.sz, if_pos e2_may]; simp [Val.size_eq, listV, numV]
theorem eb_map : eb.isMap = true := by
  have h : eb.may = true := by
    rw [← Val.may_eq, plain_within]
    simp [Val.deepR_eq, Val.plain_eq, eb, objV, listV, numV, maxL, Val.shape, e1, e2, ka, kb, ByteArray.toList_eq]
  simpa [Val.isMap, eb, objV] using h
theorem ex_map : ex.isMap = true := by
  have h : ex.may = true := by
    rw [← Val.may_eq, plain_within]
    simp [Val.deepR_eq, Val.plain_eq, ex, objV, listV, numV, maxL, Val.shape, e1, e2, kc, kb, ByteArray.toList_eq]
  simpa [Val.isMap, ex, objV] using h
theorem ey_map : ey.isMap = true := by
  have h : ey.may = true := by
    rw [← Val.may_eq, plain_within]
    simp [Val.deepR_eq, Val.plain_eq, ey, objV, listV, numV, maxL, Val.shape, e1, e2, kc, kb, kd, ByteArray.toList_eq]
  simpa [Val.isMap, ey, objV] using h
theorem er_map : er.isMap = true := by
  have h : er.may = true := by
    rw [← Val.may_eq, plain_within]
    simp [Val.deepR_eq, Val.plain_eq, er, objV, listV, numV, maxL, Val.shape, e1, e2, e3, ka, kb, ByteArray.toList_eq]
  simpa [Val.isMap, er, objV] using h
theorem canon_num (s : ByteArray) : ∀ n, canon n (numV s) = numV s
  | 0 => rfl
  | n + 1 => by rw [canon_s, if_neg (by simp [numV])]; rfl
theorem canon_list (n : Nat) (l : List ByteArray) : canon (n + 1) (listV l) = listV l := by
  rw [canon_s, if_neg (by simp [listV])]
  simp only [listV, List.map_map]
  congr 1
  exact List.map_congr_left fun s _ => canon_num s n
theorem list_cmp {l m : List ByteArray} (hl : (listV l).may = true) (hm : (listV m).may = true) (hn : l.length ≠ m.length ∨ l.head? ≠ m.head?) : cmpV 256 (listV l) (listV m) ≠ 0 := by
  intro h
  have h2 := (cmpV_zero 256 _ _ (by rw [Val.may_eq]; exact hl) (by rw [Val.may_eq]; exact hm)).1 h
  rw [show canon 256 (listV l) = listV l from canon_list 255 l, show canon 256 (listV m) = listV m from canon_list 255 m] at h2
  have h3 : l.map numV = m.map numV := congrArg Val.l h2
  have h4 : l = m := by
    have := congrArg (List.map Val.t) h3
    simpa [List.map_map, Function.comp_def, numV] using this
  subst h4
  rcases hn with h | h <;> exact h rfl
theorem e12_cmp : cmpV 256 (listV [e1]) (listV [e2]) ≠ 0 := list_cmp e1_may e2_may (.inr (by simp [e1, e2]))
theorem e13_cmp : cmpV 256 (listV [e1]) (listV [e1, e3]) ≠ 0 := list_cmp e1_may e13_may (.inl (by simp))
theorem e12_key : (listV [e1]).key ≠ (listV [e2]).key := fun h => e12_cmp ((key_same e1_may e2_may).1 h)
theorem ex_of : ofV eb ex = [(ka, kc)] := by
  have h := e12_key
  have s1 := e1_sz
  have s2 := e2_sz
  generalize hA : listV [e1] = A at *
  generalize hB : listV [e2] = B at *
  have c1 : cand eb ex = [(ka, A.key)] := by
    simp [cand, eb, ex, objV, hA, hB, s1, s2, ka, kb, kc]
  have c2 : cand ex eb = [(kc, A.key)] := by
    simp [cand, eb, ex, objV, hA, hB, s1, s2, ka, kb, kc]
  rw [ofV, eb_map, ex_map, Bool.and_self, if_pos rfl, ofP, c1, c2]
  simp [eb, objV, hA, hB, hold, sel, lastKey, h]
theorem ey_of : ofV eb ey = [] := by
  have h := e12_key
  have s1 := e1_sz
  have s2 := e2_sz
  generalize hA : listV [e1] = A at *
  generalize hB : listV [e2] = B at *
  have c1 : cand eb ey = [(ka, A.key)] := by
    simp [cand, eb, ey, objV, hA, hB, s1, s2, ka, kb, kc, kd]
  have c2 : cand ey eb = [(kc, A.key), (kd, A.key)] := by
    simp [cand, eb, ey, objV, hA, hB, s1, s2, ka, kb, kc, kd]
  rw [ofV, eb_map, ey_map, Bool.and_self, if_pos rfl, ofP, c1, c2]
  simp [eb, objV, hA, hB, hold, sel, lastKey, h]
theorem er_of : ofV eb er = [] := by
  have c1 : cand eb er = [] := by
    simp [cand, eb, er, objV]
  rw [ofV, eb_map, er_map, Bool.and_self, if_pos rfl, ofP, c1]
  simp [eb, objV, hold, sel, lastKey]
theorem er_used : usedV eb ex er = ([(ka, kc)], []) := by
  have g1 : eb.get ka = some (listV [e1]) := get_zip eb_map (by simp [eb, objV])
  have g2 : er.get ka = some (listV [e1, e3]) := get_zip er_map (by simp [er, objV])
  have hn : kc ∉ er.ks := by simp [er, objV, ka, kb, kc]
  have hs : sameV (listV [e1]) (listV [e1, e3]) = false := by simp [sameV, e13_cmp]
  rw [usedV, eb_map, ex_map, er_map, Bool.and_self, Bool.and_self, if_pos rfl, ex_of, er_of]
  simp [usedP, g1, g2, hn, hs]
end Go.Proofs.YtcpdogjcofkpcaaDoor
