/-
  The examples of chapter 24, as plain values: what their renames are. No condition.
  inarchlaw24's list, object, lives: contracts. Condition: strconv's table of powers holds what its initialiser lays.
  inarchlaw24.lives: contract. Condition: strconv's table of powers holds what its initialiser lays.
-/
import Derived.Test.YtjihepdjcbpgoaaGreatDoorNG
import Derived.Test.YtjihepdjcbpgoaaGreatDoorVO
import Derived.Test.YtjihepdjcbpgoaaGreatDoorVL
namespace Go.Proofs.YtjihepdjcbpgoaaGreatDoor
open Go.RowKit Go.Sort

def numV (s : ByteArray) : Val := ⟨2, s, [], []⟩
def listV (l : List ByteArray) : Val := ⟨7, ⟨#[]⟩, l.map numV, []⟩
def objV (ks : List ByteArray) (l : List Val) : Val := ⟨8, ⟨#[]⟩, l, ks⟩
def e1 : ByteArray := ⟨#[49, 101, 48]⟩
def e2 : ByteArray := ⟨#[50, 101, 48]⟩
def e3 : ByteArray := ⟨#[51, 101, 48]⟩
def ka : ByteArray := ⟨#[97]⟩
def kb : ByteArray := ⟨#[98]⟩
def kc : ByteArray := ⟨#[99]⟩
def kd : ByteArray := ⟨#[100]⟩
def eb : Val := objV [ka, kb] [listV [e1], listV [e2]]
def ex : Val := objV [kb, kc] [listV [e2], listV [e1]]
def ey : Val := objV [kb, kc, kd] [listV [e2], listV [e1], listV [e1]]
def er : Val := objV [ka, kb] [listV [e1, e3], listV [e2]]
theorem e1_may : (listV [e1]).may = true := by
  rw [← Val.may_eq, plain_within]
  simp [Val.deepR_eq, Val.plain_eq, listV, numV, maxL, Val.shape, e1, ByteArray.toList_eq]
theorem e2_may : (listV [e2]).may = true := by
  rw [← Val.may_eq, plain_within]
  simp [Val.deepR_eq, Val.plain_eq, listV, numV, maxL, Val.shape, e2, ByteArray.toList_eq]
theorem e13_may : (listV [e1, e3]).may = true := by
  rw [← Val.may_eq, plain_within]
  simp [Val.deepR_eq, Val.plain_eq, listV, numV, maxL, Val.shape, e1, e3, ByteArray.toList_eq]
theorem e1_sz : (listV [e1]).sz = 2 := by rw [Val.sz, if_pos e1_may]; simp [Val.size_eq, listV, numV]
theorem e2_sz : (listV [e2]).sz = 2 := by rw [Val.sz, if_pos e2_may]; simp [Val.size_eq, listV, numV]
theorem eb_map : eb.isMap = true := by
  have h : eb.may = true := by
    rw [← Val.may_eq, plain_within]
    simp [Val.deepR_eq, Val.plain_eq, eb, objV, listV, numV, maxL, Val.shape, e1, e2, ka, kb, ByteArray.toList_eq]
  simpa [Val.isMap, eb, objV] using h
theorem ex_map : ex.isMap = true := by
  have h : ex.may = true := by
    rw [← Val.may_eq, plain_within]
    simp [Val.deepR_eq, Val.plain_eq, ex, objV, listV, numV, maxL, Val.shape, e1, e2, kc, kb, ByteArray.toList_eq]
  simpa [Val.isMap, ex, objV] using h
theorem ey_map : ey.isMap = true := by
  have h : ey.may = true := by
    rw [← Val.may_eq, plain_within]
    simp [Val.deepR_eq, Val.plain_eq, ey, objV, listV, numV, maxL, Val.shape, e1, e2, kc, kb, kd, ByteArray.toList_eq]
  simpa [Val.isMap, ey, objV] using h
theorem er_map : er.isMap = true := by
  have h : er.may = true := by
    rw [← Val.may_eq, plain_within]
    simp [Val.deepR_eq, Val.plain_eq, er, objV, listV, numV, maxL, Val.shape, e1, e2, e3, ka, kb, ByteArray.toList_eq]
  simpa [Val.isMap, er, objV] using h
theorem canon_num (s : ByteArray) : ∀ n, canon n (numV s) = numV s
  | 0 => rfl
  | n + 1 => by rw [canon_s, if_neg (by simp [numV])]; rfl
theorem canon_list (n : Nat) (l : List ByteArray) : canon (n + 1) (listV l) = listV l := by
  rw [canon_s, if_neg (by simp [listV])]
  simp only [listV, List.map_map]
  congr 1
  exact List.map_congr_left fun s _ => canon_num s n
theorem list_cmp {l m : List ByteArray} (hl : (listV l).may = true) (hm : (listV m).may = true) (hn : l.length ≠ m.length ∨ l.head? ≠ m.head?) : cmpV 256 (listV l) (listV m) ≠ 0 := by
  intro h
  have h2 := (cmpV_zero 256 _ _ (by rw [Val.may_eq]; exact hl) (by rw [Val.may_eq]; exact hm)).1 h
  rw [show canon 256 (listV l) = listV l from canon_list 255 l, show canon 256 (listV m) = listV m from canon_list 255 m] at h2
  have h3 : l.map numV = m.map numV := congrArg Val.l h2
  have h4 : l = m := by
    have := congrArg (List.map Val.t) h3
    simpa [List.map_map, Function.comp_def, numV] using this
  subst h4
  rcases hn with h | h <;> exact h rfl
theorem e12_cmp : cmpV 256 (listV [e1]) (listV [e2]) ≠ 0 := list_cmp e1_may e2_may (.inr (by simp [e1, e2]))
theorem e13_cmp : cmpV 256 (listV [e1]) (listV [e1, e3]) ≠ 0 := list_cmp e1_may e13_may (.inl (by simp))
theorem e12_key : (listV [e1]).key ≠ (listV [e2]).key := fun h => e12_cmp ((key_same e1_may e2_may).1 h)
theorem ex_of : ofV eb ex = [(ka, kc)] := by
  have h := e12_key
  have s1 := e1_sz
  have s2 := e2_sz
  generalize hA : listV [e1] = A at *
  generalize hB : listV [e2] = B at *
  have c1 : cand eb ex = [(ka, A.key)] := by
    simp [cand, eb, ex, objV, hA, hB, s1, s2, ka, kb, kc]
  have c2 : cand ex eb = [(kc, A.key)] := by
    simp [cand, eb, ex, objV, hA, hB, s1, s2, ka, kb, kc]
  rw [ofV, eb_map, ex_map, Bool.and_self, if_pos rfl, ofP, c1, c2]
  simp [eb, objV, hA, hB, hold, sel, lastKey, h]
theorem ey_of : ofV eb ey = [] := by
  have h := e12_key
  have s1 := e1_sz
  have s2 := e2_sz
  generalize hA : listV [e1] = A at *
  generalize hB : listV [e2] = B at *
  have c1 : cand eb ey = [(ka, A.key)] := by
    simp [cand, eb, ey, objV, hA, hB, s1, s2, ka, kb, kc, kd]
  have c2 : cand ey eb = [(kc, A.key), (kd, A.key)] := by
    simp [cand, eb, ey, objV, hA, hB, s1, s2, ka, kb, kc, kd]
  rw [ofV, eb_map, ey_map, Bool.and_self, if_pos rfl, ofP, c1, c2]
  simp [eb, objV, hA, hB, hold, sel, lastKey, h]
theorem er_of : ofV eb er = [] := by
  have c1 : cand eb er = [] := by
    simp [cand, eb, er, objV]
  rw [ofV, eb_map, er_map, Bool.and_self, if_pos rfl, ofP, c1]
  simp [eb, objV, hold, sel, lastKey]
theorem er_used : usedV eb ex er = ([(ka, kc)], []) := by
  have g1 : eb.get ka = some (listV [e1]) := get_zip eb_map (by simp [eb, objV])
  have g2 : er.get ka = some (listV [e1, e3]) := get_zip er_map (by simp [er, objV])
  have hn : kc ∉ er.ks := by simp [er, objV, ka, kb, kc]
  have hs : sameV (listV [e1]) (listV [e1, e3]) = false := by simp [sameV, e13_cmp]
  rw [usedV, eb_map, ex_map, er_map, Bool.and_self, Bool.and_self, if_pos rfl, ex_of, er_of]
  simp [usedP, g1, g2, hn, hs]
end Go.Proofs.YtjihepdjcbpgoaaGreatDoor

namespace Go.Proofs.YtjihepdjcbpgoaaGreatDoor
open Go.RowKit Go.Sort
end Go.Proofs.YtjihepdjcbpgoaaGreatDoor

namespace Go.Proofs.YtjihepdjcbpgoaaGreatDoor
open Go.RowKit Go.Sort

def GotL (v : Val) (w : World) (e : Ending) (w' : World) : Prop := ∃ y : AV, e = .returned y.val ∧ y.v = v ∧ Rd w' y ∧ Below w.heap.size w w'
def GotK (v : Val) (K : Obj) (w : World) (e : Ending) (w' : World) : Prop := ∃ y : AV, e = .returned y.val ∧ y.v = v ∧ Rd w' y ∧ Below w.heap.size w w' ∧ w'.heap[w.heap.size]? = some K
def GotB (v : Val) (B K : Obj) (w : World) (e : Ending) (w' : World) : Prop := ∃ y : AV, e = .returned y.val ∧ y.v = v ∧ Rd w' y ∧ Below w.heap.size w w' ∧ w'.heap[w.heap.size]? = some B ∧ w'.heap[w.heap.size + 1]? = some K
theorem gotB {v : Val} {B K : Obj} {w : World} {e : Ending} {w' : World} (h : GotK v K (w.alloc B) e w') : GotB v B K w e w' := by
  obtain ⟨y, h1, h2, h3, h4, h5⟩ := h
  have hs := h4.size
  rw [World.size_alloc] at h4 h5
  exact ⟨y, h1, h2, h3, ((Below.refl _ _).alloc (Nat.le_refl _) _).trans (h4.mono (by omega)), (h4.block _ (by omega)).trans (heap_alloc_new w B), h5⟩
theorem obj_rd {W : World} {Lb Kb c1 c2 : Nat} {ys : List AV} {ks : List ByteArray} (hL : W.heap[Lb]? = some (.cells (ys.flatMap AV.enc).toArray 26 (0, 0))) (hK : W.heap[Kb]? = some (.cells (ks.flatMap strE).toArray 9 (0, 0))) (hr : ∀ y ∈ ys, Rd W y) : Rd W ⟨8, ⟨#[]⟩, some ⟨Lb, 0, none⟩, c1, ys, some ⟨Kb, 0, none⟩, c2, ks⟩ := by
  have h1 : Lb < W.heap.size := by
    rcases Nat.lt_or_ge Lb W.heap.size with h | h
    · exact h
    · rw [Array.getElem?_eq_none h] at hL; cases hL
  have h2 : Kb < W.heap.size := by
    rcases Nat.lt_or_ge Kb W.heap.size with h | h
    · exact h
    · rw [Array.getElem?_eq_none h] at hK; cases hK
  exact ⟨(lit_sl AV.enc_len hL).widen (Nat.zero_le _) (by omega), (lit_sl (enc := strE) (size := 1) (fun _ => rfl) hK).widen (Nat.zero_le _) (by omega), by simp, hr⟩

theorem blk_up {w W : World} {i : Nat} {o : Obj} (h : Below w.heap.size w W) (hk : w.heap[i]? = some o) : W.heap[i]? = some o := by
  have h1 : i < w.heap.size := by
    rcases Nat.lt_or_ge i w.heap.size with h | h
    · exact h
    · rw [Array.getElem?_eq_none h] at hk; cases hk
  exact (h.block i h1).trans hk
theorem new_up {w W : World} {o : Obj} (h : Below (w.alloc o).heap.size (w.alloc o) W) : W.heap[w.heap.size]? = some o := blk_up h (heap_alloc_new w o)
theorem via_new {w W : World} {o : Obj} (h : Below (w.alloc o).heap.size (w.alloc o) W) : Below w.heap.size w W := below_via ((Below.refl _ _).alloc (Nat.le_refl _) _) h
abbrev objB (L K n : Nat) : Obj := .cells #[.int .u8 8, .string ⟨#[]⟩, .slice (some ⟨L, 0, none⟩) n n, .slice (some ⟨K, 0, none⟩) n n] 26
abbrev objA (L K n : Nat) : Value := .agg #[.int .u8 8, .string ⟨#[]⟩, .slice (some ⟨L, 0, none⟩) n n, .slice (some ⟨K, 0, none⟩) n n]
/-- An object as it lies. -/
def IsObj (W : World) (L K n : Nat) (v : Val) : Prop := ∃ x : AV, x.val = objA L K n ∧ x.v = v ∧ Rd W x
theorem IsObj.up {W W' : World} {L K n : Nat} {v : Val} (h : IsObj W L K n v) (hb : Below W.heap.size W W') : IsObj W' L K n v := by
  obtain ⟨x, h1, h2, h3⟩ := h
  exact ⟨x, h1, h2, h3.up hb⟩
theorem obj2 {W : World} {L K : Nat} {y1 y2 : AV} {k1 k2 : ByteArray} {v : Val} (hL : W.heap[L]? = some (.cells #[.int .u8 y1.k, .string y1.t, .slice y1.la y1.l.length y1.lc, .slice y1.ka y1.ks.length y1.kc, .int .u8 y2.k, .string y2.t, .slice y2.la y2.l.length y2.lc, .slice y2.ka y2.ks.length y2.kc] 26 (0, 0))) (hK : W.heap[K]? = some (.cells #[.string k1, .string k2] 9 (0, 0))) (h1 : Rd W y1) (h2 : Rd W y2) (hv : objV [k1, k2] [y1.v, y2.v] = v) : IsObj W L K 2 v :=
  ⟨⟨8, ⟨#[]⟩, some ⟨L, 0, none⟩, 2, [y1, y2], some ⟨K, 0, none⟩, 2, [k1, k2]⟩, rfl, by rw [← hv, AV.v_eq]; rfl, obj_rd hL hK (by intro y hy; simp at hy; rcases hy with rfl | rfl; exact h1; exact h2)⟩
theorem obj3 {W : World} {L K : Nat} {y1 y2 y3 : AV} {k1 k2 k3 : ByteArray} {v : Val} (hL : W.heap[L]? = some (.cells #[.int .u8 y1.k, .string y1.t, .slice y1.la y1.l.length y1.lc, .slice y1.ka y1.ks.length y1.kc, .int .u8 y2.k, .string y2.t, .slice y2.la y2.l.length y2.lc, .slice y2.ka y2.ks.length y2.kc, .int .u8 y3.k, .string y3.t, .slice y3.la y3.l.length y3.lc, .slice y3.ka y3.ks.length y3.kc] 26 (0, 0))) (hK : W.heap[K]? = some (.cells #[.string k1, .string k2, .string k3] 9 (0, 0))) (h1 : Rd W y1) (h2 : Rd W y2) (h3 : Rd W y3) (hv : objV [k1, k2, k3] [y1.v, y2.v, y3.v] = v) : IsObj W L K 3 v :=
  ⟨⟨8, ⟨#[]⟩, some ⟨L, 0, none⟩, 3, [y1, y2, y3], some ⟨K, 0, none⟩, 3, [k1, k2, k3]⟩, rfl, by rw [← hv, AV.v_eq]; rfl, obj_rd hL hK (by intro y hy; simp at hy; rcases hy with rfl | rfl | rfl; exact h1; exact h2; exact h3)⟩

theorem e_wb : eb.w ≤ 1000 ∧ ex.w ≤ 1000 ∧ ey.w ≤ 1000 ∧ er.w ≤ 1000 := by
  have z0 : (⟨#[]⟩ : ByteArray).size = 0 := rfl
  have z1 : e1.size = 3 := rfl
  have z2 : e2.size = 3 := rfl
  have z3 : e3.size = 3 := rfl
  have za : ka.size = 1 := rfl
  have zb : kb.size = 1 := rfl
  have zc : kc.size = 1 := rfl
  have zd : kd.size = 1 := rfl
  refine ⟨?_, ?_, ?_, ?_⟩ <;> simp [eb, ex, ey, er, objV, listV, numV, Val.w_eq, z0, z1, z2, z3, za, zb, zc, zd]
/-- The boxes of the example's four objects. -/
def Boxes (W : World) (p1 p2 p3 p4 : Nat) (o1 o2 o3 o4 : Obj) : Prop := W.heap[p1]? = some o1 ∧ W.heap[p2]? = some o2 ∧ W.heap[p3]? = some o3 ∧ W.heap[p4]? = some o4
theorem Boxes.up {W W' : World} {p1 p2 p3 p4 : Nat} {o1 o2 o3 o4 : Obj} (h : Boxes W p1 p2 p3 p4 o1 o2 o3 o4) (hb : Below W.heap.size W W') : Boxes W' p1 p2 p3 p4 o1 o2 o3 o4 := ⟨blk_up hb h.1, blk_up hb h.2.1, blk_up hb h.2.2.1, blk_up hb h.2.2.2⟩

end Go.Proofs.YtjihepdjcbpgoaaGreatDoor
