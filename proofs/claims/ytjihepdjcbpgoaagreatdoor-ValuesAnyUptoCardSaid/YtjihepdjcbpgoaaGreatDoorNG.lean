/-
  renames.Of: contract. Conditions: the trees lie in memory, their weights are bounded; strconv's table of powers holds what its initialiser lays.
  renames.used, renames.Used: contracts. Conditions: the trees lie in memory, their weights are bounded; strconv's table of powers holds what its initialiser lays.
  renames.Used: contract. Conditions: the trees lie in memory, their weights are bounded; strconv's table of powers holds what its initialiser lays.
-/
import Derived.Test.YtjihepdjcbpgoaaGreatDoorND
import Derived.Test.YtjihepdjcbpgoaaGreatDoorP3
namespace Go.Proofs.YtjihepdjcbpgoaaGreatDoor
open Go.RowKit Go.Sort
/-- The block that a slice begins in is there, none of its cells is frozen. -/
def Unfz (w : World) (A : Option Addr) : Prop := ∀ b off, A = some ⟨b, off, none⟩ → b < w.heap.size ∧ ∀ o, w.frozen? ⟨b, o, none⟩ = false
theorem own_unfz {w : World} {base e size n m cap : Nat} {A : Option Addr} {xs : List Value} (h : w.ownsRow base e size (.slice A m cap) n xs) : Unfz w A := by
  intro b off e1
  rcases h.2 with ⟨e2, -⟩ | ⟨g, cap', cur, e2, -, hg, -⟩
  · injection e2 with e3; rw [e1] at e3; cases e3
  · injection e2 with e3
    rw [e1] at e3
    injection e3 with e3
    injection e3 with e4 e5
    subst e4
    exact ⟨lt_of_block hg, fun o => frozen_of_row w b o cur _ hg⟩
theorem Unfz.none (w : World) : Unfz w none := fun _ _ h => by cases h
/-- The renames of some entries. -/
def ofL (b x : Val) (l : List (ByteArray × Val)) : List (ByteArray × ByteArray) := l.filterMap fun e : ByteArray × Val => if hold (cand b x) e.2.key = (e.1, 1) ∧ (hold (cand x b) e.2.key).2 = 1 then some (e.1, (hold (cand x b) e.2.key).1) else none
theorem ofL_snoc (b x : Val) (l : List (ByteArray × Val)) (e : ByteArray × Val) : ofL b x (l ++ [e]) = if hold (cand b x) e.2.key = (e.1, 1) ∧ (hold (cand x b) e.2.key).2 = 1 then ofL b x l ++ [(e.1, (hold (cand x b) e.2.key).1)] else ofL b x l := by
  unfold ofL
  rw [List.filterMap_append]
  by_cases h : hold (cand b x) e.2.key = (e.1, 1) ∧ (hold (cand x b) e.2.key).2 = 1
  · rw [if_pos h]; simp [h]
  · rw [if_neg h]; simp [h]
theorem ofL_len (b x : Val) (l : List (ByteArray × Val)) : (ofL b x l).length ≤ l.length := List.length_filterMap_le _ _
/-- What Of hands back: these renames, the caller's to write into. -/
def RensPost (L : List (ByteArray × ByteArray)) (w : World) (e : Ending) (w' : World) : Prop := ∃ A c, e = .returned (.slice A L.length c) ∧ SlE renE 2 w' w.heap.size w'.heap.size A L ∧ Below w.heap.size w w' ∧ Unfz w' A

end Go.Proofs.YtjihepdjcbpgoaaGreatDoor

namespace Go.Proofs.YtjihepdjcbpgoaaGreatDoor
open Go.RowKit Go.Sort

theorem usedP_snoc (b o : Val) (l : List (ByteArray × ByteArray)) (r : ByteArray × ByteArray) : usedP (l ++ [r]) b o = usedP l b o ++ usedP [r] b o := by
  unfold usedP; rw [List.filter_append]
theorem usedP_len (l : List (ByteArray × ByteArray)) (b o : Val) : (usedP l b o).length ≤ l.length := List.length_filter_le _ _
def GotS (v : Val) (w : World) (e : Ending) (w' : World) : Prop := ∃ z : AV, e = .returned (.tuple #[z.val, .bool true]) ∧ z.v = v ∧ z.In w' w.heap.size w'.heap.size ∧ Below w.heap.size w w'
def GotN (w : World) (e : Ending) (w' : World) : Prop := e = .returned (.tuple #[zAV.val, .bool false]) ∧ Below w.heap.size w w'
theorem got_s {x : AV} {s : ByteArray} {v : Val} (h : x.v.get s = some v) (w : World) (hx : Rd w x) (hw : x.w ≤ 1048576) : Calls Tryz.prog 25 #[x.val, .string s] w (GotS v w) := by
  refine (get_c x s w hx hw).mono ?_
  rintro e w' ⟨z, rfl, h1, h2, h3, h4⟩
  exact ⟨z, by rw [h]; rfl, h1 v h, h3, h4⟩
theorem got_n {x : AV} {s : ByteArray} (h : x.v.get s = none) (w : World) (hx : Rd w x) (hw : x.w ≤ 1048576) : Calls Tryz.prog 25 #[x.val, .string s] w (GotN w) := by
  refine (get_c x s w hx hw).mono ?_
  rintro e w' ⟨z, rfl, h1, h2, h3, h4⟩
  exact ⟨by rw [h, h2 h]; rfl, h4⟩
theorem got_w {x : AV} {s : ByteArray} {v : Val} (h : x.v.get s = some v) : v.w < x.w := Val.w_kid (x := x.v) (get_mem h).1
theorem box2 {w : World} {b : Nat} {u v : Value} {t : TypeId} (h : w.heap[b]? = some (.cells #[u, v] t (0, 0))) : w.cell? ⟨b, 0, none⟩ = some u ∧ w.cell? ⟨b, 1, none⟩ = some v := by
  refine ⟨?_, ?_⟩ <;> simp [World.cell?, h]
end Go.Proofs.YtjihepdjcbpgoaaGreatDoor

namespace Go.Proofs.YtjihepdjcbpgoaaGreatDoor
open Go.RowKit Go.Sort

theorem tri_at {w W : World} {o1 o2 o3 : Obj} (hb : Below (w.heap.size + 1 + 1 + 1) (((w.alloc o1).alloc o2).alloc o3) W) : W.heap[w.heap.size]? = some o1 ∧ W.heap[w.heap.size + 1]? = some o2 ∧ W.heap[w.heap.size + 1 + 1]? = some o3 ∧ w.heap.size + 1 + 1 < W.heap.size ∧ Below w.heap.size w W := by
  have hs := hb.size
  simp only [World.size_alloc] at hs
  have h2 := heap_alloc_new (w.alloc o1) o2
  have h3 := heap_alloc_new ((w.alloc o1).alloc o2) o3
  simp only [World.size_alloc] at h2 h3
  refine ⟨(hb.block _ (by omega)).trans ?_, (hb.block _ (by omega)).trans ?_, (hb.block _ (by omega)).trans h3, by omega, ?_⟩
  · rw [heap_alloc_old _ _ _ (by simp; omega), heap_alloc_old _ _ _ (by simp)]; exact heap_alloc_new w o1
  · rw [heap_alloc_old _ _ _ (by simp)]; exact h2
  · exact (((((Below.refl _ _).alloc (Nat.le_refl _) _).alloc (by simp) _).alloc (by simp; omega) _)).trans (hb.mono (by omega))
theorem tri_0 {w : World} {o1 o2 o3 : Obj} : Below (w.heap.size + 1 + 1 + 1) (((w.alloc o1).alloc o2).alloc o3) (((w.alloc o1).alloc o2).alloc o3) := Below.refl _ _
theorem tri_b {w : World} {o1 o2 o3 : Obj} : Below w.heap.size w (((w.alloc o1).alloc o2).alloc o3) := (((Below.refl _ _).alloc (Nat.le_refl _) _).alloc (by simp) _).alloc (by simp; omega) _
theorem tri_step {N : Nat} {A W W' : World} (h : Below N A W) (hb : Below W.heap.size W W') (hN : N ≤ A.heap.size) : Below N A W' := h.trans (hb.mono (Nat.le_trans hN h.size))
theorem ofV_le (x y : AV) (hw : x.w ≤ 1048576 := by assumption) : (ofV x.v y.v).length ≤ 1048576 := by
  unfold ofV
  split
  · have h1 := ofL_len x.v y.v (x.v.ks.zip x.v.l)
    have h2 := x.w_ks
    rw [List.length_zip] at h1
    have e : x.v.ks.length = x.ks.length := by rw [AV.v_ks]
    show (ofL x.v y.v (x.v.ks.zip x.v.l)).length ≤ _
    omega
  · simp
/-- What Used hands back. -/
def UsedPost (P : List (ByteArray × ByteArray) × List (ByteArray × ByteArray)) (w : World) (e : Ending) (w' : World) : Prop :=
  ∃ A c B d, e = .returned (.tuple #[.slice A P.1.length c, .slice B P.2.length d]) ∧ SlE renE 2 w' w.heap.size w'.heap.size A P.1 ∧ SlE renE 2 w' w.heap.size w'.heap.size B P.2 ∧ Below w.heap.size w w'
end Go.Proofs.YtjihepdjcbpgoaaGreatDoor
