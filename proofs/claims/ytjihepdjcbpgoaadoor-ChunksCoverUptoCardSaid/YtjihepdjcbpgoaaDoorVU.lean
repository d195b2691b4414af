/-
  values.Get: contract. Conditions: the tree lies in memory, its weight is bounded.
-/
import Derived.Test.YtjihepdjcbpgoaaDoorVS
import Derived.Test.YtjihepdjcbpgoaaDoorO5
namespace Go.Proofs.YtjihepdjcbpgoaaDoor
open Go.RowKit Go.Sort

theorem idx_from (x : ByteArray) : ∀ (zs : List ByteArray) (i : Nat), Lib.idxFromS zs x i = match idxB zs x with | some k => ((i + k : Nat) : Int) | none => -1
  | [], _ => rfl
  | z :: zs, i => by
    simp only [Lib.idxFromS, idxB]
    split
    · rfl
    · rw [idx_from x zs (i + 1)]
      cases idxB zs x with
      | none => rfl
      | some k => simp only [Option.map_some]; congr 1; omega
theorem idx_eq (zs : List ByteArray) (x : ByteArray) : Lib.idxOfS zs x = match idxB zs x with | some k => (k : Int) | none => -1 := by
  rw [Lib.idxOfS, idx_from]
  cases idxB zs x with
  | none => rfl
  | some k => simp
theorem two_new {w W : World} {o1 o2 : Obj} (hb : Below ((w.alloc o1).alloc o2).heap.size ((w.alloc o1).alloc o2) W) : W.heap[w.heap.size]? = some o1 ∧ W.heap[w.heap.size + 1]? = some o2 ∧ w.heap.size + 1 < W.heap.size ∧ Below w.heap.size w W := by
  have hs := hb.size
  simp only [World.size_alloc] at hs
  have h2 := heap_alloc_new (w.alloc o1) o2
  rw [World.size_alloc] at h2
  exact ⟨(hb.block w.heap.size (by simp; omega)).trans ((heap_alloc_old _ _ _ (by simp)).trans (heap_alloc_new w o1)), (hb.block (w.heap.size + 1) (by simp)).trans h2, by omega, (((Below.refl _ _).alloc (Nat.le_refl _) _).alloc (by simp) _).trans (hb.mono (by simp; omega))⟩
def GetPost (v : Val) (s : ByteArray) (w : World) (e : Ending) (w' : World) : Prop :=
  ∃ z : AV, e = .returned (.tuple #[z.val, .bool (v.get s).isSome]) ∧ (∀ y, v.get s = some y → z.v = y) ∧ (v.get s = none → z = zAV) ∧ z.In w' w.heap.size w'.heap.size ∧ Below w.heap.size w w'

theorem get_fin {v : Val} {s : ByteArray} {w w' : World} (hn : v.get s = none) (hb : Below w.heap.size w w') : GetPost v s w (.returned (.tuple #[.agg #[.int .u8 0, .string ⟨#[]⟩, .slice none 0 0, .slice none 0 0], .bool false])) w' :=
  ⟨zAV, by rw [hn]; rfl, (fun y h => by rw [hn] at h; cases h), fun _ => rfl, ⟨SlE.nil, SlE.nil, by simp [zAV], fun y hy => absurd hy List.not_mem_nil⟩, hb⟩

end Go.Proofs.YtjihepdjcbpgoaaDoor
