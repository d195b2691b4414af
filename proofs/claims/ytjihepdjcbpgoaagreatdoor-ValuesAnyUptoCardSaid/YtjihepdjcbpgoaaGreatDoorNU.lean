/-
  inarchref24.Of: as the program's Of. Conditions: the trees lie in memory, their weights are bounded.
  inarchref24.used, Used: as the program's Used. Conditions: the trees lie in memory, their weights are bounded.
  inarchref24.Used: as the program's Used. inarchlaw24.same: true of the same renames. Conditions: the trees lie in memory, their weights are bounded.
-/
import Derived.Test.YtjihepdjcbpgoaaGreatDoorNQ
namespace Go.Proofs.YtjihepdjcbpgoaaGreatDoor
open Go.RowKit Go.Sort

def RRensPost (L : List (ByteArray × ByteArray)) (w : World) (e : Ending) (w' : World) : Prop := ∃ A c, e = .returned (.slice A L.length c) ∧ SlE renE 2 w' w.heap.size w'.heap.size A L ∧ Below w.heap.size w w'
theorem refL_len (b x : Val) (l : List (ByteArray × Val)) : (refL b x l).length ≤ l.length := List.length_filterMap_le _ _
end Go.Proofs.YtjihepdjcbpgoaaGreatDoor

namespace Go.Proofs.YtjihepdjcbpgoaaGreatDoor
open Go.RowKit Go.Sort

theorem rgot_s {x : AV} {s : ByteArray} {v : Val} (h : x.v.get s = some v) (w : World) (hx : Rd w x) (hw : x.w ≤ 1048576) : Calls Tryz.prog 26 #[x.val, .string s] w (fun e w' => ∃ z, e = .returned (.tuple #[z.val, .bool true]) ∧ z ∈ x.l ∧ z.v = v ∧ Below w.heap.size w w') := by
  refine (rget_c x s w hx hw).mono ?_
  rintro e w' ⟨⟨z, hm, hz, rfl⟩ | ⟨hn, -⟩, hb⟩
  · rw [h] at hz; cases hz; exact ⟨z, rfl, hm, rfl, hb⟩
  · rw [h] at hn; cases hn
theorem rgot_n {x : AV} {s : ByteArray} (h : x.v.get s = none) (w : World) (hx : Rd w x) (hw : x.w ≤ 1048576) : Calls Tryz.prog 26 #[x.val, .string s] w (fun e w' => e = .returned (.tuple #[zAV.val, .bool false]) ∧ Below w.heap.size w w') := by
  refine (rget_c x s w hx hw).mono ?_
  rintro e w' ⟨⟨z, hm, hz, rfl⟩ | ⟨-, rfl⟩, hb⟩
  · rw [h] at hz; cases hz
  · exact ⟨rfl, hb⟩
end Go.Proofs.YtjihepdjcbpgoaaGreatDoor

namespace Go.Proofs.YtjihepdjcbpgoaaGreatDoor
open Go.RowKit Go.Sort
end Go.Proofs.YtjihepdjcbpgoaaGreatDoor
