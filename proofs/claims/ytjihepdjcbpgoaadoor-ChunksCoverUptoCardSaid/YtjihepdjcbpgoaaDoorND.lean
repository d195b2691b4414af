/-
  renames.isMap, slices.Contains at texts, renames.holders: contracts. Conditions: the trees lie in memory, their weights are bounded; strconv's table of powers holds what its initialiser lays.
-/
import Derived.Test.YtjihepdjcbpgoaaDoorNB
import Derived.Test.YtjihepdjcbpgoaaDoorSE
import Derived.Test.YtjihepdjcbpgoaaDoorVU
namespace Go.Proofs.YtjihepdjcbpgoaaDoor
open Go.RowKit Go.Sort
/-- The candidates of some entries. -/
def candL (o : Val) (l : List (ByteArray × Val)) : List (ByteArray × ByteArray) := (l.filter fun e : ByteArray × Val => decide (e.1 ∉ o.ks ∧ 2 ≤ e.2.sz)).map fun e => (e.1, e.2.key)
theorem cand_L (v o : Val) : cand v o = candL o (v.ks.zip v.l) := rfl
theorem candL_snoc (o : Val) (l : List (ByteArray × Val)) (e : ByteArray × Val) : candL o (l ++ [e]) = if e.1 ∉ o.ks ∧ 2 ≤ e.2.sz then candL o l ++ [(e.1, e.2.key)] else candL o l := by
  unfold candL
  rw [List.filter_append]
  by_cases h : e.1 ∉ o.ks ∧ 2 ≤ e.2.sz
  · rw [if_pos h, List.filter_cons_of_pos (by simpa using h)]; simp
  · rw [if_neg h, List.filter_cons_of_neg (by simpa using h)]; simp
theorem candL_len (o : Val) (l : List (ByteArray × Val)) : (candL o l).length ≤ l.length := by
  unfold candL
  rw [List.length_map]
  exact List.length_filter_le _ _
theorem key_size {w : World} {lo hi : Nat} {x : AV} (hx : x.In w lo hi) (hw : x.w ≤ 1048576) : x.v.key.size ≤ 104857600 := by
  unfold Val.key
  split
  · have := sign_len 256 x hx hw
    have e : (⟨(signV 256 x.v).toArray⟩ : ByteArray).size = (signV 256 x.v).length := by simp [ByteArray.size]
    rw [e]; omega
  · show (0 : Nat) ≤ _; omega
theorem sz_size {x : AV} : (if x.v.may then (x.v.size : Int) else 0) = (x.v.sz : Int) := by unfold Val.sz; split <;> rfl

def HoldPost (C : List (ByteArray × ByteArray)) (w : World) (e : Ending) (w' : World) : Prop := ∃ B, e = .returned (.map (some B)) ∧ w.heap.size ≤ B ∧ MapH w' B C ∧ Below w.heap.size w w'
end Go.Proofs.YtjihepdjcbpgoaaDoor
