/-
  The law's example of chapter 14: small, and what it comes to. No condition.
-/
import Derived.Test.YtjihepdjcbpgoaaDoorVJ
import Derived.Test.YtjihepdjcbpgoaaDoorVM
import Derived.Test.YtjihepdjcbpgoaaDoorVC
namespace Go.Proofs.YtjihepdjcbpgoaaDoor
open Go.RowKit Go.Sort

theorem lt_of_blk {W : World} {i : Nat} {o : Obj} (hk : W.heap[i]? = some o) : i < W.heap.size := by
  rcases Nat.lt_or_ge i W.heap.size with h | h
  · exact h
  · rw [Array.getElem?_eq_none h] at hk; cases hk
theorem blk_up {w W : World} {i : Nat} {o : Obj} (h : Below w.heap.size w W) (hk : w.heap[i]? = some o) : W.heap[i]? = some o := by
  have h1 : i < w.heap.size := by
    rcases Nat.lt_or_ge i w.heap.size with h | h
    · exact h
    · rw [Array.getElem?_eq_none h] at hk; cases hk
  exact (h.block i h1).trans hk

def smallV : Val := ⟨8, ⟨#[]⟩, [⟨7, ⟨#[]⟩, [⟨2, ⟨#[49, 101, 48]⟩, [], []⟩, ⟨0, ⟨#[]⟩, [], []⟩], []⟩, ⟨3, ⟨#[120]⟩, [], []⟩], [⟨#[98]⟩, ⟨#[97]⟩]⟩

def MadeAs (v : Val) (w : World) (e : Ending) (w' : World) : Prop := ∃ y : AV, e = .returned y.val ∧ y.v = v ∧ y.In w' w.heap.size w'.heap.size ∧ Below w.heap.size w w'

theorem leaf_in {w : World} {lo hi : Nat} (k : Int) (t : ByteArray) (h : 0 ≤ k ∧ k ≤ 255) : AV.In w lo hi ⟨k, t, none, 0, [], none, 0, []⟩ := ⟨SlE.nil, SlE.nil, h, fun _y hy => absurd hy List.not_mem_nil⟩

theorem tl (l : List UInt8) : (⟨l.toArray⟩ : ByteArray).toList = l := by rw [ByteArray.toList_eq]
theorem small_may : smallV.may = true := by
  rw [← Val.may_eq, plain_within]
  simp [Val.deepR_eq, Val.plain_eq, smallV, maxL, Val.shape, ByteArray.toList_eq]
theorem small_size : smallV.size = 5 := by simp [Val.size_eq, smallV]
theorem small_deep : smallV.deep = 2 := by simp [Val.deep_eq, smallV, maxL]
theorem ents_of {v : Val} {L : List (ByteArray × Val)} (hn : v.ks.Nodup) (hp : L.Perm (v.ks.zip v.l)) (hs : L.Pairwise fun a b => a.1.toList ≤ b.1.toList) : v.ents = L :=
  sorted_eq ((ents_perm v).trans hp.symm) (ents_key hn) (ents_sorted v) hs
theorem small_text : textR smallV = [123, 34, 97, 34, 58, 34, 120, 34, 44, 34, 98, 34, 58, 91, 49, 101, 48, 44, 110, 117, 108, 108, 93, 125] := by
  have he : smallV.ents = [(⟨#[97]⟩, ⟨3, ⟨#[120]⟩, [], []⟩), (⟨#[98]⟩, ⟨7, ⟨#[]⟩, [⟨2, ⟨#[49, 101, 48]⟩, [], []⟩, ⟨0, ⟨#[]⟩, [], []⟩], []⟩)] := by
    refine ents_of (by simp [smallV]) (List.Perm.swap _ _ _) ?_
    simp [ByteArray.toList_eq]
    decide
  rw [textR, if_pos small_may, textV_s, he]
  have h1 : textV 255 ⟨3, ⟨#[120]⟩, [], []⟩ = [34, 120, 34] := by rw [textV_s]; decide
  have h2 : textV 254 ⟨2, ⟨#[49, 101, 48]⟩, [], []⟩ = [49, 101, 48] := by rw [textV_s]; decide
  have h3 : textV 254 ⟨0, ⟨#[]⟩, [], []⟩ = [110, 117, 108, 108] := by rw [textV_s]; decide
  have h4 : textV 255 ⟨7, ⟨#[]⟩, [⟨2, ⟨#[49, 101, 48]⟩, [], []⟩, ⟨0, ⟨#[]⟩, [], []⟩], []⟩ = [91, 49, 101, 48, 44, 110, 117, 108, 108, 93] := by
    rw [textV_s]
    show [91] ++ commaL [textV 254 _, textV 254 _] ++ [93] = _
    rw [h2, h3]; decide
  show [123] ++ commaL [quoteL [97] ++ [58] ++ textV 255 _, quoteL [98] ++ [58] ++ textV 255 _] ++ [125] = _
  rw [h1, h4]; decide
end Go.Proofs.YtjihepdjcbpgoaaDoor
