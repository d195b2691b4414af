/-
  What a shape asks, kind by kind. Plain; no condition.
-/
import Derived.Test.YtmhkacafilpliaaV5
namespace Go.Proofs.Ytmhkacafilpliaa
open Go.RowKit Go.Sort
theorem shape_big {v : Val} (h : v.shape = true) (hk : ¬ v.k < 7) : v.k = 7 ∨ v.k = 8 ∧ v.ks.length = v.l.length ∧ v.ks.Nodup := by
  unfold Val.shape at h
  split at h
  · omega
  split at h
  · omega
  split at h
  · omega
  split at h
  · omega
  split at h
  · exact .inl (by assumption)
  split at h
  · simp at h; exact .inr ⟨by assumption, h.1.2, h.2⟩
  · cases h
theorem shape_leaf2 {v : Val} (h : v.shape = true) (hk : v.k < 7) : v.l = [] ∧ v.ks = [] := by
  unfold Val.shape at h
  split at h
  · simp at h; exact h.2
  split at h
  · simp at h; exact h.2
  split at h
  · simp at h; exact h
  split at h
  · simp at h; exact h.2
  split at h
  · omega
  split at h
  · omega
  · cases h
theorem shape_list {v : Val} (h : v.shape = true) (hk : v.k = 7) : v.t.toList = [] ∧ v.ks = [] := by
  unfold Val.shape at h
  rw [hk] at h
  simp at h
  exact h
theorem shape_map {v : Val} (h : v.shape = true) (hk : v.k = 8) : v.t.toList = [] ∧ v.ks.length = v.l.length ∧ v.ks.Nodup := by
  unfold Val.shape at h
  rw [hk] at h
  simp at h
  exact ⟨h.1.1, h.1.2, h.2⟩
theorem within_k {n : Nat} {v : Val} (h : v.within (n + 1) = true) : v.shape = true ∧ ∀ y ∈ v.l, y.within n = true := by
  rw [Val.within_s, Bool.and_eq_true] at h
  exact ⟨h.1, fun y hy => List.all_eq_true.1 h.2 y hy⟩
theorem within_sh {n : Nat} {v : Val} (h : v.within n = true) : v.shape = true := by
  cases n with
  | zero => rw [Val.within_0, Bool.and_eq_true] at h; exact h.1
  | succ n => exact (within_k h).1

end Go.Proofs.Ytmhkacafilpliaa
