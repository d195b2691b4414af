/-
  Values that may be stand in an order, plain. Condition: the values may be.
-/
import Derived.Test.YtjihepdjcbpgoaaGreatDoorSE
import Derived.Test.YtjihepdjcbpgoaaGreatDoorO5
namespace Go.Proofs.YtjihepdjcbpgoaaGreatDoor
open Go.RowKit Go.Sort

theorem canon_may {a b : Val} (ha : a.may = true) (hb : b.may = true) : cmpV 256 a b = 0 ↔ canon 256 a = canon 256 b :=
  cmpV_zero 256 a b (by rw [Val.may_eq]; exact ha) (by rw [Val.may_eq]; exact hb)
theorem cmpR_may {a b : Val} (ha : a.may = true) (hb : b.may = true) : cmpR a b = cmpV 256 a b := by rw [cmpR, if_pos ⟨ha, hb⟩]
theorem ord_turn {a b : Val} (ha : a.may = true) (hb : b.may = true) : cmpR b a = - cmpR a b := by
  rw [cmpR, cmpR, if_pos ⟨hb, ha⟩, if_pos ⟨ha, hb⟩]
  exact (cmpV_ord 256).anti b a trivial trivial
theorem ord_self {a : Val} (ha : a.may = true) : cmpR a a = 0 := by rw [cmpR, if_pos ⟨ha, ha⟩, cmpV_refl]
theorem ord_same {a b : Val} (ha : a.may = true) (hb : b.may = true) : decide (cmpR a b = 0) = sameV a b := by
  rw [cmpR, if_pos ⟨ha, hb⟩, sameV, ha, hb]; simp
theorem ord_key {a b : Val} (ha : a.may = true) (hb : b.may = true) : decide (a.key = b.key) = sameV a b := by
  rw [sameV, ha, hb, Bool.and_true, Bool.true_and]
  exact decide_eq_decide.2 (key_same ha hb)
theorem ord_trans {a b c : Val} (ha : a.may = true) (hb : b.may = true) (hc : c.may = true) (h1 : cmpR a b ≤ 0) (h2 : cmpR b c ≤ 0) : cmpR a c ≤ 0 ∧ (cmpR a c = 0 → cmpR a b = 0 ∧ cmpR b c = 0) := by
  rw [cmpR_may ha hb] at h1 ⊢
  rw [cmpR_may hb hc] at h2 ⊢
  rw [cmpR_may ha hc]
  exact (cmpV_ord 256).le trivial trivial trivial h1 h2
theorem ord_even {a b c : Val} (ha : a.may = true) (hb : b.may = true) (hc : c.may = true) (h : cmpR a b = 0) : textR a = textR b ∧ a.size = b.size ∧ cmpR a c = cmpR b c := by
  rw [cmpR, if_pos ⟨ha, hb⟩] at h
  have e := (canon_may ha hb).1 h
  have wa : a.within 256 = true := by rw [Val.may_eq]; exact ha
  have wb : b.within 256 = true := by rw [Val.may_eq]; exact hb
  refine ⟨?_, ?_, ?_⟩
  · rw [textR, textR, if_pos ha, if_pos hb, text_canon 256 a b wa wb e]
  · rw [← canon_size 256 a wa, ← canon_size 256 b wb, e]
  · rw [cmpR, if_pos ⟨ha, hc⟩, cmpR, if_pos ⟨hb, hc⟩]
    have h1 := (cmpV_ord 256).congr_r (a := a) (b := b) (c := c) trivial trivial trivial h
    have h2 := (cmpV_ord 256).anti a c trivial trivial
    have h3 := (cmpV_ord 256).anti b c trivial trivial
    rw [h2, h3, h1]
end Go.Proofs.YtjihepdjcbpgoaaGreatDoor
