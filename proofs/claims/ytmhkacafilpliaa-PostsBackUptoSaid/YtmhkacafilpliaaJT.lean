/-
  PostsSame: what two values' postorders tell; the roots. Conditions: both values lie in memory, their weights are bounded.
-/
import Derived.Test.YtmhkacafilpliaaJS
import Derived.Test.YtmhkacafilpliaaVF
import Derived.Test.YtmhkacafilpliaaO5
namespace Go.Proofs.Ytmhkacafilpliaa
open Go.RowKit Go.Sort Go.Shelf

theorem same_posts {x y : Val} (hx : x.may = true) (hy : y.may = true) : sameV x y = true ↔ x.labs = y.labs ∧ x.lefts = y.lefts := by
  have wx : x.within 256 = true := by rw [Val.may_eq]; exact hx
  have wy : y.within 256 = true := by rw [Val.may_eq]; exact hy
  unfold sameV
  rw [hx, hy, Bool.true_and, Bool.true_and, decide_eq_true_iff, cmpV_zero 256 x y wx wy, Val.labs_eq, Val.labs_eq, Val.lefts_eq, Val.lefts_eq]
  constructor
  · intro h
    exact ⟨by rw [← post_canon 256 false ⟨#[]⟩ x wx, h, post_canon 256 false ⟨#[]⟩ y wy], by rw [← left_canon 256 0 false ⟨#[]⟩ x wx, h, left_canon 256 0 false ⟨#[]⟩ y wy]⟩
  · rintro ⟨h1, h2⟩
    exact post_inj 256 0 ⟨false, ⟨#[]⟩, x⟩ ⟨false, ⟨#[]⟩, y⟩ wx wy h1 h2
theorem like_posts {W : World} {x y : Val} (hx : x.may = true) (hy : y.may = true) {al af ar al' af' ar' : Option Addr} {n r n' r' : Nat} (en : n = x.labs.length) (er : r = (rootsL x.lefts).length) (en' : n' = y.labs.length) (er' : r' = (rootsL y.lefts).length)
    (hp : PA.Rd ⟨al, n, af, n, ar, r, x.labs, intsL x.lefts, intsL (rootsL x.lefts)⟩ W) (hq : PA.Rd ⟨al', n', af', n', ar', r', y.labs, intsL y.lefts, intsL (rootsL y.lefts)⟩ W) :
    Calls Try.prog 37 #[.agg #[.slice al n n, .slice af n n, .slice ar r r], .agg #[.slice al' n' n', .slice af' n' n', .slice ar' r' r']] W (Ret (.bool (sameV x y)) W) := by
  have h := like_c W _ _ hp hq
  have e : decide (x.labs = y.labs ∧ intsL x.lefts = intsL y.lefts ∧ intsL (rootsL x.lefts) = intsL (rootsL y.lefts)) = sameV x y := by
    rw [Bool.eq_iff_iff, decide_eq_true_iff, same_posts hx hy, nat_cast_inj, nat_cast_inj]
    exact ⟨fun h => ⟨h.1, h.2.1⟩, fun h => ⟨h.1, h.2, by rw [h.2]⟩⟩
  simp only [e] at h
  simp only [PA.box, pBox, List.length_map, lefts_len] at h
  subst en er en' er'
  exact h
/-- How many of the first k roots stand at or above i, with i's leaf. -/
def manyL (F : List Nat) (l i k : Nat) : Nat := (((rootsL F).take k).filter fun r => decide (F[r]? = some l) && decide (i ≤ r)).length
theorem many_zero (F : List Nat) (l i : Nat) : manyL F l i 0 = 0 := rfl
theorem many_succ {F : List Nat} {l i k r : Nat} (h : (rootsL F)[k]? = some r) : manyL F l i (k + 1) = manyL F l i k + if F[r]? = some l ∧ i ≤ r then 1 else 0 := by
  unfold manyL
  rw [List.take_add_one, h, List.filter_append, List.length_append]
  simp only [Option.toList_some, List.filter_cons, List.filter_nil, Bool.and_eq_true, decide_eq_true_eq]
  split <;> rfl
theorem many_all {F : List Nat} {l i : Nat} (h : F[i]? = some l) : manyL F l i (rootsL F).length = 1 := by
  unfold manyL
  rw [List.take_length]
  exact root_count h
theorem many_le (F : List Nat) (l i k : Nat) : manyL F l i k ≤ k := by
  unfold manyL
  refine Nat.le_trans (List.length_filter_le _ _) ?_
  rw [List.length_take]; omega
theorem root_get {F : List Nat} {k r : Nat} (h : (rootsL F)[k]? = some r) : r < F.length := (roots_mem.1 (List.mem_of_getElem? h)).1
theorem root_lt {F : List Nat} {k r q : Nat} (h : (rootsL F)[k + 1]? = some r) (h2 : (rootsL F)[k]? = some q) : q < r := by
  have hp := roots_rise F
  have h1 := (List.getElem?_eq_some_iff.1 h).1
  have e1 := (List.getElem?_eq_some_iff.1 h).2
  have e2 := (List.getElem?_eq_some_iff.1 h2).2
  have := List.pairwise_iff_getElem.1 hp k (k + 1) (by omega) h1 (by omega)
  rw [e1, e2] at this
  exact this
theorem lefts_at {x : Val} {i l : Nat} (h : x.lefts[i]? = some l) : l ≤ i := by
  rw [Val.lefts_eq] at h
  have := left_in _ _ _ _ _ h
  omega
end Go.Proofs.Ytmhkacafilpliaa
