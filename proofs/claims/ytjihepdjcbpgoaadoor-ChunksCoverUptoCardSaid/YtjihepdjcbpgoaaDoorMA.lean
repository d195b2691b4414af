/-
  Longest common parts of two lists, plain: how long they are, the earliest one, and how few differences there are (Myers). No program.
-/
import Derived.Test.YtjihepdjcbpgoaaDoorBase
namespace Go.Proofs.YtjihepdjcbpgoaaDoor

section
variable {α : Type}
theorem sub_ne {z x : α} {zs xs : List α} (h : (z :: zs).Sublist (x :: xs)) (hne : z ≠ x) : (z :: zs).Sublist xs := by
  cases h with
  | cons _ h => exact h
  | cons_cons _ h => exact absurd rfl hne
theorem drop_cons' {l : List α} {i : Nat} {x : α} (h : l[i]? = some x) : l.drop i = x :: l.drop (i + 1) := by
  obtain ⟨hi, rfl⟩ := List.getElem?_eq_some_iff.1 h
  exact List.drop_eq_getElem_cons hi
theorem drop_sub {l : List α} {i j : Nat} (h : i ≤ j) : (l.drop j).Sublist (l.drop i) := by
  have : l.drop j = (l.drop i).drop (j - i) := by rw [List.drop_drop]; congr 1; omega
  rw [this]
  exact List.drop_sublist _ _
/-- A match. -/
def Mt (X Y : List α) (i k : Nat) : Prop := ∃ x, X[i]? = some x ∧ Y[k]? = some x
theorem Mt.lt {X Y : List α} {i k : Nat} (h : Mt X Y i k) : i < X.length ∧ k < Y.length := by
  obtain ⟨x, h1, h2⟩ := h
  exact ⟨(List.getElem?_eq_some_iff.1 h1).1, (List.getElem?_eq_some_iff.1 h2).1⟩
theorem Mt.shift {X Y : List α} {i k : Nat} (x y : α) : Mt (x :: X) (y :: Y) (i + 1) (k + 1) ↔ Mt X Y i k := by simp [Mt]
def shP (n m : Nat) (P : List (Nat × Nat)) : List (Nat × Nat) := P.map fun p => (p.1 + n, p.2 + m)
/-- Places 0 .. n-1, of both. -/
def diag (n : Nat) : List (Nat × Nat) := (List.range n).map fun i => (i, i)
theorem diag_succ (n : Nat) : diag (n + 1) = (0, 0) :: shP 1 1 (diag n) := by
  simp [diag, shP, List.range_succ_eq_map, Function.comp_def]
theorem shP_shP (a b c d : Nat) (P : List (Nat × Nat)) : shP a b (shP c d P) = shP (c + a) (d + b) P := by
  simp [shP, Function.comp_def, Nat.add_assoc]
/-- What one list alone has, ahead of each of its elements. -/
def weave (o : α) (X : List α) : List α := X.flatMap fun x => [o, x]
theorem weave_at (o : α) : ∀ (X : List α) (i : Nat), (weave o X)[2 * i + 1]? = X[i]? ∧ ((weave o X)[2 * i]? = X[i]?.map fun _ => o)
  | [], i => by simp [weave]
  | x :: X, 0 => by simp [weave]
  | x :: X, i + 1 => by
    have := weave_at o X i
    have e : weave o (x :: X) = o :: x :: weave o X := rfl
    rw [e, show 2 * (i + 1) + 1 = (2 * i + 1) + 1 + 1 by omega, show 2 * (i + 1) = 2 * i + 1 + 1 by omega]
    simpa using this
theorem weave_drop (o : α) : ∀ (X : List α) (i : Nat), (weave o X).drop (2 * i) = weave o (X.drop i)
  | [], i => by simp [weave]
  | x :: X, 0 => rfl
  | x :: X, i + 1 => by
    have e : weave o (x :: X) = o :: x :: weave o X := rfl
    rw [e, show 2 * (i + 1) = 2 * i + 1 + 1 by omega]
    simpa using weave_drop o X i
end
section
variable {α : Type} [DecidableEq α]
/-- How long a longest common part is. -/
def lcsL : List α → List α → Nat
  | [], _ => 0
  | _ :: _, [] => 0
  | x :: xs, y :: ys => if x = y then lcsL xs ys + 1 else max (lcsL xs (y :: ys)) (lcsL (x :: xs) ys)
termination_by xs ys => xs.length + ys.length
theorem lcs_nil (ys : List α) : lcsL [] ys = 0 := by rw [lcsL]
theorem lcs_nil' (xs : List α) : lcsL xs [] = 0 := by cases xs <;> rw [lcsL]
theorem lcs_eq {x y : α} (h : x = y) (xs ys : List α) : lcsL (x :: xs) (y :: ys) = lcsL xs ys + 1 := by rw [lcsL, if_pos h]
theorem lcs_ne {x y : α} (h : x ≠ y) (xs ys : List α) : lcsL (x :: xs) (y :: ys) = max (lcsL xs (y :: ys)) (lcsL (x :: xs) ys) := by rw [lcsL, if_neg h]
theorem lcs_has (n : Nat) : ∀ xs ys : List α, xs.length + ys.length ≤ n → ∃ zs : List α, zs.Sublist xs ∧ zs.Sublist ys ∧ zs.length = lcsL xs ys := by
  induction n with
  | zero =>
    intro xs ys h
    obtain rfl : xs = [] := List.eq_nil_of_length_eq_zero (by omega)
    exact ⟨[], List.Sublist.refl _, List.nil_sublist _, by rw [lcs_nil]; rfl⟩
  | succ n ih =>
    intro xs ys h
    match xs, ys, h with
    | [], ys, _ => exact ⟨[], List.Sublist.refl _, List.nil_sublist _, by rw [lcs_nil]; rfl⟩
    | x :: xs, [], _ => exact ⟨[], List.nil_sublist _, List.Sublist.refl _, by rw [lcs_nil']; rfl⟩
    | x :: xs, y :: ys, h =>
      simp only [List.length_cons] at h
      by_cases e : x = y
      · subst e
        obtain ⟨zs, h1, h2, h3⟩ := ih xs ys (by omega)
        exact ⟨x :: zs, h1.cons_cons x, h2.cons_cons x, by rw [lcs_eq rfl, List.length_cons, h3]⟩
      · rw [lcs_ne e]
        rcases Nat.le_total (lcsL xs (y :: ys)) (lcsL (x :: xs) ys) with hle | hle
        · obtain ⟨zs, h1, h2, h3⟩ := ih (x :: xs) ys (by simp only [List.length_cons]; omega)
          exact ⟨zs, h1, h2.cons y, by rw [h3]; omega⟩
        · obtain ⟨zs, h1, h2, h3⟩ := ih xs (y :: ys) (by simp only [List.length_cons]; omega)
          exact ⟨zs, h1.cons x, h2, by rw [h3]; omega⟩
theorem lcs_most (n : Nat) : ∀ xs ys zs : List α, xs.length + ys.length ≤ n → zs.Sublist xs → zs.Sublist ys → zs.length ≤ lcsL xs ys := by
  induction n with
  | zero =>
    intro xs ys zs h h1 h2
    have := h1.length_le
    omega
  | succ n ih =>
    intro xs ys zs h h1 h2
    match xs, ys, h, h1, h2 with
    | [], ys, _, h1, _ => rw [List.sublist_nil.1 h1]; exact Nat.zero_le _
    | x :: xs, [], _, _, h2 => rw [List.sublist_nil.1 h2]; exact Nat.zero_le _
    | x :: xs, y :: ys, h, h1, h2 =>
      simp only [List.length_cons] at h
      by_cases e : x = y
      · subst e
        rw [lcs_eq rfl]
        have := ih xs ys zs.tail (by omega) h1.tail h2.tail
        rw [List.length_tail] at this
        omega
      · rw [lcs_ne e]
        match zs, h1, h2 with
        | [], _, _ => simp
        | z :: zs, h1, h2 =>
          by_cases e2 : z = x
          · subst e2
            have := ih (z :: xs) ys (z :: zs) (by simp only [List.length_cons]; omega) h1 (sub_ne h2 e)
            omega
          · have := ih xs (y :: ys) (z :: zs) (by simp only [List.length_cons]; omega) (sub_ne h1 e2) h2
            omega
theorem lcs_get (xs ys : List α) : ∃ zs : List α, zs.Sublist xs ∧ zs.Sublist ys ∧ zs.length = lcsL xs ys := lcs_has _ xs ys (Nat.le_refl _)
theorem lcs_max {xs ys zs : List α} (h1 : zs.Sublist xs) (h2 : zs.Sublist ys) : zs.length ≤ lcsL xs ys := lcs_most _ xs ys zs (Nat.le_refl _) h1 h2
theorem lcs_mono {xs ys xs' ys' : List α} (h1 : xs.Sublist xs') (h2 : ys.Sublist ys') : lcsL xs ys ≤ lcsL xs' ys' := by
  obtain ⟨zs, g1, g2, g3⟩ := lcs_get xs ys
  rw [← g3]
  exact lcs_max (g1.trans h1) (g2.trans h2)
theorem lcs_comm (xs ys : List α) : lcsL xs ys = lcsL ys xs := by
  have key : ∀ xs ys : List α, lcsL xs ys ≤ lcsL ys xs := fun xs ys => by
    obtain ⟨zs, g1, g2, g3⟩ := lcs_get xs ys
    rw [← g3]
    exact lcs_max g2 g1
  exact Nat.le_antisymm (key _ _) (key _ _)
theorem lcs_le_l (xs ys : List α) : lcsL xs ys ≤ xs.length := by
  obtain ⟨zs, g1, g2, g3⟩ := lcs_get xs ys
  rw [← g3]; exact g1.length_le
theorem lcs_le_r (xs ys : List α) : lcsL xs ys ≤ ys.length := by rw [lcs_comm]; exact lcs_le_l _ _
theorem lcs_cons_l (x : α) (xs ys : List α) : lcsL (x :: xs) ys ≤ lcsL xs ys + 1 := by
  obtain ⟨zs, g1, g2, g3⟩ := lcs_get (x :: xs) ys
  have := lcs_max (zs := zs.tail) (xs := xs) (ys := ys) g1.tail ((List.tail_sublist _).trans g2)
  rw [List.length_tail] at this
  omega
theorem lcs_cons_r (y : α) (xs ys : List α) : lcsL xs (y :: ys) ≤ lcsL xs ys + 1 := by rw [lcs_comm, lcs_comm xs ys]; exact lcs_cons_l _ _ _
theorem lcs_rev (xs ys : List α) : lcsL xs.reverse ys.reverse = lcsL xs ys := by
  have key : ∀ xs ys : List α, lcsL xs ys ≤ lcsL xs.reverse ys.reverse := fun xs ys => by
    obtain ⟨zs, g1, g2, g3⟩ := lcs_get xs ys
    rw [← g3, ← List.length_reverse]
    exact lcs_max g1.reverse g2.reverse
  refine Nat.le_antisymm ?_ (key _ _)
  have := key xs.reverse ys.reverse
  rwa [List.reverse_reverse, List.reverse_reverse] at this
theorem lcs_front (l xs ys : List α) : lcsL (l ++ xs) (l ++ ys) = l.length + lcsL xs ys := by
  induction l with
  | nil => simp
  | cons x l ih => rw [List.cons_append, List.cons_append, lcs_eq rfl, ih, List.length_cons]; omega
theorem lcs_back (l xs ys : List α) : lcsL (xs ++ l) (ys ++ l) = lcsL xs ys + l.length := by
  rw [← lcs_rev, List.reverse_append, List.reverse_append, lcs_front, lcs_rev, List.length_reverse]; omega
theorem lcs_self (xs : List α) : lcsL xs xs = xs.length := Nat.le_antisymm (lcs_le_l _ _) (lcs_max (List.Sublist.refl _) (List.Sublist.refl _))
theorem lcs_skip {x : α} {ys : List α} (h : x ∉ ys) (xs : List α) : lcsL (x :: xs) ys = lcsL xs ys := by
  refine Nat.le_antisymm ?_ (lcs_mono (List.sublist_cons_self _ _) (List.Sublist.refl _))
  obtain ⟨zs, g1, g2, g3⟩ := lcs_get (x :: xs) ys
  rw [← g3]
  match zs, g1, g2 with
  | [], _, _ => simp
  | z :: zs, g1, g2 => exact lcs_max (sub_ne g1 fun e => h (e ▸ g2.subset (by simp))) g2
/-- From places on. -/
def lcsT (X Y : List α) (i k : Nat) : Nat := lcsL (X.drop i) (Y.drop k)
section
variable {X Y : List α} {i k : Nat}
theorem lcsT_end_l (h : X.length ≤ i) : lcsT X Y i k = 0 := by rw [lcsT, List.drop_eq_nil_of_le h, lcs_nil]
theorem lcsT_end_r (h : Y.length ≤ k) : lcsT X Y i k = 0 := by rw [lcsT, List.drop_eq_nil_of_le h, lcs_nil']
theorem lcsT_eq {x y : α} (hx : X[i]? = some x) (hy : Y[k]? = some y) (h : x = y) : lcsT X Y i k = lcsT X Y (i + 1) (k + 1) + 1 := by
  rw [lcsT, drop_cons' hx, drop_cons' hy, lcs_eq h, lcsT]
theorem lcsT_ne {x y : α} (hx : X[i]? = some x) (hy : Y[k]? = some y) (h : x ≠ y) : lcsT X Y i k = max (lcsT X Y (i + 1) k) (lcsT X Y i (k + 1)) := by
  rw [lcsT, drop_cons' hx, drop_cons' hy, lcs_ne h, lcsT, lcsT, drop_cons' hx, drop_cons' hy]
theorem lcsT_mono {i' k' : Nat} (h1 : i ≤ i') (h2 : k ≤ k') : lcsT X Y i' k' ≤ lcsT X Y i k := lcs_mono (drop_sub h1) (drop_sub h2)
theorem lcsT_more (i k : Nat) : lcsT X Y i k ≤ lcsT X Y (i + 1) k + 1 := by
  cases h : X[i]? with
  | none => rw [lcsT_end_l (List.getElem?_eq_none_iff.1 h)]; omega
  | some x => rw [lcsT, drop_cons' h]; exact lcs_cons_l _ _ _
theorem lcsT_more' (i k : Nat) : lcsT X Y i k ≤ lcsT X Y i (k + 1) + 1 := by
  cases h : Y[k]? with
  | none => rw [lcsT_end_r (List.getElem?_eq_none_iff.1 h)]; omega
  | some x => rw [lcsT, drop_cons' h]; exact lcs_cons_r _ _ _
end
theorem Mt.up {X Y : List α} {i k : Nat} (h : Mt X Y i k) : lcsT X Y i k = lcsT X Y (i + 1) (k + 1) + 1 := by
  obtain ⟨x, h1, h2⟩ := h
  exact lcsT_eq h1 h2 rfl
/-- The earliest longest common part, from places on. -/
inductive Early (X Y : List α) : Nat → Nat → List (Nat × Nat) → Prop
  | done {i k : Nat} (h : lcsT X Y i k = 0) : Early X Y i k []
  | step {i k i' k' : Nat} {P : List (Nat × Nat)} (hm : Mt X Y i' k') (h1 : i ≤ i') (h2 : k ≤ k') (h3 : lcsT X Y (i' + 1) (k' + 1) + 1 = lcsT X Y i k)
      (h4 : ∀ p q, i ≤ p → k ≤ q → Mt X Y p q → lcsT X Y (p + 1) (q + 1) + 1 = lcsT X Y i k → i' < p ∨ i' = p ∧ k' ≤ q) (h5 : Early X Y (i' + 1) (k' + 1) P) : Early X Y i k ((i', k') :: P)
theorem early_one {X Y : List α} {i k : Nat} {P Q : List (Nat × Nat)} (h : Early X Y i k P) : Early X Y i k Q → P = Q := by
  induction h generalizing Q with
  | done h =>
    intro h'
    cases h' with
    | done _ => rfl
    | step _ _ _ h3 _ _ => omega
  | @step i k i' k' P hm h1 h2 h3 h4 _ ih =>
    intro h'
    cases h' with
    | done h => omega
    | @step _ _ p q P' gm g1 g2 g3 g4 g5 =>
      have a := h4 p q g1 g2 gm g3
      have b := g4 i' k' h1 h2 hm h3
      obtain ⟨rfl, rfl⟩ : i' = p ∧ k' = q := by omega
      rw [ih g5]
theorem Early.len {X Y : List α} {i k : Nat} {P : List (Nat × Nat)} (h : Early X Y i k P) : P.length = lcsT X Y i k := by
  induction h with
  | done h => rw [h]; rfl
  | step hm h1 h2 h3 h4 _ ih => rw [List.length_cons, ih, h3]
/-- They are matches, and rise. -/
theorem Early.at_ {X Y : List α} {i k : Nat} {P : List (Nat × Nat)} (h : Early X Y i k P) : (∀ p ∈ P, i ≤ p.1 ∧ k ≤ p.2 ∧ Mt X Y p.1 p.2) ∧ P.Pairwise fun p q => p.1 < q.1 ∧ p.2 < q.2 := by
  induction h with
  | done h => exact ⟨by simp, .nil⟩
  | step hm h1 h2 h3 h4 _ ih =>
    obtain ⟨a, b⟩ := ih
    refine ⟨fun p hp => ?_, List.pairwise_cons.2 ⟨fun p hp => ?_, b⟩⟩
    · rcases List.mem_cons.1 hp with rfl | hp
      · exact ⟨h1, h2, hm⟩
      · obtain ⟨g1, g2, g3⟩ := a p hp
        exact ⟨by omega, by omega, g3⟩
    · obtain ⟨g1, g2, -⟩ := a p hp
      exact ⟨g1, g2⟩
/-- A match that is left for a longest one: none at place i. -/
theorem early_skip_T {X Y : List α} {i k : Nat} (hno : ∀ q, k ≤ q → Mt X Y i q → lcsT X Y i q ≠ lcsT X Y i k) : lcsT X Y (i + 1) k = lcsT X Y i k := by
  have key : ∀ q, k ≤ q → lcsT X Y i q = lcsT X Y i k → lcsT X Y (i + 1) k = lcsT X Y i k ∨ lcsT X Y i (q + 1) = lcsT X Y i k ∨ Y.length ≤ q := fun q hq he => by
    cases hx : X[i]? with
    | none =>
      have := List.getElem?_eq_none_iff.1 hx
      exact .inl (by rw [lcsT_end_l (by omega), lcsT_end_l this])
    | some x =>
      cases hy : Y[q]? with
      | none => exact .inr (.inr (List.getElem?_eq_none_iff.1 hy))
      | some y =>
        by_cases e : x = y
        · subst e; exact absurd he (hno q hq ⟨x, hx, hy⟩)
        · have h1 := lcsT_ne hx hy e
          rcases Nat.le_total (lcsT X Y i (q + 1)) (lcsT X Y (i + 1) q) with hl | hl
          · left
            have h2 : lcsT X Y (i + 1) q ≤ lcsT X Y (i + 1) k := lcsT_mono (Nat.le_refl _) hq
            have h3 : lcsT X Y (i + 1) k ≤ lcsT X Y i k := lcsT_mono (by omega) (Nat.le_refl _)
            omega
          · right; left; omega
  have all : ∀ n, lcsT X Y (i + 1) k = lcsT X Y i k ∨ lcsT X Y i (k + n) = lcsT X Y i k := fun n => by
    induction n with
    | zero => exact .inr rfl
    | succ n ih =>
      rcases ih with h | h
      · exact .inl h
      · rcases key (k + n) (by omega) h with g | g | g
        · exact .inl g
        · exact .inr g
        · right
          rw [lcsT_end_r (show Y.length ≤ k + (n + 1) by omega), ← h, lcsT_end_r g]
  rcases all Y.length with h | h
  · exact h
  · rw [lcsT_end_r (by omega)] at h
    have h3 : lcsT X Y (i + 1) k ≤ lcsT X Y i k := lcsT_mono (by omega) (Nat.le_refl _)
    omega
theorem early_skip {X Y : List α} {i k : Nat} {P : List (Nat × Nat)} (hno : ∀ q, k ≤ q → Mt X Y i q → lcsT X Y i q ≠ lcsT X Y i k) (h : Early X Y (i + 1) k P) : Early X Y i k P := by
  have he := early_skip_T hno
  cases h with
  | done h => exact .done (by omega)
  | step hm h1 h2 h3 h4 h5 =>
    refine .step hm (by omega) h2 (by omega) (fun p q a b c d => ?_) h5
    by_cases hp : p = i
    · subst hp
      exact absurd (by rw [c.up]; exact d) (hno q b c)
    · exact h4 p q (by omega) b c (by omega)
/-- A match that is left for a longest one, the first of place i. -/
theorem early_take {X Y : List α} {i k j : Nat} {P : List (Nat × Nat)} (hm : Mt X Y i j) (hk : k ≤ j) (he : lcsT X Y i j = lcsT X Y i k) (hno : ∀ q, k ≤ q → q < j → ¬ Mt X Y i q) (h : Early X Y (i + 1) (j + 1) P) : Early X Y i k ((i, j) :: P) := by
  refine .step hm (Nat.le_refl _) hk (by rw [← hm.up]; exact he) (fun p q a b c d => ?_) h
  by_cases hp : p = i
  · subst hp
    refine .inr ⟨rfl, ?_⟩
    rcases Nat.lt_or_ge q j with hq | hq
    · exact absurd c (hno q b hq)
    · exact hq
  · exact .inl (by omega)
theorem early_shift {X Y : List α} {i k : Nat} {P : List (Nat × Nat)} (x y : α) (h : Early X Y i k P) : Early (x :: X) (y :: Y) (i + 1) (k + 1) (shP 1 1 P) := by
  induction h with
  | done h => exact .done h
  | @step i k i' k' P hm h1 h2 h3 h4 _ ih =>
    refine .step ((Mt.shift x y).2 hm) (by omega) (by omega) h3 (fun p q a b c d => ?_) ih
    obtain ⟨p, rfl⟩ : ∃ p', p = p' + 1 := ⟨p - 1, by omega⟩
    obtain ⟨q, rfl⟩ : ∃ q', q = q' + 1 := ⟨q - 1, by omega⟩
    have := h4 p q (by omega) (by omega) ((Mt.shift x y).1 c) d
    omega
theorem early_cons {X Y : List α} {P : List (Nat × Nat)} (x : α) (h : Early X Y 0 0 P) : Early (x :: X) (x :: Y) 0 0 ((0, 0) :: shP 1 1 P) :=
  early_take ⟨x, rfl, rfl⟩ (Nat.le_refl _) rfl (fun _ _ h => absurd h (Nat.not_lt_zero _)) (early_shift x x h)
theorem early_front {X Y : List α} {P : List (Nat × Nat)} (l : List α) (h : Early X Y 0 0 P) : Early (l ++ X) (l ++ Y) 0 0 (diag l.length ++ shP l.length l.length P) := by
  induction l with
  | nil => simpa [diag, shP] using h
  | cons x l ih =>
    have := early_cons x ih
    rw [List.length_cons, diag_succ]
    have e : shP (l.length + 1) (l.length + 1) P = shP 1 1 (shP l.length l.length P) := (shP_shP _ _ _ _ _).symm
    have e2 : shP 1 1 (diag l.length) ++ shP 1 1 (shP l.length l.length P) = shP 1 1 (diag l.length ++ shP l.length l.length P) := by simp [shP]
    rw [e, List.cons_append, List.cons_append, List.cons_append, e2]
    exact this
theorem early_nil (Y : List α) : Early ([] : List α) Y 0 0 [] := .done (lcsT_end_l (Nat.zero_le _))
theorem early_self (X : List α) : Early X X 0 0 (diag X.length) := by
  have := early_front X (early_nil ([] : List α))
  simpa [shP] using this
theorem weave_lcs {o : α} : ∀ {n : Nat} {X Y : List α}, X.length + Y.length ≤ n → o ∉ Y → lcsL (weave o X) Y = lcsL X Y
  | 0, X, Y, h, _ => by
    obtain rfl : X = [] := List.eq_nil_of_length_eq_zero (by omega)
    rfl
  | n + 1, X, Y, h, ho => by
    match X, Y, h, ho with
    | [], Y, _, _ => rfl
    | x :: X, [], _, _ => rw [lcs_nil', lcs_nil']
    | x :: X, y :: Y, h, ho =>
      have e : weave o (x :: X) = o :: x :: weave o X := rfl
      simp only [List.length_cons] at h
      rw [e, lcs_skip ho]
      by_cases hx : x = y
      · rw [lcs_eq hx, lcs_eq hx, weave_lcs (n := n) (by omega) (fun h => ho (by simp [h]))]
      · rw [lcs_ne hx, lcs_ne hx, weave_lcs (n := n) (by simp only [List.length_cons]; omega) ho]
        have h2 : o ∉ Y := fun h => ho (by simp [h])
        have := weave_lcs (n := n) (X := x :: X) (Y := Y) (by simp only [List.length_cons]; omega) h2
        rw [e, lcs_skip h2] at this
        rw [this]
theorem weave_T {o : α} {X Y : List α} (ho : o ∉ Y) (i k : Nat) : lcsT (weave o X) Y (2 * i) k = lcsT X Y i k := by
  rw [lcsT, weave_drop, weave_lcs (Nat.le_refl _) (fun h => ho ((List.drop_sublist _ _).subset h)), lcsT]
theorem early_weave {o : α} {X Y : List α} (ho : o ∉ Y) {i k : Nat} {P : List (Nat × Nat)} (h : Early X Y i k P) : Early (weave o X) Y (2 * i) k (P.map fun p => (2 * p.1 + 1, p.2)) := by
  have mt : ∀ p q, Mt (weave o X) Y p q → ∃ j, p = 2 * j + 1 ∧ Mt X Y j q := fun p q ⟨x, h1, h2⟩ => by
    rcases Nat.mod_two_eq_zero_or_one p with e | e
    · obtain ⟨j, rfl⟩ : ∃ j, p = 2 * j := ⟨p / 2, by omega⟩
      rw [(weave_at o X j).2] at h1
      cases hx : X[j]? with
      | none => rw [hx] at h1; cases h1
      | some u => rw [hx] at h1; cases h1; exact absurd (List.mem_of_getElem? h2) ho
    · obtain ⟨j, rfl⟩ : ∃ j, p = 2 * j + 1 := ⟨p / 2, by omega⟩
      rw [(weave_at o X j).1] at h1
      exact ⟨j, rfl, x, h1, h2⟩
  induction h with
  | done h => exact .done (by rw [weave_T ho]; exact h)
  | @step i k i' k' P hm h1 h2 h3 h4 _ ih =>
    have e : ∀ j q, lcsT (weave o X) Y (2 * j + 1 + 1) q = lcsT X Y (j + 1) q := fun j q => by rw [show 2 * j + 1 + 1 = 2 * (j + 1) by omega, weave_T ho]
    have hm' : Mt (weave o X) Y (2 * i' + 1) k' := by
      obtain ⟨x, g1, g2⟩ := hm
      exact ⟨x, by rw [(weave_at o X i').1]; exact g1, g2⟩
    refine .step hm' (by omega) h2 (by rw [e, weave_T ho]; exact h3) (fun p q a b c d => ?_) (by rw [show 2 * i' + 1 + 1 = 2 * (i' + 1) by omega]; exact ih)
    obtain ⟨j, rfl, hj⟩ := mt p q c
    rw [e, weave_T ho] at d
    have := h4 j q (by omega) b hj d
    omega
end
/-- Lists that have their matches at the same places. -/
theorem lcs_cong {α β : Type} [DecidableEq α] [DecidableEq β] : ∀ {n : Nat} {X Y : List α} {X' Y' : List β}, X.length + Y.length ≤ n → X.length = X'.length → Y.length = Y'.length →
    (∀ (i k : Nat) (x y : α) (x' y' : β), X[i]? = some x → Y[k]? = some y → X'[i]? = some x' → Y'[k]? = some y' → (x = y ↔ x' = y')) → lcsL X Y = lcsL X' Y'
  | 0, X, Y, X', Y', h, hx, hy, _ => by
    obtain rfl : X = [] := List.eq_nil_of_length_eq_zero (by omega)
    obtain rfl : X' = [] := List.eq_nil_of_length_eq_zero (by rw [← hx]; rfl)
    rw [lcs_nil, lcs_nil]
  | n + 1, X, Y, X', Y', h, hx, hy, hm => by
    match X, X', hx, h, hm with
    | [], [], _, _, _ => rw [lcs_nil, lcs_nil]
    | x :: X, x' :: X', hx, h, hm =>
      match Y, Y', hy, h, hm with
      | [], [], _, _, _ => rw [lcs_nil', lcs_nil']
      | y :: Y, y' :: Y', hy, h, hm =>
        simp only [List.length_cons] at h hx hy
        have h0 := hm 0 0 x y x' y' rfl rfl rfl rfl
        by_cases e : x = y
        · rw [lcs_eq e, lcs_eq (h0.1 e), lcs_cong (n := n) (by omega) (by omega) (by omega) fun i k a b a' b' h1 h2 h3 h4 => hm (i + 1) (k + 1) a b a' b' h1 h2 h3 h4]
        · rw [lcs_ne e, lcs_ne (fun g => e (h0.2 g)),
            lcs_cong (n := n) (X := X) (Y := y :: Y) (X' := X') (Y' := y' :: Y') (by simp only [List.length_cons]; omega) (by omega) (by simp only [List.length_cons]; omega) fun i k a b a' b' h1 h2 h3 h4 => hm (i + 1) k a b a' b' h1 h2 h3 h4,
            lcs_cong (n := n) (X := x :: X) (Y := Y) (X' := x' :: X') (Y' := Y') (by simp only [List.length_cons]; omega) (by simp only [List.length_cons]; omega) (by omega) fun i k a b a' b' h1 h2 h3 h4 => hm i (k + 1) a b a' b' h1 h2 h3 h4]
/-- ..their matches are the same ones. -/
def SameM {α β : Type} (X Y : List α) (X' Y' : List β) : Prop := X.length = X'.length ∧ Y.length = Y'.length ∧ ∀ (i k : Nat) (x y : α) (x' y' : β), X[i]? = some x → Y[k]? = some y → X'[i]? = some x' → Y'[k]? = some y' → (x = y ↔ x' = y')
section
variable {α β : Type} {X Y : List α} {X' Y' : List β}
theorem SameM.symm (h : SameM X Y X' Y') : SameM X' Y' X Y := ⟨h.1.symm, h.2.1.symm, fun i k x y x' y' h1 h2 h3 h4 => (h.2.2 i k x' y' x y h3 h4 h1 h2).symm⟩
theorem SameM.mt (h : SameM X Y X' Y') {i k : Nat} : Mt X Y i k ↔ Mt X' Y' i k := by
  have key : ∀ {α β : Type} {X Y : List α} {X' Y' : List β}, SameM X Y X' Y' → Mt X Y i k → Mt X' Y' i k := fun {α β X Y X' Y'} h ⟨x, h1, h2⟩ => by
    have l1 := (List.getElem?_eq_some_iff.1 h1).1
    have l2 := (List.getElem?_eq_some_iff.1 h2).1
    have e1 : X'[i]? = some (X'[i]'(by rw [← h.1]; exact l1)) := List.getElem?_eq_getElem _
    have e2 : Y'[k]? = some (Y'[k]'(by rw [← h.2.1]; exact l2)) := List.getElem?_eq_getElem _
    have := (h.2.2 i k x x _ _ h1 h2 e1 e2).1 rfl
    exact ⟨_, e1, by rw [e2, this]⟩
  exact ⟨key h, key h.symm⟩
end
section
variable {α β : Type} [DecidableEq α] [DecidableEq β] {X Y : List α} {X' Y' : List β}
theorem SameM.T (h : SameM X Y X' Y') (i k : Nat) : lcsT X Y i k = lcsT X' Y' i k := by
  refine lcs_cong (Nat.le_refl _) (by rw [List.length_drop, List.length_drop, h.1]) (by rw [List.length_drop, List.length_drop, h.2.1]) fun p q x y x' y' h1 h2 h3 h4 => ?_
  rw [List.getElem?_drop] at h1 h2 h3 h4
  exact h.2.2 _ _ _ _ _ _ h1 h2 h3 h4
theorem SameM.early (h : SameM X Y X' Y') {i k : Nat} {P : List (Nat × Nat)} (he : Early X Y i k P) : Early X' Y' i k P := by
  induction he with
  | done g => exact .done (by rw [← h.T]; exact g)
  | step hm h1 h2 h3 h4 _ ih => exact .step (h.mt.1 hm) h1 h2 (by rw [← h.T, ← h.T]; exact h3) (fun p q a b c d => h4 p q a b (h.mt.2 c) (by rw [h.T, h.T]; exact d)) ih
end
end Go.Proofs.YtjihepdjcbpgoaaDoor
