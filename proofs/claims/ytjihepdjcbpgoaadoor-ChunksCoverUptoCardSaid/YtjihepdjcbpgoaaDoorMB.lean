/-
  The least number of differences of two lists, plain: how far one gets on each diagonal (Myers). No program.
-/
import Derived.Test.YtjihepdjcbpgoaaDoorMA
namespace Go.Proofs.YtjihepdjcbpgoaaDoor

theorem take_sub {α : Type} (l : List α) {i j : Nat} (h : i ≤ j) : (l.take i).Sublist (l.take j) := by
  have : l.take i = (l.take j).take i := by rw [List.take_take]; congr 1; omega
  rw [this]
  exact List.take_sublist _ _
theorem take_snoc' {α : Type} {l : List α} {i : Nat} {x : α} (h : l[i]? = some x) : l.take (i + 1) = l.take i ++ [x] := by rw [List.take_add_one, h]; rfl
section
variable {α : Type} [DecidableEq α]
/-- Of the first i, and the first j. -/
def lcP (X Y : List α) (i j : Nat) : Nat := lcsL (X.take i) (Y.take j)
variable {X Y : List α} {d : Nat} {k : Int}
theorem lcP_mono {i j i' j' : Nat} (h1 : i ≤ i') (h2 : j ≤ j') : lcP X Y i j ≤ lcP X Y i' j' := lcs_mono (take_sub _ h1) (take_sub _ h2)
theorem lcP_mt {i j : Nat} (h : Mt X Y i j) : lcP X Y (i + 1) (j + 1) = lcP X Y i j + 1 := by
  obtain ⟨x, h1, h2⟩ := h
  rw [lcP, take_snoc' h1, take_snoc' h2, lcs_back]; rfl
theorem lcP_ne {i j : Nat} (h : ¬ Mt X Y i j) (hi : i < X.length) (hj : j < Y.length) : lcP X Y (i + 1) (j + 1) = max (lcP X Y i (j + 1)) (lcP X Y (i + 1) j) := by
  have e1 := List.getElem?_eq_getElem hi
  have e2 := List.getElem?_eq_getElem hj
  have hne : X[i] ≠ Y[j] := fun e => h ⟨_, e1, by rw [e2, e]⟩
  have hr : lcsL (X.take i ++ [X[i]]) (Y.take j ++ [Y[j]]) = max (lcsL (X.take i) (Y.take j ++ [Y[j]])) (lcsL (X.take i ++ [X[i]]) (Y.take j)) := by
    rw [← lcs_rev, ← lcs_rev (X.take i), ← lcs_rev (X.take i ++ [X[i]])]
    simp only [List.reverse_append, List.reverse_cons, List.reverse_nil, List.nil_append, List.cons_append]
    exact lcs_ne hne _ _
  rw [lcP, take_snoc' e1, take_snoc' e2, hr]
  simp only [lcP, take_snoc' e1, take_snoc' e2]
theorem lcP_le (i j : Nat) : lcP X Y i j ≤ i ∧ lcP X Y i j ≤ j := by
  have h1 := lcs_le_l (X.take i) (Y.take j)
  have h2 := lcs_le_r (X.take i) (Y.take j)
  rw [List.length_take] at h1 h2
  exact ⟨by rw [lcP]; omega, by rw [lcP]; omega⟩
theorem lcP_all {i j : Nat} (hi : X.length ≤ i) (hj : Y.length ≤ j) : lcP X Y i j = lcsL X Y := by
  rw [lcP, List.take_of_length_le hi, List.take_of_length_le hj]
/-- v is how far in X one gets on diagonal k with d differences. -/
structure FarV (X Y : List α) (d : Nat) (k : Int) (v : Nat) : Prop where
  low : k ≤ v
  top : v ≤ X.length + d
  sound : ∀ j : Nat, (j : Int) = v - k → v + j ≤ d + 2 * lcP X Y v j
  comp : ∀ i j : Nat, i ≤ X.length → j ≤ Y.length → (i : Int) - j = k → i + j ≤ d + 2 * lcP X Y i j → i ≤ v
/-- ..on the way: from s on v was come to. -/
structure Sld (X Y : List α) (d : Nat) (k : Int) (s v : Nat) : Prop where
  ge : s ≤ v
  low : k ≤ v
  top : v ≤ X.length + d
  sound : ∀ j : Nat, (j : Int) = v - k → v + j ≤ d + 2 * lcP X Y v j
  comp : ∀ i j : Nat, i ≤ X.length → j ≤ Y.length → (i : Int) - j = k → i + j ≤ d + 2 * lcP X Y i j → i ≤ s ∨ ∃ i' j', i = i' + 1 ∧ j = j' + 1 ∧ Mt X Y i' j'
theorem Sld.step {s v j : Nat} (h : Sld X Y d k s v) (hj : (j : Int) = v - k) (hm : Mt X Y v j) : Sld X Y d k s (v + 1) := by
  have hl := hm.lt
  refine ⟨by have := h.ge; omega, by have := h.low; omega, by omega, fun j' hj' => ?_, h.comp⟩
  obtain rfl : j' = j + 1 := by omega
  have := h.sound j hj
  rw [lcP_mt hm]
  omega
theorem Sld.stop {s v : Nat} (h : Sld X Y d k s v) (hn : ∀ j : Nat, (j : Int) = v - k → ¬ Mt X Y v j) : FarV X Y d k v := by
  refine ⟨h.low, h.top, h.sound, ?_⟩
  intro i
  induction i with
  | zero => intros; omega
  | succ i ih =>
    intro j hi hj hk hd
    rcases h.comp (i + 1) j hi hj hk hd with hs | ⟨i', j', e1, e2, hm⟩
    · have := h.ge; omega
    · obtain rfl : i = i' := by omega
      subst e2
      rw [lcP_mt hm] at hd
      have := ih j' (by omega) (by omega) (by omega) (by omega)
      rcases Nat.lt_or_ge i v with hv | hv
      · omega
      · obtain rfl : i = v := by omega
        exact absurd hm (hn j' (by omega))
/-- Where one starts on a diagonal. -/
def startV (d : Nat) (k : Int) (F : Int → Nat) : Nat := if k = -(d : Int) ∨ (k ≠ d ∧ F (k - 1) < F (k + 1)) then F (k + 1) else F (k - 1) + 1
/-- What round d finds. -/
def FarR (X Y : List α) (d : Nat) (F : Int → Nat) : Prop := ∀ k : Int, -(d : Int) ≤ k → k ≤ d → (k - d) % 2 = 0 → FarV X Y d k (F k)
theorem start_zero : Sld X Y 0 0 0 0 := by
  refine ⟨Nat.le_refl _, Int.le_refl _, by omega, fun j hj => by omega, fun i j hi hj hk hd => ?_⟩
  rcases Nat.eq_zero_or_pos i with h | h
  · exact .inl (by omega)
  obtain ⟨i, rfl⟩ : ∃ i', i = i' + 1 := ⟨i - 1, by omega⟩
  obtain ⟨j, rfl⟩ : ∃ j', j = j' + 1 := ⟨j - 1, by omega⟩
  by_cases hm : Mt X Y i j
  · exact .inr ⟨i, j, rfl, rfl, hm⟩
  · have := lcP_ne hm (by omega) (by omega)
    have h1 := lcP_le (X := X) (Y := Y) i (j + 1)
    have h2 := lcP_le (X := X) (Y := Y) (i + 1) j
    omega
theorem start_succ {F : Int → Nat} (h : FarR X Y d F) (h1 : -((d + 1 : Nat) : Int) ≤ k) (h2 : k ≤ ((d + 1 : Nat) : Int)) (hp : (k - ((d + 1 : Nat) : Int)) % 2 = 0) : Sld X Y (d + 1) k (startV (d + 1) k F) (startV (d + 1) k F) := by
  have down : -(d : Int) ≤ k + 1 → k + 1 ≤ d → FarV X Y d (k + 1) (F (k + 1)) := fun a b => h _ a b (by omega)
  have right : -(d : Int) ≤ k - 1 → k - 1 ≤ d → FarV X Y d (k - 1) (F (k - 1)) := fun a b => h _ a b (by omega)
  have hge : (-(d : Int) ≤ k - 1 → F (k - 1) + 1 ≤ startV (d + 1) k F) ∧ (k + 1 ≤ d → F (k + 1) ≤ startV (d + 1) k F) := by
    unfold startV
    constructor
    · intro a
      split
      · omega
      · exact Nat.le_refl _
    · intro a
      split
      · exact Nat.le_refl _
      · omega
  have hcase : (-(d : Int) ≤ k + 1 ∧ k + 1 ≤ d ∧ startV (d + 1) k F = F (k + 1)) ∨ (-(d : Int) ≤ k - 1 ∧ k - 1 ≤ d ∧ startV (d + 1) k F = F (k - 1) + 1) := by
    unfold startV
    split
    · rename_i hc
      refine .inl ⟨by omega, ?_, rfl⟩
      rcases hc with hc | hc
      · omega
      · omega
    · rename_i hc
      exact .inr ⟨by omega, by omega, rfl⟩
  obtain ⟨g1, g2⟩ := hge
  generalize startV (d + 1) k F = s at *
  refine ⟨Nat.le_refl _, ?_, ?_, fun j hj => ?_, fun i j hi hj hk hd => ?_⟩
  · rcases hcase with ⟨a, b, rfl⟩ | ⟨a, b, rfl⟩
    · have := (down a b).low; omega
    · have := (right a b).low; omega
  · rcases hcase with ⟨a, b, rfl⟩ | ⟨a, b, rfl⟩
    · have := (down a b).top; omega
    · have := (right a b).top; omega
  · rcases hcase with ⟨a, b, rfl⟩ | ⟨a, b, rfl⟩
    · have h3 := (down a b).low
      obtain ⟨j, rfl⟩ : ∃ j', j = j' + 1 := ⟨j - 1, by omega⟩
      have h4 := (down a b).sound j (by omega)
      have h5 := lcP_mono (X := X) (Y := Y) (i := F (k + 1)) (i' := F (k + 1)) (j := j) (j' := j + 1) (Nat.le_refl _) (by omega)
      omega
    · have h4 := (right a b).sound j (by omega)
      have h5 := lcP_mono (X := X) (Y := Y) (i := F (k - 1)) (i' := F (k - 1) + 1) (j := j) (j' := j) (by omega) (Nat.le_refl _)
      omega
  · have toR : ∀ i', i = i' + 1 → i' + j ≤ d + 2 * lcP X Y i' j → i ≤ s := fun i' e hd' => by
      have h3 := lcP_le (X := X) (Y := Y) i' j
      have := (right (by omega) (by omega)).comp i' j (by omega) hj (by omega) hd'
      have := g1 (by omega)
      omega
    have toD : ∀ j', j = j' + 1 → i + j' ≤ d + 2 * lcP X Y i j' → i ≤ s := fun j' e hd' => by
      have h3 := lcP_le (X := X) (Y := Y) i j'
      have := (down (by omega) (by omega)).comp i j' hi (by omega) (by omega) hd'
      have := g2 (by omega)
      omega
    rcases Nat.eq_zero_or_pos i with hi0 | hi0
    · exact .inl (by omega)
    obtain ⟨i, rfl⟩ : ∃ i', i = i' + 1 := ⟨i - 1, by omega⟩
    rcases Nat.eq_zero_or_pos j with hj0 | hj0
    · subst hj0
      have h3 := lcP_le (X := X) (Y := Y) (i + 1) 0
      exact .inl (toR i rfl (by omega))
    obtain ⟨j, rfl⟩ : ∃ j', j = j' + 1 := ⟨j - 1, by omega⟩
    by_cases hm : Mt X Y i j
    · exact .inr ⟨i, j, rfl, rfl, hm⟩
    · left
      rw [lcP_ne hm (by omega) (by omega)] at hd
      rcases Nat.le_total (lcP X Y i (j + 1)) (lcP X Y (i + 1) j) with hl | hl
      · exact toD j rfl (by omega)
      · exact toR i rfl (by omega)
/-- One who has come to both ends has as many differences, or more. -/
theorem far_done {v : Nat} (h : FarV X Y d k v) (h1 : X.length ≤ v) (h2 : (Y.length : Int) ≤ v - k) : X.length + Y.length ≤ d + 2 * lcsL X Y := by
  have hs := h.sound (v - k).toNat (by have := h.low; omega)
  rw [lcP_all h1 (by omega)] at hs
  omega
/-- A round in which nobody comes to both ends has fewer differences than there are. -/
theorem far_more {F : Int → Nat} (h : FarR X Y d F) (hd : d + 2 * lcsL X Y ≤ X.length + Y.length) (hno : ∀ k : Int, -(d : Int) ≤ k → k ≤ d → (k - d) % 2 = 0 → ¬ (X.length ≤ F k ∧ (Y.length : Int) ≤ F k - k)) : d + 1 + 2 * lcsL X Y ≤ X.length + Y.length := by
  rcases Nat.lt_or_ge (d + 2 * lcsL X Y) (X.length + Y.length) with hlt | hge
  · omega
  · exfalso
    have e : d + 2 * lcsL X Y = X.length + Y.length := by omega
    have h1 := lcs_le_l X Y
    have h2 := lcs_le_r X Y
    have hk1 : -(d : Int) ≤ (X.length : Int) - Y.length := by omega
    have hk2 : (X.length : Int) - Y.length ≤ d := by omega
    have hk3 : ((X.length : Int) - Y.length - d) % 2 = 0 := by omega
    have := (h _ hk1 hk2 hk3).comp X.length Y.length (Nat.le_refl _) (Nat.le_refl _) rfl (by rw [lcP_all (Nat.le_refl _) (Nat.le_refl _)]; omega)
    exact hno _ hk1 hk2 hk3 ⟨this, by omega⟩
end
end Go.Proofs.YtjihepdjcbpgoaaDoor
