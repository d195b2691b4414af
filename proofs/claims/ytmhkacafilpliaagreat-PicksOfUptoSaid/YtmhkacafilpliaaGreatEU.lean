/-
  Plain laws of chapter 21: who is alike is near, and the nearest one. No program.
  Plain laws of AlikesAny: the document's words for alike and nearest say the same as the program's. No program.
-/
import Derived.Test.YtmhkacafilpliaaGreatEP
namespace Go.Proofs.YtmhkacafilpliaaGreat
open Go.RowKit Go.Sort Go.Shelf Go.BigFrame

theorem farI_ge (a b : Val) : -1 ≤ farI a b := by
  rw [farI]; split <;> omega
theorem nearI_ge (a b : Val) : -1 ≤ nearI a b := by
  rw [nearI]; split
  · omega
  · split
    · exact farI_ge a b
    · omega
/-- Who is alike is the same, or lies as far as that is. -/
theorem nearI_cases {a b : Val} (h : nearI a b ≠ -1) : (sameV a b = true ∧ nearI a b = 0) ∨ (sameV a b = false ∧ nearI a b = farI a b) := by
  cases hs : sameV a b with
  | true => exact .inl ⟨rfl, nearI_same hs⟩
  | false =>
    refine .inr ⟨rfl, ?_⟩
    rw [nearI, if_neg (by rw [hs]; simp)] at h ⊢
    split
    · rfl
    · rename_i hc; rw [if_neg hc] at h; exact absurd rfl h
theorem same_may {a b : Val} (h : sameV a b = true) : a.may = true ∧ b.may = true := by
  simp only [sameV, Bool.and_eq_true] at h; exact h.1
/-- A distance of 0 is that of the same values. -/
theorem farI_zero {a b : Val} (h : farI a b = 0) : sameV a b = true := by
  rw [farI] at h
  split at h
  · omega
  · rename_i hc
    have h1 : szV a ≠ 0 := fun e => hc (.inl e)
    have h2 : szV b ≠ 0 := fun e => hc (.inr (.inl e))
    exact (farV_zero (szV_may h1).1 (szV_may h2).1).1 (by exact_mod_cast h)
theorem nearI_zero {a b : Val} (h : nearI a b = 0) : sameV a b = true := by
  rcases nearI_cases (a := a) (b := b) (by omega) with h1 | h1
  · exact h1.1
  · exact farI_zero (h1.2 ▸ h)
theorem far_same {a b : Val} (h : sameV a b = true) : farI a b = 0 ∨ farI a b = -1 := by
  rw [farI]
  split
  · exact .inr rfl
  · left
    rw [(farV_zero (same_may h).1 (same_may h).2).2 h]; rfl
theorem szV_posm {a : Val} (h : a.may = true) : 0 < szV a := by rw [szV, if_pos h]; exact size_pos a
/-- What is no value that may be is near to none. -/
theorem near_bad {a b : Val} (h : b.may = false) : nearI a b = -1 := by
  refine nearI_far ?_ ?_
  · cases hs : sameV a b with
    | false => rfl
    | true => have := (same_may hs).2; rw [h] at this; cases this
  · rw [withinI, farI_no (.inr (.inl (by rw [szV, h]; rfl)))]; rfl
/-- Alike, by the distance. -/
theorem near_facts {a b : Val} (ha : a.may = true) (hb : b.may = true) (hs : szV a * szV b ≤ 4096) :
    farI a b = (farV a b : Nat) ∧ (nearI a b != -1) = (decide (farV a b = 0) || (kindB a b && decide (2 * farV a b ≤ max (szV a) (szV b)))) := by
  have pa := szV_posm ha
  have pb := szV_posm hb
  have hle : szV a ≤ 4096 := Nat.le_trans (Nat.le_mul_of_pos_right _ pb) hs
  have e := farI_yes (a := a) (b := b) (by omega) (by omega) (by omega) (by omega)
  refine ⟨e, ?_⟩
  cases h : sameV a b with
  | true =>
    rw [nearI_same h, (farV_zero ha hb).2 h]; rfl
  | false =>
    have h0 : farV a b ≠ 0 := fun e => by rw [(farV_zero ha hb).1 e] at h; cases h
    rw [decide_eq_false h0, Bool.false_or]
    cases hk : kindB a b with
    | false => rw [nearI_kind h hk]; rfl
    | true =>
      rw [Bool.true_and]
      by_cases hm : 2 * farV a b ≤ max (szV a) (szV b)
      · rw [nearI_yes h hk (by rw [withinI, e]; simp; omega), e, decide_eq_true hm]
        simp
      · rw [nearI_far h (by rw [withinI, e]; simp; omega), decide_eq_false hm]; rfl
/-- What Nearest has found among the first n. -/
def Best (a : Val) (l : List Val) (n : Nat) (p : Int × Int) : Prop :=
  (p.1 = -1 ∧ ∀ j c, j < n → l[j]? = some c → nearI a c = -1) ∨
  ∃ i c, i < n ∧ l[i]? = some c ∧ p.1 = (i : Nat) ∧ p.2 = nearI a c ∧ nearI a c ≠ -1 ∧ ∀ j d, j < n → l[j]? = some d → nearI a d ≠ -1 → nearI a c ≤ nearI a d ∧ (j < i → nearI a c < nearI a d)
theorem best_law (a : Val) (l : List Val) : ∀ n, n ≤ l.length → Best a l n (nearP a l n)
  | 0, _ => .inl ⟨rfl, fun _ _ h => absurd h (Nat.not_lt_zero _)⟩
  | n + 1, hn => by
    have ih := best_law a l n (by omega)
    have hl : l[n]? = some l[n] := List.getElem?_eq_getElem (by omega)
    generalize l[n] = c at hl
    have e : nearP a l (n + 1) = better n (nearI a c) (nearP a l n).1 (nearP a l n).2 := by
      show (match l[n]? with | some c => _ | none => _) = _
      rw [hl]
    rw [e]
    generalize nearP a l n = p at *
    have hold : ∀ j d, j < n + 1 → l[j]? = some d → (j < n ∧ l[j]? = some d) ∨ (j = n ∧ d = c) := fun j d hj hd => by
      by_cases hjn : j < n
      · exact .inl ⟨hjn, hd⟩
      · have : j = n := by omega
        subst this
        exact .inr ⟨rfl, Option.some.inj (hd.symm.trans hl)⟩
    by_cases h1 : nearI a c = -1
    · have eb : better n (nearI a c) p.1 p.2 = p := by simp [better, h1]
      rw [eb]
      rcases ih with ⟨i1, i2⟩ | ⟨i, u, i1, i2, i3, i4, i5, i6⟩
      · refine .inl ⟨i1, fun j d hj hd => ?_⟩
        rcases hold j d hj hd with h | ⟨rfl, rfl⟩
        · exact i2 j d h.1 h.2
        · exact h1
      · refine .inr ⟨i, u, by omega, i2, i3, i4, i5, fun j d hj hd hne => ?_⟩
        rcases hold j d hj hd with h | ⟨rfl, rfl⟩
        · exact i6 j d h.1 h.2 hne
        · exact absurd h1 hne
    · rcases ih with ⟨i1, i2⟩ | ⟨i, u, i1, i2, i3, i4, i5, i6⟩
      · have eb : better n (nearI a c) p.1 p.2 = ((n : Int), nearI a c) := by simp [better, h1, i1]
        rw [eb]
        refine .inr ⟨n, c, by omega, hl, rfl, rfl, h1, fun j d hj hd hne => ?_⟩
        rcases hold j d hj hd with h | ⟨rfl, rfl⟩
        · exact absurd (i2 j d h.1 h.2) hne
        · exact ⟨Int.le_refl _, fun h => absurd h (by omega)⟩
      · have hne1 : ¬ p.1 = -1 := by omega
        by_cases h2 : nearI a c < p.2
        · have eb : better n (nearI a c) p.1 p.2 = ((n : Int), nearI a c) := by simp [better, h1, h2]
          rw [eb]
          refine .inr ⟨n, c, by omega, hl, rfl, rfl, h1, fun j d hj hd hne => ?_⟩
          rcases hold j d hj hd with h | ⟨rfl, rfl⟩
          · have := (i6 j d h.1 h.2 hne).1
            exact ⟨by omega, fun _ => by omega⟩
          · exact ⟨Int.le_refl _, fun h => absurd h (by omega)⟩
        · have eb : better n (nearI a c) p.1 p.2 = p := by simp [better, hne1, h2]
          rw [eb]
          refine .inr ⟨i, u, by omega, i2, i3, i4, i5, fun j d hj hd hne => ?_⟩
          rcases hold j d hj hd with h | ⟨rfl, rfl⟩
          · exact i6 j d h.1 h.2 hne
          · exact ⟨by omega, fun h => absurd h (by omega)⟩
/-- What AlikesNear asks of one value that may be. -/
theorem near_asks {a b : Val} {l : List Val} {i : Nat} (ha : a.may = true) (hb : b.may = true) (hs : szV a * szV b ≤ 4096) (hi : l[i]? = some b) (h : nearI a b ≠ -1) :
    ∃ (t : Nat) (c : Val), (nearP a l l.length).1 = (t : Nat) ∧ l[t]? = some c ∧ (t = i ∨ (¬ ((farV a b : Nat) : Int) < farI a c ∧ (i < t → ((farV a b : Nat) : Int) ≠ farI a c))) := by
  have hlt : i < l.length := (List.getElem?_eq_some_iff.1 hi).1
  rcases best_law a l l.length (Nat.le_refl _) with ⟨_, i2⟩ | ⟨t, c, t1, t2, t3, _, t5, t6⟩
  · exact absurd (i2 i b hlt hi) h
  · refine ⟨t, c, t3, t2, ?_⟩
    by_cases hti : t = i
    · exact .inl hti
    · right
      have e := (near_facts ha hb hs).1
      have hnb : nearI a b = (farV a b : Nat) := by
        rcases nearI_cases h with ⟨h1, h2⟩ | ⟨_, h2⟩
        · rw [h2, (farV_zero ha hb).2 h1]; rfl
        · rw [h2, e]
      have g := t6 i b hlt hi h
      rw [hnb] at g
      rcases nearI_cases t5 with ⟨h1, h2⟩ | ⟨_, h2⟩
      · rw [h2] at g
        rcases far_same h1 with h3 | h3
        · rw [h3]; exact ⟨by omega, fun h => by have := g.2 h; omega⟩
        · rw [h3]; exact ⟨by omega, fun h => by omega⟩
      · rw [h2] at g
        exact ⟨by omega, fun h => by have := g.2 h; omega⟩
/-- The nearest one is alike. -/
theorem near_at {a : Val} {l : List Val} {i : Nat} {b : Val} (hi : l[i]? = some b) (h : (nearP a l l.length).1 = (i : Nat)) : nearI a b ≠ -1 := by
  rcases best_law a l l.length (Nat.le_refl _) with ⟨i1, _⟩ | ⟨t, c, t1, t2, t3, _, t5, _⟩
  · omega
  · have : t = i := by omega
    subst this
    rw [t2] at hi
    rw [← Option.some.inj hi]; exact t5
theorem near_range (a : Val) (l : List Val) : -1 ≤ (nearP a l l.length).1 ∧ (nearP a l l.length).1 < l.length := by
  rcases best_law a l l.length (Nat.le_refl _) with ⟨i1, _⟩ | ⟨t, c, t1, t2, t3, _, t5, _⟩ <;> omega
/-- The one that is the same among those that are not. -/
theorem near_self {a y : Val} {l1 l2 : List Val} (hy : sameV a y = true) (h1 : ∀ c ∈ l1, sameV c a = false) (h2 : ∀ c ∈ l2, sameV c a = false) (hsy : ∀ c, sameV a c = sameV c a) : (nearP a (l1 ++ y :: l2) (l1 ++ y :: l2).length).1 = (l1.length : Nat) := by
  have hn := nearI_same hy
  have hg : (l1 ++ y :: l2)[l1.length]? = some y := by simp
  have hlt : l1.length < (l1 ++ y :: l2).length := by simp
  rcases best_law a (l1 ++ y :: l2) _ (Nat.le_refl _) with ⟨_, i2⟩ | ⟨t, c, t1, t2, t3, _, t5, t6⟩
  · have := i2 _ y hlt hg; omega
  · have g := (t6 _ y hlt hg (by omega)).1
    have ge := nearI_ge a c
    have hz : sameV a c = true := nearI_zero (by omega)
    rw [t3]
    by_cases ht : t = l1.length
    · rw [ht]
    · exfalso
      have hm : c ∈ l1 ∨ c ∈ l2 := by
        rcases Nat.lt_or_ge t l1.length with h | h
        · rw [List.getElem?_append_left h] at t2
          exact .inl (List.mem_of_getElem? t2)
        · rw [List.getElem?_append_right h] at t2
          obtain ⟨s, hs⟩ : ∃ s, t - l1.length = s + 1 := ⟨t - l1.length - 1, by omega⟩
          rw [hs, List.getElem?_cons_succ] at t2
          exact .inr (List.mem_of_getElem? t2)
      rw [hsy] at hz
      rcases hm with h | h
      · rw [h1 c h] at hz; cases hz
      · rw [h2 c h] at hz; cases hz
end Go.Proofs.YtmhkacafilpliaaGreat

namespace Go.Proofs.YtmhkacafilpliaaGreat
open Go.RowKit Go.Sort Go.Shelf Go.BigFrame

theorem are_ref (a b : Val) : (nearI a b != -1) = (sameV a b || (kindB a b && (decide (0 ≤ farI a b) && decide (2 * farI a b ≤ (max (szV a) (szV b) : Nat))))) := by
  cases hs : sameV a b with
  | true => rw [nearI_same hs]; rfl
  | false =>
    rw [Bool.false_or]
    cases hk : kindB a b with
    | false => rw [nearI_kind hs hk]; rfl
    | true =>
      rw [Bool.true_and]
      have hg := farI_ge a b
      by_cases h0 : 0 ≤ farI a b
      · rw [decide_eq_true h0, Bool.true_and]
        by_cases h2 : 2 * farI a b ≤ (max (szV a) (szV b) : Nat)
        · rw [nearI_yes hs hk (by rw [withinI]; simp; omega), decide_eq_true h2]
          simp; omega
        · rw [nearI_far hs (by rw [withinI]; simp; omega), decide_eq_false h2]; rfl
      · rw [decide_eq_false h0, nearI_far hs (by rw [withinI, show farI a b = -1 by omega]; rfl)]; rfl
theorem near_not_same {a b : Val} (hs : sameV a b = false) (h : nearI a b ≠ -1) : nearI a b = farI a b := by
  rcases nearI_cases h with h1 | h1
  · rw [hs] at h1; cases h1.1
  · exact h1.2
/-- The first one that is the same is the nearest. -/
theorem near_first {a b : Val} {l : List Val} {i : Nat} (hi : l[i]? = some b) (hs : sameV a b = true) (h : ∀ j c, j < i → l[j]? = some c → sameV a c = false) : (nearP a l l.length).1 = (i : Nat) := by
  have hn := nearI_same hs
  have hlt : i < l.length := (List.getElem?_eq_some_iff.1 hi).1
  rcases best_law a l _ (Nat.le_refl _) with ⟨_, i2⟩ | ⟨t, c, t1, t2, t3, _, t5, t6⟩
  · have := i2 _ b hlt hi; omega
  · have g := t6 _ b hlt hi (by omega)
    have ge := nearI_ge a c
    have hz : sameV a c = true := nearI_zero (by omega)
    rw [t3]
    rcases Nat.lt_trichotomy t i with h1 | h1 | h1
    · have := h t c h1 t2; rw [hz] at this; cases this
    · rw [h1]
    · have := g.2 h1; have := nearI_same hz; omega
theorem nearP_ge (a : Val) (l : List Val) : ∀ n, n ≤ l.length → -1 ≤ (nearP a l n).1 := fun n hn => by
  rcases best_law a l n hn with ⟨h, _⟩ | ⟨i, c, _, _, h, _⟩ <;> omega
theorem kindB_symm (a b : Val) : kindB a b = kindB b a := by
  unfold kindB
  by_cases h : a.k = b.k
  · rw [h]
  · have h' : ¬ b.k = a.k := fun e => h e.symm
    rw [decide_eq_false h, decide_eq_false h']; rfl
theorem farI_symm (a b : Val) : farI a b = farI b a := by
  have hc : (szV a = 0 ∨ szV b = 0 ∨ 4096 < szV a ∨ 4096 < szV a * szV b) ↔ (szV b = 0 ∨ szV a = 0 ∨ 4096 < szV b ∨ 4096 < szV b * szV a) := by
    rw [Nat.mul_comm (szV b)]
    by_cases h1 : szV a = 0
    · simp [h1]
    by_cases h2 : szV b = 0
    · simp [h2]
    have g1 : szV a ≤ szV a * szV b := Nat.le_mul_of_pos_right _ (by omega)
    have g2 : szV b ≤ szV a * szV b := Nat.le_mul_of_pos_left _ (by omega)
    constructor <;> (intro h; omega)
  by_cases h : szV a = 0 ∨ szV b = 0 ∨ 4096 < szV a ∨ 4096 < szV a * szV b
  · rw [farI_no h, farI_no (hc.1 h)]
  · rw [farI, if_neg h, farI, if_neg fun h' => h (hc.2 h'), farV_symm]
theorem sameV_sym (a b : Val) : sameV a b = sameV b a := by
  cases h1 : sameV a b with
  | true =>
    obtain ⟨m1, m2⟩ := same_may h1
    exact ((farV_zero m2 m1).1 (by rw [farV_symm]; exact (farV_zero m1 m2).2 h1)).symm
  | false =>
    cases h2 : sameV b a with
    | false => rfl
    | true =>
      obtain ⟨m1, m2⟩ := same_may h2
      have := (farV_zero m2 m1).1 (by rw [farV_symm]; exact (farV_zero m1 m2).2 h2)
      rw [h1] at this; cases this
theorem are_symm (a b : Val) : (nearI a b != -1) = (nearI b a != -1) := by
  rw [are_ref, are_ref, sameV_sym, kindB_symm, farI_symm, Nat.max_comm]
theorem are_self (a : Val) : (nearI a a != -1) = a.may := by
  cases h : a.may with
  | true => rw [nearI_same ((farV_zero h h).1 (far_self _))]; rfl
  | false => rw [near_bad h]; rfl
end Go.Proofs.YtmhkacafilpliaaGreat
