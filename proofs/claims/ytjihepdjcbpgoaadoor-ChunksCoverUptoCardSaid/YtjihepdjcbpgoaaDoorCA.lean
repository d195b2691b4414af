/-
  Chunks of three lists, plain: anchors, runs of anchors, the chunks that these make, and their laws. No program.
-/
import Derived.Test.YtjihepdjcbpgoaaDoorMA
namespace Go.Proofs.YtjihepdjcbpgoaaDoor

/-- Places in all three lists. -/
structure T3 where
  b : Nat
  l : Nat
  r : Nat
  deriving DecidableEq
def T3.up (t : T3) : T3 := ⟨t.b + 1, t.l + 1, t.r + 1⟩
def T3.plus (t : T3) (n : Nat) : T3 := ⟨t.b + n, t.l + n, t.r + n⟩
def T3.swap (t : T3) : T3 := ⟨t.b, t.r, t.l⟩
def T3.le (s t : T3) : Prop := s.b ≤ t.b ∧ s.l ≤ t.l ∧ s.r ≤ t.r
def T3.zero : T3 := ⟨0, 0, 0⟩
theorem T3.up_plus (t : T3) (n : Nat) : (t.plus n).up = t.plus (n + 1) := rfl
theorem T3.le_ne {s t : T3} (h : s.le t) : s ≠ t ↔ s.b < t.b ∨ s.l < t.l ∨ s.r < t.r := by
  obtain ⟨h1, h2, h3⟩ := h
  cases s; cases t
  simp only [ne_eq, T3.mk.injEq] at *
  omega
/-- A chunk: from places on, to others. -/
structure Ck where
  st : Bool
  f : T3
  t : T3
  deriving DecidableEq
def Ck.turn (c : Ck) : Ck := ⟨c.st, c.f.swap, c.t.swap⟩

/-- A base element's partner by pairs. -/
def part : List (Nat × Nat) → Nat → Option Nat
  | [], _ => none
  | p :: P, i => if p.1 = i then some p.2 else part P i
def Rise (P : List (Nat × Nat)) : Prop := P.Pairwise fun p q => p.1 < q.1 ∧ p.2 < q.2
section
variable {P Q : List (Nat × Nat)} {i j : Nat}
theorem part_some : ∀ {P : List (Nat × Nat)}, part P i = some j → (i, j) ∈ P
  | [], h => by cases h
  | p :: P, h => by
    unfold part at h
    by_cases e : p.1 = i
    · rw [if_pos e] at h
      injection h with h
      rw [← e, ← h]; exact List.mem_cons_self
    · rw [if_neg e] at h
      exact List.mem_cons_of_mem _ (part_some h)
theorem part_none : ∀ {P : List (Nat × Nat)}, (∀ p ∈ P, p.1 ≠ i) → part P i = none
  | [], _ => rfl
  | p :: P, h => by
    unfold part
    rw [if_neg (h p List.mem_cons_self)]
    exact part_none fun q hq => h q (List.mem_cons_of_mem _ hq)
theorem part_of : ∀ {P : List (Nat × Nat)}, Rise P → (i, j) ∈ P → part P i = some j
  | [], _, h => by cases h
  | p :: P, hr, h => by
    obtain ⟨h1, h2⟩ := List.pairwise_cons.1 hr
    unfold part
    rcases List.mem_cons.1 h with h | h
    · subst h; rw [if_pos rfl]
    · rw [if_neg (fun e => by have := (h1 _ h).1; simp only at this; omega)]
      exact part_of h2 h
theorem part_rise (h : Rise P) {i' j' : Nat} (h1 : part P i = some j) (h2 : part P i' = some j') (hlt : i < i') : j < j' := by
  have m1 := part_some h1
  have m2 := part_some h2
  obtain ⟨a, ha, e1⟩ := List.mem_iff_getElem.1 m1
  obtain ⟨b, hb, e2⟩ := List.mem_iff_getElem.1 m2
  have hp := List.pairwise_iff_getElem.1 h
  rcases Nat.lt_trichotomy a b with hab | hab | hab
  · have := (hp a b ha hb hab).2
    rw [e1, e2] at this; exact this
  · subst hab; rw [e1] at e2; injection e2 with e3 e4; omega
  · have := (hp b a hb ha hab).1
    rw [e1, e2] at this
    simp only at this; omega
theorem part_snoc (h : ∀ p ∈ P, p.1 ≠ i) (k : Nat) : part (P ++ [(i, j)]) k = if k = i then some j else part P k := by
  induction P with
  | nil =>
    show (if i = k then some j else none) = _
    by_cases e : k = i
    · rw [if_pos e, if_pos e.symm]
    · rw [if_neg e, if_neg (Ne.symm e)]; rfl
  | cons p P ih =>
    rw [List.cons_append]
    unfold part
    by_cases e : p.1 = k
    · rw [if_pos e, if_neg (fun e2 => h p List.mem_cons_self (e.trans e2)), if_pos e]
    · rw [if_neg e, ih fun q hq => h q (List.mem_cons_of_mem _ hq)]
      by_cases e2 : k = i
      · rw [if_pos e2, if_pos e2]
      · rw [if_neg e2, if_neg e2, if_neg e]
theorem part_diag (n i : Nat) : part (diag n) i = if i < n then some i else none := by
  by_cases h : i < n
  · rw [if_pos h]
    refine part_of ?_ (by simp [diag, h])
    rw [Rise, diag, List.pairwise_map]
    exact List.pairwise_lt_range.imp fun h => ⟨h, h⟩
  · rw [if_neg h]
    exact part_none fun p hp e => by
      simp only [diag, List.mem_map, List.mem_range] at hp
      obtain ⟨q, hq, rfl⟩ := hp
      exact h (e ▸ hq)
end
/-- Where a base element stands in all three lists. -/
def anc (P Q : List (Nat × Nat)) (i : Nat) : Option T3 := match part P i, part Q i with
  | some j, some k => some ⟨i, j, k⟩
  | _, _ => none
theorem anc_some {P Q : List (Nat × Nat)} {i : Nat} {t : T3} : anc P Q i = some t ↔ t.b = i ∧ part P i = some t.l ∧ part Q i = some t.r := by
  unfold anc
  cases h1 : part P i with
  | none => simp
  | some j =>
    cases h2 : part Q i with
    | none => simp
    | some k =>
      cases t
      simp only [Option.some.injEq, T3.mk.injEq]
      constructor
      · rintro ⟨rfl, rfl, rfl⟩; exact ⟨rfl, rfl, rfl⟩
      · rintro ⟨rfl, rfl, rfl⟩; exact ⟨rfl, rfl, rfl⟩
theorem anc_swap (P Q : List (Nat × Nat)) (i : Nat) : anc Q P i = (anc P Q i).map T3.swap := by
  unfold anc
  cases part P i <;> cases part Q i <;> rfl

def stepR (o : Option T3) (R : List (T3 × T3)) : List (T3 × T3) := match o with
  | none => R
  | some a => match R.getLast? with
    | some (f, t) => if t = a then R.dropLast ++ [(f, a.up)] else R ++ [(a, a.up)]
    | none => R ++ [(a, a.up)]
/-- Runs of anchors: each from places on, to others. -/
def runs (A : Nat → Option T3) : Nat → List (T3 × T3)
  | 0 => []
  | n + 1 => stepR (A n) (runs A n)
def lastT (z : T3) (R : List (T3 × T3)) : T3 := match R.getLast? with
  | some p => p.2
  | none => z
def gapC (s t : T3) : List Ck := if s = t then [] else [⟨false, s, t⟩]
def weaveP : T3 → List (T3 × T3) → List Ck
  | _, [] => []
  | z, (f, t) :: R => gapC z f ++ ⟨true, f, t⟩ :: weaveP t R
/-- The chunks. -/
def chunksL (A : Nat → Option T3) (n : Nat) (e : T3) : List Ck := weaveP T3.zero (runs A n) ++ gapC (lastT T3.zero (runs A n)) e
section
variable {R : List (T3 × T3)} {z f t a : T3}
theorem stepR_nil : stepR (some a) [] = [(a, a.up)] := rfl
theorem stepR_snoc : stepR (some a) (R ++ [(f, t)]) = if t = a then R ++ [(f, a.up)] else R ++ [(f, t)] ++ [(a, a.up)] := by
  simp only [stepR, List.getLast?_append, List.getLast?_singleton, Option.some_or, List.dropLast_concat]
theorem lastT_nil : lastT z [] = z := rfl
theorem lastT_snoc : lastT z (R ++ [(f, t)]) = t := by simp [lastT]
theorem lastT_cons : lastT z ((f, t) :: R) = lastT t R := by
  cases R with
  | nil => rfl
  | cons p R =>
    simp only [lastT, List.getLast?_cons_cons]
    cases h : (p :: R).getLast? with
    | none => exact absurd (List.getLast?_eq_none_iff.1 h) (List.cons_ne_nil _ _)
    | some q => rfl
theorem snoc_or (R : List (T3 × T3)) : R = [] ∨ ∃ R' f t, R = R' ++ [(f, t)] := by
  rcases List.eq_nil_or_concat R with h | ⟨R', p, h⟩
  · exact .inl h
  · exact .inr ⟨R', p.1, p.2, by rw [h, List.concat_eq_append]⟩
theorem weaveP_snoc : ∀ {R : List (T3 × T3)} {z : T3}, weaveP z (R ++ [(f, t)]) = weaveP z R ++ (gapC (lastT z R) f ++ [⟨true, f, t⟩])
  | [], z => rfl
  | (a, b) :: R, z => by
    rw [List.cons_append, weaveP, weaveP_snoc, lastT_cons, weaveP]
    simp
end
section
variable {A : Nat → Option T3} (hb : ∀ i a, A i = some a → a.b = i)
include hb
/-- An anchor that does not go on with the run ahead begins one. -/
theorem runs_new {i : Nat} {a : T3} (h : A i = some a) (hm : runs A i = [] ∨ A (lastT T3.zero (runs A i)).b ≠ some (lastT T3.zero (runs A i))) : runs A (i + 1) = runs A i ++ [(a, a.up)] := by
  show stepR (A i) (runs A i) = _
  rw [h]
  rcases snoc_or (runs A i) with e | ⟨R, f, t, e⟩
  · rw [e]; rfl
  · rw [e, stepR_snoc, if_neg]
    rintro rfl
    rcases hm with hm | hm
    · rw [e] at hm; simp at hm
    · rw [e, lastT_snoc, hb i t h] at hm
      exact hm h
omit hb in
theorem runs_on {R : List (T3 × T3)} {j : Nat} {f t : T3} (hr : runs A j = R ++ [(f, t)]) (h : A j = some t) : runs A (j + 1) = R ++ [(f, t.up)] := by
  show stepR (A j) (runs A j) = _
  rw [hr, h, stepR_snoc, if_pos rfl]
omit hb in
theorem runs_skip {j : Nat} (h : A j = none) : runs A (j + 1) = runs A j := by
  show stepR (A j) (runs A j) = _
  rw [h]; rfl
end
/-- Anchors rise, and are places of the lists. -/
structure AncOk (A : Nat → Option T3) (e : T3) : Prop where
  b : ∀ i a, A i = some a → a.b = i
  up : ∀ i j a c, A i = some a → A j = some c → i < j → a.l < c.l ∧ a.r < c.r
  lt : ∀ i a, A i = some a → a.b < e.b ∧ a.l < e.l ∧ a.r < e.r
/-- One behind the other. -/
def Chain (A : Nat → Option T3) : T3 → List (T3 × T3) → Prop
  | _, [] => True
  | z, (f, t) :: R => z.le f ∧ (∃ n, 0 < n ∧ t = f.plus n ∧ ∀ k, k < n → A (f.b + k) = some (f.plus k)) ∧ Chain A t R
theorem Chain.snoc {A : Nat → Option T3} {f t : T3} : ∀ {R : List (T3 × T3)} {z : T3}, Chain A z (R ++ [(f, t)]) ↔ Chain A z R ∧ (lastT z R).le f ∧ ∃ n, 0 < n ∧ t = f.plus n ∧ ∀ k, k < n → A (f.b + k) = some (f.plus k)
  | [], z => by simp [Chain, lastT_nil]
  | (a, b) :: R, z => by
    rw [List.cons_append, Chain, Chain, Chain.snoc, lastT_cons]
    constructor
    · rintro ⟨h1, h2, h3, h4, h5⟩; exact ⟨⟨h1, h2, h3⟩, h4, h5⟩
    · rintro ⟨⟨h1, h2, h3⟩, h4, h5⟩; exact ⟨h1, h2, h3, h4, h5⟩
theorem runs_chain {A : Nat → Option T3} {e : T3} (h : AncOk A e) : ∀ n, Chain A T3.zero (runs A n) ∧ (lastT T3.zero (runs A n)).le e ∧ ∀ i a, n ≤ i → A i = some a → (lastT T3.zero (runs A n)).le a
  | 0 => ⟨trivial, ⟨Nat.zero_le _, Nat.zero_le _, Nat.zero_le _⟩, fun i a _ _ => ⟨Nat.zero_le _, Nat.zero_le _, Nat.zero_le _⟩⟩
  | n + 1 => by
    obtain ⟨h1, h2, h3⟩ := runs_chain h n
    cases ha : A n with
    | none => rw [runs_skip ha]; exact ⟨h1, h2, fun i a hi => h3 i a (by omega)⟩
    | some a =>
      have hab := h.b n a ha
      have hal := h.lt n a ha
      have hup : ∀ i c, n + 1 ≤ i → A i = some c → a.up.le c := fun i c hi hc => by
        obtain ⟨g1, g2⟩ := h.up n i a c ha hc (by omega)
        have := h.b i c hc
        exact ⟨by show a.b + 1 ≤ c.b; omega, by show a.l + 1 ≤ c.l; omega, by show a.r + 1 ≤ c.r; omega⟩
      have hue : a.up.le e := ⟨by show a.b + 1 ≤ e.b; omega, by show a.l + 1 ≤ e.l; omega, by show a.r + 1 ≤ e.r; omega⟩
      have hone : ∃ m, 0 < m ∧ a.up = a.plus m ∧ ∀ k, k < m → A (a.b + k) = some (a.plus k) := ⟨1, Nat.one_pos, rfl, fun k hk => by
        obtain rfl : k = 0 := by omega
        rw [hab]; exact ha⟩
      have hle := h3 n a (Nat.le_refl _) ha
      show Chain A T3.zero (stepR (A n) (runs A n)) ∧ (lastT T3.zero (stepR (A n) (runs A n))).le e ∧ ∀ i c, n + 1 ≤ i → A i = some c → (lastT T3.zero (stepR (A n) (runs A n))).le c
      rw [ha]
      rcases snoc_or (runs A n) with eR | ⟨R, f, t, eR⟩
      · rw [eR] at hle ⊢
        rw [stepR_nil, show [(a, a.up)] = [] ++ [(a, a.up)] from rfl, lastT_snoc]
        exact ⟨Chain.snoc.2 ⟨trivial, hle, hone⟩, hue, hup⟩
      · rw [eR] at hle h1 ⊢
        rw [lastT_snoc] at hle
        rw [stepR_snoc]
        by_cases et : t = a
        · subst et
          rw [if_pos rfl, lastT_snoc]
          obtain ⟨g1, g2, m, g3, g4, g5⟩ := Chain.snoc.1 h1
          refine ⟨Chain.snoc.2 ⟨g1, g2, m + 1, by omega, by rw [← T3.up_plus, ← g4], fun k hk => ?_⟩, hue, hup⟩
          by_cases hkm : k < m
          · exact g5 k hkm
          · obtain rfl : k = m := by omega
            have : f.b + k = n := by rw [← hab, g4]; rfl
            rw [this, ← g4]; exact ha
        · rw [if_neg et, lastT_snoc]
          exact ⟨Chain.snoc.2 ⟨h1, by rw [lastT_snoc]; exact hle, hone⟩, hue, hup⟩
/-- What chunks are, one behind another one. -/
inductive Cov (A : Nat → Option T3) (e : T3) : Ck → List Ck → Prop
  | nil {last : Ck} (h : last.t = e) : Cov A e last []
  | cons {last x : Ck} {C : List Ck} (h1 : x.f = last.t) (h2 : x.f.le x.t) (h3 : x.st = false → last.st = true ∧ x.f ≠ x.t) (h4 : x.st = true → ∃ n, 0 < n ∧ x.t = x.f.plus n ∧ ∀ k, k < n → A (x.f.b + k) = some (x.f.plus k)) (h5 : Cov A e x C) : Cov A e last (x :: C)
theorem T3.le_plus (t : T3) (n : Nat) : t.le (t.plus n) := ⟨by show t.b ≤ t.b + n; omega, by show t.l ≤ t.l + n; omega, by show t.r ≤ t.r + n; omega⟩
theorem Cov.gap {A : Nat → Option T3} {e : T3} {last : Ck} {f : T3} {C : List Ck} (hs : last.st = true) (hle : last.t.le f) (h : ∀ x : Ck, x.t = f → Cov A e x C) : Cov A e last (gapC last.t f ++ C) := by
  unfold gapC
  by_cases e1 : last.t = f
  · rw [if_pos e1]; exact h last e1
  · rw [if_neg e1]; exact .cons rfl hle (fun _ => ⟨hs, e1⟩) (fun hh => by cases hh) (h _ rfl)
theorem chain_cov {A : Nat → Option T3} {e : T3} : ∀ {R : List (T3 × T3)} {last : Ck}, last.st = true → Chain A last.t R → (lastT last.t R).le e → Cov A e last (weaveP last.t R ++ gapC (lastT last.t R) e)
  | [], last, hs, _, hle => by
    rw [weaveP, List.nil_append, lastT_nil, ← List.append_nil (gapC _ _)]
    rw [lastT_nil] at hle
    exact Cov.gap hs hle fun x hx => .nil hx
  | (f, t) :: R, last, hs, hc, hle => by
    obtain ⟨h1, ⟨n, h2, h3, h4⟩, h5⟩ := hc
    rw [lastT_cons] at hle
    rw [weaveP, lastT_cons, List.append_assoc]
    refine Cov.gap hs h1 fun x hx => ?_
    refine .cons (x := ⟨true, f, t⟩) hx.symm (by rw [h3]; exact T3.le_plus _ _) (fun hh => by cases hh) (fun _ => ⟨n, h2, h3, h4⟩) ?_
    exact chain_cov (last := ⟨true, f, t⟩) rfl h5 hle
theorem chunks_cov {A : Nat → Option T3} {e : T3} (h : AncOk A e) (n : Nat) : Cov A e ⟨true, T3.zero, T3.zero⟩ (chunksL A n e) := by
  obtain ⟨h1, h2, -⟩ := runs_chain h n
  exact chain_cov (last := ⟨true, T3.zero, T3.zero⟩) rfl h1 h2
section
variable {A : Nat → Option T3}
theorem T3.swap_inj {s t : T3} : s.swap = t.swap ↔ s = t := by
  cases s; cases t
  simp only [T3.swap, T3.mk.injEq]
  constructor
  · rintro ⟨h1, h2, h3⟩; exact ⟨h1, h3, h2⟩
  · rintro ⟨h1, h2, h3⟩; exact ⟨h1, h3, h2⟩
theorem runs_swap : ∀ n, runs (fun i => (A i).map T3.swap) n = (runs A n).map fun p => (p.1.swap, p.2.swap)
  | 0 => rfl
  | n + 1 => by
    show stepR ((A n).map T3.swap) (runs _ n) = (stepR (A n) (runs A n)).map _
    rw [runs_swap n]
    cases A n with
    | none => rfl
    | some a =>
      rcases snoc_or (runs A n) with e | ⟨R, f, t, e⟩
      · rw [e]; rfl
      · rw [e, List.map_append, stepR_snoc]
        show stepR (some a.swap) (_ ++ [(f.swap, t.swap)]) = _
        rw [stepR_snoc]
        by_cases et : t = a
        · rw [if_pos et, if_pos (by rw [et]), List.map_append]; rfl
        · rw [if_neg et, if_neg (fun h => et (T3.swap_inj.1 h)), List.map_append, List.map_append]; rfl
theorem lastT_swap (z : T3) (R : List (T3 × T3)) : lastT z.swap (R.map fun p => (p.1.swap, p.2.swap)) = (lastT z R).swap := by
  rcases snoc_or R with e | ⟨R, f, t, e⟩
  · rw [e]; rfl
  · rw [e, List.map_append, lastT_snoc]
    exact lastT_snoc
theorem gap_swap (s t : T3) : gapC s.swap t.swap = (gapC s t).map Ck.turn := by
  unfold gapC
  by_cases e : s = t
  · rw [if_pos e, if_pos (by rw [e])]; rfl
  · rw [if_neg e, if_neg (fun h => e (T3.swap_inj.1 h))]; rfl
theorem weave_swap : ∀ (z : T3) (R : List (T3 × T3)), weaveP z.swap (R.map fun p => (p.1.swap, p.2.swap)) = (weaveP z R).map Ck.turn
  | _, [] => rfl
  | z, (f, t) :: R => by
    rw [List.map_cons, weaveP, weaveP, gap_swap, weave_swap t R, List.map_append, List.map_cons]; rfl
theorem chunks_swap (n : Nat) (e : T3) : chunksL (fun i => (A i).map T3.swap) n e.swap = (chunksL A n e).map Ck.turn := by
  unfold chunksL
  rw [runs_swap, show T3.zero = T3.zero.swap from rfl, weave_swap, lastT_swap, gap_swap, List.map_append]; rfl
/-- Where left is base, each chunk has the same of both. -/
theorem runs_eq (h : ∀ i a, A i = some a → a.b = a.l) : ∀ n, ∀ p ∈ runs A n, p.1.b = p.1.l ∧ p.2.b = p.2.l
  | 0 => by simp [runs]
  | n + 1 => by
    have ih := runs_eq h n
    show ∀ p ∈ stepR (A n) (runs A n), _
    cases ha : A n with
    | none => exact ih
    | some a =>
      have hal := h n a ha
      have hau : a.up.b = a.up.l := by show a.b + 1 = a.l + 1; omega
      rcases snoc_or (runs A n) with e | ⟨R, f, t, e⟩
      · rw [e, stepR_nil]
        intro p hp
        rw [List.mem_singleton.1 hp]; exact ⟨hal, hau⟩
      · rw [e] at ih ⊢
        rw [stepR_snoc]
        intro p hp
        have hf := (ih (f, t) (by simp)).1
        by_cases et : t = a
        · rw [if_pos et] at hp
          rcases List.mem_append.1 hp with hp | hp
          · exact ih p (by simp [hp])
          · rw [List.mem_singleton.1 hp]; exact ⟨hf, hau⟩
        · rw [if_neg et] at hp
          rcases List.mem_append.1 hp with hp | hp
          · exact ih p hp
          · rw [List.mem_singleton.1 hp]; exact ⟨hal, hau⟩
theorem weave_eq : ∀ {R : List (T3 × T3)} {z : T3}, z.b = z.l → (∀ p ∈ R, p.1.b = p.1.l ∧ p.2.b = p.2.l) → ∀ c ∈ weaveP z R, c.f.b = c.f.l ∧ c.t.b = c.t.l
  | [], _, _, _ => by simp [weaveP]
  | (f, t) :: R, z, hz, h => by
    obtain ⟨h1, h2⟩ := h (f, t) (by simp)
    intro c hc
    rw [weaveP] at hc
    rcases List.mem_append.1 hc with hc | hc
    · unfold gapC at hc
      by_cases e : z = f
      · rw [if_pos e] at hc; cases hc
      · rw [if_neg e] at hc; rw [List.mem_singleton.1 hc]; exact ⟨hz, h1⟩
    · rcases List.mem_cons.1 hc with rfl | hc
      · exact ⟨h1, h2⟩
      · exact weave_eq h2 (fun p hp => h p (by simp [hp])) c hc
theorem last_eq {R : List (T3 × T3)} {z : T3} (hz : z.b = z.l) (h : ∀ p ∈ R, p.1.b = p.1.l ∧ p.2.b = p.2.l) : (lastT z R).b = (lastT z R).l := by
  rcases snoc_or R with e | ⟨R, f, t, e⟩
  · rw [e]; exact hz
  · rw [e, lastT_snoc]; exact (h (f, t) (by rw [e]; simp)).2
theorem chunks_eq (h : ∀ i a, A i = some a → a.b = a.l) (n : Nat) {e : T3} (he : e.b = e.l) : ∀ c ∈ chunksL A n e, c.f.b = c.f.l ∧ c.t.b = c.t.l := fun c hc => by
  have hr := runs_eq h n
  rcases List.mem_append.1 hc with hc | hc
  · exact weave_eq rfl hr c hc
  · unfold gapC at hc
    by_cases e1 : lastT T3.zero (runs A n) = e
    · rw [if_pos e1] at hc; cases hc
    · rw [if_neg e1] at hc; rw [List.mem_singleton.1 hc]; exact ⟨last_eq rfl hr, he⟩
end
/-- Where all three are one list, all is one chunk, or there is none. -/
theorem runs_all (m : Nat) : ∀ n, n ≤ m → runs (anc (diag m) (diag m)) n = if n = 0 then [] else [(T3.zero, ⟨n, n, n⟩)]
  | 0, _ => rfl
  | n + 1, h => by
    have ih := runs_all m n (by omega)
    have ha : anc (diag m) (diag m) n = some ⟨n, n, n⟩ := anc_some.2 ⟨rfl, by rw [part_diag, if_pos (by omega)], by rw [part_diag, if_pos (by omega)]⟩
    show stepR (anc (diag m) (diag m) n) (runs _ n) = _
    rw [ih, ha, if_neg (Nat.succ_ne_zero n)]
    by_cases h0 : n = 0
    · subst h0; rfl
    · rw [if_neg h0, show [(T3.zero, (⟨n, n, n⟩ : T3))] = [] ++ [(T3.zero, ⟨n, n, n⟩)] from rfl, stepR_snoc, if_pos rfl]; rfl
theorem chunks_all (n : Nat) : chunksL (anc (diag n) (diag n)) n ⟨n, n, n⟩ = if n = 0 then [] else [⟨true, T3.zero, ⟨n, n, n⟩⟩] := by
  unfold chunksL
  rw [runs_all n n (Nat.le_refl _)]
  by_cases h : n = 0
  · subst h; rfl
  · rw [if_neg h, if_neg h]
    simp [weaveP, gapC, lastT]
theorem anc_ok {P Q : List (Nat × Nat)} {e : T3} (hP : Rise P) (hQ : Rise Q) (h1 : ∀ p ∈ P, p.1 < e.b ∧ p.2 < e.l) (h2 : ∀ p ∈ Q, p.1 < e.b ∧ p.2 < e.r) : AncOk (anc P Q) e := by
  refine ⟨fun i a h => (anc_some.1 h).1, fun i j a c ha hc hij => ?_, fun i a h => ?_⟩
  · obtain ⟨-, a1, a2⟩ := anc_some.1 ha
    obtain ⟨-, c1, c2⟩ := anc_some.1 hc
    exact ⟨part_rise hP a1 c1 hij, part_rise hQ a2 c2 hij⟩
  · obtain ⟨rfl, a1, a2⟩ := anc_some.1 h
    have g1 := h1 _ (part_some a1)
    have g2 := h2 _ (part_some a2)
    exact ⟨g1.1, g1.2, g2.2⟩
end Go.Proofs.YtjihepdjcbpgoaaDoor
