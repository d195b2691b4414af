/-
  A value's text as a plain function, and how long it is. Plain; no condition but that values may be.
-/
import Derived.Test.YtjihepdjcbpgoaaDoorO2
import Derived.Test.YtjihepdjcbpgoaaDoorVB
namespace Go.Proofs.YtjihepdjcbpgoaaDoor
open Go.RowKit Go.Sort

/-- Texts with commas between. -/
def commaL : List (List UInt8) → List UInt8
  | [] => []
  | x :: l => x ++ l.flatMap fun y => 44 :: y
theorem commaL_snoc (l : List (List UInt8)) (x : List UInt8) (h : l ≠ []) : commaL (l ++ [x]) = commaL l ++ [44] ++ x := by
  cases l with
  | nil => exact absurd rfl h
  | cons y l => simp [commaL, List.flatMap_append]
theorem commaL_one (x : List UInt8) : commaL [x] = x := by simp [commaL]
theorem commaL_len : ∀ l : List (List UInt8), (commaL l).length ≤ (l.map (·.length + 1)).sum
  | [] => by simp [commaL]
  | x :: l => by
    have : (l.flatMap fun y => (44 : UInt8) :: y).length ≤ (l.map (·.length + 1)).sum := by
      induction l with
      | nil => simp
      | cons y l ih => simp only [List.flatMap_cons, List.length_append, List.length_cons, List.map_cons, List.sum_cons]; omega
    simp only [commaL, List.length_append, List.map_cons, List.sum_cons]; omega

/-- A value's text, n lists and maps deep at most. -/
def textV : Nat → Val → List UInt8
  | 0, v => if v.k = 0 then [110, 117, 108, 108] else if v.k = 3 then quoteL v.t.data.toList else v.t.data.toList
  | n + 1, v => if v.k = 0 then [110, 117, 108, 108] else if v.k = 3 then quoteL v.t.data.toList
    else if v.k = 7 then [91] ++ commaL (v.l.map (textV n)) ++ [93]
    else if v.k = 8 then [123] ++ commaL (v.ents.map fun e => quoteL e.1.data.toList ++ [58] ++ textV n e.2) ++ [125] else v.t.data.toList
theorem textV_s (n : Nat) (v : Val) : textV (n + 1) v = if v.k = 0 then [110, 117, 108, 108] else if v.k = 3 then quoteL v.t.data.toList
    else if v.k = 7 then [91] ++ commaL (v.l.map (textV n)) ++ [93]
    else if v.k = 8 then [123] ++ commaL (v.ents.map fun e => quoteL e.1.data.toList ++ [58] ++ textV n e.2) ++ [125] else v.t.data.toList := by rw [textV]

theorem map_of_key {α γ δ : Type} {k : α → γ} {g : α → δ} : ∀ {l m : List α}, l.map k = m.map k → (∀ a ∈ l, ∀ b ∈ m, k a = k b → g a = g b) → l.map g = m.map g
  | [], [], _, _ => rfl
  | [], _ :: _, h, _ => by simp at h
  | _ :: _, [], h, _ => by simp at h
  | x :: l, y :: m, h, hg => by
    simp only [List.map_cons, List.cons.injEq] at h ⊢
    exact ⟨hg x (by simp) y (by simp) h.1, map_of_key h.2 fun a ha b hb => hg a (by simp [ha]) b (by simp [hb])⟩
theorem ents_pairs {n : Nat} {a b : Val} (h1 : a.ents.map (·.1) = b.ents.map (·.1)) (h2 : (a.ents.map fun e => canon n e.2) = b.ents.map fun e => canon n e.2) :
    (a.ents.map fun e => (e.1, canon n e.2)) = b.ents.map fun e => (e.1, canon n e.2) := by
  have z : ∀ l : List (ByteArray × Val), l.map (fun e => (e.1, canon n e.2)) = (l.map (·.1)).zip (l.map fun e => canon n e.2) := fun l => by
    rw [List.zip_map', List.map_inj_left]; intro e _; rfl
  rw [z, z, h1, h2]
/-- A text hangs on the form with keys in order alone. -/
theorem text_canon : ∀ (n : Nat) (a b : Val), a.within n = true → b.within n = true → canon n a = canon n b → textV n a = textV n b
  | 0, a, b, _, _, e => by rw [canon, canon] at e; rw [e]
  | n + 1, a, b, ha, hb, e => by
    obtain ⟨_, ka⟩ := within_k ha
    obtain ⟨_, kb⟩ := within_k hb
    have ek : a.k = b.k := by have := congrArg Val.k e; rwa [canon_k, canon_k] at this
    have et : a.t = b.t := by have := congrArg Val.t e; rwa [canon_t, canon_t] at this
    rw [canon_s, canon_s] at e
    rw [textV_s, textV_s, ek, et]
    by_cases h8 : b.k = 8
    · rw [if_pos (ek.trans h8), if_pos h8] at e
      simp only [Val.mk.injEq] at e
      have := map_of_key (g := fun e : ByteArray × Val => quoteL e.1.data.toList ++ [58] ++ textV n e.2) (ents_pairs e.2.2.2 e.2.2.1) fun x hx y hy hxy => by
        simp only [Prod.mk.injEq] at hxy
        rw [hxy.1, text_canon n x.2 y.2 (ka _ (ents_mem hx).2) (kb _ (ents_mem hy).2) hxy.2]
      rw [this, if_neg (show ¬ b.k = 7 by omega), if_neg (show ¬ b.k = 7 by omega)]
    · rw [if_neg (fun h => h8 (ek.symm.trans h)), if_neg h8] at e
      simp only [Val.mk.injEq] at e
      have := map_of_key (g := textV n) e.2.2.1 fun x hx y hy hxy => text_canon n x y (ka x hx) (kb y hy) hxy
      rw [this, if_neg h8, if_neg h8]

theorem sum_add {α : Type} (f g : α → Nat) : ∀ l : List α, (l.map fun x => f x + g x).sum = (l.map f).sum + (l.map g).sum
  | [] => rfl
  | x :: l => by simp only [List.map_cons, List.sum_cons, sum_add f g l]; omega
theorem zip_sum {α β : Type} (f : α → Nat) (g : β → Nat) : ∀ (l : List α) (m : List β), ((l.zip m).map fun e => f e.1 + g e.2).sum ≤ (l.map f).sum + (m.map g).sum
  | [], m => by simp
  | _ :: _, [] => by simp
  | x :: l, y :: m => by have := zip_sum f g l m; simp only [List.zip_cons_cons, List.map_cons, List.sum_cons]; omega
theorem sum_mul {α : Type} (f : α → Nat) (c : Nat) : ∀ l : List α, (l.map fun x => c * f x).sum = c * (l.map f).sum
  | [] => rfl
  | x :: l => by simp only [List.map_cons, List.sum_cons, sum_mul f c l, Nat.mul_add]
theorem sum_const {α : Type} (c : Nat) : ∀ l : List α, (l.map fun _ => c).sum = c * l.length
  | [] => rfl
  | x :: l => by simp only [List.map_cons, List.sum_cons, sum_const c l, List.length_cons, Nat.mul_add]; omega
theorem ba_size (s : ByteArray) : s.data.toList.length = s.size := by simp
/-- The parts of a map's text, however many are written. -/
theorem ents_text_len (n : Nat) (v : Val) (ih : ∀ y ∈ v.l, (textV n y).length + 1 ≤ 8 * y.w) : ((v.ents.map fun e => (quoteL e.1.data.toList ++ [58] ++ textV n e.2).length + 1).sum) + 8 * (1 + v.t.size) ≤ 8 * v.w := by
  have h1 : (v.ents.map fun e => (quoteL e.1.data.toList ++ [58] ++ textV n e.2).length + 1).sum ≤ (v.ents.map fun e => (8 * (e.1.size + 1)) + 8 * e.2.w).sum := by
    refine sum_le _ _ fun e he => ?_
    have := ih e.2 (ents_mem he).2
    have := quoteL_len e.1.data.toList
    rw [ba_size] at this
    simp only [List.length_append, List.length_singleton]; omega
  have h2 := ((ents_perm v).map fun e => 8 * (e.1.size + 1) + 8 * e.2.w).sum_nat
  have h3 := zip_sum (fun k : ByteArray => 8 * (k.size + 1)) (fun y : Val => 8 * y.w) v.ks v.l
  rw [sum_mul, sum_mul, sum_add (fun k : ByteArray => k.size) (fun _ => 1), sum_const] at h3
  rw [v.w_eq]
  omega
theorem text_len : ∀ (n : Nat) (v : Val), (textV n v).length + 1 ≤ 8 * v.w
  | 0, v => by
    have := quoteL_len v.t.data.toList
    rw [ba_size] at this
    have e := ba_size v.t
    rw [textV, v.w_eq]
    split
    · simp; omega
    · split
      · omega
      · omega
  | n + 1, v => by
    have ih : ∀ y : Val, (textV n y).length + 1 ≤ 8 * y.w := text_len n
    have := quoteL_len v.t.data.toList
    rw [ba_size] at this
    have e := ba_size v.t
    rw [textV_s]
    split
    · rw [v.w_eq]; simp; omega
    split
    · rw [v.w_eq]; omega
    split
    · have h1 := commaL_len (v.l.map (textV n))
      rw [List.map_map] at h1
      have h2 : (v.l.map ((fun x : List UInt8 => x.length + 1) ∘ textV n)).sum ≤ (v.l.map fun y => 8 * y.w).sum := sum_le _ _ fun y _ => ih y
      rw [sum_mul] at h2
      rw [v.w_eq]
      simp only [List.length_append, List.length_singleton]; omega
    split
    · have h1 := commaL_len (v.ents.map fun e => quoteL e.1.data.toList ++ [58] ++ textV n e.2)
      rw [List.map_map] at h1
      have h2 := ents_text_len n v fun y _ => ih y
      simp only [Function.comp_def] at h1
      simp only [List.length_append, List.length_singleton] at h1 h2 ⊢
      omega
    · rw [v.w_eq]; omega
end Go.Proofs.YtjihepdjcbpgoaaDoor
