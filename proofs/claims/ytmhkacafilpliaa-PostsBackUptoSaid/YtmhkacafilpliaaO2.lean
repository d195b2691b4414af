/-
  values.compare is an order, and what stands even is the same value with its keys in order. Plain; no condition but that values may be.
  Values whose keys are turned, values of which one node is another one. Plain; condition: the values may be.
-/
import Derived.Test.YtmhkacafilpliaaV9
import Derived.Test.YtmhkacafilpliaaO0
namespace Go.Proofs.Ytmhkacafilpliaa
open Go.RowKit Go.Sort

/-- f compares what S holds of: turned round it is turned round; what stands even with another one compares as that one; what is ahead of what is ahead is ahead. -/
structure Cmpr {α : Type} (S : α → Prop) (f : α → α → Int) : Prop where
  anti : ∀ a b, S a → S b → f a b = - f b a
  congr : ∀ a b c, S a → S b → S c → f a b = 0 → f a c = f b c
  trans : ∀ a b c, S a → S b → S c → f a b < 0 → f b c < 0 → f a c < 0
section
variable {α β : Type} {S : α → Prop} {f g : α → α → Int}
theorem Cmpr.refl (h : Cmpr S f) {a : α} (ha : S a) : f a a = 0 := by have := h.anti a a ha ha; omega
theorem Cmpr.congr_r (h : Cmpr S f) {a b c : α} (ha : S a) (hb : S b) (hc : S c) (e : f a b = 0) : f c a = f c b := by
  have := h.anti c a hc ha; have := h.anti c b hc hb; have := h.congr a b c ha hb hc e; omega
theorem Cmpr.le (h : Cmpr S f) {a b c : α} (ha : S a) (hb : S b) (hc : S c) (h1 : f a b ≤ 0) (h2 : f b c ≤ 0) : f a c ≤ 0 ∧ (f a c = 0 → f a b = 0 ∧ f b c = 0) := by
  by_cases e1 : f a b = 0
  · have := h.congr a b c ha hb hc e1; omega
  · by_cases e2 : f b c = 0
    · have := h.congr_r hb hc ha e2; omega
    · have := h.trans a b c ha hb hc (by omega) (by omega); omega
theorem Cmpr.imp {T : α → Prop} (h : Cmpr S f) (hS : ∀ a, T a → S a) : Cmpr T f :=
  ⟨fun a b ha hb => h.anti a b (hS a ha) (hS b hb), fun a b c ha hb hc => h.congr a b c (hS a ha) (hS b hb) (hS c hc), fun a b c ha hb hc => h.trans a b c (hS a ha) (hS b hb) (hS c hc)⟩
theorem Cmpr.pull {T : β → Prop} (h : Cmpr S f) (k : β → α) (hS : ∀ a, T a → S (k a)) : Cmpr T fun a b => f (k a) (k b) :=
  ⟨fun a b ha hb => h.anti _ _ (hS a ha) (hS b hb), fun a b c ha hb hc => h.congr _ _ _ (hS a ha) (hS b hb) (hS c hc), fun a b c ha hb hc => h.trans _ _ _ (hS a ha) (hS b hb) (hS c hc)⟩
theorem Cmpr.ext (h : Cmpr S f) (e : ∀ a b, S a → S b → g a b = f a b) : Cmpr S g :=
  ⟨fun a b ha hb => by rw [e a b ha hb, e b a hb ha]; exact h.anti a b ha hb, fun a b c ha hb hc h0 => by rw [e a c ha hc, e b c hb hc]; exact h.congr a b c ha hb hc (by rw [← e a b ha hb]; exact h0),
   fun a b c ha hb hc h1 h2 => by rw [e a c ha hc]; exact h.trans a b c ha hb hc (by rw [← e a b ha hb]; exact h1) (by rw [← e b c hb hc]; exact h2)⟩
theorem Cmpr.zero : Cmpr S fun _ _ => 0 := ⟨fun _ _ _ _ => rfl, fun _ _ _ _ _ _ _ => rfl, fun _ _ _ _ _ _ h => absurd h (by omega)⟩
theorem Cmpr.or2 (h : Cmpr S f) (hg : ∀ a, S a → Cmpr (fun x => S x ∧ f a x = 0) g) : Cmpr S fun a b => orInt [f a b, g a b] where
  anti a b ha hb := by
    have h1 := h.anti a b ha hb
    simp only [orInt]
    by_cases e : f a b = 0
    · have e' : f b a = 0 := by omega
      have := (hg a ha).anti a b ⟨ha, h.refl ha⟩ ⟨hb, e⟩
      rw [if_pos e, if_pos e']; split <;> split <;> omega
    · have e' : f b a ≠ 0 := by omega
      rw [if_neg e, if_neg e']; exact h1
  congr a b c ha hb hc e := by
    simp only [orInt] at e ⊢
    split at e
    · rename_i e1
      have e2 : g a b = 0 := by split at e <;> omega
      have h1 := h.congr a b c ha hb hc e1
      rw [← h1]
      by_cases e3 : f a c = 0
      · have := (hg a ha).congr a b c ⟨ha, h.refl ha⟩ ⟨hb, e1⟩ ⟨hc, e3⟩ e2
        rw [if_pos e3, if_pos e3, this]
      · rw [if_neg e3, if_neg e3]
    · exact absurd e (by assumption)
  trans a b c ha hb hc h1 h2 := by
    have hz : ∀ x : Int, (if x = 0 then (0 : Int) else x) = x := fun x => by split <;> omega
    simp only [orInt, hz] at h1 h2 ⊢
    by_cases e1 : f a b = 0
    · rw [if_pos e1] at h1
      have e3 := h.congr a b c ha hb hc e1
      by_cases e2 : f b c = 0
      · rw [if_pos e2] at h2
        rw [if_pos (by omega)]
        exact (hg a ha).trans a b c ⟨ha, h.refl ha⟩ ⟨hb, e1⟩ ⟨hc, by omega⟩ h1 h2
      · rw [if_neg e2] at h2
        rw [if_neg (by omega)]; omega
    · rw [if_neg e1] at h1
      by_cases e2 : f b c = 0
      · have := h.congr_r hb hc ha e2
        rw [if_neg (by omega)]; omega
      · rw [if_neg e2] at h2
        have := h.trans a b c ha hb hc h1 h2
        rw [if_neg (by omega)]; exact this

theorem cmpL_anti : ∀ (l m : List α), (∀ a ∈ l, ∀ b ∈ m, f a b = - f b a) → cmpL f l m = - cmpL f m l
  | [], [], _ => rfl
  | [], _ :: _, _ => rfl
  | _ :: _, [], _ => rfl
  | x :: l, y :: m, h => by
    have h0 := h x (by simp) y (by simp)
    have := cmpL_anti l m fun a ha b hb => h a (by simp [ha]) b (by simp [hb])
    simp only [cmpL]
    by_cases e : f x y = 0
    · rw [if_pos e, if_pos (by omega)]; exact this
    · rw [if_neg e, if_neg (by omega)]; exact h0
theorem cmpL_congr (h : Cmpr S f) : ∀ (l m n : List α), (∀ a ∈ l, S a) → (∀ a ∈ m, S a) → (∀ a ∈ n, S a) → cmpL f l m = 0 → cmpL f l n = cmpL f m n
  | [], [], _, _, _, _, _ => rfl
  | [], _ :: _, _, _, _, _, e => by simp [cmpL] at e
  | _ :: _, [], _, _, _, _, e => by simp [cmpL] at e
  | x :: l, y :: m, [], _, _, _, _ => rfl
  | x :: l, y :: m, z :: n, h1, h2, h3, e => by
    simp only [cmpL] at e ⊢
    split at e
    · rename_i e0
      rw [h.congr x y z (h1 x (by simp)) (h2 y (by simp)) (h3 z (by simp)) e0, cmpL_congr h l m n (fun a ha => h1 a (by simp [ha])) (fun a ha => h2 a (by simp [ha])) (fun a ha => h3 a (by simp [ha])) e]
    · exact absurd e (by assumption)
theorem cmpL_trans (h : Cmpr S f) : ∀ (l m n : List α), (∀ a ∈ l, S a) → (∀ a ∈ m, S a) → (∀ a ∈ n, S a) → cmpL f l m < 0 → cmpL f m n < 0 → cmpL f l n < 0
  | [], [], _, _, _, _, e, _ => by simp [cmpL] at e
  | [], _ :: _, [], _, _, _, _, e => by simp [cmpL] at e
  | [], _ :: _, _ :: _, _, _, _, _, _ => by simp [cmpL]
  | _ :: _, [], _, _, _, _, e, _ => by simp [cmpL] at e
  | x :: l, y :: m, [], _, _, _, _, e => by simp [cmpL] at e
  | x :: l, y :: m, z :: n, h1, h2, h3, e1, e2 => by
    have sx := h1 x (by simp); have sy := h2 y (by simp); have sz := h3 z (by simp)
    simp only [cmpL] at e1 e2 ⊢
    by_cases g1 : f x y = 0
    · rw [if_pos g1] at e1
      have g3 := h.congr x y z sx sy sz g1
      by_cases g2 : f y z = 0
      · rw [if_pos g2] at e2
        rw [if_pos (by omega)]
        exact cmpL_trans h l m n (fun a ha => h1 a (by simp [ha])) (fun a ha => h2 a (by simp [ha])) (fun a ha => h3 a (by simp [ha])) e1 e2
      · rw [if_neg g2] at e2
        rw [if_neg (by omega)]; omega
    · rw [if_neg g1] at e1
      by_cases g2 : f y z = 0
      · have := h.congr_r sy sz sx g2
        rw [if_neg (by omega)]; omega
      · rw [if_neg g2] at e2
        have := h.trans x y z sx sy sz e1 e2
        rw [if_neg (by omega)]; exact this
theorem Cmpr.list (h : Cmpr S f) : Cmpr (fun l : List α => ∀ a ∈ l, S a) (cmpL f) :=
  ⟨fun l m h1 h2 => cmpL_anti l m fun a ha b hb => h.anti a b (h1 a ha) (h2 b hb), fun l m n => cmpL_congr h l m n, fun l m n => cmpL_trans h l m n⟩
theorem cmpL_zero {γ δ : Type} (k : α → γ) : ∀ (l m : List α), (∀ a ∈ l, ∀ b ∈ m, (f a b = 0 ↔ k a = k b)) → (cmpL f l m = 0 ↔ l.map k = m.map k)
  | [], [], _ => by simp [cmpL]
  | [], _ :: _, _ => by simp [cmpL]
  | _ :: _, [], _ => by simp [cmpL]
  | x :: l, y :: m, h => by
    have h0 := h x (by simp) y (by simp)
    have := cmpL_zero (δ := δ) k l m fun a ha b hb => h a (by simp [ha]) b (by simp [hb])
    simp only [cmpL, List.map_cons, List.cons.injEq]
    by_cases e : f x y = 0
    · rw [if_pos e, this]; simp [h0.1 e]
    · rw [if_neg e]
      constructor
      · intro h; exact absurd h e
      · intro h; exact absurd (h0.2 h.1) e
end
theorem orInt2_zero (a b : Int) : orInt [a, b] = 0 ↔ a = 0 ∧ b = 0 := by
  simp only [orInt]
  split
  · split <;> omega
  · omega

theorem cmpInt_ord {S : Int → Prop} : Cmpr S cmpInt where
  anti a b _ _ := by unfold cmpInt; split <;> split <;> (try split) <;> omega
  congr a b c _ _ _ h := by
    have : a = b := by unfold cmpInt at h; split at h <;> (try split at h) <;> omega
    rw [this]
  trans a b c _ _ _ h1 h2 := by
    unfold cmpInt at *
    split at h1 <;> (try split at h1) <;> (split at h2 <;> (try split at h2)) <;> first | omega | (rw [if_pos (by omega)]; omega)
theorem cmpIntZ (a b : Int) : cmpInt a b = 0 ↔ a = b := by
  unfold cmpInt; split <;> (try split) <;> constructor <;> intro h <;> omega
theorem bl_eq {a b : ByteArray} (h : a.toList = b.toList) : a = b := by
  rw [ByteArray.toList_eq, ByteArray.toList_eq] at h
  cases a; cases b; simp at h; rw [h]
theorem cmpStr_spec (a b : ByteArray) : cmpStr a b = if a.toList < b.toList then -1 else if a = b then 0 else 1 := by
  unfold cmpStr; rw [bytesLess_eq]; simp
theorem cmpStrZ (a b : ByteArray) : cmpStr a b = 0 ↔ a = b := by
  rw [cmpStr_spec]
  split
  · rename_i h
    constructor
    · intro h; omega
    · intro e; subst e; exact absurd h (List.lt_irrefl _)
  · split <;> constructor <;> intro h <;> first | assumption | rfl | omega | contradiction
theorem cmpStr_ord {S : ByteArray → Prop} : Cmpr S cmpStr where
  anti a b _ _ := by
    rw [cmpStr_spec, cmpStr_spec]
    by_cases h1 : a.toList < b.toList
    · have h2 : ¬ b.toList < a.toList := fun h => List.lt_irrefl _ (List.lt_trans h1 h)
      have h3 : b ≠ a := fun e => by subst e; exact List.lt_irrefl _ h1
      rw [if_pos h1, if_neg h2, if_neg h3]
    · by_cases e : a = b
      · subst e; rw [if_neg h1, if_pos rfl]; rfl
      · have h2 : b.toList < a.toList := by
          rcases List.le_iff_lt_or_eq.1 (List.not_lt.1 h1) with h | h
          · exact h
          · exact absurd (bl_eq h.symm) e
        rw [if_neg h1, if_neg e, if_pos h2]; rfl
  congr a b c _ _ _ h := by rw [(cmpStrZ a b).1 h]
  trans a b c _ _ _ h1 h2 := by
    have lt : ∀ x y, cmpStr x y < 0 → x.toList < y.toList := fun x y h => by
      rw [cmpStr_spec] at h
      split at h
      · assumption
      · split at h <;> omega
    rw [cmpStr_spec, if_pos (List.lt_trans (lt _ _ h1) (lt _ _ h2))]; omega


/-- A value with its maps' keys in order (n lists and maps deep at most). -/
def canon : Nat → Val → Val
  | 0, v => v
  | n + 1, v => if v.k = 8 then ⟨v.k, v.t, v.ents.map fun e => canon n e.2, v.ents.map (·.1)⟩ else ⟨v.k, v.t, v.l.map (canon n), v.ks⟩
theorem canon_s (n : Nat) (v : Val) : canon (n + 1) v = if v.k = 8 then ⟨v.k, v.t, v.ents.map fun e => canon n e.2, v.ents.map (·.1)⟩ else ⟨v.k, v.t, v.l.map (canon n), v.ks⟩ := by rw [canon]

theorem ents_perm (v : Val) : v.ents.Perm (v.ks.zip v.l) := List.mergeSort_perm _ _
theorem ents_sorted (v : Val) : v.ents.Pairwise fun a b => a.1.toList ≤ b.1.toList := by
  have := List.pairwise_mergeSort (le := fun a b : ByteArray × Val => decide (a.1.toList ≤ b.1.toList)) (fun a b c h1 h2 => by simp at *; exact List.le_trans h1 h2) (fun a b => by simp; exact List.le_total _ _) (v.ks.zip v.l)
  exact this.imp fun h => by simpa using h
theorem ents_mem {v : Val} {e : ByteArray × Val} (h : e ∈ v.ents) : e.1 ∈ v.ks ∧ e.2 ∈ v.l := by
  have := (ents_perm v).subset h
  exact List.of_mem_zip (a := e.1) (b := e.2) this
theorem ents_len {v : Val} (h : v.ks.length = v.l.length) : v.ents.length = v.l.length := by
  rw [(ents_perm v).length_eq, List.length_zip]; omega
/-- Two sorted lists of the same entries, of unlike keys, are one. -/
theorem sorted_eq {β : Type} {l m : List (ByteArray × β)} (hp : l.Perm m) (hk : ∀ a ∈ l, ∀ b ∈ l, a.1 = b.1 → a = b) (h1 : l.Pairwise fun a b => a.1.toList ≤ b.1.toList) (h2 : m.Pairwise fun a b => a.1.toList ≤ b.1.toList) : l = m := by
  refine List.Perm.eq_of_pairwise (fun a b ha hb h1 h2 => ?_) h1 h2 hp
  exact hk a ha b (hp.symm.subset hb) (bl_eq (List.le_antisymm h1 h2))
theorem ents_key {v : Val} (h : v.ks.Nodup) : ∀ a ∈ v.ents, ∀ b ∈ v.ents, a.1 = b.1 → a = b := fun a ha b hb e =>
  zip_key _ _ h a ((ents_perm v).subset ha) b ((ents_perm v).subset hb) e

/-- The tail of a comparison. -/
def cmpT (n : Nat) (a b : Val) : Int := if a.k < 7 then 0 else if a.k = 7 then cmpL (cmpV n) a.l b.l else cmpL (fun x y => orInt [cmpStr x.1 y.1, cmpV n x.2 y.2]) a.ents b.ents
theorem cmpV_two (n : Nat) (a b : Val) : cmpV (n + 1) a b = orInt [orInt [cmpInt a.k b.k, cmpStr a.t b.t], cmpT n a b] := by
  have e : ∀ x y : Int, orInt [x, y] = if x = 0 then y else x := fun x y => by
    simp only [orInt]
    split
    · split <;> omega
    · rfl
  have e0 : cmpV (n + 1) a b = if orInt [cmpInt a.k b.k, cmpStr a.t b.t] ≠ 0 ∨ a.k < 7 then orInt [cmpInt a.k b.k, cmpStr a.t b.t] else if a.k = 7 then cmpL (cmpV n) a.l b.l else cmpL (fun x y => orInt [cmpStr x.1 y.1, cmpV n x.2 y.2]) a.ents b.ents := rfl
  rw [e0, cmpT, e (orInt _)]
  by_cases h : orInt [cmpInt a.k b.k, cmpStr a.t b.t] = 0
  · rw [if_pos h]
    by_cases h7 : a.k < 7
    · rw [if_pos (.inr h7), if_pos h7, h]
    · rw [if_neg (fun o => o.elim (fun x => x h) h7), if_neg h7]
  · rw [if_pos (.inl h), if_neg h]
theorem head_ord {S : Val → Prop} : Cmpr S fun a b => orInt [cmpInt a.k b.k, cmpStr a.t b.t] :=
  Cmpr.or2 ((cmpInt_ord (S := fun _ => True)).pull Val.k fun _ _ => trivial) fun _ _ => (cmpStr_ord (S := fun _ => True)).pull Val.t fun _ _ => trivial
theorem head_zero (a b : Val) : orInt [cmpInt a.k b.k, cmpStr a.t b.t] = 0 ↔ a.k = b.k ∧ a.t = b.t := by
  rw [orInt2_zero, cmpIntZ, cmpStrZ]
/-- values.compare is an order. -/
theorem cmpV_ord : ∀ n, Cmpr (fun _ : Val => True) (cmpV n)
  | 0 => head_ord.ext fun a b _ _ => rfl
  | n + 1 => by
    have ih := cmpV_ord n
    refine (Cmpr.or2 (head_ord (S := fun _ => True)) (g := cmpT n) fun a _ => ?_).ext fun a b _ _ => cmpV_two n a b
    by_cases h1 : a.k < 7
    · exact (Cmpr.zero (S := fun _ => True)).imp (fun _ _ => trivial) |>.ext fun x y hx hy => by
        have := ((head_zero _ _).1 hx.2).1
        rw [cmpT, if_pos (by omega)]
    by_cases h2 : a.k = 7
    · refine (ih.list.pull Val.l (T := fun x => True ∧ orInt [cmpInt a.k x.k, cmpStr a.t x.t] = 0) fun _ _ _ _ => trivial).ext fun x y hx hy => ?_
      have := ((head_zero _ _).1 hx.2).1
      rw [cmpT, if_neg (by omega), if_pos (by omega)]
    · have hp : Cmpr (fun _ : ByteArray × Val => True) fun x y => orInt [cmpStr x.1 y.1, cmpV n x.2 y.2] :=
        Cmpr.or2 ((cmpStr_ord (S := fun _ => True)).pull Prod.fst fun _ _ => trivial) fun _ _ => ih.pull Prod.snd fun _ _ => trivial
      refine (hp.list.pull Val.ents (T := fun x => True ∧ orInt [cmpInt a.k x.k, cmpStr a.t x.t] = 0) fun _ _ _ _ => trivial).ext fun x y hx hy => ?_
      have := ((head_zero _ _).1 hx.2).1
      rw [cmpT, if_neg (by omega), if_neg (by omega)]

/-- Values that may be stand even just if they are the same with keys in order. -/
theorem cmpV_zero : ∀ (n : Nat) (a b : Val), a.within n = true → b.within n = true → (cmpV n a b = 0 ↔ canon n a = canon n b)
  | 0, a, b, ha, hb => by
    rw [Val.within_0, Bool.and_eq_true] at ha hb
    have h1 := shape_leaf2 ha.1 (by simpa using ha.2)
    have h2 := shape_leaf2 hb.1 (by simpa using hb.2)
    have e : cmpV 0 a b = orInt [cmpInt a.k b.k, cmpStr a.t b.t] := rfl
    rw [e, head_zero, canon, canon]
    cases a; cases b; simp at h1 h2 ⊢; simp [h1, h2]
  | n + 1, a, b, ha, hb => by
    obtain ⟨sa, ka⟩ := within_k ha
    obtain ⟨sb, kb⟩ := within_k hb
    have ih := cmpV_zero n
    rw [cmpV_two, orInt2_zero, head_zero, canon_s, canon_s, cmpT]
    by_cases e : a.k = b.k ∧ a.t = b.t
    · obtain ⟨e1, e2⟩ := e
      simp only [e1, e2, true_and]
      by_cases h7 : b.k < 7
      · have h1 := shape_leaf2 sa (by omega)
        have h2 := shape_leaf2 sb h7
        have h8 : b.k ≠ 8 := by omega
        simp [h7, h8, h1, h2]
      · rw [if_neg h7]
        by_cases k7 : b.k = 7
        · have h1 := shape_list sa (by omega)
          have h2 := shape_list sb k7
          have h8 : b.k ≠ 8 := by omega
          rw [if_pos k7, if_neg h8, if_neg h8, cmpL_zero (δ := Unit) (canon n) _ _ fun x hx y hy => ih x y (ka x hx) (kb y hy)]
          simp [h1, h2]
        · have h8 : b.k = 8 := by
            rcases shape_big sb h7 with h | h
            · exact absurd h k7
            · exact h.1
          rw [if_neg k7, if_pos h8, if_pos h8, cmpL_zero (δ := Unit) (fun e => (e.1, canon n e.2)) _ _ fun x hx y hy => by
            rw [orInt2_zero, cmpStrZ, ih x.2 y.2 (ka _ (ents_mem hx).2) (kb _ (ents_mem hy).2), Prod.mk.injEq]]
          simp only [Val.mk.injEq, true_and]
          constructor
          · intro h
            have f1 := congrArg (List.map Prod.fst) h
            have f2 := congrArg (List.map Prod.snd) h
            simp only [List.map_map] at f1 f2
            exact ⟨f2, f1⟩
          · rintro ⟨f2, f1⟩
            have z : ∀ l : List (ByteArray × Val), l.map (fun e => (e.1, canon n e.2)) = (l.map (·.1)).zip (l.map fun e => canon n e.2) := fun l => by
              rw [List.zip_map', List.map_inj_left]; intro e _; rfl
            rw [z, z, f1, f2]
    · refine ⟨fun h => absurd h.1 e, fun h => absurd ?_ e⟩
      have hk : ∀ v : Val, (if v.k = 8 then (⟨v.k, v.t, v.ents.map fun e => canon n e.2, v.ents.map (·.1)⟩ : Val) else ⟨v.k, v.t, v.l.map (canon n), v.ks⟩).k = v.k := fun v => by split <;> rfl
      have ht : ∀ v : Val, (if v.k = 8 then (⟨v.k, v.t, v.ents.map fun e => canon n e.2, v.ents.map (·.1)⟩ : Val) else ⟨v.k, v.t, v.l.map (canon n), v.ks⟩).t = v.t := fun v => by split <;> rfl
      exact ⟨by rw [← hk a, ← hk b, h], by rw [← ht a, ← ht b, h]⟩
theorem canon_k (n : Nat) (v : Val) : (canon n v).k = v.k := by
  cases n with
  | zero => rfl
  | succ n => rw [canon_s]; split <;> rfl
theorem canon_t (n : Nat) (v : Val) : (canon n v).t = v.t := by
  cases n with
  | zero => rfl
  | succ n => rw [canon_s]; split <;> rfl
/-- How the kids of the form in order come of the kids. -/
theorem canon_kids (n : Nat) (v : Val) (h : v.within (n + 1) = true) : (canon (n + 1) v).l.Perm (v.l.map (canon n)) := by
  obtain ⟨sh, _⟩ := within_k h
  rw [canon_s]
  split
  · rename_i h8
    obtain ⟨_, hl, _⟩ := shape_map sh h8
    show (v.ents.map fun e => canon n e.2).Perm _
    have := (ents_perm v).map fun e => canon n e.2
    have e2 : (v.ks.zip v.l).map (fun e => canon n e.2) = v.l.map (canon n) := by
      have : (v.ks.zip v.l).map Prod.snd = v.l := List.map_snd_zip (by omega)
      calc (v.ks.zip v.l).map (fun e => canon n e.2) = ((v.ks.zip v.l).map Prod.snd).map (canon n) := by rw [List.map_map]; rfl
        _ = _ := by rw [this]
    rw [← e2]; exact this
  · exact List.Perm.refl _
theorem sum_perm {l m : List Nat} (h : l.Perm m) : l.sum = m.sum := h.sum_nat
theorem maxL_perm {l m : List Nat} (h : l.Perm m) : maxL l = maxL m := by
  induction h with
  | nil => rfl
  | cons x _ ih => simp only [maxL, ih]
  | swap x y l => simp only [maxL]; omega
  | trans _ _ h1 h2 => exact h1.trans h2
theorem canon_size : ∀ (n : Nat) (v : Val), v.within n = true → (canon n v).size = v.size
  | 0, _, _ => rfl
  | n + 1, v, h => by
    rw [Val.size_eq, Val.size_eq v, sum_perm ((canon_kids n v h).map Val.size), List.map_map]
    congr 2
    exact List.map_congr_left fun y hy => canon_size n y ((within_k h).2 y hy)
theorem canon_deep : ∀ (n : Nat) (v : Val), v.within n = true → (canon n v).deep = v.deep
  | 0, _, _ => rfl
  | n + 1, v, h => by
    rw [Val.deep_eq, Val.deep_eq v, canon_k, maxL_perm ((canon_kids n v h).map Val.deep), List.map_map]
    have : v.l.map (Val.deep ∘ canon n) = v.l.map Val.deep := List.map_congr_left fun y hy => canon_deep n y ((within_k h).2 y hy)
    rw [this]
end Go.Proofs.Ytmhkacafilpliaa

namespace Go.Proofs.Ytmhkacafilpliaa
open Go.RowKit Go.Sort

/-- Where a turned map's entries come from. -/
def turnAt (by_ n i : Nat) : Nat := if by_ % 2 = 0 then n - 1 - i else (i + by_ / 2) % n
def turnIdx (by_ n : Nat) : List Nat := (List.range n).map (turnAt by_ n)
def turnL {α : Type} (by_ : Nat) (l : List α) : List α := (turnIdx by_ l.length).filterMap (l[·]?)
def Val.turned (by_ : Nat) (x : Val) : Val :=
  if x.k = 8 then ⟨x.k, x.t, turnL by_ (x.l.map (Val.turned by_)), turnL by_ x.ks⟩ else ⟨x.k, x.t, x.l.map (Val.turned by_), x.ks⟩
termination_by SizeOf.sizeOf x
decreasing_by all_goals (rename_i y h; exact Val.lt h)
theorem Val.turned_eq (by_ : Nat) (x : Val) : x.turned by_ = if x.k = 8 then ⟨x.k, x.t, turnL by_ (x.l.map (Val.turned by_)), turnL by_ x.ks⟩ else ⟨x.k, x.t, x.l.map (Val.turned by_), x.ks⟩ := by rw [Val.turned]
theorem turnAt_lt {by_ n i : Nat} (h : i < n) : turnAt by_ n i < n := by
  unfold turnAt; split
  · omega
  · exact Nat.mod_lt _ (by omega)
theorem mod_inj {n i j k : Nat} (hi : i < n) (hj : j < n) (h : (i + k) % n = (j + k) % n) : i = j := by
  have hm : k % n < n := Nat.mod_lt _ (by omega)
  rw [Nat.add_mod, Nat.add_mod j, Nat.mod_eq_of_lt hi, Nat.mod_eq_of_lt hj] at h
  generalize k % n = r at *
  by_cases h1 : i + r < n <;> by_cases h2 : j + r < n
  · rw [Nat.mod_eq_of_lt h1, Nat.mod_eq_of_lt h2] at h; omega
  · rw [Nat.mod_eq_of_lt h1, Nat.mod_eq_sub_mod (by omega), Nat.mod_eq_of_lt (by omega)] at h; omega
  · rw [Nat.mod_eq_of_lt h2, Nat.mod_eq_sub_mod (by omega), Nat.mod_eq_of_lt (by omega)] at h; omega
  · rw [Nat.mod_eq_sub_mod (by omega), Nat.mod_eq_of_lt (by omega), Nat.mod_eq_sub_mod (a := j + r) (by omega), Nat.mod_eq_of_lt (by omega)] at h; omega
theorem turnIdx_perm (by_ n : Nat) : (turnIdx by_ n).Perm (List.range n) := by
  have hn : (turnIdx by_ n).Nodup := by
    unfold turnIdx
    refine List.Pairwise.map _ (fun a b hab => hab) ?_
    have := List.nodup_range (n := n)
    refine List.Pairwise.imp_of_mem (fun {a b} ha hb hab e => hab ?_) this
    have ha := List.mem_range.1 ha; have hb := List.mem_range.1 hb
    unfold turnAt at e
    split at e
    · omega
    · exact mod_inj ha hb e
  have hs : ∀ i ∈ turnIdx by_ n, i ∈ List.range n := fun i hi => by
    obtain ⟨j, hj, rfl⟩ := List.mem_map.1 hi
    exact List.mem_range.2 (turnAt_lt (List.mem_range.1 hj))
  refine (List.perm_ext_iff_of_nodup hn List.nodup_range).2 fun j => ⟨hs j, fun hj => Classical.byContradiction fun hno => ?_⟩
  have := (List.nodup_cons.2 ⟨hno, hn⟩).length_le_of_subset (l₂ := List.range n) fun i hi => by
    rcases List.mem_cons.1 hi with rfl | hi
    · exact hj
    · exact hs i hi
  simp [turnIdx] at this
  omega
theorem range_get {α : Type} (l : List α) : (List.range l.length).filterMap (l[·]?) = l := by
  induction l with
  | nil => rfl
  | cons x l ih =>
    rw [List.length_cons, List.range_succ_eq_map, List.filterMap_cons]
    simp only [List.getElem?_cons_zero, List.filterMap_map]
    congr 1
theorem turnL_perm {α : Type} (by_ : Nat) (l : List α) : (turnL by_ l).Perm l := by
  have := (turnIdx_perm by_ l.length).filterMap (l[·]?)
  rw [range_get] at this
  exact this
theorem turnL_len {α : Type} (by_ : Nat) (l : List α) : (turnL by_ l).length = l.length := (turnL_perm by_ l).length_eq
theorem turnL_map {α β : Type} (f : α → β) (by_ : Nat) (l : List α) : turnL by_ (l.map f) = (turnL by_ l).map f := by
  unfold turnL
  rw [List.length_map, List.map_filterMap]
  congr 1
  funext i
  simp
theorem turnL_zip {α β : Type} (by_ : Nat) (k : List α) (l : List β) (h : k.length = l.length) : (turnL by_ k).zip (turnL by_ l) = turnL by_ (k.zip l) := by
  have e : ∀ is : List Nat, (∀ i ∈ is, i < l.length) → (is.filterMap (k[·]?)).zip (is.filterMap (l[·]?)) = is.filterMap ((k.zip l)[·]?) := by
    intro is
    induction is with
    | nil => intro _; rfl
    | cons i is ih =>
      intro hi
      have h1 : i < l.length := hi i (by simp)
      have h2 : i < k.length := by omega
      have h3 : i < (k.zip l).length := by simp; omega
      simp only [List.filterMap_cons, List.getElem?_eq_getElem h1, List.getElem?_eq_getElem h2, List.getElem?_eq_getElem h3, List.zip_cons_cons, List.getElem_zip]
      rw [ih fun j hj => hi j (by simp [hj])]
  unfold turnL
  rw [h, List.length_zip, h, Nat.min_self]
  refine e _ fun i hi => ?_
  exact List.mem_range.1 ((turnIdx_perm by_ _).subset hi)
theorem ents_turned (by_ : Nat) {v : Val} (h8 : v.k = 8) (hl : v.ks.length = v.l.length) (hn : v.ks.Nodup) : (v.turned by_).ents = v.ents.map fun e => (e.1, e.2.turned by_) := by
  have hp : (v.turned by_).ents.Perm (v.ents.map fun e => (e.1, e.2.turned by_)) := by
    refine (ents_perm _).trans ?_
    rw [Val.turned_eq, if_pos h8]
    show ((turnL by_ v.ks).zip (turnL by_ (v.l.map (Val.turned by_)))).Perm _
    rw [turnL_zip _ _ _ (by simpa using hl)]
    refine (turnL_perm _ _).trans ?_
    have := (ents_perm v).map fun e => (e.1, e.2.turned by_)
    refine List.Perm.trans ?_ this.symm
    rw [List.zip_map_right]
    exact List.Perm.refl _
  refine sorted_eq hp (fun a ha b hb e => ?_) (ents_sorted _) ?_
  · have ha := hp.subset ha; have hb := hp.subset hb
    obtain ⟨a', ha', rfl⟩ := List.mem_map.1 ha
    obtain ⟨b', hb', rfl⟩ := List.mem_map.1 hb
    rw [ents_key hn a' ha' b' hb' e]
  · exact List.Pairwise.map _ (fun a b h => h) (ents_sorted v)
theorem turned_k (by_ : Nat) (v : Val) : (v.turned by_).k = v.k := by rw [Val.turned_eq]; split <;> rfl
theorem turned_t (by_ : Nat) (v : Val) : (v.turned by_).t = v.t := by rw [Val.turned_eq]; split <;> rfl
theorem turned_l (by_ : Nat) (v : Val) : (v.turned by_).l.Perm (v.l.map (Val.turned by_)) := by
  rw [Val.turned_eq]; split
  · exact turnL_perm _ _
  · exact List.Perm.refl _
theorem turned_ks (by_ : Nat) (v : Val) : (v.turned by_).ks.Perm v.ks := by
  rw [Val.turned_eq]; split
  · exact turnL_perm _ _
  · exact List.Perm.refl _
/-- What a shape asks hangs on kind, text, how many parts, which keys. -/
theorem shape_of {v w : Val} (hk : w.k = v.k) (ht : w.t = v.t) (hl : w.l.length = v.l.length) (hs : w.ks.Perm v.ks) : w.shape = v.shape := by
  unfold Val.shape
  rw [hk, ht, hl, hs.length_eq, show decide w.ks.Nodup = decide v.ks.Nodup from decide_eq_decide.2 hs.nodup_iff]
theorem turned_shape (by_ : Nat) (v : Val) : (v.turned by_).shape = v.shape :=
  shape_of (turned_k _ _) (turned_t _ _) (by rw [(turned_l by_ v).length_eq, List.length_map]) (turned_ks _ _)
theorem turned_within (by_ : Nat) : ∀ (n : Nat) (v : Val), v.within n = true → (v.turned by_).within n = true
  | 0, v, h => by
    rw [Val.within_0, Bool.and_eq_true] at h ⊢
    rw [turned_shape, turned_k]; exact h
  | n + 1, v, h => by
    obtain ⟨sh, hk⟩ := within_k h
    rw [Val.within_s, turned_shape, sh, Bool.true_and, List.all_eq_true]
    intro y hy
    obtain ⟨z, hz, rfl⟩ := List.mem_map.1 ((turned_l by_ v).subset hy)
    exact turned_within by_ n z (hk z hz)
theorem turned_leaf (by_ : Nat) {v : Val} (h : v.l = []) (hs : v.ks = []) : v.turned by_ = v := by
  rw [Val.turned_eq, h, hs]
  cases v
  simp at h hs
  subst h hs
  simp [turnL, turnIdx]
theorem canon_turned (by_ : Nat) : ∀ (n : Nat) (v : Val), v.within n = true → canon n (v.turned by_) = canon n v
  | 0, v, h => by
    rw [Val.within_0, Bool.and_eq_true] at h
    have := shape_leaf2 h.1 (by simpa using h.2)
    rw [turned_leaf by_ this.1 this.2]
  | n + 1, v, h => by
    obtain ⟨sh, hk⟩ := within_k h
    rw [canon_s, canon_s, turned_k]
    split
    · rename_i h8
      obtain ⟨_, hl, hn⟩ := shape_map sh h8
      rw [turned_t, ents_turned by_ h8 hl hn, List.map_map, List.map_map]
      simp only [Val.mk.injEq, true_and]
      refine ⟨List.map_congr_left fun e he => canon_turned by_ n e.2 (hk _ (ents_mem he).2), rfl⟩
    · rename_i h8
      rw [turned_t, Val.turned_eq, if_neg h8, List.map_map]
      simp only [Val.mk.injEq, true_and, and_true]
      exact List.map_congr_left fun y hy => canon_turned by_ n y (hk y hy)

/-- One node of a value is another one. -/
inductive Chg : Val → Val → Prop
  | str {v : Val} (h : v.k = 3) (t : ByteArray) (ht : t.size = v.t.size + 1) : Chg v ⟨3, t, [], []⟩
  | root {v : Val} (h : v.k ≠ 3) (t : ByteArray) (ht : t.size ≤ 1) : Chg v ⟨3, t, [], []⟩
  | kid {v y z : Val} (i : Nat) (hy : v.l[i]? = some y) (h : Chg y z) : Chg v ⟨v.k, v.t, v.l.set i z, v.ks⟩
theorem leaf_within (n : Nat) (t : ByteArray) : Val.within n ⟨3, t, [], []⟩ = true := by
  cases n with
  | zero => rw [Val.within_0]; simp [Val.shape]
  | succ n => rw [Val.within_s]; simp [Val.shape]
theorem chg_within : ∀ (n : Nat) {v o : Val}, Chg v o → v.within n = true → o.within n = true
  | n, _, _, .str _ t _, _ => leaf_within n t
  | n, _, _, .root _ t _, _ => leaf_within n t
  | 0, v, _, .kid i hy _, h => by
    rw [Val.within_0, Bool.and_eq_true] at h
    rw [(shape_leaf2 h.1 (by simpa using h.2)).1] at hy
    simp at hy
  | n + 1, v, _, .kid (z := z) i hy hc, h => by
    obtain ⟨sh, hk⟩ := within_k h
    have hs : Val.shape ⟨v.k, v.t, v.l.set i z, v.ks⟩ = true := (shape_of (v := v) (w := ⟨v.k, v.t, v.l.set i z, v.ks⟩) rfl rfl (by simp) (List.Perm.refl _)).trans sh
    rw [Val.within_s, hs, Bool.true_and, List.all_eq_true]
    intro x hx
    rcases List.mem_or_eq_of_mem_set hx with hx | rfl
    · exact hk x hx
    · exact chg_within n hc (hk _ (List.mem_of_getElem? hy))
/-- The parts of a map, by its keys' order. -/
theorem key_val {β : Type} {ks : List ByteArray} {l l' : List β} {e e' : List (ByteArray × β)} (hn : ks.Nodup) (hl : ks.length = l.length) (hl' : ks.length = l'.length) (h1 : e.Perm (ks.zip l)) (h2 : e'.Perm (ks.zip l')) {γ : Type} (f : β → γ)
    (hf : e.map (fun x => (x.1, f x.2)) = e'.map fun x => (x.1, f x.2)) (i : Nat) (x y : β) (hx : l[i]? = some x) (hy : l'[i]? = some y) : f x = f y := by
  obtain ⟨hi, rfl⟩ := List.getElem?_eq_some_iff.1 hx
  obtain ⟨hi', rfl⟩ := List.getElem?_eq_some_iff.1 hy
  have hk : i < ks.length := by omega
  have m1 : (ks[i], l[i]) ∈ e := h1.symm.subset (List.mem_iff_getElem.2 ⟨i, by simp; omega, by simp⟩)
  have m3 : (ks[i], f l[i]) ∈ e'.map fun x => (x.1, f x.2) := by
    rw [← hf]; exact List.mem_map.2 ⟨_, m1, rfl⟩
  obtain ⟨q, hq, e1⟩ := List.mem_map.1 m3
  have m4 := h2.subset hq
  obtain ⟨j, hj, rfl⟩ := List.mem_iff_getElem.1 m4
  simp only [List.length_zip] at hj
  simp only [List.getElem_zip, Prod.mk.injEq] at e1
  have : j = i := (List.getElem_inj hn).1 e1.1
  subst this
  exact e1.2.symm
theorem chg_canon : ∀ (n : Nat) {v o : Val}, Chg v o → v.within n = true → canon n v ≠ canon n o
  | n, v, _, .str h t ht, _, e => by
    have := congrArg Val.t e
    rw [canon_t, canon_t] at this
    rw [this] at ht
    simp at ht
  | n, v, _, .root h t _, _, e => by
    have := congrArg Val.k e
    rw [canon_k, canon_k] at this
    exact h this
  | 0, v, _, .kid i hy _, h, _ => by
    rw [Val.within_0, Bool.and_eq_true] at h
    rw [(shape_leaf2 h.1 (by simpa using h.2)).1] at hy
    simp at hy
  | n + 1, v, _, .kid (y := y) (z := z) i hy hc, h, e => by
    obtain ⟨sh, hk⟩ := within_k h
    have ne := chg_canon n hc (hk _ (List.mem_of_getElem? hy))
    have hi := (List.getElem?_eq_some_iff.1 hy).1
    have hz : (v.l.set i z)[i]? = some z := by simp [hi]
    rw [canon_s, canon_s] at e
    dsimp only at e
    by_cases h8 : v.k = 8
    · obtain ⟨_, hl, hn⟩ := shape_map sh h8
      rw [if_pos h8, if_pos h8] at e
      simp only [Val.mk.injEq, true_and] at e
      refine ne (key_val hn hl (by simpa using hl) (ents_perm v) (ents_perm ⟨v.k, v.t, v.l.set i z, v.ks⟩) (canon n) ?_ i y z hy hz)
      have zz : ∀ l : List (ByteArray × Val), l.map (fun e => (e.1, canon n e.2)) = (l.map (·.1)).zip (l.map fun e => canon n e.2) := fun l => by
        rw [List.zip_map', List.map_inj_left]; intro e _; rfl
      rw [zz, zz, e.1, e.2]
    · rw [if_neg h8, if_neg h8] at e
      simp only [Val.mk.injEq, true_and, and_true] at e
      have := congrArg (·[i]?) e
      simp only [List.getElem?_map, hy, hz, Option.map_some, Option.some.injEq] at this
      exact ne this
theorem sum_set {α : Type} (f : α → Nat) : ∀ (l : List α) (i : Nat) (y z : α), l[i]? = some y → f z ≤ f y + 1 → ((l.set i z).map f).sum ≤ (l.map f).sum + 1
  | [], _, _, _, h, _ => by simp at h
  | x :: l, 0, y, z, h, hf => by
    simp at h; subst h
    simp only [List.set_cons_zero, List.map_cons, List.sum_cons]; omega
  | x :: l, i + 1, y, z, h, hf => by
    have := sum_set f l i y z (by simpa using h) hf
    simp only [List.set_cons_succ, List.map_cons, List.sum_cons]; omega
theorem chg_w : ∀ {v o : Val}, Chg v o → o.w ≤ v.w + 1 := by
  intro v o h
  induction h with
  | str h t ht => rw [Val.w_eq, Val.w_eq (_ : Val)]; simp; omega
  | @root v h t ht => have := v.w_pos; rw [Val.w_eq]; simp; omega
  | @kid v y z i hy h ih =>
    have := sum_set Val.w v.l i y z hy ih
    rw [Val.w_eq, Val.w_eq v]; simp only; omega
/-- A comparison tells -1, 0 or 1. -/
def Sgn (x : Int) : Prop := x = -1 ∨ x = 0 ∨ x = 1
theorem sgn_int (a b : Int) : Sgn (cmpInt a b) := by unfold cmpInt Sgn; split <;> (try split) <;> omega
theorem sgn_str (a b : ByteArray) : Sgn (cmpStr a b) := by rw [cmpStr_spec]; unfold Sgn; split <;> (try split) <;> omega
theorem sgn_or {a b : Int} (h1 : Sgn a) (h2 : Sgn b) : Sgn (orInt [a, b]) := by
  unfold Sgn at *
  simp only [orInt]
  split
  · split <;> omega
  · exact h1
theorem sgn_list {α : Type} {f : α → α → Int} (h : ∀ a b, Sgn (f a b)) : ∀ l m : List α, Sgn (cmpL f l m)
  | [], [] => .inr (.inl rfl)
  | [], _ :: _ => .inl rfl
  | _ :: _, [] => .inr (.inr rfl)
  | x :: l, y :: m => by
    simp only [cmpL]
    split
    · exact sgn_list h l m
    · exact h x y
theorem sgn_cmp : ∀ (n : Nat) (a b : Val), Sgn (cmpV n a b)
  | 0, a, b => sgn_or (sgn_int _ _) (sgn_str _ _)
  | n + 1, a, b => by
    rw [cmpV_two]
    refine sgn_or (sgn_or (sgn_int _ _) (sgn_str _ _)) ?_
    unfold cmpT
    split
    · exact .inr (.inl rfl)
    split
    · exact sgn_list (sgn_cmp n) _ _
    · exact sgn_list (fun x y => sgn_or (sgn_str _ _) (sgn_cmp n _ _)) _ _
end Go.Proofs.Ytmhkacafilpliaa
