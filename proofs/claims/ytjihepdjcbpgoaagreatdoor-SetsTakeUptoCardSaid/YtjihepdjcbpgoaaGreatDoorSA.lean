/-
  What values.sign writes, as a plain function: the same text just of the same values. Plain; condition: the values may be.
-/
import Derived.Test.YtjihepdjcbpgoaaGreatDoorO3
import Derived.Lib.ItoaLen
import Derived.Lib.ItoaMem
namespace Go.Proofs.YtjihepdjcbpgoaaGreatDoor
open Go.RowKit Go.Sort

/-- What is told of a value ahead of its parts. -/
def signH (v : Val) : List UInt8 := Lib.itoa v.k ++ [58] ++ Lib.itoa (v.t.size : Int) ++ [58] ++ v.t.data.toList ++ Lib.itoa (v.l.length : Int) ++ [40]
/-- An entry's key, as it is signed. -/
def keyH (s : ByteArray) : List UInt8 := Lib.itoa (s.size : Int) ++ [58] ++ s.data.toList
/-- A value's key, n lists and maps deep at most. -/
def signV : Nat → Val → List UInt8
  | 0, v => signH v
  | n + 1, v => signH v ++ if v.k = 8 then v.ents.flatMap fun e => keyH e.1 ++ signV n e.2 else v.l.flatMap (signV n)
theorem signV_s (n : Nat) (v : Val) : signV (n + 1) v = signH v ++ if v.k = 8 then v.ents.flatMap fun e => keyH e.1 ++ signV n e.2 else v.l.flatMap (signV n) := by rw [signV]

theorem decd_digits (u : Nat) : ∀ c ∈ Lib.decDigits u, 48 ≤ c.toNat ∧ c.toNat ≤ 57 := by
  induction u using Nat.strongRecOn with
  | _ u ih =>
    by_cases h : u < 10
    · rw [Lib.decDigits_one h]
      intro c hc
      simp only [List.mem_cons, List.not_mem_nil, or_false] at hc
      subst hc
      simp; omega
    · rw [Lib.decDigits, dif_neg h]
      intro c hc
      rcases List.mem_append.1 hc with hc | hc
      · exact ih (u / 10) (by omega) c hc
      · simp only [List.mem_cons, List.not_mem_nil, or_false] at hc
        subst hc
        simp; omega
def decVal (l : List UInt8) : Nat := l.foldl (fun a c => 10 * a + (c.toNat - 48)) 0
theorem decVal_dec (u : Nat) : decVal (Lib.decDigits u) = u := by
  induction u using Nat.strongRecOn with
  | _ u ih =>
    by_cases h : u < 10
    · rw [Lib.decDigits_one h]
      have e : (UInt8.ofNat (48 + u)).toNat = 48 + u := by simp; omega
      show 10 * 0 + ((UInt8.ofNat (48 + u)).toNat - 48) = u
      rw [e]; omega
    · rw [Lib.decDigits, dif_neg h]
      have e : (UInt8.ofNat (48 + u % 10)).toNat = 48 + u % 10 := by simp; omega
      have := ih (u / 10) (by omega)
      unfold decVal at this ⊢
      rw [List.foldl_append, this]
      show 10 * (u / 10) + ((UInt8.ofNat (48 + u % 10)).toNat - 48) = u
      rw [e]; omega
theorem decd_tw (u : Nat) (c : UInt8) (hc : ¬ (48 ≤ c.toNat ∧ c.toNat ≤ 57)) (r : List UInt8) : (Lib.decDigits u ++ c :: r).takeWhile (fun x => decide (48 ≤ x.toNat ∧ x.toNat ≤ 57)) = Lib.decDigits u := by
  have : ∀ l : List UInt8, (∀ x ∈ l, 48 ≤ x.toNat ∧ x.toNat ≤ 57) → (l ++ c :: r).takeWhile (fun x => decide (48 ≤ x.toNat ∧ x.toNat ≤ 57)) = l := fun l => by
    induction l with
    | nil => intro _; rw [List.nil_append, List.takeWhile_cons_of_neg]; simpa using hc
    | cons y l ih =>
      intro h
      rw [List.cons_append, List.takeWhile_cons_of_pos (by simpa using h y (by simp)), ih fun x hx => h x (by simp [hx])]
  exact this _ (decd_digits u)
/-- A number and a sign behind it are read again. -/
theorem num_inj {u v : Nat} {c c' : UInt8} (hc : ¬ (48 ≤ c.toNat ∧ c.toNat ≤ 57)) (hc' : ¬ (48 ≤ c'.toNat ∧ c'.toNat ≤ 57)) {r r' : List UInt8} (h : Lib.itoa (u : Int) ++ c :: r = Lib.itoa (v : Int) ++ c' :: r') : u = v ∧ c :: r = c' :: r' := by
  rw [Lib.itoa_nonneg, Lib.itoa_nonneg] at h
  have h1 := congrArg (List.takeWhile (fun x => decide (48 ≤ x.toNat ∧ x.toNat ≤ 57))) h
  rw [decd_tw u c hc, decd_tw v c' hc'] at h1
  have e := congrArg decVal h1
  rw [decVal_dec, decVal_dec] at e
  subst e
  exact ⟨rfl, List.append_cancel_left h⟩
theorem str_inj {s t : ByteArray} (hs : s.size = t.size) {r r' : List UInt8} (h : s.data.toList ++ r = t.data.toList ++ r') : s = t ∧ r = r' := by
  have := List.append_inj h (by rw [ba_size, ba_size, hs])
  exact ⟨ByteArray.ext (Array.ext' this.1), this.2⟩
theorem head_inj {a b : Val} (ha : 0 ≤ a.k) (hb : 0 ≤ b.k) {r r' : List UInt8} (h : signH a ++ r = signH b ++ r') : a.k = b.k ∧ a.t = b.t ∧ a.l.length = b.l.length ∧ r = r' := by
  obtain ⟨p, hp⟩ := Int.eq_ofNat_of_zero_le ha
  obtain ⟨q, hq⟩ := Int.eq_ofNat_of_zero_le hb
  simp only [signH, List.append_assoc, List.cons_append, List.nil_append, hp, hq] at h
  obtain ⟨e1, h⟩ := num_inj (by decide) (by decide) h
  obtain ⟨e2, h⟩ := num_inj (by decide) (by decide) (List.cons.inj h).2
  obtain ⟨e3, h⟩ := str_inj e2 (List.cons.inj h).2
  obtain ⟨e4, h⟩ := num_inj (by decide) (by decide) h
  exact ⟨by rw [hp, hq, e1], e3, e4, (List.cons.inj h).2⟩
theorem keyH_inj {s t : ByteArray} {r r' : List UInt8} (h : keyH s ++ r = keyH t ++ r') : s = t ∧ r = r' := by
  simp only [keyH, List.append_assoc, List.cons_append, List.nil_append] at h
  obtain ⟨e1, h⟩ := num_inj (by decide) (by decide) h
  exact str_inj e1 (List.cons.inj h).2
theorem flat_inj {α γ : Type} (f : α → List UInt8) (k : α → γ) : ∀ (l m : List α), l.length = m.length → (∀ a ∈ l, ∀ b ∈ m, ∀ r r', f a ++ r = f b ++ r' → k a = k b ∧ r = r') → ∀ r r', l.flatMap f ++ r = m.flatMap f ++ r' → l.map k = m.map k ∧ r = r'
  | [], [], _, _, r, r', h => ⟨rfl, by simpa using h⟩
  | [], _ :: _, hl, _, _, _, _ => by simp at hl
  | _ :: _, [], hl, _, _, _, _ => by simp at hl
  | x :: l, y :: m, hl, hi, r, r', h => by
    rw [List.flatMap_cons, List.flatMap_cons, List.append_assoc, List.append_assoc] at h
    obtain ⟨e1, h⟩ := hi x (by simp) y (by simp) _ _ h
    obtain ⟨e2, h⟩ := flat_inj f k l m (by simpa using hl) (fun a ha b hb => hi a (by simp [ha]) b (by simp [hb])) r r' h
    exact ⟨by rw [List.map_cons, List.map_cons, e1, e2], h⟩
theorem shape_pos {v : Val} (h : v.shape = true) : 0 ≤ v.k := by
  unfold Val.shape at h
  repeat' split at h
  all_goals first | omega | (simp at h)
/-- A signed value is read again. -/
theorem sign_inj : ∀ (n : Nat) (a b : Val), a.within n = true → b.within n = true → ∀ r r', signV n a ++ r = signV n b ++ r' → canon n a = canon n b ∧ r = r'
  | 0, a, b, ha, hb, r, r', h => by
    rw [signV, signV] at h
    obtain ⟨e1, e2, -, e4⟩ := head_inj (shape_pos (within_sh ha)) (shape_pos (within_sh hb)) h
    have la := shape_leaf2 (within_sh ha) (by rw [Val.within_0, Bool.and_eq_true] at ha; simpa using ha.2)
    have lb := shape_leaf2 (within_sh hb) (by rw [Val.within_0, Bool.and_eq_true] at hb; simpa using hb.2)
    refine ⟨?_, e4⟩
    rw [canon, canon]
    cases a; cases b
    simp only at e1 e2 la lb
    rw [e1, e2, la.1, la.2, lb.1, lb.2]
  | n + 1, a, b, ha, hb, r, r', h => by
    obtain ⟨sa, ka⟩ := within_k ha
    obtain ⟨sb, kb⟩ := within_k hb
    rw [signV_s, signV_s, List.append_assoc, List.append_assoc] at h
    obtain ⟨ek, et, el, h⟩ := head_inj (shape_pos sa) (shape_pos sb) h
    rw [canon_s, canon_s, ek, et]
    by_cases h8 : b.k = 8
    · rw [if_pos (ek.trans h8), if_pos h8] at h
      have l1 := ents_len (shape_map sa (ek.trans h8)).2.1
      have l2 := ents_len (shape_map sb h8).2.1
      obtain ⟨e, h⟩ := flat_inj (fun e : ByteArray × Val => keyH e.1 ++ signV n e.2) (fun e => (e.1, canon n e.2)) a.ents b.ents (by rw [l1, l2, el]) (fun x hx y hy r r' h => by
        rw [List.append_assoc, List.append_assoc] at h
        obtain ⟨e1, h⟩ := keyH_inj h
        obtain ⟨e2, h⟩ := sign_inj n x.2 y.2 (ka _ (ents_mem hx).2) (kb _ (ents_mem hy).2) _ _ h
        exact ⟨by rw [e1, e2], h⟩) _ _ h
      refine ⟨?_, h⟩
      have e1 := congrArg (List.map Prod.fst) e
      have e2 := congrArg (List.map Prod.snd) e
      simp only [List.map_map] at e1 e2
      rw [if_pos h8, if_pos h8]
      simp only [Val.mk.injEq, true_and]
      exact ⟨e2, e1⟩
    · rw [if_neg (fun h => h8 (ek.symm.trans h)), if_neg h8] at h
      obtain ⟨e, h⟩ := flat_inj (signV n) (canon n) a.l b.l el (fun x hx y hy r r' h => sign_inj n x y (ka x hx) (kb y hy) _ _ h) _ _ h
      refine ⟨?_, h⟩
      have hks : ∀ v : Val, v.shape = true → ¬ v.k = 8 → v.ks = [] := fun v hv h8 => by
        by_cases h7 : v.k < 7
        · exact (shape_leaf2 hv h7).2
        · rcases shape_big hv h7 with h | h
          · exact (shape_list hv h).2
          · exact absurd h.1 h8
      rw [if_neg h8, if_neg h8, e, hks a sa (by omega), hks b sb h8]
theorem sign_canon : ∀ (n : Nat) (a b : Val), a.within n = true → b.within n = true → canon n a = canon n b → signV n a = signV n b
  | 0, a, b, _, _, e => by rw [canon, canon] at e; rw [e]
  | n + 1, a, b, ha, hb, e => by
    obtain ⟨sa, ka⟩ := within_k ha
    obtain ⟨sb, kb⟩ := within_k hb
    have ek : a.k = b.k := by have := congrArg Val.k e; rwa [canon_k, canon_k] at this
    have et : a.t = b.t := by have := congrArg Val.t e; rwa [canon_t, canon_t] at this
    have el : a.l.length = b.l.length := by
      have := congrArg (fun v => v.l.length) e
      simp only [(canon_kids n a ha).length_eq, (canon_kids n b hb).length_eq, List.length_map] at this
      exact this
    rw [canon_s, canon_s] at e
    rw [signV_s, signV_s, signH, signH, ek, et, el]
    by_cases h8 : b.k = 8
    · rw [if_pos (ek.trans h8), if_pos h8] at e
      simp only [Val.mk.injEq] at e
      have := map_of_key (g := fun e : ByteArray × Val => keyH e.1 ++ signV n e.2) (ents_pairs e.2.2.2 e.2.2.1) fun x hx y hy hxy => by
        simp only [Prod.mk.injEq] at hxy
        rw [hxy.1, sign_canon n x.2 y.2 (ka _ (ents_mem hx).2) (kb _ (ents_mem hy).2) hxy.2]
      rw [if_pos h8, if_pos h8, List.flatMap_def, List.flatMap_def, this]
    · rw [if_neg (fun h => h8 (ek.symm.trans h)), if_neg h8] at e
      simp only [Val.mk.injEq] at e
      have := map_of_key (g := signV n) e.2.2.1 fun x hx y hy hxy => sign_canon n x y (ka x hx) (kb y hy) hxy
      rw [if_neg h8, if_neg h8, List.flatMap_def, List.flatMap_def, this]

/-- A value's key. -/
def Val.key (v : Val) : ByteArray := if v.may then ⟨(signV 256 v).toArray⟩ else ⟨#[]⟩
theorem itoa_pos (n : Int) : Lib.itoa n ≠ [] := by
  unfold Lib.itoa
  split
  · simp
  · rw [Lib.decDigits]; split <;> simp
theorem sign_pos (n : Nat) (v : Val) : signV n v ≠ [] := by
  have : signH v ≠ [] := by simp [signH]
  cases n with
  | zero => rw [signV]; exact this
  | succ n => rw [signV_s]; exact fun h => this (List.append_eq_nil_iff.1 h).1
theorem key_empty {v : Val} : v.key = ⟨#[]⟩ ↔ v.may = false := by
  unfold Val.key
  cases h : v.may with
  | false => simp
  | true =>
    rw [if_pos rfl]
    refine ⟨fun h => ?_, fun h => by cases h⟩
    have := congrArg (fun b : ByteArray => b.data.toList) h
    exact absurd this (by simpa using sign_pos 256 v)
/-- The same key just of the same values. -/
theorem key_same {a b : Val} (ha : a.may = true) (hb : b.may = true) : a.key = b.key ↔ cmpV 256 a b = 0 := by
  have wa : a.within 256 = true := by rw [Val.may_eq]; exact ha
  have wb : b.within 256 = true := by rw [Val.may_eq]; exact hb
  rw [cmpV_zero 256 a b wa wb, Val.key, Val.key, if_pos ha, if_pos hb]
  constructor
  · intro h
    have := congrArg (fun b : ByteArray => b.data.toList) h
    replace this : signV 256 a = signV 256 b := by simpa using this
    exact (sign_inj 256 a b wa wb [] [] (by rw [this])).1
  · intro h
    rw [sign_canon 256 a b wa wb h]

theorem decd_len {u : Nat} (h : u ≤ 9223372036854775807) : (Lib.itoa (u : Int)).length ≤ 21 := Lib.itoa_length_le u (by omega) (by omega)
theorem signH_len (v : Val) (hk : 0 ≤ v.k) (hk2 : v.k ≤ 255) (hw : v.w ≤ 1048576) : (signH v).length ≤ 66 + v.t.size := by
  have h1 := Lib.itoa_length_le v.k (by omega) (by omega)
  have h2 := v.w_t
  have h3 := v.w_l
  have h4 : (Lib.itoa (v.t.size : Int)).length ≤ 21 := decd_len (by omega)
  have h5 : (Lib.itoa (v.l.length : Int)).length ≤ 21 := decd_len (by omega)
  have h6 := ba_size v.t
  simp only [signH, List.length_append, List.length_singleton]
  omega
theorem keyH_len (s : ByteArray) (h : s.size ≤ 1048576) : (keyH s).length ≤ 22 + s.size := by
  have h1 : (Lib.itoa (s.size : Int)).length ≤ 21 := decd_len (by omega)
  have h2 := ba_size s
  simp only [keyH, List.length_append, List.length_singleton]
  omega
theorem flat_sum {α : Type} (f : α → List UInt8) (l : List α) : (l.flatMap f).length = (l.map fun x => (f x).length).sum := by
  induction l with
  | nil => rfl
  | cons x l ih => simp [ih]
theorem sum_part {α : Type} (f : α → Nat) (l : List α) (k : Nat) : ((l.take k).map f).sum ≤ (l.map f).sum := by
  have h2 := congrArg (fun l => (l.map f).sum) (List.take_append_drop k l)
  simp only [List.map_append, List.sum_append_nat] at h2
  omega
theorem sum_part1 {α : Type} (f : α → Nat) {l : List α} {k : Nat} {x : α} (hk : l[k]? = some x) : ((l.take k).map f).sum + f x ≤ (l.map f).sum := by
  have h := sum_part f l (k + 1)
  rw [List.take_add_one, hk, List.map_append, List.sum_append_nat] at h
  simpa using h
end Go.Proofs.YtjihepdjcbpgoaaGreatDoor
