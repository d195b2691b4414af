/-
  What values.sign writes, as a plain function: the same text just of the same values. Plain; condition: the values may be.
  strconv.Itoa: a number's decimal text. Condition: strconv's table of powers holds what its initialiser lays.
  Maps by texts: what a key reads as. No condition.
  values.sign writes signV: how long it is; what is told ahead of the parts. Conditions: the tree lies in memory, its weight is bounded; strconv's table of powers holds what its initialiser lays.
  values.sign at values that are no maps. Conditions: as in the text ahead.
  values.sign at maps. Conditions: as in the text ahead.
  values.Key: a value's key. Conditions: the tree lies in memory, its weight is bounded; strconv's table of powers holds what its initialiser lays.
-/
import Derived.Test.YtjihepdjcbpgoaaDoorO3
import Derived.Lib.ItoaLen
import Derived.Lib.ItoaMem
import Derived.Test.YtjihepdjcbpgoaaDoorB1
import Derived.Test.YtjihepdjcbpgoaaDoorShelf
import Derived.WalkSmall
import Derived.Lib.AppendIntMem
import Derived.Test.YtjihepdjcbpgoaaDoorBase
import Derived.Test.YtjihepdjcbpgoaaDoorProg
import Derived.Maps.Own
import Derived.Maps.OwnOps
import Derived.Maps.OwnSet
import Derived.Maps.Views
import Derived.Test.YtjihepdjcbpgoaaDoorVJ
namespace Go.Proofs.YtjihepdjcbpgoaaDoor
open Go.RowKit Go.Sort

/-- What is told of a value ahead of its parts. -/
def signH (v : Val) : List UInt8 := Lib.itoa v.k ++ [58] ++ Lib.itoa (v.t.size : Int) ++ [58] ++ v.t.data.toList ++ Lib.itoa (v.l.length : Int) ++ [40]
/-- An entry's key, as it is signed. -/
def keyH (s : ByteArray) : List UInt8 := Lib.itoa (s.size : Int) ++ [58] ++ s.data.toList
/-- A value's key, n lists and maps deep at most. -/
def signV : Nat → Val → List UInt8
  | 0, v => signH v
  | n + 1, v => signH v ++ if v.k = 8 then v.ents.flatMap fun e => keyH e.1 ++ signV n e.2 else v.l.flatMap (signV n)
theorem signV_s (n : Nat) (v : Val) : signV (n + 1) v = signH v ++ if v.k = 8 then v.ents.flatMap fun e => keyH e.1 ++ signV n e.2 else v.l.flatMap (signV n) := by rw [signV]

theorem decd_digits (u : Nat) : ∀ c ∈ Lib.decDigits u, 48 ≤ c.toNat ∧ c.toNat ≤ 57 := by
  induction u using Nat.strongRecOn with
  | _ u ih =>
    by_cases h : u < 10
    · rw [Lib.decDigits_one h]
      intro c hc
      simp only [List.mem_cons, List.not_mem_nil, or_false] at hc
      subst hc
      simp; omega
    · rw [Lib.decDigits, dif_neg h]
      intro c hc
      rcases List.mem_append.1 hc with hc | hc
      · exact ih (u / 10) (by omega) c hc
      · simp only [List.mem_cons, List.not_mem_nil, or_false] at hc
        subst hc
        simp; omega
def decVal (l : List UInt8) : Nat := l.foldl (fun a c => 10 * a + (c.toNat - 48)) 0
theorem decVal_dec (u : Nat) : decVal (Lib.decDigits u) = u := by
  induction u using Nat.strongRecOn with
  | _ u ih =>
    by_cases h : u < 10
    · rw [Lib.decDigits_one h]
      have e : (UInt8.ofNat (48 + u)).toNat = 48 + u := by simp; omega
      show 10 * 0 + ((UInt8.ofNat (48 + u)).toNat - 48) = u
      rw [e]; omega
    · rw [Lib.decDigits, dif_neg h]
      have e : (UInt8.ofNat (48 + u % 10)).toNat = 48 + u % 10 := by simp; omega
      have := ih (u / 10) (by omega)
      unfold decVal at this ⊢
      rw [List.foldl_append, this]
      show 10 * (u / 10) + ((UInt8.ofNat (48 + u % 10)).toNat - 48) = u
      rw [e]; omega
theorem decd_tw (u : Nat) (c : UInt8) (hc : ¬ (48 ≤ c.toNat ∧ c.toNat ≤ 57)) (r : List UInt8) : (Lib.decDigits u ++ c :: r).takeWhile (fun x => decide (48 ≤ x.toNat ∧ x.toNat ≤ 57)) = Lib.decDigits u := by
  have : ∀ l : List UInt8, (∀ x ∈ l, 48 ≤ x.toNat ∧ x.toNat ≤ 57) → (l ++ c :: r).takeWhile (fun x => decide (48 ≤ x.toNat ∧ x.toNat ≤ 57)) = l := fun l => by
    induction l with
    | nil => intro _; rw [List.nil_append, List.takeWhile_cons_of_neg]; simpa using hc
    | cons y l ih =>
      intro h
      rw [List.cons_append, List.takeWhile_cons_of_pos (by simpa using h y (by simp)), ih fun x hx => h x (by simp [hx])]
  exact this _ (decd_digits u)
/-- A number and a sign behind it are read again. -/
theorem num_inj {u v : Nat} {c c' : UInt8} (hc : ¬ (48 ≤ c.toNat ∧ c.toNat ≤ 57)) (hc' : ¬ (48 ≤ c'.toNat ∧ c'.toNat ≤ 57)) {r r' : List UInt8} (h : Lib.itoa (u : Int) ++ c :: r = Lib.itoa (v : Int) ++ c' :: r') : u = v ∧ c :: r = c' :: r' := by
  rw [Lib.itoa_nonneg, Lib.itoa_nonneg] at h
  have h1 := congrArg (List.takeWhile (fun x => decide (48 ≤ x.toNat ∧ x.toNat ≤ 57))) h
  rw [decd_tw u c hc, decd_tw v c' hc'] at h1
  have e := congrArg decVal h1
  rw [decVal_dec, decVal_dec] at e
  subst e
  exact ⟨rfl, List.append_cancel_left h⟩
theorem str_inj {s t : ByteArray} (hs : s.size = t.size) {r r' : List UInt8} (h : s.data.toList ++ r = t.data.toList ++ r') : s = t ∧ r = r' := by
  have := List.append_inj h (by rw [ba_size, ba_size, hs])
  exact ⟨ByteArray.ext (Array.ext' this.1), this.2⟩
theorem head_inj {a b : Val} (ha : 0 ≤ a.k) (hb : 0 ≤ b.k) {r r' : List UInt8} (h : signH a ++ r = signH b ++ r') : a.k = b.k ∧ a.t = b.t ∧ a.l.length = b.l.length ∧ r = r' := by
  obtain ⟨p, hp⟩ := Int.eq_ofNat_of_zero_le ha
  obtain ⟨q, hq⟩ := Int.eq_ofNat_of_zero_le hb
  simp only [signH, List.append_assoc, List.cons_append, List.nil_append, hp, hq] at h
  obtain ⟨e1, h⟩ := num_inj (by decide) (by decide) h
  obtain ⟨e2, h⟩ := num_inj (by decide) (by decide) (List.cons.inj h).2
  obtain ⟨e3, h⟩ := str_inj e2 (List.cons.inj h).2
  obtain ⟨e4, h⟩ := num_inj (by decide) (by decide) h
  exact ⟨by rw [hp, hq, e1], e3, e4, (List.cons.inj h).2⟩
theorem keyH_inj {s t : ByteArray} {r r' : List UInt8} (h : keyH s ++ r = keyH t ++ r') : s = t ∧ r = r' := by
  simp only [keyH, List.append_assoc, List.cons_append, List.nil_append] at h
  obtain ⟨e1, h⟩ := num_inj (by decide) (by decide) h
  exact str_inj e1 (List.cons.inj h).2
theorem flat_inj {α γ : Type} (f : α → List UInt8) (k : α → γ) : ∀ (l m : List α), l.length = m.length → (∀ a ∈ l, ∀ b ∈ m, ∀ r r', f a ++ r = f b ++ r' → k a = k b ∧ r = r') → ∀ r r', l.flatMap f ++ r = m.flatMap f ++ r' → l.map k = m.map k ∧ r = r'
  | [], [], _, _, r, r', h => ⟨rfl, by simpa using h⟩
  | [], _ :: _, hl, _, _, _, _ => by simp at hl
  | _ :: _, [], hl, _, _, _, _ => by simp at hl
  | x :: l, y :: m, hl, hi, r, r', h => by
    rw [List.flatMap_cons, List.flatMap_cons, List.append_assoc, List.append_assoc] at h
    obtain ⟨e1, h⟩ := hi x (by simp) y (by simp) _ _ h
    obtain ⟨e2, h⟩ := flat_inj f k l m (by simpa using hl) (fun a ha b hb => hi a (by simp [ha]) b (by simp [hb])) r r' h
    exact ⟨by rw [List.map_cons, List.map_cons, e1, e2], h⟩
theorem shape_pos {v : Val} (h : v.shape = true) : 0 ≤ v.k := by
  unfold Val.shape at h
  repeat' split at h
  all_goals first | omega | (simp at h)
/-- A signed value is read again. -/
theorem sign_inj : ∀ (n : Nat) (a b : Val), a.within n = true → b.within n = true → ∀ r r', signV n a ++ r = signV n b ++ r' → canon n a = canon n b ∧ r = r'
  | 0, a, b, ha, hb, r, r', h => by
    rw [signV, signV] at h
    obtain ⟨e1, e2, -, e4⟩ := head_inj (shape_pos (within_sh ha)) (shape_pos (within_sh hb)) h
    have la := shape_leaf2 (within_sh ha) (by rw [Val.within_0, Bool.and_eq_true] at ha; simpa using ha.2)
    have lb := shape_leaf2 (within_sh hb) (by rw [Val.within_0, Bool.and_eq_true] at hb; simpa using hb.2)
    refine ⟨?_, e4⟩
    rw [canon, canon]
    cases a; cases b
    simp only at e1 e2 la lb
    rw [e1, e2, la.1, la.2, lb.1, lb.2]
  | n + 1, a, b, ha, hb, r, r', h => by
    obtain ⟨sa, ka⟩ := within_k ha
    obtain ⟨sb, kb⟩ := within_k hb
    rw [signV_s, signV_s, List.append_assoc, List.append_assoc] at h
    obtain ⟨ek, et, el, h⟩ := head_inj (shape_pos sa) (shape_pos sb) h
    rw [canon_s, canon_s, ek, et]
    by_cases h8 : b.k = 8
    · rw [if_pos (ek.trans h8), if_pos h8] at h
      have l1 := ents_len (shape_map sa (ek.trans h8)).2.1
      have l2 := ents_len (shape_map sb h8).2.1
      obtain ⟨e, h⟩ := flat_inj (fun e : ByteArray × Val => keyH e.1 ++ signV n e.2) (fun e => (e.1, canon n e.2)) a.ents b.ents (by rw [l1, l2, el]) (fun x hx y hy r r' h => by
        rw [List.append_assoc, List.append_assoc] at h
        obtain ⟨e1, h⟩ := keyH_inj h
        obtain ⟨e2, h⟩ := sign_inj n x.2 y.2 (ka _ (ents_mem hx).2) (kb _ (ents_mem hy).2) _ _ h
        exact ⟨by rw [e1, e2], h⟩) _ _ h
      refine ⟨?_, h⟩
      have e1 := congrArg (List.map Prod.fst) e
      have e2 := congrArg (List.map Prod.snd) e
      simp only [List.map_map] at e1 e2
      rw [if_pos h8, if_pos h8]
      simp only [Val.mk.injEq, true_and]
      exact ⟨e2, e1⟩
    · rw [if_neg (fun h => h8 (ek.symm.trans h)), if_neg h8] at h
      obtain ⟨e, h⟩ := flat_inj (signV n) (canon n) a.l b.l el (fun x hx y hy r r' h => sign_inj n x y (ka x hx) (kb y hy) _ _ h) _ _ h
      refine ⟨?_, h⟩
      have hks : ∀ v : Val, v.shape = true → ¬ v.k = 8 → v.ks = [] := fun v hv h8 => by
        by_cases h7 : v.k < 7
        · exact (shape_leaf2 hv h7).2
        · rcases shape_big hv h7 with h | h
          · exact (shape_list hv h).2
          · exact absurd h.1 h8
      rw [if_neg h8, if_neg h8, e, hks a sa (by omega), hks b sb h8]
theorem sign_canon : ∀ (n : Nat) (a b : Val), a.within n = true → b.within n = true → canon n a = canon n b → signV n a = signV n b
  | 0, a, b, _, _, e => by rw [canon, canon] at e; rw [e]
  | n + 1, a, b, ha, hb, e => by
    obtain ⟨sa, ka⟩ := within_k ha
    obtain ⟨sb, kb⟩ := within_k hb
    have ek : a.k = b.k := by have := congrArg Val.k e; rwa [canon_k, canon_k] at this
    have et : a.t = b.t := by have := congrArg Val.t e; rwa [canon_t, canon_t] at this
    have el : a.l.length = b.l.length := by
      have := congrArg (fun v => v.l.length) e
      simp only [(canon_kids n a ha).length_eq, (canon_kids n b hb).length_eq, List.length_map] at this
      exact this
    rw [canon_s, canon_s] at e
    rw [signV_s, signV_s, signH, signH, ek, et, el]
    by_cases h8 : b.k = 8
    · rw [if_pos (ek.trans h8), if_pos h8] at e
      simp only [Val.mk.injEq] at e
      have := map_of_key (g := fun e : ByteArray × Val => keyH e.1 ++ signV n e.2) (ents_pairs e.2.2.2 e.2.2.1) fun x hx y hy hxy => by
        simp only [Prod.mk.injEq] at hxy
        rw [hxy.1, sign_canon n x.2 y.2 (ka _ (ents_mem hx).2) (kb _ (ents_mem hy).2) hxy.2]
      rw [if_pos h8, if_pos h8, List.flatMap_def, List.flatMap_def, this]
    · rw [if_neg (fun h => h8 (ek.symm.trans h)), if_neg h8] at e
      simp only [Val.mk.injEq] at e
      have := map_of_key (g := signV n) e.2.2.1 fun x hx y hy hxy => sign_canon n x y (ka x hx) (kb y hy) hxy
      rw [if_neg h8, if_neg h8, List.flatMap_def, List.flatMap_def, this]

/-- A value's key. -/
def Val.key (v : Val) : ByteArray := if v.may then ⟨(signV 256 v).toArray⟩ else ⟨#[]⟩
theorem itoa_pos (n : Int) : Lib.itoa n ≠ [] := by
  unfold Lib.itoa
  split
  · simp
  · rw [Lib.decDigits]; split <;> simp
theorem sign_pos (n : Nat) (v : Val) : signV n v ≠ [] := by
  have : signH v ≠ [] := by simp [signH]
  cases n with
  | zero => rw [signV]; exact this
  | succ n => rw [signV_s]; exact fun h => this (List.append_eq_nil_iff.1 h).1
theorem key_empty {v : Val} : v.key = ⟨#[]⟩ ↔ v.may = false := by
  unfold Val.key
  cases h : v.may with
  | false => simp
  | true =>
    rw [if_pos rfl]
    refine ⟨fun h => ?_, fun h => by cases h⟩
    have := congrArg (fun b : ByteArray => b.data.toList) h
    exact absurd this (by simpa using sign_pos 256 v)
/-- The same key just of the same values. -/
theorem key_same {a b : Val} (ha : a.may = true) (hb : b.may = true) : a.key = b.key ↔ cmpV 256 a b = 0 := by
  have wa : a.within 256 = true := by rw [Val.may_eq]; exact ha
  have wb : b.within 256 = true := by rw [Val.may_eq]; exact hb
  rw [cmpV_zero 256 a b wa wb, Val.key, Val.key, if_pos ha, if_pos hb]
  constructor
  · intro h
    have := congrArg (fun b : ByteArray => b.data.toList) h
    replace this : signV 256 a = signV 256 b := by simpa using this
    exact (sign_inj 256 a b wa wb [] [] (by rw [this])).1
  · intro h
    rw [sign_canon 256 a b wa wb h]

theorem decd_len {u : Nat} (h : u ≤ 9223372036854775807) : (Lib.itoa (u : Int)).length ≤ 21 := Lib.itoa_length_le u (by omega) (by omega)
theorem signH_len (v : Val) (hk : 0 ≤ v.k) (hk2 : v.k ≤ 255) (hw : v.w ≤ 1048576) : (signH v).length ≤ 66 + v.t.size := by
  have h1 := Lib.itoa_length_le v.k (by omega) (by omega)
  have h2 := v.w_t
  have h3 := v.w_l
  have h4 : (Lib.itoa (v.t.size : Int)).length ≤ 21 := decd_len (by omega)
  have h5 : (Lib.itoa (v.l.length : Int)).length ≤ 21 := decd_len (by omega)
  have h6 := ba_size v.t
  simp only [signH, List.length_append, List.length_singleton]
  omega
theorem keyH_len (s : ByteArray) (h : s.size ≤ 1048576) : (keyH s).length ≤ 22 + s.size := by
  have h1 : (Lib.itoa (s.size : Int)).length ≤ 21 := decd_len (by omega)
  have h2 := ba_size s
  simp only [keyH, List.length_append, List.length_singleton]
  omega
theorem flat_sum {α : Type} (f : α → List UInt8) (l : List α) : (l.flatMap f).length = (l.map fun x => (f x).length).sum := by
  induction l with
  | nil => rfl
  | cons x l ih => simp [ih]
theorem sum_part {α : Type} (f : α → Nat) (l : List α) (k : Nat) : ((l.take k).map f).sum ≤ (l.map f).sum := by
  have h2 := congrArg (fun l => (l.map f).sum) (List.take_append_drop k l)
  simp only [List.map_append, List.sum_append_nat] at h2
  omega
theorem sum_part1 {α : Type} (f : α → Nat) {l : List α} {k : Nat} {x : α} (hk : l[k]? = some x) : ((l.take k).map f).sum + f x ≤ (l.map f).sum := by
  have h := sum_part f l (k + 1)
  rw [List.take_add_one, hk, List.map_append, List.sum_append_nat] at h
  simpa using h
end Go.Proofs.YtjihepdjcbpgoaaDoor

namespace Go.Proofs.YtjihepdjcbpgoaaDoor
open Go.RowKit

def Pow (w : World) : Prop := Lib.TabIs Tryd.prog w "internal/strconv.uint64pow10" .u64 Lib.pow10Tab
theorem Pow.below {w w' : World} (h : Pow w) (hb : Below w.heap.size w w') : Pow w' := by
  unfold Pow Lib.TabIs at *
  have hg : Tryd.prog.globalNamed "internal/strconv.uint64pow10" = some 0 := by kernel_rfl
  have hlt : 0 < w.heap.size := by
    unfold World.var? at h
    rw [hg] at h
    simp only [Option.bind_some] at h
    rcases Nat.lt_or_ge 0 w.heap.size with hlt | hge
    · exact hlt
    · rw [Array.getElem?_eq_none hge] at h; cases h
  exact var?_below hb hg hlt h

theorem itoa_c (n : Int) (h0 : -9223372036854775808 ≤ n) (h1 : n ≤ 9223372036854775807) (W : World) (hW : Pow W) : Calls Tryd.prog 70 #[.int .i64 n] W (Ret (.string ⟨(Lib.itoa n).toArray⟩) W) := by
  refine (Tryd.strconv_Itoa n h0 h1 W hW).mono ?_
  rintro e w' ⟨rfl, k, os, rfl⟩
  exact ⟨rfl, Lib.below_grow _ _ (Nat.le_refl _) _ _⟩
theorem Pow.below_at {B : Nat} {w w' : World} (h : Pow w) (hb : Below B w w') (hg : 0 < B) : Pow w' := by
  unfold Pow Lib.TabIs at *
  have hn : Tryd.prog.globalNamed "internal/strconv.uint64pow10" = some 0 := by kernel_rfl
  exact var?_below hb hn hg h
end Go.Proofs.YtjihepdjcbpgoaaDoor

namespace Go.Proofs.YtjihepdjcbpgoaaDoor
open Go.RowKit

theorem mapLaw : Maps.Keyed Tryd.prog 9 := Maps.string_keyed Tryd.underlying9
abbrev keyLit (s : ByteArray) : Lit := .string s.data.toList
theorem keyLit_inj {s t : ByteArray} (h : keyLit s = keyLit t) : s = t := by
  simp only [keyLit, Lit.string.injEq] at h
  cases s; cases t
  simp only at h
  rw [Array.toList_inj.1 h]
end Go.Proofs.YtjihepdjcbpgoaaDoor

namespace Go.Proofs.YtjihepdjcbpgoaaDoor
open Go.RowKit Go.Sort

theorem av_kid_w (x : AV) : (x.l.map fun y => 100 * y.w).sum = 100 * (x.v.l.map Val.w).sum := by
  rw [sum_mul, AV.v_l, List.map_map]; rfl
theorem sum_le_kids {x : AV} (f g : AV → Nat) (h : ∀ y ∈ x.l, f y ≤ g y) : (x.l.map f).sum ≤ (x.l.map g).sum := sum_le f g h
/-- How long a signed value is. -/
theorem sign_len {w : World} {lo hi : Nat} : ∀ (n : Nat) (x : AV), x.In w lo hi → x.w ≤ 1048576 → (signV n x.v).length ≤ 100 * x.w
  | 0, x, hx, hw => by
    have h := signH_len x.v (by rw [AV.v_k]; exact hx.kind.1) (by rw [AV.v_k]; exact hx.kind.2) hw
    have h2 := x.v.w_t
    rw [signV]
    have : x.v.w = x.w := rfl
    omega
  | n + 1, x, hx, hw => by
    have h := signH_len x.v (by rw [AV.v_k]; exact hx.kind.1) (by rw [AV.v_k]; exact hx.kind.2) hw
    have ih : ∀ y ∈ x.l, (signV n y.v).length ≤ 100 * y.w := fun y hy => sign_len n y (hx.kid hy) (by have := AV.w_kid hy; omega)
    have hv := Val.w_eq x.v
    have e : x.v.w = x.w := rfl
    rw [signV_s, List.length_append]
    by_cases h8 : x.v.k = 8
    · rw [if_pos h8, flat_sum]
      have hk : ∀ y ∈ x.v.l, (signV n y).length ≤ 100 * y.w := fun y hy => by
        rw [AV.v_l] at hy
        obtain ⟨z, hz, rfl⟩ := List.mem_map.1 hy
        exact ih z hz
      have h1 : (x.v.ents.map fun e => (keyH e.1 ++ signV n e.2).length).sum ≤ (x.v.ents.map fun e => (22 * (e.1.size + 1)) + 100 * e.2.w).sum := by
        refine sum_le _ _ fun e he => ?_
        obtain ⟨m1, m2⟩ := ents_mem he
        have a1 := hk e.2 m2
        have a2 := keyH_len e.1 (by have := Val.w_key m1; omega)
        rw [List.length_append]
        omega
      have h2 := ((ents_perm x.v).map fun e => 22 * (e.1.size + 1) + 100 * e.2.w).sum_nat
      have h3 := zip_sum (fun k : ByteArray => 22 * (k.size + 1)) (fun y : Val => 100 * y.w) x.v.ks x.v.l
      rw [sum_mul, sum_mul, sum_add (fun k : ByteArray => k.size) (fun _ => 1), sum_const] at h3
      omega
    · rw [if_neg h8, flat_sum, AV.v_l, List.map_map]
      have h1 : (x.l.map ((fun z : Val => (signV n z).length) ∘ AV.v)).sum ≤ (x.l.map fun y => 100 * y.w).sum := sum_le _ _ fun y hy => ih y hy
      rw [av_kid_w] at h1
      omega
theorem ba5 (a b c d e : Array UInt8) : ({ data := a } : ByteArray) ++ { data := b } ++ { data := c } ++ { data := d } ++ { data := e } = { data := a ++ b ++ c ++ d ++ e } := by
  rw [ba_app, ba_app, ba_app, ba_app]
/-- What is written ahead of a value's parts, as a text. -/
theorem signH_text (x : AV) : ((((((⟨(Lib.itoa x.k).toArray⟩ : ByteArray) ++ ⟨#[58]⟩) ++ ⟨(Lib.itoa (x.t.size : Int)).toArray⟩) ++ ⟨#[58]⟩) ++ x.t) ++ ⟨(Lib.itoa (x.l.length : Int)).toArray⟩ ++ ⟨#[40]⟩).data.toList = signH x.v := by
  rw [show x.t = ⟨x.t.data⟩ from rfl]
  simp only [ba_app, signH, AV.v_k, AV.v_t, AV.v_l, List.length_map]
  simp
end Go.Proofs.YtjihepdjcbpgoaaDoor

namespace Go.Proofs.YtjihepdjcbpgoaaDoor
open Go.RowKit Go.Sort

/-- What is asked of the parts. -/
def SgKids (n B b : Nat) (x : AV) : Prop := ∀ y ∈ x.l, ∀ (l : List UInt8) (w : World), Bld B b l w → B ≤ w.heap.size → y.In w 0 B → Pow w → l.length + 100 * y.w ≤ 1000000000 → Calls Tryd.prog 58 #[.pointer (some ⟨b, 0, none⟩), y.val] w (WrPost B b (l ++ signV n y.v) w)
theorem Bld.drew {B b : Nat} {l : List UInt8} {w : World} (h : Bld B b l w) : Bld B b l w.drew := h.below (Below.refl _ _).drew
theorem flat_take {α : Type} (f : α → List UInt8) {l : List α} {k : Nat} {y : α} (hk : l[k]? = some y) : (l.take (k + 1)).flatMap f = (l.take k).flatMap f ++ f y := by
  rw [List.take_add_one, hk, List.flatMap_append]; simp

set_option maxRecDepth 100000 in
set_option maxHeartbeats 3200000 in
theorem vsign_list (n B b : Nat) (l : List UInt8) (w : World) (x : AV) (hx : x.In w 0 B) (hk : x.k ≠ 8) (hw : x.w ≤ 1048576) (hB : Bld B b l w) (hBw : B ≤ w.heap.size) (hP : Pow w) (hgB : 0 < B) (hl : l.length + 100 * x.w ≤ 1000000000) (ih : SgKids n B b x) :
    Calls Tryd.prog 58 #[.pointer (some ⟨b, 0, none⟩), x.val] w (WrPost B b (l ++ (signH x.v ++ x.v.l.flatMap (signV n))) w) := by
  have htw := x.w_t
  have hll := x.w_l
  have hkd := hx.kind
  have hHl := signH_len x.v (by rw [AV.v_k]; exact hkd.1) (by rw [AV.v_k]; exact hkd.2) hw
  have hxw := Val.w_eq x.v
  have hxe : x.v.w = x.w := rfl
  have hkw := av_kid_w x
  rw [AV.v_t] at hHl hxw
  have hfl : ∀ k, ((x.l.take k).flatMap fun y => signV n y.v).length ≤ ((x.l.take k).map fun y => 100 * y.w).sum := fun k => by
    rw [flat_sum]
    exact sum_le _ _ fun y hy => sign_len n y (hx.kid (List.take_subset _ _ hy)) (by have := AV.w_kid (List.take_subset _ _ hy); omega)
  have hv : x.v.l.flatMap (signV n) = x.l.flatMap fun y => signV n y.v := by rw [AV.v_l, List.flatMap_map]
  rw [hv]
  clear hv
  have hHB : l.length + (signH x.v).length + 100 * (x.v.l.map Val.w).sum ≤ 1000000000 := by omega
  obtain ⟨p, ep⟩ : ∃ p, Lib.itoa x.k = p := ⟨_, rfl⟩
  obtain ⟨q, eq⟩ : ∃ q, Lib.itoa (x.t.size : Int) = q := ⟨_, rfl⟩
  obtain ⟨r, er⟩ : ∃ r, Lib.itoa (x.l.length : Int) = r := ⟨_, rfl⟩
  have HT := signH_text x
  have H1 := fun W hW => Lib.hid (itoa_c x.k (by omega) (by omega) W hW)
  have H2 := fun W hW => Lib.hid (itoa_c x.t.size (by omega) (by omega) W hW)
  have H3 := fun W hW => Lib.hid (itoa_c x.l.length (by omega) (by omega) W hW)
  have hp : (Lib.itoa x.k).length ≤ 21 := Lib.itoa_length_le _ (by omega) (by omega)
  have hq : (Lib.itoa (x.t.size : Int)).length ≤ 21 := decd_len (by omega)
  have hr : (Lib.itoa (x.l.length : Int)).length ≤ 21 := decd_len (by omega)
  rw [ep] at H1 hp
  rw [eq] at H2 hq
  rw [er] at H3 hr
  rw [ep, eq, er] at HT
  clear ep eq er
  generalize signH x.v = hh at *
  have HX := Lib.hid hx
  have HFL := Lib.hid hfl
  have n0 : ¬ 9223372036854775807 < p.length + 1 := by omega
  have n1 : ¬ 9223372036854775807 < p.length + 1 + q.length := by omega
  have n2 : ¬ 9223372036854775807 < p.length + 1 + q.length + 1 := by omega
  have n3 : ¬ 9223372036854775807 < p.length + 1 + q.length + 1 + x.t.size := by omega
  have n4 : ¬ 9223372036854775807 < p.length + 1 + q.length + 1 + x.t.size + r.length := by omega
  have n5 : ¬ 9223372036854775807 < p.length + 1 + q.length + 1 + x.t.size + r.length + 1 := by omega
  have hc1 : IntKind.i64.wrap x.k = x.k := IntWalk.i64_in _ (by omega)
  have e8 : (x.k != 8) = true := by simp [hk]
  have hB0 := hB.alloc (.cells #[.int .u8 x.k, .string x.t, .slice x.la x.l.length x.lc, .slice x.ka x.ks.length x.kc] 28)
  have hk0 : KB B b w (w.alloc (.cells #[.int .u8 x.k, .string x.t, .slice x.la x.l.length x.lc, .slice x.ka x.ks.length x.kc] 28)) := KB.refl.alloc hBw _
  have hP0 : Pow (w.alloc (.cells #[.int .u8 x.k, .string x.t, .slice x.la x.l.length x.lc, .slice x.ka x.ks.length x.kc] 28)) := hP.below_at hk0.1 hgB
  have hlh : l.length + hh.length ≤ 140737488355328 := by omega
  have HS := fun W h1 h2 => Lib.hid (ws_k B b l _ hh HT W h1 hlh h2)
  have hbl := hB.lt
  have HP0 := Lib.hid hP0
  have HB0 := Lib.hid hB0
  have HK0 := Lib.hid hk0
  have hbx := heap_alloc_new w (.cells #[.int .u8 x.k, .string x.t, .slice x.la x.l.length x.lc, .slice x.ka x.ks.length x.kc] 28)
  clear hx hk hp hq hr HT hB0 hk0 hP0 hfl
  go_enter Tryd.func58, Tryd.ntmps58
  go_upto_region 1 with fail
  go_name_world W0 hW0
  rw [hW0] at HP0 HB0 HK0 hbx
  have hs0 : W0.heap.size = w.heap.size + 1 := by rw [← hW0]; simp
  obtain ⟨q0, q1, q2, q3, -, -, -, -⟩ := vbox4 hbx
  have hN : w.heap.size + 1 ≤ W0.heap.size := by omega
  have hwl : w.heap.size < W0.heap.size := by omega
  have HN := Lib.hid hs0
  clear hW0 hs0
  go_region_held3 (fun w' => (∀ o, w'.cell? ⟨w.heap.size, o, none⟩ = W0.cell? ⟨w.heap.size, o, none⟩) ∧ True)
    (first | (with_reducible exact Q4.out) | (with_reducible exact Q3.out) | (with_reducible exact Q2.out) | (with_reducible exact Q1.out) | exact ⟨fun _ => rfl, trivial⟩)
    (first
      | (go_at_call 70; first
          | ((with_reducible refine (H1 _ ?_).out.mono ?_); exact HP0.out.below (Below.refl _ _).drew; rintro e wa ⟨rfl, hba⟩
             have hBa := HB0.out.drew.below hba
             have hza : W0.heap.size ≤ wa.heap.size := hba.size
             have hba2 : Below W0.heap.size W0 wa := below_of_drew hba
             have Q1 := Lib.hid (show (∀ o, wa.cell? ⟨w.heap.size, o, none⟩ = W0.cell? ⟨w.heap.size, o, none⟩) ∧ True from ⟨fun o => hba2.cell (p := ⟨w.heap.size, o, none⟩) hwl, trivial⟩))
          | ((with_reducible refine (H2 _ ?_).out.mono ?_); exact HP0.out.below hba2; rintro e wb ⟨rfl, hbb⟩
             have hBb := hBa.below hbb
             have hbb2 := below_via hba2 hbb
             have Q2 := Lib.hid (show (∀ o, wb.cell? ⟨w.heap.size, o, none⟩ = W0.cell? ⟨w.heap.size, o, none⟩) ∧ True from ⟨fun o => hbb2.cell (p := ⟨w.heap.size, o, none⟩) hwl, trivial⟩))
          | ((with_reducible refine (H3 _ ?_).out.mono ?_); exact HP0.out.below hbb2; rintro e wd ⟨rfl, hbd⟩
             have hBd := hBb.below hbd
             have hbd2 := below_via hbb2 hbd
             have hsd := hbd2.size
             have Q3 := Lib.hid (show (∀ o, wd.cell? ⟨w.heap.size, o, none⟩ = W0.cell? ⟨w.heap.size, o, none⟩) ∧ True from ⟨fun o => hbd2.cell (p := ⟨w.heap.size, o, none⟩) hwl, trivial⟩)))
      | (go_at_call 69; (with_reducible refine (HS _ hBd (by omega)).out.mono ?_); rintro e we ⟨⟨nn, rfl⟩, hBe, hke⟩
         have hkE := (HK0.out.trans (KB.of_below (b := b) hbd2 (by omega))).trans hke
         have hb5 := hke.blk ((hbd2.block w.heap.size hwl).trans hbx) (by omega) ne_val
         have Q4 := Lib.hid (show (∀ o, we.cell? ⟨w.heap.size, o, none⟩ = W0.cell? ⟨w.heap.size, o, none⟩) ∧ True from ⟨fun o => World.cell?_of_block (w := W0) (hb5.trans hbx.symm), trivial⟩)))
  obtain ⟨v0, v1, v2, v3, -, -, -, -⟩ := vbox4 hb5
  have hse := hkE.1.size
  have hle : w.heap.size < we.heap.size := by have := hke.1.size; omega
  clear Q1 Q2 Q3 Q4 hba hbb hbd hba2 hbb2 hbd2 hBa hBb hBd hke hb5 H1 H2 H3 HS hbx HP0 HB0 HK0
  go_wp2_with fail
  go_loopw [36] (fun i wr => ∃ k : Nat, k ≤ x.l.length ∧ i = .int .i64 k ∧ Bld B b (l ++ hh ++ (x.l.take k).flatMap fun y => signV n y.v) wr ∧ KB B b w wr) (fun i _ => x.l.length - (intOf i).toNat)
  case atStart => exact ⟨0, Nat.zero_le _, rfl, by simpa using hBe, hkE⟩
  clear hBe hkE hse hle v0 v1 v2 v3
  case round =>
    obtain ⟨k, hkl, rfl, hBr, hkr⟩ := hrel
    have hsz := hkr.1.size
    have hln := HFL.out k
    by_cases hlt : k < x.l.length
    · have hks : x.l[k]? = some x.l[k] := List.getElem?_eq_getElem hlt
      have hmem : x.l[k] ∈ x.l := List.getElem_mem hlt
      generalize x.l[k] = y at *
      obtain ⟨c, off, hla, -, hc1, -, h0, h1, h2, h3⟩ := vals_at HX.out.sl hks
      rw [← hkr.1.cell (p := ⟨_, _, none⟩) hc1] at h0 h1 h2 h3
      have hcc : c < wr.heap.size := by omega
      have hlt' : (k : Int) < (x.l.length : Int) := by omega
      have hs1 := sum_part1 (fun y : AV => 100 * y.w) hks
      have HI := Lib.hid (ih y hmem)
      have HY := Lib.hid (HX.out.kid hmem)
      have hst := Lib.hid (flat_take (fun y : AV => signV n y.v) hks)
      rw [hla]
      clear hks hla ih
      have hbl := hBr.lt
      have hB1 := hBr.alloc (.cells #[.int .u8 y.k, .string y.t, .slice y.la y.l.length y.lc, .slice y.ka y.ks.length y.kc] 28)
      have hk1 : KB B b w (wr.alloc (.cells #[.int .u8 y.k, .string y.t, .slice y.la y.l.length y.lc, .slice y.ka y.ks.length y.kc] 28)) := hkr.alloc (by omega) _
      generalize (x.l.take k).flatMap (fun y : AV => signV n y.v) = T at *
      have HC := fun W (h1 : Bld B b (l ++ hh ++ T) W) (h2 : KB B b w W) => Lib.hid (HI.out _ _ h1 (by have := h2.1.size; omega) (HY.out.blw h2.1 (Nat.le_refl _)) (hP.below_at h2.1 hgB) (by simp; omega))
      go_wp2_with (go_at_call 58; refine (HC _ hB1 hk1).out.mono ?_; rintro e w3 ⟨rfl, hB3, hk3⟩)
      refine ⟨⟨k + 1, by omega, by go_num, ?_, hk1.trans hk3⟩, by simp [intOf]; omega⟩
      rw [hst.out]; simpa using hB3
    · obtain rfl : k = x.l.length := by omega
      rw [List.take_length] at hBr
      have hge : ¬ (x.l.length : Int) < (x.l.length : Int) := by omega
      go_wp2_with fail
      go_end0
      exact ⟨rfl, by simpa using hBr, hkr⟩
end Go.Proofs.YtjihepdjcbpgoaaDoor

namespace Go.Proofs.YtjihepdjcbpgoaaDoor
open Go.RowKit Go.Sort

/-- An entry, signed; what it weighs, at least that. -/
def entS (n : Nat) (e : Ent) : List UInt8 := keyH e.key ++ signV n e.x.v
def entSW (e : Ent) : Nat := 22 * (e.key.size + 1) + 100 * e.x.w
theorem entSW_sum {x : AV} {L : List Ent} (hp : L.Perm (ents0 x.ks x.l)) : (L.map entSW).sum ≤ 22 * (x.v.ks.length + (x.v.ks.map (·.size)).sum) + 100 * (x.v.l.map Val.w).sum := by
  have h1 := (hp.map entSW).sum_nat
  have h2 := zip_sum (fun k : ByteArray => 22 * (k.size + 1)) (fun y : AV => 100 * y.w) x.ks x.l
  rw [sum_mul, sum_add (fun k : ByteArray => k.size) (fun _ => 1), sum_const, av_kid_w] at h2
  have h3 : ((ents0 x.ks x.l).map entSW).sum = ((x.ks.zip x.l).map fun e => 22 * (e.1.size + 1) + 100 * e.2.w).sum := by rw [ents0, List.map_map]; rfl
  rw [AV.v_ks]
  omega

set_option maxRecDepth 100000 in
set_option maxHeartbeats 3200000 in
theorem vsign_map (n B b : Nat) (l : List UInt8) (w : World) (x : AV) (hx : x.In w 0 B) (h8 : x.k = 8) (hlen8 : x.l.length = x.ks.length) (hnd : x.ks.Nodup) (hw : x.w ≤ 1048576) (hB : Bld B b l w) (hBw : B ≤ w.heap.size) (hP : Pow w) (hgB : 0 < B) (hl : l.length + 100 * x.w ≤ 1000000000) (ih : SgKids n B b x) :
    Calls Tryd.prog 58 #[.pointer (some ⟨b, 0, none⟩), x.val] w (WrPost B b (l ++ (signH x.v ++ x.v.ents.flatMap fun e => keyH e.1 ++ signV n e.2)) w) := by
  have htw := x.w_t
  have hll := x.w_l
  have hkd := hx.kind
  have hE := fun (W : World) (hb : Below B w W) (hs : B ≤ W.heap.size) => Lib.hid (entries_t W x ((hx.blw hb (Nat.le_refl _)).widen (Nat.le_refl _) hs) hw hlen8)
  have hHl := signH_len x.v (by rw [AV.v_k]; exact hkd.1) (by rw [AV.v_k]; exact hkd.2) hw
  have hxw := Val.w_eq x.v
  have hxe : x.v.w = x.w := rfl
  rw [AV.v_t] at hHl hxw
  have hks := x.w_ks
  have hL : ∀ L : List Ent, L.Perm (ents0 x.ks x.l) → L.Pairwise (fun a b => a.key.toList ≤ b.key.toList) → (x.v.ents.flatMap fun e => keyH e.1 ++ signV n e.2) = L.flatMap (entS n) ∧ (L.map entSW).sum ≤ 22 * (x.v.ks.length + (x.v.ks.map (·.size)).sum) + 100 * (x.v.l.map Val.w).sum ∧ (∀ e ∈ L, e.x ∈ x.l ∧ e.key ∈ x.ks) ∧ L.length = x.l.length := fun L hp hso => by
    refine ⟨by rw [← ents_eq x hnd L hp hso, List.flatMap_map]; rfl, entSW_sum hp, fun e he => ?_, by rw [hp.length_eq]; simp [ents0, hlen8]⟩
    obtain ⟨p, hp', rfl⟩ := List.mem_map.1 (hp.subset he)
    have := List.of_mem_zip (a := p.1) (b := p.2) hp'
    exact ⟨this.2, this.1⟩
  have HL := Lib.hid hL
  have hHB : l.length + (signH x.v).length + (22 * (x.v.ks.length + (x.v.ks.map (·.size)).sum) + 100 * (x.v.l.map Val.w).sum) ≤ 1000000000 := by omega
  obtain ⟨p, ep⟩ : ∃ p, Lib.itoa x.k = p := ⟨_, rfl⟩
  obtain ⟨q, eq⟩ : ∃ q, Lib.itoa (x.t.size : Int) = q := ⟨_, rfl⟩
  obtain ⟨r, er⟩ : ∃ r, Lib.itoa (x.l.length : Int) = r := ⟨_, rfl⟩
  have HT := signH_text x
  have H1 := fun W hW => Lib.hid (itoa_c x.k (by omega) (by omega) W hW)
  have H2 := fun W hW => Lib.hid (itoa_c x.t.size (by omega) (by omega) W hW)
  have H3 := fun W hW => Lib.hid (itoa_c x.l.length (by omega) (by omega) W hW)
  have hp : (Lib.itoa x.k).length ≤ 21 := Lib.itoa_length_le _ (by omega) (by omega)
  have hq : (Lib.itoa (x.t.size : Int)).length ≤ 21 := decd_len (by omega)
  have hr : (Lib.itoa (x.l.length : Int)).length ≤ 21 := decd_len (by omega)
  rw [ep] at H1 hp
  rw [eq] at H2 hq
  rw [er] at H3 hr
  rw [ep, eq, er] at HT
  clear ep eq er
  generalize signH x.v = hh at *
  have HX := Lib.hid hx
  have n0 : ¬ 9223372036854775807 < p.length + 1 := by omega
  have n1 : ¬ 9223372036854775807 < p.length + 1 + q.length := by omega
  have n2 : ¬ 9223372036854775807 < p.length + 1 + q.length + 1 := by omega
  have n3 : ¬ 9223372036854775807 < p.length + 1 + q.length + 1 + x.t.size := by omega
  have n4 : ¬ 9223372036854775807 < p.length + 1 + q.length + 1 + x.t.size + r.length := by omega
  have n5 : ¬ 9223372036854775807 < p.length + 1 + q.length + 1 + x.t.size + r.length + 1 := by omega
  have hc1 : IntKind.i64.wrap x.k = x.k := IntWalk.i64_in _ (by omega)
  have e8 : (x.k != 8) = false := by simp [h8]
  have hB0 := hB.alloc (.cells #[.int .u8 x.k, .string x.t, .slice x.la x.l.length x.lc, .slice x.ka x.ks.length x.kc] 28)
  have hk0 : KB B b w (w.alloc (.cells #[.int .u8 x.k, .string x.t, .slice x.la x.l.length x.lc, .slice x.ka x.ks.length x.kc] 28)) := KB.refl.alloc hBw _
  have hP0 : Pow (w.alloc (.cells #[.int .u8 x.k, .string x.t, .slice x.la x.l.length x.lc, .slice x.ka x.ks.length x.kc] 28)) := hP.below_at hk0.1 hgB
  have hlh : l.length + hh.length ≤ 140737488355328 := by omega
  have HS := fun W h1 h2 => Lib.hid (ws_k B b l _ hh HT W h1 hlh h2)
  have hbl := hB.lt
  have HP0 := Lib.hid hP0
  have HB0 := Lib.hid hB0
  have HK0 := Lib.hid hk0
  have hbx := heap_alloc_new w (.cells #[.int .u8 x.k, .string x.t, .slice x.la x.l.length x.lc, .slice x.ka x.ks.length x.kc] 28)
  clear hx hp hq hr HT hB0 hk0 hP0 hL h8 hlen8 hnd
  go_enter Tryd.func58, Tryd.ntmps58
  go_upto_region 1 with fail
  go_name_world W0 hW0
  rw [hW0] at HP0 HB0 HK0 hbx
  have hs0 : W0.heap.size = w.heap.size + 1 := by rw [← hW0]; simp
  obtain ⟨q0, q1, q2, q3, -, -, -, -⟩ := vbox4 hbx
  have hN : w.heap.size + 1 ≤ W0.heap.size := by omega
  have hwl : w.heap.size < W0.heap.size := by omega
  have HN := Lib.hid hs0
  clear hW0 hs0
  go_region_held3 (fun w' => (∀ o, w'.cell? ⟨w.heap.size, o, none⟩ = W0.cell? ⟨w.heap.size, o, none⟩) ∧ True)
    (first | (with_reducible exact Q4.out) | (with_reducible exact Q3.out) | (with_reducible exact Q2.out) | (with_reducible exact Q1.out) | exact ⟨fun _ => rfl, trivial⟩)
    (first
      | (go_at_call 70; first
          | ((with_reducible refine (H1 _ ?_).out.mono ?_); exact HP0.out.below (Below.refl _ _).drew; rintro e wa ⟨rfl, hba⟩
             have hBa := HB0.out.drew.below hba
             have hza : W0.heap.size ≤ wa.heap.size := hba.size
             have hba2 : Below W0.heap.size W0 wa := below_of_drew hba
             have Q1 := Lib.hid (show (∀ o, wa.cell? ⟨w.heap.size, o, none⟩ = W0.cell? ⟨w.heap.size, o, none⟩) ∧ True from ⟨fun o => hba2.cell (p := ⟨w.heap.size, o, none⟩) hwl, trivial⟩))
          | ((with_reducible refine (H2 _ ?_).out.mono ?_); exact HP0.out.below hba2; rintro e wb ⟨rfl, hbb⟩
             have hBb := hBa.below hbb
             have hbb2 := below_via hba2 hbb
             have Q2 := Lib.hid (show (∀ o, wb.cell? ⟨w.heap.size, o, none⟩ = W0.cell? ⟨w.heap.size, o, none⟩) ∧ True from ⟨fun o => hbb2.cell (p := ⟨w.heap.size, o, none⟩) hwl, trivial⟩))
          | ((with_reducible refine (H3 _ ?_).out.mono ?_); exact HP0.out.below hbb2; rintro e wd ⟨rfl, hbd⟩
             have hBd := hBb.below hbd
             have hbd2 := below_via hbb2 hbd
             have hsd := hbd2.size
             have Q3 := Lib.hid (show (∀ o, wd.cell? ⟨w.heap.size, o, none⟩ = W0.cell? ⟨w.heap.size, o, none⟩) ∧ True from ⟨fun o => hbd2.cell (p := ⟨w.heap.size, o, none⟩) hwl, trivial⟩)))
      | (go_at_call 69; (with_reducible refine (HS _ hBd (by omega)).out.mono ?_); rintro e we ⟨⟨nn, rfl⟩, hBe, hke⟩
         have hkE := (HK0.out.trans (KB.of_below (b := b) hbd2 (by omega))).trans hke
         have hb5 := hke.blk ((hbd2.block w.heap.size hwl).trans hbx) (by omega) ne_val
         have Q4 := Lib.hid (show (∀ o, we.cell? ⟨w.heap.size, o, none⟩ = W0.cell? ⟨w.heap.size, o, none⟩) ∧ True from ⟨fun o => World.cell?_of_block (w := W0) (hb5.trans hbx.symm), trivial⟩)))
  obtain ⟨v0, v1, v2, v3, -, -, -, -⟩ := vbox4 hb5
  have hse := hkE.1.size
  have hle : w.heap.size < we.heap.size := by have := hke.1.size; omega
  clear Q1 Q2 Q3 Q4 hba hbb hbd hba2 hbb2 hbd2 hBa hBb hBd hke hb5 H1 H2 H3 HS hbx HP0 HB0 HK0
  go_wp2_with (go_at_call 54; refine (hE _ hkE.1 (by omega)).out.mono ?_; rintro e w3 ⟨a, c, L, rfl, hp, hso, hsl, hb3, g, rfl, hg1, cs, hg2⟩)
  obtain ⟨hT, hsum, hmem, hLn⟩ := HL.out L hp hso
  have hLb : L.length ≤ 1048576 := by omega
  clear hLn
  have HT := Lib.hid hT
  have HM := Lib.hid hmem
  have HSL := Lib.hid hsl
  have hkw3 := hkE.trans (KB.of_below (b := b) hb3 (by omega))
  have hsz3 := hkw3.1.size
  have hBb3 := hBe.below hb3
  have hgb : g ≠ b := by omega
  clear hT hmem hsl hp hso HL hE hBe hb3 hkE v0 v1 v2 v3 q0 q1 q2 q3
  go_loopw [47] (fun i wr => ∃ k : Nat, k ≤ L.length ∧ i = .int .i64 k ∧ Bld B b (l ++ hh ++ (L.take k).flatMap (entS n)) wr ∧ KB B b w wr ∧ wr.heap[g]? = some (.cells cs 87 (0, 0)) ∧ w3.heap.size ≤ wr.heap.size) (fun i _ => L.length - (intOf i).toNat)
  case atStart => exact ⟨0, Nat.zero_le _, rfl, by simpa using hBb3, hkw3, hg2, Nat.le_refl _⟩
  clear hBb3 hkw3
  case round =>
    obtain ⟨wo, hwo⟩ : ∃ w0 : World, w0 = wr := ⟨_, rfl⟩
    subst hwo
    obtain ⟨k, hkl, rfl, hBr, hkr, hgr, hwr⟩ := hrel
    by_cases hlt : k < L.length
    · have hks2 : L[k]? = some L[k] := List.getElem?_eq_getElem hlt
      have hmem : L[k] ∈ L := List.getElem_mem hlt
      generalize L[k] = e at *
      obtain ⟨g', off, hga, -, hc1', hc2, h0, h1, h2, h3, h4⟩ := ents_at HSL.out hks2
      injection hga with hga
      injection hga with e1 e2
      subst e1; subst e2
      rw [← World.cell?_of_block (hgr.trans hg2.symm)] at h0 h1 h2 h3 h4
      simp only [Nat.zero_add] at h0 h1 h2 h3 h4
      have hcc : g < wo.heap.size := by omega
      have hlt' : (k : Int) < (L.length : Int) := by omega
      obtain ⟨hm1, hm2⟩ := HM.out e hmem
      have hkz : e.key.size ≤ 1048576 := by have := x.w_key hm2; omega
      have hew : e.x.w ≤ 1048576 := by have := AV.w_kid hm1; omega
      have HI := Lib.hid (ih e.x hm1)
      have hyi := HX.out.kid hm1
      have HY := Lib.hid hyi
      have hfl : ((L.take k).flatMap (entS n)).length ≤ ((L.take k).map entSW).sum := by
        rw [flat_sum]
        refine sum_le _ _ fun e' he' => ?_
        obtain ⟨p1, p2⟩ := HM.out e' (List.take_subset _ _ he')
        have a1 := sign_len n e'.x (HX.out.kid p1) (by have := AV.w_kid p1; omega)
        have a2 := keyH_len e'.key (by have := x.w_key p2; omega)
        simp only [entS, entSW, List.length_append]
        omega
      have hs1 := sum_part1 entSW hks2
      have hst := Lib.hid (flat_take (entS n) hks2)
      have hkl1 := keyH_len e.key hkz
      have hes : entSW e = 22 * (e.key.size + 1) + 100 * e.x.w := rfl
      clear hks2 hmem ih hm1 hm2 hyi
      have hbl' := hBr.lt
      obtain ⟨T, hTT⟩ : ∃ T, (L.take k).flatMap (entS n) = T := ⟨_, rfl⟩
      rw [hTT] at hBr hfl hst
      clear hTT
      obtain ⟨P, hP1⟩ : ∃ P, l ++ hh ++ T = P := ⟨_, rfl⟩
      have hPl : P.length = l.length + hh.length + T.length := by rw [← hP1]; simp; omega
      rw [hP1] at hBr
      have HPP := Lib.hid hP1
      clear hP1
      obtain ⟨u, eu⟩ : ∃ u, Lib.itoa (e.key.size : Int) = u := ⟨_, rfl⟩
      have hul : u.length ≤ 21 := by rw [← eu]; exact decd_len (by omega)
      have H1 := fun W hW => Lib.hid (itoa_c e.key.size (by omega) (by omega) W hW)
      rw [eu] at H1
      have hkt : (((⟨u.toArray⟩ : ByteArray) ++ ⟨#[58]⟩) ++ e.key).data.toList = keyH e.key := by
        rw [keyH, eu, show e.key = ⟨e.key.data⟩ from rfl, ba_app, ba_app]; simp
      obtain ⟨kk, ekk⟩ : ∃ kk, keyH e.key = kk := ⟨_, rfl⟩
      rw [ekk] at hkt hkl1
      have HKK := Lib.hid ekk
      clear eu ekk
      have hPk : P.length + kk.length ≤ 140737488355328 := by omega
      have HS := fun W h1 h2 => Lib.hid (ws_k B b P _ kk hkt W h1 hPk h2)
      have m0 : ¬ 9223372036854775807 < u.length + 1 := by omega
      have m1 : ¬ 9223372036854775807 < u.length + 1 + e.key.size := by omega
      have hB1 := hBr.alloc (.cells #[.string e.key, .int .u8 e.x.k, .string e.x.t, .slice e.x.la e.x.l.length e.x.lc, .slice e.x.ka e.x.ks.length e.x.kc] 87)
      have hk1 : KB B b w (wo.alloc (.cells #[.string e.key, .int .u8 e.x.k, .string e.x.t, .slice e.x.la e.x.l.length e.x.lc, .slice e.x.ka e.x.ks.length e.x.kc] 87)) := hkr.alloc (by omega) _
      have hnew := heap_alloc_new wo (.cells #[.string e.key, .int .u8 e.x.k, .string e.x.t, .slice e.x.la e.x.l.length e.x.lc, .slice e.x.ka e.x.ks.length e.x.kc] 87)
      have hold := (heap_alloc_old wo (.cells #[.string e.key, .int .u8 e.x.k, .string e.x.t, .slice e.x.la e.x.l.length e.x.lc, .slice e.x.ka e.x.ks.length e.x.kc] 87) g hcc).trans hgr
      have hsn := World.size_alloc wo (.cells #[.string e.key, .int .u8 e.x.k, .string e.x.t, .slice e.x.la e.x.l.length e.x.lc, .slice e.x.ka e.x.ks.length e.x.kc] 87)
      have HKR := Lib.hid hkr
      clear hkt hkr hBr hgr
      go_upto_region 11 with fail
      go_name_world W5 hW5
      rw [hW5] at hB1 hk1 hnew hold hsn
      have HB1 := Lib.hid hB1
      have HK1 := Lib.hid hk1
      have HOLD := Lib.hid hold
      have hwl5 : wo.heap.size < W5.heap.size := by omega
      have hk1s := hk1.1.size
      have HP5 := Lib.hid (hP.below_at hk1.1 hgB)
      obtain ⟨z0, z1, z2, z3, z4⟩ := vbox5 hnew
      clear hW5 hB1 hk1 hold h0 h1 h2 h3 h4
      go_region_held3 (fun w' => (∀ o, w'.cell? ⟨wo.heap.size, o, none⟩ = W5.cell? ⟨wo.heap.size, o, none⟩) ∧ True)
        (first | (with_reducible exact Q2.out) | (with_reducible exact Q1.out) | exact ⟨fun _ => rfl, trivial⟩)
        (first
          | (go_at_call 70; (with_reducible refine (H1 _ ?_).out.mono ?_); exact HP5.out.below (Below.refl _ _).drew; rintro ea wa ⟨rfl, hba⟩
             have hBa := HB1.out.drew.below hba
             have hba2 : Below W5.heap.size W5 wa := below_of_drew hba
             have hsa := hba2.size
             have Q1 := Lib.hid (show (∀ o, wa.cell? ⟨wo.heap.size, o, none⟩ = W5.cell? ⟨wo.heap.size, o, none⟩) ∧ True from ⟨fun o => hba2.cell (p := ⟨wo.heap.size, o, none⟩) hwl5, trivial⟩))
          | (go_at_call 69; (with_reducible refine (HS _ hBa (by omega)).out.mono ?_); rintro e5 w5 ⟨⟨n5, rfl⟩, hB5, hk5⟩
             have hk6 := (HK1.out.trans (KB.of_below (b := b) hba2 (by omega))).trans hk5
             have hbx5 := hk5.blk ((hba2.block wo.heap.size hwl5).trans hnew) (by omega) ne_ent
             have hgg := hk5.blk ((hba2.block g (by omega)).trans HOLD.out) hgb ne_ent
             have hs7 := hk5.1.size
             have Q2 := Lib.hid (show (∀ o, w5.cell? ⟨wo.heap.size, o, none⟩ = W5.cell? ⟨wo.heap.size, o, none⟩) ∧ True from ⟨fun o => World.cell?_of_block (w := W5) (hbx5.trans hnew.symm), trivial⟩)))
      have hl5 : wo.heap.size < w5.heap.size := by have := hk5.1.size; have := hk6.1.size; omega
      clear Q1 Q2 hba hBa hnew H1 HS HP5 hba2 HB1
      go_wp2_with (go_at_call 58; refine (HI.out _ _ hB5 (by have := hk6.1.size; omega) (HY.out.blw hk6.1 (Nat.le_refl _)) (hP.below_at hk6.1 hgB) (by rw [List.length_append]; omega)).mono ?_; rintro e6 w6 ⟨rfl, hB6, hk8⟩)
      refine ⟨⟨k + 1, by omega, by go_num, ?_, hk6.trans hk8, hk8.blk hgg hgb ne_ent, by have := hk8.1.size; have := hk6.1.size; omega⟩, by simp [intOf]; omega⟩
      rw [hst.out, entS, HKK.out]
      have := HPP.out
      subst this
      simpa using hB6
    · obtain rfl : k = L.length := by omega
      rw [List.take_length] at hBr
      have hge : ¬ (L.length : Int) < (L.length : Int) := by omega
      go_wp2_with fail
      go_end0
      exact ⟨rfl, by rw [HT.out]; simpa using hBr, hkr⟩
end Go.Proofs.YtjihepdjcbpgoaaDoor

namespace Go.Proofs.YtjihepdjcbpgoaaDoor
open Go.RowKit Go.Sort

theorem Pow.lt {w : World} (h : Pow w) : 0 < w.heap.size := by
  unfold Pow Lib.TabIs at h
  have hg : Tryd.prog.globalNamed "internal/strconv.uint64pow10" = some 0 := by kernel_rfl
  unfold World.var? at h
  rw [hg] at h
  simp only [Option.bind_some] at h
  rcases Nat.lt_or_ge 0 w.heap.size with hlt | hge
  · exact hlt
  · rw [Array.getElem?_eq_none hge] at h; cases h
theorem vsign_c : ∀ (n B b : Nat) (x : AV) (l : List UInt8) (w : World), x.In w 0 B → x.w ≤ 1048576 → x.v.within n = true → Bld B b l w → B ≤ w.heap.size → Pow w → 0 < B → l.length + 100 * x.w ≤ 1000000000 →
    Calls Tryd.prog 58 #[.pointer (some ⟨b, 0, none⟩), x.val] w (WrPost B b (l ++ signV n x.v) w)
  | 0, B, b, x, l, w, hx, hw, hwi, hB, hBw, hP, hgB, hl => by
    have hk : x.k < 7 := by
      rw [Val.within_0, Bool.and_eq_true, AV.v_k] at hwi
      simpa using hwi.2
    have h0 : x.l = [] := by
      have := (shape_leaf2 (within_sh hwi) (by rw [AV.v_k]; exact hk)).1
      rw [AV.v_l] at this
      exact List.map_eq_nil_iff.1 this
    have := vsign_list 0 B b l w x hx (by omega) hw hB hBw hP hgB hl (fun y hy => by rw [h0] at hy; cases hy)
    rw [AV.v_l, h0] at this
    rw [signV]
    simpa using this
  | n + 1, B, b, x, l, w, hx, hw, hwi, hB, hBw, hP, hgB, hl => by
    obtain ⟨sh, hk⟩ := within_k hwi
    have ih : SgKids n B b x := fun y hy l' w' hB' hBw' hy' hP' hl' =>
      vsign_c n B b y l' w' hy' (by have := x.w_kid hy; omega) (hk y.v (by rw [AV.v_l]; exact List.mem_map_of_mem hy)) hB' hBw' hP' hgB hl'
    rw [signV_s]
    by_cases h8 : x.k = 8
    · obtain ⟨_, hl8, hn8⟩ := shape_map sh (by rw [AV.v_k]; exact h8)
      rw [AV.v_ks] at hl8 hn8
      rw [AV.v_l, List.length_map] at hl8
      rw [AV.v_k, if_pos h8]
      exact vsign_map n B b l w x hx h8 hl8.symm hn8 hw hB hBw hP hgB hl ih
    · rw [AV.v_k, if_neg h8]
      exact vsign_list n B b l w x hx h8 hw hB hBw hP hgB hl ih

set_option maxRecDepth 100000 in
set_option maxHeartbeats 3200000 in
theorem key_c (x : AV) (w : World) (hx : Rd w x) (hw : x.w ≤ 1048576) (hP : Pow w) : Calls Tryd.prog 43 #[x.val] w (Ret (.string x.v.key) w) := by
  have hb0 := fun o => (Below.refl w.heap.size w).alloc (Nat.le_refl _) o
  have HM := fun W h => Lib.hid (may_c W x h hw)
  have hg := hP.lt
  cases hm : x.v.may with
  | false =>
    have HF := Lib.hid (show x.v.key = ⟨#[]⟩ by unfold Val.key; rw [hm]; rfl)
    rw [hm] at HM
    clear hm
    go_enter Tryd.func43, Tryd.ntmps43
    go_wp2_with (go_at_call 19; refine (HM _ (hx.up (hb0 _))).out.mono ?_; rintro e w2 ⟨rfl, hb⟩)
    go_ret
    exact ⟨by rw [HF.out]; rfl, below_via (hb0 _) hb⟩
  | true =>
    have HF := Lib.hid (show x.v.key = ⟨(signV 256 x.v).toArray⟩ by unfold Val.key; rw [hm]; rfl)
    have hwi : x.v.within 256 = true := by rw [Val.may_eq]; exact hm
    rw [hm] at HM
    have HW := fun (B b : Nat) (W : World) h1 h2 h3 h4 h5 => Lib.hid (vsign_c 256 B b x [] W h1 hw hwi h2 h3 h4 h5 (by simp; omega))
    clear hm hwi
    go_enter Tryd.func43, Tryd.ntmps43
    go_wp2_with (first
      | (go_at_call 19; refine (HM _ (hx.up (hb0 _))).out.mono ?_; rintro e w2 ⟨rfl, hb⟩
         have hbw := below_via (hb0 _) hb
         have hsz := hbw.size
         have hlt2 : w.heap.size < w2.heap.size := by (have := hb.size; simp at this; omega)
         obtain ⟨q0, q1, q2, q3, -, -, -, -⟩ := vbox4 (blk_new hb)
         have hx2 := (hx.up hbw).blw' ((Below.refl _ _).alloc (Nat.le_refl _) (.cells #[.pointer none, .slice none 0 0] 95))
         have hS2 := (hP.below hbw).below ((Below.refl _ _).alloc (Nat.le_refl _) (.cells #[.pointer none, .slice none 0 0] 95)))
      | (go_at_call 58; refine (HW _ _ _ hx2 (fresh_l w2) (by simp) hS2 (by omega)).out.mono ?_; rintro e w3 ⟨rfl, hB3, hk3⟩
         have hs3 := hk3.1.size
         simp only [World.size_alloc] at hs3)
      | (go_at_call 59; refine (bstring_l _ _ _ _ hB3 (by omega)).mono ?_; rintro e w4 ⟨rfl, hB4, hb4, hk4⟩))
    go_ret
    exact ⟨by rw [HF.out]; simp, hbw.trans ((((Below.refl _ _).alloc (Nat.le_refl _) _).trans (hk3.1.trans hb4)).mono hsz)⟩
end Go.Proofs.YtjihepdjcbpgoaaDoor
