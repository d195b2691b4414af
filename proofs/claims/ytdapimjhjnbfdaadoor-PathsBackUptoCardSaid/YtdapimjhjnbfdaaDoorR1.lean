/-
  Paths' texts, plainly: hiding is undone, each path that may be is read again from its text, by the program's reading as by the reference's; the two readings are one; texts are of one line. No program here. No condition.
-/
import Derived.Test.YtdapimjhjnbfdaaDoorQ5
import Derived.Lib.AtoiAllCases
import Derived.Lib.ItoaLen
import Derived.Lib.ItoaMem
namespace Go.Proofs.YtdapimjhjnbfdaaDoor
open Go.RowKit

def endB (c : UInt8) : Bool := c == 47 || c == 91 || c == 93 || c == 61
def rshow : List UInt8 → Option (List UInt8 × List UInt8)
  | [] => some ([], [])
  | c :: r =>
    if endB c then some ([], c :: r)
    else if c ≠ 37 then (rshow r).map fun p => (c :: p.1, p.2)
    else match r with
      | x :: y :: r' => if hexI x.toNat < 0 ∨ hexI y.toNat < 0 then none else (rshow r').map fun p => (UInt8.ofNat (16 * hexI x.toNat + hexI y.toNat).toNat :: p.1, p.2)
      | _ => none
/-- A hex digit's number, small or capital; below 0: none. -/
def hexU (c : Nat) : Int := if 48 ≤ c ∧ c ≤ 57 then (c : Int) - 48 else if 97 ≤ c ∧ c ≤ 102 then (c : Int) - 87 else if 65 ≤ c ∧ c ≤ 70 then (c : Int) - 55 else -1
/-- What a hidden text tells. -/
def dec : List UInt8 → Option (List UInt8)
  | [] => some []
  | c :: r =>
    if c ≠ 37 then (dec r).map (c :: ·)
    else match r with
      | x :: y :: r' => if hexU x.toNat < 0 ∨ hexU y.toNat < 0 then none else (dec r').map (UInt8.ofNat (16 * hexU x.toNat + hexU y.toNat).toNat :: ·)
      | _ => none

theorem hexd_U : ∀ n : Fin 16, hexU (hexd n).toNat = n.val := by decide +kernel
theorem hexd_I : ∀ n : Fin 16, hexI (hexd n).toNat = n.val := by decide +kernel
theorem u8_parts (c : UInt8) : UInt8.ofNat (16 * ((c.toNat / 16 : Nat) : Int) + ((c.toNat % 16 : Nat) : Int)).toNat = c := by
  have : ((16 * ((c.toNat / 16 : Nat) : Int) + ((c.toNat % 16 : Nat) : Int)).toNat) = c.toNat := by omega
  rw [this]; simp
theorem hid_37 {c : UInt8} (h : hidB c.toNat = false) : c ≠ 37 := by rintro rfl; revert h; decide
theorem hid_end {c : UInt8} (h : hidB c.toNat = false) : endB c = false := by
  have : ∀ n : Fin 256, hidB (UInt8.ofNat n.val).toNat = false → endB (UInt8.ofNat n.val) = false := by decide +kernel
  have h2 := this ⟨c.toNat, c.toNat_lt⟩
  simp only [UInt8.ofNat_toNat] at h2
  exact h2 h
theorem hideL_cons (c : UInt8) (l : List UInt8) : hideL (c :: l) = hideB c ++ hideL l := by simp [hideL]

theorem dec_hide : ∀ b : List UInt8, dec (hideL b) = some b
  | [] => rfl
  | c :: b => by
    have ih := dec_hide b
    rw [hideL_cons]
    unfold hideB
    by_cases h : hidB c.toNat = true
    · rw [if_pos h]
      have h1 := hexd_U ⟨c.toNat / 16, by have := c.toNat_lt; omega⟩
      have h2 := hexd_U ⟨c.toNat % 16, by omega⟩
      simp only at h1 h2
      show dec (37 :: _ :: _ :: hideL b) = _
      rw [dec, if_neg (by simp), if_neg (by rw [h1, h2]; omega), ih, h1, h2, u8_parts]
      rfl
    · have h' : hidB c.toNat = false := by simpa using h
      rw [if_neg h]
      show dec (c :: hideL b) = _
      rw [dec.eq_def]
      show (if c ≠ 37 then _ else _) = _
      rw [if_pos (hid_37 h'), ih]
      rfl
theorem rshow_hide (e : List UInt8) (he : ∀ c t, e = c :: t → endB c = true) : ∀ b : List UInt8, rshow (hideL b ++ e) = some (b, e)
  | [] => by
    show rshow e = _
    cases e with
    | nil => rfl
    | cons c t =>
      rw [rshow.eq_def]
      show (if endB c = true then _ else _) = _
      rw [if_pos (he c t rfl)]
  | c :: b => by
    have ih := rshow_hide e he b
    rw [hideL_cons]
    unfold hideB
    by_cases h : hidB c.toNat = true
    · rw [if_pos h]
      have h1 := hexd_I ⟨c.toNat / 16, by have := c.toNat_lt; omega⟩
      have h2 := hexd_I ⟨c.toNat % 16, by omega⟩
      simp only at h1 h2
      show rshow (37 :: _ :: _ :: (hideL b ++ e)) = _
      rw [rshow, if_neg (by decide), if_neg (by simp), if_neg (by rw [h1, h2]; omega), ih, h1, h2, u8_parts]
      rfl
    · have h' : hidB c.toNat = false := by simpa using h
      rw [if_neg h]
      show rshow (c :: (hideL b ++ e)) = _
      rw [rshow.eq_def]
      show (if endB c = true then _ else if c ≠ 37 then _ else _) = _
      rw [if_neg (by rw [hid_end h']; simp), if_pos (hid_37 h'), ih]
      rfl
theorem hideL_inj {a b : List UInt8} (h : hideL a = hideL b) : a = b := by
  have := dec_hide a
  rw [h, dec_hide] at this
  injection this with this
  exact this.symm
/-- What is hidden has no byte of those. -/
theorem hide_plain (b : List UInt8) : ∀ c ∈ hideL b, endB c = false ∧ 32 ≤ c.toNat ∧ c.toNat ≠ 127 := by
  have hx : ∀ n : Fin 16, endB (hexd n) = false ∧ 32 ≤ (hexd n).toNat ∧ (hexd n).toNat ≠ 127 := by decide +kernel
  have hy : ∀ n : Fin 256, hidB (UInt8.ofNat n.val).toNat = false → endB (UInt8.ofNat n.val) = false ∧ 32 ≤ (UInt8.ofNat n.val).toNat ∧ (UInt8.ofNat n.val).toNat ≠ 127 := by decide +kernel
  intro c hc
  obtain ⟨d, _, hd⟩ := List.mem_flatMap.1 hc
  unfold hideB at hd
  split at hd
  · simp only [List.mem_cons, List.not_mem_nil, or_false] at hd
    rcases hd with rfl | rfl | rfl
    · decide
    · exact hx ⟨d.toNat / 16, by have := d.toNat_lt; omega⟩
    · exact hx ⟨d.toNat % 16, by omega⟩
  · rename_i h
    simp only [List.mem_cons, List.not_mem_nil, or_false] at hd
    subst hd
    have h2 := hy ⟨c.toNat, c.toNat_lt⟩
    simp only [UInt8.ofNat_toNat] at h2
    exact h2 (by simpa using h)

/-! numbers -/
def rnum : List UInt8 → Int → Option Int
  | [], n => some n
  | c :: r, n => if c.toNat < 48 ∨ 57 < c.toNat ∨ (9223372036854775807 - ((c.toNat : Int) - 48)) / 10 < n then none else rnum r (10 * n + ((c.toNat : Int) - 48))
theorem rnum_append : ∀ (l r : List UInt8) (n : Int), rnum (l ++ r) n = (rnum l n).bind (rnum r)
  | [], r, n => rfl
  | c :: l, r, n => by
    show rnum (c :: (l ++ r)) n = _
    rw [rnum, rnum]
    split
    · rfl
    · exact rnum_append l r _
theorem rnum_dec (u : Nat) (hu : u ≤ 9223372036854775807) : rnum (Lib.decDigits u) 0 = some (u : Int) := by
  induction u using Nat.strongRecOn with
  | _ u ih =>
    by_cases h : u < 10
    · rw [Lib.decDigits_one h]
      have e : (UInt8.ofNat (48 + u)).toNat = 48 + u := by simp; omega
      rw [rnum, e, if_neg (by omega), rnum]
      congr 1; omega
    · rw [Lib.decDigits, dif_neg h, rnum_append, ih (u / 10) (by omega) (by omega)]
      have e : (UInt8.ofNat (48 + u % 10)).toNat = 48 + u % 10 := by simp; omega
      show rnum [UInt8.ofNat (48 + u % 10)] _ = _
      rw [rnum, e, if_neg (by omega), rnum]
      congr 1; omega
theorem dec_digits (u : Nat) : ∀ c ∈ Lib.decDigits u, 48 ≤ c.toNat ∧ c.toNat ≤ 57 := by
  induction u using Nat.strongRecOn with
  | _ u ih =>
    by_cases h : u < 10
    · rw [Lib.decDigits_one h]
      intro c hc
      simp only [List.mem_cons, List.not_mem_nil, or_false] at hc
      subst hc
      simp; omega
    · rw [Lib.decDigits, dif_neg h]
      intro c hc
      rcases List.mem_append.1 hc with hc | hc
      · exact ih (u / 10) (by omega) c hc
      · simp only [List.mem_cons, List.not_mem_nil, or_false] at hc
        subst hc
        simp; omega
theorem dec_ne_nil (u : Nat) : Lib.decDigits u ≠ [] := by
  rw [Lib.decDigits]
  split <;> simp
theorem parse10_append : ∀ (l r : List UInt8) (n : Nat), Lib.parseUint10 n (l ++ r) = match Lib.parseUint10 n l with | .ok u => Lib.parseUint10 u r | e => e
  | [], r, n => rfl
  | c :: l, r, n => by
    show Lib.parseUint10 n (c :: (l ++ r)) = _
    simp only [Lib.parseUint10]
    split
    · split
      · rfl
      · split
        · rfl
        · exact parse10_append l r _
    · rfl
theorem parse10_dec (u : Nat) (hu : u ≤ 9223372036854775807) : Lib.parseUint10 0 (Lib.decDigits u) = .ok u := by
  induction u using Nat.strongRecOn with
  | _ u ih =>
    by_cases h : u < 10
    · rw [Lib.decDigits_one h]
      have e : (UInt8.ofNat (48 + u)).toNat = 48 + u := by simp; omega
      simp only [Lib.parseUint10, e]
      rw [if_pos (by omega), if_neg (by omega), if_neg (by omega)]
      congr 1; omega
    · rw [Lib.decDigits, dif_neg h, parse10_append, ih (u / 10) (by omega) (by omega)]
      have e : (UInt8.ofNat (48 + u % 10)).toNat = 48 + u % 10 := by simp; omega
      simp only [Lib.parseUint10, e]
      rw [if_pos (by omega), if_neg (by omega), if_neg (by omega)]
      congr 1; omega
theorem atoi_itoa (n : Int) (h0 : 0 ≤ n) (h1 : n ≤ 9223372036854775807) : Lib.atoiAll (Lib.itoa n) = .ok n := by
  obtain ⟨u, rfl⟩ : ∃ u : Nat, n = u := ⟨n.toNat, by omega⟩
  rw [Lib.itoa_nonneg]
  have hne := dec_ne_nil u
  have hd := dec_digits u
  have hp := parse10_dec u (by omega)
  cases hl : Lib.decDigits u with
  | nil => exact absurd hl hne
  | cons c r =>
    have hc := hd c (by rw [hl]; simp)
    rw [Lib.atoiAll_plain c r (by omega) (by omega)]
    unfold Lib.parseMag
    rw [if_neg (by simp), ← hl, hp]
    simp only [Lib.signless]
    rw [if_neg (by omega)]
/-! parsing -/
def showP (w : List UInt8) : Option (List UInt8) := match dec w with
  | none => none
  | some b => if hideL b = w then some b else none
theorem showP_hide (b : List UInt8) : showP (hideL b) = some b := by simp [showP, dec_hide]
theorem showP_some {w b : List UInt8} (h : showP w = some b) : w = hideL b := by
  unfold showP at h
  split at h
  · cases h
  · split at h
    · injection h with h; subst h; exact Eq.symm ‹_›
    · cases h

def St.key (k : List UInt8) : St := ⟨0, ⟨k.toArray⟩, ⟨#[]⟩, 0⟩
def St.num (n : Int) : St := ⟨1, ⟨#[]⟩, ⟨#[]⟩, n⟩
def St.id_ (k i : List UInt8) : St := ⟨2, ⟨k.toArray⟩, ⟨i.toArray⟩, 0⟩
theorem mayS_key (k : List UInt8) : mayS (St.key k) = true := by simp [mayS, St.key]
theorem mayS_num {n : Int} (h : 0 ≤ n) : mayS (St.num n) = true := by simp [mayS, St.num, h]
theorem mayS_id (k i : List UInt8) : mayS (St.id_ k i) = true := by simp [mayS, St.id_]
theorem writeS_key (k : List UInt8) : writeS (St.key k) = 47 :: hideL k := by simp [writeS, St.key]
theorem writeS_num (n : Int) : writeS (St.num n) = 91 :: (Lib.itoa n ++ [93]) := by simp [writeS, St.num]
theorem writeS_id (k i : List UInt8) : writeS (St.id_ k i) = 91 :: (hideL k ++ 61 :: (hideL i ++ [93])) := by simp [writeS, St.id_]
theorem St.cases {x : St} (hx : mayS x = true) : (∃ k, x = St.key k) ∨ (∃ n, 0 ≤ n ∧ x = St.num n) ∨ ∃ k i, x = St.id_ k i := by
  obtain ⟨k, t, i, a⟩ := x
  unfold mayS at hx
  simp only at hx
  split at hx
  · simp at hx
    exact .inl ⟨t.data.toList, by simp [St.key]; exact ⟨‹_›, hx.1, hx.2⟩⟩
  · split at hx
    · simp at hx
      exact .inr (.inl ⟨a, hx.1, by simp [St.num]; exact ⟨‹_›, hx.2.1, hx.2.2⟩⟩)
    · split at hx
      · simp at hx
        exact .inr (.inr ⟨t.data.toList, i.data.toList, by simp [St.id_]; exact ⟨‹_›, hx⟩⟩)
      · cases hx

def bracketV (w : List UInt8) : Option St :=
  if 61 ∈ w then (showP (w.takeWhile (· != 61))).bind fun k => (showP (w.dropWhile (· != 61)).tail).map fun i => St.id_ k i
  else match Lib.atoiAll w with
    | .ok n => if 0 ≤ n ∧ Lib.itoa n = w then some (St.num n) else none
    | _ => none
def pstep : List UInt8 → Option (St × List UInt8)
  | [] => none
  | c :: r =>
    if c = 47 then (showP (r.takeWhile fun x => x != 47 && x != 91)).map fun k => (St.key k, r.dropWhile fun x => x != 47 && x != 91)
    else if c = 91 then (bracketV (r.takeWhile (· != 93))).bind fun x => match r.dropWhile (· != 93) with
      | [] => none
      | _ :: t => some (x, t)
    else none
def closing (x : St) : List UInt8 → Option (St × List UInt8)
  | [] => none
  | c :: t => if c = 93 then some (x, t) else none
def rstep : List UInt8 → Option (St × List UInt8)
  | [] => none
  | c :: r =>
    if c ≠ 47 ∧ c ≠ 91 then none
    else match rshow r with
      | none => none
      | some (w, t) =>
        if c ≠ 91 then some (St.key w, t)
        else match t with
          | [] => none
          | d :: t' =>
            if d = 61 then match rshow t' with
              | none => none
              | some (i, t2) => closing (St.id_ w i) t2
            else match rnum w 0 with
              | none => none
              | some n => closing (St.num n) (d :: t')
def iter (f : List UInt8 → Option (St × List UInt8)) : Nat → List UInt8 → Option (List St)
  | _, [] => some []
  | 0, _ :: _ => none
  | n + 1, c :: r => match f (c :: r) with
    | none => none
    | some (x, t) => (iter f n t).map (x :: ·)
def progParse (s : List UInt8) : Option (List St) :=
  if s = [46] then some [] else match iter pstep s.length s with
    | none => none
    | some out => if out.length = 0 ∨ 512 < out.length then none else some out
def refParse (s : List UInt8) : Option (List St) :=
  if s = [46] then some [] else match iter rstep s.length s with
    | none => none
    | some out => if out.length = 0 ∨ textL out ≠ s then none else some out

theorem tw_app {p : UInt8 → Bool} : ∀ (w t : List UInt8), (∀ c ∈ w, p c = true) → (∀ c r, t = c :: r → p c = false) → (w ++ t).takeWhile p = w ∧ (w ++ t).dropWhile p = t
  | [], t, _, ht => by
    cases t with
    | nil => simp
    | cons c r => simp [ht c r rfl]
  | c :: w, t, hw, ht => by
    have h := tw_app w t (fun c hc => hw c (by simp [hc])) ht
    have hc := hw c (by simp)
    simp [hc, h.1, h.2]
theorem plain_47 {b : List UInt8} {c : UInt8} (h : c ∈ hideL b) : c ≠ 47 ∧ c ≠ 91 ∧ c ≠ 93 ∧ c ≠ 61 := by
  have := (hide_plain b c h).1
  simp [endB] at this
  exact ⟨this.1.1.1, this.1.1.2, this.1.2, this.2⟩
theorem digit_plain {u : Nat} {c : UInt8} (h : c ∈ Lib.decDigits u) : c ≠ 47 ∧ c ≠ 91 ∧ c ≠ 93 ∧ c ≠ 61 ∧ c ≠ 37 := by
  have := dec_digits u c h
  refine ⟨?_, ?_, ?_, ?_, ?_⟩ <;> (rintro rfl; revert this; decide)
theorem itoa_plain {n : Int} (h0 : 0 ≤ n) {c : UInt8} (h : c ∈ Lib.itoa n) : c ≠ 47 ∧ c ≠ 91 ∧ c ≠ 93 ∧ c ≠ 61 ∧ c ≠ 37 := by
  obtain ⟨u, rfl⟩ : ∃ u : Nat, n = u := ⟨n.toNat, by omega⟩
  rw [Lib.itoa_nonneg] at h
  exact digit_plain h

theorem bracket_id (k i : List UInt8) : bracketV (hideL k ++ 61 :: hideL i) = some (St.id_ k i) := by
  have h := tw_app (p := (· != 61)) (hideL k) (61 :: hideL i) (fun c hc => by simpa using (plain_47 hc).2.2.2) (fun c r e => by injection e with e _; subst e; rfl)
  unfold bracketV
  rw [if_pos (by simp), h.1, h.2]
  simp [showP_hide]
theorem bracket_num {n : Int} (h0 : 0 ≤ n) (h1 : n ≤ 9223372036854775807) : bracketV (Lib.itoa n) = some (St.num n) := by
  unfold bracketV
  rw [if_neg (fun h => (itoa_plain h0 h).2.2.2.1 rfl), atoi_itoa n h0 h1]
  simp [h0]
theorem bracket_some {w : List UInt8} {x : St} (h : bracketV w = some x) : mayS x = true ∧ writeS x = 91 :: (w ++ [93]) := by
  unfold bracketV at h
  split at h
  · rename_i hm
    cases hk : showP (w.takeWhile (· != 61)) with
    | none => rw [hk] at h; cases h
    | some k =>
      rw [hk] at h
      cases hi : showP (w.dropWhile (· != 61)).tail with
      | none => rw [hi] at h; cases h
      | some i =>
        rw [hi] at h
        simp only [Option.bind_some, Option.map_some, Option.some.injEq] at h
        subst h
        refine ⟨mayS_id k i, ?_⟩
        rw [writeS_id, ← showP_some hk, ← showP_some hi]
        have hd : ∀ l : List UInt8, 61 ∈ l → ∃ t, l.dropWhile (· != 61) = 61 :: t := by
          intro l
          induction l with
          | nil => intro h; cases h
          | cons c l ih =>
            intro h
            by_cases hc : c = 61
            · subst hc; exact ⟨l, by simp⟩
            · obtain ⟨t, ht⟩ := ih (by simpa [Ne.symm hc] using h)
              exact ⟨t, by simp [hc, ht]⟩
        obtain ⟨t, ht⟩ := hd w hm
        have hw := List.takeWhile_append_dropWhile (p := (· != 61)) (l := w)
        rw [ht] at hw ⊢
        rw [List.tail_cons]
        conv => rhs; rw [← hw]
        simp
  · split at h
    · rename_i n hn
      split at h
      · injection h with h
        subst h
        rename_i hc
        refine ⟨mayS_num hc.1, ?_⟩
        rw [writeS_num, hc.2]
      · cases h
    · cases h

theorem pstep_write {x : St} (hx : mayS x = true) (ha : x.a ≤ 9223372036854775807) (t : List UInt8) (ht : ∀ c r, t = c :: r → c = 47 ∨ c = 91) : pstep (writeS x ++ t) = some (x, t) := by
  rcases St.cases hx with ⟨k, rfl⟩ | ⟨n, hn, rfl⟩ | ⟨k, i, rfl⟩
  · rw [writeS_key]
    show pstep (47 :: (hideL k ++ t)) = _
    have h := tw_app (p := fun x => x != 47 && x != 91) (hideL k) t (fun c hc => by have := plain_47 hc; simp [this.1, this.2.1]) (fun c r e => by rcases ht c r e with h | h <;> simp [h])
    rw [pstep, if_pos rfl, h.1, h.2, showP_hide]
    rfl
  · rw [writeS_num]
    show pstep (91 :: ((Lib.itoa n ++ [93]) ++ t)) = _
    rw [List.append_assoc]
    have h := tw_app (p := (· != 93)) (Lib.itoa n) ([93] ++ t) (fun c hc => by simpa using (itoa_plain hn hc).2.2.1) (fun c r e => by injection e with e _; subst e; rfl)
    rw [pstep, if_neg (by decide), if_pos rfl, h.1, h.2, bracket_num hn ha]
    rfl
  · rw [writeS_id]
    show pstep (91 :: ((hideL k ++ 61 :: (hideL i ++ [93])) ++ t)) = _
    have e : (hideL k ++ 61 :: (hideL i ++ [93])) ++ t = (hideL k ++ 61 :: hideL i) ++ ([93] ++ t) := by simp
    rw [e]
    have h := tw_app (p := (· != 93)) (hideL k ++ 61 :: hideL i) ([93] ++ t) (fun c hc => by
      simp only [List.mem_append, List.mem_cons] at hc
      rcases hc with hc | rfl | hc
      · simpa using (plain_47 hc).2.2.1
      · decide
      · simpa using (plain_47 hc).2.2.1) (fun c r e => by injection e with e _; subst e; rfl)
    rw [pstep, if_neg (by decide), if_pos rfl, h.1, h.2, bracket_id]
    rfl
theorem pstep_some {l t : List UInt8} {x : St} (h : pstep l = some (x, t)) : mayS x = true ∧ l = writeS x ++ t := by
  cases l with
  | nil => cases h
  | cons c r =>
    rw [pstep] at h
    split at h
    · rename_i hc
      subst hc
      cases hk : showP (r.takeWhile fun x => x != 47 && x != 91) with
      | none => rw [hk] at h; cases h
      | some k =>
        rw [hk] at h
        simp only [Option.map_some, Option.some.injEq, Prod.mk.injEq] at h
        obtain ⟨rfl, rfl⟩ := h
        refine ⟨mayS_key k, ?_⟩
        rw [writeS_key, ← showP_some hk]
        simp
    · split at h
      · rename_i hc
        subst hc
        cases hb : bracketV (r.takeWhile (· != 93)) with
        | none => rw [hb] at h; cases h
        | some y =>
          rw [hb] at h
          simp only [Option.bind_some] at h
          split at h
          · cases h
          · rename_i d t' hd
            injection h with h
            injection h with h1 h2
            subst h1; subst h2
            obtain ⟨h1, h2⟩ := bracket_some hb
            refine ⟨h1, ?_⟩
            rw [h2]
            have hw := List.takeWhile_append_dropWhile (p := (· != 93)) (l := r)
            rw [hd] at hw
            have hd93 : d = 93 := by
              have := List.head_dropWhile_not (p := (· != (93 : UInt8))) (l := r) (by rw [hd]; simp)
              simpa [hd] using this
            subst hd93
            conv => lhs; rw [← hw]
            simp
      · cases h
theorem rstep_write {x : St} (hx : mayS x = true) (ha : x.a ≤ 9223372036854775807) (t : List UInt8) (ht : ∀ c r, t = c :: r → c = 47 ∨ c = 91) : rstep (writeS x ++ t) = some (x, t) := by
  have hx2 : ∀ n : Int, 0 ≤ n → hideL (Lib.itoa n) = Lib.itoa n := by
    intro n hn
    have : ∀ l : List UInt8, (∀ c ∈ l, 48 ≤ c.toNat ∧ c.toNat ≤ 57) → hideL l = l := by
      intro l
      induction l with
      | nil => intro _; rfl
      | cons c l ih =>
        intro h
        rw [hideL_cons, ih (fun d hd => h d (by simp [hd]))]
        have hc := h c (by simp)
        unfold hideB
        rw [if_neg]
        · rfl
        · simp [hidB]; omega
    obtain ⟨u, rfl⟩ : ∃ u : Nat, n = u := ⟨n.toNat, by omega⟩
    rw [Lib.itoa_nonneg]
    exact this _ (dec_digits u)
  rcases St.cases hx with ⟨k, rfl⟩ | ⟨n, hn, rfl⟩ | ⟨k, i, rfl⟩
  · rw [writeS_key]
    show rstep (47 :: (hideL k ++ t)) = _
    rw [rstep, if_neg (by simp), rshow_hide t (fun c r e => by rcases ht c r e with h | h <;> (subst h; rfl)) k]
    simp only
    rw [if_pos (by decide)]
  · rw [writeS_num]
    show rstep (91 :: ((Lib.itoa n ++ [93]) ++ t)) = _
    rw [List.append_assoc, rstep, if_neg (by simp), ← hx2 n hn, rshow_hide ([93] ++ t) (fun c r e => by injection e with e _; subst e; rfl) (Lib.itoa n)]
    simp only
    rw [if_neg (by decide)]
    show (if (93 : UInt8) = 61 then _ else _) = _
    rw [if_neg (by decide)]
    have hr : rnum (Lib.itoa n) 0 = some n := by
      obtain ⟨u, rfl⟩ : ∃ u : Nat, n = u := ⟨n.toNat, by omega⟩
      rw [Lib.itoa_nonneg, rnum_dec u (by have : (St.num (u : Int)).a = u := rfl; omega)]
    rw [hr]
    rfl
  · rw [writeS_id]
    show rstep (91 :: ((hideL k ++ 61 :: (hideL i ++ [93])) ++ t)) = _
    have e : (hideL k ++ 61 :: (hideL i ++ [93])) ++ t = hideL k ++ (61 :: (hideL i ++ ([93] ++ t))) := by simp
    rw [e, rstep, if_neg (by simp), rshow_hide _ (fun c r e => by injection e with e _; subst e; rfl) k]
    simp only
    rw [if_neg (by decide)]
    show (if True then _ else _) = _
    rw [if_pos trivial, rshow_hide ([93] ++ t) (fun c r e => by injection e with e _; subst e; rfl) i]
    rfl
theorem rnum_le : ∀ (l : List UInt8) (n m : Int), 0 ≤ n → n ≤ 9223372036854775807 → rnum l n = some m → 0 ≤ m ∧ m ≤ 9223372036854775807
  | [], n, m, h0, h1, h => by rw [rnum] at h; injection h with h; omega
  | c :: l, n, m, h0, h1, h => by
    rw [rnum] at h
    split at h
    · cases h
    · exact rnum_le l _ m (by omega) (by omega) h
theorem rstep_fit {l t : List UInt8} {x : St} (h : rstep l = some (x, t)) : x.a ≤ 9223372036854775807 := by
  have hcl : ∀ y l, closing y l = some (x, t) → y = x := by
    intro y l h
    cases l with
    | nil => cases h
    | cons c l =>
      rw [closing] at h
      split at h
      · injection h with h; injection h
      · cases h
  cases l with
  | nil => cases h
  | cons c r =>
    rw [rstep] at h
    split at h
    · cases h
    · split at h
      · cases h
      · split at h
        · injection h with h; injection h with h _; subst h; simp [St.key]
        · split at h
          · cases h
          · split at h
            · split at h
              · cases h
              · rw [← hcl _ _ h]; simp [St.id_]
            · split at h
              · cases h
              · rename_i n hn
                rw [← hcl _ _ h]
                exact (rnum_le _ _ _ (by omega) (by omega) hn).2
theorem iter_write {f : List UInt8 → Option (St × List UInt8)} (hf : ∀ x t, mayS x = true → x.a ≤ 9223372036854775807 → (∀ c r, t = c :: r → c = 47 ∨ c = 91) → f (writeS x ++ t) = some (x, t)) :
    ∀ (p : List St) (n : Nat), p.length ≤ n → (∀ x ∈ p, mayS x = true ∧ x.a ≤ 9223372036854775807) → iter f n (p.flatMap writeS) = some p
  | [], n, _, _ => by cases n <;> rfl
  | x :: p, 0, h, _ => by simp at h
  | x :: p, n + 1, h, hp => by
    have ih := iter_write hf p n (by simpa using h) (fun y hy => hp y (by simp [hy]))
    have hhd : ∀ y : St, ∃ c r, writeS y = c :: r ∧ (c = 47 ∨ c = 91) := by
      intro y
      unfold writeS
      split
      · exact ⟨_, _, rfl, .inr rfl⟩
      · split
        · exact ⟨_, _, rfl, .inr rfl⟩
        · exact ⟨_, _, rfl, .inl rfl⟩
    have h1 := hf x (p.flatMap writeS) (hp x (by simp)).1 (hp x (by simp)).2 (fun c r e => by
      cases p with
      | nil => simp at e
      | cons y p =>
        obtain ⟨c', r', e', hc⟩ := hhd y
        rw [List.flatMap_cons, e'] at e
        injection e with e _
        subst e; exact hc)
    rw [List.flatMap_cons]
    obtain ⟨c, r, e, _⟩ := hhd x
    rw [e] at h1 ⊢
    show iter f (n + 1) (c :: (r ++ p.flatMap writeS)) = _
    rw [iter]
    have h1' : f (c :: (r ++ p.flatMap writeS)) = some (x, p.flatMap writeS) := h1
    rw [h1']
    simp only
    rw [ih]
    rfl
theorem iter_some {f : List UInt8 → Option (St × List UInt8)} {Q : St → Prop} (hf : ∀ l x t, f l = some (x, t) → Q x ∧ l = writeS x ++ t) :
    ∀ (n : Nat) (l : List UInt8) (p : List St), iter f n l = some p → (∀ x ∈ p, Q x) ∧ l = p.flatMap writeS
  | n, [], p, h => by
    have : p = [] := by cases n <;> (rw [iter] at h; injection h with h; exact h.symm)
    subst this
    simp
  | 0, c :: r, p, h => by cases h
  | n + 1, c :: r, p, h => by
    rw [iter] at h
    split at h
    · cases h
    · rename_i x t hx
      cases hi : iter f n t with
      | none => rw [hi] at h; cases h
      | some q =>
        rw [hi] at h
        simp only [Option.map_some, Option.some.injEq] at h
        subst h
        obtain ⟨h1, h2⟩ := iter_some hf n t q hi
        obtain ⟨h3, h4⟩ := hf _ _ _ hx
        refine ⟨fun y hy => ?_, ?_⟩
        · simp only [List.mem_cons] at hy
          rcases hy with rfl | hy
          · exact h3
          · exact h1 y hy
        · rw [h4, h2]; simp
theorem iter_all {f : List UInt8 → Option (St × List UInt8)} {Q : St → Prop} (hf : ∀ l x t, f l = some (x, t) → Q x) :
    ∀ (n : Nat) (l : List UInt8) (p : List St), iter f n l = some p → ∀ x ∈ p, Q x
  | n, [], p, h => by
    have : p = [] := by cases n <;> (rw [iter] at h; injection h with h; exact h.symm)
    subst this
    simp
  | 0, c :: r, p, h => by cases h
  | n + 1, c :: r, p, h => by
    rw [iter] at h
    split at h
    · cases h
    · rename_i x t hx
      cases hi : iter f n t with
      | none => rw [hi] at h; cases h
      | some q =>
        rw [hi] at h
        simp only [Option.map_some, Option.some.injEq] at h
        subst h
        intro y hy
        simp only [List.mem_cons] at hy
        rcases hy with rfl | hy
        · exact hf _ _ _ hx
        · exact iter_all hf n t q hi y hy
theorem flat_ge (p : List St) : p.length ≤ (p.flatMap writeS).length := by
  induction p with
  | nil => simp
  | cons x p ih =>
    have : 1 ≤ (writeS x).length := by unfold writeS; split <;> (try split) <;> simp
    simp only [List.flatMap_cons, List.length_append, List.length_cons]
    omega
theorem mayL_iff {p : List St} : mayL p = true ↔ p.length ≤ 512 ∧ ∀ x ∈ p, mayS x = true := by simp [mayL]
theorem textL_dot {p : List St} (h : mayL p = true) (hd : textL p = [46]) : p = [] := by
  unfold textL at hd
  rw [if_pos h] at hd
  split at hd
  · exact List.eq_nil_of_length_eq_zero ‹_›
  · cases p with
    | nil => rfl
    | cons x p =>
      exfalso
      rw [List.flatMap_cons] at hd
      unfold writeS at hd
      split at hd
      · simp at hd
      · split at hd <;> simp at hd
theorem prog_back {p : List St} (hm : mayL p = true) (ha : ∀ x ∈ p, x.a ≤ 9223372036854775807) : progParse (textL p) = some p := by
  unfold progParse
  split
  · rename_i h
    rw [textL_dot hm h]
  · rename_i h
    rw [mayL_iff] at hm
    have ht : textL p = p.flatMap writeS := by
      unfold textL
      rw [if_pos (mayL_iff.2 hm)]
      split
      · rename_i h0
        exfalso; apply h
        unfold textL
        rw [if_pos (mayL_iff.2 hm), if_pos h0]
      · rfl
    have h0 : p.length ≠ 0 := by
      intro h0
      apply h
      unfold textL
      rw [if_pos (mayL_iff.2 hm), if_pos h0]
    rw [ht, iter_write (fun x t h1 h2 h3 => pstep_write h1 h2 t h3) p _ (flat_ge p) (fun x hx => ⟨hm.2 x hx, ha x hx⟩)]
    simp only
    have hlen := hm.1
    rw [if_neg (by omega)]
theorem prog_some {s : List UInt8} {p : List St} (h : progParse s = some p) : mayL p = true ∧ textL p = s := by
  unfold progParse at h
  split at h
  · rename_i hs
    injection h with h
    subst h
    exact ⟨by decide, by rw [hs]; rfl⟩
  · split at h
    · cases h
    · rename_i out ho
      split at h
      · cases h
      · injection h with h
        subst h
        rename_i hc
        obtain ⟨h1, h2⟩ := iter_some (Q := fun x => mayS x = true) (fun l x t => pstep_some) _ _ _ ho
        have hm : mayL out = true := mayL_iff.2 ⟨by omega, h1⟩
        refine ⟨hm, ?_⟩
        unfold textL
        rw [if_pos hm, if_neg (by omega), ← h2]
theorem ref_back {p : List St} (hm : mayL p = true) (ha : ∀ x ∈ p, x.a ≤ 9223372036854775807) : refParse (textL p) = some p := by
  unfold refParse
  split
  · rename_i h
    rw [textL_dot hm h]
  · rename_i h
    have hm' := mayL_iff.1 hm
    have h0 : p.length ≠ 0 := by
      intro h0
      apply h
      unfold textL
      rw [if_pos hm, if_pos h0]
    have ht : textL p = p.flatMap writeS := by
      unfold textL
      rw [if_pos hm, if_neg h0]
    have hi := iter_write (fun x t h1 h2 h3 => rstep_write h1 h2 t h3) p _ (flat_ge p) (fun x hx => ⟨hm'.2 x hx, ha x hx⟩)
    rw [← ht] at hi
    rw [hi]
    simp only
    rw [if_neg (fun hc => hc.elim h0 (fun h => h rfl))]
theorem ref_some {s : List UInt8} {p : List St} (h : refParse s = some p) : mayL p = true ∧ textL p = s ∧ ∀ x ∈ p, x.a ≤ 9223372036854775807 := by
  unfold refParse at h
  split at h
  · rename_i hs
    injection h with h
    subst h
    exact ⟨by decide, by rw [hs]; rfl, by simp⟩
  · split at h
    · cases h
    · rename_i out ho
      split at h
      · cases h
      · injection h with h
        subst h
        rename_i hc
        have ht : textL out = s := by
          by_cases hh : textL out = s
          · exact hh
          · exact absurd (.inr hh) hc
        have hne : s ≠ [] := by
          rintro rfl
          have : out = [] := by
            have h2 := ho
            rw [iter] at h2
            injection h2 with h2
            exact h2.symm
          subst this
          exact hc (.inl rfl)
        have hm : mayL out = true := by
          by_cases hh : mayL out = true
          · exact hh
          · exfalso; apply hne; rw [← ht]; unfold textL; rw [if_neg hh]
        exact ⟨hm, ht, iter_all (Q := fun x => x.a ≤ 9223372036854775807) (fun l x t => rstep_fit) _ _ _ ho⟩
theorem bracket_fit {w : List UInt8} {x : St} (h : bracketV w = some x) : x.a ≤ 9223372036854775807 := by
  unfold bracketV at h
  split at h
  · cases hk : showP (w.takeWhile (· != 61)) with
    | none => rw [hk] at h; cases h
    | some k =>
      rw [hk] at h
      cases hi : showP (w.dropWhile (· != 61)).tail with
      | none => rw [hi] at h; cases h
      | some i =>
        rw [hi] at h
        simp only [Option.bind_some, Option.map_some, Option.some.injEq] at h
        subst h
        simp [St.id_]
  · split at h
    · rename_i n hn
      split at h
      · injection h with h; subst h; exact (Lib.atoiAll_bounds hn).2
      · cases h
    · cases h
theorem pstep_fit {l t : List UInt8} {x : St} (h : pstep l = some (x, t)) : x.a ≤ 9223372036854775807 := by
  cases l with
  | nil => cases h
  | cons c r =>
    rw [pstep] at h
    split at h
    · cases hk : showP (r.takeWhile fun x => x != 47 && x != 91) with
      | none => rw [hk] at h; cases h
      | some k =>
        rw [hk] at h
        simp only [Option.map_some, Option.some.injEq, Prod.mk.injEq] at h
        obtain ⟨rfl, rfl⟩ := h
        simp [St.key]
    · split at h
      · cases hb : bracketV (r.takeWhile (· != 93)) with
        | none => rw [hb] at h; cases h
        | some y =>
          rw [hb] at h
          simp only [Option.bind_some] at h
          split at h
          · cases h
          · injection h with h
            injection h with h1 h2
            subst h1
            exact bracket_fit hb
      · cases h
theorem prog_fit {s : List UInt8} {p : List St} (h : progParse s = some p) : ∀ x ∈ p, x.a ≤ 9223372036854775807 := by
  unfold progParse at h
  split at h
  · injection h with h; subst h; simp
  · split at h
    · cases h
    · rename_i out ho
      split at h
      · cases h
      · injection h with h
        subst h
        exact iter_all (Q := fun x => x.a ≤ 9223372036854775807) (fun l x t => pstep_fit) _ _ _ ho
theorem parse_same (s : List UInt8) : progParse s = refParse s := by
  cases hp : progParse s with
  | some p =>
    obtain ⟨h1, h2⟩ := prog_some hp
    have := ref_back h1 (prog_fit hp)
    rw [h2] at this
    exact this.symm
  | none =>
    cases hr : refParse s with
    | none => rfl
    | some p =>
      obtain ⟨h1, h2, h3⟩ := ref_some hr
      have := prog_back h1 h3
      rw [h2, hp] at this
      cases this
theorem textL_inj {p q : List St} (hp : mayL p = true) (hq : mayL q = true) (ap : ∀ x ∈ p, x.a ≤ 9223372036854775807) (aq : ∀ x ∈ q, x.a ≤ 9223372036854775807) (h : textL p = textL q) : p = q := by
  have h1 := prog_back hp ap
  rw [h, prog_back hq aq] at h1
  injection h1 with h1
  exact h1.symm
theorem writeS_line {x : St} (hx : mayS x = true) : ∀ c ∈ writeS x, 32 ≤ c.toNat ∧ c.toNat ≠ 127 := by
  intro c hc
  have hd : ∀ n : Int, 0 ≤ n → ∀ c ∈ Lib.itoa n, 48 ≤ c.toNat ∧ c.toNat ≤ 57 := by
    intro n hn
    obtain ⟨u, rfl⟩ : ∃ u : Nat, n = u := ⟨n.toNat, by omega⟩
    rw [Lib.itoa_nonneg]
    exact dec_digits u
  rcases St.cases hx with ⟨k, rfl⟩ | ⟨n, hn, rfl⟩ | ⟨k, i, rfl⟩
  · rw [writeS_key] at hc
    simp only [List.mem_cons] at hc
    rcases hc with rfl | hc
    · decide
    · exact (hide_plain k c hc).2
  · rw [writeS_num] at hc
    simp only [List.mem_cons, List.mem_append, List.not_mem_nil, or_false] at hc
    rcases hc with rfl | hc | rfl
    · decide
    · have := hd n hn c hc; omega
    · decide
  · rw [writeS_id] at hc
    simp only [List.mem_cons, List.mem_append, List.not_mem_nil, or_false] at hc
    rcases hc with rfl | hc | rfl | hc | rfl
    · decide
    · exact (hide_plain k c hc).2
    · decide
    · exact (hide_plain i c hc).2
    · decide
theorem textL_line (p : List St) : ∀ c ∈ textL p, 32 ≤ c.toNat ∧ c.toNat ≠ 127 := by
  intro c hc
  unfold textL at hc
  split at hc
  · rename_i hm
    split at hc
    · simp at hc; subst hc; decide
    · obtain ⟨x, hx, hc⟩ := List.mem_flatMap.1 hc
      exact writeS_line ((mayL_iff.1 hm).2 x hx) c hc
  · simp at hc
end Go.Proofs.YtdapimjhjnbfdaaDoor
