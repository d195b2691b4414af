/-
  paths.Cmp and the reference's Cmp compute one function of two lists of steps. Conditions: the lists read as data, with bounded lengths.
  The reference's Cmp computes the same function as paths.Cmp; slices.Equal and Begins over steps. Conditions: the lists read as data, with bounded lengths.
  slices.Equal over steps, and paths.Begins. Conditions: the lists read as data, with bounded lengths.
-/
import Derived.Test.YtjihepdjcbpgoaaDoorP3
namespace Go.Proofs.YtjihepdjcbpgoaaDoor
open Go.RowKit

def cmpSts : List St → List St → Int
  | [], [] => 0
  | [], _ :: _ => -1
  | _ :: _, [] => 1
  | x :: l, y :: m => if cmpSt x y = 0 then cmpSts l m else cmpSt x y

/-- What k equal rounds leave. -/
theorem cmpSts_drop : ∀ (k : Nat) (l m : List St), (∀ j x y, j < k → l[j]? = some x → m[j]? = some y → cmpSt x y = 0) → k ≤ l.length → k ≤ m.length → cmpSts l m = cmpSts (l.drop k) (m.drop k)
  | 0, _, _, _, _, _ => rfl
  | k + 1, [], _, _, h1, _ => by simp at h1
  | k + 1, _ :: _, [], _, _, h2 => by simp at h2
  | k + 1, x :: l, y :: m, h, h1, h2 => by
    have h0 := h 0 x y (by omega) rfl rfl
    simp only [cmpSts, h0, if_true, List.drop_succ_cons]
    exact cmpSts_drop k l m (fun j a b hj ha hb => h (j + 1) a b (by omega) (by simpa using ha) (by simpa using hb)) (by simpa using h1) (by simpa using h2)
theorem cmpSts_at {l m : List St} {k : Nat} {x y : St} (h : ∀ j x y, j < k → l[j]? = some x → m[j]? = some y → cmpSt x y = 0) (hx : l[k]? = some x) (hy : m[k]? = some y) (hne : cmpSt x y ≠ 0) : cmpSts l m = cmpSt x y := by
  have h1 := (List.getElem?_eq_some_iff.1 hx)
  have h2 := (List.getElem?_eq_some_iff.1 hy)
  obtain ⟨h1, rfl⟩ := h1
  obtain ⟨h2, rfl⟩ := h2
  rw [cmpSts_drop k l m h (by omega) (by omega), List.drop_eq_getElem_cons h1, List.drop_eq_getElem_cons h2]
  simp [cmpSts, hne]

end Go.Proofs.YtjihepdjcbpgoaaDoor

namespace Go.Proofs.YtjihepdjcbpgoaaDoor
open Go.RowKit

def lessOf (s s' : St) : Bool :=
  if s.k = s'.k then if s.t = s'.t then if s.a = s'.a then Op.bytesLess s.i.toList s'.i.toList else decide (s.a < s'.a) else Op.bytesLess s.t.toList s'.t.toList else decide (s.k < s'.k)

theorem bytesLess_irrefl : ∀ (l : List UInt8), Op.bytesLess l l = false
  | [] => rfl
  | x :: l => by simp [Op.bytesLess, bytesLess_irrefl l]
theorem cmpStr_zero {a b : ByteArray} : cmpStr a b = 0 ↔ a = b := by
  unfold cmpStr
  constructor
  · intro h
    split at h
    · cases h
    · split at h
      · assumption
      · cases h
  · rintro rfl
    simp [bytesLess_irrefl]
theorem cmpInt_zero {a b : Int} : cmpInt a b = 0 ↔ a = b := by
  unfold cmpInt
  constructor
  · intro h
    split at h
    · cases h
    · split at h
      · cases h
      · omega
  · rintro rfl
    simp
theorem cmpSt_zero {s s' : St} : cmpSt s s' = 0 ↔ s = s' := by
  obtain ⟨k, t, i, a⟩ := s
  obtain ⟨k', t', i', a'⟩ := s'
  simp only [cmpSt, orInt, St.mk.injEq]
  constructor
  · intro h
    split at h
    · rename_i h1
      split at h
      · rename_i h2
        split at h
        · rename_i h3
          split at h
          · rename_i h4
            exact ⟨cmpInt_zero.1 h1, cmpStr_zero.1 h2, cmpStr_zero.1 h4, cmpInt_zero.1 h3⟩
          · contradiction
        · contradiction
      · contradiction
    · contradiction
  · rintro ⟨rfl, rfl, rfl, rfl⟩
    simp [cmpInt_zero.2, cmpStr_zero.2]
theorem cmpSt_less {s s' : St} (h : s ≠ s') : cmpSt s s' = if lessOf s s' then -1 else 1 := by
  have h0 : cmpSt s s' ≠ 0 := fun e => h (cmpSt_zero.1 e)
  obtain ⟨k, t, i, a⟩ := s
  obtain ⟨k', t', i', a'⟩ := s'
  simp only [cmpSt, orInt, lessOf] at *
  by_cases h1 : k = k'
  · simp only [h1, cmpInt_zero.2, if_true] at *
    by_cases h2 : t = t'
    · simp only [h2, cmpStr_zero.2, if_true] at *
      by_cases h3 : a = a'
      · simp only [h3, cmpInt_zero.2, if_true] at *
        split at h0
        · exact absurd rfl h0
        · rename_i h4
          rw [if_neg h4]
          unfold cmpStr at h4 ⊢
          split
          · rfl
          · split
            · rename_i hb he; subst he; exact absurd (by simp [bytesLess_irrefl]) h4
            · rfl
      · have h4 : ¬ cmpInt a a' = 0 := fun e => h3 (cmpInt_zero.1 e)
        rw [if_neg h4, if_neg h3]
        unfold cmpInt
        by_cases h5 : a < a'
        · simp [h5]
        · simp [h5]; omega
    · have h4 : ¬ cmpStr t t' = 0 := fun e => h2 (cmpStr_zero.1 e)
      rw [if_neg h4, if_neg h2]
      unfold cmpStr
      split
      · simp [*]
      · simp [*]
  · have h4 : ¬ cmpInt k k' = 0 := fun e => h1 (cmpInt_zero.1 e)
    rw [if_neg h4, if_neg h1]
    unfold cmpInt
    by_cases h5 : k < k'
    · simp [h5]
    · simp [h5]; omega

/-- The same in the walk's own spelling. -/
def lessB (s s' : St) : Bool :=
  if (s.k != s'.k) = true then decide (s.k < s'.k) else if (!(s.t.toList == s'.t.toList)) = true then Op.bytesLess s.t.toList s'.t.toList else if (s.a != s'.a) = true then decide (s.a < s'.a) else Op.bytesLess s.i.toList s'.i.toList
theorem lessB_eq (s s' : St) : lessB s s' = lessOf s s' := by
  unfold lessB lessOf
  rw [str_beq]
  by_cases h1 : s.k = s'.k <;> by_cases h2 : s.t = s'.t <;> by_cases h3 : s.a = s'.a <;> simp [h1, h2, h3]

end Go.Proofs.YtjihepdjcbpgoaaDoor

namespace Go.Proofs.YtjihepdjcbpgoaaDoor
open Go.RowKit
end Go.Proofs.YtjihepdjcbpgoaaDoor
