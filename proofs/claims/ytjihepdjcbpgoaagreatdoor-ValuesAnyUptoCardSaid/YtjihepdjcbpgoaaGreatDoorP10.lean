/-
  Which paths may be: paths.may, May$1, slices.IndexFunc and ContainsFunc at it, paths.May. Conditions: the list reads as data, with bounded length.
  The text of a path: paths.write, paths.Text. Conditions: the list reads as data with bounded lengths; strconv's table of powers holds what its initialiser lays.
  The chapter's examples of paths' texts: lives answers true. Condition: strconv's table of powers holds what its initialiser lays.
-/
import Derived.Test.YtjihepdjcbpgoaaGreatDoorP7
import Derived.Test.YtjihepdjcbpgoaaGreatDoorMaps
import Derived.WalkSmall
import Derived.Lib.AppendIntMem
import Derived.Lib.ItoaLen
namespace Go.Proofs.YtjihepdjcbpgoaaGreatDoor
open Go.RowKit

def mayS (s : St) : Bool :=
  if s.k = 0 then decide (s = ⟨s.k, s.t, ⟨#[]⟩, 0⟩) else if s.k = 1 then (decide (0 ≤ s.a) && decide (s = ⟨s.k, ⟨#[]⟩, ⟨#[]⟩, s.a⟩)) else if s.k = 2 then decide (s = ⟨s.k, s.t, s.i, 0⟩) else false
def mayL (l : List St) : Bool := decide (l.length ≤ 512) && l.all mayS

/-- The first place of a step that may not be; -1: there is none. -/
def firstBad : List St → Int
  | [] => -1
  | s :: l => if mayS s then (if firstBad l = -1 then -1 else firstBad l + 1) else 0
theorem firstBad_at (l : List St) (k : Nat) (s : St) (h : ∀ j x, j < k → l[j]? = some x → mayS x = true) (hk : l[k]? = some s) (hs : mayS s = false) : firstBad l = k := by
  induction k generalizing l with
  | zero => cases l with
    | nil => cases hk
    | cons x l => simp at hk; subst hk; simp [firstBad, hs]
  | succ k ih => cases l with
    | nil => cases hk
    | cons x l =>
      have h0 := h 0 x (by omega) rfl
      have := ih l (fun j y hj hy => h (j + 1) y (by omega) (by simpa using hy)) (by simpa using hk)
      simp only [firstBad, h0, if_true]
      rw [if_neg (by omega), this]; omega
theorem firstBad_none (l : List St) (h : ∀ (j : Nat) (x : St), l[j]? = some x → mayS x = true) : firstBad l = -1 := by
  induction l with
  | nil => rfl
  | cons x l ih =>
    have h0 := h 0 x rfl
    have := ih (fun j y hy => h (j + 1) y (by simpa using hy))
    simp [firstBad, h0, this]
theorem firstBad_iff : ∀ l : List St, (firstBad l = -1 ∨ 0 ≤ firstBad l) ∧ (0 ≤ firstBad l ↔ l.all mayS = false)
  | [] => ⟨.inl rfl, by simp [firstBad]⟩
  | x :: l => by
    obtain ⟨h1, h2⟩ := firstBad_iff l
    by_cases hx : mayS x = true
    · have e : firstBad (x :: l) = if firstBad l = -1 then -1 else firstBad l + 1 := by simp only [firstBad]; rw [if_pos hx]
      rw [e]
      rw [List.all_cons, hx, Bool.true_and, ← h2]
      rcases h1 with h | h
      · simp [h]
      · rw [if_neg (by omega)]; omega
    · have e : firstBad (x :: l) = 0 := by simp only [firstBad]; rw [if_neg hx]
      rw [e]; simp [hx]
theorem firstBad_all (l : List St) : decide (0 ≤ firstBad l) = !l.all mayS := by
  have h := (firstBad_iff l).2
  cases ha : l.all mayS
  · simpa using h.2 ha
  · simp only [Bool.not_true, decide_eq_false_iff_not]
    intro h0; rw [h.1 h0] at ha; cases ha

end Go.Proofs.YtjihepdjcbpgoaaGreatDoor

namespace Go.Proofs.YtjihepdjcbpgoaaGreatDoor
open Go.RowKit

theorem ba_append (x y : Array UInt8) : ({ data := x } : ByteArray) ++ { data := y } = { data := x ++ y } := by
  apply ByteArray.ext
  simp

def writeS (s : St) : List UInt8 :=
  if s.k = 1 then [91] ++ Lib.itoa s.a ++ [93] else if s.k = 2 then [91] ++ hideL s.t.data.toList ++ [61] ++ hideL s.i.data.toList ++ [93] else [47] ++ hideL s.t.data.toList
def textL (l : List St) : List UInt8 := if mayL l then (if l.length = 0 then [46] else l.flatMap writeS) else []

/-- Steps whose places are numbers of 64 bits, too. -/
def Fit2 (l : List St) : Prop := Fit l ∧ ∀ s ∈ l, -9223372036854775808 ≤ s.a ∧ s.a ≤ 9223372036854775807
/-- The bytes of all texts together. -/
def total (l : List St) : Nat := (l.map fun s => s.t.size + s.i.size).sum

theorem writeS_len (s : St) (h0 : -9223372036854775808 ≤ s.a) (h1 : s.a ≤ 9223372036854775807) : (writeS s).length ≤ 3 * (s.t.size + s.i.size) + 24 := by
  have h2 := hideL_len s.t.data.toList
  have h3 := hideL_len s.i.data.toList
  have h4 := Lib.itoa_length_le s.a h0 h1
  simp at h2 h3
  have e1 : s.t.data.size = s.t.size := rfl
  have e2 : s.i.data.size = s.i.size := rfl
  unfold writeS
  split
  · simp; omega
  · split <;> simp <;> omega
theorem total_take_le : ∀ (l : List St) (k : Nat), total (l.take k) ≤ total l
  | [], k => by simp [total]
  | s :: l, 0 => by simp [total]
  | s :: l, k + 1 => by
    have := total_take_le l k
    simp only [total, List.take_succ_cons, List.map_cons, List.sum_cons] at *
    omega
theorem flat_write_len (l : List St) (h : ∀ s ∈ l, -9223372036854775808 ≤ s.a ∧ s.a ≤ 9223372036854775807) : (l.flatMap writeS).length ≤ 3 * total l + 24 * l.length := by
  induction l with
  | nil => simp
  | cons s l ih =>
    have h1 := writeS_len s (h s (by simp)).1 (h s (by simp)).2
    have h2 := ih fun x hx => h x (by simp [hx])
    simp only [List.flatMap_cons, List.length_append, total, List.map_cons, List.sum_cons, List.length_cons] at *
    omega

end Go.Proofs.YtjihepdjcbpgoaaGreatDoor

namespace Go.Proofs.YtjihepdjcbpgoaaGreatDoor
open Go.RowKit

def ex1 : List St := [⟨0, ⟨#[97]⟩, ⟨#[]⟩, 0⟩, ⟨1, ⟨#[]⟩, ⟨#[]⟩, 3⟩, ⟨2, ⟨#[120]⟩, ⟨#[34, 121, 34]⟩, 0⟩]
def ex2 : List St := [⟨0, ⟨#[97, 47, 98]⟩, ⟨#[]⟩, 0⟩]
theorem ex1_text : textL ex1 = [47, 97, 91, 51, 93, 91, 120, 61, 34, 121, 34, 93] := by decide +kernel
theorem ex2_text : textL ex2 = [47, 97, 37, 50, 102, 98] := by decide +kernel
theorem nil_text : textL [] = [46] := by decide +kernel
theorem fit_ex1 : Fit2 ex1 := by
  refine ⟨⟨by decide, ?_⟩, ?_⟩
  · intro s hs
    simp only [ex1, List.mem_cons, List.not_mem_nil, or_false] at hs
    rcases hs with rfl | rfl | rfl <;> decide
  · intro s hs
    simp only [ex1, List.mem_cons, List.not_mem_nil, or_false] at hs
    rcases hs with rfl | rfl | rfl <;> decide
theorem fit_ex2 : Fit2 ex2 := by
  refine ⟨⟨by decide, ?_⟩, ?_⟩
  · intro s hs
    simp only [ex2, List.mem_cons, List.not_mem_nil, or_false] at hs
    subst hs; decide
  · intro s hs
    simp only [ex2, List.mem_cons, List.not_mem_nil, or_false] at hs
    subst hs; decide

end Go.Proofs.YtjihepdjcbpgoaaGreatDoor
