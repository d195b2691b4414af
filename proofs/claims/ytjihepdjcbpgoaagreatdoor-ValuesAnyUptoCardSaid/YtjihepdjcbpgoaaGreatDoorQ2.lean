/-
  The reference's May over steps computes the same as paths.May. Conditions: the list reads as data, with bounded lengths.
  The reference's hide computes the same bytes as paths.hide. Conditions: texts of bounded length.
-/
import Derived.Test.YtjihepdjcbpgoaaGreatDoorP10
namespace Go.Proofs.YtjihepdjcbpgoaaGreatDoor
open Go.RowKit

theorem empty_iff (s : ByteArray) : s = ⟨#[]⟩ ↔ s.toList = [] := by
  have h := str_beq s ⟨#[]⟩
  have e : (⟨#[]⟩ : ByteArray).toList = [] := by rw [ByteArray.toList_eq]
  rw [e] at h
  constructor
  · intro hs; rw [hs]; exact e
  · intro hs; rw [hs] at h; simp at h; exact h
theorem mayS_iff {s : St} (hk : 0 ≤ s.k) : mayS s = true ↔ s.k ≤ 2 ∧ 0 ≤ s.a ∧ (0 < s.a → s.k = 1) ∧ (¬ s.t.toList = [] → ¬ s.k = 1) ∧ (¬ s.i.toList = [] → s.k = 2) := by
  obtain ⟨k, t, i, a⟩ := s
  simp only at hk
  simp only [mayS, ← empty_iff]
  by_cases h0 : k = 0
  · subst h0
    simp [St.mk.injEq]
    constructor
    · rintro ⟨rfl, rfl⟩; simp
    · rintro ⟨h1, h2, h3⟩; exact ⟨h3, by omega⟩
  · rw [if_neg h0]
    by_cases h1 : k = 1
    · subst h1
      simp [St.mk.injEq]
    · rw [if_neg h1]
      by_cases h2 : k = 2
      · subst h2
        simp [St.mk.injEq]
        constructor
        · rintro rfl; simp
        · rintro ⟨h3, h4⟩; omega
      · rw [if_neg h2]
        simp
        omega
theorem mayL_bad {l : List St} {k : Nat} {s : St} (hk : l[k]? = some s) (hs : mayS s = false) : mayL l = false := by
  have : l.all mayS = false := by
    rw [List.all_eq_false]
    exact ⟨s, List.mem_of_getElem? hk, by simp [hs]⟩
  simp [mayL, this]
theorem mayL_good {l : List St} (hl : l.length ≤ 512) (h : ∀ (j : Nat) (x : St), l[j]? = some x → mayS x = true) : mayL l = true := by
  have : l.all mayS = true := by
    rw [List.all_eq_true]
    intro x hx
    obtain ⟨j, hj⟩ := List.mem_iff_getElem?.1 hx
    exact h j x hj
  simp [mayL, this, hl]

end Go.Proofs.YtjihepdjcbpgoaaGreatDoor

namespace Go.Proofs.YtjihepdjcbpgoaaGreatDoor
open Go.RowKit

theorem h_sl (w : World) : ∀ n : Nat, n < 16 → (Instr.slice 9 (.string ⟨#[48, 49, 50, 51, 52, 53, 54, 55, 56, 57, 97, 98, 99, 100, 101, 102]⟩) (some (.int .u8 (n : Int))) (some (.int .u8 ((n : Int) + 1))) none).run Tryz.prog w = .ok (.string ⟨#[hexd n]⟩) w
  | 0, _ => by kernel_rfl
  | 1, _ => by kernel_rfl
  | 2, _ => by kernel_rfl
  | 3, _ => by kernel_rfl
  | 4, _ => by kernel_rfl
  | 5, _ => by kernel_rfl
  | 6, _ => by kernel_rfl
  | 7, _ => by kernel_rfl
  | 8, _ => by kernel_rfl
  | 9, _ => by kernel_rfl
  | 10, _ => by kernel_rfl
  | 11, _ => by kernel_rfl
  | 12, _ => by kernel_rfl
  | 13, _ => by kernel_rfl
  | 14, _ => by kernel_rfl
  | 15, _ => by kernel_rfl
  | n + 16, h => absurd h (by omega)
theorem hidB_cases {c : Int} (h : hidB c = true) : c < 32 ∨ c = 127 ∨ c = 37 ∨ c = 47 ∨ c = 91 ∨ c = 93 ∨ c = 61 := by simpa [hidB] using h
theorem hidB_not {c : Int} (h : hidB c = false) : ¬ c < 32 ∧ (c == 127) = false ∧ (c == 37) = false ∧ (c == 47) = false ∧ (c == 91) = false ∧ (c == 93) = false ∧ (c == 61) = false := by
  simp [hidB] at h
  simp
  omega

theorem ba_one (s : ByteArray) (k : Nat) (h : k < s.size) : s.extract k (k + 1) = ⟨#[s[k]]⟩ := by
  apply ByteArray.ext
  rw [ByteArray.data_extract]
  apply Array.toList_inj.1
  have h' : k < s.data.toList.length := by simpa using h
  simp only [Array.toList_extract]
  rw [List.extract_eq_take_drop, List.drop_eq_getElem_cons h', show k + 1 - k = 1 by omega]
  simp
  rfl

end Go.Proofs.YtjihepdjcbpgoaaGreatDoor
