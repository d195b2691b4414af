/-
  The reference's May over steps computes the same as paths.May. Conditions: the list reads as data, with bounded lengths.
  The reference's hide computes the same bytes as paths.hide. Conditions: texts of bounded length.
-/
import Derived.Test.YtcpdogjcofkpcaaGreatDoorP10
namespace Go.Proofs.YtcpdogjcofkpcaaGreatDoor
open Go.RowKit

theorem empty_iff (s : ByteArray) : s = ⟨#[]⟩ ↔ s.toList = [] := by
  have h := str_beq s ⟨#[]⟩
  have e : (⟨#[]⟩ : ByteArray).toList = [] := by rw [ByteArray.toList_eq]
  rw [e] at h
  constructor
  · intro hs; rw [hs]; exact e
  · intro hs; rw [hs] at h; simp at h; exact h
theorem mayS_iff {s : St} (hk : 0 ≤ s.k) : mayS s = true ↔ s.k ≤ 2 ∧ 0 ≤ s.a ∧ (0 < s.a → s.k = 1) ∧ (¬ s.t.toList = [] → ¬ s.k = 1) ∧ (¬ s.i.toList = [] → s.k = 2) := by
  obtain ⟨k, t, i, a⟩ := s
  simp only at hk
  simp only [mayS, ← empty_iff]
  by_cases h0 : k = 0
  · subst h0
    simp [St.mk.injEq]
    constructor
    · rintro ⟨rfl, rfl⟩; simp
    · rintro ⟨h1, h2, h3⟩; exact ⟨h3, by omega⟩
  · rw [if_neg h0]
    by_cases h1 : k = 1
    · subst h1
      simp [St.mk.injEq]
    · rw [if_neg h1]
      by_cases h2 : k = 2
      · subst h2
        simp [St.mk.injEq]
        constructor
        · rintro rfl; simp
        · rintro ⟨h3, h4⟩; omega
      · rw [if_neg h2]
        simp
        omega
theorem mayL_bad {l : List St} {k : Nat} {s : St} (hk : l[k]? = some s) (hs : mayS s = false) : mayL l = false := by
  have : l.all mayS = false := by
    rw [List.all_eq_false]
    exact ⟨s, List.mem_of_getElem? hk, by simp [hs]⟩
  simp [mayL, this]
theorem mayL_good {l : List St} (hl : l.length ≤ 512) (h : ∀ (j : Nat) (x : St), l[j]? = some x → mayS x = true) : mayL l = true := by
  have : l.all mayS = true := by
    rw [List.all_eq_true]
    intro x hx
    obtain ⟨j, hj⟩ := List.mem_iff_getElem?.1 hx
    exact h j x hj
  simp [mayL, this, hl]

set_option maxRecDepth 100000 in
set_option maxHeartbeats 1600000 in
theorem refmay16 (w : World) (a : Option Addr) (cap : Nat) (l : List St) (h : Sts w 0 w.heap.size a l) (hl : l.length ≤ 1048576) (hk : ∀ s ∈ l, 0 ≤ s.k) :
    Calls Tryz.prog 110 #[.slice a l.length cap] w (Ret (.bool (mayL l)) w) := by
  by_cases hle : l.length ≤ 512
  · go_enter Tryz.func110, Tryz.ntmps110
    go_wp2_with fail
    go_loopw [2, 3, 4] (fun q i _ wr => q = .bool false ∧ ∃ k : Nat, k ≤ l.length ∧ i = .int .i64 k ∧ (∀ j x, j < k → l[j]? = some x → mayS x = true) ∧ Below w.heap.size w wr) (fun _ i _ _ => l.length - (intOf i).toNat)
    case atStart => exact ⟨rfl, 0, Nat.zero_le _, rfl, fun j x hj => absurd hj (by omega), Below.refl _ _⟩
    case round =>
      obtain ⟨rfl, k, hk1, rfl, hz, hbw⟩ := hrel
      have hsz := hbw.size
      have HZ := Lib.hid hz
      clear hz
      by_cases hlt : k < l.length
      · have hks : l[k]? = some l[k] := List.getElem?_eq_getElem hlt
        generalize l[k] = s at *
        have hk0 := hk s (List.mem_of_getElem? hks)
        obtain ⟨b, off, rfl, -, hb1, hb2, h0, h1, h2, h3⟩ := h.at_ hks
        rw [← hbw.cell (p := ⟨_, _, none⟩) hb2] at h0 h1 h2 h3
        have hbb : b < wr.heap.size := Nat.lt_of_lt_of_le hb2 hbw.size
        have hlt' : (k : Int) < (l.length : Int) := by omega
        have HK := Lib.hid hks
        clear h hks hk
        go_wp2_with fail
        all_goals first
          | (have hm : mayS s = true := by rw [mayS_iff hk0]; clear HZ HK hbw h0 h1 h2 h3; grind
             refine ⟨⟨rfl, k + 1, by omega, by go_num, fun j x hj hx => ?_, (by repeat (first | exact hbw | exact Below.refl _ _ | refine Below.drew ?_ | refine Below.setCell ?_ (by first | omega | (simp; done) | (simp; omega)) _ | refine Below.alloc ?_ (by first | omega | (simp; done) | (simp; omega)) _))⟩, by simp [intOf]; omega⟩
             rcases Nat.lt_or_ge j k with hj2 | hj2
             · exact HZ.out j x hj2 hx
             · obtain rfl : j = k := by omega
               rw [HK.out] at hx; injection hx with hx; rw [← hx]; exact hm)
          | (have hm : mayS s = false := by rw [← Bool.not_eq_true, mayS_iff hk0]; clear HZ HK hbw h0 h1 h2 h3; grind
             go_ret
             exact ⟨by rw [mayL_bad HK.out hm]; rfl, (by repeat (first | exact hbw | exact Below.refl _ _ | refine Below.drew ?_ | refine Below.setCell ?_ (by first | omega | (simp; done) | (simp; omega)) _ | refine Below.alloc ?_ (by first | omega | (simp; done) | (simp; omega)) _))⟩)
      · have hfin := Lib.hid (mayL_good hle fun j x hx => HZ.out j x (by have := (List.getElem?_eq_some_iff.1 hx).1; omega) hx)
        go_wp2_with fail
        go_ret
        exact ⟨by rw [hfin.out]; rfl, hbw⟩
  · have hfin := Lib.hid (show mayL l = false by simp [mayL, hle])
    go_enter Tryz.func110, Tryz.ntmps110
    go_wp2_with fail
    go_ret
    exact ⟨by rw [hfin.out]; rfl, Below.refl _ _⟩
end Go.Proofs.YtcpdogjcofkpcaaGreatDoor

namespace Go.Proofs.YtcpdogjcofkpcaaGreatDoor
open Go.RowKit

theorem h_sl (w : World) : ∀ n : Nat, n < 16 → (Instr.slice 9 (.string ⟨#[48, 49, 50, 51, 52, 53, 54, 55, 56, 57, 97, 98, 99, 100, 101, 102]⟩) (some (.int .u8 (n : Int))) (some (.int .u8 ((n : Int) + 1))) none).run Tryz.prog w = .ok (.string ⟨#[hexd n]⟩) w
  | 0, _ => by kernel_rfl
  | 1, _ => by kernel_rfl
  | 2, _ => by kernel_rfl
  | 3, _ => by kernel_rfl
  | 4, _ => by kernel_rfl
  | 5, _ => by kernel_rfl
  | 6, _ => by kernel_rfl
  | 7, _ => by kernel_rfl
  | 8, _ => by kernel_rfl
  | 9, _ => by kernel_rfl
  | 10, _ => by kernel_rfl
  | 11, _ => by kernel_rfl
  | 12, _ => by kernel_rfl
  | 13, _ => by kernel_rfl
  | 14, _ => by kernel_rfl
  | 15, _ => by kernel_rfl
  | n + 16, h => absurd h (by omega)
theorem hidB_cases {c : Int} (h : hidB c = true) : c < 32 ∨ c = 127 ∨ c = 37 ∨ c = 47 ∨ c = 91 ∨ c = 93 ∨ c = 61 := by simpa [hidB] using h
theorem hidB_not {c : Int} (h : hidB c = false) : ¬ c < 32 ∧ (c == 127) = false ∧ (c == 37) = false ∧ (c == 47) = false ∧ (c == 91) = false ∧ (c == 93) = false ∧ (c == 61) = false := by
  simp [hidB] at h
  simp
  omega

theorem ba_one (s : ByteArray) (k : Nat) (h : k < s.size) : s.extract k (k + 1) = ⟨#[s[k]]⟩ := by
  apply ByteArray.ext
  rw [ByteArray.data_extract]
  apply Array.toList_inj.1
  have h' : k < s.data.toList.length := by simpa using h
  simp only [Array.toList_extract]
  rw [List.extract_eq_take_drop, List.drop_eq_getElem_cons h', show k + 1 - k = 1 by omega]
  simp
  rfl

end Go.Proofs.YtcpdogjcofkpcaaGreatDoor
