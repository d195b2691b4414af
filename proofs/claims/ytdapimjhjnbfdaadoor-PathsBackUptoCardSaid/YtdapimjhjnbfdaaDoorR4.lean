/-
  strings.IndexAny at '/[' and at ']' of every text, as what stands ahead of the first such byte. Conditions: texts of bounded length.
-/
import Derived.Test.YtdapimjhjnbfdaaDoorR3
namespace Go.Proofs.YtdapimjhjnbfdaaDoor
open Go.RowKit

theorem dec_wide (s : ByteArray) (i : Nat) (h : i < s.size) (ha : 128 ≤ (s[i]'h).toNat) : ∀ k, k < (Utf8.decode s i).2 → i + k < s.size ∧ 128 ≤ (s.get! (i + k)).toNat := by
  have hn : ¬ (s[i]'h).toNat < 128 := by omega
  have h0 : i + 0 < s.size ∧ 128 ≤ (s.get! (i + 0)).toNat := ⟨by omega, by rw [get_at s i h]; exact ha⟩
  simp only [Utf8.decode, get_at s i h, hn, if_false]
  intro k hk
  repeat' split at hk
  all_goals simp_all
  all_goals (
    have hk4 : k = 0 ∨ k = 1 ∨ k = 2 ∨ k = 3 := by omega
    rcases hk4 with rfl | rfl | rfl | rfl <;> simp_all <;> omega)
theorem get_bang {s : ByteArray} {j : Nat} {b : UInt8} (h : s.data.toList[j]? = some b) : s.get! j = b ∧ j < s.size := by
  have hj : j < s.size := by have := (List.getElem?_eq_some_iff.1 h).1; simpa using this
  refine ⟨?_, hj⟩
  rw [ByteArray.get!, getElem!_pos s.data j (by simpa using hj)]
  have := (List.getElem?_eq_some_iff.1 h).2
  simpa using this
theorem noAny_wide {s : ByteArray} {i n : Nat} (h : Lib.NoAny s.data.toList [47, 91] i) (hw : ∀ k, k < n → i + k < s.size ∧ 128 ≤ (s.get! (i + k)).toNat) : Lib.NoAny s.data.toList [47, 91] (i + n) := by
  intro j b hj hb
  rcases Nat.lt_or_ge j i with hji | hji
  · exact h j b hji hb
  · have := (hw (j - i) (by omega)).2
    rw [show i + (j - i) = j by omega, (get_bang hb).1] at this
    have h1 : b ≠ 47 := by rintro rfl; revert this; decide
    have h2 : b ≠ 91 := by rintro rfl; revert this; decide
    simp [h1, h2]

set_option maxRecDepth 100000 in
set_option maxHeartbeats 3200000 in
theorem idxany_short (w : World) (s : ByteArray) (h8 : s.size ≤ 8) : Calls Tryd.prog 50 #[.string s, .string sl] w (Ret (.int .i64 (Lib.indexAny s.data.toList [47, 91])) w) := by
  have h8z : decide ((8 : Int) < (s.size : Int)) = false := decide_eq_false (by omega)
  go_enter Tryd.func50, Tryd.ntmps50
  go_wp2_with (go_at_call 85; refine (Tryd.strings_shouldUseASCIISet _ _).mono ?_; rintro e w' ⟨rfl, rfl⟩; rw [h8z])
  obtain ⟨B, hB⟩ : ∃ B, B = w'.heap.size := ⟨_, rfl⟩
  rw [← hB]
  go_loopg [9, 10] s.size (fun g _ _ wx => ∃ i : Nat, i + g = s.size ∧ wx.heap[B]? = some (.stringIter s i) ∧ Below B w' wx ∧ Lib.NoAny s.data.toList [47, 91] i)
  case atStart => exact ⟨0, by omega, by rw [hB]; exact World.iter_heap _ _ _, by rw [hB]; exact (Below.refl _ _).alloc (Nat.le_refl _) _, Lib.NoAny.zero _ _⟩
  case round =>
    obtain ⟨i, hig, hit, hbw, hno⟩ := hrel
    have HN := Lib.hid hno
    have HB := Lib.hid hB
    clear hno hB
    by_cases hi : i < s.size
    · have hst := Lib.iterAt_heap wr B s i
      by_cases ha : (s[i]'hi).toNat < 128
      · have hnx := fun ty => Lib.run_next_ascii_at (P := Tryd.prog) wr B s i ty hit hi ha
        have HS := Lib.hid (hst (i + 1) hit)
        have hb2 := Lib.below_iterAt hbw (Nat.le_refl _) s (i + 1)
        have hx := Lib.hid (Lib.data_getElem? s i hi)
        generalize s[i]'hi = x at *
        have hcon := Lib.contains_iff_indexByte [47, 91] x
        have hback : ((x.toNat : Int)).toNat.toUInt8 = x := by simp
        have HC := fun W => Lib.hid (Tryd.strings_IndexRune_ascii sl (x.toNat : Int) W (by omega) (by omega))
        rw [hback] at HC
        have hsl : sl.data.toList = [47, 91] := rfl
        rw [hsl] at HC
        clear hst hit hbw
        cases hin : ([47, 91] : List UInt8).contains x
        · rw [hin] at hcon
          have hlt : decide ((0 : Int) ≤ Lib.indexByte [47, 91] x) = false := hcon.symm
          have HM := Lib.hid (HN.out.succ hx.out hin)
          clear hcon hin
          go_wp2_with (go_at_call 84; refine (HC _).out.mono ?_; rintro e w2 ⟨rfl, rfl⟩)
          go_roundg (s.size - (i + 1))
          case measure => omega
          case rel => exact ⟨i + 1, by omega, HS.out, hb2, HM.out⟩
        · rw [hin] at hcon
          have hge : decide ((0 : Int) ≤ Lib.indexByte [47, 91] x) = true := hcon.symm
          have HM := Lib.hid (Lib.indexAny_hit HN.out hx.out hin)
          clear hcon hin
          go_wp2_with (go_at_call 84; refine (HC _).out.mono ?_; rintro e w2 ⟨rfl, rfl⟩)
          go_ret
          exact ⟨by rw [HM.out]; rfl, by rw [← HB.out]; exact hb2⟩
      · have hdh := decode_high s i hi (by omega)
        have hdl := decode_le s i
        have hdw := dec_wide s i hi (by omega)
        have hnx := fun ty => Lib.run_next_any_at (P := Tryd.prog) wr B s i ty hit hi
        have HM := Lib.hid (noAny_wide HN.out hdw)
        have HW := Lib.hid (hdw ((Utf8.decode s i).2 - 1) (by omega)).1
        have HS := Lib.hid (hst (i + (Utf8.decode s i).2) hit)
        have hb2 := Lib.below_iterAt hbw (Nat.le_refl _) s (i + (Utf8.decode s i).2)
        generalize (Utf8.decode s i).1 = r at *
        generalize (Utf8.decode s i).2 = n at *
        have HC := fun W => Lib.hid (idxrune_high W (r : Int) (by omega) (by omega))
        obtain ⟨hr1, hn1⟩ := hdh
        have hfin : Hid (i + n ≤ s.size) := Lib.hid (by have := HW.out; omega)
        have hn2 := Lib.hid hn1
        clear hst hit hbw hdw ha hn1 hdl
        go_wp2_with (go_at_call 84; refine (HC _).out.mono ?_; rintro e w2 ⟨rfl, hb3⟩)
        have hB2 : B < (wr.iterAt B s (i + n)).heap.size := (Array.getElem?_eq_some_iff.1 HS.out).1
        go_roundg (s.size - (i + n))
        case measure => have := hfin.out; have := hn2.out; omega
        case rel => exact ⟨i + n, by have := hfin.out; omega, (hb3.block B hB2).trans HS.out, hb2.trans (hb3.mono (by omega)), HM.out⟩
    · have hnx := fun ty => Lib.run_next_end_at (P := Tryd.prog) wr B s i ty hit hi
      have hv := Lib.hid (show Lib.indexAny s.data.toList [47, 91] = -1 from Lib.indexAny_none (by rw [← Lib.size_eq, show s.size = i by omega]; exact HN.out))
      go_wp2_with fail
      go_ret
      exact ⟨by rw [hv.out]; rfl, by rw [← HB.out]; exact hbw⟩
theorem idxany_sl (w : World) (s : ByteArray) (hs : s.size ≤ 1048576) : Calls Tryd.prog 50 #[.string s, .string sl] w (Ret (.int .i64 (Lib.indexAny s.data.toList [47, 91])) w) := by
  by_cases h8 : s.size ≤ 8
  · exact idxany_short w s h8
  · exact (Tryd.strings_IndexAny_long (fun _ => by kernel_rfl) s sl w (by decide) (by omega) (by omega) (by decide) (fun j b hb => by
      have : b ∈ ([47, 91] : List UInt8) := List.mem_of_getElem? hb
      simp at this
      rcases this with rfl | rfl <;> decide)).mono fun e w' ⟨he, hw⟩ => ⟨he, by rw [hw]; exact ((Below.refl _ _).alloc (Nat.le_refl _) _).alloc (by simp) _⟩
theorem idxany_br (w : World) (s : ByteArray) (hs : s.size ≤ 1048576) : Calls Tryd.prog 50 #[.string s, .string ⟨#[93]⟩] w (Ret (.int .i64 (Lib.indexAny s.data.toList [93])) w) :=
  (Tryd.strings_IndexAny_one s ⟨#[93]⟩ w rfl (fun j b hb => by
      have : b ∈ ([93] : List UInt8) := List.mem_of_getElem? hb
      simp at this
      subst this; decide)).mono fun e w' ⟨he, hw⟩ => ⟨he, by rw [hw]; exact Below.refl _ _⟩
end Go.Proofs.YtdapimjhjnbfdaaDoor
