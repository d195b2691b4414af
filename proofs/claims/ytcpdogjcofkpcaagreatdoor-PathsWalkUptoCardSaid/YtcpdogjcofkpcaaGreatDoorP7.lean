/-
  How a key's bytes are hidden in a path's text: paths.hidden and paths.hide as plain functions of bytes. Conditions: texts of bounded length.
-/
import Derived.Test.YtcpdogjcofkpcaaGreatDoorP6
import Derived.Test.YtcpdogjcofkpcaaGreatDoorB1
import Derived.Lib.Bytealg
namespace Go.Proofs.YtcpdogjcofkpcaaGreatDoor
open Go.RowKit

def hidB (c : Int) : Bool := decide (c < 32 ∨ c = 127 ∨ c = 37 ∨ c = 47 ∨ c = 91 ∨ c = 93 ∨ c = 61)
def hexd (n : Nat) : UInt8 := if n < 10 then (48 + n).toUInt8 else (87 + n).toUInt8
def hideB (c : UInt8) : List UInt8 := if hidB c.toNat then [37, hexd (c.toNat / 16), hexd (c.toNat % 16)] else [c]
def hideL (l : List UInt8) : List UInt8 := l.flatMap hideB

theorem index_marks (c : UInt8) (h1 : ¬ (c.toNat : Int) < 32) (h2 : ¬ (c.toNat : Int) = 127) : decide ((0 : Int) ≤ Lib.indexByte [37, 47, 91, 93, 61] c) = hidB c.toNat := by
  revert h1 h2
  have : ∀ n : Fin 256, ¬ ((UInt8.ofNat n.val).toNat : Int) < 32 → ¬ ((UInt8.ofNat n.val).toNat : Int) = 127 → decide ((0 : Int) ≤ Lib.indexByte [37, 47, 91, 93, 61] (UInt8.ofNat n.val)) = hidB (UInt8.ofNat n.val).toNat := by decide +kernel
  have h := this ⟨c.toNat, c.toNat_lt⟩
  simpa using h

set_option maxHeartbeats 400000 in
theorem hidden_c (w : World) (c : UInt8) :
    Calls Tryz.prog 204 #[.int .u8 c.toNat] w fun e w' => e = .returned (.bool (hidB c.toNat)) ∧ w = w' := by
  by_cases h1 : (c.toNat : Int) < 32
  · have hd := Lib.hid (show hidB c.toNat = true by simp only [hidB, decide_eq_true_eq]; exact .inl h1)
    go_enter Tryz.func204, Tryz.ntmps204
    go_wp2
    go_ret
    exact ⟨by rw [hd.out]; rfl, rfl⟩
  · by_cases h2 : (c.toNat : Int) = 127
    · have hd := Lib.hid (show hidB c.toNat = true by simp only [hidB, decide_eq_true_eq]; exact .inr (.inl h2))
      have h2' : ((c.toNat : Int) == 127) = true := by simp [h2]
      clear h2
      go_enter Tryz.func204, Tryz.ntmps204
      go_wp2
      go_ret
      exact ⟨by rw [hd.out]; rfl, rfl⟩
    · have hi := Lib.hid (index_marks c h1 h2)
      have h2' : ((c.toNat : Int) == 127) = false := by simp [h2]
      clear h2
      go_enter Tryz.func204, Tryz.ntmps204
      go_wp2_with (go_at_call 224; refine (Tryz.strings_IndexByte _ _ _).mono ?_; rintro e w1 ⟨rfl, rfl⟩)
      go_ret
      exact ⟨by rw [← hi.out]; rfl, rfl⟩

theorem h_and (c : UInt8) : bits BinOp.and IntKind.u8 (c.toNat : Int) 15 = (c.toNat : Int) % 16 := by
  have : ∀ n : Fin 256, bits BinOp.and IntKind.u8 (n.val : Int) 15 = (n.val : Int) % 16 := by decide +kernel
  exact this ⟨c.toNat, c.toNat_lt⟩
theorem h_idx (w : World) : ∀ n : Nat, n < 16 → (Instr.index 9 (.string ⟨#[48, 49, 50, 51, 52, 53, 54, 55, 56, 57, 97, 98, 99, 100, 101, 102]⟩) (.int .u8 (n : Int))).run Tryz.prog w = .ok (.int .u8 (hexd n).toNat) w
  | 0, _ => by kernel_rfl
  | 1, _ => by kernel_rfl
  | 2, _ => by kernel_rfl
  | 3, _ => by kernel_rfl
  | 4, _ => by kernel_rfl
  | 5, _ => by kernel_rfl
  | 6, _ => by kernel_rfl
  | 7, _ => by kernel_rfl
  | 8, _ => by kernel_rfl
  | 9, _ => by kernel_rfl
  | 10, _ => by kernel_rfl
  | 11, _ => by kernel_rfl
  | 12, _ => by kernel_rfl
  | 13, _ => by kernel_rfl
  | 14, _ => by kernel_rfl
  | 15, _ => by kernel_rfl
  | n + 16, h => absurd h (by omega)
theorem h_cvt (w : World) : ∀ n : Nat, n < 16 → (convert 5 9 (.int .u8 (hexd n).toNat)).run Tryz.prog w = .ok (.string ⟨#[hexd n]⟩) w
  | 0, _ => by kernel_rfl
  | 1, _ => by kernel_rfl
  | 2, _ => by kernel_rfl
  | 3, _ => by kernel_rfl
  | 4, _ => by kernel_rfl
  | 5, _ => by kernel_rfl
  | 6, _ => by kernel_rfl
  | 7, _ => by kernel_rfl
  | 8, _ => by kernel_rfl
  | 9, _ => by kernel_rfl
  | 10, _ => by kernel_rfl
  | 11, _ => by kernel_rfl
  | 12, _ => by kernel_rfl
  | 13, _ => by kernel_rfl
  | 14, _ => by kernel_rfl
  | 15, _ => by kernel_rfl
  | n + 16, h => absurd h (by omega)

theorem hideB_len (c : UInt8) : (hideB c).length ≤ 3 := by unfold hideB; split <;> simp
theorem hideL_len : ∀ l : List UInt8, (hideL l).length ≤ 3 * l.length
  | [] => by simp [hideL]
  | c :: l => by have := hideL_len l; have := hideB_len c; simp only [hideL, List.flatMap_cons, List.length_append, List.length_cons] at *; omega
theorem hideL_snoc (l : List UInt8) (c : UInt8) : hideL (l ++ [c]) = hideL l ++ hideB c := by simp [hideL]

set_option maxRecDepth 100000 in
set_option maxHeartbeats 1600000 in
theorem hide_c (w : World) (s : ByteArray) (hs : s.size ≤ 1048576) :
    Calls Tryz.prog 176 #[.string s] w (Ret (.string ⟨(hideL s.data.toList).toArray⟩) w) := by
  go_enter Tryz.func176, Tryz.ntmps176
  go_wp2_with fail
  go_loopw [4, 5, 8] (fun _ _ i wr => ∃ k : Nat, k ≤ s.size ∧ i = .int .i64 k ∧ Bld w.heap.size w.heap.size (hideL (s.data.toList.take k)) wr ∧ Below w.heap.size w wr) (fun _ _ i _ => s.size - (intOf i).toNat)
  case atStart => exact ⟨0, Nat.zero_le _, rfl, fresh_l w, (Below.refl _ _).alloc (Nat.le_refl _) _⟩
  case round =>
    obtain ⟨k, hk, rfl, hB, hbw⟩ := hrel
    have hsz := hbw.size
    by_cases hlt : k < s.size
    · have hT := Lib.hid (show s.data.toList.take (k + 1) = s.data.toList.take k ++ [s[k]] by rw [List.take_succ_eq_append_getElem (by simpa using hlt)]; rfl)
      have hl0 := hideL_len (s.data.toList.take k)
      have hl1 : (hideL (s.data.toList.take k)).length + 1 ≤ 140737488355328 := by simp at hl0; omega
      have hl3 : (hideL (s.data.toList.take k)).length + (({ data := #[37] } : ByteArray) ++ { data := #[hexd (s[k].toNat / 16)] } ++ { data := #[hexd (s[k].toNat % 16)] }).size ≤ 140737488355328 := by
        have : (({ data := #[37] } : ByteArray) ++ { data := #[hexd (s[k].toNat / 16)] } ++ { data := #[hexd (s[k].toNat % 16)] }).size = 3 := rfl
        rw [this]; simp at hl0; omega
      clear hl0
      have e2 := h_and s[k]
      have e3 : ∀ w, (Instr.index 9 (.string ⟨#[48, 49, 50, 51, 52, 53, 54, 55, 56, 57, 97, 98, 99, 100, 101, 102]⟩) (.int .u8 ((s[k].toNat : Int) / 16))).run Tryz.prog w = .ok (.int .u8 (hexd (s[k].toNat / 16)).toNat) w := fun w => h_idx w (s[k].toNat / 16) (by have := s[k].toNat_lt; omega)
      have e4 : ∀ w, (Instr.index 9 (.string ⟨#[48, 49, 50, 51, 52, 53, 54, 55, 56, 57, 97, 98, 99, 100, 101, 102]⟩) (.int .u8 ((s[k].toNat : Int) % 16))).run Tryz.prog w = .ok (.int .u8 (hexd (s[k].toNat % 16)).toNat) w := fun w => h_idx w (s[k].toNat % 16) (by omega)
      have e5 := fun w => h_cvt w (s[k].toNat / 16) (by have := s[k].toNat_lt; omega)
      have e6 := fun w => h_cvt w (s[k].toNat % 16) (by omega)
      go_wp2_with (go_at_call 204; refine (hidden_c _ _).mono ?_; rintro e w1 ⟨rfl, rfl⟩)
      · have hh := Lib.hid ‹hidB (s[k].toNat : Int) = true›
        go_region_held3 (fun _ => True) (trivial) (first | (go_at_call 134; refine (wstring_l _ _ _ _ wr.drew hB hl3 hsz).mono ?_; rintro e w2 ⟨rfl, hB2, hb2, hk2⟩))
        all_goals
          go_wp2
          refine ⟨⟨k + 1, by omega, by go_num, ?_, hbw.drew.trans hb2⟩, by simp [intOf]; omega⟩
          rw [hT.out, hideL_snoc]
          unfold hideB
          rw [if_pos hh.out]
          exact hB2
      · have hh := Lib.hid ‹hidB (s[k].toNat : Int) = false›
        refine (wbyte_l _ _ _ _ _ hB hl1 hsz).mono ?_
        rintro e w2 ⟨rfl, hB2, hb2, hk2⟩
        go_wp2
        refine ⟨⟨k + 1, by omega, by go_num, ?_, hbw.trans hb2⟩, by simp [intOf]; omega⟩
        rw [hT.out, hideL_snoc]
        unfold hideB
        rw [if_neg (by rw [hh.out]; simp)]
        exact hB2
    · have hk2 := Lib.hid (show s.data.toList.take k = s.data.toList by rw [List.take_of_length_le]; simp; omega)
      go_wp2_with (go_at_call 96; refine (bstring_l _ _ _ _ hB hsz).mono ?_; rintro e w2 ⟨rfl, hB2, hb2, hk3⟩)
      go_ret
      exact ⟨by rw [hk2.out]; rfl, hbw.trans hb2⟩
end Go.Proofs.YtcpdogjcofkpcaaGreatDoor
