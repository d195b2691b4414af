/-
  How a key's bytes are hidden in a path's text: paths.hidden and paths.hide as plain functions of bytes. Conditions: texts of bounded length.
-/
import Derived.Test.YtjihepdjcbpgoaaDoorP6
import Derived.Test.YtjihepdjcbpgoaaDoorB1
import Derived.Lib.Bytealg
namespace Go.Proofs.YtjihepdjcbpgoaaDoor
open Go.RowKit

def hidB (c : Int) : Bool := decide (c < 32 ∨ c = 127 ∨ c = 37 ∨ c = 47 ∨ c = 91 ∨ c = 93 ∨ c = 61)
def hexd (n : Nat) : UInt8 := if n < 10 then (48 + n).toUInt8 else (87 + n).toUInt8
def hideB (c : UInt8) : List UInt8 := if hidB c.toNat then [37, hexd (c.toNat / 16), hexd (c.toNat % 16)] else [c]
def hideL (l : List UInt8) : List UInt8 := l.flatMap hideB

theorem index_marks (c : UInt8) (h1 : ¬ (c.toNat : Int) < 32) (h2 : ¬ (c.toNat : Int) = 127) : decide ((0 : Int) ≤ Lib.indexByte [37, 47, 91, 93, 61] c) = hidB c.toNat := by
  revert h1 h2
  have : ∀ n : Fin 256, ¬ ((UInt8.ofNat n.val).toNat : Int) < 32 → ¬ ((UInt8.ofNat n.val).toNat : Int) = 127 → decide ((0 : Int) ≤ Lib.indexByte [37, 47, 91, 93, 61] (UInt8.ofNat n.val)) = hidB (UInt8.ofNat n.val).toNat := by decide +kernel
  have h := this ⟨c.toNat, c.toNat_lt⟩
  simpa using h

theorem h_and (c : UInt8) : bits BinOp.and IntKind.u8 (c.toNat : Int) 15 = (c.toNat : Int) % 16 := by
  have : ∀ n : Fin 256, bits BinOp.and IntKind.u8 (n.val : Int) 15 = (n.val : Int) % 16 := by decide +kernel
  exact this ⟨c.toNat, c.toNat_lt⟩
theorem h_idx (w : World) : ∀ n : Nat, n < 16 → (Instr.index 9 (.string ⟨#[48, 49, 50, 51, 52, 53, 54, 55, 56, 57, 97, 98, 99, 100, 101, 102]⟩) (.int .u8 (n : Int))).run Tryd.prog w = .ok (.int .u8 (hexd n).toNat) w
  | 0, _ => by kernel_rfl
  | 1, _ => by kernel_rfl
  | 2, _ => by kernel_rfl
  | 3, _ => by kernel_rfl
  | 4, _ => by kernel_rfl
  | 5, _ => by kernel_rfl
  | 6, _ => by kernel_rfl
  | 7, _ => by kernel_rfl
  | 8, _ => by kernel_rfl
  | 9, _ => by kernel_rfl
  | 10, _ => by kernel_rfl
  | 11, _ => by kernel_rfl
  | 12, _ => by kernel_rfl
  | 13, _ => by kernel_rfl
  | 14, _ => by kernel_rfl
  | 15, _ => by kernel_rfl
  | n + 16, h => absurd h (by omega)
theorem h_cvt (w : World) : ∀ n : Nat, n < 16 → (convert 5 9 (.int .u8 (hexd n).toNat)).run Tryd.prog w = .ok (.string ⟨#[hexd n]⟩) w
  | 0, _ => by kernel_rfl
  | 1, _ => by kernel_rfl
  | 2, _ => by kernel_rfl
  | 3, _ => by kernel_rfl
  | 4, _ => by kernel_rfl
  | 5, _ => by kernel_rfl
  | 6, _ => by kernel_rfl
  | 7, _ => by kernel_rfl
  | 8, _ => by kernel_rfl
  | 9, _ => by kernel_rfl
  | 10, _ => by kernel_rfl
  | 11, _ => by kernel_rfl
  | 12, _ => by kernel_rfl
  | 13, _ => by kernel_rfl
  | 14, _ => by kernel_rfl
  | 15, _ => by kernel_rfl
  | n + 16, h => absurd h (by omega)

theorem hideB_len (c : UInt8) : (hideB c).length ≤ 3 := by unfold hideB; split <;> simp
theorem hideL_len : ∀ l : List UInt8, (hideL l).length ≤ 3 * l.length
  | [] => by simp [hideL]
  | c :: l => by have := hideL_len l; have := hideB_len c; simp only [hideL, List.flatMap_cons, List.length_append, List.length_cons] at *; omega
theorem hideL_snoc (l : List UInt8) (c : UInt8) : hideL (l ++ [c]) = hideL l ++ hideB c := by simp [hideL]

end Go.Proofs.YtjihepdjcbpgoaaDoor
