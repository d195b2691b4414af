/-
  The chapter's examples of paths' texts: lives answers true. Condition: strconv's table of powers holds what its initialiser lays.
-/
import Derived.Test.YtdapimjhjnbfdaaDoorP9
namespace Go.Proofs.YtdapimjhjnbfdaaDoor
open Go.RowKit

def ex1 : List St := [⟨0, ⟨#[97]⟩, ⟨#[]⟩, 0⟩, ⟨1, ⟨#[]⟩, ⟨#[]⟩, 3⟩, ⟨2, ⟨#[120]⟩, ⟨#[34, 121, 34]⟩, 0⟩]
def ex2 : List St := [⟨0, ⟨#[97, 47, 98]⟩, ⟨#[]⟩, 0⟩]
theorem ex1_text : textL ex1 = [47, 97, 91, 51, 93, 91, 120, 61, 34, 121, 34, 93] := by decide +kernel
theorem ex2_text : textL ex2 = [47, 97, 37, 50, 102, 98] := by decide +kernel
theorem nil_text : textL [] = [46] := by decide +kernel
theorem fit_ex1 : Fit2 ex1 := by
  refine ⟨⟨by decide, ?_⟩, ?_⟩
  · intro s hs
    simp only [ex1, List.mem_cons, List.not_mem_nil, or_false] at hs
    rcases hs with rfl | rfl | rfl <;> decide
  · intro s hs
    simp only [ex1, List.mem_cons, List.not_mem_nil, or_false] at hs
    rcases hs with rfl | rfl | rfl <;> decide
theorem fit_ex2 : Fit2 ex2 := by
  refine ⟨⟨by decide, ?_⟩, ?_⟩
  · intro s hs
    simp only [ex2, List.mem_cons, List.not_mem_nil, or_false] at hs
    subst hs; decide
  · intro s hs
    simp only [ex2, List.mem_cons, List.not_mem_nil, or_false] at hs
    subst hs; decide

theorem call_ex1 (W : World) (hp : Pow W) : Calls Tryd.prog 23 #[.slice (some ⟨W.heap.size, 0, none⟩) 3 3] (W.alloc (.cells #[.int .u8 0, .string ⟨#[97]⟩, .string ⟨#[]⟩, .int .i64 0, .int .u8 1, .string ⟨#[]⟩, .string ⟨#[]⟩, .int .i64 3, .int .u8 2, .string ⟨#[120]⟩, .string ⟨#[34, 121, 34]⟩, .int .i64 0] 25))
    (Ret (.string ⟨#[47, 97, 91, 51, 93, 91, 120, 61, 34, 121, 34, 93]⟩) (W.alloc (.cells #[.int .u8 0, .string ⟨#[97]⟩, .string ⟨#[]⟩, .int .i64 0, .int .u8 1, .string ⟨#[]⟩, .string ⟨#[]⟩, .int .i64 3, .int .u8 2, .string ⟨#[120]⟩, .string ⟨#[34, 121, 34]⟩, .int .i64 0] 25))) := by
  have h := text16 (W.alloc (.cells (ex1.flatMap St.enc).toArray 25)) (some ⟨W.heap.size, 0, none⟩) 3 ex1 ((lit_sl St.enc_len (t := 25) (fr := (0, 0)) (heap_alloc_new W _)).widen (Nat.zero_le _) (by simp)) fit_ex1 (by decide) (hp.below ((Below.refl _ _).alloc (Nat.le_refl _) _))
  rw [ex1_text] at h
  exact h
theorem call_ex2 (W : World) (hp : Pow W) : Calls Tryd.prog 23 #[.slice (some ⟨W.heap.size, 0, none⟩) 1 1] (W.alloc (.cells #[.int .u8 0, .string ⟨#[97, 47, 98]⟩, .string ⟨#[]⟩, .int .i64 0] 25))
    (Ret (.string ⟨#[47, 97, 37, 50, 102, 98]⟩) (W.alloc (.cells #[.int .u8 0, .string ⟨#[97, 47, 98]⟩, .string ⟨#[]⟩, .int .i64 0] 25))) := by
  have h := text16 (W.alloc (.cells (ex2.flatMap St.enc).toArray 25)) (some ⟨W.heap.size, 0, none⟩) 1 ex2 ((lit_sl St.enc_len (t := 25) (fr := (0, 0)) (heap_alloc_new W _)).widen (Nat.zero_le _) (by simp)) fit_ex2 (by decide) (hp.below ((Below.refl _ _).alloc (Nat.le_refl _) _))
  rw [ex2_text] at h
  exact h
theorem call_nil (W : World) (hp : Pow W) : Calls Tryd.prog 23 #[.slice none 0 0] W (Ret (.string ⟨#[46]⟩) W) := by
  have h := text16 W none 0 [] SlE.nil ⟨⟨by decide, by simp⟩, by simp⟩ (by decide) hp
  rw [nil_text] at h
  exact h

set_option maxRecDepth 100000 in
set_option maxHeartbeats 800000 in
theorem lives16 (w : World) (hp : Pow w) : Calls Tryd.prog 11 #[] w (Ret (.bool true) w) := by
  have C1 := fun W hW => Lib.hid (call_ex1 W hW)
  have C2 := fun W hW => Lib.hid (call_ex2 W hW)
  have C3 := fun W hW => Lib.hid (call_nil W hW)
  go_enter Tryd.func11, Tryd.ntmps11
  go_wp2_with fail
  refine (C1 w hp).out.mono ?_
  rintro e w1 ⟨rfl, hb1⟩
  have hb1' := below_via (w := w) ((Below.refl _ _).alloc (Nat.le_refl _) _) hb1
  go_wp2_with fail
  refine (C2 w1 (hp.below hb1')).out.mono ?_
  rintro e w2 ⟨rfl, hb2⟩
  have hb2' := hb1'.trans (((Below.refl _ _).alloc hb1'.size _).trans (hb2.mono (by have := hb1'.size; simp; omega)))
  go_wp2_with fail
  refine (C3 w2 (hp.below hb2')).out.mono ?_
  rintro e w3 ⟨rfl, hb3⟩
  go_wp2_with fail
  go_ret
  exact ⟨rfl, hb2'.trans (hb3.mono hb2'.size)⟩
end Go.Proofs.YtdapimjhjnbfdaaDoor
