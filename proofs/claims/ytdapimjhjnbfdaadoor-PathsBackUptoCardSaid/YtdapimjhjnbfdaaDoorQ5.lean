/-
  The reference's hex and show. Conditions: texts of bounded length, the place within the text.
-/
import Derived.Test.YtdapimjhjnbfdaaDoorQ4
namespace Go.Proofs.YtdapimjhjnbfdaaDoor
open Go.RowKit

/-- A small hex digit's number; below 0: it is none. -/
def hexI (c : Nat) : Int := if 48 ≤ c ∧ c ≤ 57 then (c : Int) - 48 else if 97 ≤ c ∧ c ≤ 102 then (c : Int) - 97 + 10 else -1

set_option maxRecDepth 100000 in
theorem hex_c (w : World) (c : Nat) (h : c < 256) : Calls Tryd.prog 94 #[.int .u8 c] w fun e w' => e = .returned (.int .i64 (hexI c)) ∧ w = w' := by
  by_cases h1 : 48 ≤ c
  · have d1 : decide ((48 : Int) ≤ c) = true := by simp; omega
    by_cases h2 : c ≤ 57
    · have d2 : decide ((c : Int) ≤ 57) = true := by simp; omega
      have hv := Lib.hid (show hexI c = (c : Int) - 48 by unfold hexI; rw [if_pos ⟨h1, h2⟩])
      have e1 : IntKind.u8.wrap ((c : Int) - 48) = (c : Int) - 48 := IntWalk.u8_in _ (by omega)
      have e2 : IntKind.i64.wrap ((c : Int) - 48) = (c : Int) - 48 := IntWalk.i64_in _ (by omega)
      go_enter Tryd.func94, Tryd.ntmps94
      go_wp2_with fail
      go_ret
      exact ⟨by rw [hv.out]; rfl, rfl⟩
    · have d2 : decide ((c : Int) ≤ 57) = false := by simp; omega
      by_cases h3 : 97 ≤ c
      · have d3 : decide ((97 : Int) ≤ c) = true := by simp; omega
        by_cases h4 : c ≤ 102
        · have d4 : decide ((c : Int) ≤ 102) = true := by simp; omega
          have hv := Lib.hid (show hexI c = (c : Int) - 97 + 10 by unfold hexI; rw [if_neg (by omega), if_pos ⟨h3, h4⟩])
          have e1 : IntKind.u8.wrap ((c : Int) - 97) = (c : Int) - 97 := IntWalk.u8_in _ (by omega)
          have e2 : IntKind.i64.wrap ((c : Int) - 97) = (c : Int) - 97 := IntWalk.i64_in _ (by omega)
          have e3 : IntKind.i64.wrap ((c : Int) - 97 + 10) = (c : Int) - 97 + 10 := IntWalk.i64_in _ (by omega)
          go_enter Tryd.func94, Tryd.ntmps94
          go_wp2_with fail
          go_ret
          exact ⟨by rw [hv.out]; rfl, rfl⟩
        · have d4 : decide ((c : Int) ≤ 102) = false := by simp; omega
          have hv := Lib.hid (show hexI c = -1 by unfold hexI; rw [if_neg (by omega), if_neg (by omega)])
          go_enter Tryd.func94, Tryd.ntmps94
          go_wp2_with fail
          go_ret
          exact ⟨by rw [hv.out]; rfl, rfl⟩
      · have d3 : decide ((97 : Int) ≤ c) = false := by simp; omega
        have hv := Lib.hid (show hexI c = -1 by unfold hexI; rw [if_neg (by omega), if_neg (by omega)])
        go_enter Tryd.func94, Tryd.ntmps94
        go_wp2_with fail
        go_ret
        exact ⟨by rw [hv.out]; rfl, rfl⟩
  · have d1 : decide ((48 : Int) ≤ c) = false := by simp; omega
    have d3 : decide ((97 : Int) ≤ c) = false := by simp; omega
    have hv := Lib.hid (show hexI c = -1 by unfold hexI; rw [if_neg (by omega), if_neg (by omega)])
    go_enter Tryd.func94, Tryd.ntmps94
    go_wp2_with fail
    go_ret
    exact ⟨by rw [hv.out]; rfl, rfl⟩
end Go.Proofs.YtdapimjhjnbfdaaDoor
