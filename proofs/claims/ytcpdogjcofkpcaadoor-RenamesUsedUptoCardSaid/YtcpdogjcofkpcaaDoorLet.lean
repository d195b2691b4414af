/-
  quotes.letter as a plain function of bytes. Condition: the table of short escapes holds what its initialiser lays.
-/
import Derived.Test.YtcpdogjcofkpcaaDoorBase
import Derived.Test.YtcpdogjcofkpcaaDoorProg
import Derived.Laws.Rows
import Derived.Outline
import Derived.IntWalk
namespace Go.Proofs.YtcpdogjcofkpcaaDoor
open Go.RowKit

def letterL (c : UInt8) : UInt8 := if c = 34 then 34 else if c = 92 then 92 else if c = 8 then 98 else if c = 12 then 102 else if c = 10 then 110 else if c = 13 then 114 else if c = 9 then 116 else 0
/-- The table of short escapes. -/
def shTab : Array Value := #[.int .u8 34, .int .u8 34, .int .u8 92, .int .u8 92, .int .u8 47, .int .u8 47, .int .u8 98, .int .u8 8, .int .u8 102, .int .u8 12, .int .u8 110, .int .u8 10, .int .u8 114, .int .u8 13, .int .u8 116, .int .u8 9]
def shA (k : Nat) : Int := [34, 92, 47, 98, 102, 110, 114, 116].getD k 0
def shB (k : Nat) : Int := [34, 92, 47, 8, 12, 10, 13, 9].getD k 0
def Shorts (w : World) : Prop := ∃ t fr, w.heap[0]? = some (.cells shTab t fr)
theorem Shorts.below {w w' : World} (h : Shorts w) (hb : Below w.heap.size w w') : Shorts w' := by
  obtain ⟨t, fr, h⟩ := h
  refine ⟨t, fr, (hb.block _ ?_).trans h⟩
  rcases Nat.lt_or_ge 0 w.heap.size with hlt | hge
  · exact hlt
  · rw [Array.getElem?_eq_none hge] at h; cases h
theorem sh_idx (w : World) : ∀ k : Nat, k < 8 → (Instr.index 106 (.agg shTab) (.int .i64 k)).run Tryd.prog w = .ok (.agg #[.int .u8 (shA k), .int .u8 (shB k)]) w
  | 0, _ => by kernel_rfl
  | 1, _ => by kernel_rfl
  | 2, _ => by kernel_rfl
  | 3, _ => by kernel_rfl
  | 4, _ => by kernel_rfl
  | 5, _ => by kernel_rfl
  | 6, _ => by kernel_rfl
  | 7, _ => by kernel_rfl
  | k + 8, h => absurd h (by omega)
theorem letter_hit (c : UInt8) (k : Nat) (hk : k < 8) (h1 : shB k = c.toNat) (h2 : c ≠ 47) : ((letterL c).toNat : Int) = shA k := by
  have hc : ∀ n : Nat, n < 256 → c.toNat = n → c = UInt8.ofNat n := fun n _ h => by rw [← h]; simp
  match k, hk with
  | 0, _ => rw [hc 34 (by decide) (by simp [shB] at h1; omega)]; rfl
  | 1, _ => rw [hc 92 (by decide) (by simp [shB] at h1; omega)]; rfl
  | 2, _ => exact absurd (hc 47 (by decide) (by simp [shB] at h1; omega)) h2
  | 3, _ => rw [hc 8 (by decide) (by simp [shB] at h1; omega)]; rfl
  | 4, _ => rw [hc 12 (by decide) (by simp [shB] at h1; omega)]; rfl
  | 5, _ => rw [hc 10 (by decide) (by simp [shB] at h1; omega)]; rfl
  | 6, _ => rw [hc 13 (by decide) (by simp [shB] at h1; omega)]; rfl
  | 7, _ => rw [hc 9 (by decide) (by simp [shB] at h1; omega)]; rfl
theorem letter_miss (c : UInt8) (h : ∀ k, k < 8 → ¬ (shB k = c.toNat ∧ c ≠ 47)) : letterL c = 0 := by
  have hn : ∀ k, k < 8 → ∀ n : UInt8, n ≠ 47 → shB k = n.toNat → c ≠ n := fun k hk n h47 hs e => h k hk (by subst e; exact ⟨hs, h47⟩)
  unfold letterL
  rw [if_neg (hn 0 (by omega) _ (by decide) rfl), if_neg (hn 1 (by omega) _ (by decide) rfl), if_neg (hn 3 (by omega) _ (by decide) rfl), if_neg (hn 4 (by omega) _ (by decide) rfl), if_neg (hn 5 (by omega) _ (by decide) rfl), if_neg (hn 6 (by omega) _ (by decide) rfl), if_neg (hn 7 (by omega) _ (by decide) rfl)]
theorem sh_bd (k : Nat) : 0 ≤ shA k ∧ shA k < 256 ∧ 0 ≤ shB k ∧ shB k < 256 := by
  by_cases h : k < 8
  · match k, h with
    | 0, _ => decide
    | 1, _ => decide
    | 2, _ => decide
    | 3, _ => decide
    | 4, _ => decide
    | 5, _ => decide
    | 6, _ => decide
    | 7, _ => decide
  · have e1 : shA k = 0 := by unfold shA; rw [List.getD_eq_getElem?_getD, List.getElem?_eq_none (by simp; omega)]; rfl
    have e2 : shB k = 0 := by unfold shB; rw [List.getD_eq_getElem?_getD, List.getElem?_eq_none (by simp; omega)]; rfl
    omega

set_option maxRecDepth 100000 in
set_option maxHeartbeats 1600000 in
theorem letter_c (w : World) (c : UInt8) (hS : Shorts w) : Calls Tryd.prog 67 #[.int .u8 c.toNat] w (Ret (.int .u8 (letterL c).toNat) w) := by
  obtain ⟨tt, fr, hg1⟩ := hS
  have hL := Lib.hid (letter_hit c)
  have hM := Lib.hid (letter_miss c)
  go_enter Tryd.func67, Tryd.ntmps67
  go_wp2_with (refine wpList_load_row rfl 106 _ rfl 0 rfl tt _ fr _ hg1 Tryd.underlying106 rfl (by kernel_rfl) ?_)
  go_loopw [4, 6] (fun _ i wr => ∃ k : Nat, k ≤ 8 ∧ i = .int .i64 k ∧ (∀ j, j < k → ¬ (shB j = c.toNat ∧ c ≠ 47)) ∧ Below w.heap.size w wr) (fun _ i _ => 8 - (intOf i).toNat)
  case atStart => exact ⟨0, Nat.zero_le _, rfl, fun j h => absurd h (by omega), Below.refl _ _⟩
  case round =>
    obtain ⟨k, hk, rfl, hno, hbw⟩ := hrel
    have hsz := hbw.size
    have HN := Lib.hid hno
    clear hno
    by_cases hlt : k < 8
    · have hi := fun W => sh_idx W k hlt
      have hlt' : (k : Int) < 8 := by omega
      obtain ⟨b0, b1, b2, b3⟩ := sh_bd k
      go_wp2_with fail
      · have h1 : shB k = ↑c.toNat := by assumption
        have h2 : ((c.toNat : Int) != 47) = true := by assumption
        have hv := Lib.hid (hL.out k hlt h1 (fun e => by subst e; simp at h2))
        go_ret
        exact ⟨by rw [hv.out]; rfl, hbw.alloc hsz _⟩
      · have h1 : shB k = ↑c.toNat := by assumption
        have h2 : ((c.toNat : Int) != 47) = false := by assumption
        refine ⟨⟨k + 1, by omega, by go_num, fun j hj h => ?_, hbw.alloc hsz _⟩, by simp [intOf]; omega⟩
        rcases Nat.lt_or_ge j k with hj2 | hj2
        · exact HN.out j hj2 h
        · exact h.2 (by
            have : c.toNat = 47 := by simp at h2; omega
            rw [← UInt8.toNat_inj]; exact this)
      · have h1 : ¬ shB k = ↑c.toNat := by assumption
        refine ⟨⟨k + 1, by omega, by go_num, fun j hj h => ?_, hbw.alloc hsz _⟩, by simp [intOf]; omega⟩
        rcases Nat.lt_or_ge j k with hj2 | hj2
        · exact HN.out j hj2 h
        · obtain rfl : j = k := by omega
          exact h1 h.1
    · obtain rfl : k = 8 := by omega
      have hz := Lib.hid (hM.out HN.out)
      go_wp2_with fail
      go_ret
      exact ⟨by rw [hz.out]; rfl, hbw⟩
end Go.Proofs.YtcpdogjcofkpcaaDoor
