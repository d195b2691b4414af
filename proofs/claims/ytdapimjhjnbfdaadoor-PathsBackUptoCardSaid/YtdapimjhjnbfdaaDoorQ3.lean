/-
  The reference's digits are strconv.Itoa's. Conditions: the number is not negative and has 64 bits.
-/
import Derived.Test.YtdapimjhjnbfdaaDoorQ2
namespace Go.Proofs.YtdapimjhjnbfdaaDoor
open Go.RowKit

theorem d_ex : ∀ n : Nat, n < 10 → (⟨#[48, 49, 50, 51, 52, 53, 54, 55, 56, 57]⟩ : ByteArray).extract n (n + 1) = ⟨#[UInt8.ofNat (48 + n)]⟩
  | 0, _ => by decide
  | 1, _ => by decide
  | 2, _ => by decide
  | 3, _ => by decide
  | 4, _ => by decide
  | 5, _ => by decide
  | 6, _ => by decide
  | 7, _ => by decide
  | 8, _ => by decide
  | 9, _ => by decide
  | n + 10, h => absurd h (by omega)

set_option maxRecDepth 100000 in
set_option maxHeartbeats 1600000 in
theorem digits_c (w : World) (n : Int) (h0 : 0 ≤ n) (h1 : n ≤ 9223372036854775807) :
    Calls Tryd.prog 61 #[.int .i64 n] w (Ret (.string ⟨(Lib.itoa n).toArray⟩) w) := by
  have hn := Lib.hid (show Lib.itoa n = Lib.decDigits n.toNat by unfold Lib.itoa; rw [if_neg (by omega)])
  have hlen : (Lib.decDigits n.toNat).length ≤ 21 := by have := Lib.itoa_length_le n (by omega) h1; rw [hn.out] at this; exact this
  go_enter Tryd.func61, Tryd.ntmps61
  go_wp2_with fail
  go_loopw [0, 3] (fun u o wr => ∃ (k : Nat) (os : List UInt8), k ≤ 9223372036854775807 ∧ u = .int .i64 k ∧ o = .string ⟨os.toArray⟩ ∧ Lib.decDigits k ++ os = Lib.decDigits n.toNat ∧ Below w.heap.size w wr) (fun u _ _ => (intOf u).toNat)
  case atStart => exact ⟨n.toNat, [], by omega, by rw [Int.toNat_of_nonneg h0], rfl, by simp, Below.refl _ _⟩
  case round =>
    obtain ⟨k, os, hk, rfl, rfl, hd, hbw⟩ := hrel
    have hol : os.length ≤ 21 := by rw [← hd] at hlen; simp at hlen; omega
    have e1 : (k : Int).tdiv 10 = ((k / 10 : Nat) : Int) := by rw [Int.tdiv_eq_ediv_of_nonneg (by omega)]; omega
    have e2 : (k : Int).tmod 10 = ((k % 10 : Nat) : Int) := by rw [Int.tmod_eq_emod_of_nonneg (by omega)]; omega
    have e3 : IntKind.i64.wrap ((k / 10 : Nat) : Int) = ((k / 10 : Nat) : Int) := IntWalk.i64_in _ (by omega)
    have e4 : IntKind.i64.wrap (((k % 10 : Nat) : Int) + 1) = ((k % 10 : Nat) : Int) + 1 := IntWalk.i64_in _ (by omega)
    have e6 : IntKind.i64.wrap ((k % 10 : Nat) : Int) = ((k % 10 : Nat) : Int) := IntWalk.i64_in _ (by omega)
    have e5 := Lib.hid (d_ex (k % 10) (Nat.mod_lt _ (by omega)))
    have HD := Lib.hid hd
    clear hd
    by_cases hs : k < 10
    · have hz : (((k / 10 : Nat) : Int) == 0) = true := by rw [beq_iff_eq]; omega
      have hfin := Lib.hid (show [UInt8.ofNat (48 + k % 10)] ++ os = Lib.decDigits n.toNat by rw [← HD.out, Lib.decDigits_one hs, Nat.mod_eq_of_lt hs])
      clear hs
      go_wp2_with fail
      go_ret
      exact ⟨by rw [hn.out, ← hfin.out, e5.out]; simp [ba_append], hbw⟩
    · have hz : (((k / 10 : Nat) : Int) == 0) = false := by rw [beq_eq_false_iff_ne]; omega
      have hfin := Lib.hid (show Lib.decDigits (k / 10) ++ ([UInt8.ofNat (48 + k % 10)] ++ os) = Lib.decDigits n.toNat by rw [← HD.out, Lib.decDigits.eq_1 k, dif_neg hs, List.append_assoc])
      have hdec := Lib.hid (show k / 10 < k by omega)
      clear hs
      go_wp2_with fail
      exact ⟨⟨k / 10, _, by omega, rfl, by rw [e5.out, ba_append]; simp, hfin.out, hbw⟩, by simp [intOf]; exact hdec.out⟩
end Go.Proofs.YtdapimjhjnbfdaaDoor
