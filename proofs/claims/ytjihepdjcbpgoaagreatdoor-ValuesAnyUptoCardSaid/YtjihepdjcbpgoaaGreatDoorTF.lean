/-
  inarchref03.Write computes the same bytes as quotes.Write. Conditions: texts of bounded length. (Printed by wip/gen_tf.py.)
-/
import Derived.Test.YtjihepdjcbpgoaaGreatDoorVB
import Derived.Test.YtjihepdjcbpgoaaGreatDoorQ2
namespace Go.Proofs.YtjihepdjcbpgoaaGreatDoor
open Go.RowKit

def quoF (s : List UInt8) : List UInt8 := [34] ++ s.flatMap quoteB
theorem quoF_snoc (s : List UInt8) (c : UInt8) : quoF (s ++ [c]) = quoF s ++ quoteB c := by simp [quoF, List.flatMap_append]
theorem quoF_len (s : List UInt8) : (quoF s).length ≤ 6 * s.length + 1 := by
  have := quoteF_len s
  simp only [quoF, List.length_append, List.length_singleton]; omega
theorem u8_eq {c : UInt8} {n : Nat} (_hn : n < 256) (h : c.toNat = n) : c = UInt8.ofNat n := by rw [← h]; simp
theorem letter_no {c : UInt8} (h : ¬ (c.toNat = 34 ∨ c.toNat = 92 ∨ c.toNat = 8 ∨ c.toNat = 12 ∨ c.toNat = 10 ∨ c.toNat = 13 ∨ c.toNat = 9)) : letterL c = 0 := by
  have k : ∀ n : UInt8, c.toNat ≠ n.toNat → c ≠ n := fun n h e => h (by rw [e])
  unfold letterL
  rw [if_neg (k 34 (by simp; omega)), if_neg (k 92 (by simp; omega)), if_neg (k 8 (by simp; omega)), if_neg (k 12 (by simp; omega)), if_neg (k 10 (by simp; omega)), if_neg (k 13 (by simp; omega)), if_neg (k 9 (by simp; omega))]

set_option maxRecDepth 100000 in
set_option maxHeartbeats 3200000 in
theorem rwrite_c (w : World) (s : ByteArray) (hs : s.size ≤ 1048576) :
    Calls Tryz.prog 104 #[.string s] w (Ret (.string ⟨(quoteL s.data.toList).toArray⟩) w) := by
  go_enter Tryz.func104, Tryz.ntmps104
  go_wp2_with fail
  go_loopw [3, 4] (fun o i wr => ∃ k : Nat, k ≤ s.size ∧ i = .int .i64 k ∧ o = .string ⟨(quoF (s.data.toList.take k)).toArray⟩ ∧ Below w.heap.size w wr) (fun _ i _ => s.size - (intOf i).toNat)
  case atStart => exact ⟨0, Nat.zero_le _, rfl, rfl, Below.refl _ _⟩
  case round =>
    obtain ⟨k, hk, rfl, rfl, hbw⟩ := hrel
    have hsz := hbw.size
    have hl1 : (quoF (s.data.toList.take k)).length ≤ 6291457 := by
      have hl0 := quoF_len (s.data.toList.take k)
      simp at hl0; omega
    by_cases hlt : k < s.size
    · have hT := Lib.hid (show s.data.toList.take (k + 1) = s.data.toList.take k ++ [s[k]] by rw [List.take_succ_eq_append_getElem (by simpa using hlt)]; rfl)
      have hc1 := s[k].toNat_lt
      by_cases hc : s[k].toNat = 34
      · have HQ := Lib.hid (show quoteB s[k] = [92, 34] by rw [u8_eq (by omega) hc]; rfl)
        have g0 : ((s[k].toNat : Int) == 34) = true := by rw [hc]; rfl
        clear hc
        go_wp2_with fail
        exact ⟨⟨k + 1, by omega, by go_num, by rw [hT.out, quoF_snoc, HQ.out]; simp [ba_append], hbw⟩, by simp [intOf]; omega⟩
      · have n0 := hc
        clear hc
        by_cases hc : s[k].toNat = 92
        · have HQ := Lib.hid (show quoteB s[k] = [92, 92] by rw [u8_eq (by omega) hc]; rfl)
          have g0 : ((s[k].toNat : Int) == 34) = false := by rw [hc]; rfl
          have g1 : ((s[k].toNat : Int) == 92) = true := by rw [hc]; rfl
          clear hc n0
          go_wp2_with fail
          exact ⟨⟨k + 1, by omega, by go_num, by rw [hT.out, quoF_snoc, HQ.out]; simp [ba_append], hbw⟩, by simp [intOf]; omega⟩
        · have n1 := hc
          clear hc
          by_cases hc : s[k].toNat = 8
          · have HQ := Lib.hid (show quoteB s[k] = [92, 98] by rw [u8_eq (by omega) hc]; rfl)
            have g0 : ((s[k].toNat : Int) == 34) = false := by rw [hc]; rfl
            have g1 : ((s[k].toNat : Int) == 92) = false := by rw [hc]; rfl
            have g2 : ((s[k].toNat : Int) == 8) = true := by rw [hc]; rfl
            clear hc n0 n1
            go_wp2_with fail
            exact ⟨⟨k + 1, by omega, by go_num, by rw [hT.out, quoF_snoc, HQ.out]; simp [ba_append], hbw⟩, by simp [intOf]; omega⟩
          · have n2 := hc
            clear hc
            by_cases hc : s[k].toNat = 12
            · have HQ := Lib.hid (show quoteB s[k] = [92, 102] by rw [u8_eq (by omega) hc]; rfl)
              have g0 : ((s[k].toNat : Int) == 34) = false := by rw [hc]; rfl
              have g1 : ((s[k].toNat : Int) == 92) = false := by rw [hc]; rfl
              have g2 : ((s[k].toNat : Int) == 8) = false := by rw [hc]; rfl
              have g3 : ((s[k].toNat : Int) == 12) = true := by rw [hc]; rfl
              clear hc n0 n1 n2
              go_wp2_with fail
              exact ⟨⟨k + 1, by omega, by go_num, by rw [hT.out, quoF_snoc, HQ.out]; simp [ba_append], hbw⟩, by simp [intOf]; omega⟩
            · have n3 := hc
              clear hc
              by_cases hc : s[k].toNat = 10
              · have HQ := Lib.hid (show quoteB s[k] = [92, 110] by rw [u8_eq (by omega) hc]; rfl)
                have g0 : ((s[k].toNat : Int) == 34) = false := by rw [hc]; rfl
                have g1 : ((s[k].toNat : Int) == 92) = false := by rw [hc]; rfl
                have g2 : ((s[k].toNat : Int) == 8) = false := by rw [hc]; rfl
                have g3 : ((s[k].toNat : Int) == 12) = false := by rw [hc]; rfl
                have g4 : ((s[k].toNat : Int) == 10) = true := by rw [hc]; rfl
                clear hc n0 n1 n2 n3
                go_wp2_with fail
                exact ⟨⟨k + 1, by omega, by go_num, by rw [hT.out, quoF_snoc, HQ.out]; simp [ba_append], hbw⟩, by simp [intOf]; omega⟩
              · have n4 := hc
                clear hc
                by_cases hc : s[k].toNat = 13
                · have HQ := Lib.hid (show quoteB s[k] = [92, 114] by rw [u8_eq (by omega) hc]; rfl)
                  have g0 : ((s[k].toNat : Int) == 34) = false := by rw [hc]; rfl
                  have g1 : ((s[k].toNat : Int) == 92) = false := by rw [hc]; rfl
                  have g2 : ((s[k].toNat : Int) == 8) = false := by rw [hc]; rfl
                  have g3 : ((s[k].toNat : Int) == 12) = false := by rw [hc]; rfl
                  have g4 : ((s[k].toNat : Int) == 10) = false := by rw [hc]; rfl
                  have g5 : ((s[k].toNat : Int) == 13) = true := by rw [hc]; rfl
                  clear hc n0 n1 n2 n3 n4
                  go_wp2_with fail
                  exact ⟨⟨k + 1, by omega, by go_num, by rw [hT.out, quoF_snoc, HQ.out]; simp [ba_append], hbw⟩, by simp [intOf]; omega⟩
                · have n5 := hc
                  clear hc
                  by_cases hc : s[k].toNat = 9
                  · have HQ := Lib.hid (show quoteB s[k] = [92, 116] by rw [u8_eq (by omega) hc]; rfl)
                    have g0 : ((s[k].toNat : Int) == 34) = false := by rw [hc]; rfl
                    have g1 : ((s[k].toNat : Int) == 92) = false := by rw [hc]; rfl
                    have g2 : ((s[k].toNat : Int) == 8) = false := by rw [hc]; rfl
                    have g3 : ((s[k].toNat : Int) == 12) = false := by rw [hc]; rfl
                    have g4 : ((s[k].toNat : Int) == 10) = false := by rw [hc]; rfl
                    have g5 : ((s[k].toNat : Int) == 13) = false := by rw [hc]; rfl
                    have g6 : ((s[k].toNat : Int) == 9) = true := by rw [hc]; rfl
                    clear hc n0 n1 n2 n3 n4 n5
                    go_wp2_with fail
                    exact ⟨⟨k + 1, by omega, by go_num, by rw [hT.out, quoF_snoc, HQ.out]; simp [ba_append], hbw⟩, by simp [intOf]; omega⟩
                  · have n6 := hc
                    clear hc
                    have HLN := Lib.hid (letter_no (c := s[k]) (by omega))
                    have g0 : ((s[k].toNat : Int) == 34) = false := by simp; omega
                    have g1 : ((s[k].toNat : Int) == 92) = false := by simp; omega
                    have g2 : ((s[k].toNat : Int) == 8) = false := by simp; omega
                    have g3 : ((s[k].toNat : Int) == 12) = false := by simp; omega
                    have g4 : ((s[k].toNat : Int) == 10) = false := by simp; omega
                    have g5 : ((s[k].toNat : Int) == 13) = false := by simp; omega
                    have g6 : ((s[k].toNat : Int) == 9) = false := by simp; omega
                    clear n0 n1 n2 n3 n4 n5 n6
                    by_cases hc : s[k].toNat < 32
                    · have HQ := Lib.hid (show quoteB s[k] = [92, 117, 48, 48, hexd (s[k].toNat / 16), hexd (s[k].toNat % 16)] by unfold quoteB; rw [HLN.out, if_neg (by simp), if_pos hc])
                      have hc32 : (s[k].toNat : Int) < 32 := by omega
                      have e3 : ∀ w, (Instr.slice 9 (.string ⟨#[48, 49, 50, 51, 52, 53, 54, 55, 56, 57, 97, 98, 99, 100, 101, 102]⟩) (some (.int .u8 ((s[k].toNat : Int) / 16))) (some (.int .u8 ((s[k].toNat : Int) / 16 + 1))) none).run Tryz.prog w = .ok (.string ⟨#[hexd (s[k].toNat / 16)]⟩) w := fun w => h_sl w (s[k].toNat / 16) (by omega)
                      have e4 : ∀ w, (Instr.slice 9 (.string ⟨#[48, 49, 50, 51, 52, 53, 54, 55, 56, 57, 97, 98, 99, 100, 101, 102]⟩) (some (.int .u8 ((s[k].toNat : Int) % 16))) (some (.int .u8 ((s[k].toNat : Int) % 16 + 1))) none).run Tryz.prog w = .ok (.string ⟨#[hexd (s[k].toNat % 16)]⟩) w := fun w => h_sl w (s[k].toNat % 16) (by omega)
                      have e5 : (s[k].toNat : Int).tdiv 16 = (s[k].toNat : Int) / 16 := Int.tdiv_eq_ediv_of_nonneg (by omega)
                      have e6 : (s[k].toNat : Int).tmod 16 = (s[k].toNat : Int) % 16 := Int.tmod_eq_emod_of_nonneg (by omega)
                      have e7 : IntKind.u8.wrap ((s[k].toNat : Int) / 16) = (s[k].toNat : Int) / 16 := IntWalk.u8_in _ (by omega)
                      have e8 : IntKind.u8.wrap ((s[k].toNat : Int) / 16 + 1) = (s[k].toNat : Int) / 16 + 1 := IntWalk.u8_in _ (by omega)
                      have e9 : IntKind.u8.wrap ((s[k].toNat : Int) % 16 + 1) = (s[k].toNat : Int) % 16 + 1 := IntWalk.u8_in _ (by omega)
                      clear hc
                      go_wp2_with fail
                      go_quiet (fail)
                      go_wp2_with fail
                      exact ⟨⟨k + 1, by omega, by go_num, by rw [hT.out, quoF_snoc, HQ.out]; simp [ba_append], below_drewN hbw _⟩, by simp [intOf]; omega⟩
                    · have HQ := Lib.hid (show quoteB s[k] = [s[k]] by unfold quoteB; rw [HLN.out, if_neg (by simp), if_neg hc])
                      have hc32 : ¬ (s[k].toNat : Int) < 32 := by omega
                      have hx : s.extract k (k + 1) = ⟨#[s[k]]⟩ := ba_one s k hlt
                      clear hc
                      go_wp2_with fail
                      exact ⟨⟨k + 1, by omega, by go_num, by rw [hT.out, quoF_snoc, HQ.out]; simp [ba_append], hbw⟩, by simp [intOf]; omega⟩
    · have hk2 := Lib.hid (show s.data.toList.take k = s.data.toList by rw [List.take_of_length_le]; simp; omega)
      rw [hk2.out]
      rw [hk2.out] at hl1
      go_wp2_with fail
      go_ret
      exact ⟨by simp [quoteL, quoF, ba_append], hbw⟩
end Go.Proofs.YtjihepdjcbpgoaaGreatDoor
