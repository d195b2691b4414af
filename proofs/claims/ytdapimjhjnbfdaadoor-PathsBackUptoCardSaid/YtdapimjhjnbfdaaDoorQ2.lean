/-
  The reference's hide computes the same bytes as paths.hide. Conditions: texts of bounded length.
-/
import Derived.Test.YtdapimjhjnbfdaaDoorQ1
namespace Go.Proofs.YtdapimjhjnbfdaaDoor
open Go.RowKit

theorem h_sl (w : World) : ∀ n : Nat, n < 16 → (Instr.slice 9 (.string ⟨#[48, 49, 50, 51, 52, 53, 54, 55, 56, 57, 97, 98, 99, 100, 101, 102]⟩) (some (.int .u8 (n : Int))) (some (.int .u8 ((n : Int) + 1))) none).run Tryd.prog w = .ok (.string ⟨#[hexd n]⟩) w
  | 0, _ => by kernel_rfl
  | 1, _ => by kernel_rfl
  | 2, _ => by kernel_rfl
  | 3, _ => by kernel_rfl
  | 4, _ => by kernel_rfl
  | 5, _ => by kernel_rfl
  | 6, _ => by kernel_rfl
  | 7, _ => by kernel_rfl
  | 8, _ => by kernel_rfl
  | 9, _ => by kernel_rfl
  | 10, _ => by kernel_rfl
  | 11, _ => by kernel_rfl
  | 12, _ => by kernel_rfl
  | 13, _ => by kernel_rfl
  | 14, _ => by kernel_rfl
  | 15, _ => by kernel_rfl
  | n + 16, h => absurd h (by omega)
theorem hidB_cases {c : Int} (h : hidB c = true) : c < 32 ∨ c = 127 ∨ c = 37 ∨ c = 47 ∨ c = 91 ∨ c = 93 ∨ c = 61 := by simpa [hidB] using h
theorem hidB_not {c : Int} (h : hidB c = false) : ¬ c < 32 ∧ (c == 127) = false ∧ (c == 37) = false ∧ (c == 47) = false ∧ (c == 91) = false ∧ (c == 93) = false ∧ (c == 61) = false := by
  simp [hidB] at h
  simp
  omega

theorem ba_one (s : ByteArray) (k : Nat) (h : k < s.size) : s.extract k (k + 1) = ⟨#[s[k]]⟩ := by
  apply ByteArray.ext
  rw [ByteArray.data_extract]
  apply Array.toList_inj.1
  have h' : k < s.data.toList.length := by simpa using h
  simp only [Array.toList_extract]
  rw [List.extract_eq_take_drop, List.drop_eq_getElem_cons h', show k + 1 - k = 1 by omega]
  simp
  rfl

set_option maxRecDepth 100000 in
set_option maxHeartbeats 3200000 in
theorem refhide_c (w : World) (s : ByteArray) (hs : s.size ≤ 1048576) :
    Calls Tryd.prog 60 #[.string s] w (Ret (.string ⟨(hideL s.data.toList).toArray⟩) w) := by
  go_enter Tryd.func60, Tryd.ntmps60
  go_wp2_with fail
  go_loopw [3, 4, 5, 6] (fun o i _ _ wr => ∃ k : Nat, k ≤ s.size ∧ i = .int .i64 k ∧ o = .string ⟨(hideL (s.data.toList.take k)).toArray⟩ ∧ Below w.heap.size w wr) (fun _ i _ _ _ => s.size - (intOf i).toNat)
  case atStart => exact ⟨0, Nat.zero_le _, rfl, rfl, Below.refl _ _⟩
  case round =>
    obtain ⟨k, hk, rfl, rfl, hbw⟩ := hrel
    have hsz := hbw.size
    by_cases hlt : k < s.size
    · have hT := Lib.hid (show s.data.toList.take (k + 1) = s.data.toList.take k ++ [s[k]] by rw [List.take_succ_eq_append_getElem (by simpa using hlt)]; rfl)
      have hl0 := hideL_len (s.data.toList.take k)
      have hl1 : (hideL (s.data.toList.take k)).length ≤ 3145728 := by simp at hl0; omega
      clear hl0
      have hc1 := s[k].toNat_lt
      have e3 : ∀ w, (Instr.slice 9 (.string ⟨#[48, 49, 50, 51, 52, 53, 54, 55, 56, 57, 97, 98, 99, 100, 101, 102]⟩) (some (.int .u8 ((s[k].toNat : Int) / 16))) (some (.int .u8 ((s[k].toNat : Int) / 16 + 1))) none).run Tryd.prog w = .ok (.string ⟨#[hexd (s[k].toNat / 16)]⟩) w := fun w => h_sl w (s[k].toNat / 16) (by omega)
      have e4 : ∀ w, (Instr.slice 9 (.string ⟨#[48, 49, 50, 51, 52, 53, 54, 55, 56, 57, 97, 98, 99, 100, 101, 102]⟩) (some (.int .u8 ((s[k].toNat : Int) % 16))) (some (.int .u8 ((s[k].toNat : Int) % 16 + 1))) none).run Tryd.prog w = .ok (.string ⟨#[hexd (s[k].toNat % 16)]⟩) w := fun w => h_sl w (s[k].toNat % 16) (by omega)
      have e5 : (s[k].toNat : Int).tdiv 16 = (s[k].toNat : Int) / 16 := Int.tdiv_eq_ediv_of_nonneg (by omega)
      have e6 : (s[k].toNat : Int).tmod 16 = (s[k].toNat : Int) % 16 := Int.tmod_eq_emod_of_nonneg (by omega)
      have e7 : IntKind.u8.wrap ((s[k].toNat : Int) / 16) = (s[k].toNat : Int) / 16 := IntWalk.u8_in _ (by omega)
      have e8 : IntKind.u8.wrap ((s[k].toNat : Int) / 16 + 1) = (s[k].toNat : Int) / 16 + 1 := IntWalk.u8_in _ (by omega)
      have e9 : IntKind.u8.wrap ((s[k].toNat : Int) % 16 + 1) = (s[k].toNat : Int) % 16 + 1 := IntWalk.u8_in _ (by omega)
      by_cases hh : hidB s[k].toNat = true
      · have HH := Lib.hid hh
        have hcs := hidB_cases hh
        clear hh
        rcases hcs with hc | hc | hc | hc | hc | hc | hc
        · go_wp2_with fail
          go_quiet (fail)
          go_wp2_with fail
          refine ⟨⟨k + 1, by omega, by go_num, ?_, below_drewN hbw _⟩, by simp [intOf]; omega⟩
          rw [hT.out, hideL_snoc]
          unfold hideB
          rw [if_pos HH.out]
          simp [ba_append]
        · have g0 : ¬ (s[k].toNat : Int) < 32 := by omega
          have g1 : ((s[k].toNat : Int) == 127) = true := by rw [hc]; rfl
          clear hc
          go_wp2_with fail
          go_quiet (fail)
          go_wp2_with fail
          refine ⟨⟨k + 1, by omega, by go_num, ?_, below_drewN hbw _⟩, by simp [intOf]; omega⟩
          rw [hT.out, hideL_snoc]
          unfold hideB
          rw [if_pos HH.out]
          simp [ba_append]
        · have g0 : ¬ (s[k].toNat : Int) < 32 := by omega
          have g1 : ((s[k].toNat : Int) == 127) = false := by rw [hc]; rfl
          have g2 : ((s[k].toNat : Int) == 37) = true := by rw [hc]; rfl
          clear hc
          go_wp2_with fail
          go_quiet (fail)
          go_wp2_with fail
          refine ⟨⟨k + 1, by omega, by go_num, ?_, below_drewN hbw _⟩, by simp [intOf]; omega⟩
          rw [hT.out, hideL_snoc]
          unfold hideB
          rw [if_pos HH.out]
          simp [ba_append]
        · have g0 : ¬ (s[k].toNat : Int) < 32 := by omega
          have g1 : ((s[k].toNat : Int) == 127) = false := by rw [hc]; rfl
          have g2 : ((s[k].toNat : Int) == 37) = false := by rw [hc]; rfl
          have g3 : ((s[k].toNat : Int) == 47) = true := by rw [hc]; rfl
          clear hc
          go_wp2_with fail
          go_quiet (fail)
          go_wp2_with fail
          refine ⟨⟨k + 1, by omega, by go_num, ?_, below_drewN hbw _⟩, by simp [intOf]; omega⟩
          rw [hT.out, hideL_snoc]
          unfold hideB
          rw [if_pos HH.out]
          simp [ba_append]
        · have g0 : ¬ (s[k].toNat : Int) < 32 := by omega
          have g1 : ((s[k].toNat : Int) == 127) = false := by rw [hc]; rfl
          have g2 : ((s[k].toNat : Int) == 37) = false := by rw [hc]; rfl
          have g3 : ((s[k].toNat : Int) == 47) = false := by rw [hc]; rfl
          have g4 : ((s[k].toNat : Int) == 91) = true := by rw [hc]; rfl
          clear hc
          go_wp2_with fail
          go_quiet (fail)
          go_wp2_with fail
          refine ⟨⟨k + 1, by omega, by go_num, ?_, below_drewN hbw _⟩, by simp [intOf]; omega⟩
          rw [hT.out, hideL_snoc]
          unfold hideB
          rw [if_pos HH.out]
          simp [ba_append]
        · have g0 : ¬ (s[k].toNat : Int) < 32 := by omega
          have g1 : ((s[k].toNat : Int) == 127) = false := by rw [hc]; rfl
          have g2 : ((s[k].toNat : Int) == 37) = false := by rw [hc]; rfl
          have g3 : ((s[k].toNat : Int) == 47) = false := by rw [hc]; rfl
          have g4 : ((s[k].toNat : Int) == 91) = false := by rw [hc]; rfl
          have g5 : ((s[k].toNat : Int) == 93) = true := by rw [hc]; rfl
          clear hc
          go_wp2_with fail
          go_quiet (fail)
          go_wp2_with fail
          refine ⟨⟨k + 1, by omega, by go_num, ?_, below_drewN hbw _⟩, by simp [intOf]; omega⟩
          rw [hT.out, hideL_snoc]
          unfold hideB
          rw [if_pos HH.out]
          simp [ba_append]
        · have g0 : ¬ (s[k].toNat : Int) < 32 := by omega
          have g1 : ((s[k].toNat : Int) == 127) = false := by rw [hc]; rfl
          have g2 : ((s[k].toNat : Int) == 37) = false := by rw [hc]; rfl
          have g3 : ((s[k].toNat : Int) == 47) = false := by rw [hc]; rfl
          have g4 : ((s[k].toNat : Int) == 91) = false := by rw [hc]; rfl
          have g5 : ((s[k].toNat : Int) == 93) = false := by rw [hc]; rfl
          have g6 : ((s[k].toNat : Int) == 61) = true := by rw [hc]; rfl
          clear hc
          go_wp2_with fail
          go_quiet (fail)
          go_wp2_with fail
          refine ⟨⟨k + 1, by omega, by go_num, ?_, below_drewN hbw _⟩, by simp [intOf]; omega⟩
          rw [hT.out, hideL_snoc]
          unfold hideB
          rw [if_pos HH.out]
          simp [ba_append]
      · have hh' : hidB s[k].toNat = false := by simpa using hh
        have HH := Lib.hid hh'
        obtain ⟨g0, g1, g2, g3, g4, g5, g6⟩ := hidB_not hh'
        clear hh hh'
        have hx : s.extract k (k + 1) = ⟨#[s[k]]⟩ := ba_one s k hlt
        go_wp2_with fail
        refine ⟨⟨k + 1, by omega, by go_num, ?_, hbw⟩, by simp [intOf]; omega⟩
        rw [hT.out, hideL_snoc]
        unfold hideB
        rw [if_neg (by rw [HH.out]; simp)]
        simp [ba_append]
    · have hk2 := Lib.hid (show s.data.toList.take k = s.data.toList by rw [List.take_of_length_le]; simp; omega)
      rw [hk2.out]
      go_wp2_with fail
      go_ret
      exact ⟨rfl, hbw⟩
end Go.Proofs.YtdapimjhjnbfdaaDoor
