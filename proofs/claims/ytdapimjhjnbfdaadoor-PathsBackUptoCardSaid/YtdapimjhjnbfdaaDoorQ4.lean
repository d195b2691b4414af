/-
  The reference's Text computes the same bytes as paths.Text. Conditions: the list reads as data with bounded lengths.
-/
import Derived.Test.YtdapimjhjnbfdaaDoorQ3
namespace Go.Proofs.YtdapimjhjnbfdaaDoor
open Go.RowKit

theorem mayL_at {l : List St} (h : mayL l = true) {k : Nat} {s : St} (hk : l[k]? = some s) : mayS s = true := by
  simp [mayL] at h
  exact h.2 s (List.mem_of_getElem? hk)

set_option maxRecDepth 100000 in
set_option maxHeartbeats 3200000 in
theorem reftext16 (w : World) (a : Option Addr) (cap : Nat) (l : List St) (h : Sts w 0 w.heap.size a l) (hf : Fit2 l) (ht : total l ≤ 1048576) (hk : ∀ s ∈ l, 0 ≤ s.k) :
    Calls Tryd.prog 24 #[.slice a l.length cap] w (Ret (.string ⟨(textL l).toArray⟩) w) := by
  obtain ⟨⟨hl, hs⟩, ha⟩ := hf
  have HM := Lib.hid (refmay16 w a cap l h hl hk)
  by_cases hm : mayL l = true
  · rw [hm] at HM
    have hend : ∀ k : Nat, k = l.length → Hid ((if l.length = 0 then [46] else (l.take k).flatMap writeS) = textL l) := fun k hk => Lib.hid (by subst hk; unfold textL; rw [if_pos hm, List.take_of_length_le (Nat.le_refl _)])
    have HA := fun (k : Nat) (s : St) (hk : l[k]? = some s) => mayL_at hm hk
    clear hm
    go_enter Tryd.func24, Tryd.ntmps24
    go_wp2_with (go_at_call 22; refine HM.out.mono ?_; rintro e w1 ⟨rfl, hb⟩)
    have hsz1 := hb.size
    go_loopw [3, 4] (fun o i wr => ∃ k : Nat, k ≤ l.length ∧ i = .int .i64 k ∧ o = .string ⟨((l.take k).flatMap writeS).toArray⟩ ∧ Below w.heap.size w wr) (fun _ i _ => l.length - (intOf i).toNat)
    case atStart => exact ⟨0, Nat.zero_le _, rfl, rfl, hb⟩
    case round =>
      obtain ⟨k, hk1, rfl, rfl, hbw⟩ := hrel
      have hsz := hbw.size
      by_cases hlt : k < l.length
      · have hks : l[k]? = some l[k] := List.getElem?_eq_getElem hlt
        have hT := Lib.hid (show (l.take (k + 1)).flatMap writeS = (l.take k).flatMap writeS ++ writeS l[k] by rw [List.take_succ_eq_append_getElem hlt, List.flatMap_append]; simp)
        have hlen := flat_write_len (l.take k) (fun x hx => ha x (List.mem_of_mem_take hx))
        have htot := total_take_le l k
        have hlen2 : ((l.take k).flatMap writeS).length ≤ 1000000000 := by
          have : (l.take k).length ≤ l.length := List.length_take_le' _ _
          omega
        clear hlen htot
        generalize l[k] = s at *
        generalize (l.take k).flatMap writeS = out at *
        have hms := HA k s hks
        have hk0 := hk s (List.mem_of_getElem? hks)
        obtain ⟨b, off, rfl, -, hb1, hb2, h0, h1, h2, h3⟩ := h.at_ hks
        obtain ⟨z1, z2, -, -⟩ := hs s (List.mem_of_getElem? hks)
        obtain ⟨y1, y2⟩ := ha s (List.mem_of_getElem? hks)
        rw [← hbw.cell (p := ⟨_, _, none⟩) hb2] at h0 h1 h2 h3
        have hbb : b < wr.heap.size := Nat.lt_of_lt_of_le hb2 hbw.size
        have hlt' : (k : Int) < (l.length : Int) := by omega
        rw [mayS_iff hk0] at hms
        have hl1 := hideL_len s.t.data.toList
        have hl2 := hideL_len s.i.data.toList
        have hl3 : (hideL s.t.data.toList).length ≤ 3145728 := by simp at hl1; omega
        have hl4 : (hideL s.i.data.toList).length ≤ 3145728 := by simp at hl2; omega
        clear hl1 hl2
        have HC := fun W => Lib.hid (refhide_c W s.t z1)
        have HD := fun W => Lib.hid (refhide_c W s.i z2)
        clear h hs ha hks HA hk
        by_cases c0 : s.k = 0
        · have c0' : (s.k == 0) = true := by simp [c0]
          have hv := Lib.hid (show writeS s = [47] ++ hideL s.t.data.toList by unfold writeS; rw [if_neg (by omega), if_neg (by omega)])
          clear c0 hms
          go_wp2_with (go_at_call 60; refine (HC _).out.mono ?_; rintro e w2 ⟨rfl, hb3⟩)
          exact ⟨⟨k + 1, by omega, by go_num, by rw [hT.out, hv.out]; simp [ba_append], below_via hbw hb3⟩, by simp [intOf]; omega⟩
        · by_cases c1 : s.k = 1
          · have c0' : (s.k == 0) = false := by simp [c0]
            have c1' : (s.k == 1) = true := by simp [c1]
            have hv := Lib.hid (show writeS s = [91] ++ Lib.itoa s.a ++ [93] by unfold writeS; rw [if_pos c1])
            have hil : (Lib.itoa s.a).length ≤ 21 := Lib.itoa_length_le s.a y1 y2
            have HI := fun W => Lib.hid (digits_c W s.a hms.2.1 y2)
            clear c0 c1 hms
            go_wp2_with (go_at_call 61; refine (HI _).out.mono ?_; rintro e w2 ⟨rfl, hb3⟩)
            exact ⟨⟨k + 1, by omega, by go_num, by rw [hT.out, hv.out]; simp [ba_append], below_via hbw hb3⟩, by simp [intOf]; omega⟩
          · have c0' : (s.k == 0) = false := by simp [c0]
            have c1' : (s.k == 1) = false := by simp [c1]
            have c2' : (s.k == 2) = true := by simp; omega
            have hv := Lib.hid (show writeS s = [91] ++ hideL s.t.data.toList ++ [61] ++ hideL s.i.data.toList ++ [93] by unfold writeS; rw [if_neg c1, if_pos (by omega)])
            clear c0 c1 hms
            have n0 : ¬ 9223372036854775807 < out.length + 1 := by omega
            have n1 : ¬ 9223372036854775807 < out.length + 1 + (hideL s.t.data.toList).length := by omega
            have n2 : ¬ 9223372036854775807 < out.length + 1 + (hideL s.t.data.toList).length + 1 := by omega
            have n3 : ¬ 9223372036854775807 < out.length + 1 + (hideL s.t.data.toList).length + 1 + (hideL s.i.data.toList).length := by omega
            have n4 : ¬ 9223372036854775807 < out.length + 1 + (hideL s.t.data.toList).length + 1 + (hideL s.i.data.toList).length + 1 := by omega
            go_wp2_with fail
            go_region_held3 (fun w' => w'.cell? ⟨b, off + k * 4 + 1, none⟩ = some (.string s.t) ∧ w'.cell? ⟨b, off + k * 4 + 2, none⟩ = some (.string s.i))
              (first | go_keep | exact ⟨r1, r2⟩ | exact ⟨q1, q2⟩)
              (first
                | (go_at_call_of 60 (s.t); refine (HC _).out.mono ?_; rintro e w2 ⟨rfl, hb3⟩
                   have q1 := (hb3.cell (p := ⟨b, off + k * 4 + 1, none⟩) (by simp; omega)).trans (show _ = some (Value.string s.t) by go_simp)
                   have q2 := (hb3.cell (p := ⟨b, off + k * 4 + 2, none⟩) (by simp; omega)).trans (show _ = some (Value.string s.i) by go_simp)
                   have hsz3 := hb3.size
                   simp only [World.size_drew] at hsz3)
                | (go_at_call_of 60 (s.i); refine (HD _).out.mono ?_; rintro e w3 ⟨rfl, hb4⟩
                   have r1 := (hb4.cell (p := ⟨b, off + k * 4 + 1, none⟩) (by simp; omega)).trans q1
                   have r2 := (hb4.cell (p := ⟨b, off + k * 4 + 2, none⟩) (by simp; omega)).trans q2))
            all_goals
              go_wp2
              exact ⟨⟨k + 1, by omega, by go_num, by rw [hT.out, hv.out]; simp [ba_append], ((below_via (w := w) hbw.drew hb3)).trans (hb4.mono (by omega))⟩, by simp [intOf]; omega⟩
      · have hfin := hend k (by omega)
        by_cases hz : l.length = 0
        · rw [if_pos hz] at hfin
          have hz' : ((l.length : Int) == 0) = true := by simp [hz]
          clear hz
          go_wp2_with fail
          go_ret
          exact ⟨by rw [← hfin.out]; rfl, hbw⟩
        · rw [if_neg hz] at hfin
          have hz' : ((l.length : Int) == 0) = false := by rw [beq_eq_false_iff_ne]; omega
          clear hz
          go_wp2_with fail
          go_ret
          exact ⟨by rw [← hfin.out]; rfl, hbw⟩
  · have hm' : mayL l = false := by simpa using hm
    rw [hm'] at HM
    have hv := Lib.hid (show textL l = [] by unfold textL; rw [if_neg hm])
    clear hm hm'
    go_enter Tryd.func24, Tryd.ntmps24
    go_wp2_with (go_at_call 22; refine HM.out.mono ?_; rintro e w1 ⟨rfl, hb⟩)
    go_ret
    exact ⟨by rw [hv.out]; rfl, hb⟩
end Go.Proofs.YtdapimjhjnbfdaaDoor
