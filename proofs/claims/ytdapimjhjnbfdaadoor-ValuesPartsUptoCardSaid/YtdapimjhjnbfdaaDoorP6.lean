/-
  slices.Equal over steps, and paths.Begins. Conditions: the lists read as data, with bounded lengths.
-/
import Derived.Test.YtdapimjhjnbfdaaDoorP5
namespace Go.Proofs.YtdapimjhjnbfdaaDoor
open Go.RowKit

set_option maxRecDepth 100000 in
set_option maxHeartbeats 400000 in
theorem equal_st (w : World) (a a' : Option Addr) (cap cap' : Nat) (l l' : List St) (h : Sts w 0 w.heap.size a l) (h' : Sts w 0 w.heap.size a' l') (hl : l.length ≤ 1048576) :
    Calls Tryd.prog 48 #[.slice a l.length cap, .slice a' l'.length cap'] w (Ret (.bool (decide (l = l'))) w) := by
  by_cases hll : l.length = l'.length
  · go_enter Tryd.func48, Tryd.ntmps48
    have hne : ((l.length : Int) != (l'.length : Int)) = false := by rw [hll]; simp
    have HLL := Lib.hid hll
    clear hll
    go_wp2_with fail
    go_loopw [5, 13] (fun _ i wr => ∃ k : Nat, k ≤ l.length ∧ i = .int .i64 k ∧ l.take k = l'.take k ∧ Below w.heap.size w wr) (fun _ i _ => l.length - (intOf i).toNat)
    case atStart => exact ⟨0, Nat.zero_le _, rfl, by simp, Below.refl _ _⟩
    case round =>
      obtain ⟨k, hk, rfl, hpre, hbw⟩ := hrel
      have HP := Lib.hid hpre
      clear hpre
      by_cases hlt : k < l.length
      · have hlt2 : k < l'.length := by have := HLL.out; omega
        have hks : l[k]? = some l[k] := List.getElem?_eq_getElem hlt
        have hks' : l'[k]? = some l'[k] := List.getElem?_eq_getElem hlt2
        have hT : Hid (l.take (k + 1) = l.take k ++ [l[k]] ∧ l'.take (k + 1) = l'.take k ++ [l'[k]]) := ⟨by simp, by simp⟩
        have hS : Hid (l[k] ≠ l'[k] → ¬ l = l') := fun h e => h (by simp [e])
        generalize l[k] = s at *
        generalize l'[k] = s' at *
        obtain ⟨b, off, rfl, -, hb1, hb2, h0, h1, h2, h3⟩ := h.at_ hks
        obtain ⟨b', off', rfl, -, hb1', hb2', h0', h1', h2', h3'⟩ := h'.at_ hks'
        rw [← hbw.cell (p := ⟨_, _, none⟩) hb2] at h0 h1 h2 h3
        rw [← hbw.cell (p := ⟨_, _, none⟩) hb2'] at h0' h1' h2' h3'
        have hbb : b < wr.heap.size := Nat.lt_of_lt_of_le hb2 hbw.size
        have hbb' : b' < wr.heap.size := Nat.lt_of_lt_of_le hb2' hbw.size
        have hlt' : (k : Int) < (l.length : Int) := by omega
        have hlt2' : (k : Int) < (l'.length : Int) := by omega
        clear h h' hks hks'
        have hneq := fun w => neq_step w s s'
        go_wp2_with fail
        go_quiet (fail)
        go_wp2_with fail
        · have hse : ¬ s = s' := by have := ‹(!decide (s = s')) = true›; simpa using this
          go_ret
          exact ⟨by rw [decide_eq_false (hS.out hse)]; rfl, below_drewN hbw _⟩
        · have hse : s = s' := by have := ‹(!decide (s = s')) = false›; simpa using this
          have ht1 : l.take (k + 1) = l'.take (k + 1) := by rw [hT.out.1, hT.out.2, HP.out, hse]
          exact ⟨⟨k + 1, by omega, by go_num, ht1, below_drewN hbw _⟩, by simp [intOf]; omega⟩
      · have hfin : Hid (l = l') := by
          have e : k = l.length := by omega
          have hp := HP.out
          rw [e, List.take_length, HLL.out, List.take_length] at hp
          exact hp
        go_wp2
        go_ret
        exact ⟨by rw [decide_eq_true hfin.out]; rfl, hbw⟩
  · go_enter Tryd.func48, Tryd.ntmps48
    have hne : ((l.length : Int) != (l'.length : Int)) = true := by simp; omega
    have hfin : Hid (¬ l = l') := fun e => hll (by rw [e])
    clear hll
    go_wp2
    go_ret
    exact ⟨by rw [decide_eq_false hfin.out]; rfl, Below.refl _ _⟩

theorem begins16 (w : World) (a a' : Option Addr) (cap cap' : Nat) (l m : List St) (h : Sts w 0 w.heap.size a l) (h' : Sts w 0 w.heap.size a' m) (hl : l.length ≤ 1048576) (hc : l.length ≤ cap) :
    Calls Tryd.prog 17 #[.slice a l.length cap, .slice a' m.length cap'] w (Ret (.bool (decide (m.length ≤ l.length ∧ l.take m.length = m))) w) := by
  by_cases hlm : m.length ≤ l.length
  · have hge : decide ((m.length : Int) ≤ (l.length : Int)) = true := by simp; omega
    have hlen : (l.take m.length).length = m.length := by simp; omega
    have hcl : m.length ≤ cap := by omega
    have HC := Lib.hid (by have := equal_st w a a' cap cap' (l.take m.length) m (h.take _) h' (by omega); rwa [hlen] at this : Calls Tryd.prog 48 #[.slice a m.length cap, .slice a' m.length cap'] w (Ret (.bool (decide (l.take m.length = m))) w))
    rw [show decide (m.length ≤ l.length ∧ l.take m.length = m) = decide (l.take m.length = m) by simp [hlm]]
    clear hlen h h'
    go_enter Tryd.func17, Tryd.ntmps17
    go_wp2_with (go_at_call 48; refine HC.out.mono ?_; rintro e w2 ⟨rfl, hb⟩)
    go_ret
    exact ⟨rfl, hb⟩
  · have hge : decide ((m.length : Int) ≤ (l.length : Int)) = false := by simp; omega
    rw [show decide (m.length ≤ l.length ∧ l.take m.length = m) = false by simp [hlm]]
    go_enter Tryd.func17, Tryd.ntmps17
    go_wp2
    go_ret
    exact ⟨rfl, Below.refl _ _⟩
end Go.Proofs.YtdapimjhjnbfdaaDoor
