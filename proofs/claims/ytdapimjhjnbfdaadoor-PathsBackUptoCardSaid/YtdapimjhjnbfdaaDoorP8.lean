/-
  Which paths may be: paths.may, May$1, slices.IndexFunc and ContainsFunc at it, paths.May. Conditions: the list reads as data, with bounded length.
-/
import Derived.Test.YtdapimjhjnbfdaaDoorP7
namespace Go.Proofs.YtdapimjhjnbfdaaDoor
open Go.RowKit

def mayS (s : St) : Bool :=
  if s.k = 0 then decide (s = ⟨s.k, s.t, ⟨#[]⟩, 0⟩) else if s.k = 1 then (decide (0 ≤ s.a) && decide (s = ⟨s.k, ⟨#[]⟩, ⟨#[]⟩, s.a⟩)) else if s.k = 2 then decide (s = ⟨s.k, s.t, s.i, 0⟩) else false
def mayL (l : List St) : Bool := decide (l.length ≤ 512) && l.all mayS

set_option maxHeartbeats 800000 in
theorem may_s (w : World) (s : St) : Calls Tryd.prog 56 #[s.val] w (Ret (.bool (mayS s)) w) := by
  have heq : ∀ w, (binOp .eql 25 s.val (.agg #[.int .u8 s.k, .string s.t, .string ⟨#[]⟩, .int .i64 0])).run Tryd.prog w = .ok (.bool (decide (s = ⟨s.k, s.t, ⟨#[]⟩, 0⟩))) w := fun w => eql_step w s ⟨s.k, s.t, ⟨#[]⟩, 0⟩
  have heq1 : ∀ w, (binOp .eql 25 s.val (.agg #[.int .u8 s.k, .string ⟨#[]⟩, .string ⟨#[]⟩, .int .i64 s.a])).run Tryd.prog w = .ok (.bool (decide (s = ⟨s.k, ⟨#[]⟩, ⟨#[]⟩, s.a⟩))) w := fun w => eql_step w s ⟨s.k, ⟨#[]⟩, ⟨#[]⟩, s.a⟩
  have heq2 : ∀ w, (binOp .eql 25 s.val (.agg #[.int .u8 s.k, .string s.t, .string s.i, .int .i64 0])).run Tryd.prog w = .ok (.bool (decide (s = ⟨s.k, s.t, s.i, 0⟩))) w := fun w => eql_step w s ⟨s.k, s.t, s.i, 0⟩
  by_cases h0 : s.k = 0
  · have hv := Lib.hid (show mayS s = decide (s = ⟨s.k, s.t, ⟨#[]⟩, 0⟩) by unfold mayS; rw [if_pos h0])
    have h0' : (s.k == 0) = true := by simp [h0]
    clear h0
    go_enter Tryd.func56, Tryd.ntmps56
    go_wp2
    go_ret
    exact ⟨by rw [hv.out]; rfl, (Below.refl _ _).alloc (Nat.le_refl _) _⟩
  · have h0' : (s.k == 0) = false := by simp [h0]
    by_cases h1 : s.k = 1
    · have h1' : (s.k == 1) = true := by simp [h1]
      by_cases ha : 0 ≤ s.a
      · have hv := Lib.hid (show mayS s = decide (s = ⟨s.k, ⟨#[]⟩, ⟨#[]⟩, s.a⟩) by unfold mayS; rw [if_neg h0, if_pos h1]; simp [ha])
        clear h0 h1
        go_enter Tryd.func56, Tryd.ntmps56
        go_wp2
        go_ret
        exact ⟨by rw [hv.out]; rfl, (Below.refl _ _).alloc (Nat.le_refl _) _⟩
      · have hv := Lib.hid (show mayS s = false by unfold mayS; rw [if_neg h0, if_pos h1]; simp [ha])
        clear h0 h1
        go_enter Tryd.func56, Tryd.ntmps56
        go_wp2
        go_ret
        exact ⟨by rw [hv.out]; rfl, (Below.refl _ _).alloc (Nat.le_refl _) _⟩
    · have h1' : (s.k == 1) = false := by simp [h1]
      by_cases h2 : s.k = 2
      · have h2' : (s.k == 2) = true := by simp [h2]
        have hv := Lib.hid (show mayS s = decide (s = ⟨s.k, s.t, s.i, 0⟩) by unfold mayS; rw [if_neg h0, if_neg h1, if_pos h2])
        clear h0 h1 h2
        go_enter Tryd.func56, Tryd.ntmps56
        go_wp2
        go_ret
        exact ⟨by rw [hv.out]; rfl, (Below.refl _ _).alloc (Nat.le_refl _) _⟩
      · have h2' : (s.k == 2) = false := by simp [h2]
        have hv := Lib.hid (show mayS s = false by unfold mayS; rw [if_neg h0, if_neg h1, if_neg h2])
        clear h0 h1 h2
        go_enter Tryd.func56, Tryd.ntmps56
        go_wp2
        go_ret
        exact ⟨by rw [hv.out]; rfl, (Below.refl _ _).alloc (Nat.le_refl _) _⟩

theorem may1 (w : World) (s : St) : Calls Tryd.prog 55 #[s.val] w (Ret (.bool (!mayS s)) w) := by
  have HC := fun w => Lib.hid (may_s w s)
  go_enter Tryd.func55, Tryd.ntmps55
  go_wp2_with (go_at_call 56; refine (HC _).out.mono ?_; rintro e w1 ⟨rfl, hb⟩)
  go_ret
  exact ⟨rfl, below_via (w := w) ((Below.refl _ _).alloc (Nat.le_refl _) _) hb⟩

/-- The first place of a step that may not be; -1: there is none. -/
def firstBad : List St → Int
  | [] => -1
  | s :: l => if mayS s then (if firstBad l = -1 then -1 else firstBad l + 1) else 0
theorem firstBad_at (l : List St) (k : Nat) (s : St) (h : ∀ j x, j < k → l[j]? = some x → mayS x = true) (hk : l[k]? = some s) (hs : mayS s = false) : firstBad l = k := by
  induction k generalizing l with
  | zero => cases l with
    | nil => cases hk
    | cons x l => simp at hk; subst hk; simp [firstBad, hs]
  | succ k ih => cases l with
    | nil => cases hk
    | cons x l =>
      have h0 := h 0 x (by omega) rfl
      have := ih l (fun j y hj hy => h (j + 1) y (by omega) (by simpa using hy)) (by simpa using hk)
      simp only [firstBad, h0, if_true]
      rw [if_neg (by omega), this]; omega
theorem firstBad_none (l : List St) (h : ∀ (j : Nat) (x : St), l[j]? = some x → mayS x = true) : firstBad l = -1 := by
  induction l with
  | nil => rfl
  | cons x l ih =>
    have h0 := h 0 x rfl
    have := ih (fun j y hy => h (j + 1) y (by simpa using hy))
    simp [firstBad, h0, this]
theorem firstBad_iff : ∀ l : List St, (firstBad l = -1 ∨ 0 ≤ firstBad l) ∧ (0 ≤ firstBad l ↔ l.all mayS = false)
  | [] => ⟨.inl rfl, by simp [firstBad]⟩
  | x :: l => by
    obtain ⟨h1, h2⟩ := firstBad_iff l
    by_cases hx : mayS x = true
    · have e : firstBad (x :: l) = if firstBad l = -1 then -1 else firstBad l + 1 := by simp only [firstBad]; rw [if_pos hx]
      rw [e]
      rw [List.all_cons, hx, Bool.true_and, ← h2]
      rcases h1 with h | h
      · simp [h]
      · rw [if_neg (by omega)]; omega
    · have e : firstBad (x :: l) = 0 := by simp only [firstBad]; rw [if_neg hx]
      rw [e]; simp [hx]
theorem firstBad_all (l : List St) : decide (0 ≤ firstBad l) = !l.all mayS := by
  have h := (firstBad_iff l).2
  cases ha : l.all mayS
  · simpa using h.2 ha
  · simp only [Bool.not_true, decide_eq_false_iff_not]
    intro h0; rw [h.1 h0] at ha; cases ha

set_option maxRecDepth 100000 in
set_option maxHeartbeats 800000 in
theorem indexf (w : World) (a : Option Addr) (cap : Nat) (l : List St) (h : Sts w 0 w.heap.size a l) (hl : l.length ≤ 1048576) :
    Calls Tryd.prog 95 #[.slice a l.length cap, .func (.func 55) #[] #[]] w (Ret (.int .i64 (firstBad l)) w) := by
  go_enter Tryd.func95, Tryd.ntmps95
  go_wp2_with fail
  go_loopw [5, 8] (fun _ i wr => ∃ k : Nat, k ≤ l.length ∧ i = .int .i64 k ∧ (∀ j x, j < k → l[j]? = some x → mayS x = true) ∧ Below w.heap.size w wr) (fun _ i _ => l.length - (intOf i).toNat)
  case atStart => exact ⟨0, Nat.zero_le _, rfl, fun j x hj => absurd hj (by omega), Below.refl _ _⟩
  case round =>
    obtain ⟨k, hk, rfl, hz, hbw⟩ := hrel
    have hsz := hbw.size
    have HZ := Lib.hid hz
    clear hz
    by_cases hlt : k < l.length
    · have hks : l[k]? = some l[k] := List.getElem?_eq_getElem hlt
      generalize l[k] = s at *
      obtain ⟨b, off, rfl, -, hb1, hb2, h0, h1, h2, h3⟩ := h.at_ hks
      rw [← hbw.cell (p := ⟨_, _, none⟩) hb2] at h0 h1 h2 h3
      have hbb : b < wr.heap.size := Nat.lt_of_lt_of_le hb2 hbw.size
      have hlt' : (k : Int) < (l.length : Int) := by omega
      have HK := Lib.hid hks
      have hcl := fun W => Lib.hid (may1 W s)
      clear h hks
      go_wp2_with (go_at_call 55; refine (hcl _).out.mono ?_; rintro e w2 ⟨rfl, hb⟩)
      · have hm : mayS s = false := by have := ‹(!mayS s) = true›; simpa using this
        go_ret
        exact ⟨by rw [firstBad_at l k s HZ.out HK.out hm]; rfl, hbw.trans (hb.mono hsz)⟩
      · have hm : mayS s = true := by have := ‹(!mayS s) = false›; simpa using this
        refine ⟨⟨k + 1, by omega, by go_num, fun j x hj hx => ?_, hbw.trans (hb.mono hsz)⟩, by simp [intOf]; omega⟩
        rcases Nat.lt_or_ge j k with hj2 | hj2
        · exact HZ.out j x hj2 hx
        · obtain rfl : j = k := by omega
          rw [HK.out] at hx; injection hx with hx; rw [← hx]; exact hm
    · have hfin := Lib.hid (show firstBad l = -1 from firstBad_none l fun j x hx => HZ.out j x (by have := (List.getElem?_eq_some_iff.1 hx).1; omega) hx)
      go_wp2
      go_ret
      exact ⟨by rw [hfin.out]; rfl, hbw⟩

theorem containsf (w : World) (a : Option Addr) (cap : Nat) (l : List St) (h : Sts w 0 w.heap.size a l) (hl : l.length ≤ 1048576) :
    Calls Tryd.prog 54 #[.slice a l.length cap, .func (.func 55) #[] #[]] w (Ret (.bool (!l.all mayS)) w) := by
  have HC := Lib.hid (indexf w a cap l h hl)
  have hv := Lib.hid (firstBad_all l)
  clear h
  go_enter Tryd.func54, Tryd.ntmps54
  go_wp2_with (go_at_call 95; refine HC.out.mono ?_; rintro e w1 ⟨rfl, hb⟩)
  go_ret
  exact ⟨by rw [← hv.out]; rfl, hb⟩

theorem may16 (w : World) (a : Option Addr) (cap : Nat) (l : List St) (h : Sts w 0 w.heap.size a l) (hl : l.length ≤ 1048576) :
    Calls Tryd.prog 21 #[.slice a l.length cap] w (Ret (.bool (mayL l)) w) := by
  have HC := Lib.hid (containsf w a cap l h hl)
  clear h
  by_cases hle : l.length ≤ 512
  · have hd : decide ((l.length : Int) ≤ 512) = true := by simp; omega
    have hv := Lib.hid (show mayL l = l.all mayS by simp [mayL, hle])
    go_enter Tryd.func21, Tryd.ntmps21
    go_wp2_with (go_at_call 54; refine HC.out.mono ?_; rintro e w1 ⟨rfl, hb⟩)
    go_ret
    exact ⟨by rw [hv.out]; simp, hb⟩
  · have hd : decide ((l.length : Int) ≤ 512) = false := by simp; omega
    have hv := Lib.hid (show mayL l = false by simp [mayL, hle])
    go_enter Tryd.func21, Tryd.ntmps21
    go_wp2
    go_ret
    exact ⟨by rw [hv.out]; rfl, Below.refl _ _⟩
end Go.Proofs.YtdapimjhjnbfdaaDoor
