/-
  Which paths may be: paths.may, May$1, slices.IndexFunc and ContainsFunc at it, paths.May. Conditions: the list reads as data, with bounded length.
  The text of a path: paths.write, paths.Text. Conditions: the list reads as data with bounded lengths; strconv's table of powers holds what its initialiser lays.
  The chapter's examples of paths' texts: lives answers true. Condition: strconv's table of powers holds what its initialiser lays.
-/
import Derived.Test.YtcpdogjcofkpcaaGreatDoorP7
import Derived.Test.YtcpdogjcofkpcaaGreatDoorMaps
import Derived.WalkSmall
import Derived.Lib.AppendIntMem
import Derived.Lib.ItoaLen
namespace Go.Proofs.YtcpdogjcofkpcaaGreatDoor
open Go.RowKit

def mayS (s : St) : Bool :=
  if s.k = 0 then decide (s = ⟨s.k, s.t, ⟨#[]⟩, 0⟩) else if s.k = 1 then (decide (0 ≤ s.a) && decide (s = ⟨s.k, ⟨#[]⟩, ⟨#[]⟩, s.a⟩)) else if s.k = 2 then decide (s = ⟨s.k, s.t, s.i, 0⟩) else false
def mayL (l : List St) : Bool := decide (l.length ≤ 512) && l.all mayS

set_option maxHeartbeats 800000 in
theorem may_s (w : World) (s : St) : Calls Tryz.prog 151 #[s.val] w (Ret (.bool (mayS s)) w) := by
  have heq : ∀ w, (binOp .eql 90 s.val (.agg #[.int .u8 s.k, .string s.t, .string ⟨#[]⟩, .int .i64 0])).run Tryz.prog w = .ok (.bool (decide (s = ⟨s.k, s.t, ⟨#[]⟩, 0⟩))) w := fun w => eql_step w s ⟨s.k, s.t, ⟨#[]⟩, 0⟩
  have heq1 : ∀ w, (binOp .eql 90 s.val (.agg #[.int .u8 s.k, .string ⟨#[]⟩, .string ⟨#[]⟩, .int .i64 s.a])).run Tryz.prog w = .ok (.bool (decide (s = ⟨s.k, ⟨#[]⟩, ⟨#[]⟩, s.a⟩))) w := fun w => eql_step w s ⟨s.k, ⟨#[]⟩, ⟨#[]⟩, s.a⟩
  have heq2 : ∀ w, (binOp .eql 90 s.val (.agg #[.int .u8 s.k, .string s.t, .string s.i, .int .i64 0])).run Tryz.prog w = .ok (.bool (decide (s = ⟨s.k, s.t, s.i, 0⟩))) w := fun w => eql_step w s ⟨s.k, s.t, s.i, 0⟩
  by_cases h0 : s.k = 0
  · have hv := Lib.hid (show mayS s = decide (s = ⟨s.k, s.t, ⟨#[]⟩, 0⟩) by unfold mayS; rw [if_pos h0])
    have h0' : (s.k == 0) = true := by simp [h0]
    clear h0
    go_enter Tryz.func151, Tryz.ntmps151
    go_wp2
    go_ret
    exact ⟨by rw [hv.out]; rfl, (Below.refl _ _).alloc (Nat.le_refl _) _⟩
  · have h0' : (s.k == 0) = false := by simp [h0]
    by_cases h1 : s.k = 1
    · have h1' : (s.k == 1) = true := by simp [h1]
      by_cases ha : 0 ≤ s.a
      · have hv := Lib.hid (show mayS s = decide (s = ⟨s.k, ⟨#[]⟩, ⟨#[]⟩, s.a⟩) by unfold mayS; rw [if_neg h0, if_pos h1]; simp [ha])
        clear h0 h1
        go_enter Tryz.func151, Tryz.ntmps151
        go_wp2
        go_ret
        exact ⟨by rw [hv.out]; rfl, (Below.refl _ _).alloc (Nat.le_refl _) _⟩
      · have hv := Lib.hid (show mayS s = false by unfold mayS; rw [if_neg h0, if_pos h1]; simp [ha])
        clear h0 h1
        go_enter Tryz.func151, Tryz.ntmps151
        go_wp2
        go_ret
        exact ⟨by rw [hv.out]; rfl, (Below.refl _ _).alloc (Nat.le_refl _) _⟩
    · have h1' : (s.k == 1) = false := by simp [h1]
      by_cases h2 : s.k = 2
      · have h2' : (s.k == 2) = true := by simp [h2]
        have hv := Lib.hid (show mayS s = decide (s = ⟨s.k, s.t, s.i, 0⟩) by unfold mayS; rw [if_neg h0, if_neg h1, if_pos h2])
        clear h0 h1 h2
        go_enter Tryz.func151, Tryz.ntmps151
        go_wp2
        go_ret
        exact ⟨by rw [hv.out]; rfl, (Below.refl _ _).alloc (Nat.le_refl _) _⟩
      · have h2' : (s.k == 2) = false := by simp [h2]
        have hv := Lib.hid (show mayS s = false by unfold mayS; rw [if_neg h0, if_neg h1, if_neg h2])
        clear h0 h1 h2
        go_enter Tryz.func151, Tryz.ntmps151
        go_wp2
        go_ret
        exact ⟨by rw [hv.out]; rfl, (Below.refl _ _).alloc (Nat.le_refl _) _⟩

theorem may1 (w : World) (s : St) : Calls Tryz.prog 150 #[s.val] w (Ret (.bool (!mayS s)) w) := by
  have HC := fun w => Lib.hid (may_s w s)
  go_enter Tryz.func150, Tryz.ntmps150
  go_wp2_with (go_at_call 151; refine (HC _).out.mono ?_; rintro e w1 ⟨rfl, hb⟩)
  go_ret
  exact ⟨rfl, below_via (w := w) ((Below.refl _ _).alloc (Nat.le_refl _) _) hb⟩

/-- The first place of a step that may not be; -1: there is none. -/
def firstBad : List St → Int
  | [] => -1
  | s :: l => if mayS s then (if firstBad l = -1 then -1 else firstBad l + 1) else 0
theorem firstBad_at (l : List St) (k : Nat) (s : St) (h : ∀ j x, j < k → l[j]? = some x → mayS x = true) (hk : l[k]? = some s) (hs : mayS s = false) : firstBad l = k := by
  induction k generalizing l with
  | zero => cases l with
    | nil => cases hk
    | cons x l => simp at hk; subst hk; simp [firstBad, hs]
  | succ k ih => cases l with
    | nil => cases hk
    | cons x l =>
      have h0 := h 0 x (by omega) rfl
      have := ih l (fun j y hj hy => h (j + 1) y (by omega) (by simpa using hy)) (by simpa using hk)
      simp only [firstBad, h0, if_true]
      rw [if_neg (by omega), this]; omega
theorem firstBad_none (l : List St) (h : ∀ (j : Nat) (x : St), l[j]? = some x → mayS x = true) : firstBad l = -1 := by
  induction l with
  | nil => rfl
  | cons x l ih =>
    have h0 := h 0 x rfl
    have := ih (fun j y hy => h (j + 1) y (by simpa using hy))
    simp [firstBad, h0, this]
theorem firstBad_iff : ∀ l : List St, (firstBad l = -1 ∨ 0 ≤ firstBad l) ∧ (0 ≤ firstBad l ↔ l.all mayS = false)
  | [] => ⟨.inl rfl, by simp [firstBad]⟩
  | x :: l => by
    obtain ⟨h1, h2⟩ := firstBad_iff l
    by_cases hx : mayS x = true
    · have e : firstBad (x :: l) = if firstBad l = -1 then -1 else firstBad l + 1 := by simp only [firstBad]; rw [if_pos hx]
      rw [e]
      rw [List.all_cons, hx, Bool.true_and, ← h2]
      rcases h1 with h | h
      · simp [h]
      · rw [if_neg (by omega)]; omega
    · have e : firstBad (x :: l) = 0 := by simp only [firstBad]; rw [if_neg hx]
      rw [e]; simp [hx]
theorem firstBad_all (l : List St) : decide (0 ≤ firstBad l) = !l.all mayS := by
  have h := (firstBad_iff l).2
  cases ha : l.all mayS
  · simpa using h.2 ha
  · simp only [Bool.not_true, decide_eq_false_iff_not]
    intro h0; rw [h.1 h0] at ha; cases ha

set_option maxRecDepth 100000 in
set_option maxHeartbeats 800000 in
theorem indexf (w : World) (a : Option Addr) (cap : Nat) (l : List St) (h : Sts w 0 w.heap.size a l) (hl : l.length ≤ 1048576) :
    Calls Tryz.prog 177 #[.slice a l.length cap, .func (.func 150) #[] #[]] w (Ret (.int .i64 (firstBad l)) w) := by
  go_enter Tryz.func177, Tryz.ntmps177
  go_wp2_with fail
  go_loopw [5, 8] (fun _ i wr => ∃ k : Nat, k ≤ l.length ∧ i = .int .i64 k ∧ (∀ j x, j < k → l[j]? = some x → mayS x = true) ∧ Below w.heap.size w wr) (fun _ i _ => l.length - (intOf i).toNat)
  case atStart => exact ⟨0, Nat.zero_le _, rfl, fun j x hj => absurd hj (by omega), Below.refl _ _⟩
  case round =>
    obtain ⟨k, hk, rfl, hz, hbw⟩ := hrel
    have hsz := hbw.size
    have HZ := Lib.hid hz
    clear hz
    by_cases hlt : k < l.length
    · have hks : l[k]? = some l[k] := List.getElem?_eq_getElem hlt
      generalize l[k] = s at *
      obtain ⟨b, off, rfl, -, hb1, hb2, h0, h1, h2, h3⟩ := h.at_ hks
      rw [← hbw.cell (p := ⟨_, _, none⟩) hb2] at h0 h1 h2 h3
      have hbb : b < wr.heap.size := Nat.lt_of_lt_of_le hb2 hbw.size
      have hlt' : (k : Int) < (l.length : Int) := by omega
      have HK := Lib.hid hks
      have hcl := fun W => Lib.hid (may1 W s)
      clear h hks
      go_wp2_with (go_at_call 150; refine (hcl _).out.mono ?_; rintro e w2 ⟨rfl, hb⟩)
      · have hm : mayS s = false := by have := ‹(!mayS s) = true›; simpa using this
        go_ret
        exact ⟨by rw [firstBad_at l k s HZ.out HK.out hm]; rfl, hbw.trans (hb.mono hsz)⟩
      · have hm : mayS s = true := by have := ‹(!mayS s) = false›; simpa using this
        refine ⟨⟨k + 1, by omega, by go_num, fun j x hj hx => ?_, hbw.trans (hb.mono hsz)⟩, by simp [intOf]; omega⟩
        rcases Nat.lt_or_ge j k with hj2 | hj2
        · exact HZ.out j x hj2 hx
        · obtain rfl : j = k := by omega
          rw [HK.out] at hx; injection hx with hx; rw [← hx]; exact hm
    · have hfin := Lib.hid (show firstBad l = -1 from firstBad_none l fun j x hx => HZ.out j x (by have := (List.getElem?_eq_some_iff.1 hx).1; omega) hx)
      go_wp2
      go_ret
      exact ⟨by rw [hfin.out]; rfl, hbw⟩

theorem containsf (w : World) (a : Option Addr) (cap : Nat) (l : List St) (h : Sts w 0 w.heap.size a l) (hl : l.length ≤ 1048576) :
    Calls Tryz.prog 149 #[.slice a l.length cap, .func (.func 150) #[] #[]] w (Ret (.bool (!l.all mayS)) w) := by
  have HC := Lib.hid (indexf w a cap l h hl)
  have hv := Lib.hid (firstBad_all l)
  clear h
  go_enter Tryz.func149, Tryz.ntmps149
  go_wp2_with (go_at_call 177; refine HC.out.mono ?_; rintro e w1 ⟨rfl, hb⟩)
  go_ret
  exact ⟨by rw [← hv.out]; rfl, hb⟩

theorem may16 (w : World) (a : Option Addr) (cap : Nat) (l : List St) (h : Sts w 0 w.heap.size a l) (hl : l.length ≤ 1048576) :
    Calls Tryz.prog 107 #[.slice a l.length cap] w (Ret (.bool (mayL l)) w) := by
  have HC := Lib.hid (containsf w a cap l h hl)
  clear h
  by_cases hle : l.length ≤ 512
  · have hd : decide ((l.length : Int) ≤ 512) = true := by simp; omega
    have hv := Lib.hid (show mayL l = l.all mayS by simp [mayL, hle])
    go_enter Tryz.func107, Tryz.ntmps107
    go_wp2_with (go_at_call 149; refine HC.out.mono ?_; rintro e w1 ⟨rfl, hb⟩)
    go_ret
    exact ⟨by rw [hv.out]; simp, hb⟩
  · have hd : decide ((l.length : Int) ≤ 512) = false := by simp; omega
    have hv := Lib.hid (show mayL l = false by simp [mayL, hle])
    go_enter Tryz.func107, Tryz.ntmps107
    go_wp2
    go_ret
    exact ⟨by rw [hv.out]; rfl, Below.refl _ _⟩
end Go.Proofs.YtcpdogjcofkpcaaGreatDoor

namespace Go.Proofs.YtcpdogjcofkpcaaGreatDoor
open Go.RowKit

theorem ba_append (x y : Array UInt8) : ({ data := x } : ByteArray) ++ { data := y } = { data := x ++ y } := by
  apply ByteArray.ext
  simp

def writeS (s : St) : List UInt8 :=
  if s.k = 1 then [91] ++ Lib.itoa s.a ++ [93] else if s.k = 2 then [91] ++ hideL s.t.data.toList ++ [61] ++ hideL s.i.data.toList ++ [93] else [47] ++ hideL s.t.data.toList
def textL (l : List St) : List UInt8 := if mayL l then (if l.length = 0 then [46] else l.flatMap writeS) else []

set_option maxRecDepth 100000 in
set_option maxHeartbeats 800000 in
theorem write_s (w : World) (s : St) (ht : s.t.size ≤ 1048576) (hi : s.i.size ≤ 1048576) (ha0 : -9223372036854775808 ≤ s.a) (ha1 : s.a ≤ 9223372036854775807) (hp : Pow w) :
    Calls Tryz.prog 148 #[s.val] w (Ret (.string ⟨(writeS s).toArray⟩) w) := by
  by_cases h1 : s.k = 1
  · have h1' : (s.k == 1) = true := by simp [h1]
    have hv := Lib.hid (show writeS s = [91] ++ Lib.itoa s.a ++ [93] by unfold writeS; rw [if_pos h1])
    clear h1
    have hlen : (Lib.itoa s.a).length ≤ 21 := Lib.itoa_length_le s.a ha0 ha1
    have HC := fun (W : World) (hW : Pow W) => Lib.hid (Tryz.strconv_Itoa s.a ha0 ha1 W hW)
    go_enter Tryz.func148, Tryz.ntmps148
    go_wp2_with (go_at_call 138; refine (HC _ ?_).out.mono ?_; exact hp.below ((Below.refl _ _).alloc (Nat.le_refl _) _); rintro e w1 ⟨rfl, k, os, rfl⟩)
    go_ret
    refine ⟨?_, ?_⟩
    · rw [hv.out]; simp [ba_append]
    · exact below_via (w := w) ((Below.refl _ _).alloc (Nat.le_refl _) _) (Lib.below_grow _ _ (Nat.le_refl _) _ _)
  · have h1' : (s.k == 1) = false := by simp [h1]
    have HC := fun W => Lib.hid (hide_c W s.t ht)
    have HD := fun W => Lib.hid (hide_c W s.i hi)
    have hl1 := hideL_len s.t.data.toList
    have hl2 := hideL_len s.i.data.toList
    have hl3 : (hideL s.t.data.toList).length ≤ 3145728 := by simp at hl1; omega
    have hl4 : (hideL s.i.data.toList).length ≤ 3145728 := by simp at hl2; omega
    clear hl1 hl2
    by_cases h2 : s.k = 2
    · have h2' : (s.k == 2) = true := by simp [h2]
      have hv := Lib.hid (show writeS s = [91] ++ hideL s.t.data.toList ++ [61] ++ hideL s.i.data.toList ++ [93] by unfold writeS; rw [if_neg h1, if_pos h2])
      clear h1 h2
      have n0 : ¬ 9223372036854775807 < 1 + (hideL s.t.data.toList).length := by omega
      have n1 : ¬ 9223372036854775807 < 1 + (hideL s.t.data.toList).length + 1 := by omega
      have n2 : ¬ 9223372036854775807 < 1 + (hideL s.t.data.toList).length + 1 + (hideL s.i.data.toList).length := by omega
      have n3 : ¬ 9223372036854775807 < 1 + (hideL s.t.data.toList).length + 1 + (hideL s.i.data.toList).length + 1 := by omega
      go_enter Tryz.func148, Tryz.ntmps148
      go_wp2_with fail
      go_region_held3 (fun w' => w'.cell? ⟨w.heap.size, 1, none⟩ = some (.string s.t) ∧ w'.cell? ⟨w.heap.size, 2, none⟩ = some (.string s.i))
        (first | go_keep | exact ⟨r1, r2⟩ | exact ⟨q1, q2⟩)
        (first
          | (go_at_call_of 176 (s.t); refine (HC _).out.mono ?_; rintro e w1 ⟨rfl, hb1⟩
             have q1 := (hb1.cell (p := ⟨w.heap.size, 1, none⟩) (by simp)).trans (show _ = some (Value.string s.t) by go_simp)
             have q2 := (hb1.cell (p := ⟨w.heap.size, 2, none⟩) (by simp)).trans (show _ = some (Value.string s.i) by go_simp)
             have hsz1 := hb1.size
             simp only [World.size_drew, World.size_alloc] at hsz1)
          | (go_at_call_of 176 (s.i); refine (HD _).out.mono ?_; rintro e w2 ⟨rfl, hb2⟩
             have r1 := (hb2.cell (p := ⟨w.heap.size, 1, none⟩) (by simp; omega)).trans q1
             have r2 := (hb2.cell (p := ⟨w.heap.size, 2, none⟩) (by simp; omega)).trans q2))
      all_goals
        go_wp2
        go_ret
        exact ⟨by rw [hv.out]; simp [ba_append], (below_via (w := w) ((Below.refl _ _).alloc (Nat.le_refl _) _).drew hb1).trans (hb2.mono (by omega))⟩
    · have h2' : (s.k == 2) = false := by simp [h2]
      have hv := Lib.hid (show writeS s = [47] ++ hideL s.t.data.toList by unfold writeS; rw [if_neg h1, if_neg h2])
      clear h1 h2
      go_enter Tryz.func148, Tryz.ntmps148
      go_wp2_with (go_at_call 176; refine (HC _).out.mono ?_; rintro e w1 ⟨rfl, hb⟩)
      go_ret
      exact ⟨by rw [hv.out]; simp [ba_append], below_via (w := w) ((Below.refl _ _).alloc (Nat.le_refl _) _) hb⟩

/-- Steps whose places are numbers of 64 bits, too. -/
def Fit2 (l : List St) : Prop := Fit l ∧ ∀ s ∈ l, -9223372036854775808 ≤ s.a ∧ s.a ≤ 9223372036854775807
/-- The bytes of all texts together. -/
def total (l : List St) : Nat := (l.map fun s => s.t.size + s.i.size).sum

theorem writeS_len (s : St) (h0 : -9223372036854775808 ≤ s.a) (h1 : s.a ≤ 9223372036854775807) : (writeS s).length ≤ 3 * (s.t.size + s.i.size) + 24 := by
  have h2 := hideL_len s.t.data.toList
  have h3 := hideL_len s.i.data.toList
  have h4 := Lib.itoa_length_le s.a h0 h1
  simp at h2 h3
  have e1 : s.t.data.size = s.t.size := rfl
  have e2 : s.i.data.size = s.i.size := rfl
  unfold writeS
  split
  · simp; omega
  · split <;> simp <;> omega
theorem total_take_le : ∀ (l : List St) (k : Nat), total (l.take k) ≤ total l
  | [], k => by simp [total]
  | s :: l, 0 => by simp [total]
  | s :: l, k + 1 => by
    have := total_take_le l k
    simp only [total, List.take_succ_cons, List.map_cons, List.sum_cons] at *
    omega
theorem flat_write_len (l : List St) (h : ∀ s ∈ l, -9223372036854775808 ≤ s.a ∧ s.a ≤ 9223372036854775807) : (l.flatMap writeS).length ≤ 3 * total l + 24 * l.length := by
  induction l with
  | nil => simp
  | cons s l ih =>
    have h1 := writeS_len s (h s (by simp)).1 (h s (by simp)).2
    have h2 := ih fun x hx => h x (by simp [hx])
    simp only [List.flatMap_cons, List.length_append, total, List.map_cons, List.sum_cons, List.length_cons] at *
    omega

set_option maxRecDepth 100000 in
set_option maxHeartbeats 1600000 in
theorem text16 (w : World) (a : Option Addr) (cap : Nat) (l : List St) (h : Sts w 0 w.heap.size a l) (hf : Fit2 l) (ht : total l ≤ 1048576) (hp : Pow w) :
    Calls Tryz.prog 106 #[.slice a l.length cap] w (Ret (.string ⟨(textL l).toArray⟩) w) := by
  obtain ⟨⟨hl, hs⟩, ha⟩ := hf
  have HM := Lib.hid (may16 w a cap l h hl)
  by_cases hm : mayL l = true
  · rw [hm] at HM
    by_cases h0 : l.length = 0
    · have hv := Lib.hid (show textL l = [46] by unfold textL; rw [if_pos hm, if_pos h0])
      have h0' : ((l.length : Int) == 0) = true := by simp [h0]
      clear h0 hm
      go_enter Tryz.func106, Tryz.ntmps106
      go_wp2_with (go_at_call 107; refine HM.out.mono ?_; rintro e w1 ⟨rfl, hb⟩)
      go_ret
      exact ⟨by rw [hv.out]; rfl, hb⟩
    · have hv := Lib.hid (show textL l = l.flatMap writeS by unfold textL; rw [if_pos hm, if_neg h0])
      have h0' : ((l.length : Int) == 0) = false := by rw [beq_eq_false_iff_ne]; omega
      clear h0 hm
      go_enter Tryz.func106, Tryz.ntmps106
      go_wp2_with (go_at_call 107; refine HM.out.mono ?_; rintro e w1 ⟨rfl, hb⟩)
      have hsz1 := hb.size
      go_loopw [5, 16] (fun _ i wr => ∃ k : Nat, k ≤ l.length ∧ i = .int .i64 k ∧ Bld w1.heap.size w1.heap.size ((l.take k).flatMap writeS) wr ∧ Below w1.heap.size w1 wr) (fun _ i _ => l.length - (intOf i).toNat)
      case atStart => exact ⟨0, Nat.zero_le _, rfl, fresh_l w1, (Below.refl _ _).alloc (Nat.le_refl _) _⟩
      case round =>
        obtain ⟨k, hk, rfl, hB, hbw⟩ := hrel
        have hsz := hbw.size
        have hbx := hb.trans (hbw.mono hsz1)
        by_cases hlt : k < l.length
        · have hks : l[k]? = some l[k] := List.getElem?_eq_getElem hlt
          have hT := Lib.hid (show (l.take (k + 1)).flatMap writeS = (l.take k).flatMap writeS ++ writeS l[k] by rw [List.take_succ_eq_append_getElem hlt, List.flatMap_append]; simp)
          have hlen := flat_write_len (l.take (k + 1)) (fun x hx => ha x (List.mem_of_mem_take hx))
          have htot := total_take_le l (k + 1)
          rw [hT.out, List.length_append] at hlen
          have hlen2 : ((l.take k).flatMap writeS).length + (writeS l[k]).length ≤ 1000000000 := by
            have : (l.take (k + 1)).length ≤ l.length := List.length_take_le' _ _
            omega
          clear hlen htot
          generalize l[k] = s at *
          obtain ⟨b, off, rfl, -, hb1, hb2, h0, h1, h2, h3⟩ := h.at_ hks
          obtain ⟨z1, z2, -, -⟩ := hs s (List.mem_of_getElem? hks)
          obtain ⟨y1, y2⟩ := ha s (List.mem_of_getElem? hks)
          rw [← hbx.cell (p := ⟨_, _, none⟩) hb2] at h0 h1 h2 h3
          have hbb : b < wr.heap.size := Nat.lt_of_lt_of_le hb2 hbx.size
          have hlt' : (k : Int) < (l.length : Int) := by omega
          have hpw := hp.below hbx
          have hcl := fun W hW => Lib.hid (write_s W s z1 z2 y1 y2 hW)
          have hl5 : ((l.take k).flatMap writeS).length + ({ data := (writeS s).toArray } : ByteArray).size ≤ 140737488355328 := by show _ + (writeS s).length ≤ _; omega
          clear h hs ha hks
          go_wp2_with (first
            | (go_at_call 148; refine (hcl _ ?_).out.mono ?_; exact hpw.below ((Below.refl _ _).alloc (Nat.le_refl _) _); rintro e w2 ⟨rfl, hb3⟩
               have hsz3 : wr.heap.size ≤ w2.heap.size := by have := hb3.size; simp at this; omega)
            | (go_at_call 134; refine (wstring_l _ _ _ _ _ ((hB.alloc _).below hb3) hl5 (Nat.le_trans hsz hsz3)).mono ?_; rintro e w3 ⟨rfl, hB4, hb4, hk4⟩))
          exact ⟨⟨k + 1, by omega, by go_num, by rw [hT.out]; exact hB4, ((hbw.alloc hsz _).trans (hb3.mono (by simp; omega))).trans hb4⟩, by simp [intOf]; omega⟩
        · have hk2 := Lib.hid (show l.take k = l by rw [List.take_of_length_le (by omega)])
          rw [hk2.out] at hB
          go_wp2_with (go_at_call 96; refine (bstring_l _ _ _ _ hB hsz).mono ?_; rintro e w2 ⟨rfl, hB2, hb2, hk3⟩)
          go_ret
          exact ⟨by rw [hv.out]; rfl, hbx.trans (hb2.mono hsz1)⟩
  · have hm' : mayL l = false := by simpa using hm
    rw [hm'] at HM
    have hv := Lib.hid (show textL l = [] by unfold textL; rw [if_neg hm])
    clear hm hm'
    go_enter Tryz.func106, Tryz.ntmps106
    go_wp2_with (go_at_call 107; refine HM.out.mono ?_; rintro e w1 ⟨rfl, hb⟩)
    go_ret
    exact ⟨by rw [hv.out]; rfl, hb⟩
end Go.Proofs.YtcpdogjcofkpcaaGreatDoor

namespace Go.Proofs.YtcpdogjcofkpcaaGreatDoor
open Go.RowKit

def ex1 : List St := [⟨0, ⟨#[97]⟩, ⟨#[]⟩, 0⟩, ⟨1, ⟨#[]⟩, ⟨#[]⟩, 3⟩, ⟨2, ⟨#[120]⟩, ⟨#[34, 121, 34]⟩, 0⟩]
def ex2 : List St := [⟨0, ⟨#[97, 47, 98]⟩, ⟨#[]⟩, 0⟩]
theorem ex1_text : textL ex1 = [47, 97, 91, 51, 93, 91, 120, 61, 34, 121, 34, 93] := by decide +kernel
theorem ex2_text : textL ex2 = [47, 97, 37, 50, 102, 98] := by decide +kernel
theorem nil_text : textL [] = [46] := by decide +kernel
theorem fit_ex1 : Fit2 ex1 := by
  refine ⟨⟨by decide, ?_⟩, ?_⟩
  · intro s hs
    simp only [ex1, List.mem_cons, List.not_mem_nil, or_false] at hs
    rcases hs with rfl | rfl | rfl <;> decide
  · intro s hs
    simp only [ex1, List.mem_cons, List.not_mem_nil, or_false] at hs
    rcases hs with rfl | rfl | rfl <;> decide
theorem fit_ex2 : Fit2 ex2 := by
  refine ⟨⟨by decide, ?_⟩, ?_⟩
  · intro s hs
    simp only [ex2, List.mem_cons, List.not_mem_nil, or_false] at hs
    subst hs; decide
  · intro s hs
    simp only [ex2, List.mem_cons, List.not_mem_nil, or_false] at hs
    subst hs; decide

theorem call_ex1 (W : World) (hp : Pow W) : Calls Tryz.prog 106 #[.slice (some ⟨W.heap.size, 0, none⟩) 3 3] (W.alloc (.cells #[.int .u8 0, .string ⟨#[97]⟩, .string ⟨#[]⟩, .int .i64 0, .int .u8 1, .string ⟨#[]⟩, .string ⟨#[]⟩, .int .i64 3, .int .u8 2, .string ⟨#[120]⟩, .string ⟨#[34, 121, 34]⟩, .int .i64 0] 90))
    (Ret (.string ⟨#[47, 97, 91, 51, 93, 91, 120, 61, 34, 121, 34, 93]⟩) (W.alloc (.cells #[.int .u8 0, .string ⟨#[97]⟩, .string ⟨#[]⟩, .int .i64 0, .int .u8 1, .string ⟨#[]⟩, .string ⟨#[]⟩, .int .i64 3, .int .u8 2, .string ⟨#[120]⟩, .string ⟨#[34, 121, 34]⟩, .int .i64 0] 90))) := by
  have h := text16 (W.alloc (.cells (ex1.flatMap St.enc).toArray 90)) (some ⟨W.heap.size, 0, none⟩) 3 ex1 ((lit_sl St.enc_len (t := 90) (fr := (0, 0)) (heap_alloc_new W _)).widen (Nat.zero_le _) (by simp)) fit_ex1 (by decide) (hp.below ((Below.refl _ _).alloc (Nat.le_refl _) _))
  rw [ex1_text] at h
  exact h
theorem call_ex2 (W : World) (hp : Pow W) : Calls Tryz.prog 106 #[.slice (some ⟨W.heap.size, 0, none⟩) 1 1] (W.alloc (.cells #[.int .u8 0, .string ⟨#[97, 47, 98]⟩, .string ⟨#[]⟩, .int .i64 0] 90))
    (Ret (.string ⟨#[47, 97, 37, 50, 102, 98]⟩) (W.alloc (.cells #[.int .u8 0, .string ⟨#[97, 47, 98]⟩, .string ⟨#[]⟩, .int .i64 0] 90))) := by
  have h := text16 (W.alloc (.cells (ex2.flatMap St.enc).toArray 90)) (some ⟨W.heap.size, 0, none⟩) 1 ex2 ((lit_sl St.enc_len (t := 90) (fr := (0, 0)) (heap_alloc_new W _)).widen (Nat.zero_le _) (by simp)) fit_ex2 (by decide) (hp.below ((Below.refl _ _).alloc (Nat.le_refl _) _))
  rw [ex2_text] at h
  exact h
theorem call_nil (W : World) (hp : Pow W) : Calls Tryz.prog 106 #[.slice none 0 0] W (Ret (.string ⟨#[46]⟩) W) := by
  have h := text16 W none 0 [] SlE.nil ⟨⟨by decide, by simp⟩, by simp⟩ (by decide) hp
  rw [nil_text] at h
  exact h

set_option maxRecDepth 100000 in
set_option maxHeartbeats 800000 in
theorem lives16 (w : World) (hp : Pow w) : Calls Tryz.prog 54 #[] w (Ret (.bool true) w) := by
  have C1 := fun W hW => Lib.hid (call_ex1 W hW)
  have C2 := fun W hW => Lib.hid (call_ex2 W hW)
  have C3 := fun W hW => Lib.hid (call_nil W hW)
  go_enter Tryz.func54, Tryz.ntmps54
  go_wp2_with fail
  refine (C1 w hp).out.mono ?_
  rintro e w1 ⟨rfl, hb1⟩
  have hb1' := below_via (w := w) ((Below.refl _ _).alloc (Nat.le_refl _) _) hb1
  go_wp2_with fail
  refine (C2 w1 (hp.below hb1')).out.mono ?_
  rintro e w2 ⟨rfl, hb2⟩
  have hb2' := hb1'.trans (((Below.refl _ _).alloc hb1'.size _).trans (hb2.mono (by have := hb1'.size; simp; omega)))
  go_wp2_with fail
  refine (C3 w2 (hp.below hb2')).out.mono ?_
  rintro e w3 ⟨rfl, hb3⟩
  go_wp2_with fail
  go_ret
  exact ⟨rfl, hb2'.trans (hb3.mono hb2'.size)⟩
end Go.Proofs.YtcpdogjcofkpcaaGreatDoor
