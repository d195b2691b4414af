/-
  Steps of paths, and the law package's helpers over them: Great answers, Same tells whether two lists of steps are one. Conditions: the lists read as data, with bounded lengths.
-/
import Derived.Test.YtdapimjhjnbfdaaDoorBase
import Derived.Test.YtdapimjhjnbfdaaDoorProg
import Derived.Deep.QuietTactic
import Derived.BigQuiet
import Derived.Outline
import Derived.Laws.StructEq
import Derived.Deep.RegionHeld3
import Derived.IntWalk
namespace Go.Proofs.YtdapimjhjnbfdaaDoor
open Go.RowKit

/-- A step, as it lies: kind, text, id, at. -/
structure St where
  k : Int
  t : ByteArray
  i : ByteArray
  a : Int
  deriving DecidableEq
def St.enc (s : St) : List Value := [.int .u8 s.k, .string s.t, .string s.i, .int .i64 s.a]
abbrev St.val (s : St) : Value := .agg #[.int .u8 s.k, .string s.t, .string s.i, .int .i64 s.a]
abbrev Sts (w : World) (lo hi : Nat) (a : Option Addr) (l : List St) : Prop := SlE St.enc 4 w lo hi a l

theorem Sts.at_ {w : World} {lo hi : Nat} {a : Option Addr} {l : List St} (h : Sts w lo hi a l) {k : Nat} {s : St} (hk : l[k]? = some s) :
    ∃ b off, a = some ⟨b, off, none⟩ ∧ lo ≤ b ∧ b < hi ∧ b < w.heap.size ∧ w.cell? ⟨b, off + k * 4, none⟩ = some (.int .u8 s.k) ∧ w.cell? ⟨b, off + k * 4 + 1, none⟩ = some (.string s.t) ∧
      w.cell? ⟨b, off + k * 4 + 2, none⟩ = some (.string s.i) ∧ w.cell? ⟨b, off + k * 4 + 3, none⟩ = some (.int .i64 s.a) := by
  have hl : k < l.length := (List.getElem?_eq_some_iff.1 hk).1
  obtain ⟨b, off, e, g1, g2, g3, g4⟩ := h (by omega)
  have c := g4 k s hk
  exact ⟨b, off, e, g1, g2, g3, by simpa using c 0 _ rfl, c 1 _ rfl, c 2 _ rfl, c 3 _ rfl⟩

/-- The bounds that the second form gives. -/
def Fit (l : List St) : Prop := l.length ≤ 1048576 ∧ ∀ s ∈ l, s.t.size ≤ 1048576 ∧ s.i.size ≤ 1048576 ∧ 0 ≤ s.k ∧ s.k ≤ 255

set_option maxRecDepth 100000 in
set_option maxHeartbeats 400000 in
theorem great16 (w : World) (a : Option Addr) (cap : Nat) (l : List St) (h : Sts w 0 w.heap.size a l) (hf : Fit l) :
    Calls Tryd.prog 10 #[.slice a l.length cap] w (RetB w) := by
  obtain ⟨hl, hs⟩ := hf
  go_enter Tryd.func10, Tryd.ntmps10
  go_wp2_with fail
  go_loopw [3, 4] (fun n i wr => ∃ k m : Nat, k ≤ l.length ∧ i = .int .i64 k ∧ n = .int .i64 m ∧ m ≤ 3100000 ∧ Below w.heap.size w wr) (fun _ i _ => l.length - (intOf i).toNat)
  case atStart => exact ⟨0, 0, Nat.zero_le _, rfl, rfl, by omega, Below.refl _ _⟩
  case round =>
    obtain ⟨k, m, hk, rfl, rfl, hm, hbw⟩ := hrel
    by_cases hlt : k < l.length
    · have hks : l[k]? = some l[k] := List.getElem?_eq_getElem hlt
      generalize l[k] = s at hks
      obtain ⟨b, off, rfl, -, hb1, hb2, h0, h1, h2, h3⟩ := h.at_ hks
      obtain ⟨z1, z2, -, -⟩ := hs s (List.mem_of_getElem? hks)
      rw [← hbw.cell (p := ⟨_, _, none⟩) hb2] at h0 h1 h2 h3
      have hbb : b < wr.heap.size := Nat.lt_of_lt_of_le hb2 hbw.size
      have hlt' : (k : Int) < (l.length : Int) := by omega
      clear hs h hks h0 h3
      by_cases hm2 : m < 3000
      · go_wp2_with fail
        go_quiet (fail)
        go_wp2_with fail
        exact ⟨⟨k + 1, m + 1 + s.t.size + s.i.size, by omega, by go_num, by go_num, by omega, below_drewN hbw _⟩, by simp [intOf]; omega⟩
      · go_wp2
        go_ret
        exact ⟨_, rfl, hbw⟩
    · go_wp2
      go_ret
      exact ⟨_, rfl, hbw⟩

theorem str_beq (a b : ByteArray) : (a.toList == b.toList) = decide (a = b) := by
  rw [Bool.eq_iff_iff, decide_eq_true_iff, beq_iff_eq, ByteArray.toList_eq, ByteArray.toList_eq]
  constructor
  · intro h
    obtain ⟨⟨x⟩⟩ := a
    obtain ⟨⟨y⟩⟩ := b
    simp only at h
    rw [h]
  · rintro rfl; rfl
theorem eql_step (w : World) (s s' : St) : (binOp .eql 25 s.val s'.val).run Tryd.prog w = .ok (.bool (decide (s = s'))) w := by
  rw [run_eql_struct]
  simp [go_sem, str_beq]
  obtain ⟨k, t, i, a⟩ := s
  obtain ⟨k', t', i', a'⟩ := s'
  simp only [St.mk.injEq]
  repeat' split
  all_goals simp_all
theorem neq_step (w : World) (s s' : St) : (binOp .neq 25 s.val s'.val).run Tryd.prog w = .ok (.bool (!decide (s = s'))) w := by
  rw [run_neq_struct]
  simp [go_sem, str_beq]
  obtain ⟨k, t, i, a⟩ := s
  obtain ⟨k', t', i', a'⟩ := s'
  simp only [St.mk.injEq]
  repeat' split
  all_goals simp_all

/-- Two lists of steps: are they one? -/
theorem bool_neq {x y : Bool} : (x != y) = !decide (x = y) := by cases x <;> cases y <;> rfl

set_option maxRecDepth 100000 in
set_option maxHeartbeats 400000 in
theorem same16 (w : World) (a a' : Option Addr) (cap cap' : Nat) (l l' : List St) (h : Sts w 0 w.heap.size a l) (h' : Sts w 0 w.heap.size a' l') (hl : l.length ≤ 1048576) (_hl' : l'.length ≤ 1048577) :
    Calls Tryd.prog 13 #[.slice a l.length cap, .slice a' l'.length cap'] w (Ret (.bool (decide (l = l'))) w) := by
  by_cases hll : l.length = l'.length
  · go_enter Tryd.func13, Tryd.ntmps13
    have hne : ((l.length : Int) != (l'.length : Int)) = false := by rw [hll]; simp
    have HLL := Lib.hid hll
    clear hll
    go_wp2_with fail
    go_loopw [5] (fun i wr => ∃ k : Nat, k ≤ l.length ∧ i = .int .i64 k ∧ l.take k = l'.take k ∧ Below w.heap.size w wr) (fun i _ => l.length - (intOf i).toNat)
    case atStart => exact ⟨0, Nat.zero_le _, rfl, by simp, Below.refl _ _⟩
    case round =>
      obtain ⟨k, hk, rfl, hpre, hbw⟩ := hrel
      have HP := Lib.hid hpre
      clear hpre
      by_cases hlt : k < l.length
      · have hlt2 : k < l'.length := by have := HLL.out; omega
        have hks : l[k]? = some l[k] := List.getElem?_eq_getElem hlt
        have hks' : l'[k]? = some l'[k] := List.getElem?_eq_getElem hlt2
        have hT : Hid (l.take (k + 1) = l.take k ++ [l[k]] ∧ l'.take (k + 1) = l'.take k ++ [l'[k]]) := ⟨by simp, by simp⟩
        have hS : Hid (l[k] ≠ l'[k] → ¬ l = l') := fun h e => h (by simp [e])
        generalize l[k] = s at *
        generalize l'[k] = s' at *
        obtain ⟨b, off, rfl, -, hb1, hb2, h0, h1, h2, h3⟩ := h.at_ hks
        obtain ⟨b', off', rfl, -, hb1', hb2', h0', h1', h2', h3'⟩ := h'.at_ hks'
        rw [← hbw.cell (p := ⟨_, _, none⟩) hb2] at h0 h1 h2 h3
        rw [← hbw.cell (p := ⟨_, _, none⟩) hb2'] at h0' h1' h2' h3'
        have hbb : b < wr.heap.size := Nat.lt_of_lt_of_le hb2 hbw.size
        have hbb' : b' < wr.heap.size := Nat.lt_of_lt_of_le hb2' hbw.size
        have hlt' : (k : Int) < (l.length : Int) := by omega
        have hlt2' : (k : Int) < (l'.length : Int) := by omega
        clear h h' hks hks'
        have hneq := fun w => neq_step w s s'
        go_wp2_with fail
        go_quiet (fail)
        go_wp2_with fail
        · have hse : ¬ s = s' := by have := ‹(!decide (s = s')) = true›; simpa using this
          go_ret
          exact ⟨by rw [decide_eq_false (hS.out hse)]; rfl, below_drewN hbw _⟩
        · have hse : s = s' := by have := ‹(!decide (s = s')) = false›; simpa using this
          have ht1 : l.take (k + 1) = l'.take (k + 1) := by rw [hT.out.1, hT.out.2, HP.out, hse]
          exact ⟨⟨k + 1, by omega, by go_num, ht1, below_drewN hbw _⟩, by simp [intOf]; omega⟩
      · have hfin : Hid (l = l') := by
          have e : k = l.length := by omega
          have hp := HP.out
          rw [e, List.take_length, HLL.out, List.take_length] at hp
          exact hp
        go_wp2
        go_ret
        exact ⟨by rw [decide_eq_true hfin.out]; rfl, hbw⟩
  · go_enter Tryd.func13, Tryd.ntmps13
    have hne : ((l.length : Int) != (l'.length : Int)) = true := by simp; omega
    have hfin : Hid (¬ l = l') := fun e => hll (by rw [e])
    clear hll
    go_wp2
    go_ret
    exact ⟨by rw [decide_eq_false hfin.out]; rfl, Below.refl _ _⟩
end Go.Proofs.YtdapimjhjnbfdaaDoor
