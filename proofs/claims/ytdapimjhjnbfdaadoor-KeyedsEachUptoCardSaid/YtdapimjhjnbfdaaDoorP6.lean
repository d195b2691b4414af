/-
  paths.Cmp and the reference's Cmp compute one function of two lists of steps. Conditions: the lists read as data, with bounded lengths.
  The reference's Cmp computes the same function as paths.Cmp; slices.Equal and Begins over steps. Conditions: the lists read as data, with bounded lengths.
  slices.Equal over steps, and paths.Begins. Conditions: the lists read as data, with bounded lengths.
-/
import Derived.Test.YtdapimjhjnbfdaaDoorP3
namespace Go.Proofs.YtdapimjhjnbfdaaDoor
open Go.RowKit

def cmpSts : List St → List St → Int
  | [], [] => 0
  | [], _ :: _ => -1
  | _ :: _, [] => 1
  | x :: l, y :: m => if cmpSt x y = 0 then cmpSts l m else cmpSt x y

/-- What k equal rounds leave. -/
theorem cmpSts_drop : ∀ (k : Nat) (l m : List St), (∀ j x y, j < k → l[j]? = some x → m[j]? = some y → cmpSt x y = 0) → k ≤ l.length → k ≤ m.length → cmpSts l m = cmpSts (l.drop k) (m.drop k)
  | 0, _, _, _, _, _ => rfl
  | k + 1, [], _, _, h1, _ => by simp at h1
  | k + 1, _ :: _, [], _, _, h2 => by simp at h2
  | k + 1, x :: l, y :: m, h, h1, h2 => by
    have h0 := h 0 x y (by omega) rfl rfl
    simp only [cmpSts, h0, if_true, List.drop_succ_cons]
    exact cmpSts_drop k l m (fun j a b hj ha hb => h (j + 1) a b (by omega) (by simpa using ha) (by simpa using hb)) (by simpa using h1) (by simpa using h2)
theorem cmpSts_at {l m : List St} {k : Nat} {x y : St} (h : ∀ j x y, j < k → l[j]? = some x → m[j]? = some y → cmpSt x y = 0) (hx : l[k]? = some x) (hy : m[k]? = some y) (hne : cmpSt x y ≠ 0) : cmpSts l m = cmpSt x y := by
  have h1 := (List.getElem?_eq_some_iff.1 hx)
  have h2 := (List.getElem?_eq_some_iff.1 hy)
  obtain ⟨h1, rfl⟩ := h1
  obtain ⟨h2, rfl⟩ := h2
  rw [cmpSts_drop k l m h (by omega) (by omega), List.drop_eq_getElem_cons h1, List.drop_eq_getElem_cons h2]
  simp [cmpSts, hne]

set_option maxRecDepth 100000 in
set_option maxHeartbeats 1600000 in
theorem cmpf (w : World) (a a' : Option Addr) (cap cap' : Nat) (l l' : List St) (h : Sts w 0 w.heap.size a l) (h' : Sts w 0 w.heap.size a' l') (hl : l.length ≤ 1048576) (_hl' : l'.length ≤ 1048576) :
    Calls Tryd.prog 42 #[.slice a l.length cap, .slice a' l'.length cap', .func (.func 43) #[] #[]] w (Ret (.int .i64 (cmpSts l l')) w) := by
  go_enter Tryd.func42, Tryd.ntmps42
  go_wp2_with fail
  go_loopw [6, 7, 8, 9, 10, 13] (fun q _ _ _ _ i wr => q = .int .i64 0 ∧ ∃ k : Nat, k ≤ l.length ∧ k ≤ l'.length ∧ i = .int .i64 k ∧ (∀ j x y, j < k → l[j]? = some x → l'[j]? = some y → cmpSt x y = 0) ∧ Below w.heap.size w wr) (fun _ _ _ _ _ i _ => l.length - (intOf i).toNat)
  case atStart => exact ⟨rfl, 0, Nat.zero_le _, Nat.zero_le _, rfl, fun j x y hj => absurd hj (by omega), Below.refl _ _⟩
  case round =>
    obtain ⟨rfl, k, hk, hk', rfl, hz, hbw⟩ := hrel
    have hsz := hbw.size
    have HZ := Lib.hid hz
    clear hz
    by_cases hlt : k < l.length
    · have hks : l[k]? = some l[k] := List.getElem?_eq_getElem hlt
      generalize l[k] = s at *
      obtain ⟨b, off, rfl, -, hb1, hb2, h0, h1, h2, h3⟩ := h.at_ hks
      rw [← hbw.cell (p := ⟨_, _, none⟩) hb2] at h0 h1 h2 h3
      have hbb : b < wr.heap.size := Nat.lt_of_lt_of_le hb2 hbw.size
      have hlt' : (k : Int) < (l.length : Int) := by omega
      have HK := Lib.hid hks
      clear h hks
      by_cases hlt2 : k < l'.length
      · have hks' : l'[k]? = some l'[k] := List.getElem?_eq_getElem hlt2
        generalize l'[k] = s' at *
        obtain ⟨b', off', rfl, -, hb1', hb2', h0', h1', h2', h3'⟩ := h'.at_ hks'
        rw [← hbw.cell (p := ⟨_, _, none⟩) hb2'] at h0' h1' h2' h3'
        have hbb' : b' < wr.heap.size := Nat.lt_of_lt_of_le hb2' hbw.size
        have hlt2' : (k : Int) < (l'.length : Int) := by omega
        have HK' := Lib.hid hks'
        clear h' hks'
        have hcl := fun W => Lib.hid (cmp1 W s s')
        go_wp2_with (go_at_call 43; refine (hcl _).out.mono ?_; rintro e w2 ⟨rfl, hb⟩)
        · have hne : cmpSt s s' ≠ 0 := by have := ‹(cmpSt s s' != 0) = true›; simpa using this
          go_ret
          exact ⟨by rw [cmpSts_at HZ.out HK.out HK'.out hne]; rfl, below_via (w := w) (by repeat (first | exact hbw | exact Below.refl _ _ | refine Below.drew ?_ | refine Below.setCell ?_ (by first | omega | (simp; done) | (simp; omega)) _ | refine Below.alloc ?_ (by first | omega | (simp; done) | (simp; omega)) _)) hb⟩
        · have hz0 : cmpSt s s' = 0 := by have := ‹(cmpSt s s' != 0) = false›; simpa using this
          refine ⟨⟨rfl, k + 1, by omega, by omega, by go_num, fun j x y hj hx hy => ?_, below_via (w := w) (by repeat (first | exact hbw | exact Below.refl _ _ | refine Below.drew ?_ | refine Below.setCell ?_ (by first | omega | (simp; done) | (simp; omega)) _ | refine Below.alloc ?_ (by first | omega | (simp; done) | (simp; omega)) _)) hb⟩, by simp [intOf]; omega⟩
          rcases Nat.lt_or_ge j k with hj2 | hj2
          · exact HZ.out j x y hj2 hx hy
          · obtain rfl : j = k := by omega
            rw [HK.out] at hx; rw [HK'.out] at hy; injection hx with hx; injection hy with hy; rw [← hx, ← hy]; exact hz0
      · have hfin := Lib.hid (show cmpSts l l' = 1 by rw [cmpSts_drop k l l' HZ.out hk hk', List.drop_eq_nil_of_le (show l'.length ≤ k by omega), List.drop_eq_getElem_cons hlt]; rfl)
        go_wp2_with fail
        go_ret
        exact ⟨by rw [hfin.out]; rfl, (by repeat (first | exact hbw | exact Below.refl _ _ | refine Below.drew ?_ | refine Below.setCell ?_ (by first | omega | (simp; done) | (simp; omega)) _ | refine Below.alloc ?_ (by first | omega | (simp; done) | (simp; omega)) _))⟩
    · by_cases hlt2 : k < l'.length
      · have hfin := Lib.hid (show cmpSts l l' = -1 by rw [cmpSts_drop k l l' HZ.out hk hk', List.drop_eq_nil_of_le (show l.length ≤ k by omega), List.drop_eq_getElem_cons hlt2]; rfl)
        go_wp2_with fail
        go_ret
        exact ⟨by rw [hfin.out]; rfl, hbw⟩
      · have hfin := Lib.hid (show cmpSts l l' = 0 by rw [cmpSts_drop k l l' HZ.out hk hk', List.drop_eq_nil_of_le (show l.length ≤ k by omega), List.drop_eq_nil_of_le (show l'.length ≤ k by omega)]; rfl)
        go_wp2_with fail
        go_ret
        exact ⟨by rw [hfin.out]; rfl, hbw⟩

theorem cmp16 (w : World) (a a' : Option Addr) (cap cap' : Nat) (l l' : List St) (h : Sts w 0 w.heap.size a l) (h' : Sts w 0 w.heap.size a' l') (hl : l.length ≤ 1048576) (hl' : l'.length ≤ 1048576) :
    Calls Tryd.prog 15 #[.slice a l.length cap, .slice a' l'.length cap'] w (Ret (.int .i64 (cmpSts l l')) w) := by
  have hc := Lib.hid (cmpf w a a' cap cap' l l' h h' hl hl')
  clear h h'
  go_enter Tryd.func15, Tryd.ntmps15
  go_wp2_with (go_at_call 42; refine hc.out.mono ?_; rintro e w2 ⟨rfl, hb⟩)
  go_ret
  exact ⟨rfl, hb⟩
end Go.Proofs.YtdapimjhjnbfdaaDoor

namespace Go.Proofs.YtdapimjhjnbfdaaDoor
open Go.RowKit

def lessOf (s s' : St) : Bool :=
  if s.k = s'.k then if s.t = s'.t then if s.a = s'.a then Op.bytesLess s.i.toList s'.i.toList else decide (s.a < s'.a) else Op.bytesLess s.t.toList s'.t.toList else decide (s.k < s'.k)

theorem bytesLess_irrefl : ∀ (l : List UInt8), Op.bytesLess l l = false
  | [] => rfl
  | x :: l => by simp [Op.bytesLess, bytesLess_irrefl l]
theorem cmpStr_zero {a b : ByteArray} : cmpStr a b = 0 ↔ a = b := by
  unfold cmpStr
  constructor
  · intro h
    split at h
    · cases h
    · split at h
      · assumption
      · cases h
  · rintro rfl
    simp [bytesLess_irrefl]
theorem cmpInt_zero {a b : Int} : cmpInt a b = 0 ↔ a = b := by
  unfold cmpInt
  constructor
  · intro h
    split at h
    · cases h
    · split at h
      · cases h
      · omega
  · rintro rfl
    simp
theorem cmpSt_zero {s s' : St} : cmpSt s s' = 0 ↔ s = s' := by
  obtain ⟨k, t, i, a⟩ := s
  obtain ⟨k', t', i', a'⟩ := s'
  simp only [cmpSt, orInt, St.mk.injEq]
  constructor
  · intro h
    split at h
    · rename_i h1
      split at h
      · rename_i h2
        split at h
        · rename_i h3
          split at h
          · rename_i h4
            exact ⟨cmpInt_zero.1 h1, cmpStr_zero.1 h2, cmpStr_zero.1 h4, cmpInt_zero.1 h3⟩
          · contradiction
        · contradiction
      · contradiction
    · contradiction
  · rintro ⟨rfl, rfl, rfl, rfl⟩
    simp [cmpInt_zero.2, cmpStr_zero.2]
theorem cmpSt_less {s s' : St} (h : s ≠ s') : cmpSt s s' = if lessOf s s' then -1 else 1 := by
  have h0 : cmpSt s s' ≠ 0 := fun e => h (cmpSt_zero.1 e)
  obtain ⟨k, t, i, a⟩ := s
  obtain ⟨k', t', i', a'⟩ := s'
  simp only [cmpSt, orInt, lessOf] at *
  by_cases h1 : k = k'
  · simp only [h1, cmpInt_zero.2, if_true] at *
    by_cases h2 : t = t'
    · simp only [h2, cmpStr_zero.2, if_true] at *
      by_cases h3 : a = a'
      · simp only [h3, cmpInt_zero.2, if_true] at *
        split at h0
        · exact absurd rfl h0
        · rename_i h4
          rw [if_neg h4]
          unfold cmpStr at h4 ⊢
          split
          · rfl
          · split
            · rename_i hb he; subst he; exact absurd (by simp [bytesLess_irrefl]) h4
            · rfl
      · have h4 : ¬ cmpInt a a' = 0 := fun e => h3 (cmpInt_zero.1 e)
        rw [if_neg h4, if_neg h3]
        unfold cmpInt
        by_cases h5 : a < a'
        · simp [h5]
        · simp [h5]; omega
    · have h4 : ¬ cmpStr t t' = 0 := fun e => h2 (cmpStr_zero.1 e)
      rw [if_neg h4, if_neg h2]
      unfold cmpStr
      split
      · simp [*]
      · simp [*]
  · have h4 : ¬ cmpInt k k' = 0 := fun e => h1 (cmpInt_zero.1 e)
    rw [if_neg h4, if_neg h1]
    unfold cmpInt
    by_cases h5 : k < k'
    · simp [h5]
    · simp [h5]; omega

/-- The same in the walk's own spelling. -/
def lessB (s s' : St) : Bool :=
  if (s.k != s'.k) = true then decide (s.k < s'.k) else if (!(s.t.toList == s'.t.toList)) = true then Op.bytesLess s.t.toList s'.t.toList else if (s.a != s'.a) = true then decide (s.a < s'.a) else Op.bytesLess s.i.toList s'.i.toList
theorem lessB_eq (s s' : St) : lessB s s' = lessOf s s' := by
  unfold lessB lessOf
  rw [str_beq]
  by_cases h1 : s.k = s'.k <;> by_cases h2 : s.t = s'.t <;> by_cases h3 : s.a = s'.a <;> simp [h1, h2, h3]

set_option maxRecDepth 100000 in
set_option maxHeartbeats 1600000 in
theorem refcmp16 (w : World) (a a' : Option Addr) (cap cap' : Nat) (l l' : List St) (h : Sts w 0 w.heap.size a l) (h' : Sts w 0 w.heap.size a' l') (hl : l.length ≤ 1048576) (_hl' : l'.length ≤ 1048576) :
    Calls Tryd.prog 16 #[.slice a l.length cap, .slice a' l'.length cap'] w (Ret (.int .i64 (cmpSts l l')) w) := by
  go_enter Tryd.func16, Tryd.ntmps16
  go_wp2_with fail
  go_loopw [4, 5, 6, 7, 8] (fun q i _ _ _ wr => q = .int .i64 0 ∧ ∃ k : Nat, k ≤ l.length ∧ k ≤ l'.length ∧ i = .int .i64 k ∧ (∀ j x y, j < k → l[j]? = some x → l'[j]? = some y → cmpSt x y = 0) ∧ Below w.heap.size w wr) (fun _ i _ _ _ _ => l.length - (intOf i).toNat)
  case atStart => exact ⟨rfl, 0, Nat.zero_le _, Nat.zero_le _, rfl, fun j x y hj => absurd hj (by omega), Below.refl _ _⟩
  case round =>
    obtain ⟨rfl, k, hk, hk', rfl, hz, hbw⟩ := hrel
    have hsz := hbw.size
    have HZ := Lib.hid hz
    clear hz
    by_cases hlt : k < l.length ∧ k < l'.length
    · obtain ⟨hlt, hlt2⟩ := hlt
      have hks : l[k]? = some l[k] := List.getElem?_eq_getElem hlt
      have hks' : l'[k]? = some l'[k] := List.getElem?_eq_getElem hlt2
      generalize l[k] = s at *
      generalize l'[k] = s' at *
      obtain ⟨b, off, rfl, -, hb1, hb2, h0, h1, h2, h3⟩ := h.at_ hks
      obtain ⟨b', off', rfl, -, hb1', hb2', h0', h1', h2', h3'⟩ := h'.at_ hks'
      rw [← hbw.cell (p := ⟨_, _, none⟩) hb2] at h0 h1 h2 h3
      rw [← hbw.cell (p := ⟨_, _, none⟩) hb2'] at h0' h1' h2' h3'
      have hbb : b < wr.heap.size := Nat.lt_of_lt_of_le hb2 hbw.size
      have hbb' : b' < wr.heap.size := Nat.lt_of_lt_of_le hb2' hbw.size
      have hlt' : (k : Int) < (l.length : Int) := by omega
      have hlt2' : (k : Int) < (l'.length : Int) := by omega
      have HK := Lib.hid hks
      have HK' := Lib.hid hks'
      have heq := fun w => eql_step w s s'
      clear h h' hks hks'
      by_cases he : s = s'
      · have he' : decide (s = s') = true := by simpa using he
        rw [he'] at heq
        have HE := Lib.hid he
        clear he he'
        go_wp2_with fail
        refine ⟨⟨rfl, k + 1, by omega, by omega, by go_num, fun j x y hj hx hy => ?_, (by repeat (first | exact hbw | exact Below.refl _ _ | refine Below.drew ?_ | refine Below.setCell ?_ (by first | omega | (simp; done) | (simp; omega)) _ | refine Below.alloc ?_ (by first | omega | (simp; done) | (simp; omega)) _))⟩, by simp [intOf]; omega⟩
        rcases Nat.lt_or_ge j k with hj2 | hj2
        · exact HZ.out j x y hj2 hx hy
        · obtain rfl : j = k := by omega
          rw [HK.out] at hx; rw [HK'.out] at hy; injection hx with hx; injection hy with hy; rw [← hx, ← hy]; exact cmpSt_zero.2 HE.out
      · have he' : decide (s = s') = false := by simpa using he
        rw [he'] at heq
        have hlo := Lib.hid (show cmpSts l l' = if lessB s s' then -1 else 1 by rw [cmpSts_at HZ.out HK.out HK'.out (fun e => he (cmpSt_zero.1 e)), lessB_eq]; exact cmpSt_less he)
        have HE := Lib.hid he
        clear he he'
        go_wp2_with fail
        all_goals
          go_ret
          refine ⟨?_, (by repeat (first | exact hbw | exact Below.refl _ _ | refine Below.drew ?_ | refine Below.setCell ?_ (by first | omega | (simp; done) | (simp; omega)) _ | refine Below.alloc ?_ (by first | omega | (simp; done) | (simp; omega)) _))⟩
          rw [hlo.out]
          clear hlo HZ HK HK' HE heq
          simp [lessB, *]
    · by_cases hlt1 : k < l.length
      · have hfin := Lib.hid (show cmpSts l l' = 1 by rw [cmpSts_drop k l l' HZ.out hk hk', List.drop_eq_nil_of_le (show l'.length ≤ k by omega), List.drop_eq_getElem_cons hlt1]; rfl)
        go_wp2_with fail
        go_ret
        exact ⟨by rw [hfin.out]; rfl, hbw⟩
      · by_cases hlt2 : k < l'.length
        · have hfin := Lib.hid (show cmpSts l l' = -1 by rw [cmpSts_drop k l l' HZ.out hk hk', List.drop_eq_nil_of_le (show l.length ≤ k by omega), List.drop_eq_getElem_cons hlt2]; rfl)
          go_wp2_with fail
          go_ret
          exact ⟨by rw [hfin.out]; rfl, hbw⟩
        · have hfin := Lib.hid (show cmpSts l l' = 0 by rw [cmpSts_drop k l l' HZ.out hk hk', List.drop_eq_nil_of_le (show l.length ≤ k by omega), List.drop_eq_nil_of_le (show l'.length ≤ k by omega)]; rfl)
          go_wp2_with fail
          go_ret
          exact ⟨by rw [hfin.out]; rfl, hbw⟩
end Go.Proofs.YtdapimjhjnbfdaaDoor

namespace Go.Proofs.YtdapimjhjnbfdaaDoor
open Go.RowKit

set_option maxRecDepth 100000 in
set_option maxHeartbeats 400000 in
theorem equal_st (w : World) (a a' : Option Addr) (cap cap' : Nat) (l l' : List St) (h : Sts w 0 w.heap.size a l) (h' : Sts w 0 w.heap.size a' l') (hl : l.length ≤ 1048576) :
    Calls Tryd.prog 48 #[.slice a l.length cap, .slice a' l'.length cap'] w (Ret (.bool (decide (l = l'))) w) := by
  by_cases hll : l.length = l'.length
  · go_enter Tryd.func48, Tryd.ntmps48
    have hne : ((l.length : Int) != (l'.length : Int)) = false := by rw [hll]; simp
    have HLL := Lib.hid hll
    clear hll
    go_wp2_with fail
    go_loopw [5, 13] (fun _ i wr => ∃ k : Nat, k ≤ l.length ∧ i = .int .i64 k ∧ l.take k = l'.take k ∧ Below w.heap.size w wr) (fun _ i _ => l.length - (intOf i).toNat)
    case atStart => exact ⟨0, Nat.zero_le _, rfl, by simp, Below.refl _ _⟩
    case round =>
      obtain ⟨k, hk, rfl, hpre, hbw⟩ := hrel
      have HP := Lib.hid hpre
      clear hpre
      by_cases hlt : k < l.length
      · have hlt2 : k < l'.length := by have := HLL.out; omega
        have hks : l[k]? = some l[k] := List.getElem?_eq_getElem hlt
        have hks' : l'[k]? = some l'[k] := List.getElem?_eq_getElem hlt2
        have hT : Hid (l.take (k + 1) = l.take k ++ [l[k]] ∧ l'.take (k + 1) = l'.take k ++ [l'[k]]) := ⟨by simp, by simp⟩
        have hS : Hid (l[k] ≠ l'[k] → ¬ l = l') := fun h e => h (by simp [e])
        generalize l[k] = s at *
        generalize l'[k] = s' at *
        obtain ⟨b, off, rfl, -, hb1, hb2, h0, h1, h2, h3⟩ := h.at_ hks
        obtain ⟨b', off', rfl, -, hb1', hb2', h0', h1', h2', h3'⟩ := h'.at_ hks'
        rw [← hbw.cell (p := ⟨_, _, none⟩) hb2] at h0 h1 h2 h3
        rw [← hbw.cell (p := ⟨_, _, none⟩) hb2'] at h0' h1' h2' h3'
        have hbb : b < wr.heap.size := Nat.lt_of_lt_of_le hb2 hbw.size
        have hbb' : b' < wr.heap.size := Nat.lt_of_lt_of_le hb2' hbw.size
        have hlt' : (k : Int) < (l.length : Int) := by omega
        have hlt2' : (k : Int) < (l'.length : Int) := by omega
        clear h h' hks hks'
        have hneq := fun w => neq_step w s s'
        go_wp2_with fail
        go_quiet (fail)
        go_wp2_with fail
        · have hse : ¬ s = s' := by have := ‹(!decide (s = s')) = true›; simpa using this
          go_ret
          exact ⟨by rw [decide_eq_false (hS.out hse)]; rfl, below_drewN hbw _⟩
        · have hse : s = s' := by have := ‹(!decide (s = s')) = false›; simpa using this
          have ht1 : l.take (k + 1) = l'.take (k + 1) := by rw [hT.out.1, hT.out.2, HP.out, hse]
          exact ⟨⟨k + 1, by omega, by go_num, ht1, below_drewN hbw _⟩, by simp [intOf]; omega⟩
      · have hfin : Hid (l = l') := by
          have e : k = l.length := by omega
          have hp := HP.out
          rw [e, List.take_length, HLL.out, List.take_length] at hp
          exact hp
        go_wp2
        go_ret
        exact ⟨by rw [decide_eq_true hfin.out]; rfl, hbw⟩
  · go_enter Tryd.func48, Tryd.ntmps48
    have hne : ((l.length : Int) != (l'.length : Int)) = true := by simp; omega
    have hfin : Hid (¬ l = l') := fun e => hll (by rw [e])
    clear hll
    go_wp2
    go_ret
    exact ⟨by rw [decide_eq_false hfin.out]; rfl, Below.refl _ _⟩

theorem begins16 (w : World) (a a' : Option Addr) (cap cap' : Nat) (l m : List St) (h : Sts w 0 w.heap.size a l) (h' : Sts w 0 w.heap.size a' m) (hl : l.length ≤ 1048576) (hc : l.length ≤ cap) :
    Calls Tryd.prog 17 #[.slice a l.length cap, .slice a' m.length cap'] w (Ret (.bool (decide (m.length ≤ l.length ∧ l.take m.length = m))) w) := by
  by_cases hlm : m.length ≤ l.length
  · have hge : decide ((m.length : Int) ≤ (l.length : Int)) = true := by simp; omega
    have hlen : (l.take m.length).length = m.length := by simp; omega
    have hcl : m.length ≤ cap := by omega
    have HC := Lib.hid (by have := equal_st w a a' cap cap' (l.take m.length) m (h.take _) h' (by omega); rwa [hlen] at this : Calls Tryd.prog 48 #[.slice a m.length cap, .slice a' m.length cap'] w (Ret (.bool (decide (l.take m.length = m))) w))
    rw [show decide (m.length ≤ l.length ∧ l.take m.length = m) = decide (l.take m.length = m) by simp [hlm]]
    clear hlen h h'
    go_enter Tryd.func17, Tryd.ntmps17
    go_wp2_with (go_at_call 48; refine HC.out.mono ?_; rintro e w2 ⟨rfl, hb⟩)
    go_ret
    exact ⟨rfl, hb⟩
  · have hge : decide ((m.length : Int) ≤ (l.length : Int)) = false := by simp; omega
    rw [show decide (m.length ≤ l.length ∧ l.take m.length = m) = false by simp [hlm]]
    go_enter Tryd.func17, Tryd.ntmps17
    go_wp2
    go_ret
    exact ⟨rfl, Below.refl _ _⟩
end Go.Proofs.YtdapimjhjnbfdaaDoor
