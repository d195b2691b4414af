/-
  The reference's Cmp computes the same function as paths.Cmp; slices.Equal and Begins over steps. Conditions: the lists read as data, with bounded lengths.
-/
import Derived.Test.YtdapimjhjnbfdaaDoorP4
namespace Go.Proofs.YtdapimjhjnbfdaaDoor
open Go.RowKit

def lessOf (s s' : St) : Bool :=
  if s.k = s'.k then if s.t = s'.t then if s.a = s'.a then Op.bytesLess s.i.toList s'.i.toList else decide (s.a < s'.a) else Op.bytesLess s.t.toList s'.t.toList else decide (s.k < s'.k)

theorem bytesLess_irrefl : ∀ (l : List UInt8), Op.bytesLess l l = false
  | [] => rfl
  | x :: l => by simp [Op.bytesLess, bytesLess_irrefl l]
theorem cmpStr_zero {a b : ByteArray} : cmpStr a b = 0 ↔ a = b := by
  unfold cmpStr
  constructor
  · intro h
    split at h
    · cases h
    · split at h
      · assumption
      · cases h
  · rintro rfl
    simp [bytesLess_irrefl]
theorem cmpInt_zero {a b : Int} : cmpInt a b = 0 ↔ a = b := by
  unfold cmpInt
  constructor
  · intro h
    split at h
    · cases h
    · split at h
      · cases h
      · omega
  · rintro rfl
    simp
theorem cmpSt_zero {s s' : St} : cmpSt s s' = 0 ↔ s = s' := by
  obtain ⟨k, t, i, a⟩ := s
  obtain ⟨k', t', i', a'⟩ := s'
  simp only [cmpSt, orInt, St.mk.injEq]
  constructor
  · intro h
    split at h
    · rename_i h1
      split at h
      · rename_i h2
        split at h
        · rename_i h3
          split at h
          · rename_i h4
            exact ⟨cmpInt_zero.1 h1, cmpStr_zero.1 h2, cmpStr_zero.1 h4, cmpInt_zero.1 h3⟩
          · contradiction
        · contradiction
      · contradiction
    · contradiction
  · rintro ⟨rfl, rfl, rfl, rfl⟩
    simp [cmpInt_zero.2, cmpStr_zero.2]
theorem cmpSt_less {s s' : St} (h : s ≠ s') : cmpSt s s' = if lessOf s s' then -1 else 1 := by
  have h0 : cmpSt s s' ≠ 0 := fun e => h (cmpSt_zero.1 e)
  obtain ⟨k, t, i, a⟩ := s
  obtain ⟨k', t', i', a'⟩ := s'
  simp only [cmpSt, orInt, lessOf] at *
  by_cases h1 : k = k'
  · simp only [h1, cmpInt_zero.2, if_true] at *
    by_cases h2 : t = t'
    · simp only [h2, cmpStr_zero.2, if_true] at *
      by_cases h3 : a = a'
      · simp only [h3, cmpInt_zero.2, if_true] at *
        split at h0
        · exact absurd rfl h0
        · rename_i h4
          rw [if_neg h4]
          unfold cmpStr at h4 ⊢
          split
          · rfl
          · split
            · rename_i hb he; subst he; exact absurd (by simp [bytesLess_irrefl]) h4
            · rfl
      · have h4 : ¬ cmpInt a a' = 0 := fun e => h3 (cmpInt_zero.1 e)
        rw [if_neg h4, if_neg h3]
        unfold cmpInt
        by_cases h5 : a < a'
        · simp [h5]
        · simp [h5]; omega
    · have h4 : ¬ cmpStr t t' = 0 := fun e => h2 (cmpStr_zero.1 e)
      rw [if_neg h4, if_neg h2]
      unfold cmpStr
      split
      · simp [*]
      · simp [*]
  · have h4 : ¬ cmpInt k k' = 0 := fun e => h1 (cmpInt_zero.1 e)
    rw [if_neg h4, if_neg h1]
    unfold cmpInt
    by_cases h5 : k < k'
    · simp [h5]
    · simp [h5]; omega

/-- The same in the walk's own spelling. -/
def lessB (s s' : St) : Bool :=
  if (s.k != s'.k) = true then decide (s.k < s'.k) else if (!(s.t.toList == s'.t.toList)) = true then Op.bytesLess s.t.toList s'.t.toList else if (s.a != s'.a) = true then decide (s.a < s'.a) else Op.bytesLess s.i.toList s'.i.toList
theorem lessB_eq (s s' : St) : lessB s s' = lessOf s s' := by
  unfold lessB lessOf
  rw [str_beq]
  by_cases h1 : s.k = s'.k <;> by_cases h2 : s.t = s'.t <;> by_cases h3 : s.a = s'.a <;> simp [h1, h2, h3]

set_option maxRecDepth 100000 in
set_option maxHeartbeats 1600000 in
theorem refcmp16 (w : World) (a a' : Option Addr) (cap cap' : Nat) (l l' : List St) (h : Sts w 0 w.heap.size a l) (h' : Sts w 0 w.heap.size a' l') (hl : l.length ≤ 1048576) (_hl' : l'.length ≤ 1048576) :
    Calls Tryd.prog 16 #[.slice a l.length cap, .slice a' l'.length cap'] w (Ret (.int .i64 (cmpSts l l')) w) := by
  go_enter Tryd.func16, Tryd.ntmps16
  go_wp2_with fail
  go_loopw [4, 5, 6, 7, 8] (fun q i _ _ _ wr => q = .int .i64 0 ∧ ∃ k : Nat, k ≤ l.length ∧ k ≤ l'.length ∧ i = .int .i64 k ∧ (∀ j x y, j < k → l[j]? = some x → l'[j]? = some y → cmpSt x y = 0) ∧ Below w.heap.size w wr) (fun _ i _ _ _ _ => l.length - (intOf i).toNat)
  case atStart => exact ⟨rfl, 0, Nat.zero_le _, Nat.zero_le _, rfl, fun j x y hj => absurd hj (by omega), Below.refl _ _⟩
  case round =>
    obtain ⟨rfl, k, hk, hk', rfl, hz, hbw⟩ := hrel
    have hsz := hbw.size
    have HZ := Lib.hid hz
    clear hz
    by_cases hlt : k < l.length ∧ k < l'.length
    · obtain ⟨hlt, hlt2⟩ := hlt
      have hks : l[k]? = some l[k] := List.getElem?_eq_getElem hlt
      have hks' : l'[k]? = some l'[k] := List.getElem?_eq_getElem hlt2
      generalize l[k] = s at *
      generalize l'[k] = s' at *
      obtain ⟨b, off, rfl, -, hb1, hb2, h0, h1, h2, h3⟩ := h.at_ hks
      obtain ⟨b', off', rfl, -, hb1', hb2', h0', h1', h2', h3'⟩ := h'.at_ hks'
      rw [← hbw.cell (p := ⟨_, _, none⟩) hb2] at h0 h1 h2 h3
      rw [← hbw.cell (p := ⟨_, _, none⟩) hb2'] at h0' h1' h2' h3'
      have hbb : b < wr.heap.size := Nat.lt_of_lt_of_le hb2 hbw.size
      have hbb' : b' < wr.heap.size := Nat.lt_of_lt_of_le hb2' hbw.size
      have hlt' : (k : Int) < (l.length : Int) := by omega
      have hlt2' : (k : Int) < (l'.length : Int) := by omega
      have HK := Lib.hid hks
      have HK' := Lib.hid hks'
      have heq := fun w => eql_step w s s'
      clear h h' hks hks'
      by_cases he : s = s'
      · have he' : decide (s = s') = true := by simpa using he
        rw [he'] at heq
        have HE := Lib.hid he
        clear he he'
        go_wp2_with fail
        refine ⟨⟨rfl, k + 1, by omega, by omega, by go_num, fun j x y hj hx hy => ?_, (by repeat (first | exact hbw | exact Below.refl _ _ | refine Below.drew ?_ | refine Below.setCell ?_ (by first | omega | (simp; done) | (simp; omega)) _ | refine Below.alloc ?_ (by first | omega | (simp; done) | (simp; omega)) _))⟩, by simp [intOf]; omega⟩
        rcases Nat.lt_or_ge j k with hj2 | hj2
        · exact HZ.out j x y hj2 hx hy
        · obtain rfl : j = k := by omega
          rw [HK.out] at hx; rw [HK'.out] at hy; injection hx with hx; injection hy with hy; rw [← hx, ← hy]; exact cmpSt_zero.2 HE.out
      · have he' : decide (s = s') = false := by simpa using he
        rw [he'] at heq
        have hlo := Lib.hid (show cmpSts l l' = if lessB s s' then -1 else 1 by rw [cmpSts_at HZ.out HK.out HK'.out (fun e => he (cmpSt_zero.1 e)), lessB_eq]; exact cmpSt_less he)
        have HE := Lib.hid he
        clear he he'
        go_wp2_with fail
        all_goals
          go_ret
          refine ⟨?_, (by repeat (first | exact hbw | exact Below.refl _ _ | refine Below.drew ?_ | refine Below.setCell ?_ (by first | omega | (simp; done) | (simp; omega)) _ | refine Below.alloc ?_ (by first | omega | (simp; done) | (simp; omega)) _))⟩
          rw [hlo.out]
          clear hlo HZ HK HK' HE heq
          simp [lessB, *]
    · by_cases hlt1 : k < l.length
      · have hfin := Lib.hid (show cmpSts l l' = 1 by rw [cmpSts_drop k l l' HZ.out hk hk', List.drop_eq_nil_of_le (show l'.length ≤ k by omega), List.drop_eq_getElem_cons hlt1]; rfl)
        go_wp2_with fail
        go_ret
        exact ⟨by rw [hfin.out]; rfl, hbw⟩
      · by_cases hlt2 : k < l'.length
        · have hfin := Lib.hid (show cmpSts l l' = -1 by rw [cmpSts_drop k l l' HZ.out hk hk', List.drop_eq_nil_of_le (show l.length ≤ k by omega), List.drop_eq_getElem_cons hlt2]; rfl)
          go_wp2_with fail
          go_ret
          exact ⟨by rw [hfin.out]; rfl, hbw⟩
        · have hfin := Lib.hid (show cmpSts l l' = 0 by rw [cmpSts_drop k l l' HZ.out hk hk', List.drop_eq_nil_of_le (show l.length ≤ k by omega), List.drop_eq_nil_of_le (show l'.length ≤ k by omega)]; rfl)
          go_wp2_with fail
          go_ret
          exact ⟨by rw [hfin.out]; rfl, hbw⟩
end Go.Proofs.YtdapimjhjnbfdaaDoor
