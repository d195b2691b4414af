/-
  paths.Cmp and the reference's Cmp compute one function of two lists of steps. Conditions: the lists read as data, with bounded lengths.
-/
import Derived.Test.YtdapimjhjnbfdaaDoorP3
namespace Go.Proofs.YtdapimjhjnbfdaaDoor
open Go.RowKit

def cmpSts : List St → List St → Int
  | [], [] => 0
  | [], _ :: _ => -1
  | _ :: _, [] => 1
  | x :: l, y :: m => if cmpSt x y = 0 then cmpSts l m else cmpSt x y

/-- What k equal rounds leave. -/
theorem cmpSts_drop : ∀ (k : Nat) (l m : List St), (∀ j x y, j < k → l[j]? = some x → m[j]? = some y → cmpSt x y = 0) → k ≤ l.length → k ≤ m.length → cmpSts l m = cmpSts (l.drop k) (m.drop k)
  | 0, _, _, _, _, _ => rfl
  | k + 1, [], _, _, h1, _ => by simp at h1
  | k + 1, _ :: _, [], _, _, h2 => by simp at h2
  | k + 1, x :: l, y :: m, h, h1, h2 => by
    have h0 := h 0 x y (by omega) rfl rfl
    simp only [cmpSts, h0, if_true, List.drop_succ_cons]
    exact cmpSts_drop k l m (fun j a b hj ha hb => h (j + 1) a b (by omega) (by simpa using ha) (by simpa using hb)) (by simpa using h1) (by simpa using h2)
theorem cmpSts_at {l m : List St} {k : Nat} {x y : St} (h : ∀ j x y, j < k → l[j]? = some x → m[j]? = some y → cmpSt x y = 0) (hx : l[k]? = some x) (hy : m[k]? = some y) (hne : cmpSt x y ≠ 0) : cmpSts l m = cmpSt x y := by
  have h1 := (List.getElem?_eq_some_iff.1 hx)
  have h2 := (List.getElem?_eq_some_iff.1 hy)
  obtain ⟨h1, rfl⟩ := h1
  obtain ⟨h2, rfl⟩ := h2
  rw [cmpSts_drop k l m h (by omega) (by omega), List.drop_eq_getElem_cons h1, List.drop_eq_getElem_cons h2]
  simp [cmpSts, hne]

set_option maxRecDepth 100000 in
set_option maxHeartbeats 1600000 in
theorem cmpf (w : World) (a a' : Option Addr) (cap cap' : Nat) (l l' : List St) (h : Sts w 0 w.heap.size a l) (h' : Sts w 0 w.heap.size a' l') (hl : l.length ≤ 1048576) (_hl' : l'.length ≤ 1048576) :
    Calls Tryd.prog 42 #[.slice a l.length cap, .slice a' l'.length cap', .func (.func 43) #[] #[]] w (Ret (.int .i64 (cmpSts l l')) w) := by
  go_enter Tryd.func42, Tryd.ntmps42
  go_wp2_with fail
  go_loopw [6, 7, 8, 9, 10, 13] (fun q _ _ _ _ i wr => q = .int .i64 0 ∧ ∃ k : Nat, k ≤ l.length ∧ k ≤ l'.length ∧ i = .int .i64 k ∧ (∀ j x y, j < k → l[j]? = some x → l'[j]? = some y → cmpSt x y = 0) ∧ Below w.heap.size w wr) (fun _ _ _ _ _ i _ => l.length - (intOf i).toNat)
  case atStart => exact ⟨rfl, 0, Nat.zero_le _, Nat.zero_le _, rfl, fun j x y hj => absurd hj (by omega), Below.refl _ _⟩
  case round =>
    obtain ⟨rfl, k, hk, hk', rfl, hz, hbw⟩ := hrel
    have hsz := hbw.size
    have HZ := Lib.hid hz
    clear hz
    by_cases hlt : k < l.length
    · have hks : l[k]? = some l[k] := List.getElem?_eq_getElem hlt
      generalize l[k] = s at *
      obtain ⟨b, off, rfl, -, hb1, hb2, h0, h1, h2, h3⟩ := h.at_ hks
      rw [← hbw.cell (p := ⟨_, _, none⟩) hb2] at h0 h1 h2 h3
      have hbb : b < wr.heap.size := Nat.lt_of_lt_of_le hb2 hbw.size
      have hlt' : (k : Int) < (l.length : Int) := by omega
      have HK := Lib.hid hks
      clear h hks
      by_cases hlt2 : k < l'.length
      · have hks' : l'[k]? = some l'[k] := List.getElem?_eq_getElem hlt2
        generalize l'[k] = s' at *
        obtain ⟨b', off', rfl, -, hb1', hb2', h0', h1', h2', h3'⟩ := h'.at_ hks'
        rw [← hbw.cell (p := ⟨_, _, none⟩) hb2'] at h0' h1' h2' h3'
        have hbb' : b' < wr.heap.size := Nat.lt_of_lt_of_le hb2' hbw.size
        have hlt2' : (k : Int) < (l'.length : Int) := by omega
        have HK' := Lib.hid hks'
        clear h' hks'
        have hcl := fun W => Lib.hid (cmp1 W s s')
        go_wp2_with (go_at_call 43; refine (hcl _).out.mono ?_; rintro e w2 ⟨rfl, hb⟩)
        · have hne : cmpSt s s' ≠ 0 := by have := ‹(cmpSt s s' != 0) = true›; simpa using this
          go_ret
          exact ⟨by rw [cmpSts_at HZ.out HK.out HK'.out hne]; rfl, below_via (w := w) (by repeat (first | exact hbw | exact Below.refl _ _ | refine Below.drew ?_ | refine Below.setCell ?_ (by first | omega | (simp; done) | (simp; omega)) _ | refine Below.alloc ?_ (by first | omega | (simp; done) | (simp; omega)) _)) hb⟩
        · have hz0 : cmpSt s s' = 0 := by have := ‹(cmpSt s s' != 0) = false›; simpa using this
          refine ⟨⟨rfl, k + 1, by omega, by omega, by go_num, fun j x y hj hx hy => ?_, below_via (w := w) (by repeat (first | exact hbw | exact Below.refl _ _ | refine Below.drew ?_ | refine Below.setCell ?_ (by first | omega | (simp; done) | (simp; omega)) _ | refine Below.alloc ?_ (by first | omega | (simp; done) | (simp; omega)) _)) hb⟩, by simp [intOf]; omega⟩
          rcases Nat.lt_or_ge j k with hj2 | hj2
          · exact HZ.out j x y hj2 hx hy
          · obtain rfl : j = k := by omega
            rw [HK.out] at hx; rw [HK'.out] at hy; injection hx with hx; injection hy with hy; rw [← hx, ← hy]; exact hz0
      · have hfin := Lib.hid (show cmpSts l l' = 1 by rw [cmpSts_drop k l l' HZ.out hk hk', List.drop_eq_nil_of_le (show l'.length ≤ k by omega), List.drop_eq_getElem_cons hlt]; rfl)
        go_wp2_with fail
        go_ret
        exact ⟨by rw [hfin.out]; rfl, (by repeat (first | exact hbw | exact Below.refl _ _ | refine Below.drew ?_ | refine Below.setCell ?_ (by first | omega | (simp; done) | (simp; omega)) _ | refine Below.alloc ?_ (by first | omega | (simp; done) | (simp; omega)) _))⟩
    · by_cases hlt2 : k < l'.length
      · have hfin := Lib.hid (show cmpSts l l' = -1 by rw [cmpSts_drop k l l' HZ.out hk hk', List.drop_eq_nil_of_le (show l.length ≤ k by omega), List.drop_eq_getElem_cons hlt2]; rfl)
        go_wp2_with fail
        go_ret
        exact ⟨by rw [hfin.out]; rfl, hbw⟩
      · have hfin := Lib.hid (show cmpSts l l' = 0 by rw [cmpSts_drop k l l' HZ.out hk hk', List.drop_eq_nil_of_le (show l.length ≤ k by omega), List.drop_eq_nil_of_le (show l'.length ≤ k by omega)]; rfl)
        go_wp2_with fail
        go_ret
        exact ⟨by rw [hfin.out]; rfl, hbw⟩

theorem cmp16 (w : World) (a a' : Option Addr) (cap cap' : Nat) (l l' : List St) (h : Sts w 0 w.heap.size a l) (h' : Sts w 0 w.heap.size a' l') (hl : l.length ≤ 1048576) (hl' : l'.length ≤ 1048576) :
    Calls Tryd.prog 15 #[.slice a l.length cap, .slice a' l'.length cap'] w (Ret (.int .i64 (cmpSts l l')) w) := by
  have hc := Lib.hid (cmpf w a a' cap cap' l l' h h' hl hl')
  clear h h'
  go_enter Tryd.func15, Tryd.ntmps15
  go_wp2_with (go_at_call 42; refine hc.out.mono ?_; rintro e w2 ⟨rfl, hb⟩)
  go_ret
  exact ⟨rfl, hb⟩
end Go.Proofs.YtdapimjhjnbfdaaDoor
