/-
  The order of steps and of paths: cmp.Compare at kinds, numbers and texts, cmp.Or, and paths.Cmp, each as the plain function that it computes. Conditions: the lists read as data, with bounded lengths.
-/
import Derived.Test.YtdapimjhjnbfdaaDoorP2
namespace Go.Proofs.YtdapimjhjnbfdaaDoor
open Go.RowKit

def cmpInt (x y : Int) : Int := if x < y then -1 else if y < x then 1 else 0
def cmpStr (a b : ByteArray) : Int := if Op.bytesLess a.toList b.toList = true then -1 else if a = b then 0 else 1

theorem nan_k (w : World) (x : Int) : Calls Tryd.prog 81 #[.int .u8 x] w fun e w' => e = .returned (.bool false) ∧ w = w' := by
  have h : (x != x) = false := by simp
  go_enter Tryd.func81, Tryd.ntmps81
  go_wp2_with fail
  go_ret
  exact ⟨rfl, rfl⟩
theorem nan_i (w : World) (x : Int) : Calls Tryd.prog 83 #[.int .i64 x] w fun e w' => e = .returned (.bool false) ∧ w = w' := by
  have h : (x != x) = false := by simp
  go_enter Tryd.func83, Tryd.ntmps83
  go_wp2_with fail
  go_ret
  exact ⟨rfl, rfl⟩
theorem nan_s (w : World) (x : ByteArray) : Calls Tryd.prog 82 #[.string x] w fun e w' => e = .returned (.bool false) ∧ w = w' := by
  go_enter Tryd.func82, Tryd.ntmps82
  go_wp2_with fail
  go_ret
  exact ⟨by simp, rfl⟩

theorem cmp_k (w : World) (x y : Int) : Calls Tryd.prog 45 #[.int .u8 x, .int .u8 y] w fun e w' => e = .returned (.int .i64 (cmpInt x y)) ∧ w = w' := by
  by_cases h1 : x < y
  · rw [show cmpInt x y = -1 by simp [cmpInt, h1]]
    go_enter Tryd.func45, Tryd.ntmps45
    go_wp2_with (go_at_call 81; refine (nan_k _ _).mono ?_; rintro e w1 ⟨rfl, rfl⟩)
    go_ret
    exact ⟨rfl, rfl⟩
  · by_cases h2 : y < x
    · rw [show cmpInt x y = 1 by simp [cmpInt, h1, h2]]
      go_enter Tryd.func45, Tryd.ntmps45
      go_wp2_with (go_at_call 81; refine (nan_k _ _).mono ?_; rintro e w1 ⟨rfl, rfl⟩)
      go_ret
      exact ⟨rfl, rfl⟩
    · rw [show cmpInt x y = 0 by simp [cmpInt, h1, h2]]
      go_enter Tryd.func45, Tryd.ntmps45
      go_wp2_with (go_at_call 81; refine (nan_k _ _).mono ?_; rintro e w1 ⟨rfl, rfl⟩)
      go_ret
      exact ⟨rfl, rfl⟩
theorem cmp_i (w : World) (x y : Int) : Calls Tryd.prog 47 #[.int .i64 x, .int .i64 y] w fun e w' => e = .returned (.int .i64 (cmpInt x y)) ∧ w = w' := by
  by_cases h1 : x < y
  · rw [show cmpInt x y = -1 by simp [cmpInt, h1]]
    go_enter Tryd.func47, Tryd.ntmps47
    go_wp2_with (go_at_call 83; refine (nan_i _ _).mono ?_; rintro e w1 ⟨rfl, rfl⟩)
    go_ret
    exact ⟨rfl, rfl⟩
  · by_cases h2 : y < x
    · rw [show cmpInt x y = 1 by simp [cmpInt, h1, h2]]
      go_enter Tryd.func47, Tryd.ntmps47
      go_wp2_with (go_at_call 83; refine (nan_i _ _).mono ?_; rintro e w1 ⟨rfl, rfl⟩)
      go_ret
      exact ⟨rfl, rfl⟩
    · rw [show cmpInt x y = 0 by simp [cmpInt, h1, h2]]
      go_enter Tryd.func47, Tryd.ntmps47
      go_wp2_with (go_at_call 83; refine (nan_i _ _).mono ?_; rintro e w1 ⟨rfl, rfl⟩)
      go_ret
      exact ⟨rfl, rfl⟩
theorem cmp_s (w : World) (x y : ByteArray) : Calls Tryd.prog 46 #[.string x, .string y] w fun e w' => e = .returned (.int .i64 (cmpStr x y)) ∧ w = w' := by
  by_cases h1 : Op.bytesLess x.toList y.toList = true
  · rw [show cmpStr x y = -1 by simp [cmpStr, h1]]
    go_enter Tryd.func46, Tryd.ntmps46
    go_wp2_with (go_at_call 82; refine (nan_s _ _).mono ?_; rintro e w1 ⟨rfl, rfl⟩)
    go_ret
    exact ⟨rfl, rfl⟩
  · have h1' : Op.bytesLess x.toList y.toList = false := by simpa using h1
    by_cases h2 : x = y
    · have h2' : (x.toList == y.toList) = true := by rw [str_beq]; simpa using h2
      rw [show cmpStr x y = 0 by subst h2; simp [cmpStr, h1']]
      clear h1 h2
      go_enter Tryd.func46, Tryd.ntmps46
      go_wp2_with (go_at_call 82; refine (nan_s _ _).mono ?_; rintro e w1 ⟨rfl, rfl⟩)
      go_ret
      exact ⟨rfl, rfl⟩
    · have h2' : (x.toList == y.toList) = false := by rw [str_beq]; simpa using h2
      rw [show cmpStr x y = 1 by simp [cmpStr, h1', h2]]
      clear h1 h2
      go_enter Tryd.func46, Tryd.ntmps46
      go_wp2_with (go_at_call 82; refine (nan_s _ _).mono ?_; rintro e w1 ⟨rfl, rfl⟩)
      go_ret
      exact ⟨rfl, rfl⟩

/-- cmp.Or: the first that is not 0. -/
def orInt : List Int → Int
  | [] => 0
  | x :: l => if x = 0 then orInt l else x
theorem orInt_take (l : List Int) (k : Nat) (h : ∀ j x, j < k → l[j]? = some x → x = 0) : orInt l = orInt (l.drop k) := by
  induction k generalizing l with
  | zero => rfl
  | succ k ih =>
    cases l with
    | nil => rfl
    | cons y l =>
      have h0 := h 0 y (by omega) rfl
      simp only [orInt, h0, if_true, List.drop_succ_cons]
      exact ih l fun j x hj hx => h (j + 1) x (by omega) (by simpa using hx)

set_option maxHeartbeats 400000 in
theorem or_i (w : World) (a : Option Addr) (cap : Nat) (l : List Int) (h : SlE (fun x => [.int .i64 x]) 1 w 0 w.heap.size a l) (hl : l.length ≤ 1000) :
    Calls Tryd.prog 44 #[.slice a l.length cap] w fun e w' => e = .returned (.int .i64 (orInt l)) ∧ w = w' := by
  go_enter Tryd.func44, Tryd.ntmps44
  go_wp2_with fail
  go_loopw [5, 8] (fun _ i wr => ∃ k : Nat, k ≤ l.length ∧ i = .int .i64 k ∧ (∀ j x, j < k → l[j]? = some x → x = 0) ∧ w = wr) (fun _ i _ => l.length - (intOf i).toNat)
  case atStart => exact ⟨0, Nat.zero_le _, rfl, fun j x hj => absurd hj (by omega), rfl⟩
  case round =>
    obtain ⟨k, hk, rfl, hz, rfl⟩ := hrel
    have HZ := Lib.hid hz
    clear hz
    by_cases hlt : k < l.length
    · have hks : l[k]? = some l[k] := List.getElem?_eq_getElem hlt
      have hdr : Hid (l.drop k = l[k] :: l.drop (k + 1)) := List.drop_eq_getElem_cons hlt
      generalize l[k] = x at *
      obtain ⟨b, off, rfl, -, hb1, hb2, hc⟩ := h (by omega)
      have h0 : w.cell? ⟨b, off + k, none⟩ = some (.int .i64 x) := by have := hc k x hks 0 _ rfl; simpa using this
      have HK := Lib.hid hks
      clear hc h hks
      by_cases hx : x = 0
      · have hx' : (x != 0) = false := by simp [hx]
        have HX := Lib.hid hx
        clear hx
        go_wp2_with fail
        refine ⟨⟨k + 1, by omega, by go_num, fun j y hj hy => ?_, trivial⟩, by simp [intOf]; omega⟩
        rcases Nat.lt_or_ge j k with hj2 | hj2
        · exact HZ.out j y hj2 hy
        · obtain rfl : j = k := by omega
          rw [HK.out] at hy; injection hy with hy; rw [← hy]; exact HX.out
      · have hx' : (x != 0) = true := by simp [hx]
        have hfin := Lib.hid (show orInt l = x by rw [orInt_take l k HZ.out, hdr.out]; simp [orInt, hx])
        clear hx
        go_wp2_with fail
        go_ret
        exact ⟨by rw [hfin.out]; rfl, rfl⟩
    · have hfin := Lib.hid (show orInt l = 0 by rw [orInt_take l k HZ.out, List.drop_eq_nil_of_le (by omega)]; rfl)
      go_wp2_with fail
      go_ret
      exact ⟨by rw [hfin.out]; rfl, rfl⟩

def cmpSt (s s' : St) : Int := orInt [cmpInt s.k s'.k, cmpStr s.t s'.t, cmpInt s.a s'.a, cmpStr s.i s'.i]

theorem lit_i4 (w : World) (b : Nat) (x y z u : Int) (h0 : w.cell? ⟨b, 0, none⟩ = some (.int .i64 x)) (h1 : w.cell? ⟨b, 1, none⟩ = some (.int .i64 y)) (h2 : w.cell? ⟨b, 2, none⟩ = some (.int .i64 z)) (h3 : w.cell? ⟨b, 3, none⟩ = some (.int .i64 u)) :
    SlE (fun x => [.int .i64 x]) 1 w 0 w.heap.size (some ⟨b, 0, none⟩) [x, y, z, u] := fun _ => by
  have hb := World.block_lt_of_cell? w ⟨b, 0, none⟩ h0
  refine ⟨b, 0, rfl, Nat.zero_le _, hb, hb, fun i v hv j q hq => ?_⟩
  match j with
  | j + 1 => simp at hq
  | 0 =>
    simp only [List.getElem?_cons_zero, Option.some.injEq] at hq
    subst hq
    match i with
    | 0 => simp only [List.getElem?_cons_zero, Option.some.injEq] at hv; subst hv; simpa using h0
    | 1 => simp only [List.getElem?_cons_succ, List.getElem?_cons_zero, Option.some.injEq] at hv; subst hv; simpa using h1
    | 2 => simp only [List.getElem?_cons_succ, List.getElem?_cons_zero, Option.some.injEq] at hv; subst hv; simpa using h2
    | 3 => simp only [List.getElem?_cons_succ, List.getElem?_cons_zero, Option.some.injEq] at hv; subst hv; simpa using h3
    | i + 4 => simp at hv

set_option maxRecDepth 100000 in
set_option maxHeartbeats 800000 in
theorem cmp1 (w : World) (s s' : St) :
    Calls Tryd.prog 43 #[s.val, s'.val] w (Ret (.int .i64 (cmpSt s s')) w) := by
  go_enter Tryd.func43, Tryd.ntmps43
  go_wp2_with fail
  go_region_held3 (fun w' => w'.cell? ⟨w.heap.size, 0, none⟩ = some (.int .u8 s.k) ∧ w'.cell? ⟨w.heap.size, 1, none⟩ = some (.string s.t) ∧ w'.cell? ⟨w.heap.size, 2, none⟩ = some (.string s.i) ∧ w'.cell? ⟨w.heap.size, 3, none⟩ = some (.int .i64 s.a) ∧
      w'.cell? ⟨w.heap.size + 1, 0, none⟩ = some (.int .u8 s'.k) ∧ w'.cell? ⟨w.heap.size + 1, 1, none⟩ = some (.string s'.t) ∧ w'.cell? ⟨w.heap.size + 1, 2, none⟩ = some (.string s'.i) ∧ w'.cell? ⟨w.heap.size + 1, 3, none⟩ = some (.int .i64 s'.a))
    (go_keep)
    (first
      | (go_at_call 45; refine (cmp_k _ _ _).mono ?_; rintro e w1 ⟨rfl, rfl⟩)
      | (go_at_call 46; refine (cmp_s _ _ _).mono ?_; rintro e w1 ⟨rfl, rfl⟩)
      | (go_at_call 47; refine (cmp_i _ _ _).mono ?_; rintro e w1 ⟨rfl, rfl⟩)
      | (go_at_call 44; refine (or_i _ _ _ [cmpInt s.k s'.k, cmpStr s.t s'.t, cmpInt s.a s'.a, cmpStr s.i s'.i] (lit_i4 _ _ _ _ _ _ (by go_simp) (by go_simp) (by go_simp) (by go_simp)) (by simp)).mono ?_; rintro e w1 ⟨rfl, rfl⟩))
  all_goals
    go_wp2
    go_ret
    exact ⟨rfl, by repeat (first | exact Below.refl _ _ | refine Below.drew ?_ | refine Below.alloc ?_ (by simp; try omega) _)⟩
end Go.Proofs.YtdapimjhjnbfdaaDoor
