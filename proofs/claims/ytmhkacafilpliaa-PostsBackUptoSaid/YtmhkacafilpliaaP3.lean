/-
  Steps of paths, and the law package's helpers over them: Great answers, Same tells whether two lists of steps are one. Conditions: the lists read as data, with bounded lengths.
  Twin, Left, Clip and To over lists of steps: what they hand back, and that nothing that was there turns. Conditions: the lists read as data, with bounded lengths.
  The order of steps and of paths: cmp.Compare at kinds, numbers and texts, cmp.Or, and paths.Cmp, each as the plain function that it computes. Conditions: the lists read as data, with bounded lengths.
-/
import Derived.Test.YtmhkacafilpliaaBase
import Derived.Test.YtmhkacafilpliaaProg
import Derived.Deep.QuietTactic
import Derived.BigQuiet
import Derived.Outline
import Derived.Laws.StructEq
import Derived.Deep.RegionHeld3
import Derived.IntWalk
namespace Go.Proofs.Ytmhkacafilpliaa
open Go.RowKit

/-- A step, as it lies: kind, text, id, at. -/
structure St where
  k : Int
  t : ByteArray
  i : ByteArray
  a : Int
  deriving DecidableEq
def St.enc (s : St) : List Value := [.int .u8 s.k, .string s.t, .string s.i, .int .i64 s.a]
abbrev St.val (s : St) : Value := .agg #[.int .u8 s.k, .string s.t, .string s.i, .int .i64 s.a]
abbrev Sts (w : World) (lo hi : Nat) (a : Option Addr) (l : List St) : Prop := SlE St.enc 4 w lo hi a l

theorem Sts.at_ {w : World} {lo hi : Nat} {a : Option Addr} {l : List St} (h : Sts w lo hi a l) {k : Nat} {s : St} (hk : l[k]? = some s) :
    ∃ b off, a = some ⟨b, off, none⟩ ∧ lo ≤ b ∧ b < hi ∧ b < w.heap.size ∧ w.cell? ⟨b, off + k * 4, none⟩ = some (.int .u8 s.k) ∧ w.cell? ⟨b, off + k * 4 + 1, none⟩ = some (.string s.t) ∧
      w.cell? ⟨b, off + k * 4 + 2, none⟩ = some (.string s.i) ∧ w.cell? ⟨b, off + k * 4 + 3, none⟩ = some (.int .i64 s.a) := by
  have hl : k < l.length := (List.getElem?_eq_some_iff.1 hk).1
  obtain ⟨b, off, e, g1, g2, g3, g4⟩ := h (by omega)
  have c := g4 k s hk
  exact ⟨b, off, e, g1, g2, g3, by simpa using c 0 _ rfl, c 1 _ rfl, c 2 _ rfl, c 3 _ rfl⟩

/-- The bounds that the second form gives. -/
def Fit (l : List St) : Prop := l.length ≤ 1048576 ∧ ∀ s ∈ l, s.t.size ≤ 1048576 ∧ s.i.size ≤ 1048576 ∧ 0 ≤ s.k ∧ s.k ≤ 255

theorem str_beq (a b : ByteArray) : (a.toList == b.toList) = decide (a = b) := by
  rw [Bool.eq_iff_iff, decide_eq_true_iff, beq_iff_eq, ByteArray.toList_eq, ByteArray.toList_eq]
  constructor
  · intro h
    obtain ⟨⟨x⟩⟩ := a
    obtain ⟨⟨y⟩⟩ := b
    simp only at h
    rw [h]
  · rintro rfl; rfl
/-- Two lists of steps: are they one? -/
theorem bool_neq {x y : Bool} : (x != y) = !decide (x = y) := by cases x <;> cases y <;> rfl

end Go.Proofs.Ytmhkacafilpliaa

namespace Go.Proofs.Ytmhkacafilpliaa
open Go.RowKit
theorem St.enc_len (s : St) : s.enc.length = 4 := rfl
theorem St.enc_one (s : St) : ∀ u ∈ s.enc, u.oneCell' = true := by
  intro u hu
  simp only [St.enc, List.mem_cons, List.not_mem_nil, or_false] at hu
  rcases hu with rfl | rfl | rfl | rfl <;> rfl
def mark : St := ⟨0, ⟨#[109, 97, 114, 107]⟩, ⟨#[]⟩, 0⟩

/-- What a literal of one step reads as. -/
theorem lit_st {w : World} {b : Nat} (s : St) (h0 : w.cell? ⟨b, 0, none⟩ = some (.int .u8 s.k)) (h1 : w.cell? ⟨b, 1, none⟩ = some (.string s.t)) (h2 : w.cell? ⟨b, 2, none⟩ = some (.string s.i)) (h3 : w.cell? ⟨b, 3, none⟩ = some (.int .i64 s.a)) :
    Sts w b (b + 1) (some ⟨b, 0, none⟩) [s] := fun _ => by
  refine ⟨b, 0, rfl, Nat.le_refl _, by omega, World.block_lt_of_cell? w ⟨b, 0, none⟩ h0, fun i x hx j u hu => ?_⟩
  rcases i with _ | i
  · simp only [List.getElem?_cons_zero, Option.some.injEq] at hx
    subst hx
    match j with
    | 0 => simp only [St.enc, List.getElem?_cons_zero, Option.some.injEq] at hu; subst hu; simpa using h0
    | 1 => simp only [St.enc, List.getElem?_cons_succ, List.getElem?_cons_zero, Option.some.injEq] at hu; subst hu; simpa using h1
    | 2 => simp only [St.enc, List.getElem?_cons_succ, List.getElem?_cons_zero, Option.some.injEq] at hu; subst hu; simpa using h2
    | 3 => simp only [St.enc, List.getElem?_cons_succ, List.getElem?_cons_zero, Option.some.injEq] at hu; subst hu; simpa using h3
    | j + 4 => simp [St.enc] at hu
  · simp at hx

theorem lit_new (w : World) (s : St) (t : TypeId) : Sts (w.alloc (.cells #[.int .u8 s.k, .string s.t, .string s.i, .int .i64 s.a] t)) w.heap.size (w.heap.size + 1) (some ⟨w.heap.size, 0, none⟩) [s] :=
  lit_st s (by simp) (by simp) (by simp) (by simp)

end Go.Proofs.Ytmhkacafilpliaa

namespace Go.Proofs.Ytmhkacafilpliaa
open Go.RowKit

def cmpInt (x y : Int) : Int := if x < y then -1 else if y < x then 1 else 0
def cmpStr (a b : ByteArray) : Int := if Op.bytesLess a.toList b.toList = true then -1 else if a = b then 0 else 1

theorem nan_s (w : World) (x : ByteArray) : Calls Try.prog 89 #[.string x] w fun e w' => e = .returned (.bool false) ∧ w = w' := by
  go_enter Try.func89, Try.ntmps89
  go_wp2_with fail
  go_ret
  exact ⟨by simp, rfl⟩

theorem cmp_s (w : World) (x y : ByteArray) : Calls Try.prog 77 #[.string x, .string y] w fun e w' => e = .returned (.int .i64 (cmpStr x y)) ∧ w = w' := by
  by_cases h1 : Op.bytesLess x.toList y.toList = true
  · rw [show cmpStr x y = -1 by simp [cmpStr, h1]]
    go_enter Try.func77, Try.ntmps77
    go_wp2_with (go_at_call 89; refine (nan_s _ _).mono ?_; rintro e w1 ⟨rfl, rfl⟩)
    go_ret
    exact ⟨rfl, rfl⟩
  · have h1' : Op.bytesLess x.toList y.toList = false := by simpa using h1
    by_cases h2 : x = y
    · have h2' : (x.toList == y.toList) = true := by rw [str_beq]; simpa using h2
      rw [show cmpStr x y = 0 by subst h2; simp [cmpStr, h1']]
      clear h1 h2
      go_enter Try.func77, Try.ntmps77
      go_wp2_with (go_at_call 89; refine (nan_s _ _).mono ?_; rintro e w1 ⟨rfl, rfl⟩)
      go_ret
      exact ⟨rfl, rfl⟩
    · have h2' : (x.toList == y.toList) = false := by rw [str_beq]; simpa using h2
      rw [show cmpStr x y = 1 by simp [cmpStr, h1', h2]]
      clear h1 h2
      go_enter Try.func77, Try.ntmps77
      go_wp2_with (go_at_call 89; refine (nan_s _ _).mono ?_; rintro e w1 ⟨rfl, rfl⟩)
      go_ret
      exact ⟨rfl, rfl⟩

/-- cmp.Or: the first that is not 0. -/
def orInt : List Int → Int
  | [] => 0
  | x :: l => if x = 0 then orInt l else x
theorem orInt_take (l : List Int) (k : Nat) (h : ∀ j x, j < k → l[j]? = some x → x = 0) : orInt l = orInt (l.drop k) := by
  induction k generalizing l with
  | zero => rfl
  | succ k ih =>
    cases l with
    | nil => rfl
    | cons y l =>
      have h0 := h 0 y (by omega) rfl
      simp only [orInt, h0, if_true, List.drop_succ_cons]
      exact ih l fun j x hj hx => h (j + 1) x (by omega) (by simpa using hx)

set_option maxHeartbeats 400000 in
theorem or_i (w : World) (a : Option Addr) (cap : Nat) (l : List Int) (h : SlE (fun x => [.int .i64 x]) 1 w 0 w.heap.size a l) (hl : l.length ≤ 1000) :
    Calls Try.prog 75 #[.slice a l.length cap] w fun e w' => e = .returned (.int .i64 (orInt l)) ∧ w = w' := by
  go_enter Try.func75, Try.ntmps75
  go_wp2_with fail
  go_loopw [5, 8] (fun _ i wr => ∃ k : Nat, k ≤ l.length ∧ i = .int .i64 k ∧ (∀ j x, j < k → l[j]? = some x → x = 0) ∧ w = wr) (fun _ i _ => l.length - (intOf i).toNat)
  case atStart => exact ⟨0, Nat.zero_le _, rfl, fun j x hj => absurd hj (by omega), rfl⟩
  case round =>
    obtain ⟨k, hk, rfl, hz, rfl⟩ := hrel
    have HZ := Lib.hid hz
    clear hz
    by_cases hlt : k < l.length
    · have hks : l[k]? = some l[k] := List.getElem?_eq_getElem hlt
      have hdr : Hid (l.drop k = l[k] :: l.drop (k + 1)) := List.drop_eq_getElem_cons hlt
      generalize l[k] = x at *
      obtain ⟨b, off, rfl, -, hb1, hb2, hc⟩ := h (by omega)
      have h0 : w.cell? ⟨b, off + k, none⟩ = some (.int .i64 x) := by have := hc k x hks 0 _ rfl; simpa using this
      have HK := Lib.hid hks
      clear hc h hks
      by_cases hx : x = 0
      · have hx' : (x != 0) = false := by simp [hx]
        have HX := Lib.hid hx
        clear hx
        go_wp2_with fail
        refine ⟨⟨k + 1, by omega, by go_num, fun j y hj hy => ?_, trivial⟩, by simp [intOf]; omega⟩
        rcases Nat.lt_or_ge j k with hj2 | hj2
        · exact HZ.out j y hj2 hy
        · obtain rfl : j = k := by omega
          rw [HK.out] at hy; injection hy with hy; rw [← hy]; exact HX.out
      · have hx' : (x != 0) = true := by simp [hx]
        have hfin := Lib.hid (show orInt l = x by rw [orInt_take l k HZ.out, hdr.out]; simp [orInt, hx])
        clear hx
        go_wp2_with fail
        go_ret
        exact ⟨by rw [hfin.out]; rfl, rfl⟩
    · have hfin := Lib.hid (show orInt l = 0 by rw [orInt_take l k HZ.out, List.drop_eq_nil_of_le (by omega)]; rfl)
      go_wp2_with fail
      go_ret
      exact ⟨by rw [hfin.out]; rfl, rfl⟩

def cmpSt (s s' : St) : Int := orInt [cmpInt s.k s'.k, cmpStr s.t s'.t, cmpInt s.a s'.a, cmpStr s.i s'.i]

theorem lit_i4 (w : World) (b : Nat) (x y z u : Int) (h0 : w.cell? ⟨b, 0, none⟩ = some (.int .i64 x)) (h1 : w.cell? ⟨b, 1, none⟩ = some (.int .i64 y)) (h2 : w.cell? ⟨b, 2, none⟩ = some (.int .i64 z)) (h3 : w.cell? ⟨b, 3, none⟩ = some (.int .i64 u)) :
    SlE (fun x => [.int .i64 x]) 1 w 0 w.heap.size (some ⟨b, 0, none⟩) [x, y, z, u] := fun _ => by
  have hb := World.block_lt_of_cell? w ⟨b, 0, none⟩ h0
  refine ⟨b, 0, rfl, Nat.zero_le _, hb, hb, fun i v hv j q hq => ?_⟩
  match j with
  | j + 1 => simp at hq
  | 0 =>
    simp only [List.getElem?_cons_zero, Option.some.injEq] at hq
    subst hq
    match i with
    | 0 => simp only [List.getElem?_cons_zero, Option.some.injEq] at hv; subst hv; simpa using h0
    | 1 => simp only [List.getElem?_cons_succ, List.getElem?_cons_zero, Option.some.injEq] at hv; subst hv; simpa using h1
    | 2 => simp only [List.getElem?_cons_succ, List.getElem?_cons_zero, Option.some.injEq] at hv; subst hv; simpa using h2
    | 3 => simp only [List.getElem?_cons_succ, List.getElem?_cons_zero, Option.some.injEq] at hv; subst hv; simpa using h3
    | i + 4 => simp at hv

end Go.Proofs.Ytmhkacafilpliaa
