/-
  slices.Sorted over slices.Values at texts: a new slice that holds the texts, sorted. Conditions: the texts lie in memory, at most 2^20 of them.
  Values as trees: AV (a tree with the addresses of its slices), its plain form Val, what it means that a tree lies in memory, its weight. And values.shape. Conditions: the tree lies in memory, its weight is bounded.
-/
import Derived.RangeFuncBox
import Derived.RangeFuncLeaves
import Derived.Shelf.Abstract
import Derived.WalkKit
import Derived.OwnWalkIn
import Derived.TacticsInMore
import Derived.LoopNIn
import Derived.LoopIn
import Derived.Maps.AppendAt
import Derived.Sort.OwnSorted
import Derived.Test.YtmhkacafilpliaaBase
import Derived.Test.YtmhkacafilpliaaShelf2
import Derived.Test.YtmhkacafilpliaaProg
import Derived.Deep.QuietTactic
import Derived.BigQuiet
import Derived.Outline
import Derived.Laws.StructEq
import Derived.Deep.RegionHeld3
import Derived.IntWalk
import Derived.Lib.RowBridge
import Derived.Lib.SlicesCompact
namespace Go.Proofs.Ytmhkacafilpliaa
open Go.RowKit Go.Shelf Go.Sort

attribute [local go_sem] Oper.semAt_some

def upto {α : Type} (f : Nat → α) (k : Nat) : List α := (List.range k).map f
theorem upto_succ {α : Type} (f : Nat → α) (k : Nat) : upto f (k + 1) = upto f k ++ [f k] := by simp [upto, List.range_succ]
theorem upto_length {α : Type} (f : Nat → α) (k : Nat) : (upto f k).length = k := by simp [upto]

set_option maxRecDepth 100000 in
set_option maxHeartbeats 2000000 in
/-- slices.Values's closure, for every loop body that keeps what lay below n₀. -/
theorem vals1_in (F : Fence) (n : Nat) (h7 : F.fn 95) (hro : F.round = none) (hn : 1 ≤ n) (l Bs n₀ b off len cap : Nat) (f : Nat → ByteArray) (hreach : len ≤ 1048576) (hb : b < n₀) (J Jx : List ByteArray → World → Prop)
    (hY : ∀ pre x W, J pre W → pre.length < len → YieldAt F (n - 1) Try.prog l #[.string x] W fun e W' =>
      (e = .returned (.bool true) ∧ J (pre ++ [x]) W' ∧ Below n₀ W W') ∨ (e = .returned (.bool false) ∧ Jx (pre ++ [x]) W'))
    (W : World) (hBs : W.cell? ⟨Bs, 0, none⟩ = some (.slice (some ⟨b, off, none⟩) len cap)) (hc : ∀ j, j < len → W.cell? ⟨b, off + j, none⟩ = some (.string (f j))) (h0 : J [] W) :
    CallsIn F n Try.prog 95 #[.func (.yield l) #[] #[], .pointer (some ⟨Bs, 0, none⟩)] W fun e W' => (∃ v, e = .returned v) ∧
      ((∃ ys, ys = upto f len ∧ J ys W') ∨ (∃ pre, (∃ k, k ≤ len ∧ pre = upto f k) ∧ Jx pre W')) := by
  refine callsIn_of_wp Try.func95 rfl h7 ?_ hro
  simp only [Try.ntmps95, List.size_toArray, List.length_cons, List.length_nil, Nat.reduceAdd, Nat.reduceSub, Array.replicate_succ, Array.replicate_zero, List.push_toArray, List.append_toArray, List.nil_append, List.cons_append]
  gi_wp2
  gi_loopw [7] (fun i wr => ∃ k : Nat, k ≤ len ∧ i = .int .i64 k ∧ J (upto f k) wr ∧ Below n₀ W wr)
    (fun i _ => len - (intOf i).toNat)
  case atStart => exact ⟨0, Nat.zero_le _, rfl, h0, Below.refl _ _⟩
  case round =>
    obtain ⟨k, hk, rfl, hJs, hnx⟩ := hrel
    have hcx : k < len → wr.cell? ⟨b, off + k, none⟩ = some (.string (f k)) := fun h => (hnx.cell (p := ⟨b, off + k, none⟩) hb).trans (hc k h)
    by_cases hlt : k < len
    · obtain ⟨fn, tmps, assign, body, hy, hR⟩ := hY _ (f k) wr hJs (by rw [upto_length]; exact hlt)
      have hcx' := hcx hlt
      gi_wp2
      refine hR.mono ?_
      rintro e W3 (⟨rfl, hJ3, hk3⟩ | ⟨rfl, hJx3⟩)
      · gi_wp2
        go_roundw
        case rel => exact ⟨k + 1, by omega, by simp, by rw [upto_succ]; exact hJ3, hnx.trans hk3⟩
        case measure => simp [intOf]; omega
      · gi_wp2
        refine bodyPost_ret (results_none rfl _ _ _) rfl ?_
        exact ⟨⟨_, rfl⟩, .inr ⟨_, ⟨k + 1, by omega, (upto_succ _ _).symm⟩, hJx3⟩⟩
    · obtain rfl : k = len := by omega
      gi_wp2
      go_end0
      exact ⟨⟨_, rfl⟩, .inl ⟨_, rfl, hJs⟩⟩

set_option maxRecDepth 100000 in
set_option maxHeartbeats 1000000 in
/-- .. at no text: no round. -/
theorem vals1_nil_in (F : Fence) (n : Nat) (h7 : F.fn 95) (hro : F.round = none) (l Bs cap : Nat) (a : Option Addr) (J : List ByteArray → World → Prop) (W : World) (hBs : W.cell? ⟨Bs, 0, none⟩ = some (.slice a 0 cap)) (h0 : J [] W) :
    CallsIn F n Try.prog 95 #[.func (.yield l) #[] #[], .pointer (some ⟨Bs, 0, none⟩)] W fun e W' => (∃ v, e = .returned v) ∧ J [] W' := by
  refine callsIn_of_wp Try.func95 rfl h7 ?_ hro
  simp only [Try.ntmps95, List.size_toArray, List.length_cons, List.length_nil, Nat.reduceAdd, Nat.reduceSub, Array.replicate_succ, Array.replicate_zero, List.push_toArray, List.append_toArray, List.nil_append, List.cons_append]
  gi_wp2
  gi_loopw [7] (fun i wr => i = .int .i64 0 ∧ J [] wr) (fun _ _ => 0)
  case atStart => exact ⟨rfl, h0⟩
  case round =>
    obtain ⟨rfl, hJs⟩ := hrel
    gi_wp2
    go_end0
    exact ⟨⟨_, rfl⟩, hJs⟩

abbrev strE (s : ByteArray) : List Value := [.string s]
theorem upto_take (zs : List ByteArray) {k : Nat} (hk : k ≤ zs.length) : upto (fun j => zs[j]?.getD ⟨#[]⟩) k = zs.take k := by
  apply List.ext_getElem
  · simp [upto, hk]
  · intro i h1 h2
    have : i < zs.length := by simp [upto] at h1; omega
    simp [upto, this]

/-- slices.Values's value: all of zs, in order; or a prefix. -/
theorem vals_stops (F : Fence) (n : Nat) (h7 : F.fn 95) (hro : F.round = none) (hn : 1 ≤ n) (Bs n₀ : Nat) (a : Option Addr) (cap : Nat) (zs : List ByteArray) (hreach : zs.length ≤ 1048576) (w : World) (hBs : Bs < w.heap.size)
    (hc : w.cell? ⟨Bs, 0, none⟩ = some (.slice a zs.length cap)) (hI : SlE strE 1 w 0 n₀ a zs) (_hn₀ : n₀ ≤ w.heap.size) :
    SeqStopsK F n Try.prog 95 #[.pointer (some ⟨Bs, 0, none⟩)] (fun x : ByteArray => #[Value.string x]) (Below n₀) (fun ys => ys = zs) (fun pre => pre <+: zs) zs.length w := fun l J Jx W hW _ _ hY h0 => by
  have hc' := (hW.cell (p := ⟨Bs, 0, none⟩) hBs).trans hc
  rcases Nat.eq_zero_or_pos zs.length with hz | hz
  · rw [hz] at hc'
    have hzs : zs = [] := List.eq_nil_of_length_eq_zero hz
    exact (vals1_nil_in F n h7 hro l Bs cap a J W hc' h0).mono fun e W' ⟨he, hj⟩ => ⟨he, .inl ⟨_, hzs.symm, hj⟩⟩
  · obtain ⟨b, off, rfl, _, hb, hbl, hcs⟩ := hI hz
    have hcells : ∀ j, j < zs.length → W.cell? ⟨b, off + j, none⟩ = some (.string (zs[j]?.getD ⟨#[]⟩)) := fun j hj => by
      have := hcs j zs[j] (List.getElem?_eq_getElem hj) 0 _ rfl
      rw [(hW.cell (p := ⟨b, off + j, none⟩) hbl)]
      simpa [List.getElem?_eq_getElem hj] using this
    refine (vals1_in F n h7 hro hn l Bs n₀ b off zs.length cap (fun j => zs[j]?.getD ⟨#[]⟩) hreach hb J Jx hY W hc' hcells h0).mono ?_
    rintro e W' ⟨he, ⟨ys, rfl, hj⟩ | ⟨pre, ⟨k, hk, rfl⟩, hj⟩⟩
    · exact ⟨he, .inl ⟨_, by rw [upto_take zs (Nat.le_refl _), List.take_length], hj⟩⟩
    · exact ⟨he, .inr ⟨_, by rw [upto_take zs hk]; exact List.take_prefix _ _, hj⟩⟩

theorem info_str : (Try.prog.info? 9).map (fun i => (i.zero, i.size, i.bytes)) = some (some (.string ⟨#[]⟩), 1, 16) := by kernel_rfl

set_option maxRecDepth 100000 in
set_option maxHeartbeats 2000000 in
theorem appseq_in (F : Fence) (n : Nat) (h1' : F.fn 99) (h7 : F.fn 95) (hro : F.round = none) (hn : 2 ≤ n) (Bs : Nat) (a : Option Addr) (cap : Nat) (zs : List ByteArray) (hreach : zs.length ≤ 1048576) (w : World) (hBs : Bs < w.heap.size)
    (hc : w.cell? ⟨Bs, 0, none⟩ = some (.slice a zs.length cap)) (hI : SlE strE 1 w 0 w.heap.size a zs) :
    CallsIn F n Try.prog 99 #[.slice none 0 0, .func (.func 95) #[] #[.pointer (some ⟨Bs, 0, none⟩)]] w fun e W' =>
      ∃ v, e = .returned v ∧ W'.ownsRow w.heap.size 9 1 v zs.length (zs.map Value.string) ∧ (v = .slice none 0 0 ↔ zs = []) ∧ Below w.heap.size w W' := by
  have h1 : 1 ≤ n := by omega
  obtain ⟨i0, hi, hz0, hz1, hz2⟩ := info_parts info_str
  refine callsIn_of_wp_marks Try.func99 rfl h1' ?_ hro
  simp only [Try.ntmps99, List.size_toArray, List.length_cons, List.length_nil, Nat.reduceAdd, Nat.reduceSub, Array.replicate_succ, Array.replicate_zero, List.push_toArray, List.append_toArray, List.nil_append, List.cons_append]
  gi_wp2
  have bO := Boxed.new w 24 (.slice none 0 0)
  have hB0 : Below w.heap.size w (w.alloc (.cells #[.slice none 0 0] 24)) := (Below.refl _ w).alloc (Nat.le_refl _) _
  refine wpIn_rangeFunc_ownG hro h1 (gf := 95) (lb := #[.pointer (some ⟨Bs, 0, none⟩)]) rfl h7 (enters_of Try.func95 (by kernel_rfl) rfl)
    (vals_stops F (n - 1) h7 hro (by omega) Bs w.heap.size a cap zs hreach (w.alloc (.cells #[.slice none 0 0] 24)) (by simp; omega) ((hB0.cell (p := ⟨Bs, 0, none⟩) hBs).trans hc) (hI.below hB0 (Nat.le_refl _)) (by simp)) belowK_t (belowK_b (by simp)) (Below.refl _ _) (fun _ => rfl)
    (fun pre W => (∃ v, Boxed W w.heap.size 24 v ∧ W.ownsRow w.heap.size 9 1 v pre.length (pre.map Value.string) ∧ (v = .slice none 0 0 ↔ pre = [])) ∧ Below w.heap.size w W)
    (fun _ _ _ => False)
    (OwnFrom.and (Own.from (holdsRow_own w.heap.size w.heap.size 24 9 1 (fun pre : List ByteArray => pre.length) (fun pre => pre.map Value.string) (fun pre v => v = .slice none 0 0 ↔ pre = [])) _) (ownFrom_below (Nat.le_refl _) (by simp)))
    (fun _ _ _ _ _ hs _ _ => hs)
    ⟨⟨_, bO, World.ownsRow_nil _ _ _ _, by simp⟩, hB0⟩
    (fun x => { tmps := #[.slice none 0 0, .func (.func 95) #[] #[.pointer (some ⟨Bs, 0, none⟩)], .pointer (some ⟨w.heap.size, 0, none⟩), undef, .slice none 0 0, .string x, .func (.func 95) #[] #[.pointer (some ⟨Bs, 0, none⟩)], .string x, undef, undef, undef, undef, undef], defers := [] }) ?assign ?body ?done ?stop
  case assign =>
    intro l x W K hK
    gi_wp2
    exact hK
  case body =>
    rintro l pre x W ⟨⟨v, hv, hrow, hnil⟩, hB⟩ hlt
    have hc := hv.cell
    gi_wp2_with (gi_at_builtin; refine wpListIn_append_own _ rfl _ _ 24 rfl w.heap.size 9 i0 (.string ⟨#[]⟩) 1 16 Try.underlying24 hi hz0 hz1 hz2 rfl (by decide) _ _ _ rfl (hrow.alloc _) ⟨W.heap.size, 0, none⟩ 1 1 [.string x] rfl rfl (cell_one_new _ _ _) (by simp [Value.oneCell']) (by simp only [maxLen]; omega) (by omega) (by have := hB.size; simp; omega) ?_; intro v' w1 hown' hgrow _; obtain ⟨g', cap', rfl⟩ := ownsRow_succ hown'; obtain ⟨hv1, hv2, hr2, hk2, hb2⟩ := hv.appended (by decide) hrow hB.size (Nat.le_refl _) hown' hgrow; have hc1 := hv1.cell; have hf1 := hv1.frozen)
    exact ⟨hk2.from _, hb2, ⟨_, hv2, by simpa using hr2, by simp⟩, hB.trans hb2⟩
  case done =>
    rintro D ys W hD rfl ⟨⟨v, hv, hrow, hnil⟩, hB⟩ hK
    have hc := hv.cell
    gi_wp2
    refine ⟨by simp, .inl ⟨_, _, rfl, run_takeDeferred hK, ?_⟩⟩
    exact ⟨_, results_tmp rfl _ _ _, v, rfl, ownsRow_putObj hrow _ hK rfl, hnil, hB.trans (belowK_b (w := w) (Nat.le_refl _) W D _ _ (by simp at hD; omega) hK rfl rfl)⟩
  case stop =>
    rintro D c pre W _ _ h _
    exact h.elim

set_option maxRecDepth 100000 in
set_option maxHeartbeats 2000000 in
theorem collect_in (F : Fence) (n : Nat) (h0 : F.fn 93) (h1' : F.fn 99) (h7 : F.fn 95) (hro : F.round = none) (hn : 3 ≤ n) (Bs : Nat) (a : Option Addr) (cap : Nat) (zs : List ByteArray) (hreach : zs.length ≤ 1048576) (w : World) (hBs : Bs < w.heap.size)
    (hc : w.cell? ⟨Bs, 0, none⟩ = some (.slice a zs.length cap)) (hI : SlE strE 1 w 0 w.heap.size a zs) :
    CallsIn F n Try.prog 93 #[.func (.func 95) #[] #[.pointer (some ⟨Bs, 0, none⟩)]] w fun e W' =>
      ∃ v, e = .returned v ∧ W'.ownsRow w.heap.size 9 1 v zs.length (zs.map Value.string) ∧ (v = .slice none 0 0 ↔ zs = []) ∧ Below w.heap.size w W' := by
  have h1 : 1 ≤ n := by omega
  refine callsIn_of_wp Try.func93 rfl h0 ?_ hro
  simp only [Try.ntmps93, List.size_toArray, List.length_cons, List.length_nil, Nat.reduceAdd, Nat.reduceSub, Array.replicate_succ, Array.replicate_zero, List.push_toArray, List.append_toArray, List.nil_append, List.cons_append]
  gi_wp2_with (gi_at_call 99; refine (appseq_in F (n - 1) h1' h7 hro (by omega) Bs a cap zs hreach w hBs hc hI).mono ?_; rintro e W ⟨v, rfl, hr, hn, hb⟩)
  go_ret
  exact ⟨v, rfl, hr, hn, hb⟩

def bl (zs : List ByteArray) : List (List UInt8) := zs.map (·.data.toList)
theorem bl_enc (zs : List ByteArray) : zs.map Value.string = (bl zs).map encStr := by simp [bl, Function.comp_def]
/-- zs, sorted as slices.Sort does. -/
def sorted (zs : List ByteArray) : List (List UInt8) := (bl zs).mergeSort fun x y => decide (x ≤ y)

set_option maxRecDepth 100000 in
set_option maxHeartbeats 2000000 in
theorem sorted_c (w : World) (Bs : Nat) (a : Option Addr) (cap : Nat) (zs : List ByteArray) (hreach : zs.length ≤ 1048576) (hBs : Bs < w.heap.size)
    (hc : w.cell? ⟨Bs, 0, none⟩ = some (.slice a zs.length cap)) (hI : SlE strE 1 w 0 w.heap.size a zs) :
    Calls Try.prog 85 #[.func (.func 95) #[] #[.pointer (some ⟨Bs, 0, none⟩)]] w fun e W' =>
      ∃ v, e = .returned v ∧ W'.ownsRow w.heap.size 9 1 v zs.length ((sorted zs).map encStr) ∧ (v = .slice none 0 0 ↔ zs = []) ∧ Below w.heap.size w W' := by
  have hcol := callsIn_wide.1 (collect_in Fence.wide 3 trivial trivial trivial rfl (Nat.le_refl _) Bs a cap zs hreach w hBs hc hI)
  go_enter Try.func85, Try.ntmps85
  go_wp2_with (go_at_call 93; refine hcol.mono ?_; rintro e W ⟨v, rfl, hrow, hnil, hb⟩)
  rw [bl_enc] at hrow
  have hbl : (bl zs).length = zs.length := by simp [bl]
  rcases hrow.2 with ⟨rfl, hz⟩ | ⟨gb, cap', cur, rfl, hbase, hgb, r1, r2, r3, r4⟩
  · have hss : zs = [] := List.eq_nil_of_length_eq_zero hz
    subst hss
    go_wp2_with (go_at_call 94; refine (Try.slices_Sort_string_none none 0 W).mono ?_; rintro e w' ⟨rfl, rfl⟩)
    go_ret
    exact ⟨.slice none 0 0, rfl, by simpa [bl, sorted] using hrow, by simp, hb⟩
  · rw [← hbl] at r1 r4
    have hH : Holds encStr W gb 0 (bl zs).toArray := holds_of_block hgb (by simpa using r4)
    have hgl : gb < W.heap.size := (Array.getElem?_eq_some_iff.1 hgb).1
    have cS := Try.slices_Sort_string gb 0 cap' (bl zs) W hH hgl (by omega)
    rw [hbl] at cS
    go_wp2_with (go_at_call 94; refine cS.mono ?_; rintro e w' ⟨rfl, nn, os, rfl⟩)
    go_ret
    refine ⟨_, rfl, ?_, hnil, hb.grown (grownBy_sorted _) hb.size (fun j hj => by cases hj; exact hbase)⟩
    have := ownsRow_sorted (w := W) (n := nn) (os := os) (ts := sorted zs) (ss := bl zs) (by simp [sorted]) hbase hgb r1 r2 r3
    rw [hbl] at this
    exact this
end Go.Proofs.Ytmhkacafilpliaa

namespace Go.Proofs.Ytmhkacafilpliaa
open Go.RowKit Go.Sort

/-- A value, as it lies: kind, text, list, keys. -/
structure AV where
  k : Int
  t : ByteArray
  la : Option Addr
  lc : Nat
  l : List AV
  ka : Option Addr
  kc : Nat
  ks : List ByteArray
/-- ..and the plain value. -/
structure Val where
  k : Int
  t : ByteArray
  l : List Val
  ks : List ByteArray

def AV.enc (x : AV) : List Value := [.int .u8 x.k, .string x.t, .slice x.la x.l.length x.lc, .slice x.ka x.ks.length x.kc]
abbrev AV.val (x : AV) : Value := .agg #[.int .u8 x.k, .string x.t, .slice x.la x.l.length x.lc, .slice x.ka x.ks.length x.kc]
theorem AV.enc_len (x : AV) : x.enc.length = 4 := rfl

theorem AV.lt {x y : AV} (h : y ∈ x.l) : SizeOf.sizeOf y < SizeOf.sizeOf x := by
  have := List.sizeOf_lt_of_mem h
  cases x; simp at *; omega
theorem Val.lt {x y : Val} (h : y ∈ x.l) : SizeOf.sizeOf y < SizeOf.sizeOf x := by
  have := List.sizeOf_lt_of_mem h
  cases x; simp at *; omega
def AV.v (x : AV) : Val := ⟨x.k, x.t, x.l.map AV.v, x.ks⟩
termination_by SizeOf.sizeOf x
decreasing_by rename_i y h; exact AV.lt h
theorem AV.v_eq (x : AV) : x.v = ⟨x.k, x.t, x.l.map AV.v, x.ks⟩ := by rw [AV.v]
theorem AV.v_k (x : AV) : x.v.k = x.k := by rw [AV.v]
theorem AV.v_t (x : AV) : x.v.t = x.t := by rw [AV.v]
theorem AV.v_l (x : AV) : x.v.l = x.l.map AV.v := by rw [AV.v]
theorem AV.v_ks (x : AV) : x.v.ks = x.ks := by rw [AV.v]
theorem AV.ind {P : AV → Prop} (h : ∀ x : AV, (∀ y ∈ x.l, P y) → P x) (x : AV) : P x :=
  h x fun y _ => AV.ind h y
termination_by SizeOf.sizeOf x
decreasing_by rename_i h; exact AV.lt h
theorem Val.ind {P : Val → Prop} (h : ∀ x : Val, (∀ y ∈ x.l, P y) → P x) (x : Val) : P x :=
  h x fun y _ => Val.ind h y
termination_by SizeOf.sizeOf x
decreasing_by rename_i h; exact Val.lt h

/-- How many nodes and bytes (inarchlaw14's Weight). -/
def Val.w (x : Val) : Nat := 1 + x.t.size + x.ks.length + (x.ks.map (·.size)).sum + (x.l.map Val.w).sum
termination_by SizeOf.sizeOf x
decreasing_by rename_i y h; exact Val.lt h
theorem Val.w_eq (x : Val) : x.w = 1 + x.t.size + x.ks.length + (x.ks.map (·.size)).sum + (x.l.map Val.w).sum := by rw [Val.w]
theorem le_sum {α : Type} (f : α → Nat) {x : α} : ∀ {l : List α}, x ∈ l → f x ≤ (l.map f).sum
  | y :: l, h => by
    rcases List.mem_cons.1 h with rfl | h
    · simp
    · have := le_sum f h; simp; omega
theorem len_sum {α : Type} (f : α → Nat) (hf : ∀ x, 1 ≤ f x) : ∀ l : List α, l.length ≤ (l.map f).sum
  | [] => by simp
  | y :: l => by have := len_sum f hf l; have := hf y; simp; omega
theorem Val.w_pos (x : Val) : 1 ≤ x.w := by rw [Val.w_eq]; omega
theorem Val.w_kid {x y : Val} (h : y ∈ x.l) : y.w < x.w := by
  have := le_sum Val.w h
  rw [Val.w_eq x]; omega
theorem Val.w_l (x : Val) : x.l.length < x.w := by
  have := len_sum Val.w Val.w_pos x.l
  rw [Val.w_eq x]; omega
theorem Val.w_ks (x : Val) : x.ks.length < x.w := by rw [Val.w_eq x]; omega
theorem Val.w_t (x : Val) : x.t.size < x.w := by rw [Val.w_eq x]; omega
theorem Val.w_key {x : Val} {s : ByteArray} (h : s ∈ x.ks) : s.size < x.w := by
  have := le_sum (fun s : ByteArray => s.size) h
  rw [Val.w_eq x]; omega
def AV.w (x : AV) : Nat := x.v.w
theorem AV.w_kid {x y : AV} (h : y ∈ x.l) : y.w < x.w := Val.w_kid (x := x.v) (by rw [AV.v_l]; exact List.mem_map_of_mem h)
theorem AV.w_l (x : AV) : x.l.length < x.w := by have := x.v.w_l; rw [AV.v_l, List.length_map] at this; exact this
theorem AV.w_ks (x : AV) : x.ks.length < x.w := by have := x.v.w_ks; rw [AV.v_ks] at this; exact this
theorem AV.w_t (x : AV) : x.t.size < x.w := by have := x.v.w_t; rw [AV.v_t] at this; exact this
theorem AV.w_key {x : AV} {s : ByteArray} (h : s ∈ x.ks) : s.size < x.w := Val.w_key (x := x.v) (by rw [AV.v_ks]; exact h)

/-- The tree's slices lie in blocks from lo up to hi. -/
inductive AV.In (w : World) (lo hi : Nat) : AV → Prop
  | mk {x : AV} (h1 : SlE AV.enc 4 w lo hi x.la x.l) (h2 : SlE strE 1 w lo hi x.ka x.ks) (h3 : 0 ≤ x.k ∧ x.k ≤ 255) (h4 : ∀ y ∈ x.l, AV.In w lo hi y) : AV.In w lo hi x
section
variable {w w' : World} {lo hi : Nat} {x y : AV}
theorem AV.In.sl (h : x.In w lo hi) : SlE AV.enc 4 w lo hi x.la x.l := by cases h; assumption
theorem AV.In.keys (h : x.In w lo hi) : SlE strE 1 w lo hi x.ka x.ks := by cases h; assumption
theorem AV.In.kind (h : x.In w lo hi) : 0 ≤ x.k ∧ x.k ≤ 255 := by cases h; assumption
theorem AV.In.kid (h : x.In w lo hi) (hy : y ∈ x.l) : y.In w lo hi := by cases h with | mk _ _ _ h => exact h y hy
theorem AV.In.imp {lo' hi' : Nat} (hS : ∀ {α : Type} {enc : α → List Value} {size : Nat} {a : Option Addr} {l : List α}, SlE enc size w lo hi a l → SlE enc size w' lo' hi' a l) : ∀ x : AV, x.In w lo hi → x.In w' lo' hi' :=
  AV.ind fun _ ih h => ⟨hS h.sl, hS h.keys, h.kind, fun y hy => ih y hy (h.kid hy)⟩
theorem AV.In.blw {B : Nat} (h : x.In w lo hi) (hb : Below B w w') (hB : hi ≤ B) : x.In w' lo hi := AV.In.imp (fun h => h.below hb hB) x h
theorem AV.In.blw' (h : x.In w lo hi) (hb : Below w.heap.size w w') : x.In w' lo hi := AV.In.imp (fun h => h.below' hb) x h
theorem AV.In.widen {lo' hi' : Nat} (h : x.In w lo hi) (h1 : lo' ≤ lo) (h2 : hi ≤ hi') : x.In w lo' hi' := AV.In.imp (fun h => h.widen h1 h2) x h
theorem AV.In.clamp (h : x.In w lo hi) : x.In w lo w.heap.size := AV.In.imp (fun h => h.clamp) x h
end
/-- The tree lies in memory. -/
abbrev Rd (w : World) (x : AV) : Prop := x.In w 0 w.heap.size
theorem Rd.up {w w' : World} {x : AV} (h : Rd w x) (hb : Below w.heap.size w w') : Rd w' x := ((h.blw' hb).clamp).widen (Nat.le_refl _) (Nat.le_refl _)

/-- An element of a list of values, by its cells. -/
theorem vals_at {w : World} {lo hi : Nat} {a : Option Addr} {l : List AV} (h : SlE AV.enc 4 w lo hi a l) {k : Nat} {y : AV} (hk : l[k]? = some y) :
    ∃ b off, a = some ⟨b, off, none⟩ ∧ lo ≤ b ∧ b < hi ∧ b < w.heap.size ∧ w.cell? ⟨b, off + k * 4, none⟩ = some (.int .u8 y.k) ∧ w.cell? ⟨b, off + k * 4 + 1, none⟩ = some (.string y.t) ∧
      w.cell? ⟨b, off + k * 4 + 2, none⟩ = some (.slice y.la y.l.length y.lc) ∧ w.cell? ⟨b, off + k * 4 + 3, none⟩ = some (.slice y.ka y.ks.length y.kc) := by
  have hl : k < l.length := (List.getElem?_eq_some_iff.1 hk).1
  obtain ⟨b, off, e, g1, g2, g3, g4⟩ := h (by omega)
  have c := g4 k y hk
  exact ⟨b, off, e, g1, g2, g3, by simpa using c 0 _ rfl, c 1 _ rfl, c 2 _ rfl, c 3 _ rfl⟩
theorem key_at {w : World} {lo hi : Nat} {a : Option Addr} {l : List ByteArray} (h : SlE strE 1 w lo hi a l) {k : Nat} {y : ByteArray} (hk : l[k]? = some y) :
    ∃ b off, a = some ⟨b, off, none⟩ ∧ lo ≤ b ∧ b < hi ∧ b < w.heap.size ∧ w.cell? ⟨b, off + k, none⟩ = some (.string y) := by
  have hl : k < l.length := (List.getElem?_eq_some_iff.1 hk).1
  obtain ⟨b, off, e, g1, g2, g3, g4⟩ := h (by omega)
  have c := g4 k y hk
  exact ⟨b, off, e, g1, g2, g3, by simpa using c 0 _ rfl⟩

theorem nodup_compact (ss : List (List UInt8)) : (Go.Lib.compact (ss.mergeSort fun x y => decide (x ≤ y))).length = ss.length ↔ ss.Nodup := by
  have hp : ((ss.mergeSort fun x y => decide (x ≤ y)).Pairwise fun x y => decide (x ≤ y)) := List.pairwise_mergeSort (le := fun x y => decide (x ≤ y)) (fun a b c h1 h2 => by simp at *; exact List.le_trans h1 h2) (fun a b => by simp; exact List.le_total a b) ss
  have hn : (ss.mergeSort fun x y => decide (x ≤ y)).Nodup ↔ ss.Nodup := (List.mergeSort_perm ss _).nodup_iff
  have hl : (ss.mergeSort fun x y => decide (x ≤ y)).length = ss.length := List.length_mergeSort ..
  rw [← hn, ← hl]
  generalize (ss.mergeSort fun x y => decide (x ≤ y)) = zs at *
  have hp' : ∀ i j, (hi : i < j) → (hj : j < zs.length) → zs[i] ≤ zs[j] := fun i j hi hj => by
    have := (List.pairwise_iff_getElem.1 hp) i j (by omega) hj hi
    simpa using this
  constructor
  · intro h
    have hk : ∀ j, j < zs.length → Go.Lib.keeps zs.toArray j = true := by
      have : (List.range zs.length).filter (Go.Lib.keeps zs.toArray) = List.range zs.length := by
        apply (List.filter_sublist (p := Go.Lib.keeps zs.toArray)).eq_of_length
        have : ((List.range zs.length).filter (Go.Lib.keeps zs.toArray)).length = (Go.Lib.compact zs).length := by simp [Go.Lib.compact, Go.Lib.compactUpTo]
        rw [this, h]; simp
      intro j hj
      exact List.filter_eq_self.1 this j (List.mem_range.2 hj)
    refine List.pairwise_iff_getElem.2 fun i j hi0 hj hij he => ?_
    have hi1 : i + 1 < zs.length := by omega
    have k1 := hk (i + 1) hi1
    have e1 : zs[i] = zs[j] := he
    have l1 := hp' i (i + 1) (by omega) hi1
    have l2 : zs[i + 1] ≤ zs[j] := by
      rcases Nat.lt_or_ge (i + 1) j with h' | h'
      · exact hp' _ _ h' hj
      · have : i + 1 = j := by omega
        subst this; exact List.le_refl _
    rw [← e1] at l2
    have e2 := List.le_antisymm l1 l2
    simp [Go.Lib.keeps] at k1
    exact k1 (by simp [hi1, hi0, e2])
  · intro h
    rw [Go.Lib.compact_all]
    intro j hj
    simp only [Go.Lib.keeps, decide_eq_true_eq]
    rcases Nat.eq_zero_or_pos j with h0 | h0
    · exact .inl h0
    · refine .inr fun he => ?_
      have h1 : j - 1 < zs.length := by omega
      simp [getElem!_pos, hj, h1] at he
      exact (List.pairwise_iff_getElem.1 h) (j - 1) j h1 hj (by omega) he.symm
theorem nodup_bl (zs : List ByteArray) : (bl zs).Nodup ↔ zs.Nodup := by
  unfold bl
  constructor
  · intro h; exact List.Pairwise.of_map _ (fun a b hab e => hab (by rw [e])) h
  · intro h
    refine List.Pairwise.map _ (fun a b hab e => hab ?_) h
    cases a; cases b; simp at e; rw [e]
theorem nodup_sorted (zs : List ByteArray) : (Go.Lib.compact (sorted zs)).length = zs.length ↔ zs.Nodup := by
  rw [← nodup_bl, ← nodup_compact]
  simp [sorted, bl]

def Val.shape (v : Val) : Bool :=
  if v.k = 0 then decide (v.t.toList = []) && decide (v.l.length + v.ks.length = 0)
  else if v.k = 1 then (decide (v.t.toList = [116, 114, 117, 101]) || decide (v.t.toList = [102, 97, 108, 115, 101])) && decide (v.l.length + v.ks.length = 0)
  else if v.k = 3 then decide (v.l.length + v.ks.length = 0)
  else if v.k = 2 ∨ v.k = 4 ∨ v.k = 5 ∨ v.k = 6 then decide (¬ v.t.toList = []) && decide (v.l.length + v.ks.length = 0)
  else if v.k = 7 then decide (v.t.toList = []) && decide (v.ks.length = 0)
  else if v.k = 8 then decide (v.t.toList = []) && decide (v.ks.length = v.l.length) && decide v.ks.Nodup
  else false

theorem vbox4 {w : World} {g : Nat} {a b c d : Value} {t : TypeId} (h : w.heap[g]? = some (.cells #[a, b, c, d] t (0, 0))) :
    w.cell? ⟨g, 0, none⟩ = some a ∧ w.cell? ⟨g, 1, none⟩ = some b ∧ w.cell? ⟨g, 2, none⟩ = some c ∧ w.cell? ⟨g, 3, none⟩ = some d ∧
    w.frozen? ⟨g, 0, none⟩ = false ∧ w.frozen? ⟨g, 1, none⟩ = false ∧ w.frozen? ⟨g, 2, none⟩ = false ∧ w.frozen? ⟨g, 3, none⟩ = false := by
  refine ⟨?_, ?_, ?_, ?_, ?_, ?_, ?_, ?_⟩ <;> simp [World.cell?, World.frozen?, h]
theorem own_drew {w : World} {base e size n : Nat} {v : Value} {xs : List Value} (h : w.ownsRow base e size v n xs) : w.drew.ownsRow base e size v n xs := own_below h (Below.refl _ _).drew
theorem isEmpty_dec {α : Type} (l : List α) [DecidableEq α] : l.isEmpty = decide (l = []) := by cases l <;> simp
theorem sum_zero (n m : Nat) : ((n : Int) + m == 0) = (decide (n = 0) && decide (m = 0)) := by
  rw [Bool.eq_iff_iff]; simp; omega
theorem nat_zero (n : Nat) : ((n : Int) == 0) = decide (n = 0) := by
  rw [Bool.eq_iff_iff]; simp
theorem nat_eq (n m : Nat) : ((n : Int) == m) = decide (n = m) := by
  rw [Bool.eq_iff_iff]; simp; omega

theorem values_c (w : World) (a : Option Addr) (n c : Nat) : Calls Try.prog 86 #[.slice a n c] w fun e w' => e = .returned (.func (.func 95) #[] #[.pointer (some ⟨w.heap.size, 0, none⟩)]) ∧ w' = w.alloc (.cells #[.slice a n c] 24) := by
  go_enter Try.func86, Try.ntmps86
  go_wp2_with fail
  go_ret
  exact ⟨rfl, rfl⟩

/-- slices.Compact of what slices.Sorted gave. -/
theorem compact_c (W : World) (B : Nat) (v : Value) (zs : List ByteArray) (hrow : W.ownsRow B 9 1 v zs.length ((sorted zs).map encStr)) (hB : B ≤ W.heap.size) (hz : zs.length ≤ 1048576) :
    Calls Try.prog 87 #[v] W fun e W' => ∃ a c, e = .returned (.slice a (Go.Lib.compact (sorted zs)).length c) ∧ Below B W W' := by
  have hl : (sorted zs).length = zs.length := by simp [sorted, bl]
  rcases hrow.2 with ⟨rfl, hz⟩ | ⟨gb, cap', cur, rfl, hbase, hgb, r1, r2, r3, r4⟩
  · obtain rfl : zs = [] := List.eq_nil_of_length_eq_zero hz
    refine (Try.slices_Compact_string_empty none 0 W).mono ?_
    rintro e w' ⟨rfl, rfl⟩
    exact ⟨none, 0, by simp [sorted, bl, Go.Lib.compact, Go.Lib.compactUpTo], Below.refl _ _⟩
  · rw [← hl]
    have hH : Holds encStr W gb 0 (sorted zs).toArray := holds_of_block hgb (by rw [hl]; simpa using r4)
    refine (Try.slices_Compact_string gb 0 cap' (sorted zs) W hH (by omega) (by omega)).mono ?_
    rintro e w' ⟨rfl, q, rfl⟩
    refine ⟨_, _, rfl, ?_⟩
    have := grownBy_sorted (w := W) (g := gb) (n := q) (os := #[]) (Go.Lib.compact (sorted zs) ++ List.replicate ((sorted zs).length - (Go.Lib.compact (sorted zs)).length) []).toArray
    rw [grow_empty] at this
    exact below_of_grown this hB (fun k hk => by cases hk; exact hbase)

set_option maxRecDepth 100000 in
set_option maxHeartbeats 3200000 in
theorem shape_c (w : World) (x : AV) (hx : Rd w x) (hw : x.w ≤ 1048576) : Calls Try.prog 70 #[x.val] w (Ret (.bool x.v.shape) w) := by
  have hll := x.w_l
  have hlk := x.w_ks
  have hI := hx.keys
  obtain ⟨S, hS⟩ : ∃ S, S = x.v.shape := ⟨_, rfl⟩
  have hS' := hS
  simp only [Val.shape, AV.v_k, AV.v_t, AV.v_l, AV.v_ks, List.length_map] at hS'
  rw [← hS]
  clear hS
  obtain ⟨k, t, la, lc, l, ka, kc, ks⟩ := x
  simp only [AV.val] at *
  generalize hn : l.length = n at *
  have hlin : IntKind.i64.wrap ((n : Int) + ks.length) = (n : Int) + ks.length := IntWalk.i64_in _ (by omega)
  have hkin := Lib.hid hI
  have hnil : ks.length = 0 → ks = [] := List.eq_nil_of_length_eq_zero
  have hnd := nodup_sorted ks
  have HS := fun W Bs a cap h1 h2 h3 => Lib.hid (sorted_c W Bs a cap ks (by omega) h1 h2 h3)
  generalize hm : ks.length = m at *
  clear hI hn
  have hend : ∀ (r : Bool) (W : World), Below w.heap.size w W → r = S → Ret (.bool S) w (.returned (.bool r)) W := fun r W hb e => ⟨by rw [e], hb⟩
  have hb0 := fun o => (Below.refl w.heap.size w).alloc (Nat.le_refl _) o
  by_cases k8 : k = 8
  · subst k8
    have hv := Lib.hid (show S = (decide (t.toList = []) && decide (m = n) && decide ks.Nodup) by simpa using hS')
    clear hS'
    have hSv := fun W => Lib.hid (values_c W ka m kc)
    have hfin : ∀ a c (W : World), Calls Try.prog 87 #[.slice a c c] W (fun _ _ => True) → True := fun _ _ _ _ => trivial
    clear hfin hnil
    by_cases ht : t.toList = [] ∧ m = n
    · obtain ⟨ht, rfl⟩ := ht
      have ht' : t.toList.isEmpty = true := by simp [ht]
      have hv' := Lib.hid (show S = decide ((Go.Lib.compact (sorted ks)).length = m) by rw [hv.out]; simp only [ht, decide_true, Bool.true_and]; exact decide_eq_decide.2 hnd.symm)
      clear hv hnd ht hlin
      go_enter Try.func70, Try.ntmps70
      go_wp2_with (first
        | (go_at_call 86; refine (hSv _).out.mono ?_; rintro e w1 ⟨rfl, rfl⟩)
        | (go_at_call 85
           refine (HS _ (w.heap.size + 1) ka kc ?_ ?_ ?_).out.mono ?_
           · simp
           · simp
           · exact (hkin.out.below ((hb0 _).alloc (by simp) _) (Nat.le_refl _)).widen (Nat.le_refl _) (by simp; omega)
           rintro e w2 ⟨v, rfl, hrow, hnl, hb⟩))
      have hz2 := hb.size
      have hbw : Below w.heap.size w w2 := ((hb0 _).alloc (by simp) _).trans (hb.mono (by simp; omega))
      simp only [World.size_alloc] at hrow hz2
      obtain ⟨q0, q1, q2, q3, -, -, -, -⟩ := vbox4 (w := w2) (g := w.heap.size) ((hb.block w.heap.size (by simp; omega)).trans ((heap_alloc_old _ _ _ (by simp)).trans (heap_alloc_new w _)))
      rw [← hm] at hrow
      have HC := fun (W : World) h1 h2 => Lib.hid (compact_c W (w.heap.size + 1 + 1) v ks h1 h2 (by omega))
      go_region_held3 (fun W => W.cell? ⟨w.heap.size, 1, none⟩ = some (.string t) ∧ W.cell? ⟨w.heap.size, 2, none⟩ = some (.slice la m lc) ∧ W.cell? ⟨w.heap.size, 3, none⟩ = some (.slice ka m kc))
        (first | exact ⟨q1, q2, q3⟩ | exact Q1.out)
        (first
          | (go_at_call 87
             refine (HC _ (own_drew hrow) hz2).out.mono ?_
             rintro e w3 ⟨a, c, rfl, hb3⟩
             have Q1 := Lib.hid (show w3.cell? ⟨w.heap.size, 1, none⟩ = some (.string t) ∧ w3.cell? ⟨w.heap.size, 2, none⟩ = some (.slice la m lc) ∧ w3.cell? ⟨w.heap.size, 3, none⟩ = some (.slice ka m kc) from ⟨(hb3.cell (p := ⟨w.heap.size, 1, none⟩) (by simp; omega)).trans q1, (hb3.cell (p := ⟨w.heap.size, 2, none⟩) (by simp; omega)).trans q2, (hb3.cell (p := ⟨w.heap.size, 3, none⟩) (by simp; omega)).trans q3⟩)))
      all_goals
        go_wp2_with fail
        go_ret
        refine hend _ _ (hbw.trans ((below_of_drew hb3).mono (by omega))) ?_
        rw [hv'.out, nat_eq]
    · have hv' := Lib.hid (show S = false by
        rw [hv.out]
        by_cases h1 : t.toList = []
        · have : m ≠ n := fun e => ht ⟨h1, e⟩
          simp [this]
        · simp [h1])
      clear hv hnd
      by_cases h1 : t.toList = []
      · have hmn : ((m : Int) == n) = false := by rw [nat_eq]; simp; exact fun e => ht ⟨h1, e⟩
        have ht' : t.toList.isEmpty = true := by simp [h1]
        clear ht h1
        go_enter Try.func70, Try.ntmps70
        go_wp2_with (first
          | (go_at_call 86; refine (hSv _).out.mono ?_; rintro e w1 ⟨rfl, rfl⟩)
          | (go_at_call 85
             refine (HS _ (w.heap.size + 1) ka kc ?_ ?_ ?_).out.mono ?_
             · simp
             · simp
             · exact (hkin.out.below ((hb0 _).alloc (by simp) _) (Nat.le_refl _)).widen (Nat.le_refl _) (by simp; omega)
             rintro e w2 ⟨v, rfl, hrow, hnl, hb⟩))
        have hbw : Below w.heap.size w w2 := ((hb0 _).alloc (by simp) _).trans (hb.mono (by simp; omega))
        obtain ⟨q0, q1, q2, q3, -, -, -, -⟩ := vbox4 (w := w2) (g := w.heap.size) ((hb.block w.heap.size (by simp; omega)).trans ((heap_alloc_old _ _ _ (by simp)).trans (heap_alloc_new w _)))
        go_quiet (fail)
        all_goals
          go_wp2_with fail
          go_ret
          refine hend _ _ (by repeat (first | exact hbw | refine Below.drew ?_ | refine below_drewN ?_ _)) ?_
          rw [hv'.out]
      · have ht' : t.toList.isEmpty = false := by rw [isEmpty_dec]; simp [h1]
        clear ht h1
        go_enter Try.func70, Try.ntmps70
        go_wp2_with (first
          | (go_at_call 86; refine (hSv _).out.mono ?_; rintro e w1 ⟨rfl, rfl⟩)
          | (go_at_call 85
             refine (HS _ (w.heap.size + 1) ka kc ?_ ?_ ?_).out.mono ?_
             · simp
             · simp
             · exact (hkin.out.below ((hb0 _).alloc (by simp) _) (Nat.le_refl _)).widen (Nat.le_refl _) (by simp; omega)
             rintro e w2 ⟨v, rfl, hrow, hnl, hb⟩))
        have hbw : Below w.heap.size w w2 := ((hb0 _).alloc (by simp) _).trans (hb.mono (by simp; omega))
        obtain ⟨q0, q1, q2, q3, -, -, -, -⟩ := vbox4 (w := w2) (g := w.heap.size) ((hb.block w.heap.size (by simp; omega)).trans ((heap_alloc_old _ _ _ (by simp)).trans (heap_alloc_new w _)))
        go_quiet (fail)
        all_goals
          go_wp2_with fail
          go_ret
          refine hend _ _ (by repeat (first | exact hbw | refine Below.drew ?_ | refine below_drewN ?_ _)) ?_
          rw [hv'.out]
  by_cases hk : k = 0 ∨ k = 1 ∨ k = 2 ∨ k = 3 ∨ k = 4 ∨ k = 5 ∨ k = 6 ∨ k = 7
  · rcases hk with rfl | rfl | rfl | rfl | rfl | rfl | rfl | rfl
    all_goals
      have hv := Lib.hid hS'
      clear hS' hnd HS k8
      go_enter Try.func70, Try.ntmps70
      go_wp2_with fail
      all_goals
        go_ret
        refine hend _ _ (hb0 _) ?_
        rw [hv.out]
        simp [*, isEmpty_dec, sum_zero, nat_zero]
  · have hv := Lib.hid hS'
    clear hS' hnd HS
    have g0 : (k == 0) = false := by simp; omega
    have g1 : (k == 1) = false := by simp; omega
    have g2 : (k == 2) = false := by simp; omega
    have g3 : (k == 3) = false := by simp; omega
    have g4 : (k == 4) = false := by simp; omega
    have g5 : (k == 5) = false := by simp; omega
    have g6 : (k == 6) = false := by simp; omega
    have g7 : (k == 7) = false := by simp; omega
    have g8 : (k == 8) = false := by simp; omega
    go_enter Try.func70, Try.ntmps70
    go_wp2_with fail
    go_ret
    refine hend _ _ (hb0 _) ?_
    rw [hv.out]
    simp at g0 g1 g2 g3 g4 g5 g6 g7 g8
    simp [*]
end Go.Proofs.Ytmhkacafilpliaa
