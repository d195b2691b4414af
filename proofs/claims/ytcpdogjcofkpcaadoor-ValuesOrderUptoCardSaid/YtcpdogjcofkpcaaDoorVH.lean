/-
  values.write and values.Text: the text of a value as the plain function textV. Conditions: the tree lies in memory, its weight is bounded, the table of short escapes holds what its initialiser lays.
-/
import Derived.Test.YtcpdogjcofkpcaaDoorO3
import Derived.Test.YtcpdogjcofkpcaaDoorVG
namespace Go.Proofs.YtcpdogjcofkpcaaDoor
open Go.RowKit Go.Sort

/-- Below B all stays; of what is made, all but the builder b and rows of bytes. -/
def KB (B b : Nat) (w w' : World) : Prop := Below B w w' ∧ Others b w w'
section
variable {B b : Nat} {w w1 w2 : World}
theorem KB.refl : KB B b w w := ⟨Below.refl _ _, Lib.OthersKept.refl _ _ _⟩
theorem KB.trans (h : KB B b w w1) (h2 : KB B b w1 w2) : KB B b w w2 := ⟨h.1.trans h2.1, h.2.trans h2.2⟩
theorem KB.alloc (h : KB B b w w1) (hB : B ≤ w1.heap.size) (o : Obj) : KB B b w (w1.alloc o) := ⟨h.1.alloc hB o, h.2.alloc o⟩
theorem KB.of_below (hb : Below w.heap.size w w1) (hB : B ≤ w.heap.size) : KB B b w w1 := ⟨hb.mono hB, fun k o hk _ _ => (hb.block k (by
    rcases Nat.lt_or_ge k w.heap.size with h' | h'
    · exact h'
    · rw [Array.getElem?_eq_none h'] at hk; cases hk)).trans hk⟩
theorem KB.blk (h : KB B b w w1) {k : Nat} {cs : Array Value} {t : TypeId} {f : Nat × Nat} (hk : w.heap[k]? = some (.cells cs t f)) (hb : k ≠ b) (ht : t ≠ 5) : w1.heap[k]? = some (.cells cs t f) :=
  h.2 k _ hk (fun e => hb (Option.some.inj e)) fun c fz e => ht (by injection e)
end
theorem Bld.lt {B b : Nat} {l : List UInt8} {w : World} (h : Bld B b l w) : b < w.heap.size := by
  rcases h with ⟨_, v, hbk, _⟩ | ⟨_, v, hbk, _⟩
  all_goals
    rcases Nat.lt_or_ge b w.heap.size with h' | h'
    · exact h'
    · rw [Array.getElem?_eq_none h'] at hbk; cases hbk

theorem Shorts.below_at {B : Nat} {w w' : World} (h : Shorts w) (hb : Below B w w') (hg : 0 < B) : Shorts w' := by
  obtain ⟨t, fr, h⟩ := h
  exact ⟨t, fr, (hb.block _ hg).trans h⟩

def WrPost (B b : Nat) (l : List UInt8) (w : World) (e : Ending) (w' : World) : Prop := e = .returned (.tuple #[]) ∧ Bld B b l w' ∧ KB B b w w'

theorem wb_k (B b : Nat) (c : UInt8) (i : Int) (hi : (c.toNat : Int) = i) (l : List UInt8) (w : World) (h : Bld B b l w) (hlen : l.length + 1 ≤ 140737488355328) (hBw : B ≤ w.heap.size) :
    Calls Tryd.prog 52 #[.pointer (some ⟨b, 0, none⟩), .int .u8 i] w fun e w' => e = .returned .nilIface ∧ Bld B b (l ++ [c]) w' ∧ KB B b w w' := by
  subst hi
  exact (wbyte_l B b l c w h hlen hBw).mono fun e w' ⟨h1, h2, h3, h4⟩ => ⟨h1, h2, h3, h4⟩
theorem ws_k (B b : Nat) (l : List UInt8) (s : ByteArray) (m : List UInt8) (hm : s.data.toList = m) (w : World) (h : Bld B b l w) (hlen : l.length + m.length ≤ 140737488355328) (hBw : B ≤ w.heap.size) :
    Calls Tryd.prog 49 #[.pointer (some ⟨b, 0, none⟩), .string s] w fun e w' => (∃ n, e = .returned (.tuple #[.int .i64 n, .nilIface])) ∧ Bld B b (l ++ m) w' ∧ KB B b w w' := by
  subst hm
  exact (wstring_l B b l s w h (by simpa using hlen) hBw).mono fun e w' ⟨h1, h2, h3, h4⟩ => ⟨⟨_, h1⟩, h2, h3, h4⟩

theorem ne_val : 26 ≠ 5 := by decide
theorem ne_ent : 72 ≠ 5 := by decide

theorem commaL_take {α : Type} (f : α → List UInt8) {l : List α} {k : Nat} {y : α} (hk : l[k]? = some y) (h0 : k ≠ 0) : commaL ((l.take (k + 1)).map f) = commaL ((l.take k).map f) ++ [44] ++ f y := by
  rw [List.take_add_one, hk, List.map_append]
  refine commaL_snoc _ _ fun e => ?_
  have hl := (List.getElem?_eq_some_iff.1 hk).1
  have := congrArg List.length e
  rw [List.length_map, List.length_take, List.length_nil] at this
  omega
theorem commaL_take0 {α : Type} (f : α → List UInt8) {l : List α} {y : α} (hk : l[0]? = some y) : commaL ((l.take 1).map f) = f y := by
  cases l with
  | nil => simp at hk
  | cons x l => simp at hk; subst hk; simp [commaL]

/-- What is left of a list's text is bounded by the whole. -/
theorem commaL_take_len {α : Type} (f : α → List UInt8) (l : List α) (k : Nat) : (commaL ((l.take k).map f)).length ≤ (l.map fun y => (f y).length + 1).sum := by
  have h1 := commaL_len ((l.take k).map f)
  rw [List.map_map] at h1
  have h2 := congrArg (fun l => (l.map fun y : α => (f y).length + 1).sum) (List.take_append_drop k l)
  simp only [List.map_append, List.sum_append_nat] at h2
  simp only [Function.comp_def] at h1
  omega

set_option maxRecDepth 100000 in
set_option maxHeartbeats 3200000 in
theorem vwrite_leaf (n B b : Nat) (l : List UInt8) (w : World) (x : AV) (hk : x.k ≠ 7 ∧ x.k ≠ 8) (hw : x.w ≤ 1048576) (hB : Bld B b l w) (hBw : B ≤ w.heap.size) (hS : Shorts w) (hl : l.length + 8 * x.w ≤ 100000000) :
    Calls Tryd.prog 27 #[.pointer (some ⟨b, 0, none⟩), x.val] w (WrPost B b (l ++ textV n x.v) w) := by
  have htl := text_len n x.v
  have htw := x.w_t
  have hwv : x.v.w = x.w := rfl
  have hv : textV n x.v = if x.k = 0 then [110, 117, 108, 108] else if x.k = 3 then quoteL x.t.data.toList else x.t.data.toList := by
    cases n with
    | zero => rw [textV, AV.v_k, AV.v_t]
    | succ n => rw [textV_s, AV.v_k, AV.v_t]; rw [if_neg hk.1, if_neg hk.2]
  have e7 : (x.k == 7) = false := by simp [hk.1]
  have e8 : (x.k == 8) = false := by simp [hk.2]
  have hB1 := hB.alloc (.cells #[.int .u8 x.k, .string x.t, .slice x.la x.l.length x.lc, .slice x.ka x.ks.length x.kc] 26)
  have hk1 : KB B b w (w.alloc (.cells #[.int .u8 x.k, .string x.t, .slice x.la x.l.length x.lc, .slice x.ka x.ks.length x.kc] 26)) := KB.refl.alloc hBw _
  clear hk
  by_cases h0 : x.k = 0
  · rw [if_pos h0] at hv
    have HV := Lib.hid hv
    have e0 : (x.k == 0) = true := by simp [h0]
    have hc := ws_k B b l ⟨#[110, 117, 108, 108]⟩ [110, 117, 108, 108] rfl _ hB1 (by simp; omega) (by simp; omega)
    have HC := Lib.hid hc
    clear hv h0 hc
    go_enter Tryd.func27, Tryd.ntmps27
    go_wp2_with (go_at_call 49; refine HC.out.mono ?_; rintro e w2 ⟨⟨nn, rfl⟩, hB2, hk2⟩)
    go_end0
    exact ⟨rfl, by rw [HV.out]; exact hB2, hk1.trans hk2⟩
  · rw [if_neg h0] at hv
    have e0 : (x.k == 0) = false := by simp [h0]
    by_cases h3 : x.k = 3
    · rw [if_pos h3] at hv
      have e3 : (x.k == 3) = true := by simp [h3]
      have hlq : l.length + (quoteL x.t.data.toList).length ≤ 140737488355328 := by rw [← hv]; omega
      have HV := Lib.hid hv
      have HQ := fun W hW => Lib.hid (write_c W x.t (by omega) hW)
      have HS := hS.below ((Below.refl _ _).alloc (Nat.le_refl _) (.cells #[.int .u8 x.k, .string x.t, .slice x.la x.l.length x.lc, .slice x.ka x.ks.length x.kc] 26))
      clear hv h0 h3
      generalize quoteL x.t.data.toList = q at *
      have HC := fun W h1 h2 => Lib.hid (ws_k B b l ⟨q.toArray⟩ q (by simp) W h1 hlq h2)
      go_enter Tryd.func27, Tryd.ntmps27
      go_wp2_with (first
        | (go_at_call 51; refine (HQ _ HS).out.mono ?_; rintro e w2 ⟨rfl, hb2⟩)
        | (go_at_call 49; refine (HC _ (hB1.below hb2) (Nat.le_trans hBw (by have := hb2.size; simp at this; omega))).out.mono ?_; rintro e w3 ⟨⟨nn, rfl⟩, hB3, hk3⟩))
      go_end0
      exact ⟨rfl, by rw [HV.out]; exact hB3, (hk1.trans (KB.of_below hb2 (by simp; omega))).trans hk3⟩
    · rw [if_neg h3] at hv
      have e3 : (x.k == 3) = false := by simp [h3]
      have HV := Lib.hid hv
      have HC := Lib.hid (ws_k B b l x.t x.t.data.toList rfl _ hB1 (by rw [← hv]; omega) (by simp; omega))
      clear hv h0 h3
      go_enter Tryd.func27, Tryd.ntmps27
      go_wp2_with (go_at_call 49; refine HC.out.mono ?_; rintro e w2 ⟨⟨nn, rfl⟩, hB2, hk2⟩)
      go_end0
      exact ⟨rfl, by rw [HV.out]; exact hB2, hk1.trans hk2⟩
end Go.Proofs.YtcpdogjcofkpcaaDoor
