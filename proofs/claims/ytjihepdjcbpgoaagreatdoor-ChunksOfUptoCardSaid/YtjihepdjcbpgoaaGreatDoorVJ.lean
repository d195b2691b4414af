/-
  values.write and values.Text: the text of a value as the plain function textV. Conditions: the tree lies in memory, its weight is bounded, the table of short escapes holds what its initialiser lays.
  values.write at lists and maps, and values.Text. Conditions: the tree lies in memory, its weight is bounded, it may be, the table of short escapes holds what its initialiser lays.
  values.write at maps, and values.Text. Conditions: the tree lies in memory, its weight is bounded, the table of short escapes holds what its initialiser lays.
-/
import Derived.Test.YtjihepdjcbpgoaaGreatDoorO3
import Derived.Test.YtjihepdjcbpgoaaGreatDoorO5
namespace Go.Proofs.YtjihepdjcbpgoaaGreatDoor
open Go.RowKit Go.Sort

/-- Below B all stays; of what is made, all but the builder b and rows of bytes. -/
def KB (B b : Nat) (w w' : World) : Prop := Below B w w' ∧ Others b w w'
section
variable {B b : Nat} {w w1 w2 : World}
theorem KB.refl : KB B b w w := ⟨Below.refl _ _, Lib.OthersKept.refl _ _ _⟩
theorem KB.trans (h : KB B b w w1) (h2 : KB B b w1 w2) : KB B b w w2 := ⟨h.1.trans h2.1, h.2.trans h2.2⟩
theorem KB.alloc (h : KB B b w w1) (hB : B ≤ w1.heap.size) (o : Obj) : KB B b w (w1.alloc o) := ⟨h.1.alloc hB o, h.2.alloc o⟩
theorem KB.of_below (hb : Below w.heap.size w w1) (hB : B ≤ w.heap.size) : KB B b w w1 := ⟨hb.mono hB, fun k o hk _ _ => (hb.block k (by
    rcases Nat.lt_or_ge k w.heap.size with h' | h'
    · exact h'
    · rw [Array.getElem?_eq_none h'] at hk; cases hk)).trans hk⟩
theorem KB.blk (h : KB B b w w1) {k : Nat} {cs : Array Value} {t : TypeId} {f : Nat × Nat} (hk : w.heap[k]? = some (.cells cs t f)) (hb : k ≠ b) (ht : t ≠ 5) : w1.heap[k]? = some (.cells cs t f) :=
  h.2 k _ hk (fun e => hb (Option.some.inj e)) fun c fz e => ht (by injection e)
end
theorem Bld.lt {B b : Nat} {l : List UInt8} {w : World} (h : Bld B b l w) : b < w.heap.size := by
  rcases h with ⟨_, v, hbk, _⟩ | ⟨_, v, hbk, _⟩
  all_goals
    rcases Nat.lt_or_ge b w.heap.size with h' | h'
    · exact h'
    · rw [Array.getElem?_eq_none h'] at hbk; cases hbk

theorem Shorts.below_at {B : Nat} {w w' : World} (h : Shorts w) (hb : Below B w w') (hg : 0 < B) : Shorts w' := by
  obtain ⟨t, fr, h⟩ := h
  exact ⟨t, fr, (hb.block _ hg).trans h⟩

def WrPost (B b : Nat) (l : List UInt8) (w : World) (e : Ending) (w' : World) : Prop := e = .returned (.tuple #[]) ∧ Bld B b l w' ∧ KB B b w w'

theorem wb_k (B b : Nat) (c : UInt8) (i : Int) (hi : (c.toNat : Int) = i) (l : List UInt8) (w : World) (h : Bld B b l w) (hlen : l.length + 1 ≤ 140737488355328) (hBw : B ≤ w.heap.size) :
    Calls Tryz.prog 103 #[.pointer (some ⟨b, 0, none⟩), .int .u8 i] w fun e w' => e = .returned .nilIface ∧ Bld B b (l ++ [c]) w' ∧ KB B b w w' := by
  subst hi
  exact (wbyte_l B b l c w h hlen hBw).mono fun e w' ⟨h1, h2, h3, h4⟩ => ⟨h1, h2, h3, h4⟩
theorem ws_k (B b : Nat) (l : List UInt8) (s : ByteArray) (m : List UInt8) (hm : s.data.toList = m) (w : World) (h : Bld B b l w) (hlen : l.length + m.length ≤ 140737488355328) (hBw : B ≤ w.heap.size) :
    Calls Tryz.prog 101 #[.pointer (some ⟨b, 0, none⟩), .string s] w fun e w' => (∃ n, e = .returned (.tuple #[.int .i64 n, .nilIface])) ∧ Bld B b (l ++ m) w' ∧ KB B b w w' := by
  subst hm
  exact (wstring_l B b l s w h (by simpa using hlen) hBw).mono fun e w' ⟨h1, h2, h3, h4⟩ => ⟨⟨_, h1⟩, h2, h3, h4⟩

theorem ne_val : 26 ≠ 5 := by decide
theorem ne_ent : 120 ≠ 5 := by decide

theorem commaL_take {α : Type} (f : α → List UInt8) {l : List α} {k : Nat} {y : α} (hk : l[k]? = some y) (h0 : k ≠ 0) : commaL ((l.take (k + 1)).map f) = commaL ((l.take k).map f) ++ [44] ++ f y := by
  rw [List.take_add_one, hk, List.map_append]
  refine commaL_snoc _ _ fun e => ?_
  have hl := (List.getElem?_eq_some_iff.1 hk).1
  have := congrArg List.length e
  rw [List.length_map, List.length_take, List.length_nil] at this
  omega
theorem commaL_take0 {α : Type} (f : α → List UInt8) {l : List α} {y : α} (hk : l[0]? = some y) : commaL ((l.take 1).map f) = f y := by
  cases l with
  | nil => simp at hk
  | cons x l => simp at hk; subst hk; simp [commaL]

/-- What is left of a list's text is bounded by the whole. -/
theorem commaL_take_len {α : Type} (f : α → List UInt8) (l : List α) (k : Nat) : (commaL ((l.take k).map f)).length ≤ (l.map fun y => (f y).length + 1).sum := by
  have h1 := commaL_len ((l.take k).map f)
  rw [List.map_map] at h1
  have h2 := congrArg (fun l => (l.map fun y : α => (f y).length + 1).sum) (List.take_append_drop k l)
  simp only [List.map_append, List.sum_append_nat] at h2
  simp only [Function.comp_def] at h1
  omega

set_option maxRecDepth 100000 in
set_option maxHeartbeats 3200000 in
theorem vwrite_leaf (n B b : Nat) (l : List UInt8) (w : World) (x : AV) (hk : x.k ≠ 7 ∧ x.k ≠ 8) (hw : x.w ≤ 1048576) (hB : Bld B b l w) (hBw : B ≤ w.heap.size) (hS : Shorts w) (hl : l.length + 8 * x.w ≤ 100000000) :
    Calls Tryz.prog 56 #[.pointer (some ⟨b, 0, none⟩), x.val] w (WrPost B b (l ++ textV n x.v) w) := by
  have htl := text_len n x.v
  have htw := x.w_t
  have hwv : x.v.w = x.w := rfl
  have hv : textV n x.v = if x.k = 0 then [110, 117, 108, 108] else if x.k = 3 then quoteL x.t.data.toList else x.t.data.toList := by
    cases n with
    | zero => rw [textV, AV.v_k, AV.v_t]
    | succ n => rw [textV_s, AV.v_k, AV.v_t]; rw [if_neg hk.1, if_neg hk.2]
  have e7 : (x.k == 7) = false := by simp [hk.1]
  have e8 : (x.k == 8) = false := by simp [hk.2]
  have hB1 := hB.alloc (.cells #[.int .u8 x.k, .string x.t, .slice x.la x.l.length x.lc, .slice x.ka x.ks.length x.kc] 26)
  have hk1 : KB B b w (w.alloc (.cells #[.int .u8 x.k, .string x.t, .slice x.la x.l.length x.lc, .slice x.ka x.ks.length x.kc] 26)) := KB.refl.alloc hBw _
  clear hk
  by_cases h0 : x.k = 0
  · rw [if_pos h0] at hv
    have HV := Lib.hid hv
    have e0 : (x.k == 0) = true := by simp [h0]
    have hc := ws_k B b l ⟨#[110, 117, 108, 108]⟩ [110, 117, 108, 108] rfl _ hB1 (by simp; omega) (by simp; omega)
    have HC := Lib.hid hc
    clear hv h0 hc
    go_enter Tryz.func56, Tryz.ntmps56
    go_wp2_with (go_at_call 101; refine HC.out.mono ?_; rintro e w2 ⟨⟨nn, rfl⟩, hB2, hk2⟩)
    go_end0
    exact ⟨rfl, by rw [HV.out]; exact hB2, hk1.trans hk2⟩
  · rw [if_neg h0] at hv
    have e0 : (x.k == 0) = false := by simp [h0]
    by_cases h3 : x.k = 3
    · rw [if_pos h3] at hv
      have e3 : (x.k == 3) = true := by simp [h3]
      have hlq : l.length + (quoteL x.t.data.toList).length ≤ 140737488355328 := by rw [← hv]; omega
      have HV := Lib.hid hv
      have HQ := fun W hW => Lib.hid (write_c W x.t (by omega) hW)
      have HS := hS.below ((Below.refl _ _).alloc (Nat.le_refl _) (.cells #[.int .u8 x.k, .string x.t, .slice x.la x.l.length x.lc, .slice x.ka x.ks.length x.kc] 26))
      clear hv h0 h3
      generalize quoteL x.t.data.toList = q at *
      have HC := fun W h1 h2 => Lib.hid (ws_k B b l ⟨q.toArray⟩ q (by simp) W h1 hlq h2)
      go_enter Tryz.func56, Tryz.ntmps56
      go_wp2_with (first
        | (go_at_call 102; refine (HQ _ HS).out.mono ?_; rintro e w2 ⟨rfl, hb2⟩)
        | (go_at_call 101; refine (HC _ (hB1.below hb2) (Nat.le_trans hBw (by have := hb2.size; simp at this; omega))).out.mono ?_; rintro e w3 ⟨⟨nn, rfl⟩, hB3, hk3⟩))
      go_end0
      exact ⟨rfl, by rw [HV.out]; exact hB3, (hk1.trans (KB.of_below hb2 (by simp; omega))).trans hk3⟩
    · rw [if_neg h3] at hv
      have e3 : (x.k == 3) = false := by simp [h3]
      have HV := Lib.hid hv
      have HC := Lib.hid (ws_k B b l x.t x.t.data.toList rfl _ hB1 (by rw [← hv]; omega) (by simp; omega))
      clear hv h0 h3
      go_enter Tryz.func56, Tryz.ntmps56
      go_wp2_with (go_at_call 101; refine HC.out.mono ?_; rintro e w2 ⟨⟨nn, rfl⟩, hB2, hk2⟩)
      go_end0
      exact ⟨rfl, by rw [HV.out]; exact hB2, hk1.trans hk2⟩
end Go.Proofs.YtjihepdjcbpgoaaGreatDoor

namespace Go.Proofs.YtjihepdjcbpgoaaGreatDoor
open Go.RowKit Go.Sort

/-- What is asked of the parts. -/
def WrKids (n B b : Nat) (x : AV) : Prop := ∀ y ∈ x.l, ∀ (l : List UInt8) (w : World), Bld B b l w → B ≤ w.heap.size → y.In w 0 B → Shorts w → l.length + 8 * y.w ≤ 100000000 → Calls Tryz.prog 56 #[.pointer (some ⟨b, 0, none⟩), y.val] w (WrPost B b (l ++ textV n y.v) w)

set_option maxRecDepth 100000 in
set_option maxHeartbeats 3200000 in
theorem vwrite_list (n B b : Nat) (l : List UInt8) (w : World) (x : AV) (h7 : x.k = 7) (hx : x.In w 0 B) (hw : x.w ≤ 1048576) (hB : Bld B b l w) (hBw : B ≤ w.heap.size) (hS : Shorts w) (hgB : 0 < B) (hl : l.length + 8 * x.w ≤ 100000000) (ih : WrKids n B b x) :
    Calls Tryz.prog 56 #[.pointer (some ⟨b, 0, none⟩), x.val] w (WrPost B b (l ++ textV (n + 1) x.v) w) := by
  have hll := x.w_l
  have hv : textV (n + 1) x.v = [91] ++ commaL (x.l.map fun y => textV n y.v) ++ [93] := by
    rw [textV_s, AV.v_k, if_neg (by omega), if_neg (by omega), if_pos h7, AV.v_l, List.map_map]; rfl
  have hlen : ∀ k, l.length + 1 + (commaL ((x.l.take k).map fun y => textV n y.v)).length + 2 ≤ 100000000 := fun k => by
    have h1 := commaL_take_len (fun y : AV => textV n y.v) x.l k
    have h2 : (x.l.map fun y => (textV n y.v).length + 1).sum ≤ (x.l.map fun y => 8 * y.w).sum := sum_le _ _ fun y _ => text_len n y.v
    rw [sum_mul] at h2
    have h3 := Val.w_eq x.v
    have h4 : (x.l.map AV.w).sum = (x.v.l.map Val.w).sum := by rw [AV.v_l, List.map_map]; rfl
    have h5 : x.v.w = x.w := rfl
    have h6 : (List.map (fun y => y.w) x.l).sum = (x.l.map AV.w).sum := rfl
    omega
  have hkid : ∀ (k : Nat) (y : AV), x.l[k]? = some y → l.length + 1 + (commaL ((x.l.take k).map fun y => textV n y.v)).length + 1 + 8 * y.w ≤ 100000000 := fun k y hk => by
    have h1 := commaL_len ((x.l.take k).map fun y => textV n y.v)
    rw [List.map_map] at h1
    have h2 : ((x.l.take k).map fun y => (textV n y.v).length + 1).sum ≤ ((x.l.take k).map fun y => 8 * y.w).sum := sum_le _ _ fun y _ => text_len n y.v
    rw [sum_mul] at h2
    have h3 := Val.w_eq x.v
    have h4 : (x.l.map AV.w).sum = (x.v.l.map Val.w).sum := by rw [AV.v_l, List.map_map]; rfl
    have h5 : x.v.w = x.w := rfl
    have h6 := congrArg (fun l => (l.map AV.w).sum) (List.take_append_drop k x.l)
    obtain ⟨hk1, hk2⟩ := List.getElem?_eq_some_iff.1 hk
    simp only [List.map_append, List.sum_append_nat, List.drop_eq_getElem_cons hk1, List.map_cons, List.sum_cons, hk2] at h6
    simp only [Function.comp_def] at h1
    have h7 : ((x.l.take k).map fun y => y.w).sum = ((x.l.take k).map AV.w).sum := rfl
    omega
  have HV := Lib.hid hv
  have HX := Lib.hid hx
  have e7 : (x.k == 7) = true := by simp [h7]
  have e0 : (x.k == 0) = false := by simp [h7]
  have e3 : (x.k == 3) = false := by simp [h7]
  have hB1 := hB.alloc (.cells #[.int .u8 x.k, .string x.t, .slice x.la x.l.length x.lc, .slice x.ka x.ks.length x.kc] 26)
  have hk1 : KB B b w (w.alloc (.cells #[.int .u8 x.k, .string x.t, .slice x.la x.l.length x.lc, .slice x.ka x.ks.length x.kc] 26)) := KB.refl.alloc hBw _
  have HW := Lib.hid (wb_k B b 91 91 rfl l _ hB1 (by omega) (by simp; omega))
  have hbl := hB.lt
  clear hv hx h7
  go_enter Tryz.func56, Tryz.ntmps56
  go_wp2_with (first
    | (go_at_call 103; refine HW.out.mono ?_; rintro e w2 ⟨rfl, hB2, hk2⟩
       obtain ⟨q0, q1, q2, q3, -, -, -, -⟩ := vbox4 (hk2.blk (heap_alloc_new w (.cells #[.int .u8 x.k, .string x.t, .slice x.la x.l.length x.lc, .slice x.ka x.ks.length x.kc] 26)) (by omega) ne_val)
       have hkw := hk1.trans hk2))
  have hsz2 := hkw.1.size
  clear q0 q1 q2 q3 hB1 hk1 hk2 HW
  go_loopw [32] (fun i wr => ∃ k : Nat, k ≤ x.l.length ∧ i = .int .i64 k ∧ Bld B b (l ++ [91] ++ commaL ((x.l.take k).map fun y => textV n y.v)) wr ∧ KB B b w wr) (fun i _ => x.l.length - (intOf i).toNat)
  case atStart => exact ⟨0, Nat.zero_le _, rfl, by simpa [commaL] using hB2, hkw⟩
  clear hB2 hkw hsz2
  case round =>
    obtain ⟨k, hkl, rfl, hBr, hkr⟩ := hrel
    have hsz := hkr.1.size
    have hln := hlen k
    by_cases hlt : k < x.l.length
    · have hks : x.l[k]? = some x.l[k] := List.getElem?_eq_getElem hlt
      have hmem : x.l[k] ∈ x.l := List.getElem_mem hlt
      generalize x.l[k] = y at *
      obtain ⟨c, off, hla, -, hc1, -, h0, h1, h2, h3⟩ := vals_at HX.out.sl hks
      rw [← hkr.1.cell (p := ⟨_, _, none⟩) hc1] at h0 h1 h2 h3
      have hcc : c < wr.heap.size := by omega
      have hlt' : (k : Int) < (x.l.length : Int) := by omega
      have hkd := hkid k y hks
      have HI := Lib.hid (ih y hmem)
      have HY := Lib.hid (HX.out.kid hmem)
      have HK := Lib.hid hks
      rw [hla]
      clear hks hla ih
      have hB1 := hBr.alloc (.cells #[.int .u8 y.k, .string y.t, .slice y.la y.l.length y.lc, .slice y.ka y.ks.length y.kc] 26)
      have hbl := hBr.lt
      have hk1 : KB B b w (wr.alloc (.cells #[.int .u8 y.k, .string y.t, .slice y.la y.l.length y.lc, .slice y.ka y.ks.length y.kc] 26)) := hkr.alloc (by omega) _
      by_cases hz : k = 0
      · have hst := Lib.hid (show commaL ((x.l.take (k + 1)).map fun y => textV n y.v) = textV n y.v by subst hz; exact commaL_take0 (fun y : AV => textV n y.v) HK.out)
        have hc0 := Lib.hid (show commaL ((x.l.take k).map fun y => textV n y.v) = [] by subst hz; rfl)
        have hz' : ¬ (0 : Int) < (k : Int) := by omega
        rw [hc0.out] at hB1
        have HC := Lib.hid (HI.out _ _ hB1 (by simp; omega) (HY.out.blw hk1.1 (Nat.le_refl _)) (hS.below_at hk1.1 hgB) (by simp; omega))
        clear hz
        go_wp2_with (go_at_call 56; refine HC.out.mono ?_; rintro e w3 ⟨rfl, hB3, hk3⟩)
        refine ⟨⟨k + 1, by omega, by go_num, ?_, hk1.trans hk3⟩, by simp [intOf]; omega⟩
        rw [hst.out]; simpa using hB3
      · have hst := Lib.hid (commaL_take (fun y : AV => textV n y.v) HK.out hz)
        generalize commaL ((x.l.take k).map fun y => textV n y.v) = T at *
        have HW := Lib.hid (wb_k B b 44 44 rfl _ _ hB1 (by simp; omega) (by simp; omega))
        have hz' : (0 : Int) < (k : Int) := by omega
        have hcl : ∀ W, Bld B b (l ++ [91] ++ T ++ [44]) W → KB B b w W → Hid (Calls Tryz.prog 56 #[.pointer (some ⟨b, 0, none⟩), y.val] W (WrPost B b (l ++ [91] ++ T ++ [44] ++ textV n y.v) W)) := fun W h1 h2 =>
          Lib.hid (HI.out _ _ h1 (by have := h2.1.size; omega) (HY.out.blw h2.1 (Nat.le_refl _)) (hS.below_at h2.1 hgB) (by simp; omega))
        have HCL := Lib.hid hcl
        clear hcl hz
        go_wp2_with (first
          | (go_at_call 103; refine HW.out.mono ?_; rintro e w2 ⟨rfl, hB2, hk2⟩
             obtain ⟨q0, q1, q2, q3, -, -, -, -⟩ := vbox4 (hk2.blk (heap_alloc_new wr (.cells #[.int .u8 y.k, .string y.t, .slice y.la y.l.length y.lc, .slice y.ka y.ks.length y.kc] 26)) (by omega) ne_val)
             have hkw := hk1.trans hk2)
          | (go_at_call 56; refine (HCL.out _ hB2 hkw).out.mono ?_; rintro e w3 ⟨rfl, hB3, hk3⟩))
        refine ⟨⟨k + 1, by omega, by go_num, ?_, hkw.trans hk3⟩, by simp [intOf]; omega⟩
        rw [hst.out]; simpa using hB3
    · obtain rfl : k = x.l.length := by omega
      rw [List.take_length] at hBr hln
      generalize commaL (x.l.map fun y => textV n y.v) = T at *
      have HW := Lib.hid (wb_k B b 93 93 rfl _ _ hBr (by simp; omega) (by omega))
      go_wp2_with (go_at_call 103; refine HW.out.mono ?_; rintro e w2 ⟨rfl, hB2, hk2⟩)
      go_end0
      exact ⟨rfl, by rw [HV.out]; simpa using hB2, hkr.trans hk2⟩
end Go.Proofs.YtjihepdjcbpgoaaGreatDoor

namespace Go.Proofs.YtjihepdjcbpgoaaGreatDoor
open Go.RowKit Go.Sort

theorem ba_app (x y : Array UInt8) : ({ data := x } : ByteArray) ++ { data := y } = { data := x ++ y } := by
  apply ByteArray.ext
  simp

/-- An entry's text. -/
def entT (n : Nat) (e : Ent) : List UInt8 := quoteL e.key.data.toList ++ [58] ++ textV n e.x.v
/-- What an entry weighs, at least its text. -/
def entW (e : Ent) : Nat := 8 * (e.key.size + 1) + 8 * e.x.w
theorem entT_le (n : Nat) (e : Ent) : (entT n e).length + 1 ≤ entW e := by
  have h1 := quoteL_len e.key.data.toList
  have h2 := text_len n e.x.v
  have h3 : e.x.v.w = e.x.w := rfl
  rw [ba_size] at h1
  simp only [entT, entW, List.length_append, List.length_singleton]; omega
theorem entW_sum {x : AV} {L : List Ent} (hp : L.Perm (ents0 x.ks x.l)) : (L.map entW).sum + 8 ≤ 8 * x.w := by
  have h1 := (hp.map entW).sum_nat
  have h2 := zip_sum (fun k : ByteArray => 8 * (k.size + 1)) (fun y : AV => 8 * y.w) x.ks x.l
  rw [sum_mul, sum_mul, sum_add (fun k : ByteArray => k.size) (fun _ => 1), sum_const] at h2
  have h3 : ((ents0 x.ks x.l).map entW).sum = ((x.ks.zip x.l).map fun e => 8 * (e.1.size + 1) + 8 * e.2.w).sum := by rw [ents0, List.map_map]; rfl
  have h4 := Val.w_eq x.v
  have h5 : (x.l.map AV.w).sum = (x.v.l.map Val.w).sum := by rw [AV.v_l, List.map_map]; rfl
  have h6 : x.v.w = x.w := rfl
  have h7 : (List.map (fun y => y.w) x.l).sum = (x.l.map AV.w).sum := rfl
  rw [AV.v_ks] at h4
  omega
theorem vbox5 {w : World} {g : Nat} {a b c d e : Value} {t : TypeId} (h : w.heap[g]? = some (.cells #[a, b, c, d, e] t (0, 0))) :
    w.cell? ⟨g, 0, none⟩ = some a ∧ w.cell? ⟨g, 1, none⟩ = some b ∧ w.cell? ⟨g, 2, none⟩ = some c ∧ w.cell? ⟨g, 3, none⟩ = some d ∧ w.cell? ⟨g, 4, none⟩ = some e := by
  refine ⟨?_, ?_, ?_, ?_, ?_⟩ <;> simp [World.cell?, h]

set_option maxRecDepth 100000 in
set_option maxHeartbeats 3200000 in
theorem vwrite_map (n B b : Nat) (l : List UInt8) (w : World) (x : AV) (h8 : x.k = 8) (hlen8 : x.l.length = x.ks.length) (hnd : x.ks.Nodup) (hx : x.In w 0 B) (hw : x.w ≤ 1048576) (hB : Bld B b l w) (hBw : B ≤ w.heap.size) (hS : Shorts w) (hgB : 0 < B) (hl : l.length + 8 * x.w ≤ 100000000) (ih : WrKids n B b x) :
    Calls Tryz.prog 56 #[.pointer (some ⟨b, 0, none⟩), x.val] w (WrPost B b (l ++ textV (n + 1) x.v) w) := by
  have hll := x.w_l
  have hv : textV (n + 1) x.v = [123] ++ commaL (x.v.ents.map fun e => quoteL e.1.data.toList ++ [58] ++ textV n e.2) ++ [125] := by
    rw [textV_s, AV.v_k, if_neg (by omega), if_neg (by omega), if_neg (by omega), if_pos h8]
  have hvL : ∀ L : List Ent, L.Perm (ents0 x.ks x.l) → L.Pairwise (fun a b => a.key.toList ≤ b.key.toList) → commaL (x.v.ents.map fun e => quoteL e.1.data.toList ++ [58] ++ textV n e.2) = commaL (L.map (entT n)) ∧ (L.map entW).sum + 8 ≤ 8 * x.w ∧ (∀ e ∈ L, e.x ∈ x.l ∧ e.key ∈ x.ks) := fun L hp hso => by
    rw [← ents_eq x hnd L hp hso, List.map_map]
    refine ⟨rfl, entW_sum hp, fun e he => ?_⟩
    obtain ⟨p, hp', rfl⟩ := List.mem_map.1 (hp.subset he)
    have := List.of_mem_zip (a := p.1) (b := p.2) hp'
    exact ⟨this.2, this.1⟩
  have HV := Lib.hid hv
  have HL := Lib.hid hvL
  have HX := Lib.hid hx
  have e8 : (x.k == 8) = true := by simp [h8]
  have e7 : (x.k == 7) = false := by simp [h8]
  have e0 : (x.k == 0) = false := by simp [h8]
  have e3 : (x.k == 3) = false := by simp [h8]
  have hB1 := hB.alloc (.cells #[.int .u8 x.k, .string x.t, .slice x.la x.l.length x.lc, .slice x.ka x.ks.length x.kc] 26)
  have hk1 : KB B b w (w.alloc (.cells #[.int .u8 x.k, .string x.t, .slice x.la x.l.length x.lc, .slice x.ka x.ks.length x.kc] 26)) := KB.refl.alloc hBw _
  have HW := Lib.hid (wb_k B b 123 123 rfl l _ hB1 (by omega) (by simp; omega))
  have hE := fun (W : World) (hb : Below B w W) (hs : B ≤ W.heap.size) => Lib.hid (entries_t W x ((HX.out.blw hb (Nat.le_refl _)).widen (Nat.le_refl _) hs) hw hlen8)
  have hbl := hB.lt
  clear hv hvL hx h8 hlen8 hnd
  go_enter Tryz.func56, Tryz.ntmps56
  go_wp2_with (first
    | (go_at_call 103; refine HW.out.mono ?_; rintro e w2 ⟨rfl, hB2, hk2⟩
       obtain ⟨q0, q1, q2, q3, -, -, -, -⟩ := vbox4 (hk2.blk (heap_alloc_new w (.cells #[.int .u8 x.k, .string x.t, .slice x.la x.l.length x.lc, .slice x.ka x.ks.length x.kc] 26)) (by omega) ne_val)
       have hkw := hk1.trans hk2
       have hsz2 := hkw.1.size)
    | (go_at_call 94; refine (hE _ hkw.1 (by omega)).out.mono ?_; rintro e w3 ⟨a, c, L, rfl, hp, hso, hsl, hb3, g, rfl, hg1, cs, hg2⟩
       have hkw3 := hkw.trans (KB.of_below hb3 (by omega))
       have hsz3 := hkw3.1.size
       obtain ⟨hT, hsum, hmem⟩ := HL.out L hp hso
       have HT := Lib.hid hT
       have HM := Lib.hid hmem
       have HSL := Lib.hid hsl
       clear hT hmem hsl hp hso))
  have hLn : L.length ≤ 8 * x.w := by
    have := len_sum entW (fun e => by unfold entW; omega) L
    omega
  have hlen : ∀ k, l.length + 1 + (commaL ((L.take k).map (entT n))).length + 2 ≤ 100000000 := fun k => by
    have h1 := commaL_take_len (entT n) L k
    have h2 := sum_le (fun e => (entT n e).length + 1) entW (l := L) fun e _ => entT_le n e
    omega
  have hkid : ∀ (k : Nat) (e : Ent), L[k]? = some e → l.length + 1 + (commaL ((L.take k).map (entT n))).length + 1 + (quoteL e.key.data.toList).length + 1 + 8 * e.x.w ≤ 100000000 := fun k e hk => by
    have h1 := commaL_len ((L.take k).map (entT n))
    rw [List.map_map] at h1
    have h2 := sum_le (fun e => (entT n e).length + 1) entW (l := L.take k) fun e _ => entT_le n e
    have h6 := congrArg (fun l => (l.map entW).sum) (List.take_append_drop k L)
    obtain ⟨hk1, hk2⟩ := List.getElem?_eq_some_iff.1 hk
    simp only [List.map_append, List.sum_append_nat, List.drop_eq_getElem_cons hk1, List.map_cons, List.sum_cons, hk2] at h6
    simp only [Function.comp_def] at h1
    have h7 := quoteL_len e.key.data.toList
    rw [ba_size] at h7
    have h8 : entW e = 8 * (e.key.size + 1) + 8 * e.x.w := rfl
    omega
  have hks := x.w_ks
  have hgb : g ≠ b := by have := hB2.lt; omega
  clear q0 q1 q2 q3 hB1 hk1 hk2 HW hsum hE
  have hBb3 := hB2.below hb3
  go_loopw [54] (fun i wr => ∃ k : Nat, k ≤ L.length ∧ i = .int .i64 k ∧ Bld B b (l ++ [123] ++ commaL ((L.take k).map (entT n))) wr ∧ KB B b w wr ∧ wr.heap[g]? = some (.cells cs 120 (0, 0)) ∧ w3.heap.size ≤ wr.heap.size) (fun i _ => L.length - (intOf i).toNat)
  case atStart => exact ⟨0, Nat.zero_le _, rfl, by simpa [commaL] using hBb3, hkw3, hg2, Nat.le_refl _⟩
  clear hBb3 hB2 hkw hkw3
  case round =>
    obtain ⟨k, hkl, rfl, hBr, hkr, hgr, hwr⟩ := hrel
    have hln := hlen k
    by_cases hlt : k < L.length
    · have hks : L[k]? = some L[k] := List.getElem?_eq_getElem hlt
      have hmem : L[k] ∈ L := List.getElem_mem hlt
      generalize L[k] = e at *
      obtain ⟨g', off, hga, -, hc1, hc2, h0, h1, h2, h3, h4⟩ := ents_at HSL.out hks
      injection hga with hga
      injection hga with e1 e2
      subst e1; subst e2
      rw [← World.cell?_of_block (hgr.trans hg2.symm)] at h0 h1 h2 h3 h4
      simp only [Nat.zero_add] at h0 h1 h2 h3 h4
      have hcc : g < wr.heap.size := by omega
      have hlt' : (k : Int) < (L.length : Int) := by omega
      have hkd := hkid k e hks
      obtain ⟨hm1, hm2⟩ := HM.out e hmem
      have hkz : e.key.size ≤ 1048576 := by have := x.w_key hm2; omega
      have HI := Lib.hid (ih e.x hm1)
      have HY := Lib.hid (HX.out.kid hm1)
      have HK := Lib.hid hks
      have HQ := fun W hW => Lib.hid (write_c W e.key hkz hW)
      clear hks ih hm1 hm2 hkz
      have hqe : entT n e = quoteL e.key.data.toList ++ [58] ++ textV n e.x.v := rfl
      have HQE := Lib.hid hqe
      clear hqe
      generalize quoteL e.key.data.toList = q at *
      have hB1 := hBr.alloc (.cells #[.string e.key, .int .u8 e.x.k, .string e.x.t, .slice e.x.la e.x.l.length e.x.lc, .slice e.x.ka e.x.ks.length e.x.kc] 120)
      have hbl := hBr.lt
      have hk1 : KB B b w (wr.alloc (.cells #[.string e.key, .int .u8 e.x.k, .string e.x.t, .slice e.x.la e.x.l.length e.x.lc, .slice e.x.ka e.x.ks.length e.x.kc] 120)) := hkr.alloc (by omega) _
      have hnew := heap_alloc_new wr (.cells #[.string e.key, .int .u8 e.x.k, .string e.x.t, .slice e.x.la e.x.l.length e.x.lc, .slice e.x.ka e.x.ks.length e.x.kc] 120)
      have hold := (heap_alloc_old wr (.cells #[.string e.key, .int .u8 e.x.k, .string e.x.t, .slice e.x.la e.x.l.length e.x.lc, .slice e.x.ka e.x.ks.length e.x.kc] 120) g hcc).trans hgr
      have hsn := World.size_alloc wr (.cells #[.string e.key, .int .u8 e.x.k, .string e.x.t, .slice e.x.la e.x.l.length e.x.lc, .slice e.x.ka e.x.ks.length e.x.kc] 120)
      have hap : ({ data := q.toArray } : ByteArray) ++ { data := #[58] } = { data := (q ++ [58]).toArray } := by rw [ba_app, List.append_toArray]
      by_cases hz : k = 0
      · have hst := Lib.hid (show commaL ((L.take (k + 1)).map (entT n)) = entT n e by subst hz; exact commaL_take0 (entT n) HK.out)
        have hc0 := Lib.hid (show commaL ((L.take k).map (entT n)) = [] by subst hz; rfl)
        have hz' : ¬ (0 : Int) < (k : Int) := by omega
        rw [hc0.out] at hB1 hkd
        have HS := fun W P (h1 : Bld B b P W) hP h2 => Lib.hid (ws_k B b P (⟨q.toArray⟩ ++ ⟨#[58]⟩) (q ++ [58]) (by rw [hap]) W h1 (by rw [List.length_append]; exact hP) h2)
        have n0 : ¬ 9223372036854775807 < q.length + 1 := by omega
        clear hz hap
        have hP : (l ++ [123] ++ ([] : List UInt8)).length = l.length + 1 := by simp
        generalize hPP : l ++ [123] ++ ([] : List UInt8) = P at *
        have HPP := Lib.hid hPP
        clear hPP
        go_wp2_with (first
          | (go_at_call 102; refine (HQ _ (hS.below_at hk1.1 hgB)).out.mono ?_; rintro e4 w4 ⟨rfl, hb4⟩
             have hs4 := hb4.size
             have hB4 := hB1.below hb4
             have hk4 := hk1.trans (KB.of_below hb4 (by omega)))
          | (go_at_call 101; refine (HS _ _ hB4 (by simp at hkd ⊢; omega) (by omega)).out.mono ?_; rintro e5 w5 ⟨⟨nn, rfl⟩, hB5, hk5⟩
             have hk6 := hk4.trans hk5
             have hk7 := ((KB.of_below (B := B) (b := b) hb4 (by omega))).trans hk5
             obtain ⟨q0, q1, q2, q3, q4⟩ := vbox5 (hk7.blk hnew (by omega) ne_ent)
             have hgg := hk7.blk hold hgb ne_ent
             have hs7 := hk7.1.size)
          | (go_at_call 56; refine (HI.out _ _ hB5 (by have := hk6.1.size; omega) (HY.out.blw hk6.1 (Nat.le_refl _)) (hS.below_at hk6.1 hgB) (by simp at hkd ⊢; omega)).mono ?_; rintro e6 w6 ⟨rfl, hB6, hk8⟩))
        refine ⟨⟨k + 1, by omega, by go_num, ?_, hk6.trans hk8, hk8.blk hgg hgb ne_ent, by have := hk8.1.size; have := hk5.1.size; omega⟩, by simp [intOf]; omega⟩
        rw [hst.out, HQE.out]
        have := HPP.out
        simp at this
        subst this
        simpa using hB6
      · have hst := Lib.hid (commaL_take (entT n) HK.out hz)
        have hz' : (0 : Int) < (k : Int) := by omega
        have HS := fun W P (h1 : Bld B b P W) hP h2 => Lib.hid (ws_k B b P (⟨q.toArray⟩ ++ ⟨#[58]⟩) (q ++ [58]) (by rw [hap]) W h1 (by rw [List.length_append]; exact hP) h2)
        have n0 : ¬ 9223372036854775807 < q.length + 1 := by omega
        clear hz hap
        generalize commaL ((L.take k).map (entT n)) = T at *
        have hP : (l ++ [123] ++ T).length = l.length + 1 + T.length := by simp; omega
        generalize hPP : l ++ [123] ++ T = P at *
        have HPP := Lib.hid hPP
        clear hPP
        have HW := Lib.hid (wb_k B b 44 44 rfl _ _ hB1 (by omega) (by omega))
        have hP2 : (P ++ [44]).length = P.length + 1 := by simp
        generalize hPQ : P ++ [44] = P2 at *
        have HPQ := Lib.hid hPQ
        clear hPQ
        go_wp2_with (first
          | (go_at_call 103; refine HW.out.mono ?_; rintro e2 w2b ⟨rfl, hB2, hk2⟩
             have hkk := hk1.trans hk2
             have hs2 := hk2.1.size
             obtain ⟨z0, z1, z2, z3, z4⟩ := vbox5 (hk2.blk hnew (by omega) ne_ent))
          | (go_at_call 102; refine (HQ _ (hS.below_at hkk.1 hgB)).out.mono ?_; rintro e4 w4 ⟨rfl, hb4⟩
             have hs4 := hb4.size
             have hB4 := hB2.below hb4
             have hk4 := hkk.trans (KB.of_below hb4 (by omega)))
          | (go_at_call 101; refine (HS _ _ hB4 (by simp at hkd ⊢; omega) (by omega)).out.mono ?_; rintro e5 w5 ⟨⟨nn, rfl⟩, hB5, hk5⟩
             have hk6 := hk4.trans hk5
             have hk7 := (hk2.trans (KB.of_below (B := B) (b := b) hb4 (by omega))).trans hk5
             obtain ⟨q0, q1, q2, q3, q4⟩ := vbox5 (hk7.blk hnew (by omega) ne_ent)
             have hgg := hk7.blk hold hgb ne_ent
             have hs7 := hk7.1.size)
          | (go_at_call 56; refine (HI.out _ _ hB5 (by have := hk6.1.size; omega) (HY.out.blw hk6.1 (Nat.le_refl _)) (hS.below_at hk6.1 hgB) (by simp at hkd ⊢; omega)).mono ?_; rintro e6 w6 ⟨rfl, hB6, hk8⟩))
        refine ⟨⟨k + 1, by omega, by go_num, ?_, hk6.trans hk8, hk8.blk hgg hgb ne_ent, by have := hk8.1.size; have := hk5.1.size; omega⟩, by simp [intOf]; omega⟩
        rw [hst.out, HQE.out]
        have e1 := HPQ.out
        have e2 := HPP.out
        subst e1
        subst e2
        simpa using hB6
    · obtain rfl : k = L.length := by omega
      rw [List.take_length] at hBr hln
      generalize commaL (L.map (entT n)) = T at *
      have HW := Lib.hid (wb_k B b 125 125 rfl _ _ hBr (by simp; omega) (by omega))
      go_wp2_with (go_at_call 103; refine HW.out.mono ?_; rintro e w2 ⟨rfl, hB2, hk2⟩)
      go_end0
      exact ⟨rfl, by rw [HV.out, HT.out]; simpa using hB2, hkr.trans hk2⟩

theorem vwrite_c : ∀ (n B b : Nat) (x : AV) (l : List UInt8) (w : World), x.In w 0 B → x.w ≤ 1048576 → x.v.within n = true → Bld B b l w → B ≤ w.heap.size → Shorts w → 0 < B → l.length + 8 * x.w ≤ 100000000 →
    Calls Tryz.prog 56 #[.pointer (some ⟨b, 0, none⟩), x.val] w (WrPost B b (l ++ textV n x.v) w)
  | 0, B, b, x, l, w, hx, hw, hwi, hB, hBw, hS, hgB, hl => by
    rw [Val.within_0, Bool.and_eq_true, AV.v_k] at hwi
    have hk : x.k < 7 := by simpa using hwi.2
    exact vwrite_leaf 0 B b l w x (by omega) hw hB hBw hS hl
  | n + 1, B, b, x, l, w, hx, hw, hwi, hB, hBw, hS, hgB, hl => by
    obtain ⟨sh, hk⟩ := within_k hwi
    by_cases h78 : x.k ≠ 7 ∧ x.k ≠ 8
    · exact vwrite_leaf (n + 1) B b l w x h78 hw hB hBw hS hl
    · have ih : WrKids n B b x := fun y hy l' w' hB' hBw' hy' hS' hl' =>
        vwrite_c n B b y l' w' hy' (by have := x.w_kid hy; omega) (hk y.v (by rw [AV.v_l]; exact List.mem_map_of_mem hy)) hB' hBw' hS' hgB hl'
      by_cases h7 : x.k = 7
      · exact vwrite_list n B b l w x h7 hx hw hB hBw hS hgB hl ih
      · have h8 : x.k = 8 := by omega
        obtain ⟨_, hl8, hn8⟩ := shape_map sh (by rw [AV.v_k]; exact h8)
        rw [AV.v_ks] at hl8 hn8
        rw [AV.v_l, List.length_map] at hl8
        exact vwrite_map n B b l w x h8 hl8.symm hn8 hx hw hB hBw hS hgB hl ih

def textR (v : Val) : List UInt8 := if v.may = true then textV 256 v else []
set_option maxRecDepth 100000 in
set_option maxHeartbeats 3200000 in
theorem text_c (x : AV) (w : World) (hx : Rd w x) (hw : x.w ≤ 1048576) (hS : Shorts w) : Calls Tryz.prog 22 #[x.val] w (Ret (.string ⟨(textR x.v).toArray⟩) w) := by
  have hb0 := fun o => (Below.refl w.heap.size w).alloc (Nat.le_refl _) o
  have HM := fun W h => Lib.hid (may_c W x h hw)
  have hg : 0 < w.heap.size := by
    obtain ⟨t, fr, h⟩ := hS
    rcases Nat.lt_or_ge 0 w.heap.size with hlt | hge
    · exact hlt
    · rw [Array.getElem?_eq_none hge] at h; cases h
  cases hm : x.v.may with
  | false =>
    have HF := Lib.hid (show textR x.v = [] by unfold textR; rw [hm]; simp)
    rw [hm] at HM
    clear hm
    go_enter Tryz.func22, Tryz.ntmps22
    go_wp2_with (go_at_call 12; refine (HM _ (hx.up (hb0 _))).out.mono ?_; rintro e w2 ⟨rfl, hb⟩)
    go_ret
    exact ⟨by rw [HF.out]; rfl, below_via (hb0 _) hb⟩
  | true =>
    have HF := Lib.hid (show textR x.v = textV 256 x.v by unfold textR; rw [hm]; simp)
    have hwi : x.v.within 256 = true := by rw [Val.may_eq]; exact hm
    rw [hm] at HM
    have HW := fun (B b : Nat) (W : World) h1 h2 h3 h4 h5 => Lib.hid (vwrite_c 256 B b x [] W h1 hw hwi h2 h3 h4 h5 (by simp; omega))
    clear hm hwi
    go_enter Tryz.func22, Tryz.ntmps22
    go_wp2_with (first
      | (go_at_call 12; refine (HM _ (hx.up (hb0 _))).out.mono ?_; rintro e w2 ⟨rfl, hb⟩
         have hbw := below_via (hb0 _) hb
         have hsz := hbw.size
         have hlt2 : w.heap.size < w2.heap.size := by (have := hb.size; simp at this; omega)
         obtain ⟨q0, q1, q2, q3, -, -, -, -⟩ := vbox4 (blk_new hb)
         have hx2 := (hx.up hbw).blw' ((Below.refl _ _).alloc (Nat.le_refl _) (.cells #[.pointer none, .slice none 0 0] 73))
         have hS2 := (hS.below hbw).below ((Below.refl _ _).alloc (Nat.le_refl _) (.cells #[.pointer none, .slice none 0 0] 73)))
      | (go_at_call 56; refine (HW _ _ _ hx2 (fresh_l w2) (by simp) hS2 (by omega)).out.mono ?_; rintro e w3 ⟨rfl, hB3, hk3⟩
         have hs3 := hk3.1.size
         simp only [World.size_alloc] at hs3)
      | (go_at_call 57; refine (bstring_l _ _ _ _ hB3 (by omega)).mono ?_; rintro e w4 ⟨rfl, hB4, hb4, hk4⟩))
    go_ret
    exact ⟨by rw [HF.out]; simp, hbw.trans ((((Below.refl _ _).alloc (Nat.le_refl _) _).trans (hk3.1.trans hb4)).mono hsz)⟩
end Go.Proofs.YtjihepdjcbpgoaaGreatDoor
