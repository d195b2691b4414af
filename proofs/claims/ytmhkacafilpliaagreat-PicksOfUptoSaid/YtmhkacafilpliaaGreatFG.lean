/-
  inarchref14.Same: are two values one? Condition: both lie in memory, their weights are bounded. (The first part of XRC, by itself.)
  Chapter 21's document: who is alike, which one is the nearest; and what the law goes through. Conditions: the values lie in memory, weights and the length are bounded. (Printed by gen_ff.py.)
  AlikesAny's walk. Conditions: the value and the list lie in memory, weights and the length are bounded. (Printed by gen_fg.py.)
-/
import Derived.Test.YtmhkacafilpliaaGreatVE
import Derived.Test.YtmhkacafilpliaaGreatVN
import Derived.Test.YtmhkacafilpliaaGreatRB
import Derived.Test.YtmhkacafilpliaaGreatO5
import Derived.Test.YtmhkacafilpliaaGreatVS
import Derived.Test.YtmhkacafilpliaaGreatEU
import Derived.Test.YtmhkacafilpliaaGreatFC
import Derived.Test.YtmhkacafilpliaaGreatLA
import Derived.Test.YtmhkacafilpliaaGreatVF
import Derived.Test.YtmhkacafilpliaaGreatET
import Derived.Test.YtmhkacafilpliaaGreatEW
import Derived.Test.YtmhkacafilpliaaGreatTC
namespace Go.Proofs.YtmhkacafilpliaaGreat
open Go.RowKit Go.Sort
theorem rd_duo_0 {w : World} {o1 o2 : Obj} : Below (w.heap.size + 1 + 1) ((w.alloc o1).alloc o2) ((w.alloc o1).alloc o2) := Below.refl _ _
theorem rd_duo_b {w : World} {o1 o2 : Obj} : Below w.heap.size w ((w.alloc o1).alloc o2) := ((Below.refl _ _).alloc (Nat.le_refl _) _).alloc (by simp) _
theorem rd_duo_at {w W : World} {o1 o2 : Obj} (hb : Below (w.heap.size + 1 + 1) ((w.alloc o1).alloc o2) W) : W.heap[w.heap.size]? = some o1 ∧ W.heap[w.heap.size + 1]? = some o2 ∧ w.heap.size + 1 < W.heap.size ∧ Below w.heap.size w W := by
  have hs := hb.size
  simp only [World.size_alloc] at hs
  have h2 := heap_alloc_new (w.alloc o1) o2
  simp only [World.size_alloc] at h2
  refine ⟨(hb.block _ (by omega)).trans ?_, (hb.block _ (by omega)).trans h2, by omega, ?_⟩
  · rw [heap_alloc_old _ _ _ (by simp)]; exact heap_alloc_new w o1
  · exact ((((Below.refl _ _).alloc (Nat.le_refl _) _).alloc (by simp) _)).trans (hb.mono (by omega))
theorem rd_tri_step {N : Nat} {A W W' : World} (h : Below N A W) (hb : Below W.heap.size W W') (hN : N ≤ A.heap.size) : Below N A W' := h.trans (hb.mono (Nat.le_trans hN h.size))
theorem rd_blk_up {w W : World} {i : Nat} {o : Obj} (h : Below w.heap.size w W) (hk : w.heap[i]? = some o) : W.heap[i]? = some o := (h.block i (Array.getElem?_eq_some_iff.1 hk).1).trans hk
theorem nodup_of_fstD {α β : Type} {l : List (α × β)} (h : (l.map (·.1)).Nodup) : l.Nodup := by
  induction l with
  | nil => exact .nil
  | cons x l ih =>
    rw [List.map_cons, List.nodup_cons] at h
    exact List.nodup_cons.2 ⟨fun hm => h.1 (List.mem_map_of_mem hm), ih h.2⟩
end Go.Proofs.YtmhkacafilpliaaGreat

namespace Go.Proofs.YtmhkacafilpliaaGreat
open Go.RowKit Go.Sort

theorem idxB_first {s : ByteArray} : ∀ {ks : List ByteArray} {m : Nat}, ks[m]? = some s → s ∉ ks.take m → idxB ks s = some m
  | [], m, h, _ => by simp at h
  | k :: ks, 0, h, _ => by
    simp at h
    simp [idxB, h]
  | k :: ks, m + 1, h, hn => by
    simp only [List.getElem?_cons_succ] at h
    simp only [List.take_succ_cons, List.mem_cons, not_or] at hn
    simp [idxB, Ne.symm hn.1, idxB_first h hn.2]
theorem not_take_snoc {s k : ByteArray} {ks : List ByteArray} {m : Nat} (h : ks[m]? = some k) (hn : s ∉ ks.take m) (hne : k ≠ s) : s ∉ ks.take (m + 1) := by
  rw [List.take_add_one, h]
  simp only [Option.toList, List.mem_append, List.mem_singleton, not_or]
  exact ⟨hn, Ne.symm hne⟩

theorem s_drew {N : Nat} {W : World} : (∀ b o, b < N → W.drew.cell? ⟨b, o, none⟩ = W.cell? ⟨b, o, none⟩) ∧ Below N W W.drew := ⟨fun _ _ _ => rfl, (Below.refl _ _).drew⟩

set_option maxRecDepth 100000 in
set_option maxHeartbeats 3200000 in
theorem find14_c (x : AV) (s : ByteArray) (w : World) (hx : Rd w x) (hlk : x.ks.length ≤ 1048576) : Calls Tryz.prog 73 #[x.val, .string s] w (Ret (.int .i64 (idxI x.ks s)) w) := by
  have HX := Lib.hid hx
  clear hx
  have hb0 : Below w.heap.size w (w.alloc (.cells #[.int .u8 x.k, .string x.t, .slice x.la x.l.length x.lc, .slice x.ka x.ks.length x.kc] 26)) := (Below.refl _ _).alloc (Nat.le_refl _) _
  have HB0 := Lib.hid hb0
  have HBX := Lib.hid (heap_alloc_new w (.cells #[.int .u8 x.k, .string x.t, .slice x.la x.l.length x.lc, .slice x.ka x.ks.length x.kc] 26))
  clear hb0
  go_enter Tryz.func73, Tryz.ntmps73
  go_wp2_with fail
  go_loopw [5] (fun i wr => ∃ m : Nat, m ≤ x.ks.length ∧ i = .int .i64 m ∧ s ∉ x.ks.take m ∧ Below (w.heap.size + 1) (w.alloc (.cells #[.int .u8 x.k, .string x.t, .slice x.la x.l.length x.lc, .slice x.ka x.ks.length x.kc] 26)) wr) (fun i _ => x.ks.length - (intOf i).toNat)
  case atStart => exact ⟨0, Nat.zero_le _, by go_num, by simp, Below.refl _ _⟩
  case round =>
    obtain ⟨m, hm, rfl, hn, hbr⟩ := hrel
    have hbw : Below w.heap.size w wr := HB0.out.trans (hbr.mono (by omega))
    have hsr := hbr.size
    rw [World.size_alloc] at hsr
    have hbx := (hbr.block w.heap.size (by omega)).trans HBX.out
    obtain ⟨q0, q1, q2, q3, -, -, -, -⟩ := vbox4 hbx
    have hl0 : w.heap.size < wr.heap.size := by omega
    have HBR := Lib.hid hbr
    have HBW := Lib.hid hbw
    have HN := Lib.hid hn
    by_cases hlt : m < x.ks.length
    · have hk : x.ks[m]? = some x.ks[m] := List.getElem?_eq_getElem hlt
      generalize x.ks[m] = k at hk
      obtain ⟨b2, o2, h2, -, -, g2, c2⟩ := key_at HX.out.keys hk
      rw [← hbw.cell (p := ⟨_, _, none⟩) g2] at c2
      have hlt' : (m : Int) < (x.ks.length : Int) := by omega
      have hm0 : (0 : Int) ≤ (m : Int) := by omega
      have g2' : b2 < wr.heap.size := by omega
      have hwm : IntKind.i64.wrap ((m : Int) + 1) = ((m + 1 : Nat) : Int) := by rw [IntWalk.i64_in _ (by omega)]; omega
      rw [h2] at q3
      by_cases he : k = s
      · subst he
        have hi := Lib.hid (show idxI x.ks k = (m : Int) by rw [idxI, idxB_first hk hn])
        have hbd : (k.toList == k.toList) = true := by simp
        clear h2 hbr hbw hn hbx hk
        go_wp2_with fail
        go_ret
        exact ⟨by rw [hi.out]; rfl, HBW.out⟩
      · have hbe : ¬ k.toList = s.toList := fun e => he (bl_eq e)
        have hbd : (k.toList == s.toList) = false := beq_false_of_ne hbe
        have hn' := Lib.hid (not_take_snoc hk hn he)
        clear h2 hbr hbw hn hbx hk
        go_wp2_with fail
        exact ⟨⟨m + 1, by omega, by go_num, hn'.out, HBR.out⟩, by simp [intOf]; omega⟩
    · obtain rfl : m = x.ks.length := by omega
      have hge : ¬ (x.ks.length : Int) < (x.ks.length : Int) := by omega
      have hi := Lib.hid (show idxI x.ks s = -1 from idxI_none (by rw [List.take_length] at hn; exact hn))
      clear hbr hbw hn hbx
      go_wp2_with fail
      go_ret
      exact ⟨by rw [hi.out]; rfl, HBW.out⟩

/-- What the reference's Get hands back: the element itself. -/
def RGetPost (x : AV) (s : ByteArray) (w : World) (e : Ending) (w' : World) : Prop :=
  ((∃ y : AV, y ∈ x.l ∧ x.v.get s = some y.v ∧ e = .returned (.tuple #[y.val, .bool true])) ∨ (x.v.get s = none ∧ e = .returned (.tuple #[zAV.val, .bool false]))) ∧ Below w.heap.size w w'
theorem rget_fin {x : AV} {s : ByteArray} {w w' : World} (hn : x.v.get s = none) (hb : Below w.heap.size w w') : RGetPost x s w (.returned (.tuple #[.agg #[.int .u8 0, .string ⟨#[]⟩, .slice none 0 0, .slice none 0 0], .bool false])) w' := ⟨.inr ⟨hn, rfl⟩, hb⟩

end Go.Proofs.YtmhkacafilpliaaGreat

namespace Go.Proofs.YtmhkacafilpliaaGreat
open Go.RowKit Go.Sort

theorem shape_nokeys {v : Val} (h : v.shape = true) (hk : v.k ≠ 8) : v.ks = [] := by
  unfold Val.shape at h
  split at h
  · simp at h; exact h.2.2
  split at h
  · simp at h; exact h.2.2
  split at h
  · simp at h; exact h.2
  split at h
  · simp at h; exact h.2.2
  split at h
  · simp at h; exact h.2
  · cases h
theorem sub_perm {α : Type} : ∀ {l m : List α}, l.Nodup → (∀ x ∈ l, x ∈ m) → m.length ≤ l.length → l.Perm m
  | [], m, _, _, h => by
    have : m = [] := List.length_eq_zero_iff.1 (by simpa using h)
    rw [this]
  | x :: l, m, hn, hs, hl => by
    obtain ⟨s, t, rfl⟩ := List.append_of_mem (hs x List.mem_cons_self)
    rw [List.nodup_cons] at hn
    have h1 : l.Perm (s ++ t) := sub_perm hn.2 (fun y hy => by
      have := hs y (List.mem_cons_of_mem _ hy)
      simp only [List.mem_append, List.mem_cons] at this ⊢
      rcases this with h | h | h
      · exact .inl h
      · exact absurd (h ▸ hy) hn.1
      · exact .inr h) (by simp at hl ⊢; omega)
    exact (h1.cons x).trans List.perm_middle.symm
/-- A part of one value, and the one of another that it is to be the same as. -/
def Corr (a b : Val) (i : Nat) (y : Val) : Prop := ∃ j z, (if a.k = 8 then ∃ s, a.ks[i]? = some s ∧ idxB b.ks s = some j else j = i) ∧ b.l[j]? = some z ∧ cmpV 256 y z = 0
theorem kid_zero {y z : Val} (hy : y.within 255 = true) (hz : z.within 255 = true) : cmpV 256 y z = 0 ↔ canon 255 y = canon 255 z := by
  rw [cmpV_more 255 y z hy hz]
  exact cmpV_zero 255 y z hy hz
theorem zip_mem_iff {v : Val} {s : ByteArray} {y : Val} : (s, y) ∈ v.ks.zip v.l ↔ ∃ i : Nat, v.ks[i]? = some s ∧ v.l[i]? = some y := by
  constructor
  · intro h
    obtain ⟨i, hi⟩ := List.getElem?_of_mem h
    exact ⟨i, List.getElem?_zip_eq_some.1 hi⟩
  · rintro ⟨i, h1, h2⟩
    exact List.mem_of_getElem? (List.getElem?_zip_eq_some.2 ⟨h1, h2⟩ : (v.ks.zip v.l)[i]? = some (s, y))
set_option maxRecDepth 100000 in
theorem same_iff {a b : Val} (ha : a.may = true) (hb : b.may = true) : cmpV 256 a b = 0 ↔ (a.k = b.k ∧ a.t = b.t ∧ a.l.length = b.l.length) ∧ ∀ i y, a.l[i]? = some y → Corr a b i y := by
  have wa : a.within 256 = true := by rw [Val.may_eq]; exact ha
  have wb : b.within 256 = true := by rw [Val.may_eq]; exact hb
  obtain ⟨sa, ka⟩ := within_k (n := 255) wa
  obtain ⟨sb, kb⟩ := within_k (n := 255) wb
  rw [cmpV_zero 256 a b wa wb]
  by_cases hk : a.k = b.k
  · by_cases h8 : a.k = 8
    · have h8b : b.k = 8 := by rw [← hk]; exact h8
      obtain ⟨-, la, na⟩ := shape_map sa h8
      obtain ⟨-, lb, nb⟩ := shape_map sb h8b
      rw [canon_s 255 a, canon_s 255 b, if_pos h8, if_pos h8b, Val.mk.injEq]
      constructor
      · rintro ⟨-, ht, hv, hks⟩
        have hlen : a.l.length = b.l.length := by
          have := congrArg List.length hks
          rw [List.length_map, List.length_map, ents_len la, ents_len lb] at this
          exact this
        refine ⟨⟨hk, ht, hlen⟩, fun i y hy => ?_⟩
        have hi : i < a.ks.length := by have := (List.getElem?_eq_some_iff.1 hy).1; omega
        have hs : a.ks[i]? = some a.ks[i] := List.getElem?_eq_getElem hi
        generalize a.ks[i] = s at hs
        have hm : (s, y) ∈ a.ents := (ents_perm a).symm.subset (zip_mem_iff.2 ⟨i, hs, hy⟩)
        obtain ⟨p, hp⟩ := List.getElem?_of_mem hm
        have e1 : (a.ents.map (·.1))[p]? = some s := by rw [List.getElem?_map, hp]; rfl
        have e2 : (a.ents.map fun e => canon 255 e.2)[p]? = some (canon 255 y) := by rw [List.getElem?_map, hp]; rfl
        rw [hks, List.getElem?_map] at e1
        rw [hv, List.getElem?_map] at e2
        cases hq : b.ents[p]? with
        | none => rw [hq] at e1; cases e1
        | some e =>
          rw [hq] at e1 e2
          simp only [Option.map_some, Option.some.injEq] at e1 e2
          obtain ⟨t, z⟩ := e
          subst e1
          obtain ⟨j, j1, j2⟩ := zip_mem_iff.1 ((ents_perm b).subset (List.mem_of_getElem? hq))
          refine ⟨j, z, by rw [if_pos h8]; exact ⟨t, hs, idxB_at j1 nb⟩, j2, ?_⟩
          rw [kid_zero (ka y (List.mem_of_getElem? hy)) (kb z (List.mem_of_getElem? j2))]
          exact e2.symm
      · rintro ⟨⟨-, ht, hlen⟩, hc⟩
        have hA : (a.ents.map fun e => (e.1, canon 255 e.2)) = b.ents.map fun e => (e.1, canon 255 e.2) := by
          refine sorted_eq (sub_perm ?_ ?_ ?_) ?_ ?_ ?_
          · refine nodup_of_fstD ?_
            rw [List.map_map]
            show (a.ents.map fun e => e.1).Nodup
            have hp := (ents_perm a).map (·.1)
            refine hp.nodup_iff.2 ?_
            rw [List.map_fst_zip (by omega)]
            exact na
          · intro x hx
            obtain ⟨⟨s, y⟩, hm, rfl⟩ := List.mem_map.1 hx
            obtain ⟨i, i1, i2⟩ := zip_mem_iff.1 ((ents_perm a).subset hm)
            obtain ⟨j, z, hj, hz, h0⟩ := hc i y i2
            rw [if_pos h8] at hj
            obtain ⟨t, t1, t2⟩ := hj
            rw [i1] at t1
            cases t1
            rw [kid_zero (ka y (List.mem_of_getElem? i2)) (kb z (List.mem_of_getElem? hz))] at h0
            refine List.mem_map.2 ⟨(s, z), (ents_perm b).symm.subset (zip_mem_iff.2 ⟨j, idxB_some t2, hz⟩), ?_⟩
            show (s, canon 255 z) = (s, canon 255 y)
            rw [h0]
          · rw [List.length_map, List.length_map, ents_len la, ents_len lb, hlen]; exact Nat.le_refl _
          · intro x hx y hy e
            obtain ⟨p, hp, rfl⟩ := List.mem_map.1 hx
            obtain ⟨q, hq, rfl⟩ := List.mem_map.1 hy
            have := ents_key na p hp q hq e
            rw [this]
          · exact List.pairwise_map.2 (ents_sorted a)
          · exact List.pairwise_map.2 (ents_sorted b)
        refine ⟨hk, ht, ?_, ?_⟩
        · have := congrArg (List.map (·.2)) hA
          rw [List.map_map, List.map_map] at this
          exact this
        · have := congrArg (List.map (·.1)) hA
          rw [List.map_map, List.map_map] at this
          exact this
    · have h8b : b.k ≠ 8 := by rw [← hk]; exact h8
      rw [canon_s 255 a, canon_s 255 b, if_neg h8, if_neg h8b, shape_nokeys sa h8, shape_nokeys sb h8b, Val.mk.injEq]
      constructor
      · rintro ⟨-, ht, hl, -⟩
        have hlen : a.l.length = b.l.length := by
          have := congrArg List.length hl
          rwa [List.length_map, List.length_map] at this
        refine ⟨⟨hk, ht, hlen⟩, fun i y hy => ?_⟩
        have hi := (List.getElem?_eq_some_iff.1 hy).1
        have hz : b.l[i]? = some b.l[i] := List.getElem?_eq_getElem (by omega)
        refine ⟨i, b.l[i], by rw [if_neg h8], hz, ?_⟩
        rw [kid_zero (ka y (List.mem_of_getElem? hy)) (kb _ (List.mem_of_getElem? hz))]
        have := congrArg (fun l => l[i]?) hl
        simp only [List.getElem?_map, hy, hz, Option.map_some, Option.some.injEq] at this
        exact this
      · rintro ⟨⟨-, ht, hlen⟩, hc⟩
        refine ⟨hk, ht, List.ext_getElem? fun i => ?_, rfl⟩
        rw [List.getElem?_map, List.getElem?_map]
        cases hy : a.l[i]? with
        | none =>
          have : b.l[i]? = none := List.getElem?_eq_none (by have := List.getElem?_eq_none_iff.1 hy; omega)
          rw [this]
        | some y =>
          obtain ⟨j, z, hj, hz, h0⟩ := hc i y hy
          rw [if_neg h8] at hj
          subst hj
          rw [kid_zero (ka y (List.mem_of_getElem? hy)) (kb z (List.mem_of_getElem? hz))] at h0
          rw [hz, Option.map_some, Option.map_some, h0]
  · constructor
    · intro h
      have := congrArg Val.k h
      rw [canon_k, canon_k] at this
      exact absurd this hk
    · rintro ⟨⟨h, -⟩, -⟩
      exact absurd h hk

set_option maxRecDepth 100000 in
set_option maxHeartbeats 3200000 in
theorem rsame1_c : ∀ (x y : AV) (w : World), Rd w x → Rd w y → x.w ≤ 1048576 → y.w ≤ 1048576 → x.v.may = true → y.v.may = true →
    Calls Tryz.prog 56 #[x.val, y.val] w (Ret (.bool (decide (cmpV 256 x.v y.v = 0))) w) := fun x => AV.ind (P := fun x => ∀ (y : AV) (w : World), Rd w x → Rd w y → x.w ≤ 1048576 → y.w ≤ 1048576 → x.v.may = true → y.v.may = true →
    Calls Tryz.prog 56 #[x.val, y.val] w (Ret (.bool (decide (cmpV 256 x.v y.v = 0))) w)) (fun x ih y w hx hy hwx hwy hmx hmy => by
  have hll := x.w_l
  have hll2 := y.w_l
  have hlk2 := y.w_ks
  have hiff := same_iff hmx hmy
  rw [AV.v_k, AV.v_k, AV.v_t, AV.v_t, AV.v_l, AV.v_l, List.length_map, List.length_map] at hiff
  have hB0 := rd_duo_0 (w := w) (o1 := .cells #[.int .u8 x.k, .string x.t, .slice x.la x.l.length x.lc, .slice x.ka x.ks.length x.kc] 26) (o2 := .cells #[.int .u8 y.k, .string y.t, .slice y.la y.l.length y.lc, .slice y.ka y.ks.length y.kc] 26)
  obtain ⟨W2, hW2⟩ : ∃ W2, (w.alloc (.cells #[.int .u8 x.k, .string x.t, .slice x.la x.l.length x.lc, .slice x.ka x.ks.length x.kc] 26)).alloc (.cells #[.int .u8 y.k, .string y.t, .slice y.la y.l.length y.lc, .slice y.ka y.ks.length y.kc] 26) = W2 := ⟨_, rfl⟩
  have HT := Lib.hid (show ∀ W, Below (w.heap.size + 1 + 1) W2 W → _ from fun W (h : Below (w.heap.size + 1 + 1) W2 W) => rd_duo_at (w := w) (W := W) (o1 := .cells #[.int .u8 x.k, .string x.t, .slice x.la x.l.length x.lc, .slice x.ka x.ks.length x.kc] 26) (o2 := .cells #[.int .u8 y.k, .string y.t, .slice y.la y.l.length y.lc, .slice y.ka y.ks.length y.kc] 26) (by rw [hW2]; exact h))
  rw [hW2] at hB0
  obtain ⟨k1, k2, k3, k4⟩ := HT.out W2 hB0
  obtain ⟨q0, q1, q2, q3, -, -, -, -⟩ := vbox4 k1
  obtain ⟨p0, p1, p2, p3, -, -, -, -⟩ := vbox4 k2
  have hs2 : W2.heap.size = w.heap.size + 1 + 1 := by rw [← hW2]; simp
  have l1 : w.heap.size < W2.heap.size := by omega
  have HB0 := Lib.hid hB0
  have HS2 := Lib.hid hs2
  have HW2 := Lib.hid hW2
  have HX := Lib.hid hx
  have HY := Lib.hid hy
  have HI := Lib.hid ih
  have HM := Lib.hid (And.intro hmx hmy)
  have K4 := Lib.hid k4
  clear hB0 hW2 hs2 hx hy ih hmx hmy k1 k2 k3 k4
  by_cases hk : x.k = y.k
  · by_cases ht : x.t = y.t
    · by_cases hl : x.l.length = y.l.length
      · have e0 : (x.k != y.k) = false := by simp [hk]
        have e1 : (x.t.toList == y.t.toList) = true := by rw [str_beq]; exact decide_eq_true ht
        have e1' : decide (x.t = y.t) = true := decide_eq_true ht
        have e2 : ((x.l.length : Int) != (y.l.length : Int)) = false := by rw [bne_eq_false_iff_eq]; omega
        have hsh : x.k = 8 → x.ks.length = x.l.length ∧ y.ks.length = y.l.length := fun h8 => by
          have h1 := (shape_map (within_sh (n := 256) (by rw [Val.may_eq]; exact HM.out.1)) (by rw [AV.v_k]; exact h8)).2.1
          have h2 := (shape_map (within_sh (n := 256) (by rw [Val.may_eq]; exact HM.out.2)) (by rw [AV.v_k, ← hk]; exact h8)).2.1
          rw [AV.v_ks, AV.v_l, List.length_map] at h1 h2
          exact ⟨h1, h2⟩
        have HC : ∀ m e, x.l[m]? = some e → ¬ Corr x.v y.v m e.v → decide (cmpV 256 x.v y.v = 0) = false := fun m e he hn => decide_eq_false fun h => hn ((hiff.1 h).2 m e.v (by rw [List.getElem?_map, he]; rfl))
        have HT1 : (∀ m e, x.l[m]? = some e → Corr x.v y.v m e.v) → decide (cmpV 256 x.v y.v = 0) = true := fun h => decide_eq_true (hiff.2 ⟨⟨hk, ht, hl⟩, fun i v hv => by
          rw [List.getElem?_map] at hv
          cases he : x.l[i]? with
          | none => rw [he] at hv; cases hv
          | some e => rw [he] at hv; cases hv; exact h i e he⟩)
        have HSH := Lib.hid hsh
        have HHC := Lib.hid HC
        have HHT := Lib.hid HT1
        have HK := Lib.hid hk
        have HLL := Lib.hid hl
        clear hiff hsh HC HT1 hk ht hl
        go_enter Tryz.func56, Tryz.ntmps56
        go_wp2_with fail
        rw [HW2.out]
        go_loopw [5] (fun s5 wr => ∃ m : Nat, m ≤ x.l.length ∧ s5 = .int .i64 m ∧ (∀ q e, q < m → x.l[q]? = some e → Corr x.v y.v q e.v) ∧ Below (w.heap.size + 1 + 1) W2 wr) (fun s5 _ => x.l.length - (intOf s5).toNat)
        case atStart => exact ⟨0, Nat.zero_le _, rfl, fun q e h => absurd h (Nat.not_lt_zero _), HB0.out⟩
        case round =>
          obtain ⟨m, hm, rfl, hall, hbr⟩ := hrel
          clear q0 q1 q2 q3 p0 p1 p2 p3 l1 K4
          obtain ⟨k1, k2, k3, k5⟩ := HT.out wr hbr
          obtain ⟨q0, q1, q2, q3, -, -, -, -⟩ := vbox4 k1
          have l1 : w.heap.size < wr.heap.size := by omega
          have HBR := Lib.hid hbr
          have HALL := Lib.hid hall
          have K1 := Lib.hid k1
          have K2 := Lib.hid k2
          have K5 := Lib.hid k5
          clear hbr hall k1 k2 k5
          by_cases hlt : m < x.l.length
          · have he : x.l[m]? = some x.l[m] := List.getElem?_eq_getElem hlt
            have hem : x.l[m] ∈ x.l := List.getElem_mem hlt
            generalize x.l[m] = e at he hem
            obtain ⟨be, oe, hla, -, -, ge, e0', e1', e2', e3'⟩ := vals_at (HX.out.up K5.out).sl he
            have hew := AV.w_kid hem
            have hemay : e.v.may = true := (may_kid HM.out.1 (by rw [AV.v_l]; exact List.mem_map_of_mem hem)).2
            have hlt' : (m : Int) < (x.l.length : Int) := by omega
            have hm0 : (0 : Int) ≤ (m : Int) := by omega
            have hwm : IntKind.i64.wrap ((m : Int) + 1) = ((m + 1 : Nat) : Int) := by rw [IntWalk.i64_in _ (by omega)]; omega
            have hnext : Corr x.v y.v m e.v → ∀ q e', q < m + 1 → x.l[q]? = some e' → Corr x.v y.v q e'.v := fun hc q e' hq he' => by
              rcases Nat.lt_or_ge q m with h | h
              · exact HALL.out q e' h he'
              · obtain rfl : q = m := by omega
                rw [he] at he'; cases he'; exact hc
            have HNX := Lib.hid hnext
            have HHCm := Lib.hid (HHC.out m e he)
            by_cases h8 : x.k = 8
            · have e8 : (x.k == 8) = true := by simp [h8]
              have HSM := Lib.hid (HSH.out h8)
              have hmk : m < x.ks.length := by have := HSM.out.1; omega
              have hks : x.ks[m]? = some x.ks[m] := List.getElem?_eq_getElem hmk
              generalize x.ks[m] = s at hks
              obtain ⟨bk, ok, hka, -, -, gk, s0'⟩ := key_at (HX.out.up K5.out).keys hks
              have hm2 : (m : Int) < (x.ks.length : Int) := by have := HSM.out.1; omega
              have HFI := fun W (h : Below wr.heap.size wr W) => Lib.hid (find14_c y s W (HY.out.up (below_via K5.out h)) (by omega))
              have LD := Lib.hid (show ∀ W, Below wr.heap.size wr W → _ from fun W (h : Below wr.heap.size wr W) => And.intro (vbox4 (rd_blk_up h K1.out)) (And.intro (vbox4 (rd_blk_up h K2.out)) ((h.cell (p := ⟨_, _, none⟩) gk).trans s0')))
              rw [hka] at LD
              cases hi : idxB y.ks s with
              | none =>
                have hii : idxI y.ks s = -1 := by rw [idxI, hi]
                rw [hii] at HFI
                have HF := Lib.hid (HHCm.out (fun h => by
                  obtain ⟨j, z, hj, -, -⟩ := h
                  rw [AV.v_k, if_pos h8, AV.v_ks, AV.v_ks] at hj
                  obtain ⟨t, t1, t2⟩ := hj
                  rw [hks] at t1; cases t1
                  rw [hi] at t2; cases t2))
                have hm1 : decide ((-1 : Int) < 0) = true := by decide
                clear he hem hks hka hi hii hnext e0' e1' e2' e3' s0' hla h8
                go_wp2_with fail
                refine wp_region_bl (by kernel_rfl) (by kernel_rfl) ?_
                repeat (first | go_big_quiet_skip | (go_big_quiet_want; go_big_quiet_op; first | go_big_quiet_on | (refine ⟨_, fun _ _ => (by with_reducible rfl), ?_⟩; go_big_quiet_on) | (apply Exists.intro; refine ⟨fun w' hC => (by simp only [LD.out w' hC, Result.andThen]; exact ⟨trivial, rfl⟩), ?_⟩; go_big_quiet_on) | (apply Exists.intro; refine ⟨fun w' hC => (by (with_reducible refine (HFI w' hC).out.mono ?_); exact fun e w2 ⟨he, hb⟩ => ⟨he, hC.trans (hb.mono hC.size)⟩), ?_⟩; go_big_quiet_on)))
                refine wpQuiet_nil ?_; intro wz hbz
                go_wp2_with fail
                have LD := Lib.hid (show ∀ W, Below wz.heap.size wz W → _ from fun W (h : Below wz.heap.size wz W) => LD.out W (below_via hbz h))
                have hbz0 := Lib.hid hbz
                have l2 : w.heap.size < wz.heap.size := by have := hbz.size; omega
                refine wp_region_bl (by kernel_rfl) (by kernel_rfl) ?_
                repeat (first | go_big_quiet_skip | (go_big_quiet_want; go_big_quiet_op; first | go_big_quiet_on | (refine ⟨_, fun _ _ => (by with_reducible rfl), ?_⟩; go_big_quiet_on)))
                refine wpQuiet_nil ?_; intro wz hbz
                go_wp2_with fail
                go_ret
                exact ⟨by rw [HF.out]; rfl, below_via K5.out (below_via hbz0.out hbz)⟩
              | some j =>
                have hii : idxI y.ks s = (j : Int) := by rw [idxI, hi]
                rw [hii] at HFI
                have hjk := idxB_some hi
                have hlt2 : j < y.l.length := by have := (List.getElem?_eq_some_iff.1 hjk).1; have := HSM.out.2; omega
                have hf : y.l[j]? = some y.l[j] := List.getElem?_eq_getElem hlt2
                have hfm : y.l[j] ∈ y.l := List.getElem_mem hlt2
                generalize y.l[j] = f at hf hfm
                have hcorr : Corr x.v y.v m e.v ↔ cmpV 256 e.v f.v = 0 := by
                  unfold Corr
                  rw [AV.v_k]
                  constructor
                  · rintro ⟨q, z, hj, hz, h0⟩
                    rw [if_pos h8, AV.v_ks, AV.v_ks] at hj
                    obtain ⟨t, t1, t2⟩ := hj
                    rw [hks] at t1; cases t1
                    rw [hi] at t2; cases t2
                    rw [AV.v_l, List.getElem?_map, hf] at hz
                    cases hz
                    exact h0
                  · intro h0
                    exact ⟨j, f.v, by rw [if_pos h8, AV.v_ks, AV.v_ks]; exact ⟨s, hks, hi⟩, by rw [AV.v_l, List.getElem?_map, hf]; rfl, h0⟩
                obtain ⟨bf, of, hlb, -, -, gf, f0', f1', f2', f3'⟩ := vals_at (HY.out.up K5.out).sl hf
                have hfw := AV.w_kid hfm
                have hfmay : f.v.may = true := (may_kid HM.out.2 (by rw [AV.v_l]; exact List.mem_map_of_mem hfm)).2
                have HH0 := fun W (h : Below wr.heap.size wr W) => Lib.hid (HI.out e hem f W (Rd.up (HX.out.kid hem) (below_via K5.out h)) (Rd.up (HY.out.kid hfm) (below_via K5.out h)) (by omega) (by omega) hemay hfmay)
                have LDB := Lib.hid (show ∀ W, Below wr.heap.size wr W → _ from fun W (h : Below wr.heap.size wr W) => And.intro (vbox4 (rd_blk_up h K1.out)) (And.intro (vbox4 (rd_blk_up h K2.out)) (And.intro ((h.cell (p := ⟨_, _, none⟩) ge).trans e0') (And.intro ((h.cell (p := ⟨_, _, none⟩) ge).trans e1') (And.intro ((h.cell (p := ⟨_, _, none⟩) ge).trans e2') (And.intro ((h.cell (p := ⟨_, _, none⟩) ge).trans e3') (And.intro ((h.cell (p := ⟨_, _, none⟩) gf).trans f0') (And.intro ((h.cell (p := ⟨_, _, none⟩) gf).trans f1') (And.intro ((h.cell (p := ⟨_, _, none⟩) gf).trans f2') ((h.cell (p := ⟨_, _, none⟩) gf).trans f3'))))))))))
                rw [hla, hlb] at LDB
                have hlt2' : (j : Int) < (y.l.length : Int) := by omega
                have hj0 : (0 : Int) ≤ (j : Int) := by omega
                have hm1 : decide ((j : Int) < 0) = false := by rw [decide_eq_false_iff_not]; omega
                have HCR := Lib.hid hcorr
                clear he hem hks hka hi hii hnext e0' e1' e2' e3' s0' hla hlb f0' f1' f2' f3' hf hfm hcorr hjk h8
                go_wp2_with fail
                refine wp_region_bl (by kernel_rfl) (by kernel_rfl) ?_
                repeat (first | go_big_quiet_skip | (go_big_quiet_want; go_big_quiet_op; first | go_big_quiet_on | (refine ⟨_, fun _ _ => (by with_reducible rfl), ?_⟩; go_big_quiet_on) | (apply Exists.intro; refine ⟨fun w' hC => (by simp only [LD.out w' hC, Result.andThen]; exact ⟨trivial, rfl⟩), ?_⟩; go_big_quiet_on) | (apply Exists.intro; refine ⟨fun w' hC => (by (with_reducible refine (HFI w' hC).out.mono ?_); exact fun e w2 ⟨he, hb⟩ => ⟨he, hC.trans (hb.mono hC.size)⟩), ?_⟩; go_big_quiet_on)))
                refine wpQuiet_nil ?_; intro wz hbz
                go_wp2_with fail
                have HBZ := Lib.hid hbz
                have LD := Lib.hid (show ∀ W, Below wz.heap.size wz W → _ from fun W (h : Below wz.heap.size wz W) => LDB.out W (below_via HBZ.out h))
                have HH := fun W (h : Below wz.heap.size wz W) => HH0 W (below_via HBZ.out h)
                clear hbz LDB HH0 HFI
                cases hd : decide (cmpV 256 e.v f.v = 0) with
                | false =>
                  rw [hd] at HH
                  have HF := Lib.hid (HHCm.out (fun h => of_decide_eq_false hd (HCR.out.1 h)))
                  clear hd
                  refine wp_region_bl (by kernel_rfl) (by kernel_rfl) ?_
                  repeat (first | go_big_quiet_skip | (go_big_quiet_want; go_big_quiet_op; first | go_big_quiet_on | (refine ⟨_, fun _ _ => (by with_reducible rfl), ?_⟩; go_big_quiet_on) | (apply Exists.intro; refine ⟨fun w' hC => (by simp only [LD.out w' hC, Result.andThen]; exact ⟨trivial, rfl⟩), ?_⟩; go_big_quiet_on) | (apply Exists.intro; refine ⟨fun w' hC => (by (with_reducible refine (HH w' hC).out.mono ?_); exact fun e w2 ⟨he, hb⟩ => ⟨he, hC.trans (hb.mono hC.size)⟩), ?_⟩; go_big_quiet_on)))
                  refine wpQuiet_nil ?_; intro wz hbz
                  go_wp2_with fail
                  go_ret
                  exact ⟨by rw [HF.out]; rfl, below_via K5.out (below_via HBZ.out hbz)⟩
                | true =>
                  rw [hd] at HH
                  have HN := Lib.hid (HNX.out (HCR.out.2 (of_decide_eq_true hd)))
                  clear hd
                  refine wp_region_bl (by kernel_rfl) (by kernel_rfl) ?_
                  repeat (first | go_big_quiet_skip | (go_big_quiet_want; go_big_quiet_op; first | go_big_quiet_on | (refine ⟨_, fun _ _ => (by with_reducible rfl), ?_⟩; go_big_quiet_on) | (apply Exists.intro; refine ⟨fun w' hC => (by simp only [LD.out w' hC, Result.andThen]; exact ⟨trivial, rfl⟩), ?_⟩; go_big_quiet_on) | (apply Exists.intro; refine ⟨fun w' hC => (by (with_reducible refine (HH w' hC).out.mono ?_); exact fun e w2 ⟨he, hb⟩ => ⟨he, hC.trans (hb.mono hC.size)⟩), ?_⟩; go_big_quiet_on)))
                  refine wpQuiet_nil ?_; intro wz hbz
                  go_wp2_with fail
                  exact ⟨⟨m + 1, by omega, by go_num, HN.out, rd_tri_step HBR.out (below_via HBZ.out hbz) (by rw [HS2.out]; exact Nat.le_refl _)⟩, by simp [intOf]; omega⟩
            · have e8 : (x.k == 8) = false := by simp [h8]
              have hlt2 : m < y.l.length := by have := HLL.out; omega
              have hf : y.l[m]? = some y.l[m] := List.getElem?_eq_getElem hlt2
              have hfm : y.l[m] ∈ y.l := List.getElem_mem hlt2
              generalize y.l[m] = f at hf hfm
              have hcorr : Corr x.v y.v m e.v ↔ cmpV 256 e.v f.v = 0 := by
                unfold Corr
                rw [AV.v_k]
                constructor
                · rintro ⟨j, z, hj, hz, h0⟩
                  rw [if_neg h8] at hj
                  subst hj
                  rw [AV.v_l, List.getElem?_map, hf] at hz
                  cases hz
                  exact h0
                · intro h0
                  exact ⟨m, f.v, by rw [if_neg h8], by rw [AV.v_l, List.getElem?_map, hf]; rfl, h0⟩
              have BB := fun W (h : Below wr.heap.size wr W) => h
              obtain ⟨bf, of, hlb, -, -, gf, f0', f1', f2', f3'⟩ := vals_at (HY.out.up K5.out).sl hf
              have hfw := AV.w_kid hfm
              have hfmay : f.v.may = true := (may_kid HM.out.2 (by rw [AV.v_l]; exact List.mem_map_of_mem hfm)).2
              have HH := fun W (h : Below wr.heap.size wr W) => Lib.hid (HI.out e hem f W (Rd.up (HX.out.kid hem) (below_via K5.out h)) (Rd.up (HY.out.kid hfm) (below_via K5.out h)) (by omega) (by omega) hemay hfmay)
              have LD := Lib.hid (show ∀ W, Below wr.heap.size wr W → _ from fun W (h : Below wr.heap.size wr W) => And.intro (vbox4 (rd_blk_up h K1.out)) (And.intro (vbox4 (rd_blk_up h K2.out)) (And.intro ((h.cell (p := ⟨_, _, none⟩) ge).trans e0') (And.intro ((h.cell (p := ⟨_, _, none⟩) ge).trans e1') (And.intro ((h.cell (p := ⟨_, _, none⟩) ge).trans e2') (And.intro ((h.cell (p := ⟨_, _, none⟩) ge).trans e3') (And.intro ((h.cell (p := ⟨_, _, none⟩) gf).trans f0') (And.intro ((h.cell (p := ⟨_, _, none⟩) gf).trans f1') (And.intro ((h.cell (p := ⟨_, _, none⟩) gf).trans f2') ((h.cell (p := ⟨_, _, none⟩) gf).trans f3'))))))))))
              have hlt2' : (m : Int) < (y.l.length : Int) := by omega
              have hm1 : decide ((m : Int) < 0) = false := by rw [decide_eq_false_iff_not]; omega
              rw [hla, hlb] at LD
              have HCR := Lib.hid hcorr
              clear he hem hf hfm hcorr hla hlb hnext e0' e1' e2' e3' f0' f1' f2' f3'
              cases hd : decide (cmpV 256 e.v f.v = 0) with
              | false =>
                rw [hd] at HH
                have HF := Lib.hid (HHCm.out (fun h => of_decide_eq_false hd (HCR.out.1 h)))
                clear hd
                go_wp2_with fail
                refine wp_region_bl (by kernel_rfl) (by kernel_rfl) ?_
                repeat (first | go_big_quiet_skip | (go_big_quiet_want; go_big_quiet_op; first | go_big_quiet_on | (refine ⟨_, fun _ _ => (by with_reducible rfl), ?_⟩; go_big_quiet_on) | (apply Exists.intro; refine ⟨fun w' hC => (by simp only [LD.out w' hC, Result.andThen]; exact ⟨trivial, rfl⟩), ?_⟩; go_big_quiet_on) | (apply Exists.intro; refine ⟨fun w' hC => (by (with_reducible refine (HH w' hC).out.mono ?_); exact fun e w2 ⟨he, hb⟩ => ⟨he, hC.trans (hb.mono hC.size)⟩), ?_⟩; go_big_quiet_on)))
                refine wpQuiet_nil ?_; intro wz hbz
                go_wp2_with fail
                go_ret
                exact ⟨by rw [HF.out]; rfl, below_via K5.out hbz⟩
              | true =>
                rw [hd] at HH
                have HN := Lib.hid (HNX.out (HCR.out.2 (of_decide_eq_true hd)))
                clear hd
                go_wp2_with fail
                refine wp_region_bl (by kernel_rfl) (by kernel_rfl) ?_
                repeat (first | go_big_quiet_skip | (go_big_quiet_want; go_big_quiet_op; first | go_big_quiet_on | (refine ⟨_, fun _ _ => (by with_reducible rfl), ?_⟩; go_big_quiet_on) | (apply Exists.intro; refine ⟨fun w' hC => (by simp only [LD.out w' hC, Result.andThen]; exact ⟨trivial, rfl⟩), ?_⟩; go_big_quiet_on) | (apply Exists.intro; refine ⟨fun w' hC => (by (with_reducible refine (HH w' hC).out.mono ?_); exact fun e w2 ⟨he, hb⟩ => ⟨he, hC.trans (hb.mono hC.size)⟩), ?_⟩; go_big_quiet_on)))
                refine wpQuiet_nil ?_; intro wz hbz
                go_wp2_with fail
                exact ⟨⟨m + 1, by omega, by go_num, HN.out, rd_tri_step HBR.out hbz (by rw [HS2.out]; exact Nat.le_refl _)⟩, by simp [intOf]; omega⟩
          · obtain rfl : m = x.l.length := by omega
            have hge : ¬ (x.l.length : Int) < (x.l.length : Int) := by omega
            have HF := Lib.hid (HHT.out fun q e he => HALL.out q e (List.getElem?_eq_some_iff.1 he).1 he)
            go_wp2_with fail
            go_ret
            exact ⟨by rw [HF.out]; rfl, K5.out⟩
      · have HF := Lib.hid (show decide (cmpV 256 x.v y.v = 0) = false from decide_eq_false fun h => hl (hiff.1 h).1.2.2)
        have e2 : ((x.l.length : Int) != (y.l.length : Int)) = true := by simp; omega
        have e0 : (x.k != y.k) = false := by simp [hk]
        have e1 : (x.t.toList == y.t.toList) = true := by rw [str_beq]; exact decide_eq_true ht
        have e1' : decide (x.t = y.t) = true := decide_eq_true ht
        clear hiff hk ht hl
        go_enter Tryz.func56, Tryz.ntmps56
        go_wp2_with fail
        go_ret
        exact ⟨by rw [HF.out]; rfl, (by repeat (first | exact Below.refl _ _ | refine Below.drew ?_ | refine below_drewN ?_ _ | refine Below.setCell ?_ (by first | omega | (simp; done) | (simp; omega)) _ | refine Below.alloc ?_ (by first | omega | (simp; done) | (simp; omega)) _))⟩
    · have HF := Lib.hid (show decide (cmpV 256 x.v y.v = 0) = false from decide_eq_false fun h => ht (hiff.1 h).1.2.1)
      have e1 : (x.t.toList == y.t.toList) = false := by rw [str_beq]; exact decide_eq_false ht
      have e1' : decide (x.t = y.t) = false := decide_eq_false ht
      have e0 : (x.k != y.k) = false := by simp [hk]
      clear hiff hk ht
      go_enter Tryz.func56, Tryz.ntmps56
      go_wp2_with fail
      go_ret
      exact ⟨by rw [HF.out]; rfl, (by repeat (first | exact Below.refl _ _ | refine Below.drew ?_ | refine below_drewN ?_ _ | refine Below.setCell ?_ (by first | omega | (simp; done) | (simp; omega)) _ | refine Below.alloc ?_ (by first | omega | (simp; done) | (simp; omega)) _))⟩
  · have HF := Lib.hid (show decide (cmpV 256 x.v y.v = 0) = false from decide_eq_false fun h => hk (hiff.1 h).1.1)
    have e0 : (x.k != y.k) = true := by simp [hk]
    clear hiff hk
    go_enter Tryz.func56, Tryz.ntmps56
    go_wp2_with fail
    go_ret
    exact ⟨by rw [HF.out]; rfl, (by repeat (first | exact Below.refl _ _ | refine Below.drew ?_ | refine below_drewN ?_ _ | refine Below.setCell ?_ (by first | omega | (simp; done) | (simp; omega)) _ | refine Below.alloc ?_ (by first | omega | (simp; done) | (simp; omega)) _))⟩) x

set_option maxRecDepth 100000 in
set_option maxHeartbeats 3200000 in
theorem rsame_c (x y : AV) (w : World) (hx : Rd w x) (hy : Rd w y) (hwx : x.w ≤ 1048576) (hwy : y.w ≤ 1048576) : Calls Tryz.prog 33 #[x.val, y.val] w (Ret (.bool (sameV x.v y.v)) w) := by
  have HMX := fun W (h : Below w.heap.size w W) => Lib.hid (rmay_c x W (hx.up h) hwx)
  have HMY := fun W (h : Below w.heap.size w W) => Lib.hid (rmay_c y W (hy.up h) hwy)
  have hB0 := rd_duo_0 (w := w) (o1 := .cells #[.int .u8 x.k, .string x.t, .slice x.la x.l.length x.lc, .slice x.ka x.ks.length x.kc] 26) (o2 := .cells #[.int .u8 y.k, .string y.t, .slice y.la y.l.length y.lc, .slice y.ka y.ks.length y.kc] 26)
  have hb0 := rd_duo_b (w := w) (o1 := .cells #[.int .u8 x.k, .string x.t, .slice x.la x.l.length x.lc, .slice x.ka x.ks.length x.kc] 26) (o2 := .cells #[.int .u8 y.k, .string y.t, .slice y.la y.l.length y.lc, .slice y.ka y.ks.length y.kc] 26)
  cases mx : x.v.may with
  | false =>
    have HF := Lib.hid (show sameV x.v y.v = false by simp [sameV, mx])
    rw [mx] at HMX
    clear mx
    go_enter Tryz.func33, Tryz.ntmps33
    go_wp2_with (go_at_call 13; refine (HMX _ (by assumption)).out.mono ?_; rintro e w1 ⟨rfl, hb1⟩)
    go_ret
    exact ⟨by rw [HF.out]; rfl, below_via hb0 hb1⟩
  | true =>
    cases my : y.v.may with
    | false =>
      have HF := Lib.hid (show sameV x.v y.v = false by simp [sameV, my])
      rw [mx] at HMX
      rw [my] at HMY
      clear mx my
      go_enter Tryz.func33, Tryz.ntmps33
      go_wp2_with (go_at_call 13; first
        | ((with_reducible refine (HMX _ (by assumption)).out.mono ?_); rintro e w1 ⟨rfl, hb1⟩
           have hB1 := rd_tri_step (N := w.heap.size + 1 + 1) hB0 hb1 (by simp)
           obtain ⟨k1, k2, k3, k4⟩ := rd_duo_at hB1
           obtain ⟨q0, q1, q2, q3, -, -, -, -⟩ := vbox4 k1
           obtain ⟨p0, p1, p2, p3, -, -, -, -⟩ := vbox4 k2)
        | ((with_reducible refine (HMY _ (by assumption)).out.mono ?_); rintro e w2 ⟨rfl, hb2⟩))
      go_ret
      exact ⟨by rw [HF.out]; rfl, below_via k4 hb2⟩
    | true =>
      have HF := Lib.hid (show sameV x.v y.v = decide (cmpV 256 x.v y.v = 0) by simp [sameV, mx, my])
      have HS := fun W (h : Below w.heap.size w W) => Lib.hid (rsame1_c x y W (hx.up h) (hy.up h) hwx hwy mx my)
      rw [mx] at HMX
      rw [my] at HMY
      clear mx my
      go_enter Tryz.func33, Tryz.ntmps33
      go_wp2_with (first
       | (go_at_call 13; first
          | ((with_reducible refine (HMX _ (by assumption)).out.mono ?_); rintro e w1 ⟨rfl, hb1⟩
             have hB1 := rd_tri_step (N := w.heap.size + 1 + 1) hB0 hb1 (by simp)
             obtain ⟨k1, k2, k3, k4⟩ := rd_duo_at hB1
             obtain ⟨q0, q1, q2, q3, -, -, -, -⟩ := vbox4 k1
             obtain ⟨p0, p1, p2, p3, -, -, -, -⟩ := vbox4 k2)
          | ((with_reducible refine (HMY _ (by assumption)).out.mono ?_); rintro e w2 ⟨rfl, hb2⟩
             have hB2 := rd_tri_step (N := w.heap.size + 1 + 1) hB1 hb2 (by simp)
             clear k1 k2 k3 q0 q1 q2 q3 p0 p1 p2 p3
             obtain ⟨k1, k2, k3, k5⟩ := rd_duo_at hB2
             obtain ⟨q0, q1, q2, q3, -, -, -, -⟩ := vbox4 k1
             obtain ⟨p0, p1, p2, p3, -, -, -, -⟩ := vbox4 k2))
       | (go_at_call 56; refine (HS _ k5).out.mono ?_; rintro e w3 ⟨rfl, hb3⟩))
      go_ret
      exact ⟨by rw [HF.out]; rfl, below_via k5 hb3⟩
end Go.Proofs.YtmhkacafilpliaaGreat

namespace Go.Proofs.YtmhkacafilpliaaGreat
open Go.RowKit Go.Sort Go.Shelf Go.BigFrame

theorem farI_le (a b : Val) : farI a b ≤ (szV a : Int) + (szV b : Int) := by
  rw [farI]
  split
  · omega
  · rename_i hc
    have h1 : szV a ≠ 0 := fun e => hc (.inl e)
    have h2 : szV b ≠ 0 := fun e => hc (.inr (.inl e))
    obtain ⟨m1, e1⟩ := szV_may h1
    obtain ⟨m2, e2⟩ := szV_may h2
    have := farV_lt m1 m2
    omega
set_option maxRecDepth 100000 in
set_option maxHeartbeats 6400000 in
theorem rare_c (w : World) (x y : AV) (hx : Rd w x) (hy : Rd w y) (hwx : x.w ≤ 1048576) (hwy : y.w ≤ 1048576) : Calls Tryz.prog 14 #[x.val, y.val] w (Ret (.bool (nearI x.v y.v != -1)) w) := by
  have HRX := Lib.hid (show ∀ W, Below w.heap.size w W → Rd W x from fun W h => hx.up h)
  have HRY := Lib.hid (show ∀ W, Below w.heap.size w W → Rd W y from fun W h => hy.up h)
  obtain ⟨r, hr⟩ : ∃ r, r = (nearI x.v y.v != -1) := ⟨_, rfl⟩
  have hra := hr
  rw [are_ref] at hra
  obtain ⟨s, hs⟩ : ∃ s, s = sameV x.v y.v := ⟨_, rfl⟩
  obtain ⟨F, hF⟩ : ∃ F, F = farI x.v y.v := ⟨_, rfl⟩
  obtain ⟨N, hN⟩ : ∃ N, N = szV x.v := ⟨_, rfl⟩
  obtain ⟨M, hM⟩ : ∃ M, M = szV y.v := ⟨_, rfl⟩
  have bN : N ≤ 1048576 := by have := szV_le x.v; have e : x.v.w = x.w := rfl; omega
  have bM : M ≤ 1048576 := by have := szV_le y.v; have e : y.v.w = y.w := rfl; omega
  have bF1 : -1 ≤ F := by rw [hF]; exact farI_ge _ _
  have bF2 : F ≤ (N : Int) + (M : Int) := by rw [hF, hN, hM]; exact farI_le _ _
  have HSM := fun W (h : Below w.heap.size w W) => Lib.hid (show Calls Tryz.prog 33 #[x.val, y.val] W (Ret (.bool s) W) by rw [hs]; exact rsame_c x y W (HRX.out W h) (HRY.out W h) hwx hwy)
  have HFA := fun W (h : Below w.heap.size w W) => Lib.hid (show Calls Tryz.prog 34 #[x.val, y.val] W (Ret (.int .i64 F) W) by rw [hF]; exact rfar20_c W x y (HRX.out W h) (HRY.out W h) hwx hwy)
  have HSX := fun W (h : Below w.heap.size w W) => Lib.hid (show Calls Tryz.prog 27 #[x.val] W (Ret (.int .i64 (N : Int)) W) by rw [hN]; exact rsizeV_c x W (HRX.out W h) hwx)
  have HSY := fun W (h : Below w.heap.size w W) => Lib.hid (show Calls Tryz.prog 27 #[y.val] W (Ret (.int .i64 (M : Int)) W) by rw [hM]; exact rsizeV_c y W (HRY.out W h) hwy)
  have e1 : kindB x.v y.v = (decide (x.k = y.k) && (decide (x.k = 7) || decide (x.k = 8))) := by rw [kindB, AV.v_k, AV.v_k]
  rw [← hs, ← hF, ← hN, ← hM, e1] at hra
  rw [← hr]
  clear hx hy hr hs hF hN hM e1
  go_enter Tryz.func14, Tryz.ntmps14
  go_upto_region 1 with fail
  go_name_world W1 hW1
  have HX1 := Lib.hid (show W1.heap[w.heap.size]? = some (.cells #[.int .u8 x.k, .string x.t, .slice x.la x.l.length x.lc, .slice x.ka x.ks.length x.kc] 26 (0, 0)) by rw [← hW1]; exact blk_al (heap_alloc_new w _))
  have HY1 := Lib.hid (show W1.heap[w.heap.size + 1]? = some (.cells #[.int .u8 y.k, .string y.t, .slice y.la y.l.length y.lc, .slice y.ka y.ks.length y.kc] 26 (0, 0)) by rw [← hW1]; exact blk_new2 w _ _)
  have HB1 := Lib.hid (show Below w.heap.size w W1 by rw [← hW1]; exact below_al (below_al (Below.refl _ _)))
  obtain ⟨p0, p1, p2, p3⟩ := vb4 HX1.out
  obtain ⟨q0, q1, q2, q3⟩ := vb4 HY1.out
  clear hW1
  have HRA := Lib.hid hra
  clear hra
  cases s with
  | true =>
    have hr : r = true := by rw [HRA.out]; rfl
    subst hr
    go_wp2_with (go_at_call 33; (with_reducible refine (HSM _ HB1.out).out.mono ?_); rintro e w2 ⟨rfl, h2⟩)
    go_ret
    exact ⟨rfl, below_via HB1.out h2⟩
  | false =>
  go_upto_region 3 with (go_at_call 33; (with_reducible refine (HSM _ HB1.out).out.mono ?_); rintro e w2 ⟨rfl, h2⟩)
  have HB2 := Lib.hid (below_via HB1.out h2)
  have HX2 := Lib.hid (blk_via h2 HX1.out)
  have HY2 := Lib.hid (blk_via h2 HY1.out)
  clear p0 p1 p2 p3 q0 q1 q2 q3 h2 HX1 HY1 HB1 HSM
  obtain ⟨p0, p1, p2, p3⟩ := vb4 HX2.out
  obtain ⟨q0, q1, q2, q3⟩ := vb4 HY2.out
  obtain ⟨kb, hkb⟩ : ∃ kb, kb = (decide (x.k = y.k) && (decide (x.k = 7) || decide (x.k = 8))) := ⟨_, rfl⟩
  rw [← hkb] at HRA
  go_cut [23] (fun s23 wx => s23 = .bool (!kb) ∧ wx = w2)
  case first =>
    by_cases t1 : x.k = y.k
    · have t1' : (x.k != y.k) = false := by simp [t1]
      by_cases t7 : x.k = 7
      · have t7' : (x.k != 7) = false := by simp [t7]
        rw [decide_eq_true t1, decide_eq_true t7] at hkb
        clear t1 t7
        go_wp2_with fail
        go_meet
        exact ⟨by rw [hkb]; rfl, rfl⟩
      · have t7' : (x.k != 7) = true := by simp [t7]
        by_cases t8 : x.k = 8
        · have t8' : (x.k != 8) = false := by simp [t8]
          rw [decide_eq_true t1, decide_eq_false t7, decide_eq_true t8] at hkb
          clear t1 t7 t8
          go_wp2_with fail
          go_meet
          exact ⟨by rw [hkb]; rfl, rfl⟩
        · have t8' : (x.k != 8) = true := by simp [t8]
          rw [decide_eq_true t1, decide_eq_false t7, decide_eq_false t8] at hkb
          clear t1 t7 t8
          go_wp2_with fail
          go_meet
          exact ⟨by rw [hkb]; rfl, rfl⟩
    · have t1' : (x.k != y.k) = true := by simp [t1]
      rw [decide_eq_false t1] at hkb
      clear t1
      go_wp2_with fail
      go_meet
      exact ⟨by rw [hkb]; rfl, rfl⟩
  case rest =>
  obtain ⟨rfl, e2⟩ := hcut
  obtain rfl := e2.symm
  clear hkb
  cases kb with
  | false =>
    have hr : r = false := by rw [HRA.out]; rfl
    subst hr
    go_wp2_with fail
    go_ret
    exact ⟨rfl, HB2.out⟩
  | true =>
  go_upto_region 6 with (go_at_call 34; (with_reducible refine (HFA _ HB2.out).out.mono ?_); rintro e w3 ⟨rfl, h3⟩)
  have HB3 := Lib.hid (below_via HB2.out h3)
  have HX3 := Lib.hid (blk_via h3 HX2.out)
  have HY3 := Lib.hid (blk_via h3 HY2.out)
  clear p0 p1 p2 p3 q0 q1 q2 q3 h3
  obtain ⟨p0, p1, p2, p3⟩ := vb4 HX3.out
  obtain ⟨q0, q1, q2, q3⟩ := vb4 HY3.out
  have LD := Lib.hid (fun W (h : Below w3.heap.size w3 W) => And.intro (blkv h p0) (And.intro (blkv h p1) (And.intro (blkv h p2) (And.intro (blkv h p3) (And.intro (blkv h q0) (And.intro (blkv h q1) (And.intro (blkv h q2) (blkv h q3))))))))
  have HH1 := fun W (h : Below w3.heap.size w3 W) => Lib.hid (HSX W (below_via HB3.out h)).out
  have HH2 := fun W (h : Below w3.heap.size w3 W) => Lib.hid (HSY W (below_via HB3.out h)).out
  have hw : IntKind.i64.wrap (2 * F) = 2 * F := IntWalk.i64_in _ (by omega)
  have hra := HRA.out
  simp only [Bool.false_or, Bool.true_and] at hra
  obtain ⟨m, hm⟩ : ∃ m : Int, m = max (N : Int) (M : Int) := ⟨_, rfl⟩
  have hmm : max (N : Int) (M : Int) = m := hm.symm
  have hm2 : ((max N M : Nat) : Int) = m := by rw [hm]; omega
  rw [hm2] at hra
  clear p0 p1 p2 p3 q0 q1 q2 q3 bF1 bF2 hm hm2 bN bM HRA
  by_cases c0 : 0 ≤ F
  · have c0' : decide (0 ≤ F) = true := decide_eq_true c0
    rw [c0', Bool.true_and] at hra
    have HR := Lib.hid hra
    clear c0 hra
    refine wp_region_bl (by kernel_rfl) (by kernel_rfl) ?_
    repeat (first | go_big_quiet_skip | (go_big_quiet_want; go_big_quiet_op; first | go_big_quiet_on | (refine ⟨_, fun _ _ => (by with_reducible rfl), ?_⟩; go_big_quiet_on) | (apply Exists.intro; refine ⟨fun w' hC => (by simp only [LD.out w' hC, Result.andThen]; exact ⟨trivial, rfl⟩), ?_⟩; go_big_quiet_on) | (apply Exists.intro; refine ⟨fun w' hC => (by (with_reducible refine (HH1 w' hC).out.mono ?_); exact fun e w2 ⟨he, hb⟩ => ⟨he, hC.trans (hb.mono hC.size)⟩), ?_⟩; go_big_quiet_on) | (apply Exists.intro; refine ⟨fun w' hC => (by (with_reducible refine (HH2 w' hC).out.mono ?_); exact fun e w2 ⟨he, hb⟩ => ⟨he, hC.trans (hb.mono hC.size)⟩), ?_⟩; go_big_quiet_on)))
    refine wpQuiet_nil ?_; intro wz hbz
    go_wp2_with fail
    go_ret
    exact ⟨by rw [HR.out]; rfl, below_via HB3.out hbz⟩
  · have c0' : decide (0 ≤ F) = false := decide_eq_false c0
    rw [c0', Bool.false_and] at hra
    subst hra
    clear c0
    refine wp_region_bl (by kernel_rfl) (by kernel_rfl) ?_
    repeat (first | go_big_quiet_skip | (go_big_quiet_want; go_big_quiet_op; first | go_big_quiet_on | (refine ⟨_, fun _ _ => (by with_reducible rfl), ?_⟩; go_big_quiet_on) | (apply Exists.intro; refine ⟨fun w' hC => (by simp only [LD.out w' hC, Result.andThen]; exact ⟨trivial, rfl⟩), ?_⟩; go_big_quiet_on) | (apply Exists.intro; refine ⟨fun w' hC => (by (with_reducible refine (HH1 w' hC).out.mono ?_); exact fun e w2 ⟨he, hb⟩ => ⟨he, hC.trans (hb.mono hC.size)⟩), ?_⟩; go_big_quiet_on) | (apply Exists.intro; refine ⟨fun w' hC => (by (with_reducible refine (HH2 w' hC).out.mono ?_); exact fun e w2 ⟨he, hb⟩ => ⟨he, hC.trans (hb.mono hC.size)⟩), ?_⟩; go_big_quiet_on)))
    refine wpQuiet_nil ?_; intro wz hbz
    go_wp2_with fail
    go_ret
    exact ⟨rfl, below_via HB3.out hbz⟩
set_option maxRecDepth 100000 in
set_option maxHeartbeats 12800000 in
theorem rnearest_c (w : World) (x : AV) (y : LA) (hx : Rd w x) (hwx : x.w ≤ 1048576) (hy : y.Rd w) : Calls Tryz.prog 11 #[x.val, .slice y.a y.l.length y.c] w (Ret (.int .i64 (nearP x.v (y.l.map AV.v) y.l.length).1) w) := by
  have HRX := Lib.hid (show ∀ W, Below w.heap.size w W → Rd W x from fun W h => hx.up h)
  have HKD := Lib.hid (show ∀ z ∈ y.l, (∀ W, Below w.heap.size w W → Rd W z) ∧ z.w ≤ 1048576 from fun z hz => ⟨fun W h => (hy.kids z hz).1.up h, (hy.kids z hz).2⟩)
  have HSL := Lib.hid hy.sl
  have hlen := hy.len
  obtain ⟨P, hP⟩ : ∃ P, P = nearP x.v (y.l.map AV.v) := ⟨_, rfl⟩
  have P0 := Lib.hid (show P 0 = (-1, 0) by rw [hP]; rfl)
  have PS := Lib.hid (show ∀ k s, y.l[k]? = some s → P (k + 1) = better k (nearI x.v s.v) (P k).1 (P k).2 from fun k s h => by rw [hP]; exact nearP_succ h)
  have PG := Lib.hid (show ∀ n, n ≤ y.l.length → -1 ≤ (P n).1 from fun n hn => by rw [hP]; exact nearP_ge _ _ n (by rw [List.length_map]; exact hn))
  have PF := Lib.hid (show ∀ i z, y.l[i]? = some z → sameV x.v z.v = true → (∀ j u, j < i → y.l[j]? = some u → sameV x.v u.v = false) → (P y.l.length).1 = (i : Nat) from fun i z hi hs h => by
    have := near_first (a := x.v) (l := y.l.map AV.v) (i := i) (b := z.v) (by rw [List.getElem?_map, hi]; rfl) hs (fun j c hj hc => by
      rw [List.getElem?_map, Option.map_eq_some_iff] at hc
      obtain ⟨u, hu, rfl⟩ := hc
      exact h j u hj hu)
    rw [List.length_map] at this
    rw [hP]; exact this)
  rw [← hP]
  clear hx hy hP
  go_enter Tryz.func11, Tryz.ntmps11
  go_wp2_with fail
  go_loopw [5] (fun s5 wr => ∃ k : Nat, k ≤ y.l.length ∧ s5 = .int .i64 (k : Int) ∧ Hid (Below w.heap.size w wr) ∧ Hid (wr.heap[w.heap.size]? = some (.cells #[.int .u8 x.k, .string x.t, .slice x.la x.l.length x.lc, .slice x.ka x.ks.length x.kc] 26 (0, 0))) ∧ Hid (∀ j u, j < k → y.l[j]? = some u → sameV x.v u.v = false)) (fun s5 _ => y.l.length - (intOf s5).toNat)
  case atStart => exact ⟨0, Nat.zero_le _, rfl, Lib.hid (below_al (Below.refl _ _)), Lib.hid (heap_alloc_new w _), Lib.hid (fun j u h => absurd h (Nat.not_lt_zero _))⟩
  case round =>
    obtain ⟨k, hk, rfl, HBR, HXR, HNO⟩ := hrel
    by_cases hlt : k < y.l.length
    · have hks : y.l[k]? = some y.l[k] := List.getElem?_eq_getElem hlt
      generalize y.l[k] = z at *
      have hlt' : (k : Int) < (y.l.length : Int) := by omega
      have hk0 : (0 : Int) ≤ (k : Int) := by omega
      have HKS := Lib.hid hks
      obtain ⟨b, off, hla, -, -, hbw, -⟩ := vals_at HSL.out hks
      have HCL := Lib.hid (show ∀ W, Below w.heap.size w W → ∀ j u, y.l[j]? = some u → W.cell? ⟨b, off + j * 4, none⟩ = some (.int .u8 u.k) ∧ W.cell? ⟨b, off + j * 4 + 1, none⟩ = some (.string u.t) ∧ W.cell? ⟨b, off + j * 4 + 2, none⟩ = some (.slice u.la u.l.length u.lc) ∧ W.cell? ⟨b, off + j * 4 + 3, none⟩ = some (.slice u.ka u.ks.length u.kc) from fun W h j u hu => by
        obtain ⟨b', off', hla', -, -, hb', c0, c1, c2, c3⟩ := vals_at HSL.out hu
        rw [hla] at hla'
        injection hla' with hla'
        injection hla' with e1 e2
        subst e1
        subst e2
        exact ⟨blkv h c0, blkv h c1, blkv h c2, blkv h c3⟩)
      obtain ⟨c0, c1, c2, c3⟩ := HCL.out wr HBR.out k z hks
      obtain ⟨p0, p1, p2, p3⟩ := vb4 HXR.out
      have HRZ := Lib.hid (HKD.out z (List.mem_of_getElem? hks)).1
      have hwz := (HKD.out z (List.mem_of_getElem? hks)).2
      rw [hla]
      obtain ⟨s, hs⟩ : ∃ s, s = sameV x.v z.v := ⟨_, rfl⟩
      have HH1 := fun W (h : Below wr.heap.size wr W) => Lib.hid (show Calls Tryz.prog 33 #[x.val, z.val] W (Ret (.bool s) W) by rw [hs]; exact rsame_c x z W (HRX.out W (below_via HBR.out h)) (HRZ.out W (below_via HBR.out h)) hwx hwz)
      have LD := Lib.hid (fun W (h : Below wr.heap.size wr W) => And.intro (blkv h p0) (And.intro (blkv h p1) (And.intro (blkv h p2) (And.intro (blkv h p3) (And.intro (blkv h c0) (And.intro (blkv h c1) (And.intro (blkv h c2) (blkv h c3))))))))
      have HS := Lib.hid hs
      clear hla hbw hks c0 c1 c2 c3 p0 p1 p2 p3 hs
      go_upto_region 4 with fail
      cases s with
      | true =>
        refine wp_region_bl (by kernel_rfl) (by kernel_rfl) ?_
        repeat (first | go_big_quiet_skip | (go_big_quiet_want; go_big_quiet_op; first | go_big_quiet_on | (refine ⟨_, fun _ _ => (by with_reducible rfl), ?_⟩; go_big_quiet_on) | (apply Exists.intro; refine ⟨fun w' hC => (by simp only [LD.out w' hC, Result.andThen]; exact ⟨trivial, rfl⟩), ?_⟩; go_big_quiet_on) | (apply Exists.intro; refine ⟨fun w' hC => (by (with_reducible refine (HH1 w' hC).out.mono ?_); exact fun e w2 ⟨he, hb⟩ => ⟨he, hC.trans (hb.mono hC.size)⟩), ?_⟩; go_big_quiet_on)))
        refine wpQuiet_nil ?_; intro wz hbz
        go_wp2_with fail
        go_ret
        exact ⟨by rw [PF.out k z HKS.out HS.out.symm HNO.out]; rfl, below_via HBR.out hbz⟩
      | false =>
        refine wp_region_bl (by kernel_rfl) (by kernel_rfl) ?_
        repeat (first | go_big_quiet_skip | (go_big_quiet_want; go_big_quiet_op; first | go_big_quiet_on | (refine ⟨_, fun _ _ => (by with_reducible rfl), ?_⟩; go_big_quiet_on) | (apply Exists.intro; refine ⟨fun w' hC => (by simp only [LD.out w' hC, Result.andThen]; exact ⟨trivial, rfl⟩), ?_⟩; go_big_quiet_on) | (apply Exists.intro; refine ⟨fun w' hC => (by (with_reducible refine (HH1 w' hC).out.mono ?_); exact fun e w2 ⟨he, hb⟩ => ⟨he, hC.trans (hb.mono hC.size)⟩), ?_⟩; go_big_quiet_on)))
        refine wpQuiet_nil ?_; intro wz hbz
        go_wp2_with fail
        exact ⟨⟨k + 1, by omega, by go_num, Lib.hid (below_via HBR.out hbz), Lib.hid (blk_via hbz HXR.out), Lib.hid (fun j u hj hu => by
          by_cases hjk : j < k
          · exact HNO.out j u hjk hu
          · obtain rfl : j = k := by omega
            rw [HKS.out] at hu
            injection hu with hu
            subst hu
            exact HS.out.symm)⟩, by simp [intOf]; omega⟩
    · have hkl : k = y.l.length := by omega
      subst hkl
      have hge : ¬ (y.l.length : Int) < (y.l.length : Int) := by omega
      obtain ⟨WA, hWA⟩ : ∃ W, W = wr := ⟨_, rfl⟩
      subst hWA
      go_wp2_with fail
      go_loopw [6, 7, 8] (fun s6 s7 s8 wr => ∃ k : Nat, k ≤ y.l.length ∧ s6 = .int .i64 (P k).1 ∧ s7 = .int .i64 (P k).2 ∧ s8 = .int .i64 (k : Int) ∧ Hid (Below w.heap.size w wr) ∧ Hid (wr.heap[w.heap.size]? = some (.cells #[.int .u8 x.k, .string x.t, .slice x.la x.l.length x.lc, .slice x.ka x.ks.length x.kc] 26 (0, 0)))) (fun _ _ s8 _ => y.l.length - (intOf s8).toNat)
      case atStart => exact ⟨0, Nat.zero_le _, by rw [P0.out], by rw [P0.out], rfl, HBR, HXR⟩
      case round =>
        clear HBR HXR
        obtain ⟨k, hk, rfl, rfl, rfl, HBR, HXR⟩ := hrel
        by_cases hlt : k < y.l.length
        · have hks : y.l[k]? = some y.l[k] := List.getElem?_eq_getElem hlt
          generalize y.l[k] = z at *
          have hlt' : (k : Int) < (y.l.length : Int) := by omega
          have hk0 : (0 : Int) ≤ (k : Int) := by omega
          have HKS := Lib.hid hks
          obtain ⟨b, off, hla, -, -, hbw, -⟩ := vals_at HSL.out hks
          have HCL := Lib.hid (show ∀ W, Below w.heap.size w W → ∀ j u, y.l[j]? = some u → W.cell? ⟨b, off + j * 4, none⟩ = some (.int .u8 u.k) ∧ W.cell? ⟨b, off + j * 4 + 1, none⟩ = some (.string u.t) ∧ W.cell? ⟨b, off + j * 4 + 2, none⟩ = some (.slice u.la u.l.length u.lc) ∧ W.cell? ⟨b, off + j * 4 + 3, none⟩ = some (.slice u.ka u.ks.length u.kc) from fun W h j u hu => by
        obtain ⟨b', off', hla', -, -, hb', c0, c1, c2, c3⟩ := vals_at HSL.out hu
        rw [hla] at hla'
        injection hla' with hla'
        injection hla' with e1 e2
        subst e1
        subst e2
        exact ⟨blkv h c0, blkv h c1, blkv h c2, blkv h c3⟩)
          obtain ⟨c0, c1, c2, c3⟩ := HCL.out wr HBR.out k z hks
          obtain ⟨p0, p1, p2, p3⟩ := vb4 HXR.out
          have HRZ := Lib.hid (HKD.out z (List.mem_of_getElem? hks)).1
          have hwz := (HKD.out z (List.mem_of_getElem? hks)).2
          have hpg := PG.out k hk
          have hps := PS.out k z hks
          have hnf := fun hs h => near_not_same (a := x.v) (b := z.v) hs h
          have hns := HNO.out k z hlt hks
          obtain ⟨p, hp⟩ : ∃ p, p = (P k).1 := ⟨_, rfl⟩
          obtain ⟨q, hq⟩ : ∃ q, q = (P k).2 := ⟨_, rfl⟩
          obtain ⟨d, hd⟩ : ∃ d, d = nearI x.v z.v := ⟨_, rfl⟩
          obtain ⟨F, hF⟩ : ∃ F, F = farI x.v z.v := ⟨_, rfl⟩
          rw [← hp, ← hq, ← hd] at hps
          rw [← hp] at hpg
          rw [← hd, ← hF] at hnf
          rw [hla, ← hp, ← hq]
          obtain ⟨ia, hia⟩ : ∃ ia, ia = (d != -1) := ⟨_, rfl⟩
          have HH1 := fun W (h : Below wr.heap.size wr W) => Lib.hid (show Calls Tryz.prog 14 #[x.val, z.val] W (Ret (.bool ia) W) by rw [hia, hd]; exact rare_c W x z (HRX.out W (below_via HBR.out h)) (HRZ.out W (below_via HBR.out h)) hwx hwz)
          have HFA := Lib.hid (show ∀ W, Below w.heap.size w W → Calls Tryz.prog 34 #[x.val, z.val] W (Ret (.int .i64 F) W) from fun W h => by rw [hF]; exact rfar20_c W x z (HRX.out W h) (HRZ.out W h) hwx hwz)
          have LD := Lib.hid (fun W (h : Below wr.heap.size wr W) => And.intro (blkv h p0) (And.intro (blkv h p1) (And.intro (blkv h p2) (And.intro (blkv h p3) (And.intro (blkv h c0) (And.intro (blkv h c1) (And.intro (blkv h c2) (blkv h c3))))))))
          have HPS := Lib.hid hps
          have HNF := Lib.hid (hnf hns)
          have HPG := Lib.hid hpg
          have HIA := Lib.hid hia
          have HCK := Lib.hid (fun W h => HCL.out W h k z hks)
          clear hla hbw hks c0 c1 c2 c3 p0 p1 p2 p3 hpg hps hnf hns hp hq hd hF hia HCL
          go_upto_region 11 with fail
          cases ia with
          | false =>
            have hd1 : d = -1 := by have := HIA.out.symm; simpa using this
            refine wp_region_bl (by kernel_rfl) (by kernel_rfl) ?_
            repeat (first | go_big_quiet_skip | (go_big_quiet_want; go_big_quiet_op; first | go_big_quiet_on | (refine ⟨_, fun _ _ => (by with_reducible rfl), ?_⟩; go_big_quiet_on) | (apply Exists.intro; refine ⟨fun w' hC => (by simp only [LD.out w' hC, Result.andThen]; exact ⟨trivial, rfl⟩), ?_⟩; go_big_quiet_on) | (apply Exists.intro; refine ⟨fun w' hC => (by (with_reducible refine (HH1 w' hC).out.mono ?_); exact fun e w2 ⟨he, hb⟩ => ⟨he, hC.trans (hb.mono hC.size)⟩), ?_⟩; go_big_quiet_on)))
            refine wpQuiet_nil ?_; intro wz hbz
            go_wp2_with fail
            exact ⟨⟨k + 1, by omega, by rw [HPS.out]; simp [better, hd1], by rw [HPS.out]; simp [better, hd1], by go_num, Lib.hid (below_via HBR.out hbz), Lib.hid (blk_via hbz HXR.out)⟩, by simp [intOf]; omega⟩
          | true =>
            refine wp_region_bl (by kernel_rfl) (by kernel_rfl) ?_
            repeat (first | go_big_quiet_skip | (go_big_quiet_want; go_big_quiet_op; first | go_big_quiet_on | (refine ⟨_, fun _ _ => (by with_reducible rfl), ?_⟩; go_big_quiet_on) | (apply Exists.intro; refine ⟨fun w' hC => (by simp only [LD.out w' hC, Result.andThen]; exact ⟨trivial, rfl⟩), ?_⟩; go_big_quiet_on) | (apply Exists.intro; refine ⟨fun w' hC => (by (with_reducible refine (HH1 w' hC).out.mono ?_); exact fun e w2 ⟨he, hb⟩ => ⟨he, hC.trans (hb.mono hC.size)⟩), ?_⟩; go_big_quiet_on)))
            refine wpQuiet_nil ?_; intro wz hbz
            obtain ⟨W4, hW4⟩ : ∃ W, W = wz := ⟨_, rfl⟩
            subst hW4
            have HB4 := Lib.hid (below_via HBR.out hbz)
            have HX4 := Lib.hid (blk_via hbz HXR.out)
            clear hbz LD HH1
            obtain ⟨c0, c1, c2, c3⟩ := HCK.out W4 HB4.out
            obtain ⟨p0, p1, p2, p3⟩ := vb4 HX4.out
            have LD := Lib.hid (fun W (h : Below W4.heap.size W4 W) => And.intro (blkv h p0) (And.intro (blkv h p1) (And.intro (blkv h p2) (And.intro (blkv h p3) (And.intro (blkv h c0) (And.intro (blkv h c1) (And.intro (blkv h c2) (blkv h c3))))))))
            have HH2 := fun W (h : Below W4.heap.size W4 W) => Lib.hid (HFA.out W (below_via HB4.out h))
            clear c0 c1 c2 c3 p0 p1 p2 p3
            go_upto_region 12 with fail
            refine wp_region_bl (by kernel_rfl) (by kernel_rfl) ?_
            repeat (first | go_big_quiet_skip | (go_big_quiet_want; go_big_quiet_op; first | go_big_quiet_on | (refine ⟨_, fun _ _ => (by with_reducible rfl), ?_⟩; go_big_quiet_on) | (apply Exists.intro; refine ⟨fun w' hC => (by simp only [LD.out w' hC, Result.andThen]; exact ⟨trivial, rfl⟩), ?_⟩; go_big_quiet_on) | (apply Exists.intro; refine ⟨fun w' hC => (by (with_reducible refine (HH2 w' hC).out.mono ?_); exact fun e w2 ⟨he, hb⟩ => ⟨he, hC.trans (hb.mono hC.size)⟩), ?_⟩; go_big_quiet_on)))
            refine wpQuiet_nil ?_; intro wz hbz
            have hdn : d ≠ -1 := by have := HIA.out.symm; simpa using this
            have hdF := HNF.out hdn
            have hg := HPG.out
            by_cases c1 : p < 0
            · have c1' : decide (p < 0) = true := decide_eq_true c1
              have e : better (k : Int) d p q = ((k : Int), d) := by simp [better, hdn, show p = -1 by omega]
              have HE := Lib.hid (HPS.out.trans e)
              have HDF := Lib.hid hdF
              clear c1 hdn hdF hg e
              go_wp2_with fail
              exact ⟨⟨k + 1, by omega, by rw [HE.out], by rw [HE.out, HDF.out], by go_num, Lib.hid (below_via HB4.out hbz), Lib.hid (blk_via hbz HX4.out)⟩, by simp [intOf]; omega⟩
            · have c1' : decide (p < 0) = false := decide_eq_false c1
              by_cases c2 : F < q
              · have c2' : decide (F < q) = true := decide_eq_true c2
                have e : better (k : Int) d p q = ((k : Int), d) := by have hFn : F ≠ -1 := hdF ▸ hdn; simp [better, hdF, hFn, c2]
                have HE := Lib.hid (HPS.out.trans e)
                have HDF := Lib.hid hdF
                clear c1 c2 hdn hdF hg e
                go_wp2_with fail
                exact ⟨⟨k + 1, by omega, by rw [HE.out], by rw [HE.out, HDF.out], by go_num, Lib.hid (below_via HB4.out hbz), Lib.hid (blk_via hbz HX4.out)⟩, by simp [intOf]; omega⟩
              · have c2' : decide (F < q) = false := decide_eq_false c2
                have e : better (k : Int) d p q = (p, q) := by have hFn : F ≠ -1 := hdF ▸ hdn; simp [better, hdF, hFn, c2, show ¬ p = -1 by omega]
                have HE := Lib.hid (HPS.out.trans e)
                clear c1 c2 hdn hdF hg e
                go_wp2_with fail
                exact ⟨⟨k + 1, by omega, by rw [HE.out], by rw [HE.out], by go_num, Lib.hid (below_via HB4.out hbz), Lib.hid (blk_via hbz HX4.out)⟩, by simp [intOf]; omega⟩
        · have hkl : k = y.l.length := by omega
          subst hkl
          have hge2 : ¬ (y.l.length : Int) < (y.l.length : Int) := by omega
          go_wp2_with fail
          go_ret
          exact ⟨rfl, HBR.out⟩
/-- Whether the law goes on: whatever it says. -/
def GreatAny (w : World) (e : Ending) (w' : World) : Prop := ∃ r : Bool, e = .returned (.bool r) ∧ Below w.heap.size w w'
set_option maxRecDepth 100000 in
set_option maxHeartbeats 12800000 in
theorem great21_c (w : World) (x : AV) (y : LA) (hx : Rd w x) (hwx : x.w ≤ 1048576) (hy : y.Rd w) : Calls Tryz.prog 7 #[x.val, .slice y.a y.l.length y.c] w (GreatAny w) := by
  have HRX := Lib.hid (show ∀ W, Below w.heap.size w W → Rd W x from fun W h => hx.up h)
  have HKD := Lib.hid (show ∀ z ∈ y.l, (∀ W, Below w.heap.size w W → Rd W z) ∧ z.w ≤ 1048576 from fun z hz => ⟨fun W h => (hy.kids z hz).1.up h, (hy.kids z hz).2⟩)
  have HSL := Lib.hid hy.sl
  have hlen := hy.len
  obtain ⟨gx, hgx⟩ : ∃ g, g = decide (1500 < x.v.w) := ⟨_, rfl⟩
  have HGX := fun W (h : Below w.heap.size w W) => Lib.hid (show Calls Tryz.prog 26 #[x.val] W (Ret (.bool gx) W) by rw [hgx]; exact great14_c x W (HRX.out W h) hwx)
  obtain ⟨N, hN⟩ : ∃ N, N = szV x.v := ⟨_, rfl⟩
  have bN : N ≤ 1048576 := by have := szV_le x.v; have e : x.v.w = x.w := rfl; omega
  have HSX := Lib.hid (show ∀ W, Below w.heap.size w W → Calls Tryz.prog 27 #[x.val] W (Ret (.int .i64 (N : Int)) W) from fun W h => by rw [hN]; exact rsizeV_c x W (HRX.out W h) hwx)
  clear hx hy hgx hN
  go_enter Tryz.func7, Tryz.ntmps7
  go_upto_region 1 with fail
  go_name_world W1 hW1
  have HX1 := Lib.hid (show W1.heap[w.heap.size]? = some (.cells #[.int .u8 x.k, .string x.t, .slice x.la x.l.length x.lc, .slice x.ka x.ks.length x.kc] 26 (0, 0)) by rw [← hW1]; exact heap_alloc_new w _)
  have HB1 := Lib.hid (show Below w.heap.size w W1 by rw [← hW1]; exact below_al (Below.refl _ _))
  obtain ⟨p0, p1, p2, p3⟩ := vb4 HX1.out
  clear hW1
  cases gx with
  | true =>
    go_wp2_with (go_at_call 26; (with_reducible refine (HGX _ HB1.out).out.mono ?_); rintro e w2 ⟨rfl, h2⟩)
    go_ret
    exact ⟨true, rfl, below_via HB1.out h2⟩
  | false =>
  by_cases n8 : 8 < y.l.length
  · have n8' : (8 : Int) < (y.l.length : Int) := by omega
    go_wp2_with (go_at_call 26; (with_reducible refine (HGX _ HB1.out).out.mono ?_); rintro e w2 ⟨rfl, h2⟩)
    go_ret
    exact ⟨true, rfl, below_via HB1.out h2⟩
  have n8' : ¬ (8 : Int) < (y.l.length : Int) := by omega
  clear n8
  go_wp2_with (go_at_call 26; (with_reducible refine (HGX _ HB1.out).out.mono ?_); rintro e w2 ⟨rfl, h2⟩)
  have HB2 := Lib.hid (below_via HB1.out h2)
  have HX2 := Lib.hid (blk_via h2 HX1.out)
  clear h2 p0 p1 p2 p3 HGX
  go_loopw [5] (fun s5 wr => ∃ k : Nat, k ≤ y.l.length ∧ s5 = .int .i64 (k : Int) ∧ Hid (Below w.heap.size w wr) ∧ Hid (wr.heap[w.heap.size]? = some (.cells #[.int .u8 x.k, .string x.t, .slice x.la x.l.length x.lc, .slice x.ka x.ks.length x.kc] 26 (0, 0)))) (fun s5 _ => y.l.length - (intOf s5).toNat)
  case atStart => exact ⟨0, Nat.zero_le _, rfl, HB2, HX2⟩
  case round =>
    obtain ⟨k, hk, rfl, HBR, HXR⟩ := hrel
    by_cases hlt : k < y.l.length
    · have hks : y.l[k]? = some y.l[k] := List.getElem?_eq_getElem hlt
      generalize y.l[k] = z at *
      have hlt' : (k : Int) < (y.l.length : Int) := by omega
      have hk0 : (0 : Int) ≤ (k : Int) := by omega
      obtain ⟨b, off, hla, -, -, hbw, -⟩ := vals_at HSL.out hks
      have HCL := Lib.hid (show ∀ W, Below w.heap.size w W → ∀ j u, y.l[j]? = some u → W.cell? ⟨b, off + j * 4, none⟩ = some (.int .u8 u.k) ∧ W.cell? ⟨b, off + j * 4 + 1, none⟩ = some (.string u.t) ∧ W.cell? ⟨b, off + j * 4 + 2, none⟩ = some (.slice u.la u.l.length u.lc) ∧ W.cell? ⟨b, off + j * 4 + 3, none⟩ = some (.slice u.ka u.ks.length u.kc) from fun W h j u hu => by
        obtain ⟨b', off', hla', -, -, hb', c0, c1, c2, c3⟩ := vals_at HSL.out hu
        rw [hla] at hla'
        injection hla' with hla'
        injection hla' with e1 e2
        subst e1
        subst e2
        exact ⟨blkv h c0, blkv h c1, blkv h c2, blkv h c3⟩)
      obtain ⟨c0, c1, c2, c3⟩ := HCL.out wr HBR.out k z hks
      obtain ⟨p0, p1, p2, p3⟩ := vb4 HXR.out
      have HRZ := Lib.hid (HKD.out z (List.mem_of_getElem? hks)).1
      have hwz := (HKD.out z (List.mem_of_getElem? hks)).2
      rw [hla]
      obtain ⟨M, hM⟩ : ∃ M, M = szV z.v := ⟨_, rfl⟩
      have bM : M ≤ 1048576 := by have := szV_le z.v; have e : z.v.w = z.w := rfl; omega
      have hNM : N * M ≤ 1048576 * 1048576 := Nat.mul_le_mul bN bM
      have hNM2 : (N : Int) * (M : Int) = ((N * M : Nat) : Int) := by simp
      have hw1 : IntKind.i64.wrap ((N : Int) * (M : Int)) = (N : Int) * (M : Int) := IntWalk.i64_in _ (by rw [hNM2]; omega)
      obtain ⟨gz, hgz⟩ : ∃ g, g = decide (1500 < z.v.w) := ⟨_, rfl⟩
      have HGZ := Lib.hid (show ∀ W, Below w.heap.size w W → Calls Tryz.prog 26 #[z.val] W (Ret (.bool gz) W) from fun W h => by rw [hgz]; exact great14_c z W (HRZ.out W h) hwz)
      have HH1 := fun W (h : Below wr.heap.size wr W) => Lib.hid (HSX.out W (below_via HBR.out h))
      have HH2 := fun W (h : Below wr.heap.size wr W) => Lib.hid (show Calls Tryz.prog 27 #[z.val] W (Ret (.int .i64 (M : Int)) W) by rw [hM]; exact rsizeV_c z W (HRZ.out W (below_via HBR.out h)) hwz)
      have LD := Lib.hid (fun W (h : Below wr.heap.size wr W) => And.intro (blkv h p0) (And.intro (blkv h p1) (And.intro (blkv h p2) (And.intro (blkv h p3) (And.intro (blkv h c0) (And.intro (blkv h c1) (And.intro (blkv h c2) (blkv h c3))))))))
      have HCK := Lib.hid (fun W h => HCL.out W h k z hks)
      clear hla hbw hks c0 c1 c2 c3 p0 p1 p2 p3 hNM hNM2 hM hgz HCL
      go_upto_region 6 with fail
      refine wp_region_bl (by kernel_rfl) (by kernel_rfl) ?_
      repeat (first | go_big_quiet_skip | (go_big_quiet_want; go_big_quiet_op; first | go_big_quiet_on | (refine ⟨_, fun _ _ => (by with_reducible rfl), ?_⟩; go_big_quiet_on) | (apply Exists.intro; refine ⟨fun w' hC => (by simp only [LD.out w' hC, Result.andThen]; exact ⟨trivial, rfl⟩), ?_⟩; go_big_quiet_on) | (apply Exists.intro; refine ⟨fun w' hC => (by (with_reducible refine (HH1 w' hC).out.mono ?_); exact fun e w2 ⟨he, hb⟩ => ⟨he, hC.trans (hb.mono hC.size)⟩), ?_⟩; go_big_quiet_on) | (apply Exists.intro; refine ⟨fun w' hC => (by (with_reducible refine (HH2 w' hC).out.mono ?_); exact fun e w2 ⟨he, hb⟩ => ⟨he, hC.trans (hb.mono hC.size)⟩), ?_⟩; go_big_quiet_on)))
      refine wpQuiet_nil ?_; intro wz hbz
      obtain ⟨W4, hW4⟩ : ∃ W, W = wz := ⟨_, rfl⟩
      subst hW4
      have HB4 := Lib.hid (below_via HBR.out hbz)
      have HX4 := Lib.hid (blk_via hbz HXR.out)
      obtain ⟨pr, hpr⟩ : ∃ pr : Int, pr = (N : Int) * (M : Int) := ⟨_, rfl⟩
      rw [← hpr]
      clear hbz LD HH1 HH2 hw1 hpr
      obtain ⟨c0, c1, c2, c3⟩ := HCK.out W4 HB4.out
      cases gz with
      | true =>
        go_wp2_with (go_at_call 26; (with_reducible refine (HGZ.out _ HB4.out).mono ?_); rintro e w5 ⟨rfl, h5⟩)
        go_ret
        exact ⟨true, rfl, below_via HB4.out h5⟩
      | false =>
        go_upto_region 7 with fail
        go_cut [40] (fun s40 wx => ∃ r, s40 = .bool r ∧ Hid (Below W4.heap.size W4 wx))
        case first =>
          go_wp2_with (go_at_call 26; (with_reducible refine (HGZ.out _ HB4.out).mono ?_); rintro e w5 ⟨rfl, h5⟩)
          all_goals go_meet
          all_goals exact ⟨_, rfl, Lib.hid h5⟩
        case rest =>
          obtain ⟨r, rfl, HC⟩ := hcut
          clear c0 c1 c2 c3
          cases r with
          | true =>
            go_wp2_with fail
            go_ret
            exact ⟨true, rfl, below_via HB4.out HC.out⟩
          | false =>
            go_wp2_with fail
            exact ⟨⟨k + 1, by omega, by go_num, Lib.hid (below_via HB4.out HC.out), Lib.hid (blk_via HC.out HX4.out)⟩, by simp [intOf]; omega⟩
    · have hkl : k = y.l.length := by omega
      subst hkl
      have hge : ¬ (y.l.length : Int) < (y.l.length : Int) := by omega
      go_wp2_with fail
      go_ret
      exact ⟨false, rfl, HBR.out⟩
end Go.Proofs.YtmhkacafilpliaaGreat

namespace Go.Proofs.YtmhkacafilpliaaGreat
open Go.RowKit Go.Sort Go.Shelf Go.BigFrame

/-- A row of the call's own, its elements twins apart from it. -/
def TTrees (base : Nat) (w : World) (u : LA) : Prop := OwnV w base (.slice u.a u.l.length u.c) u.l ∧ ∀ r ∈ u.l, ∃ lo hi, r.Tw w lo hi ∧ base ≤ lo ∧ hi ≤ w.heap.size ∧ ∀ q, (Value.slice u.a u.l.length u.c).ownBlock = some q → ¬ (lo ≤ q ∧ q < hi)
theorem ttrees_nil (base : Nat) (w : World) : TTrees base w ⟨none, [], 0⟩ := ⟨World.ownsRow_nil _ _ _ _, fun _r hr => absurd hr List.not_mem_nil⟩
theorem TTrees.tw {base : Nat} {w : World} {u : LA} (h : TTrees base w u) {r : AV} (hr : r ∈ u.l) : r.Tw w 0 w.heap.size := by
  obtain ⟨lo, hi, h2, h3, h4, -⟩ := h.2 r hr
  exact h2.widen (Nat.zero_le _) h4
theorem TTrees.rd {base : Nat} {w w0 : World} {u x : LA} (h : TTrees base w u) (he : u.v = x.v) (hx : x.Rd w0) : u.Rd w := by
  refine ⟨(own_sl AV.enc_len h.1).widen (Nat.zero_le _) (Nat.le_refl _), ?_, fun y hy => ⟨(h.tw hy).rd, ?_⟩⟩
  · have := congrArg List.length he
    rw [LA.v, LA.v, List.length_map, List.length_map] at this
    rw [this]; exact hx.len
  · have hm : y.v ∈ x.v := by rw [← he, LA.v]; exact List.mem_map_of_mem hy
    obtain ⟨z, hz, e⟩ := List.mem_map.1 hm
    have : y.w = z.w := by show y.v.w = z.v.w; rw [e]
    rw [this]; exact (hx.kids z hz).2
theorem ttrees_add {base : Nat} {w w2 : World} {u : LA} {z : AV} (ht : TTrees base w u) (hbase : base ≤ w.heap.size) (hb : Below w.heap.size w w2) (hz : z.Tw w2 w.heap.size w2.heap.size) (hl : u.l.length ≤ 1048576) :
    ∃ (u' : LA) (W' : World), (∀ ty, (Builtin.append_ #[23, 23] ty #[.slice u.a u.l.length u.c, .slice (some ⟨w2.heap.size, 0, none⟩) 1 1]).run Tryz.prog (w2.alloc (.cells #[.int .u8 z.k, .string z.t, .slice z.la z.l.length z.lc, .slice z.ka z.ks.length z.kc] 26)) = .ok (.slice u'.a u'.l.length u'.c) W') ∧
      u'.l = u.l ++ [z] ∧ TTrees base W' u' ∧ Below base w W' := by
  obtain ⟨ho, hk⟩ := ht
  have hsz := hb.size
  have hlit : SlE AV.enc 4 (w2.alloc (.cells #[.int .u8 z.k, .string z.t, .slice z.la z.l.length z.lc, .slice z.ka z.ks.length z.kc] 26)) w2.heap.size (w2.heap.size + 1) (some ⟨w2.heap.size, 0, none⟩) [z] := lit_sl (enc := AV.enc) (size := 4) (l := [z]) (t := 26) (fr := (0, 0)) AV.enc_len (heap_alloc_new _ _)
  obtain ⟨v', W', hrun, hown', hgr, hat⟩ := app_val (c := 1) (own_below (own_below ho hb) ((Below.refl _ _).alloc (Nat.le_refl _) _)) hlit (by simp; omega) (by simp; omega)
  obtain ⟨a', c', rfl⟩ := own_formE hown'
  have hgl : ∀ q, (Value.slice u.a u.l.length u.c).ownBlock = some q → base ≤ q ∧ q < w.heap.size := World.ownsRow.lt ho
  have hsz3 := hgr.size
  rw [World.size_alloc] at hsz3
  have hnew : ∀ q, (Value.slice a' (u.l ++ [z]).length c').ownBlock = some q → (Value.slice u.a u.l.length u.c).ownBlock = some q ∨ q = w2.heap.size + 1 := fun q hq => by
    rcases hat with e | e
    · exact .inl (e ▸ hq)
    · rw [hq, World.size_alloc] at e
      injection e with e
      exact .inr e
  have hblk : ∀ q, q < w2.heap.size → (∀ g, (Value.slice u.a u.l.length u.c).ownBlock = some g → q ≠ g) → W'.heap[q]? = w2.heap[q]? := fun q hq hne => by
    rw [hgr.block q (by rw [World.size_alloc]; omega) (fun e => hne q e.symm rfl), old_al _ hq]
  have key : ∀ (r : AV) lo hi, r.Tw w2 lo hi → base ≤ lo → hi ≤ w2.heap.size → (∀ q, (Value.slice u.a u.l.length u.c).ownBlock = some q → ¬ (lo ≤ q ∧ q < hi)) → ∃ lo hi, r.Tw W' lo hi ∧ base ≤ lo ∧ hi ≤ W'.heap.size ∧ ∀ q, (Value.slice a' (u.l ++ [z]).length c').ownBlock = some q → ¬ (lo ≤ q ∧ q < hi) := by
    intro r lo hi h1 h2 h3 h4
    refine ⟨lo, hi, h1.kept (by omega) (fun q q1 q2 q3 => hblk q q3 fun g hg e => h4 g hg ⟨by omega, by omega⟩), h2, by omega, fun q hq hc => ?_⟩
    rcases hnew q hq with e | e
    · exact h4 q e hc
    · omega
  refine ⟨⟨a', u.l ++ [z], c'⟩, W', hrun, rfl, ⟨hown', fun r hr => ?_⟩, ((hb.mono hbase).trans ((Below.refl _ _).alloc (by omega) _)).grown hgr (by simp; omega) (fun q hq => (hgl q hq).1)⟩
  rcases List.mem_append.1 hr with hr | hr
  · obtain ⟨lo, hi, h1, h2, h3, h4⟩ := hk r hr
    exact key r lo hi (h1.blw hb h3) h2 (by omega) h4
  · simp at hr; subst hr
    exact key _ w.heap.size w2.heap.size hz hbase (Nat.le_refl _) fun q hq hc => by have := hgl q hq; omega
set_option maxRecDepth 100000 in
set_option maxHeartbeats 12800000 in
theorem aany (w : World) (x : AV) (y : LA) (hx : Rd w x) (hwx : x.w ≤ 1048576) (hy : y.Rd w) : Calls Tryz.prog 3 #[x.val, .slice y.a y.l.length y.c] w (Ret (.bool true) w) := by
  have HRX := Lib.hid (show ∀ W, Below w.heap.size w W → Rd W x from fun W h => hx.up h)
  have HYR := Lib.hid (show ∀ W, Below w.heap.size w W → y.Rd W from fun W h => hy.up h)
  have HY := Lib.hid hy
  have HSL := Lib.hid hy.sl
  have hlen := hy.len
  have HLI := fun W => Lib.hid (lives21_c W)
  have HTX := fun W (h : Below w.heap.size w W) => Lib.hid (twin14_c x W (HRX.out W h) hwx)
  have HGR := fun W (h : Below w.heap.size w W) => Lib.hid (great21_c W x y (HRX.out W h) hwx (HYR.out W h))
  clear hx hy
  go_enter Tryz.func3, Tryz.ntmps3
  go_upto_region 1 with fail
  go_name_world W1 hW1
  have HX1 := Lib.hid (show W1.heap[w.heap.size]? = some (.cells #[.int .u8 x.k, .string x.t, .slice x.la x.l.length x.lc, .slice x.ka x.ks.length x.kc] 26 (0, 0)) by rw [← hW1]; exact heap_alloc_new w _)
  have HB1 := Lib.hid (show Below w.heap.size w W1 by rw [← hW1]; exact below_al (Below.refl _ _))
  obtain ⟨p0, p1, p2, p3⟩ := vb4 HX1.out
  clear hW1
  go_upto_region 3 with (first
    | (go_at_call 8; (with_reducible refine (HLI _).out.mono ?_); rintro e w99 ⟨rfl, h99⟩)
    | (go_at_call 7; (with_reducible refine (HGR _ HB1.out).out.mono ?_); rintro e w2 ⟨r, rfl, h2⟩; have HB2 := Lib.hid (below_via HB1.out h2); have HX2 := Lib.hid (blk_via h2 HX1.out); clear h2 p0 p1 p2 p3; cases r))
  all_goals first
    | (go_ret; exact ⟨rfl, below_via HB2.out h99⟩)
    | skip
  obtain ⟨p0, p1, p2, p3⟩ := vb4 HX2.out
  go_upto_region 4 with (go_at_call 9; (with_reducible refine (HTX _ HB2.out).out.mono ?_); rintro e w3 ⟨t, rfl, htv, htT, h3⟩)
  go_name_world W4 hW4
  obtain ⟨BT, hBT⟩ : ∃ B, B = w3.heap.size := ⟨_, rfl⟩
  have hb24 : Below w2.heap.size w2 W4 := by rw [← hW4]; exact below_al h3
  have HT4 := Lib.hid (show W4.heap[BT]? = some (.cells #[.int .u8 t.k, .string t.t, .slice t.la t.l.length t.lc, .slice t.ka t.ks.length t.kc] 26 (0, 0)) by rw [← hW4, hBT]; exact heap_alloc_new w3 _)
  have hT4 : t.Tw W4 0 W4.heap.size := (htT.widen (Nat.zero_le _) (Nat.le_refl _)).up (by rw [← hW4]; exact below_al (Below.refl _ _))
  have HB4 := Lib.hid (below_via HB2.out hb24)
  have HX4 := Lib.hid (blk_via hb24 HX2.out)
  have HTV := Lib.hid htv
  have HTT := Lib.hid (show ∀ W, Below W4.heap.size W4 W → t.Tw W 0 W.heap.size from fun W h => hT4.up h)
  have hwt : t.w ≤ 1048576 := by show t.v.w ≤ _; rw [htv]; exact hwx
  rw [← hBT]
  clear hW4 hBT hb24 h3 htv htT hT4 p0 p1 p2 p3 HTX HGR HB1 HB2 HX1 HX2
  go_wp2_with fail
  go_loopw [6, 7] (fun s6 s7 wr => ∃ (k : Nat) (u : LA), k ≤ y.l.length ∧ s7 = .int .i64 (k : Int) ∧ s6 = .slice u.a u.l.length u.c ∧ Hid (TTrees W4.heap.size wr u) ∧ Hid (u.l.map AV.v = (y.l.take k).map AV.v) ∧ Hid (Below W4.heap.size W4 wr)) (fun _ s7 _ => y.l.length - (intOf s7).toNat)
  case atStart => exact ⟨0, ⟨none, [], 0⟩, Nat.zero_le _, rfl, rfl, Lib.hid (ttrees_nil _ _), Lib.hid rfl, Lib.hid (Below.refl _ _)⟩
  case round =>
    obtain ⟨k, u, hk, rfl, rfl, HU, HUV, HDR⟩ := hrel
    have HBR := Lib.hid (below_via HB4.out HDR.out)
    by_cases hlt : k < y.l.length
    · have hks : y.l[k]? = some y.l[k] := List.getElem?_eq_getElem hlt
      generalize y.l[k] = z at *
      have hlt' : (k : Int) < (y.l.length : Int) := by omega
      have hk0 : (0 : Int) ≤ (k : Int) := by omega
      have HKS := Lib.hid hks
      obtain ⟨b, off, hla, -, -, hbw, c0, c1, c2, c3⟩ := vals_at HSL.out hks
      replace c0 := blkv HBR.out c0
      replace c1 := blkv HBR.out c1
      replace c2 := blkv HBR.out c2
      replace c3 := blkv HBR.out c3
      have HTZ := Lib.hid (twin14_c z wr ((HY.out.kids z (List.mem_of_getElem? hks)).1.up HBR.out) (HY.out.kids z (List.mem_of_getElem? hks)).2)
      have hul : u.l.length ≤ 1048576 := by
        have := congrArg List.length HUV.out
        rw [List.length_map, List.length_map, List.length_take] at this
        omega
      rw [hla]
      clear hla hbw hks
      go_wp2_with (first
        | (at_builtin; refine wl_append (s := .tmp 22) (x := .tmp 28) rfl rfl (hr _) ?_; clear hr)
        | (go_at_call 9; (with_reducible refine HTZ.out.mono ?_); rintro e w5 ⟨z', rfl, hzv, hzT, h5⟩
           obtain ⟨u', W', hr, hu', hut, hbw⟩ := ttrees_add HU.out HDR.out.size h5 hzT hul
           have HU' := Lib.hid hut
           have HL' := Lib.hid hu'
           have HB' := Lib.hid (HDR.out.trans hbw)
           have HZV := Lib.hid hzv
           clear hut hu' hbw hzv hzT h5))
      exact ⟨⟨k + 1, u', by omega, by go_num, rfl, HU', Lib.hid (by rw [HL'.out, List.map_append, HUV.out, List.take_add_one, HKS.out, List.map_append]; simp [HZV.out]), HB'⟩, by simp [intOf]; omega⟩
    · have hkl : k = y.l.length := by omega
      subst hkl
      have hge : ¬ (y.l.length : Int) < (y.l.length : Int) := by omega
      obtain ⟨W9, hW9⟩ : ∃ W, W = wr := ⟨_, rfl⟩
      subst hW9
      have huv : u.l.map AV.v = y.l.map AV.v := by rw [HUV.out, List.take_length]
      have hulen : u.l.length = y.l.length := by
        have := congrArg List.length huv
        rwa [List.length_map, List.length_map] at this
      have HUR := Lib.hid (show ∀ W, Below W9.heap.size W9 W → u.Rd W from fun W h => ⟨((own_sl AV.enc_len HU.out.1).widen (Nat.zero_le _) (Nat.le_refl _)).up h, by rw [hulen]; exact hlen, fun r hr => by
        have hm : r.v ∈ y.l.map AV.v := by rw [← huv]; exact List.mem_map_of_mem hr
        obtain ⟨z, hz, e⟩ := List.mem_map.1 hm
        have e2 : r.w = z.w := by show r.v.w = z.v.w; rw [e]
        exact ⟨AV.Tw.rd r ((HU.out.tw hr).up h), by rw [e2]; exact (HY.out.kids z hz).2⟩⟩)
      have HUT := Lib.hid (show ∀ r ∈ u.l, ∀ W, Below W9.heap.size W9 W → r.Tw W 0 W.heap.size from fun r hr W h => (HU.out.tw hr).up h)
      have HUL := Lib.hid (And.intro huv hulen)
      have HX9 := Lib.hid (blk_via HDR.out HX4.out)
      have HT9 := Lib.hid (blk_via HDR.out HT4.out)
      have HD9 := HDR
      obtain ⟨ma, hma⟩ : ∃ m, m = x.v.may := ⟨_, rfl⟩
      obtain ⟨P, hP⟩ : ∃ P, P = (nearP x.v (y.l.map AV.v) y.l.length).1 := ⟨_, rfl⟩
      have HH1 := fun W (h : Below W9.heap.size W9 W) => Lib.hid (show Calls Tryz.prog 10 #[t.val, .slice u.a u.l.length u.c] W (Ret (.int .i64 P) W) by
        have hu := HUR.out W h
        have := nearest_c W t u.a u.c u.l hu.sl hu.len (AV.Tw.rd t (HTT.out W (below_via HD9.out h))) hwt hu.kids
        rwa [HTV.out, HUL.out.1, HUL.out.2, ← hP, ← HUL.out.2] at this)
      have HH2 := fun W (h : Below W9.heap.size W9 W) => Lib.hid (show Calls Tryz.prog 11 #[x.val, .slice y.a y.l.length y.c] W (Ret (.int .i64 P) W) by
        have := rnearest_c W x y (HRX.out W (below_via HBR.out h)) hwx (HYR.out W (below_via HBR.out h))
        rwa [← hP] at this)
      have HH3 := fun W (h : Below W9.heap.size W9 W) => Lib.hid (show Calls Tryz.prog 12 #[t.val, t.val] W (Ret (.bool ma) W) by
        have hr := AV.Tw.rd t (HTT.out W (below_via HD9.out h))
        have := are21_c W t t hr hr hwt hwt
        rwa [are_self, HTV.out, ← hma] at this)
      have HH4 := fun W (h : Below W9.heap.size W9 W) => Lib.hid (show Calls Tryz.prog 13 #[x.val] W (Ret (.bool ma) W) by
        rw [hma]; exact rmay_c x W (HRX.out W (below_via HBR.out h)) hwx)
      have hpp : (P != P) = false := by simp
      obtain ⟨p0, p1, p2, p3⟩ := vb4 HX9.out
      obtain ⟨q0, q1, q2, q3⟩ := vb4 HT9.out
      have LD := Lib.hid (fun W (h : Below W9.heap.size W9 W) => And.intro (blkv h p0) (And.intro (blkv h p1) (And.intro (blkv h p2) (And.intro (blkv h p3) (And.intro (blkv h q0) (And.intro (blkv h q1) (And.intro (blkv h q2) (blkv h q3))))))))
      clear huv hulen hma hP p0 p1 p2 p3 q0 q1 q2 q3
      go_upto_region 9 with fail
      go_cut [46] (fun s46 wx => s46 = .bool false ∧ Hid (Below W9.heap.size W9 wx))
      case first =>
        cases ma with
        | true =>
          refine wp_region_bl (by kernel_rfl) (by kernel_rfl) ?_
          repeat (first | go_big_quiet_skip | (go_big_quiet_want; go_big_quiet_op; first | go_big_quiet_on | (refine ⟨_, fun _ _ => (by with_reducible rfl), ?_⟩; go_big_quiet_on) | (apply Exists.intro; refine ⟨fun w' hC => (by simp only [LD.out w' hC, Result.andThen]; exact ⟨trivial, rfl⟩), ?_⟩; go_big_quiet_on) | (apply Exists.intro; refine ⟨fun w' hC => (by (with_reducible refine (HH1 w' hC).out.mono ?_); exact fun e w2 ⟨he, hb⟩ => ⟨he, hC.trans (hb.mono hC.size)⟩), ?_⟩; go_big_quiet_on) | (apply Exists.intro; refine ⟨fun w' hC => (by (with_reducible refine (HH2 w' hC).out.mono ?_); exact fun e w2 ⟨he, hb⟩ => ⟨he, hC.trans (hb.mono hC.size)⟩), ?_⟩; go_big_quiet_on) | (apply Exists.intro; refine ⟨fun w' hC => (by (with_reducible refine (HH3 w' hC).out.mono ?_); exact fun e w2 ⟨he, hb⟩ => ⟨he, hC.trans (hb.mono hC.size)⟩), ?_⟩; go_big_quiet_on) | (apply Exists.intro; refine ⟨fun w' hC => (by (with_reducible refine (HH4 w' hC).out.mono ?_); exact fun e w2 ⟨he, hb⟩ => ⟨he, hC.trans (hb.mono hC.size)⟩), ?_⟩; go_big_quiet_on)))
          refine wpQuiet_nil ?_; intro wz hbz
          go_wp2_with fail
          go_meet
          exact ⟨rfl, Lib.hid hbz⟩
        | false =>
          refine wp_region_bl (by kernel_rfl) (by kernel_rfl) ?_
          repeat (first | go_big_quiet_skip | (go_big_quiet_want; go_big_quiet_op; first | go_big_quiet_on | (refine ⟨_, fun _ _ => (by with_reducible rfl), ?_⟩; go_big_quiet_on) | (apply Exists.intro; refine ⟨fun w' hC => (by simp only [LD.out w' hC, Result.andThen]; exact ⟨trivial, rfl⟩), ?_⟩; go_big_quiet_on) | (apply Exists.intro; refine ⟨fun w' hC => (by (with_reducible refine (HH1 w' hC).out.mono ?_); exact fun e w2 ⟨he, hb⟩ => ⟨he, hC.trans (hb.mono hC.size)⟩), ?_⟩; go_big_quiet_on) | (apply Exists.intro; refine ⟨fun w' hC => (by (with_reducible refine (HH2 w' hC).out.mono ?_); exact fun e w2 ⟨he, hb⟩ => ⟨he, hC.trans (hb.mono hC.size)⟩), ?_⟩; go_big_quiet_on) | (apply Exists.intro; refine ⟨fun w' hC => (by (with_reducible refine (HH3 w' hC).out.mono ?_); exact fun e w2 ⟨he, hb⟩ => ⟨he, hC.trans (hb.mono hC.size)⟩), ?_⟩; go_big_quiet_on) | (apply Exists.intro; refine ⟨fun w' hC => (by (with_reducible refine (HH4 w' hC).out.mono ?_); exact fun e w2 ⟨he, hb⟩ => ⟨he, hC.trans (hb.mono hC.size)⟩), ?_⟩; go_big_quiet_on)))
          refine wpQuiet_nil ?_; intro wz hbz
          go_wp2_with fail
          go_meet
          exact ⟨rfl, Lib.hid hbz⟩
      case rest =>
        obtain ⟨rfl, HC9⟩ := hcut
        clear HH1 HH2 HH3 HH4 LD hpp
        go_wp2_with fail
        obtain ⟨WB, hWB⟩ : ∃ W, W = wc := ⟨_, rfl⟩
        subst hWB
        go_loopw [8] (fun s8 wr => ∃ k : Nat, k ≤ y.l.length ∧ s8 = .int .i64 (k : Int) ∧ Hid (Below W9.heap.size W9 wr)) (fun s8 _ => y.l.length - (intOf s8).toNat)
        case atStart => exact ⟨0, Nat.zero_le _, rfl, HC9⟩
        case round =>
          obtain ⟨k, hk, rfl, HDK⟩ := hrel
          by_cases hlt : k < y.l.length
          · have hks : y.l[k]? = some y.l[k] := List.getElem?_eq_getElem hlt
            generalize y.l[k] = z at *
            have hlu : k < u.l.length := by rw [HUL.out.2]; exact hlt
            have hku : u.l[k]? = some u.l[k] := List.getElem?_eq_getElem hlu
            generalize u.l[k] = v at *
            have hvz : v.v = z.v := by
              have h1 : (u.l.map AV.v)[k]? = some v.v := by rw [List.getElem?_map, hku]; rfl
              rw [HUL.out.1, List.getElem?_map, hks] at h1
              injection h1 with h1
              exact h1.symm
            have hlt' : (k : Int) < (y.l.length : Int) := by omega
            have hlu' : (k : Int) < (u.l.length : Int) := by omega
            have hk0 : (0 : Int) ≤ (k : Int) := by omega
            obtain ⟨b, off, hla, -, -, -, c0, c1, c2, c3⟩ := vals_at HSL.out hks
            obtain ⟨b2, off2, hla2, -, -, -, d0, d1, d2, d3⟩ := vals_at (HUR.out W9 (Below.refl _ _)).sl hku
            have HCL := Lib.hid (show ∀ W, Below W9.heap.size W9 W → (W.cell? ⟨b, off + k * 4, none⟩ = some (.int .u8 z.k) ∧ W.cell? ⟨b, off + k * 4 + 1, none⟩ = some (.string z.t) ∧ W.cell? ⟨b, off + k * 4 + 2, none⟩ = some (.slice z.la z.l.length z.lc) ∧ W.cell? ⟨b, off + k * 4 + 3, none⟩ = some (.slice z.ka z.ks.length z.kc)) ∧ (W.cell? ⟨b2, off2 + k * 4, none⟩ = some (.int .u8 v.k) ∧ W.cell? ⟨b2, off2 + k * 4 + 1, none⟩ = some (.string v.t) ∧ W.cell? ⟨b2, off2 + k * 4 + 2, none⟩ = some (.slice v.la v.l.length v.lc) ∧ W.cell? ⟨b2, off2 + k * 4 + 3, none⟩ = some (.slice v.ka v.ks.length v.kc)) from fun W h =>
              ⟨⟨blkv (below_via HBR.out h) c0, blkv (below_via HBR.out h) c1, blkv (below_via HBR.out h) c2, blkv (below_via HBR.out h) c3⟩, blkv h d0, blkv h d1, blkv h d2, blkv h d3⟩)
            have hwz := (HY.out.kids z (List.mem_of_getElem? hks)).2
            have hwv : v.w ≤ 1048576 := by show v.v.w ≤ _; rw [hvz]; exact hwz
            have HRZ := Lib.hid (show ∀ W, Below W9.heap.size W9 W → Rd W z from fun W h => (HY.out.kids z (List.mem_of_getElem? hks)).1.up (below_via HBR.out h))
            have HTW := Lib.hid (HUT.out v (List.mem_of_getElem? hku))
            have HVZ := Lib.hid hvz
            rw [hla, hla2]
            obtain ⟨ia, hia⟩ : ∃ i, i = (nearI x.v z.v != -1) := ⟨_, rfl⟩
            have HRA := Lib.hid (show ∀ W, Below W9.heap.size W9 W → Calls Tryz.prog 14 #[x.val, z.val] W (Ret (.bool ia) W) from fun W h => by rw [hia]; exact rare_c W x z (HRX.out W (below_via HBR.out h)) (HRZ.out W h) hwx hwz)
            have HA1 := Lib.hid (show ∀ W, Below W9.heap.size W9 W → Calls Tryz.prog 12 #[t.val, v.val] W (Ret (.bool ia) W) from fun W h => by
              have := are21_c W t v (AV.Tw.rd t (HTT.out W (below_via HD9.out h))) (AV.Tw.rd v (HTW.out W h)) hwt hwv
              rwa [HTV.out, HVZ.out, ← hia] at this)
            have HA2 := Lib.hid (show ∀ W, Below W9.heap.size W9 W → Calls Tryz.prog 12 #[v.val, t.val] W (Ret (.bool ia) W) from fun W h => by
              have := are21_c W v t (AV.Tw.rd v (HTW.out W h)) (AV.Tw.rd t (HTT.out W (below_via HD9.out h))) hwv hwt
              rwa [HTV.out, HVZ.out, are_symm, ← hia] at this)
            have HLF := Lib.hid (show ∀ W, Below W9.heap.size W9 W → Calls Tryz.prog 15 #[v.val, z.val] W (Ret (.bool true) W) from fun W h => left14_c z v W HVZ.out (HTW.out W h) (HRZ.out W h) hwz)
            have HXK := Lib.hid (blk_via HDK.out HX9.out)
            obtain ⟨⟨e0, e1, e2, e3⟩, -⟩ := HCL.out wr HDK.out
            obtain ⟨p0, p1, p2, p3⟩ := vb4 HXK.out
            have LD := Lib.hid (fun W (h : Below wr.heap.size wr W) => And.intro (blkv h p0) (And.intro (blkv h p1) (And.intro (blkv h p2) (And.intro (blkv h p3) (And.intro (blkv h e0) (And.intro (blkv h e1) (And.intro (blkv h e2) (blkv h e3))))))))
            have HH1 := fun W (h : Below wr.heap.size wr W) => Lib.hid (HRA.out W (below_via HDK.out h))
            clear hvz hia hla hla2 hks hku c0 c1 c2 c3 d0 d1 d2 d3 e0 e1 e2 e3 p0 p1 p2 p3 hlu
            go_upto_region 14 with fail
            refine wp_region_bl (by kernel_rfl) (by kernel_rfl) ?_
            repeat (first | go_big_quiet_skip | (go_big_quiet_want; go_big_quiet_op; first | go_big_quiet_on | (refine ⟨_, fun _ _ => (by with_reducible rfl), ?_⟩; go_big_quiet_on) | (apply Exists.intro; refine ⟨fun w' hC => (by simp only [LD.out w' hC, Result.andThen]; exact ⟨trivial, rfl⟩), ?_⟩; go_big_quiet_on) | (apply Exists.intro; refine ⟨fun w' hC => (by (with_reducible refine (HH1 w' hC).out.mono ?_); exact fun e w2 ⟨he, hb⟩ => ⟨he, hC.trans (hb.mono hC.size)⟩), ?_⟩; go_big_quiet_on)))
            refine wpQuiet_nil ?_; intro wz hbz
            obtain ⟨WC, hWC⟩ : ∃ W, W = wz := ⟨_, rfl⟩
            subst hWC
            have HDC := Lib.hid (below_via HDK.out hbz)
            clear hbz LD HH1
            obtain ⟨⟨e0, e1, e2, e3⟩, d0, d1, d2, d3⟩ := HCL.out WC HDC.out
            obtain ⟨q0, q1, q2, q3⟩ := vb4 (blk_via HDC.out HT9.out)
            have LD := Lib.hid (fun W (h : Below WC.heap.size WC W) => And.intro (blkv h q0) (And.intro (blkv h q1) (And.intro (blkv h q2) (And.intro (blkv h q3) (And.intro (blkv h e0) (And.intro (blkv h e1) (And.intro (blkv h e2) (And.intro (blkv h e3) (And.intro (blkv h d0) (And.intro (blkv h d1) (And.intro (blkv h d2) (blkv h d3))))))))))))
            have HH2 := fun W (h : Below WC.heap.size WC W) => Lib.hid (HA1.out W (below_via HDC.out h))
            have HH3 := fun W (h : Below WC.heap.size WC W) => Lib.hid (HA2.out W (below_via HDC.out h))
            have HH4 := fun W (h : Below WC.heap.size WC W) => Lib.hid (HLF.out W (below_via HDC.out h))
            clear e0 e1 e2 e3 d0 d1 d2 d3 q0 q1 q2 q3
            go_upto_region 15 with fail
            cases ia with
            | true =>
              refine wp_region_bl (by kernel_rfl) (by kernel_rfl) ?_
              repeat (first | go_big_quiet_skip | (go_big_quiet_want; go_big_quiet_op; first | go_big_quiet_on | (refine ⟨_, fun _ _ => (by with_reducible rfl), ?_⟩; go_big_quiet_on) | (apply Exists.intro; refine ⟨fun w' hC => (by simp only [LD.out w' hC, Result.andThen]; exact ⟨trivial, rfl⟩), ?_⟩; go_big_quiet_on) | (apply Exists.intro; refine ⟨fun w' hC => (by (with_reducible refine (HH2 w' hC).out.mono ?_); exact fun e w2 ⟨he, hb⟩ => ⟨he, hC.trans (hb.mono hC.size)⟩), ?_⟩; go_big_quiet_on) | (apply Exists.intro; refine ⟨fun w' hC => (by (with_reducible refine (HH3 w' hC).out.mono ?_); exact fun e w2 ⟨he, hb⟩ => ⟨he, hC.trans (hb.mono hC.size)⟩), ?_⟩; go_big_quiet_on) | (apply Exists.intro; refine ⟨fun w' hC => (by (with_reducible refine (HH4 w' hC).out.mono ?_); exact fun e w2 ⟨he, hb⟩ => ⟨he, hC.trans (hb.mono hC.size)⟩), ?_⟩; go_big_quiet_on)))
              refine wpQuiet_nil ?_; intro wz hbz
              go_wp2_with fail
              exact ⟨⟨k + 1, by omega, by go_num, Lib.hid (below_via HDC.out hbz)⟩, by simp [intOf]; omega⟩
            | false =>
              refine wp_region_bl (by kernel_rfl) (by kernel_rfl) ?_
              repeat (first | go_big_quiet_skip | (go_big_quiet_want; go_big_quiet_op; first | go_big_quiet_on | (refine ⟨_, fun _ _ => (by with_reducible rfl), ?_⟩; go_big_quiet_on) | (apply Exists.intro; refine ⟨fun w' hC => (by simp only [LD.out w' hC, Result.andThen]; exact ⟨trivial, rfl⟩), ?_⟩; go_big_quiet_on) | (apply Exists.intro; refine ⟨fun w' hC => (by (with_reducible refine (HH2 w' hC).out.mono ?_); exact fun e w2 ⟨he, hb⟩ => ⟨he, hC.trans (hb.mono hC.size)⟩), ?_⟩; go_big_quiet_on) | (apply Exists.intro; refine ⟨fun w' hC => (by (with_reducible refine (HH3 w' hC).out.mono ?_); exact fun e w2 ⟨he, hb⟩ => ⟨he, hC.trans (hb.mono hC.size)⟩), ?_⟩; go_big_quiet_on) | (apply Exists.intro; refine ⟨fun w' hC => (by (with_reducible refine (HH4 w' hC).out.mono ?_); exact fun e w2 ⟨he, hb⟩ => ⟨he, hC.trans (hb.mono hC.size)⟩), ?_⟩; go_big_quiet_on)))
              refine wpQuiet_nil ?_; intro wz hbz
              go_wp2_with fail
              exact ⟨⟨k + 1, by omega, by go_num, Lib.hid (below_via HDC.out hbz)⟩, by simp [intOf]; omega⟩
          · have hkl : k = y.l.length := by omega
            subst hkl
            have hge2 : ¬ (y.l.length : Int) < (y.l.length : Int) := by omega
            have HLF := Lib.hid (left14_c x t wr HTV.out (HTT.out wr (below_via HD9.out HDK.out)) (HRX.out wr (below_via HBR.out HDK.out)) hwx)
            obtain ⟨p0, p1, p2, p3⟩ := vb4 (blk_via HDK.out HX9.out)
            obtain ⟨q0, q1, q2, q3⟩ := vb4 (blk_via HDK.out HT9.out)
            go_wp2_with (first
              | (go_at_call 8; (with_reducible refine (HLI _).out.mono ?_); rintro e w99 ⟨rfl, h99⟩)
              | (go_at_call 15; (with_reducible refine HLF.out.mono ?_); rintro e w20 ⟨rfl, h20⟩))
            go_ret
            exact ⟨rfl, below_via (below_via (below_via HBR.out HDK.out) h20) h99⟩
end Go.Proofs.YtmhkacafilpliaaGreat
