/-
  inarchref14.Same: are two values one? Condition: both lie in memory, their weights are bounded. (The first part of XRC, by itself.)
-/
import Derived.Test.YtmhkacafilpliaaGreatVE
import Derived.Test.YtmhkacafilpliaaGreatVN
import Derived.Test.YtmhkacafilpliaaGreatRB
import Derived.Test.YtmhkacafilpliaaGreatO5
import Derived.Test.YtmhkacafilpliaaGreatVS
namespace Go.Proofs.YtmhkacafilpliaaGreat
open Go.RowKit Go.Sort
theorem rd_duo_0 {w : World} {o1 o2 : Obj} : Below (w.heap.size + 1 + 1) ((w.alloc o1).alloc o2) ((w.alloc o1).alloc o2) := Below.refl _ _
theorem rd_duo_b {w : World} {o1 o2 : Obj} : Below w.heap.size w ((w.alloc o1).alloc o2) := ((Below.refl _ _).alloc (Nat.le_refl _) _).alloc (by simp) _
theorem rd_duo_at {w W : World} {o1 o2 : Obj} (hb : Below (w.heap.size + 1 + 1) ((w.alloc o1).alloc o2) W) : W.heap[w.heap.size]? = some o1 ∧ W.heap[w.heap.size + 1]? = some o2 ∧ w.heap.size + 1 < W.heap.size ∧ Below w.heap.size w W := by
  have hs := hb.size
  simp only [World.size_alloc] at hs
  have h2 := heap_alloc_new (w.alloc o1) o2
  simp only [World.size_alloc] at h2
  refine ⟨(hb.block _ (by omega)).trans ?_, (hb.block _ (by omega)).trans h2, by omega, ?_⟩
  · rw [heap_alloc_old _ _ _ (by simp)]; exact heap_alloc_new w o1
  · exact ((((Below.refl _ _).alloc (Nat.le_refl _) _).alloc (by simp) _)).trans (hb.mono (by omega))
theorem rd_tri_step {N : Nat} {A W W' : World} (h : Below N A W) (hb : Below W.heap.size W W') (hN : N ≤ A.heap.size) : Below N A W' := h.trans (hb.mono (Nat.le_trans hN h.size))
theorem rd_blk_up {w W : World} {i : Nat} {o : Obj} (h : Below w.heap.size w W) (hk : w.heap[i]? = some o) : W.heap[i]? = some o := (h.block i (Array.getElem?_eq_some_iff.1 hk).1).trans hk
theorem nodup_of_fstD {α β : Type} {l : List (α × β)} (h : (l.map (·.1)).Nodup) : l.Nodup := by
  induction l with
  | nil => exact .nil
  | cons x l ih =>
    rw [List.map_cons, List.nodup_cons] at h
    exact List.nodup_cons.2 ⟨fun hm => h.1 (List.mem_map_of_mem hm), ih h.2⟩
end Go.Proofs.YtmhkacafilpliaaGreat

namespace Go.Proofs.YtmhkacafilpliaaGreat
open Go.RowKit Go.Sort

theorem idxB_first {s : ByteArray} : ∀ {ks : List ByteArray} {m : Nat}, ks[m]? = some s → s ∉ ks.take m → idxB ks s = some m
  | [], m, h, _ => by simp at h
  | k :: ks, 0, h, _ => by
    simp at h
    simp [idxB, h]
  | k :: ks, m + 1, h, hn => by
    simp only [List.getElem?_cons_succ] at h
    simp only [List.take_succ_cons, List.mem_cons, not_or] at hn
    simp [idxB, Ne.symm hn.1, idxB_first h hn.2]
theorem not_take_snoc {s k : ByteArray} {ks : List ByteArray} {m : Nat} (h : ks[m]? = some k) (hn : s ∉ ks.take m) (hne : k ≠ s) : s ∉ ks.take (m + 1) := by
  rw [List.take_add_one, h]
  simp only [Option.toList, List.mem_append, List.mem_singleton, not_or]
  exact ⟨hn, Ne.symm hne⟩

theorem s_drew {N : Nat} {W : World} : (∀ b o, b < N → W.drew.cell? ⟨b, o, none⟩ = W.cell? ⟨b, o, none⟩) ∧ Below N W W.drew := ⟨fun _ _ _ => rfl, (Below.refl _ _).drew⟩

set_option maxRecDepth 100000 in
set_option maxHeartbeats 3200000 in
theorem find14_c (x : AV) (s : ByteArray) (w : World) (hx : Rd w x) (hlk : x.ks.length ≤ 1048576) : Calls Tryz.prog 73 #[x.val, .string s] w (Ret (.int .i64 (idxI x.ks s)) w) := by
  have HX := Lib.hid hx
  clear hx
  have hb0 : Below w.heap.size w (w.alloc (.cells #[.int .u8 x.k, .string x.t, .slice x.la x.l.length x.lc, .slice x.ka x.ks.length x.kc] 26)) := (Below.refl _ _).alloc (Nat.le_refl _) _
  have HB0 := Lib.hid hb0
  have HBX := Lib.hid (heap_alloc_new w (.cells #[.int .u8 x.k, .string x.t, .slice x.la x.l.length x.lc, .slice x.ka x.ks.length x.kc] 26))
  clear hb0
  go_enter Tryz.func73, Tryz.ntmps73
  go_wp2_with fail
  go_loopw [5] (fun i wr => ∃ m : Nat, m ≤ x.ks.length ∧ i = .int .i64 m ∧ s ∉ x.ks.take m ∧ Below (w.heap.size + 1) (w.alloc (.cells #[.int .u8 x.k, .string x.t, .slice x.la x.l.length x.lc, .slice x.ka x.ks.length x.kc] 26)) wr) (fun i _ => x.ks.length - (intOf i).toNat)
  case atStart => exact ⟨0, Nat.zero_le _, by go_num, by simp, Below.refl _ _⟩
  case round =>
    obtain ⟨m, hm, rfl, hn, hbr⟩ := hrel
    have hbw : Below w.heap.size w wr := HB0.out.trans (hbr.mono (by omega))
    have hsr := hbr.size
    rw [World.size_alloc] at hsr
    have hbx := (hbr.block w.heap.size (by omega)).trans HBX.out
    obtain ⟨q0, q1, q2, q3, -, -, -, -⟩ := vbox4 hbx
    have hl0 : w.heap.size < wr.heap.size := by omega
    have HBR := Lib.hid hbr
    have HBW := Lib.hid hbw
    have HN := Lib.hid hn
    by_cases hlt : m < x.ks.length
    · have hk : x.ks[m]? = some x.ks[m] := List.getElem?_eq_getElem hlt
      generalize x.ks[m] = k at hk
      obtain ⟨b2, o2, h2, -, -, g2, c2⟩ := key_at HX.out.keys hk
      rw [← hbw.cell (p := ⟨_, _, none⟩) g2] at c2
      have hlt' : (m : Int) < (x.ks.length : Int) := by omega
      have hm0 : (0 : Int) ≤ (m : Int) := by omega
      have g2' : b2 < wr.heap.size := by omega
      have hwm : IntKind.i64.wrap ((m : Int) + 1) = ((m + 1 : Nat) : Int) := by rw [IntWalk.i64_in _ (by omega)]; omega
      rw [h2] at q3
      by_cases he : k = s
      · subst he
        have hi := Lib.hid (show idxI x.ks k = (m : Int) by rw [idxI, idxB_first hk hn])
        have hbd : (k.toList == k.toList) = true := by simp
        clear h2 hbr hbw hn hbx hk
        go_wp2_with fail
        go_ret
        exact ⟨by rw [hi.out]; rfl, HBW.out⟩
      · have hbe : ¬ k.toList = s.toList := fun e => he (bl_eq e)
        have hbd : (k.toList == s.toList) = false := beq_false_of_ne hbe
        have hn' := Lib.hid (not_take_snoc hk hn he)
        clear h2 hbr hbw hn hbx hk
        go_wp2_with fail
        exact ⟨⟨m + 1, by omega, by go_num, hn'.out, HBR.out⟩, by simp [intOf]; omega⟩
    · obtain rfl : m = x.ks.length := by omega
      have hge : ¬ (x.ks.length : Int) < (x.ks.length : Int) := by omega
      have hi := Lib.hid (show idxI x.ks s = -1 from idxI_none (by rw [List.take_length] at hn; exact hn))
      clear hbr hbw hn hbx
      go_wp2_with fail
      go_ret
      exact ⟨by rw [hi.out]; rfl, HBW.out⟩

/-- What the reference's Get hands back: the element itself. -/
def RGetPost (x : AV) (s : ByteArray) (w : World) (e : Ending) (w' : World) : Prop :=
  ((∃ y : AV, y ∈ x.l ∧ x.v.get s = some y.v ∧ e = .returned (.tuple #[y.val, .bool true])) ∨ (x.v.get s = none ∧ e = .returned (.tuple #[zAV.val, .bool false]))) ∧ Below w.heap.size w w'
theorem rget_fin {x : AV} {s : ByteArray} {w w' : World} (hn : x.v.get s = none) (hb : Below w.heap.size w w') : RGetPost x s w (.returned (.tuple #[.agg #[.int .u8 0, .string ⟨#[]⟩, .slice none 0 0, .slice none 0 0], .bool false])) w' := ⟨.inr ⟨hn, rfl⟩, hb⟩

end Go.Proofs.YtmhkacafilpliaaGreat

namespace Go.Proofs.YtmhkacafilpliaaGreat
open Go.RowKit Go.Sort

theorem shape_nokeys {v : Val} (h : v.shape = true) (hk : v.k ≠ 8) : v.ks = [] := by
  unfold Val.shape at h
  split at h
  · simp at h; exact h.2.2
  split at h
  · simp at h; exact h.2.2
  split at h
  · simp at h; exact h.2
  split at h
  · simp at h; exact h.2.2
  split at h
  · simp at h; exact h.2
  · cases h
theorem sub_perm {α : Type} : ∀ {l m : List α}, l.Nodup → (∀ x ∈ l, x ∈ m) → m.length ≤ l.length → l.Perm m
  | [], m, _, _, h => by
    have : m = [] := List.length_eq_zero_iff.1 (by simpa using h)
    rw [this]
  | x :: l, m, hn, hs, hl => by
    obtain ⟨s, t, rfl⟩ := List.append_of_mem (hs x List.mem_cons_self)
    rw [List.nodup_cons] at hn
    have h1 : l.Perm (s ++ t) := sub_perm hn.2 (fun y hy => by
      have := hs y (List.mem_cons_of_mem _ hy)
      simp only [List.mem_append, List.mem_cons] at this ⊢
      rcases this with h | h | h
      · exact .inl h
      · exact absurd (h ▸ hy) hn.1
      · exact .inr h) (by simp at hl ⊢; omega)
    exact (h1.cons x).trans List.perm_middle.symm
/-- A part of one value, and the one of another that it is to be the same as. -/
def Corr (a b : Val) (i : Nat) (y : Val) : Prop := ∃ j z, (if a.k = 8 then ∃ s, a.ks[i]? = some s ∧ idxB b.ks s = some j else j = i) ∧ b.l[j]? = some z ∧ cmpV 256 y z = 0
theorem kid_zero {y z : Val} (hy : y.within 255 = true) (hz : z.within 255 = true) : cmpV 256 y z = 0 ↔ canon 255 y = canon 255 z := by
  rw [cmpV_more 255 y z hy hz]
  exact cmpV_zero 255 y z hy hz
theorem zip_mem_iff {v : Val} {s : ByteArray} {y : Val} : (s, y) ∈ v.ks.zip v.l ↔ ∃ i : Nat, v.ks[i]? = some s ∧ v.l[i]? = some y := by
  constructor
  · intro h
    obtain ⟨i, hi⟩ := List.getElem?_of_mem h
    exact ⟨i, List.getElem?_zip_eq_some.1 hi⟩
  · rintro ⟨i, h1, h2⟩
    exact List.mem_of_getElem? (List.getElem?_zip_eq_some.2 ⟨h1, h2⟩ : (v.ks.zip v.l)[i]? = some (s, y))
set_option maxRecDepth 100000 in
theorem same_iff {a b : Val} (ha : a.may = true) (hb : b.may = true) : cmpV 256 a b = 0 ↔ (a.k = b.k ∧ a.t = b.t ∧ a.l.length = b.l.length) ∧ ∀ i y, a.l[i]? = some y → Corr a b i y := by
  have wa : a.within 256 = true := by rw [Val.may_eq]; exact ha
  have wb : b.within 256 = true := by rw [Val.may_eq]; exact hb
  obtain ⟨sa, ka⟩ := within_k (n := 255) wa
  obtain ⟨sb, kb⟩ := within_k (n := 255) wb
  rw [cmpV_zero 256 a b wa wb]
  by_cases hk : a.k = b.k
  · by_cases h8 : a.k = 8
    · have h8b : b.k = 8 := by rw [← hk]; exact h8
      obtain ⟨-, la, na⟩ := shape_map sa h8
      obtain ⟨-, lb, nb⟩ := shape_map sb h8b
      rw [canon_s 255 a, canon_s 255 b, if_pos h8, if_pos h8b, Val.mk.injEq]
      constructor
      · rintro ⟨-, ht, hv, hks⟩
        have hlen : a.l.length = b.l.length := by
          have := congrArg List.length hks
          rw [List.length_map, List.length_map, ents_len la, ents_len lb] at this
          exact this
        refine ⟨⟨hk, ht, hlen⟩, fun i y hy => ?_⟩
        have hi : i < a.ks.length := by have := (List.getElem?_eq_some_iff.1 hy).1; omega
        have hs : a.ks[i]? = some a.ks[i] := List.getElem?_eq_getElem hi
        generalize a.ks[i] = s at hs
        have hm : (s, y) ∈ a.ents := (ents_perm a).symm.subset (zip_mem_iff.2 ⟨i, hs, hy⟩)
        obtain ⟨p, hp⟩ := List.getElem?_of_mem hm
        have e1 : (a.ents.map (·.1))[p]? = some s := by rw [List.getElem?_map, hp]; rfl
        have e2 : (a.ents.map fun e => canon 255 e.2)[p]? = some (canon 255 y) := by rw [List.getElem?_map, hp]; rfl
        rw [hks, List.getElem?_map] at e1
        rw [hv, List.getElem?_map] at e2
        cases hq : b.ents[p]? with
        | none => rw [hq] at e1; cases e1
        | some e =>
          rw [hq] at e1 e2
          simp only [Option.map_some, Option.some.injEq] at e1 e2
          obtain ⟨t, z⟩ := e
          subst e1
          obtain ⟨j, j1, j2⟩ := zip_mem_iff.1 ((ents_perm b).subset (List.mem_of_getElem? hq))
          refine ⟨j, z, by rw [if_pos h8]; exact ⟨t, hs, idxB_at j1 nb⟩, j2, ?_⟩
          rw [kid_zero (ka y (List.mem_of_getElem? hy)) (kb z (List.mem_of_getElem? j2))]
          exact e2.symm
      · rintro ⟨⟨-, ht, hlen⟩, hc⟩
        have hA : (a.ents.map fun e => (e.1, canon 255 e.2)) = b.ents.map fun e => (e.1, canon 255 e.2) := by
          refine sorted_eq (sub_perm ?_ ?_ ?_) ?_ ?_ ?_
          · refine nodup_of_fstD ?_
            rw [List.map_map]
            show (a.ents.map fun e => e.1).Nodup
            have hp := (ents_perm a).map (·.1)
            refine hp.nodup_iff.2 ?_
            rw [List.map_fst_zip (by omega)]
            exact na
          · intro x hx
            obtain ⟨⟨s, y⟩, hm, rfl⟩ := List.mem_map.1 hx
            obtain ⟨i, i1, i2⟩ := zip_mem_iff.1 ((ents_perm a).subset hm)
            obtain ⟨j, z, hj, hz, h0⟩ := hc i y i2
            rw [if_pos h8] at hj
            obtain ⟨t, t1, t2⟩ := hj
            rw [i1] at t1
            cases t1
            rw [kid_zero (ka y (List.mem_of_getElem? i2)) (kb z (List.mem_of_getElem? hz))] at h0
            refine List.mem_map.2 ⟨(s, z), (ents_perm b).symm.subset (zip_mem_iff.2 ⟨j, idxB_some t2, hz⟩), ?_⟩
            show (s, canon 255 z) = (s, canon 255 y)
            rw [h0]
          · rw [List.length_map, List.length_map, ents_len la, ents_len lb, hlen]; exact Nat.le_refl _
          · intro x hx y hy e
            obtain ⟨p, hp, rfl⟩ := List.mem_map.1 hx
            obtain ⟨q, hq, rfl⟩ := List.mem_map.1 hy
            have := ents_key na p hp q hq e
            rw [this]
          · exact List.pairwise_map.2 (ents_sorted a)
          · exact List.pairwise_map.2 (ents_sorted b)
        refine ⟨hk, ht, ?_, ?_⟩
        · have := congrArg (List.map (·.2)) hA
          rw [List.map_map, List.map_map] at this
          exact this
        · have := congrArg (List.map (·.1)) hA
          rw [List.map_map, List.map_map] at this
          exact this
    · have h8b : b.k ≠ 8 := by rw [← hk]; exact h8
      rw [canon_s 255 a, canon_s 255 b, if_neg h8, if_neg h8b, shape_nokeys sa h8, shape_nokeys sb h8b, Val.mk.injEq]
      constructor
      · rintro ⟨-, ht, hl, -⟩
        have hlen : a.l.length = b.l.length := by
          have := congrArg List.length hl
          rwa [List.length_map, List.length_map] at this
        refine ⟨⟨hk, ht, hlen⟩, fun i y hy => ?_⟩
        have hi := (List.getElem?_eq_some_iff.1 hy).1
        have hz : b.l[i]? = some b.l[i] := List.getElem?_eq_getElem (by omega)
        refine ⟨i, b.l[i], by rw [if_neg h8], hz, ?_⟩
        rw [kid_zero (ka y (List.mem_of_getElem? hy)) (kb _ (List.mem_of_getElem? hz))]
        have := congrArg (fun l => l[i]?) hl
        simp only [List.getElem?_map, hy, hz, Option.map_some, Option.some.injEq] at this
        exact this
      · rintro ⟨⟨-, ht, hlen⟩, hc⟩
        refine ⟨hk, ht, List.ext_getElem? fun i => ?_, rfl⟩
        rw [List.getElem?_map, List.getElem?_map]
        cases hy : a.l[i]? with
        | none =>
          have : b.l[i]? = none := List.getElem?_eq_none (by have := List.getElem?_eq_none_iff.1 hy; omega)
          rw [this]
        | some y =>
          obtain ⟨j, z, hj, hz, h0⟩ := hc i y hy
          rw [if_neg h8] at hj
          subst hj
          rw [kid_zero (ka y (List.mem_of_getElem? hy)) (kb z (List.mem_of_getElem? hz))] at h0
          rw [hz, Option.map_some, Option.map_some, h0]
  · constructor
    · intro h
      have := congrArg Val.k h
      rw [canon_k, canon_k] at this
      exact absurd this hk
    · rintro ⟨⟨h, -⟩, -⟩
      exact absurd h hk

set_option maxRecDepth 100000 in
set_option maxHeartbeats 3200000 in
theorem rsame1_c : ∀ (x y : AV) (w : World), Rd w x → Rd w y → x.w ≤ 1048576 → y.w ≤ 1048576 → x.v.may = true → y.v.may = true →
    Calls Tryz.prog 56 #[x.val, y.val] w (Ret (.bool (decide (cmpV 256 x.v y.v = 0))) w) := fun x => AV.ind (P := fun x => ∀ (y : AV) (w : World), Rd w x → Rd w y → x.w ≤ 1048576 → y.w ≤ 1048576 → x.v.may = true → y.v.may = true →
    Calls Tryz.prog 56 #[x.val, y.val] w (Ret (.bool (decide (cmpV 256 x.v y.v = 0))) w)) (fun x ih y w hx hy hwx hwy hmx hmy => by
  have hll := x.w_l
  have hll2 := y.w_l
  have hlk2 := y.w_ks
  have hiff := same_iff hmx hmy
  rw [AV.v_k, AV.v_k, AV.v_t, AV.v_t, AV.v_l, AV.v_l, List.length_map, List.length_map] at hiff
  have hB0 := rd_duo_0 (w := w) (o1 := .cells #[.int .u8 x.k, .string x.t, .slice x.la x.l.length x.lc, .slice x.ka x.ks.length x.kc] 26) (o2 := .cells #[.int .u8 y.k, .string y.t, .slice y.la y.l.length y.lc, .slice y.ka y.ks.length y.kc] 26)
  obtain ⟨W2, hW2⟩ : ∃ W2, (w.alloc (.cells #[.int .u8 x.k, .string x.t, .slice x.la x.l.length x.lc, .slice x.ka x.ks.length x.kc] 26)).alloc (.cells #[.int .u8 y.k, .string y.t, .slice y.la y.l.length y.lc, .slice y.ka y.ks.length y.kc] 26) = W2 := ⟨_, rfl⟩
  have HT := Lib.hid (show ∀ W, Below (w.heap.size + 1 + 1) W2 W → _ from fun W (h : Below (w.heap.size + 1 + 1) W2 W) => rd_duo_at (w := w) (W := W) (o1 := .cells #[.int .u8 x.k, .string x.t, .slice x.la x.l.length x.lc, .slice x.ka x.ks.length x.kc] 26) (o2 := .cells #[.int .u8 y.k, .string y.t, .slice y.la y.l.length y.lc, .slice y.ka y.ks.length y.kc] 26) (by rw [hW2]; exact h))
  rw [hW2] at hB0
  obtain ⟨k1, k2, k3, k4⟩ := HT.out W2 hB0
  obtain ⟨q0, q1, q2, q3, -, -, -, -⟩ := vbox4 k1
  obtain ⟨p0, p1, p2, p3, -, -, -, -⟩ := vbox4 k2
  have hs2 : W2.heap.size = w.heap.size + 1 + 1 := by rw [← hW2]; simp
  have l1 : w.heap.size < W2.heap.size := by omega
  have HB0 := Lib.hid hB0
  have HS2 := Lib.hid hs2
  have HW2 := Lib.hid hW2
  have HX := Lib.hid hx
  have HY := Lib.hid hy
  have HI := Lib.hid ih
  have HM := Lib.hid (And.intro hmx hmy)
  have K4 := Lib.hid k4
  clear hB0 hW2 hs2 hx hy ih hmx hmy k1 k2 k3 k4
  by_cases hk : x.k = y.k
  · by_cases ht : x.t = y.t
    · by_cases hl : x.l.length = y.l.length
      · have e0 : (x.k != y.k) = false := by simp [hk]
        have e1 : (x.t.toList == y.t.toList) = true := by rw [str_beq]; exact decide_eq_true ht
        have e1' : decide (x.t = y.t) = true := decide_eq_true ht
        have e2 : ((x.l.length : Int) != (y.l.length : Int)) = false := by rw [bne_eq_false_iff_eq]; omega
        have hsh : x.k = 8 → x.ks.length = x.l.length ∧ y.ks.length = y.l.length := fun h8 => by
          have h1 := (shape_map (within_sh (n := 256) (by rw [Val.may_eq]; exact HM.out.1)) (by rw [AV.v_k]; exact h8)).2.1
          have h2 := (shape_map (within_sh (n := 256) (by rw [Val.may_eq]; exact HM.out.2)) (by rw [AV.v_k, ← hk]; exact h8)).2.1
          rw [AV.v_ks, AV.v_l, List.length_map] at h1 h2
          exact ⟨h1, h2⟩
        have HC : ∀ m e, x.l[m]? = some e → ¬ Corr x.v y.v m e.v → decide (cmpV 256 x.v y.v = 0) = false := fun m e he hn => decide_eq_false fun h => hn ((hiff.1 h).2 m e.v (by rw [List.getElem?_map, he]; rfl))
        have HT1 : (∀ m e, x.l[m]? = some e → Corr x.v y.v m e.v) → decide (cmpV 256 x.v y.v = 0) = true := fun h => decide_eq_true (hiff.2 ⟨⟨hk, ht, hl⟩, fun i v hv => by
          rw [List.getElem?_map] at hv
          cases he : x.l[i]? with
          | none => rw [he] at hv; cases hv
          | some e => rw [he] at hv; cases hv; exact h i e he⟩)
        have HSH := Lib.hid hsh
        have HHC := Lib.hid HC
        have HHT := Lib.hid HT1
        have HK := Lib.hid hk
        have HLL := Lib.hid hl
        clear hiff hsh HC HT1 hk ht hl
        go_enter Tryz.func56, Tryz.ntmps56
        go_wp2_with fail
        rw [HW2.out]
        go_loopw [5] (fun s5 wr => ∃ m : Nat, m ≤ x.l.length ∧ s5 = .int .i64 m ∧ (∀ q e, q < m → x.l[q]? = some e → Corr x.v y.v q e.v) ∧ Below (w.heap.size + 1 + 1) W2 wr) (fun s5 _ => x.l.length - (intOf s5).toNat)
        case atStart => exact ⟨0, Nat.zero_le _, rfl, fun q e h => absurd h (Nat.not_lt_zero _), HB0.out⟩
        case round =>
          obtain ⟨m, hm, rfl, hall, hbr⟩ := hrel
          clear q0 q1 q2 q3 p0 p1 p2 p3 l1 K4
          obtain ⟨k1, k2, k3, k5⟩ := HT.out wr hbr
          obtain ⟨q0, q1, q2, q3, -, -, -, -⟩ := vbox4 k1
          have l1 : w.heap.size < wr.heap.size := by omega
          have HBR := Lib.hid hbr
          have HALL := Lib.hid hall
          have K1 := Lib.hid k1
          have K2 := Lib.hid k2
          have K5 := Lib.hid k5
          clear hbr hall k1 k2 k5
          by_cases hlt : m < x.l.length
          · have he : x.l[m]? = some x.l[m] := List.getElem?_eq_getElem hlt
            have hem : x.l[m] ∈ x.l := List.getElem_mem hlt
            generalize x.l[m] = e at he hem
            obtain ⟨be, oe, hla, -, -, ge, e0', e1', e2', e3'⟩ := vals_at (HX.out.up K5.out).sl he
            have hew := AV.w_kid hem
            have hemay : e.v.may = true := (may_kid HM.out.1 (by rw [AV.v_l]; exact List.mem_map_of_mem hem)).2
            have hlt' : (m : Int) < (x.l.length : Int) := by omega
            have hm0 : (0 : Int) ≤ (m : Int) := by omega
            have hwm : IntKind.i64.wrap ((m : Int) + 1) = ((m + 1 : Nat) : Int) := by rw [IntWalk.i64_in _ (by omega)]; omega
            have hnext : Corr x.v y.v m e.v → ∀ q e', q < m + 1 → x.l[q]? = some e' → Corr x.v y.v q e'.v := fun hc q e' hq he' => by
              rcases Nat.lt_or_ge q m with h | h
              · exact HALL.out q e' h he'
              · obtain rfl : q = m := by omega
                rw [he] at he'; cases he'; exact hc
            have HNX := Lib.hid hnext
            have HHCm := Lib.hid (HHC.out m e he)
            by_cases h8 : x.k = 8
            · have e8 : (x.k == 8) = true := by simp [h8]
              have HSM := Lib.hid (HSH.out h8)
              have hmk : m < x.ks.length := by have := HSM.out.1; omega
              have hks : x.ks[m]? = some x.ks[m] := List.getElem?_eq_getElem hmk
              generalize x.ks[m] = s at hks
              obtain ⟨bk, ok, hka, -, -, gk, s0'⟩ := key_at (HX.out.up K5.out).keys hks
              have hm2 : (m : Int) < (x.ks.length : Int) := by have := HSM.out.1; omega
              have HFI := fun W (h : Below wr.heap.size wr W) => Lib.hid (find14_c y s W (HY.out.up (below_via K5.out h)) (by omega))
              have LD := Lib.hid (show ∀ W, Below wr.heap.size wr W → _ from fun W (h : Below wr.heap.size wr W) => And.intro (vbox4 (rd_blk_up h K1.out)) (And.intro (vbox4 (rd_blk_up h K2.out)) ((h.cell (p := ⟨_, _, none⟩) gk).trans s0')))
              rw [hka] at LD
              cases hi : idxB y.ks s with
              | none =>
                have hii : idxI y.ks s = -1 := by rw [idxI, hi]
                rw [hii] at HFI
                have HF := Lib.hid (HHCm.out (fun h => by
                  obtain ⟨j, z, hj, -, -⟩ := h
                  rw [AV.v_k, if_pos h8, AV.v_ks, AV.v_ks] at hj
                  obtain ⟨t, t1, t2⟩ := hj
                  rw [hks] at t1; cases t1
                  rw [hi] at t2; cases t2))
                have hm1 : decide ((-1 : Int) < 0) = true := by decide
                clear he hem hks hka hi hii hnext e0' e1' e2' e3' s0' hla h8
                go_wp2_with fail
                refine wp_region_bl (by kernel_rfl) (by kernel_rfl) ?_
                repeat (first | go_big_quiet_skip | (go_big_quiet_want; go_big_quiet_op; first | go_big_quiet_on | (refine ⟨_, fun _ _ => (by with_reducible rfl), ?_⟩; go_big_quiet_on) | (apply Exists.intro; refine ⟨fun w' hC => (by simp only [LD.out w' hC, Result.andThen]; exact ⟨trivial, rfl⟩), ?_⟩; go_big_quiet_on) | (apply Exists.intro; refine ⟨fun w' hC => (by (with_reducible refine (HFI w' hC).out.mono ?_); exact fun e w2 ⟨he, hb⟩ => ⟨he, hC.trans (hb.mono hC.size)⟩), ?_⟩; go_big_quiet_on)))
                refine wpQuiet_nil ?_; intro wz hbz
                go_wp2_with fail
                have LD := Lib.hid (show ∀ W, Below wz.heap.size wz W → _ from fun W (h : Below wz.heap.size wz W) => LD.out W (below_via hbz h))
                have hbz0 := Lib.hid hbz
                have l2 : w.heap.size < wz.heap.size := by have := hbz.size; omega
                refine wp_region_bl (by kernel_rfl) (by kernel_rfl) ?_
                repeat (first | go_big_quiet_skip | (go_big_quiet_want; go_big_quiet_op; first | go_big_quiet_on | (refine ⟨_, fun _ _ => (by with_reducible rfl), ?_⟩; go_big_quiet_on)))
                refine wpQuiet_nil ?_; intro wz hbz
                go_wp2_with fail
                go_ret
                exact ⟨by rw [HF.out]; rfl, below_via K5.out (below_via hbz0.out hbz)⟩
              | some j =>
                have hii : idxI y.ks s = (j : Int) := by rw [idxI, hi]
                rw [hii] at HFI
                have hjk := idxB_some hi
                have hlt2 : j < y.l.length := by have := (List.getElem?_eq_some_iff.1 hjk).1; have := HSM.out.2; omega
                have hf : y.l[j]? = some y.l[j] := List.getElem?_eq_getElem hlt2
                have hfm : y.l[j] ∈ y.l := List.getElem_mem hlt2
                generalize y.l[j] = f at hf hfm
                have hcorr : Corr x.v y.v m e.v ↔ cmpV 256 e.v f.v = 0 := by
                  unfold Corr
                  rw [AV.v_k]
                  constructor
                  · rintro ⟨q, z, hj, hz, h0⟩
                    rw [if_pos h8, AV.v_ks, AV.v_ks] at hj
                    obtain ⟨t, t1, t2⟩ := hj
                    rw [hks] at t1; cases t1
                    rw [hi] at t2; cases t2
                    rw [AV.v_l, List.getElem?_map, hf] at hz
                    cases hz
                    exact h0
                  · intro h0
                    exact ⟨j, f.v, by rw [if_pos h8, AV.v_ks, AV.v_ks]; exact ⟨s, hks, hi⟩, by rw [AV.v_l, List.getElem?_map, hf]; rfl, h0⟩
                obtain ⟨bf, of, hlb, -, -, gf, f0', f1', f2', f3'⟩ := vals_at (HY.out.up K5.out).sl hf
                have hfw := AV.w_kid hfm
                have hfmay : f.v.may = true := (may_kid HM.out.2 (by rw [AV.v_l]; exact List.mem_map_of_mem hfm)).2
                have HH0 := fun W (h : Below wr.heap.size wr W) => Lib.hid (HI.out e hem f W (Rd.up (HX.out.kid hem) (below_via K5.out h)) (Rd.up (HY.out.kid hfm) (below_via K5.out h)) (by omega) (by omega) hemay hfmay)
                have LDB := Lib.hid (show ∀ W, Below wr.heap.size wr W → _ from fun W (h : Below wr.heap.size wr W) => And.intro (vbox4 (rd_blk_up h K1.out)) (And.intro (vbox4 (rd_blk_up h K2.out)) (And.intro ((h.cell (p := ⟨_, _, none⟩) ge).trans e0') (And.intro ((h.cell (p := ⟨_, _, none⟩) ge).trans e1') (And.intro ((h.cell (p := ⟨_, _, none⟩) ge).trans e2') (And.intro ((h.cell (p := ⟨_, _, none⟩) ge).trans e3') (And.intro ((h.cell (p := ⟨_, _, none⟩) gf).trans f0') (And.intro ((h.cell (p := ⟨_, _, none⟩) gf).trans f1') (And.intro ((h.cell (p := ⟨_, _, none⟩) gf).trans f2') ((h.cell (p := ⟨_, _, none⟩) gf).trans f3'))))))))))
                rw [hla, hlb] at LDB
                have hlt2' : (j : Int) < (y.l.length : Int) := by omega
                have hj0 : (0 : Int) ≤ (j : Int) := by omega
                have hm1 : decide ((j : Int) < 0) = false := by rw [decide_eq_false_iff_not]; omega
                have HCR := Lib.hid hcorr
                clear he hem hks hka hi hii hnext e0' e1' e2' e3' s0' hla hlb f0' f1' f2' f3' hf hfm hcorr hjk h8
                go_wp2_with fail
                refine wp_region_bl (by kernel_rfl) (by kernel_rfl) ?_
                repeat (first | go_big_quiet_skip | (go_big_quiet_want; go_big_quiet_op; first | go_big_quiet_on | (refine ⟨_, fun _ _ => (by with_reducible rfl), ?_⟩; go_big_quiet_on) | (apply Exists.intro; refine ⟨fun w' hC => (by simp only [LD.out w' hC, Result.andThen]; exact ⟨trivial, rfl⟩), ?_⟩; go_big_quiet_on) | (apply Exists.intro; refine ⟨fun w' hC => (by (with_reducible refine (HFI w' hC).out.mono ?_); exact fun e w2 ⟨he, hb⟩ => ⟨he, hC.trans (hb.mono hC.size)⟩), ?_⟩; go_big_quiet_on)))
                refine wpQuiet_nil ?_; intro wz hbz
                go_wp2_with fail
                have HBZ := Lib.hid hbz
                have LD := Lib.hid (show ∀ W, Below wz.heap.size wz W → _ from fun W (h : Below wz.heap.size wz W) => LDB.out W (below_via HBZ.out h))
                have HH := fun W (h : Below wz.heap.size wz W) => HH0 W (below_via HBZ.out h)
                clear hbz LDB HH0 HFI
                cases hd : decide (cmpV 256 e.v f.v = 0) with
                | false =>
                  rw [hd] at HH
                  have HF := Lib.hid (HHCm.out (fun h => of_decide_eq_false hd (HCR.out.1 h)))
                  clear hd
                  refine wp_region_bl (by kernel_rfl) (by kernel_rfl) ?_
                  repeat (first | go_big_quiet_skip | (go_big_quiet_want; go_big_quiet_op; first | go_big_quiet_on | (refine ⟨_, fun _ _ => (by with_reducible rfl), ?_⟩; go_big_quiet_on) | (apply Exists.intro; refine ⟨fun w' hC => (by simp only [LD.out w' hC, Result.andThen]; exact ⟨trivial, rfl⟩), ?_⟩; go_big_quiet_on) | (apply Exists.intro; refine ⟨fun w' hC => (by (with_reducible refine (HH w' hC).out.mono ?_); exact fun e w2 ⟨he, hb⟩ => ⟨he, hC.trans (hb.mono hC.size)⟩), ?_⟩; go_big_quiet_on)))
                  refine wpQuiet_nil ?_; intro wz hbz
                  go_wp2_with fail
                  go_ret
                  exact ⟨by rw [HF.out]; rfl, below_via K5.out (below_via HBZ.out hbz)⟩
                | true =>
                  rw [hd] at HH
                  have HN := Lib.hid (HNX.out (HCR.out.2 (of_decide_eq_true hd)))
                  clear hd
                  refine wp_region_bl (by kernel_rfl) (by kernel_rfl) ?_
                  repeat (first | go_big_quiet_skip | (go_big_quiet_want; go_big_quiet_op; first | go_big_quiet_on | (refine ⟨_, fun _ _ => (by with_reducible rfl), ?_⟩; go_big_quiet_on) | (apply Exists.intro; refine ⟨fun w' hC => (by simp only [LD.out w' hC, Result.andThen]; exact ⟨trivial, rfl⟩), ?_⟩; go_big_quiet_on) | (apply Exists.intro; refine ⟨fun w' hC => (by (with_reducible refine (HH w' hC).out.mono ?_); exact fun e w2 ⟨he, hb⟩ => ⟨he, hC.trans (hb.mono hC.size)⟩), ?_⟩; go_big_quiet_on)))
                  refine wpQuiet_nil ?_; intro wz hbz
                  go_wp2_with fail
                  exact ⟨⟨m + 1, by omega, by go_num, HN.out, rd_tri_step HBR.out (below_via HBZ.out hbz) (by rw [HS2.out]; exact Nat.le_refl _)⟩, by simp [intOf]; omega⟩
            · have e8 : (x.k == 8) = false := by simp [h8]
              have hlt2 : m < y.l.length := by have := HLL.out; omega
              have hf : y.l[m]? = some y.l[m] := List.getElem?_eq_getElem hlt2
              have hfm : y.l[m] ∈ y.l := List.getElem_mem hlt2
              generalize y.l[m] = f at hf hfm
              have hcorr : Corr x.v y.v m e.v ↔ cmpV 256 e.v f.v = 0 := by
                unfold Corr
                rw [AV.v_k]
                constructor
                · rintro ⟨j, z, hj, hz, h0⟩
                  rw [if_neg h8] at hj
                  subst hj
                  rw [AV.v_l, List.getElem?_map, hf] at hz
                  cases hz
                  exact h0
                · intro h0
                  exact ⟨m, f.v, by rw [if_neg h8], by rw [AV.v_l, List.getElem?_map, hf]; rfl, h0⟩
              have BB := fun W (h : Below wr.heap.size wr W) => h
              obtain ⟨bf, of, hlb, -, -, gf, f0', f1', f2', f3'⟩ := vals_at (HY.out.up K5.out).sl hf
              have hfw := AV.w_kid hfm
              have hfmay : f.v.may = true := (may_kid HM.out.2 (by rw [AV.v_l]; exact List.mem_map_of_mem hfm)).2
              have HH := fun W (h : Below wr.heap.size wr W) => Lib.hid (HI.out e hem f W (Rd.up (HX.out.kid hem) (below_via K5.out h)) (Rd.up (HY.out.kid hfm) (below_via K5.out h)) (by omega) (by omega) hemay hfmay)
              have LD := Lib.hid (show ∀ W, Below wr.heap.size wr W → _ from fun W (h : Below wr.heap.size wr W) => And.intro (vbox4 (rd_blk_up h K1.out)) (And.intro (vbox4 (rd_blk_up h K2.out)) (And.intro ((h.cell (p := ⟨_, _, none⟩) ge).trans e0') (And.intro ((h.cell (p := ⟨_, _, none⟩) ge).trans e1') (And.intro ((h.cell (p := ⟨_, _, none⟩) ge).trans e2') (And.intro ((h.cell (p := ⟨_, _, none⟩) ge).trans e3') (And.intro ((h.cell (p := ⟨_, _, none⟩) gf).trans f0') (And.intro ((h.cell (p := ⟨_, _, none⟩) gf).trans f1') (And.intro ((h.cell (p := ⟨_, _, none⟩) gf).trans f2') ((h.cell (p := ⟨_, _, none⟩) gf).trans f3'))))))))))
              have hlt2' : (m : Int) < (y.l.length : Int) := by omega
              have hm1 : decide ((m : Int) < 0) = false := by rw [decide_eq_false_iff_not]; omega
              rw [hla, hlb] at LD
              have HCR := Lib.hid hcorr
              clear he hem hf hfm hcorr hla hlb hnext e0' e1' e2' e3' f0' f1' f2' f3'
              cases hd : decide (cmpV 256 e.v f.v = 0) with
              | false =>
                rw [hd] at HH
                have HF := Lib.hid (HHCm.out (fun h => of_decide_eq_false hd (HCR.out.1 h)))
                clear hd
                go_wp2_with fail
                refine wp_region_bl (by kernel_rfl) (by kernel_rfl) ?_
                repeat (first | go_big_quiet_skip | (go_big_quiet_want; go_big_quiet_op; first | go_big_quiet_on | (refine ⟨_, fun _ _ => (by with_reducible rfl), ?_⟩; go_big_quiet_on) | (apply Exists.intro; refine ⟨fun w' hC => (by simp only [LD.out w' hC, Result.andThen]; exact ⟨trivial, rfl⟩), ?_⟩; go_big_quiet_on) | (apply Exists.intro; refine ⟨fun w' hC => (by (with_reducible refine (HH w' hC).out.mono ?_); exact fun e w2 ⟨he, hb⟩ => ⟨he, hC.trans (hb.mono hC.size)⟩), ?_⟩; go_big_quiet_on)))
                refine wpQuiet_nil ?_; intro wz hbz
                go_wp2_with fail
                go_ret
                exact ⟨by rw [HF.out]; rfl, below_via K5.out hbz⟩
              | true =>
                rw [hd] at HH
                have HN := Lib.hid (HNX.out (HCR.out.2 (of_decide_eq_true hd)))
                clear hd
                go_wp2_with fail
                refine wp_region_bl (by kernel_rfl) (by kernel_rfl) ?_
                repeat (first | go_big_quiet_skip | (go_big_quiet_want; go_big_quiet_op; first | go_big_quiet_on | (refine ⟨_, fun _ _ => (by with_reducible rfl), ?_⟩; go_big_quiet_on) | (apply Exists.intro; refine ⟨fun w' hC => (by simp only [LD.out w' hC, Result.andThen]; exact ⟨trivial, rfl⟩), ?_⟩; go_big_quiet_on) | (apply Exists.intro; refine ⟨fun w' hC => (by (with_reducible refine (HH w' hC).out.mono ?_); exact fun e w2 ⟨he, hb⟩ => ⟨he, hC.trans (hb.mono hC.size)⟩), ?_⟩; go_big_quiet_on)))
                refine wpQuiet_nil ?_; intro wz hbz
                go_wp2_with fail
                exact ⟨⟨m + 1, by omega, by go_num, HN.out, rd_tri_step HBR.out hbz (by rw [HS2.out]; exact Nat.le_refl _)⟩, by simp [intOf]; omega⟩
          · obtain rfl : m = x.l.length := by omega
            have hge : ¬ (x.l.length : Int) < (x.l.length : Int) := by omega
            have HF := Lib.hid (HHT.out fun q e he => HALL.out q e (List.getElem?_eq_some_iff.1 he).1 he)
            go_wp2_with fail
            go_ret
            exact ⟨by rw [HF.out]; rfl, K5.out⟩
      · have HF := Lib.hid (show decide (cmpV 256 x.v y.v = 0) = false from decide_eq_false fun h => hl (hiff.1 h).1.2.2)
        have e2 : ((x.l.length : Int) != (y.l.length : Int)) = true := by simp; omega
        have e0 : (x.k != y.k) = false := by simp [hk]
        have e1 : (x.t.toList == y.t.toList) = true := by rw [str_beq]; exact decide_eq_true ht
        have e1' : decide (x.t = y.t) = true := decide_eq_true ht
        clear hiff hk ht hl
        go_enter Tryz.func56, Tryz.ntmps56
        go_wp2_with fail
        go_ret
        exact ⟨by rw [HF.out]; rfl, (by repeat (first | exact Below.refl _ _ | refine Below.drew ?_ | refine below_drewN ?_ _ | refine Below.setCell ?_ (by first | omega | (simp; done) | (simp; omega)) _ | refine Below.alloc ?_ (by first | omega | (simp; done) | (simp; omega)) _))⟩
    · have HF := Lib.hid (show decide (cmpV 256 x.v y.v = 0) = false from decide_eq_false fun h => ht (hiff.1 h).1.2.1)
      have e1 : (x.t.toList == y.t.toList) = false := by rw [str_beq]; exact decide_eq_false ht
      have e1' : decide (x.t = y.t) = false := decide_eq_false ht
      have e0 : (x.k != y.k) = false := by simp [hk]
      clear hiff hk ht
      go_enter Tryz.func56, Tryz.ntmps56
      go_wp2_with fail
      go_ret
      exact ⟨by rw [HF.out]; rfl, (by repeat (first | exact Below.refl _ _ | refine Below.drew ?_ | refine below_drewN ?_ _ | refine Below.setCell ?_ (by first | omega | (simp; done) | (simp; omega)) _ | refine Below.alloc ?_ (by first | omega | (simp; done) | (simp; omega)) _))⟩
  · have HF := Lib.hid (show decide (cmpV 256 x.v y.v = 0) = false from decide_eq_false fun h => hk (hiff.1 h).1.1)
    have e0 : (x.k != y.k) = true := by simp [hk]
    clear hiff hk
    go_enter Tryz.func56, Tryz.ntmps56
    go_wp2_with fail
    go_ret
    exact ⟨by rw [HF.out]; rfl, (by repeat (first | exact Below.refl _ _ | refine Below.drew ?_ | refine below_drewN ?_ _ | refine Below.setCell ?_ (by first | omega | (simp; done) | (simp; omega)) _ | refine Below.alloc ?_ (by first | omega | (simp; done) | (simp; omega)) _))⟩) x

set_option maxRecDepth 100000 in
set_option maxHeartbeats 3200000 in
theorem rsame_c (x y : AV) (w : World) (hx : Rd w x) (hy : Rd w y) (hwx : x.w ≤ 1048576) (hwy : y.w ≤ 1048576) : Calls Tryz.prog 33 #[x.val, y.val] w (Ret (.bool (sameV x.v y.v)) w) := by
  have HMX := fun W (h : Below w.heap.size w W) => Lib.hid (rmay_c x W (hx.up h) hwx)
  have HMY := fun W (h : Below w.heap.size w W) => Lib.hid (rmay_c y W (hy.up h) hwy)
  have hB0 := rd_duo_0 (w := w) (o1 := .cells #[.int .u8 x.k, .string x.t, .slice x.la x.l.length x.lc, .slice x.ka x.ks.length x.kc] 26) (o2 := .cells #[.int .u8 y.k, .string y.t, .slice y.la y.l.length y.lc, .slice y.ka y.ks.length y.kc] 26)
  have hb0 := rd_duo_b (w := w) (o1 := .cells #[.int .u8 x.k, .string x.t, .slice x.la x.l.length x.lc, .slice x.ka x.ks.length x.kc] 26) (o2 := .cells #[.int .u8 y.k, .string y.t, .slice y.la y.l.length y.lc, .slice y.ka y.ks.length y.kc] 26)
  cases mx : x.v.may with
  | false =>
    have HF := Lib.hid (show sameV x.v y.v = false by simp [sameV, mx])
    rw [mx] at HMX
    clear mx
    go_enter Tryz.func33, Tryz.ntmps33
    go_wp2_with (go_at_call 13; refine (HMX _ (by assumption)).out.mono ?_; rintro e w1 ⟨rfl, hb1⟩)
    go_ret
    exact ⟨by rw [HF.out]; rfl, below_via hb0 hb1⟩
  | true =>
    cases my : y.v.may with
    | false =>
      have HF := Lib.hid (show sameV x.v y.v = false by simp [sameV, my])
      rw [mx] at HMX
      rw [my] at HMY
      clear mx my
      go_enter Tryz.func33, Tryz.ntmps33
      go_wp2_with (go_at_call 13; first
        | ((with_reducible refine (HMX _ (by assumption)).out.mono ?_); rintro e w1 ⟨rfl, hb1⟩
           have hB1 := rd_tri_step (N := w.heap.size + 1 + 1) hB0 hb1 (by simp)
           obtain ⟨k1, k2, k3, k4⟩ := rd_duo_at hB1
           obtain ⟨q0, q1, q2, q3, -, -, -, -⟩ := vbox4 k1
           obtain ⟨p0, p1, p2, p3, -, -, -, -⟩ := vbox4 k2)
        | ((with_reducible refine (HMY _ (by assumption)).out.mono ?_); rintro e w2 ⟨rfl, hb2⟩))
      go_ret
      exact ⟨by rw [HF.out]; rfl, below_via k4 hb2⟩
    | true =>
      have HF := Lib.hid (show sameV x.v y.v = decide (cmpV 256 x.v y.v = 0) by simp [sameV, mx, my])
      have HS := fun W (h : Below w.heap.size w W) => Lib.hid (rsame1_c x y W (hx.up h) (hy.up h) hwx hwy mx my)
      rw [mx] at HMX
      rw [my] at HMY
      clear mx my
      go_enter Tryz.func33, Tryz.ntmps33
      go_wp2_with (first
       | (go_at_call 13; first
          | ((with_reducible refine (HMX _ (by assumption)).out.mono ?_); rintro e w1 ⟨rfl, hb1⟩
             have hB1 := rd_tri_step (N := w.heap.size + 1 + 1) hB0 hb1 (by simp)
             obtain ⟨k1, k2, k3, k4⟩ := rd_duo_at hB1
             obtain ⟨q0, q1, q2, q3, -, -, -, -⟩ := vbox4 k1
             obtain ⟨p0, p1, p2, p3, -, -, -, -⟩ := vbox4 k2)
          | ((with_reducible refine (HMY _ (by assumption)).out.mono ?_); rintro e w2 ⟨rfl, hb2⟩
             have hB2 := rd_tri_step (N := w.heap.size + 1 + 1) hB1 hb2 (by simp)
             clear k1 k2 k3 q0 q1 q2 q3 p0 p1 p2 p3
             obtain ⟨k1, k2, k3, k5⟩ := rd_duo_at hB2
             obtain ⟨q0, q1, q2, q3, -, -, -, -⟩ := vbox4 k1
             obtain ⟨p0, p1, p2, p3, -, -, -, -⟩ := vbox4 k2))
       | (go_at_call 56; refine (HS _ k5).out.mono ?_; rintro e w3 ⟨rfl, hb3⟩))
      go_ret
      exact ⟨by rw [HF.out]; rfl, below_via k5 hb3⟩
end Go.Proofs.YtmhkacafilpliaaGreat
