/-
  inarchlaw28.named: contract, where the place is none, or the element there has that name. Conditions: the list lies in memory, lengths and weights are bounded; the table of short escapes holds what its initialiser lays.
  Two arrays of three numbers, a triple beside itself: are they one? As the machine tells it. No condition.
  What the loops of KeyedsEach ask: how many triples of a row's beginning stand in a list; what named asks of an element. No program.
-/
import Derived.Test.YtdapimjhjnbfdaaDoorKF
import Derived.ChangeKeysEq
import Derived.Laws.StructEq
import Derived.Test.YtdapimjhjnbfdaaDoorKP
namespace Go.Proofs.YtdapimjhjnbfdaaDoor
open Go.RowKit Go.Sort

theorem nameOf_get {s t : ByteArray} {v : Val} (h : nameOf s v = some t) : ∃ y, v.get s = some y ∧ t = ⟨(textR y).toArray⟩ := by
  rw [nameOf] at h
  split at h
  · rename_i y hy
    split at h
    · injection h with h; exact ⟨y, hy, h.symm⟩
    · cases h
  · cases h

set_option maxRecDepth 100000 in
set_option maxHeartbeats 3200000 in
theorem named_c (w : World) (x : LA) (hx : x.Rd w) (i : Int) (f id : ByteArray) (hS : Shorts w) (h : i = -1 ∨ ∃ (j : Nat) (y : AV), i = (j : Int) ∧ x.l[j]? = some y ∧ nameOf f y.v = some id) :
    Calls Tryd.prog 38 #[.slice x.a x.l.length x.c, .int .i64 i, .string f, .string id] w (Ret (.bool true) w) := by
  rcases h with rfl | ⟨j, y, rfl, hj, hn⟩
  · go_enter Tryd.func38, Tryd.ntmps38
    go_wp2_with fail
    go_ret
    exact ⟨rfl, Below.refl _ _⟩
  · obtain ⟨v, hg, rfl⟩ := nameOf_get hn
    have hjl : j < x.l.length := (List.getElem?_eq_some_iff.1 hj).1
    have hxl := hx.len
    have hmem : y ∈ x.l := List.mem_of_getElem? hj
    obtain ⟨hyr, hyw⟩ := hx.kids y hmem
    have hvw : v.w ≤ 1048576 := by
      have := Val.w_kid (get_mem hg).1
      have e : y.w = y.v.w := rfl
      omega
    obtain ⟨b, off, ha, -, -, hbl, hc⟩ := hx.sl (by omega)
    have p0 := hc j y hj 0 _ rfl
    have p1 := hc j y hj 1 _ rfl
    have p2 := hc j y hj 2 _ rfl
    have p3 := hc j y hj 3 _ rfl
    rw [Nat.add_zero] at p0
    have h0 : ¬ (j : Int) = -1 := by omega
    have h1 : ¬ (j : Int) < 0 := by omega
    have h1' : (0 : Int) ≤ (j : Int) := by omega
    have h2 : (j : Int) < (x.l.length : Int) := by omega
    have h2' : ¬ (x.l.length : Int) ≤ (j : Int) := by omega
    have HG := fun W (hb : Below w.heap.size w W) => Lib.hid (get_some_c hg W (hyr.up hb) hyw)
    clear hc hg hj hmem hn
    rw [ha]
    go_enter Tryd.func38, Tryd.ntmps38
    go_upto_region 6 with (go_at_call 40; refine (HG _ (Below.refl _ _)).out.mono ?_; rintro e w1 ⟨z, rfl, hzv, hz3, hb1⟩)
    go_name_world W2 hW2
    have hb2 : Below w1.heap.size w1 W2 := by rw [← hW2]; exact (Below.refl _ _).alloc (Nat.le_refl _) _
    have hz2' : w1.heap.size + 1 = W2.heap.size := by rw [← hW2]; simp
    have hbx := (show W2.heap[w1.heap.size]? = some (.cells #[.int .u8 z.k, .string z.t, .slice z.la z.l.length z.lc, .slice z.ka z.ks.length z.kc] 41 (0, 0)) by rw [← hW2]; exact heap_alloc_new w1 _)
    clear hW2
    have hs1 := hb1.size
    have hw2 : Below w.heap.size w W2 := hb1.trans (hb2.mono hs1)
    have hz : Rd W2 z := (Rd.up (hz3.widen (Nat.zero_le _) (Nat.le_refl _)) hb2)
    have HT := fun W (hb : Below W2.heap.size W2 W) => Lib.hid (text_c z W (hz.up hb) (by show z.v.w ≤ _; rw [hzv]; exact hvw) ((hS.below hw2).below hb))
    rw [hzv] at HT
    obtain ⟨q0, q1, q2, q3, -, -, -, -⟩ := vbox4 hbx
    have HW2 := Lib.hid hw2
    clear hbx hz hb2 hw2 hb1 hz2'
    go_wp2_with (go_at_call 31; refine (HT _ (Below.refl _ _)).out.mono ?_; rintro e w3 ⟨rfl, hb3⟩)
    go_ret
    exact ⟨rfl, below_via HW2.out hb3⟩
end Go.Proofs.YtdapimjhjnbfdaaDoor

namespace Go.Proofs.YtdapimjhjnbfdaaDoor
open Go.RowKit Go.Sort

theorem info_int3 : ∃ i, (Tryd.prog.info? 3) = some i := by
  have h : (Tryd.prog.info? 3).isSome = true := by kernel_rfl
  exact Option.isSome_iff_exists.1 h
theorem eql_arr3 (w : World) (a b c a' b' c' : Int) : (binOp .eql 62 (.agg #[.int .i64 a, .int .i64 b, .int .i64 c]) (.agg #[.int .i64 a', .int .i64 b', .int .i64 c'])).run Tryd.prog w = .ok (.bool (decide (a = a' ∧ b = b' ∧ c = c'))) w := by
  obtain ⟨i, hi⟩ := info_int3
  rw [run_eql_struct, run_equalIn_array w 9999 _ _ Tryd.underlying62 hi]
  rw [show Tryd.prog.cellsOf 3 = 1 by kernel_rfl, show List.range 3 = [0, 1, 2] by rfl]
  simp [Op.eqItems, go_sem]
  repeat' split
  all_goals simp_all
theorem neq_tr (w : World) (s : Tr) : (binOp .neq 64 s.val s.val).run Tryd.prog w = .ok (.bool false) w := by
  rw [run_neq_struct]
  simp [go_sem]
end Go.Proofs.YtdapimjhjnbfdaaDoor

namespace Go.Proofs.YtdapimjhjnbfdaaDoor
open Go.RowKit Go.Sort

def cnt (g : Tr → Int) (T : List Tr) (i : Nat) : Int := (((T.take i).filter fun t => decide (0 ≤ g t)).length : Nat)
theorem cnt_zero (g : Tr → Int) (T : List Tr) : cnt g T 0 = 0 := rfl
theorem cnt_succ {g : Tr → Int} {T : List Tr} {i : Nat} {t : Tr} (h : T[i]? = some t) : cnt g T (i + 1) = cnt g T i + if 0 ≤ g t then 1 else 0 := by
  unfold cnt
  rw [List.take_add_one, h, List.filter_append, List.length_append]
  by_cases hg : 0 ≤ g t <;> simp [hg]
theorem cnt_yes {g : Tr → Int} {T : List Tr} {i : Nat} {t : Tr} (h : T[i]? = some t) (hg : 0 ≤ g t) : cnt g T (i + 1) = cnt g T i + 1 := by rw [cnt_succ h, if_pos hg]
theorem cnt_no {g : Tr → Int} {T : List Tr} {i : Nat} {t : Tr} (h : T[i]? = some t) (hg : ¬ 0 ≤ g t) : cnt g T (i + 1) = cnt g T i := by rw [cnt_succ h, if_neg hg, Int.add_zero]
theorem cnt_all (g : Tr → Int) (T : List Tr) : cnt g T T.length = ((T.filter fun t => decide (0 ≤ g t)).length : Nat) := by rw [cnt, List.take_length]
theorem cnt_le (g : Tr → Int) (T : List Tr) (i : Nat) : 0 ≤ cnt g T i ∧ cnt g T i ≤ (i : Int) := by
  unfold cnt
  have h1 := List.length_filter_le (fun t => decide (0 ≤ g t)) (T.take i)
  have h2 := List.length_take_le i T
  omega
theorem named_pre {f : ByteArray} {x : LA} {xs : List ByteArray} (hn : namesP f x.v = some xs) {i : Int} {id : ByteArray} (h : i = -1 ∨ ∃ j : Nat, i = (j : Int) ∧ xs[j]? = some id) : i = -1 ∨ ∃ (j : Nat) (y : AV), i = (j : Int) ∧ x.l[j]? = some y ∧ nameOf f y.v = some id := by
  refine h.imp (fun h => h) ?_
  rintro ⟨j, e, hj⟩
  have hm := (namesP_get hn).1
  have h2 : ((x.l.map AV.v).map (nameOf f))[j]? = some (some id) := by
    have := congrArg (fun l => l[j]?) hm
    simp only [LA.v] at this
    rw [this, List.getElem?_map, hj]; rfl
  rw [List.map_map, List.getElem?_map] at h2
  cases hy : x.l[j]? with
  | none => rw [hy] at h2; simp at h2
  | some y =>
    rw [hy] at h2
    exact ⟨j, y, e, hy, by simpa using h2⟩
theorem plan_len {u : Int} {xb xl xr : List ByteArray} (hb : xb.Nodup) {T : List Tr} (h : PlanIs u xb xl xr T) : T.length ≤ xb.length + xl.length + xr.length := by
  obtain ⟨g1, g2⟩ := placed_len (u := u) (xl := xl) (xr := xr) hb
  have hpl : T.length = (placed u xb xl xr).length := by
    rw [PlanIs] at h
    split at h
    · rw [h]
    · obtain ⟨S, hp, -, rfl⟩ := h
      rw [List.length_append, hp.length_eq, List.length_take, List.length_drop]; omega
  omega
theorem ids_apart {T : List Tr} (h : (T.map Tr.id).Nodup) {i j : Nat} {s t : Tr} (hi : T[i]? = some s) (hj : T[j]? = some t) (hne : i ≠ j) : s.id ≠ t.id := by
  obtain ⟨li, ei⟩ := List.getElem?_eq_some_iff.1 hi
  obtain ⟨lj, ej⟩ := List.getElem?_eq_some_iff.1 hj
  have hp := List.pairwise_iff_getElem.1 h
  rcases Nat.lt_or_gt_of_ne hne with hl | hl
  · have := hp i j (by rw [List.length_map]; exact li) (by rw [List.length_map]; exact lj) hl
    rw [List.getElem_map, List.getElem_map, ei, ej] at this
    exact this
  · have := hp j i (by rw [List.length_map]; exact lj) (by rw [List.length_map]; exact li) hl
    rw [List.getElem_map, List.getElem_map, ei, ej] at this
    exact Ne.symm this
theorem three_cells {w : World} {b : Nat} {v0 v1 v2 : Value} {t : TypeId} (h : w.heap[b]? = some (.cells #[v0, v1, v2] t (0, 0))) : w.cell? ⟨b, 0, none⟩ = some v0 ∧ w.cell? ⟨b, 1, none⟩ = some v1 ∧ w.cell? ⟨b, 2, none⟩ = some v2 := by
  refine ⟨?_, ?_, ?_⟩ <;> simp [World.cell?, h]
theorem five_cells {w : World} {b : Nat} {v0 v1 v2 v3 v4 : Value} {t : TypeId} (h : w.heap[b]? = some (.cells #[v0, v1, v2, v3, v4] t (0, 0))) : w.cell? ⟨b, 0, none⟩ = some v0 ∧ w.cell? ⟨b, 1, none⟩ = some v1 ∧ w.cell? ⟨b, 2, none⟩ = some v2 ∧ w.cell? ⟨b, 3, none⟩ = some v3 ∧ w.cell? ⟨b, 4, none⟩ = some v4 := by
  refine ⟨?_, ?_, ?_, ?_, ?_⟩ <;> simp [World.cell?, h]
theorem four_cells {w : World} {b : Nat} {v0 v1 v2 v3 : Value} {t : TypeId} (h : w.heap[b]? = some (.cells #[v0, v1, v2, v3] t (0, 0))) : w.cell? ⟨b, 0, none⟩ = some v0 ∧ w.cell? ⟨b, 1, none⟩ = some v1 ∧ w.cell? ⟨b, 2, none⟩ = some v2 ∧ w.cell? ⟨b, 3, none⟩ = some v3 := by
  refine ⟨?_, ?_, ?_, ?_⟩ <;> simp [World.cell?, h]
theorem five_fz {w : World} {b : Nat} {v0 v1 v2 v3 v4 : Value} {t : TypeId} (h : w.heap[b]? = some (.cells #[v0, v1, v2, v3, v4] t (0, 0))) : w.frozen? ⟨b, 4, none⟩ = false := by
  simp [World.frozen?, h]
theorem three_fz {w : World} {b : Nat} {v0 v1 v2 : Value} {t : TypeId} (h : w.heap[b]? = some (.cells #[v0, v1, v2] t (0, 0))) : w.frozen? ⟨b, 0, none⟩ = false ∧ w.frozen? ⟨b, 1, none⟩ = false ∧ w.frozen? ⟨b, 2, none⟩ = false := by
  refine ⟨?_, ?_, ?_⟩ <;> simp [World.frozen?, h]
end Go.Proofs.YtdapimjhjnbfdaaDoor
