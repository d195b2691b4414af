/-
  keyeds.Plan and the reference's Plan hand back the same triples, Names the same names: contracts with one outcome each. Conditions: the lists lie in memory, lengths and weights are bounded; the table of short escapes holds what its initialiser lays.
  inarchlaw28.KeyedsPlan answers true. Conditions: the lists lie in memory, lengths and weights are bounded; the table of short escapes holds what its initialiser lays.
-/
import Derived.Test.YtcpdogjcofkpcaaGreatDoorTP
import Derived.Test.YtcpdogjcofkpcaaGreatDoorKJ
import Derived.Test.YtcpdogjcofkpcaaGreatDoorTD
import Derived.Test.YtcpdogjcofkpcaaGreatDoorKL
import Derived.Test.YtcpdogjcofkpcaaGreatDoorTN
namespace Go.Proofs.YtcpdogjcofkpcaaGreatDoor
open Go.RowKit Go.Sort

theorem LA.Tw.rd {w w2 : World} {t x : LA} (h : t.Tw w 0 w.heap.size) (he : t.v = x.v) (hx : x.Rd w2) : t.Rd w := by
  refine ⟨sl_front h.sl, ?_, fun y hy => ⟨(h.kid y hy).rd, ?_⟩⟩
  · have := congrArg List.length he
    rw [LA.v, LA.v, List.length_map, List.length_map] at this
    rw [this]; exact hx.len
  · have hm : y.v ∈ x.v := by rw [← he, LA.v]; exact List.mem_map_of_mem hy
    obtain ⟨z, hz, e⟩ := List.mem_map.1 hm
    have : y.w = z.w := by show y.v.w = z.v.w; rw [e]
    rw [this]; exact (hx.kids z hz).2
theorem ids_exist (u : Int) {xb xl xr : List ByteArray} (hb : xb.Nodup) (hl : xl.Nodup) (hr : xr.Nodup) : ∃ I, IdsAre u xb xl xr I := by
  by_cases h1 : u = 1
  · exact ⟨_, _, rfl, .refl _, fun _ => rfl, fun h => by omega, fun h => absurd h1 h⟩
  · by_cases h2 : u = 2
    · exact ⟨_, newIds xb xr xl, rfl, newIds_perm hb hr hl, fun h => absurd h h1, fun _ => rfl, fun _ h => absurd h2 h⟩
    · refine ⟨_, (newIds xb xl xr).mergeSort (fun a b => decide (a.toList ≤ b.toList)), rfl, List.mergeSort_perm _ _, fun h => absurd h h1, fun h => absurd h h2, fun _ _ => ?_⟩
      have := List.pairwise_mergeSort (le := fun a b : ByteArray => decide (a.toList ≤ b.toList)) (fun a b c h1 h2 => by simp at *; exact List.le_trans h1 h2) (fun a b => by simp; exact List.le_total _ _) (newIds xb xl xr)
      exact this.imp fun h => by simpa using h
theorem newIds_len (xb n1 n2 : List ByteArray) : (newIds xb n1 n2).length ≤ n1.length + n2.length := by
  rw [newIds, List.length_append]
  have h1 := List.length_filter_le (fun s => decide (s ∉ xb)) n1
  have h2 := List.length_filter_le (fun s => decide (s ∉ xb ++ n1.filter fun s => decide (s ∉ xb))) n2
  omega
theorem ids_len {u : Int} {xb xl xr I : List ByteArray} (h : IdsAre u xb xl xr I) : I.length ≤ xb.length + xl.length + xr.length := by
  obtain ⟨S, rfl, hp, -⟩ := h
  have := newIds_len xb xl xr
  rw [List.length_append, hp.length_eq]; omega

/-- What a plan hands back: these triples. -/
def PlanT (T : List Tr) (p : Bool) (w : World) (e : Ending) (w' : World) : Prop :=
  ∃ A c, e = .returned (.tuple #[.slice A T.length c, .bool p]) ∧ SlE Tr.enc 4 w' w.heap.size w'.heap.size A T ∧ Below w.heap.size w w'
/-- ..to write into. -/
def PlanTO (T : List Tr) (p : Bool) (w : World) (e : Ending) (w' : World) : Prop :=
  ∃ A c, e = .returned (.tuple #[.slice A T.length c, .bool p]) ∧ SlE Tr.enc 4 w' w.heap.size w'.heap.size A T ∧ Below w.heap.size w w' ∧ Thaw w' A
def RulV (at_ : Bool) (sh pr u : Int) (f : ByteArray) : Value := .agg #[.bool at_, .int .u8 sh, .string f, .int .u8 pr, .int .u8 u]
theorem thaw_none (w : World) : Thaw w none := fun _ _ h => by cases h
theorem plan_fix (at_ : Bool) (sh pr u : Int) (f : ByteArray) (v1 v2 v3 : List Val) (h1 : v1.length ≤ 1048576) (h2 : v2.length ≤ 1048576) (h3 : v3.length ≤ 1048576) : ∃ (T : List Tr) (p : Bool), T.length ≤ 4194304 ∧
    (∀ (w : World) (x y z : LA), x.v = v1 → y.v = v2 → z.v = v3 → x.Rd w → y.Rd w → z.Rd w → Shorts w → Calls Tryz.prog 14 #[.slice x.a x.l.length x.c, .slice y.a y.l.length y.c, .slice z.a z.l.length z.c, .agg #[.bool at_, .int .u8 sh, .string f, .int .u8 pr, .int .u8 u]] w (PlanTO T p w)) ∧
    (∀ (w : World) (x y z : LA), x.v = v1 → y.v = v2 → z.v = v3 → x.Rd w → y.Rd w → z.Rd w → Calls Tryz.prog 15 #[.slice x.a x.l.length x.c, .slice y.a y.l.length y.c, .slice z.a z.l.length z.c, .agg #[.bool at_, .int .u8 sh, .string f, .int .u8 pr, .int .u8 u]] w (PlanT T p w)) := by
  by_cases hall : ∃ xb xl xr, namesP f v1 = some xb ∧ namesP f v2 = some xl ∧ namesP f v3 = some xr
  · obtain ⟨xb, xl, xr, e1, e2, e3⟩ := hall
    obtain ⟨g1, g2, g3⟩ := namesP_get e1
    obtain ⟨k1, k2, k3⟩ := namesP_get e2
    obtain ⟨l1, l2, l3⟩ := namesP_get e3
    obtain ⟨I, hI⟩ := ids_exist u g2 k2 l2
    refine ⟨I.map (mk3 xb xl xr), true, ?_, ?_, ?_⟩
    · have := ids_len hI
      rw [List.length_map]; omega
    · rintro w x y z rfl rfl rfl hx hy hz hS
      refine (plan_o w x y z hx hy hz at_ sh pr u f hS).mono ?_
      rintro e w' (⟨xb', xl', xr', T, A, m1, m2, m3, hpi, rfl, hs, hb, ht⟩ | ⟨hno, -⟩)
      · rw [e1] at m1; rw [e2] at m2; rw [e3] at m3
        cases m1; cases m2; cases m3
        have hT := rplan_is g2 k2 l2 hI hpi
        subst hT
        exact ⟨A, _, rfl, hs, hb, ht⟩
      · rcases hno with h | h | h
        · rw [e1] at h; cases h
        · rw [e2] at h; cases h
        · rw [e3] at h; cases h
    · rintro w x y z rfl rfl rfl hx hy hz
      refine (rplan_c w x y z hx hy hz at_ sh pr u f).mono ?_
      rintro e w' (⟨xb', xl', xr', J, A, c, m1, m2, m3, hj, rfl, hs, hb⟩ | ⟨hno, -⟩)
      · rw [e1] at m1; rw [e2] at m2; rw [e3] at m3
        cases m1; cases m2; cases m3
        obtain rfl := ids_one hI hj
        exact ⟨A, c, by rw [List.length_map], hs, hb⟩
      · rcases hno with h | h | h
        · rw [e1] at h; cases h
        · rw [e2] at h; cases h
        · rw [e3] at h; cases h
  · refine ⟨[], false, by simp, ?_, ?_⟩
    · rintro w x y z rfl rfl rfl hx hy hz hS
      refine (plan_o w x y z hx hy hz at_ sh pr u f hS).mono ?_
      rintro e w' (⟨xb', xl', xr', T, A, m1, m2, m3, -⟩ | ⟨-, rfl, hb⟩)
      · exact absurd ⟨xb', xl', xr', m1, m2, m3⟩ hall
      · exact ⟨none, 0, rfl, .nil, hb, thaw_none _⟩
    · rintro w x y z rfl rfl rfl hx hy hz
      refine (rplan_c w x y z hx hy hz at_ sh pr u f).mono ?_
      rintro e w' (⟨xb', xl', xr', J, A, c, m1, m2, m3, -⟩ | ⟨-, rfl, hb⟩)
      · exact absurd ⟨xb', xl', xr', m1, m2, m3⟩ hall
      · exact ⟨none, 0, rfl, .nil, hb⟩
/-- What Names hands back: these names. -/
def NamesT (ns : List ByteArray) (p : Bool) (w : World) (e : Ending) (w' : World) : Prop :=
  ∃ A c, e = .returned (.tuple #[.slice A ns.length c, .bool p]) ∧ SlE strE 1 w' w.heap.size w'.heap.size A ns ∧ Below w.heap.size w w'
def NamesTO (ns : List ByteArray) (p : Bool) (w : World) (e : Ending) (w' : World) : Prop :=
  ∃ A c, e = .returned (.tuple #[.slice A ns.length c, .bool p]) ∧ SlE strE 1 w' w.heap.size w'.heap.size A ns ∧ Below w.heap.size w w' ∧ Thaw w' A
theorem names_fix (f : ByteArray) (v : List Val) (h1 : v.length ≤ 1048576) : ∃ (ns : List ByteArray) (p : Bool), ns.length ≤ 1048576 ∧
    (∀ (w : World) (x : LA), x.v = v → x.Rd w → Shorts w → Calls Tryz.prog 16 #[.slice x.a x.l.length x.c, .string f] w (NamesTO ns p w)) ∧
    (∀ (w : World) (x : LA), x.v = v → x.Rd w → Calls Tryz.prog 17 #[.slice x.a x.l.length x.c, .string f] w (NamesT ns p w)) := by
  cases hn : namesP f v with
  | none =>
    refine ⟨[], false, by simp, ?_, ?_⟩
    · rintro w x rfl hx hS
      refine (names_o w x.a x.c x.l hx.sl hx.len hx.kids f hS).mono ?_
      rintro e w' (⟨ns, A, m, -⟩ | ⟨-, rfl, hb⟩)
      · rw [show x.l.map AV.v = x.v from rfl, hn] at m; cases m
      · exact ⟨none, 0, rfl, .nil, hb, thaw_none _⟩
    · rintro w x rfl hx
      refine (rnames_c w x hx f).mono ?_
      rintro e w' (⟨ns, A, c, m, -⟩ | ⟨-, rfl, hb⟩)
      · rw [hn] at m; cases m
      · exact ⟨none, 0, rfl, .nil, hb⟩
  | some ns =>
    refine ⟨ns, true, by rw [(namesP_get hn).2.2]; exact h1, ?_, ?_⟩
    · rintro w x rfl hx hS
      refine (names_o w x.a x.c x.l hx.sl hx.len hx.kids f hS).mono ?_
      rintro e w' (⟨ns', A, m, rfl, hs, hb, ht⟩ | ⟨m, -⟩)
      · rw [show x.l.map AV.v = x.v from rfl, hn] at m; cases m
        exact ⟨A, _, rfl, hs, hb, ht⟩
      · rw [show x.l.map AV.v = x.v from rfl, hn] at m; cases m
    · rintro w x rfl hx
      refine (rnames_c w x hx f).mono ?_
      rintro e w' (⟨ns', A, c, m, rfl, hs, hb⟩ | ⟨m, -⟩)
      · rw [hn] at m; cases m
        exact ⟨A, c, rfl, hs, hb⟩
      · rw [hn] at m; cases m
end Go.Proofs.YtcpdogjcofkpcaaGreatDoor

namespace Go.Proofs.YtcpdogjcofkpcaaGreatDoor
open Go.RowKit Go.Sort

theorem blk_old (w : World) (o : Obj) (i : Nat) (h : i < w.heap.size) : (w.alloc o).heap[i]? = w.heap[i]? := ((Below.refl w.heap.size w).alloc (Nat.le_refl _) o).block i h
theorem three_c28 {w : World} {b : Nat} {v0 v1 v2 : Value} {t : TypeId} (h : w.heap[b]? = some (.cells #[v0, v1, v2] t (0, 0))) : w.cell? ⟨b, 0, none⟩ = some v0 ∧ w.cell? ⟨b, 1, none⟩ = some v1 ∧ w.cell? ⟨b, 2, none⟩ = some v2 := by
  refine ⟨?_, ?_, ?_⟩ <;> simp [World.cell?, h]
theorem five_c28 {w : World} {b : Nat} {v0 v1 v2 v3 v4 : Value} {t : TypeId} (h : w.heap[b]? = some (.cells #[v0, v1, v2, v3, v4] t (0, 0))) : w.cell? ⟨b, 0, none⟩ = some v0 ∧ w.cell? ⟨b, 1, none⟩ = some v1 ∧ w.cell? ⟨b, 2, none⟩ = some v2 ∧ w.cell? ⟨b, 3, none⟩ = some v3 ∧ w.cell? ⟨b, 4, none⟩ = some v4 := by
  refine ⟨?_, ?_, ?_, ?_, ?_⟩ <;> simp [World.cell?, h]

theorem LA.Tw.blw {w w' : World} {lo hi B : Nat} {x : LA} (h : x.Tw w lo hi) (hb : Below B w w') (hB : hi ≤ B) : x.Tw w' lo hi := ⟨h.sl.below hb hB, h.cap, fun y hy => (h.kid y hy).blw hb hB⟩
/-- What stays while rows of the caller's own, in blocks from B on but not from p to q, are written into: all below B, blocks p to q, which cells there are, what is frozen. -/
structure Spoilt (B p q : Nat) (w w' : World) : Prop where
  bel : Below B w w'
  mid : ∀ k, p ≤ k → k < q → w'.heap[k]? = w.heap[k]?
  some : ∀ b o, (w'.cell? ⟨b, o, none⟩).isSome = (w.cell? ⟨b, o, none⟩).isSome
  cold : ∀ b o, w'.frozen? ⟨b, o, none⟩ = w.frozen? ⟨b, o, none⟩
theorem Spoilt.refl (B p q : Nat) (w : World) : Spoilt B p q w w := ⟨Below.refl _ _, fun _ _ _ => rfl, fun _ _ => rfl, fun _ _ => rfl⟩
theorem Spoilt.drew {B p q : Nat} {w w' : World} (h : Spoilt B p q w w') : Spoilt B p q w w'.drew := ⟨h.bel.drew, h.mid, h.some, h.cold⟩
theorem Spoilt.set {B p q : Nat} {w w' : World} (h : Spoilt B p q w w') {g o : Nat} {u : Value} (hg : B ≤ g) (hm : g < p ∨ q ≤ g) (hc : w'.cell? ⟨g, o, none⟩ = Option.some u) (v : Value) : Spoilt B p q w (w'.setCell ⟨g, o, none⟩ v) := by
  refine ⟨h.bel.setCell (p := ⟨g, o, none⟩) hg v, fun k h1 h2 => (Below.heap_setCell w' _ _ k (by show k ≠ g; omega)).trans (h.mid k h1 h2), fun b o' => ?_, fun b o' => (World.frozen?_setCell _ _ _ _).trans (h.cold b o')⟩
  rw [← h.some b o']
  by_cases e : b = g ∧ o' = o
  · obtain ⟨rfl, rfl⟩ := e
    rw [World.cell?_setCell_same _ _ _ (by rw [hc]), hc]; rfl
  · rw [World.cell?_setCell_other _ _ _ _ (by intro e2; injection e2 with e3 e4; exact e ⟨e3.symm, e4.symm⟩)]

set_option maxRecDepth 100000 in
set_option maxHeartbeats 12800000 in
theorem kplan (w : World) (x y z : LA) (hx : x.Rd w) (hy : y.Rd w) (hz : z.Rd w) (at_ : Bool) (sh pr u : Int) (f : ByteArray) (hf : f.size ≤ 1048576) (hS : Shorts w) :
    Calls Tryz.prog 3 #[.agg #[.slice x.a x.l.length x.c, .slice y.a y.l.length y.c, .slice z.a z.l.length z.c], .agg #[.bool at_, .int .u8 sh, .string f, .int .u8 pr, .int .u8 u]] w (Ret (.bool true) w) := by
  have HL := fun W (h : Below w.heap.size w W) => Lib.hid (lives28_c W (hS.below h))
  have HG := fun W (B : Nat) (h : Below w.heap.size w W) (hb : W.heap[B]? = some (.cells #[.slice x.a x.l.length x.c, .slice y.a y.l.length y.c, .slice z.a z.l.length z.c] 22 (0, 0))) (hB : B < W.heap.size) => Lib.hid (show Calls Tryz.prog 11 #[.slice (some ⟨B, 0, none⟩) 3 3] W (RetB W) from
    great23_c W (some ⟨B, 0, none⟩) 3 [x, y, z] ((lit_sl (enc := LA.enc) (size := 1) (l := [x, y, z]) (t := 22) (fr := (0, 0)) (fun _ => rfl) hb).widen (Nat.zero_le _) (by omega)) (fun v hv => by
      simp only [List.mem_cons, List.not_mem_nil, or_false] at hv
      rcases hv with rfl | rfl | rfl
      · exact hx.up h
      · exact hy.up h
      · exact hz.up h) (by simp))
  obtain ⟨T, p, hTl, hpl, hrp⟩ := plan_fix at_ sh pr u f x.v y.v z.v (by rw [LA.v, List.length_map]; exact hx.len) (by rw [LA.v, List.length_map]; exact hy.len) (by rw [LA.v, List.length_map]; exact hz.len)
  obtain ⟨ns, q, hnl, hnm, hrn⟩ := names_fix f x.v (by rw [LA.v, List.length_map]; exact hx.len)
  have HPL := fun W (X Y Z : LA) h1 h2 h3 h4 h5 h6 h7 => Lib.hid (hpl W X Y Z h1 h2 h3 h4 h5 h6 h7)
  have HRP := fun W (h : Below w.heap.size w W) => Lib.hid (hrp W x y z rfl rfl rfl (hx.up h) (hy.up h) (hz.up h))
  have HNM := fun W (X : LA) h1 h2 h3 => Lib.hid (hnm W X h1 h2 h3)
  have HRN := fun W (h : Below w.heap.size w W) => Lib.hid (hrn W x rfl (hx.up h))
  have HTX := fun W (h : Below w.heap.size w W) => Lib.hid (twin23_c W x (hx.up h))
  have HTY := fun W (h : Below w.heap.size w W) => Lib.hid (twin23_c W y (hy.up h))
  have HTZ := fun W (h : Below w.heap.size w W) => Lib.hid (twin23_c W z (hz.up h))
  have hA : Below w.heap.size w (((w.alloc (.cells #[.slice x.a x.l.length x.c, .slice y.a y.l.length y.c, .slice z.a z.l.length z.c] 23)).alloc (.cells #[.bool at_, .int .u8 sh, .string f, .int .u8 pr, .int .u8 u] 27)).alloc (.cells #[.slice x.a x.l.length x.c, .slice y.a y.l.length y.c, .slice z.a z.l.length z.c] 22)) := (((Below.refl _ _).alloc (Nat.le_refl _) _).alloc (by simp) _).alloc (by simp; omega) _
  have hk1 : (((w.alloc (.cells #[.slice x.a x.l.length x.c, .slice y.a y.l.length y.c, .slice z.a z.l.length z.c] 23)).alloc (.cells #[.bool at_, .int .u8 sh, .string f, .int .u8 pr, .int .u8 u] 27)).alloc (.cells #[.slice x.a x.l.length x.c, .slice y.a y.l.length y.c, .slice z.a z.l.length z.c] 22)).heap[w.heap.size]? = some (.cells #[.slice x.a x.l.length x.c, .slice y.a y.l.length y.c, .slice z.a z.l.length z.c] 23 (0, 0)) := (blk_old _ _ _ (by simp; omega)).trans ((blk_old _ _ _ (by simp)).trans (heap_alloc_new w _))
  have hk2 : (((w.alloc (.cells #[.slice x.a x.l.length x.c, .slice y.a y.l.length y.c, .slice z.a z.l.length z.c] 23)).alloc (.cells #[.bool at_, .int .u8 sh, .string f, .int .u8 pr, .int .u8 u] 27)).alloc (.cells #[.slice x.a x.l.length x.c, .slice y.a y.l.length y.c, .slice z.a z.l.length z.c] 22)).heap[w.heap.size + 1]? = some (.cells #[.bool at_, .int .u8 sh, .string f, .int .u8 pr, .int .u8 u] 27 (0, 0)) := (blk_old _ _ _ (by simp)).trans (by have := heap_alloc_new (w.alloc (.cells #[.slice x.a x.l.length x.c, .slice y.a y.l.length y.c, .slice z.a z.l.length z.c] 23)) (.cells #[.bool at_, .int .u8 sh, .string f, .int .u8 pr, .int .u8 u] 27); rwa [World.size_alloc] at this)
  have hn : (((w.alloc (.cells #[.slice x.a x.l.length x.c, .slice y.a y.l.length y.c, .slice z.a z.l.length z.c] 23)).alloc (.cells #[.bool at_, .int .u8 sh, .string f, .int .u8 pr, .int .u8 u] 27)).alloc (.cells #[.slice x.a x.l.length x.c, .slice y.a y.l.length y.c, .slice z.a z.l.length z.c] 22)).heap[w.heap.size + 1 + 1]? = some (.cells #[.slice x.a x.l.length x.c, .slice y.a y.l.length y.c, .slice z.a z.l.length z.c] 22 (0, 0)) := by have := heap_alloc_new ((w.alloc (.cells #[.slice x.a x.l.length x.c, .slice y.a y.l.length y.c, .slice z.a z.l.length z.c] 23)).alloc (.cells #[.bool at_, .int .u8 sh, .string f, .int .u8 pr, .int .u8 u] 27)) (.cells #[.slice x.a x.l.length x.c, .slice y.a y.l.length y.c, .slice z.a z.l.length z.c] 22); simpa using this
  have HA := Lib.hid hA
  have HK1 := Lib.hid hk1
  have HK2 := Lib.hid hk2
  have HN := Lib.hid hn
  clear hA hk1 hk2 hn
  by_cases hf1 : 1000 < f.size
  · have hf1' : (1000 : Int) < (f.size : Int) := by omega
    go_enter Tryz.func3, Tryz.ntmps3
    go_upto_region 2 with (
      go_at_call 11
      refine (HG _ _ HA.out HN.out (by simp)).out.mono ?_
      rintro e w1 ⟨r, rfl, hb⟩
      have hbw := below_via HA.out hb
      have hs1 := hb.size
      simp only [World.size_alloc] at hs1
      have kk1 := (hb.block w.heap.size (by first | (simp; done) | (simp; omega))).trans HK1.out
      have kk2 := (hb.block (w.heap.size + 1) (by first | (simp; done) | (simp; omega))).trans HK2.out
      have hl1 : w.heap.size < w1.heap.size := by omega
      have hl2 : w.heap.size + 1 < w1.heap.size := by omega
      obtain ⟨a0, a1, a2⟩ := three_c28 kk1
      obtain ⟨r0, r1, r2, r3, r4⟩ := five_c28 kk2
      cases r)
    all_goals
      go_wp2_with (go_at_call 12; refine (HL _ hbw).out.mono ?_; rintro e w5 ⟨rfl, hb5⟩)
      go_ret
      exact ⟨rfl, below_via hbw hb5⟩
  · have hf1' : ¬ (1000 : Int) < (f.size : Int) := by omega
    go_enter Tryz.func3, Tryz.ntmps3
    go_upto_if 24 with (
      go_at_call 11
      refine (HG _ _ HA.out HN.out (by simp)).out.mono ?_
      rintro e w1 ⟨r, rfl, hb⟩
      have hbw := below_via HA.out hb
      have hs1 := hb.size
      simp only [World.size_alloc] at hs1
      have kk1 := (hb.block w.heap.size (by first | (simp; done) | (simp; omega))).trans HK1.out
      have kk2 := (hb.block (w.heap.size + 1) (by first | (simp; done) | (simp; omega))).trans HK2.out
      have hl1 : w.heap.size < w1.heap.size := by omega
      have hl2 : w.heap.size + 1 < w1.heap.size := by omega
      obtain ⟨a0, a1, a2⟩ := three_c28 kk1
      obtain ⟨r0, r1, r2, r3, r4⟩ := five_c28 kk2
      cases r)
    · go_upto_region 12 with (first
        | (go_at_call 13; first
            | ((with_reducible refine (HTX _ hbw).out.mono ?_); rintro e w2 ⟨X, rfl, hXv, hXt, hb2⟩
               have hbw2 := below_via hbw hb2
               have jj1 := (hb2.block w.heap.size hl1).trans kk1
               have jj2 := (hb2.block (w.heap.size + 1) hl2).trans kk2
               have ll1 : w.heap.size < w2.heap.size := Nat.lt_of_lt_of_le hl1 hb2.size
               have ll2 : w.heap.size + 1 < w2.heap.size := Nat.lt_of_lt_of_le hl2 hb2.size
               obtain ⟨a0, a1, a2⟩ := three_c28 jj1)
            | ((with_reducible refine (HTY _ hbw2).out.mono ?_); rintro e w3 ⟨Y, rfl, hYv, hYt, hb3⟩
               have hbw3 := below_via hbw2 hb3
               have ii1 := (hb3.block w.heap.size ll1).trans jj1
               have ii2 := (hb3.block (w.heap.size + 1) ll2).trans jj2
               have mm1 : w.heap.size < w3.heap.size := Nat.lt_of_lt_of_le ll1 hb3.size
               have mm2 : w.heap.size + 1 < w3.heap.size := Nat.lt_of_lt_of_le ll2 hb3.size
               obtain ⟨a0, a1, a2⟩ := three_c28 ii1)
            | ((with_reducible refine (HTZ _ hbw3).out.mono ?_); rintro e w4 ⟨Z, rfl, hZv, hZt, hb4⟩
               have hbw4 := below_via hbw3 hb4
               have gg1 := (hb4.block w.heap.size mm1).trans ii1
               have gg2 := (hb4.block (w.heap.size + 1) mm2).trans ii2
               have nn1 : w.heap.size < w4.heap.size := Nat.lt_of_lt_of_le mm1 hb4.size
               have nn2 : w.heap.size + 1 < w4.heap.size := Nat.lt_of_lt_of_le mm2 hb4.size
               obtain ⟨a0, a1, a2⟩ := three_c28 gg1
               obtain ⟨r0, r1, r2, r3, r4⟩ := five_c28 gg2)))
      have hS4 := hS.below hbw4
      have nnS : 0 < w4.heap.size := by
        obtain ⟨t, fr, h⟩ := hS4
        exact lt_of_block h
      have z2 := hb2.size
      have z3 := hb3.size
      have z4 := hb4.size
      have hX4 : X.Tw w4 0 w4.heap.size := ((hXt.widen (Nat.zero_le _) (Nat.le_refl _)).up hb3).up hb4
      have hY4 : Y.Tw w4 0 w4.heap.size := (hYt.widen (Nat.zero_le _) (Nat.le_refl _)).up hb4
      have hZ4 : Z.Tw w4 0 w4.heap.size := hZt.widen (Nat.zero_le _) (Nat.le_refl _)
      have HXV := Lib.hid hXv
      have HYV := Lib.hid hYv
      have HZV := Lib.hid hZv
      have HX4 := Lib.hid hX4
      have HY4 := Lib.hid hY4
      have HZ4 := Lib.hid hZ4
      have HG1 := Lib.hid gg1
      have HG2 := Lib.hid gg2
      have HBW4 := Lib.hid hbw4
      have HQ := fun W (h : Below w4.heap.size w4 W) => HPL W X Y Z hXv hYv hZv ((hX4.blw h (Nat.le_refl _)).widen (Nat.le_refl _) h.size |>.rd hXv hx) ((hY4.blw h (Nat.le_refl _)).widen (Nat.le_refl _) h.size |>.rd hYv hy) ((hZ4.blw h (Nat.le_refl _)).widen (Nat.le_refl _) h.size |>.rd hZv hz) (hS4.below_at h nnS)
      clear hXv hYv hZv hX4 hY4 hZ4 hXt hYt hZt jj1 jj2 ii1 ii2 kk1 kk2 gg1 gg2 hb hb2 hb3 hb4 hbw hbw2 hbw3 HTX HTY HTZ HG HA HN HK1 HK2 HPL hpl hrp hnm hrn
      go_wp2_with (first
        | (go_at_call 14; refine (HQ _ (Below.refl _ _)).out.mono ?_; rintro e w5 ⟨A, cA, rfl, hsA, hb5, htA⟩
           have z5 := hb5.size
           have hbw5 := below_via HBW4.out hb5
           have p1 := (hb5.block w.heap.size nn1).trans HG1.out
           have p2 := (hb5.block (w.heap.size + 1) nn2).trans HG2.out
           have o1 : w.heap.size < w5.heap.size := Nat.lt_of_lt_of_le nn1 z5
           have o2 : w.heap.size + 1 < w5.heap.size := Nat.lt_of_lt_of_le nn2 z5
           obtain ⟨a0, a1, a2⟩ := three_c28 p1
           obtain ⟨r0, r1, r2, r3, r4⟩ := five_c28 p2)
        | (go_at_call 15; refine (HRP _ hbw5).out.mono ?_; rintro e w6 ⟨B, cB, rfl, hsB, hb6⟩
           have z6 := hb6.size
           have hbw6 := below_via hbw5 hb6
           have p3 := (hb6.block w.heap.size o1).trans p1
           have p4 := (hb6.block (w.heap.size + 1) o2).trans p2
           have o3 : w.heap.size < w6.heap.size := Nat.lt_of_lt_of_le o1 z6
           have o4 : w.heap.size + 1 < w6.heap.size := Nat.lt_of_lt_of_le o2 z6
           have hb46 := below_via hb5 hb6
           obtain ⟨a0, a1, a2⟩ := three_c28 p3
           obtain ⟨r0, r1, r2, r3, r4⟩ := five_c28 p4)
        | (go_at_call 16; refine (HNM _ X HXV.out (((HX4.out.blw hb46 (Nat.le_refl _)).widen (Nat.le_refl _) hb46.size).rd HXV.out hx) (hS4.below_at hb46 nnS)).out.mono ?_; rintro e w7 ⟨C, cC, rfl, hsC, hb7, htC⟩
           have z7 := hb7.size
           have hbw7 := below_via hbw6 hb7
           have p5 := (hb7.block w.heap.size o3).trans p3
           have p6 := (hb7.block (w.heap.size + 1) o4).trans p4
           have o5 : w.heap.size < w7.heap.size := Nat.lt_of_lt_of_le o3 z7
           have o6 : w.heap.size + 1 < w7.heap.size := Nat.lt_of_lt_of_le o4 z7
           obtain ⟨a0, a1, a2⟩ := three_c28 p5
           obtain ⟨r0, r1, r2, r3, r4⟩ := five_c28 p6)
        | (go_at_call 17; refine (HRN _ hbw7).out.mono ?_; rintro e w8 ⟨D, cD, rfl, hsD, hb8⟩
           have z8 := hb8.size
           have hbw8 := below_via hbw7 hb8
           have p7 := (hb8.block w.heap.size o5).trans p5
           have p8 := (hb8.block (w.heap.size + 1) o6).trans p6
           have o7 : w.heap.size < w8.heap.size := Nat.lt_of_lt_of_le o5 z8
           have o8 : w.heap.size + 1 < w8.heap.size := Nat.lt_of_lt_of_le o6 z8
           obtain ⟨a0, a1, a2⟩ := three_c28 p7
           obtain ⟨r0, r1, r2, r3, r4⟩ := five_c28 p8))
      have hb48 := below_via (below_via hb46 hb7) hb8
      have l8 := o7
      have m8 := o8
      have t8 := p7
      have s8 := p8
      have hc8 : Below w8.heap.size w8 w8 := Below.refl _ _
      have hsA8 := ((hsA.below' hb6).below' hb7).below' hb8
      have hsB8 := (hsB.below' hb7).below' hb8
      have hsC8 := hsC.below' hb8
      have HSA := Lib.hid hsA8
      have HSB := Lib.hid hsB8
      have HSC := Lib.hid hsC8
      have HSD := Lib.hid hsD
      have htA8 := ((htA.up hb6).up hb7).up hb8
      have htC8 := htC.up hb8
      have HTA := Lib.hid htA8
      have HTC := Lib.hid htC8
      have HB48 := Lib.hid hb48
      clear hsA8 hsB8 hsC8 hsD hsA hsB hsC htA htC htA8 htC8 hb5 hb6 hb7 hb8 p1 p2 p3 p4 p5 p6 p7 p8 HRP HNM HRN hbw5 hbw6 hbw7 hb46 hb48
      have HLX := fun W (h : Below w8.heap.size w8 W) (h2 : Below w.heap.size w W) => Lib.hid (left23_c W x X HXV.out ((HX4.out.blw (HB48.out.trans (h.mono HB48.out.size)) (Nat.le_refl _)).widen (Nat.le_refl _) (HB48.out.trans (h.mono HB48.out.size)).size) (hx.up h2))
      have HLY := fun W (h : Below w8.heap.size w8 W) (h2 : Below w.heap.size w W) => Lib.hid (left23_c W y Y HYV.out ((HY4.out.blw (HB48.out.trans (h.mono HB48.out.size)) (Nat.le_refl _)).widen (Nat.le_refl _) (HB48.out.trans (h.mono HB48.out.size)).size) (hy.up h2))
      have HLZ := fun W (h : Below w8.heap.size w8 W) (h2 : Below w.heap.size w W) => Lib.hid (left23_c W z Z HZV.out ((HZ4.out.blw (HB48.out.trans (h.mono HB48.out.size)) (Nat.le_refl _)).widen (Nat.le_refl _) (HB48.out.trans (h.mono HB48.out.size)).size) (hz.up h2))
      go_wp2_with (first
        | (go_at_call 18; refine (same28_c _ A B cA cB T _ _ _ _ HSA.out HSB.out (by omega)).mono ?_; rintro e w9 ⟨rfl, hb9⟩
           have z9 := hb9.size
           have hbw9 := below_via hbw8 hb9
           have u9 := (hb9.block w.heap.size l8).trans t8
           have v9 := (hb9.block (w.heap.size + 1) m8).trans s8
           have l9 : w.heap.size < w9.heap.size := Nat.lt_of_lt_of_le l8 z9
           have m9 : w.heap.size + 1 < w9.heap.size := Nat.lt_of_lt_of_le m8 z9
           have hc9 := below_via hc8 hb9
           have t9 := u9
           have s9 := v9
           obtain ⟨a0, a1, a2⟩ := three_c28 u9
           obtain ⟨r0, r1, r2, r3, r4⟩ := five_c28 v9)
        | (go_at_call 19; refine (sameTexts_c _ C D cC cD ns _ _ _ _ (HSC.out.below' hc9) (HSD.out.below' hc9) (by omega)).mono ?_; rintro e w10 ⟨rfl, hb10⟩
           have z10 := hb10.size
           have hbw10 := below_via hbw9 hb10
           have u10 := (hb10.block w.heap.size l9).trans t9
           have v10 := (hb10.block (w.heap.size + 1) m9).trans s9
           have l10 : w.heap.size < w10.heap.size := Nat.lt_of_lt_of_le l9 z10
           have m10 : w.heap.size + 1 < w10.heap.size := Nat.lt_of_lt_of_le m9 z10
           have hc10 := below_via hc9 hb10
           have t10 := u10
           have s10 := v10
           obtain ⟨a0, a1, a2⟩ := three_c28 u10
           obtain ⟨r0, r1, r2, r3, r4⟩ := five_c28 v10)
        | (go_at_call 20; first
            | ((with_reducible refine (HLX _ hc10 hbw10).out.mono ?_); rintro e w11 ⟨rfl, hb11⟩
               have z11 := hb11.size
               have hbw11 := below_via hbw10 hb11
               have u11 := (hb11.block w.heap.size l10).trans t10
               have v11 := (hb11.block (w.heap.size + 1) m10).trans s10
               have l11 : w.heap.size < w11.heap.size := Nat.lt_of_lt_of_le l10 z11
               have m11 : w.heap.size + 1 < w11.heap.size := Nat.lt_of_lt_of_le m10 z11
               have hc11 := below_via hc10 hb11
               have t11 := u11
               have s11 := v11
               obtain ⟨a0, a1, a2⟩ := three_c28 u11
               obtain ⟨r0, r1, r2, r3, r4⟩ := five_c28 v11)
            | ((with_reducible refine (HLY _ hc11 hbw11).out.mono ?_); rintro e w12 ⟨rfl, hb12⟩
               have z12 := hb12.size
               have hbw12 := below_via hbw11 hb12
               have u12 := (hb12.block w.heap.size l11).trans t11
               have v12 := (hb12.block (w.heap.size + 1) m11).trans s11
               have l12 : w.heap.size < w12.heap.size := Nat.lt_of_lt_of_le l11 z12
               have m12 : w.heap.size + 1 < w12.heap.size := Nat.lt_of_lt_of_le m11 z12
               have hc12 := below_via hc11 hb12
               have t12 := u12
               have s12 := v12
               obtain ⟨a0, a1, a2⟩ := three_c28 u12
               obtain ⟨r0, r1, r2, r3, r4⟩ := five_c28 v12)
            | ((with_reducible refine (HLZ _ hc12 hbw12).out.mono ?_); rintro e w13 ⟨rfl, hb13⟩
               have z13 := hb13.size
               have hbw13 := below_via hbw12 hb13
               have u13 := (hb13.block w.heap.size l12).trans t12
               have v13 := (hb13.block (w.heap.size + 1) m12).trans s12
               have l13 : w.heap.size < w13.heap.size := Nat.lt_of_lt_of_le l12 z13
               have m13 : w.heap.size + 1 < w13.heap.size := Nat.lt_of_lt_of_le m12 z13
               have hc13 := below_via hc12 hb13
               have t13 := u13
               have s13 := v13
               obtain ⟨a0, a1, a2⟩ := three_c28 u13
               obtain ⟨r0, r1, r2, r3, r4⟩ := five_c28 v13)))
      have HSA13 := Lib.hid (HSA.out.below' hc13)
      have HSC13 := Lib.hid (HSC.out.below' hc13)
      have HSB13 := Lib.hid (HSB.out.below' hc13)
      have HTA13 := Lib.hid (HTA.out.up hc13)
      have HTC13 := Lib.hid (HTC.out.up hc13)
      have HC13 := Lib.hid hc13
      have HW13 := Lib.hid hbw13
      have HU13 := Lib.hid u13
      have HV13 := Lib.hid v13
      clear a0 a1 a2 r0 r1 r2 r3 r4 HSA HSB HSC HSD HTA HTC HLX HLY HLZ u9 v9 u10 v10 u11 v11 u12 v12 u13 v13 t8 s8 t9 s9 t10 s10 t11 s11 t12 s12 t13 s13 hb9 hb10 hb11 hb12 hb13 hc8 hc9 hc10 hc11 hc12 hc13 hbw8 hbw9 hbw10 hbw11 hbw12 hbw13 HG1 HG2
      go_loopw [16] (fun i wr => ∃ m : Nat, m ≤ T.length ∧ i = .int .i64 m ∧ Spoilt w4.heap.size w5.heap.size w6.heap.size w13 wr) (fun i _ => T.length - (intOf i).toNat)
      case atStart => exact ⟨0, Nat.zero_le _, by go_num, .refl _ _ _ _⟩
      case round =>
        obtain ⟨m, hm, rfl, hsp⟩ := hrel
        have HSP := Lib.hid hsp
        by_cases hlt : m < T.length
        · have hk : T[m]? = some T[m] := List.getElem?_eq_getElem hlt
          generalize T[m] = t at hk
          obtain ⟨g, off, eA, h1, h2, h3, h4⟩ := HSA13.out (by omega)
          obtain ⟨g5, f5⟩ := HTA13.out g off eA
          have c0 := h4 m t hk 0 _ rfl
          rw [Nat.add_zero] at c0
          have c1 := hsp.some g (off + m * 4)
          rw [c0] at c1
          obtain ⟨u, c2⟩ := Option.isSome_iff_exists.1 c1
          have f6 := (hsp.cold g (off + m * 4)).trans (f5 _)
          have hlt' : (m : Int) < (T.length : Int) := by omega
          have hm0 : (0 : Int) ≤ (m : Int) := by omega
          have hwm : IntKind.i64.wrap ((m : Int) + 1) = ((m + 1 : Nat) : Int) := by rw [IntWalk.i64_in _ (by omega)]; omega
          have hgw : g < wr.heap.size := World.block_lt_of_cell? wr ⟨g, _, none⟩ c2
          have HEA := Lib.hid eA
          have hnew := Lib.hid (fun v => hsp.set h1 (.inl h2) c2 v)
          clear hk eA c0 c1 hsp h4 f5
          rw [HEA.out]
          go_wp2_with fail
          exact ⟨⟨m + 1, by omega, by go_num, hnew.out _⟩, by simp [intOf]; omega⟩
        · obtain rfl : m = T.length := by omega
          have hge : ¬ (T.length : Int) < (T.length : Int) := by omega
          clear hsp
          go_wp2_with fail
          go_loopw [17] (fun i wr => ∃ m : Nat, m ≤ ns.length ∧ i = .int .i64 m ∧ Spoilt w4.heap.size w5.heap.size w6.heap.size w13 wr) (fun i _ => ns.length - (intOf i).toNat)
          case atStart => exact ⟨0, Nat.zero_le _, by go_num, HSP.out⟩
          case round =>
            clear HSP
            obtain ⟨m, hm, rfl, hsp⟩ := hrel
            have HSP := Lib.hid hsp
            by_cases hlt : m < ns.length
            · have hk : ns[m]? = some ns[m] := List.getElem?_eq_getElem hlt
              generalize ns[m] = t at hk
              obtain ⟨g, off, eA, h1, h2, h3, h4⟩ := HSC13.out (by omega)
              obtain ⟨g5, f5⟩ := HTC13.out g off eA
              have c0 := h4 m t hk 0 _ rfl
              rw [Nat.add_zero, Nat.mul_one] at c0
              have c1 := hsp.some g (off + m)
              rw [c0] at c1
              obtain ⟨u, c2⟩ := Option.isSome_iff_exists.1 c1
              have f6 := (hsp.cold g (off + m)).trans (f5 _)
              have hlt' : (m : Int) < (ns.length : Int) := by omega
              have hm0 : (0 : Int) ≤ (m : Int) := by omega
              have hwm : IntKind.i64.wrap ((m : Int) + 1) = ((m + 1 : Nat) : Int) := by rw [IntWalk.i64_in _ (by omega)]; omega
              have hgw : g < wr.heap.size := World.block_lt_of_cell? wr ⟨g, _, none⟩ c2
              have HEA := Lib.hid eA
              have hnew := Lib.hid (fun v => hsp.set (by omega) (.inr h1) c2 v)
              clear hk eA c0 c1 hsp h4 f5
              rw [HEA.out]
              go_wp2_with fail
              exact ⟨⟨m + 1, by omega, by go_num, hnew.out _⟩, by simp [intOf]; omega⟩
            · obtain rfl : m = ns.length := by omega
              have hge : ¬ (ns.length : Int) < (ns.length : Int) := by omega
              have hbl : Below w4.heap.size w4 wr := HB48.out.trans ((HC13.out.mono HB48.out.size).trans hsp.bel)
              have hbl2 := below_via HBW4.out hbl
              have y1 := (hsp.bel.block w.heap.size nn1).trans HU13.out
              have y2 := (hsp.bel.block (w.heap.size + 1) nn2).trans HV13.out
              have y3 : w.heap.size < wr.heap.size := Nat.lt_of_lt_of_le nn1 hbl.size
              have y4 : w.heap.size + 1 < wr.heap.size := Nat.lt_of_lt_of_le nn2 hbl.size
              have HSBR := Lib.hid (HSB13.out.keep hsp.bel.size fun k q1 q2 _ => hsp.mid k q1 q2)
              have HBL := Lib.hid hbl
              have HBL2 := Lib.hid hbl2
              obtain ⟨a0, a1, a2⟩ := three_c28 y1
              obtain ⟨r0, r1, r2, r3, r4⟩ := five_c28 y2
              clear hsp hbl hbl2 y1 y2
              go_wp2_with (first
                | (go_at_call 14; refine (HQ _ HBL.out).out.mono ?_; rintro e w14 ⟨A', cA', rfl, hsA', hb14, -⟩
                   have hbw14 := below_via HBL2.out hb14)
                | (go_at_call 18; refine (same28_c _ A' B cA' cB T _ _ _ _ hsA' (HSBR.out.below' hb14) (by omega)).mono ?_; rintro e w15 ⟨rfl, hb15⟩
                   have hbw15 := below_via hbw14 hb15)
                | (go_at_call 12; refine (HL _ hbw15).out.mono ?_; rintro e w16 ⟨rfl, hb16⟩))
              go_ret
              exact ⟨rfl, below_via hbw15 hb16⟩
    · go_wp2_with (go_at_call 12; refine (HL _ hbw).out.mono ?_; rintro e w5 ⟨rfl, hb5⟩)
      go_ret
      exact ⟨rfl, below_via hbw hb5⟩
end Go.Proofs.YtcpdogjcofkpcaaGreatDoor
