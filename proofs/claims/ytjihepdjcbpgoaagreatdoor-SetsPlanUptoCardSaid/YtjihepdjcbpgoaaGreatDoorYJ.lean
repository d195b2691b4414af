/-
  sets.Plan: the picks of a merged set. Conditions: the lists lie in memory, lengths and weights are bounded; strconv's table of powers holds what its initialiser lays.
  sets.own: a copy whose rows are the caller's own, each in a block of its own. Conditions: the tree lies in memory, its weight is bounded.
  sets.Take: copies of what is picked. Conditions: the lists and the picks lie in memory, lengths and weights are bounded.
-/
import Derived.Test.YtjihepdjcbpgoaaGreatDoorYI
import Derived.Test.YtjihepdjcbpgoaaGreatDoorVM
import Derived.Test.YtjihepdjcbpgoaaGreatDoorSO
namespace Go.Proofs.YtjihepdjcbpgoaaGreatDoor
open Go.RowKit Go.Sort

set_option maxRecDepth 100000 in
theorem idxM_0 (a b c : Value) (w : World) : (Instr.index 38 (.agg #[a, b, c]) (.int .i64 0)).run Tryz.prog w = .ok a w := by rfl
set_option maxRecDepth 100000 in
theorem idxM_1 (a b c : Value) (w : World) : (Instr.index 38 (.agg #[a, b, c]) (.int .i64 1)).run Tryz.prog w = .ok b w := by rfl
set_option maxRecDepth 100000 in
theorem idxM_2 (a b c : Value) (w : World) : (Instr.index 38 (.agg #[a, b, c]) (.int .i64 2)).run Tryz.prog w = .ok c w := by rfl
set_option maxRecDepth 100000 in
theorem idxS_0 (a b : Value) (w : World) : (Instr.index 87 (.agg #[a, b]) (.int .i64 0)).run Tryz.prog w = .ok a w := by rfl
set_option maxRecDepth 100000 in
theorem idxS_1 (a b : Value) (w : World) : (Instr.index 87 (.agg #[a, b]) (.int .i64 1)).run Tryz.prog w = .ok b w := by rfl

theorem frozen_block {w : World} {g : Nat} {cs : Array Value} {t : TypeId} (h : w.heap[g]? = some (.cells cs t (0, 0))) (o : Nat) : w.frozen? ⟨g, o, none⟩ = false := by simp [World.frozen?, h]
/-- One list's keys have been laid: the map of places, the keys in order. -/
def EntS (w : World) (g : Nat) (q : LA) (u o : Value) : Prop :=
  ∃ (B : Nat) (A : Option Addr) (c : Nat), u = .map (some B) ∧ o = .slice A (firsts q.keys).length c ∧ MapIs w B q.keys ∧ SlE strE 1 w (g + 2) w.heap.size A (firsts q.keys) ∧ g + 2 ≤ B
theorem EntS.keep {w w' : World} {g : Nat} {q : LA} {u o : Value} (h : EntS w g q u o) (hs : w.heap.size ≤ w'.heap.size) (hk : ∀ k, g + 2 ≤ k → k < w.heap.size → w'.heap[k]? = w.heap[k]?) : EntS w' g q u o := by
  obtain ⟨B, A, c, h1, h2, h3, h4, h5⟩ := h
  exact ⟨B, A, c, h1, h2, h3.blk (hk B h5 h3.lt), (h4.keep hs fun k g1 _ g3 => hk k g1 g3).widen (Nat.le_refl _) hs, h5⟩
/-- i of the three lists' keys have been laid. -/
def PSt (W1 : World) (g : Nat) (x y z : LA) (i : Nat) (w : World) : Prop :=
  Below g W1 w ∧ ∃ u0 u1 u2 o0 o1 o2, w.heap[g]? = some (.cells #[u0, u1, u2] 81 (0, 0)) ∧ w.heap[g + 1]? = some (.cells #[o0, o1, o2] 82 (0, 0)) ∧ (0 < i → EntS w g x u0 o0) ∧ (1 < i → EntS w g y u1 o1) ∧ (2 < i → EntS w g z u2 o2)
theorem two_stores {w : World} {g k k' : Nat} (v v' : Value) {j : Nat} (h : g + 2 ≤ j) : ((w.setCell ⟨g, k, none⟩ v).setCell ⟨g + 1, k', none⟩ v').heap[j]? = w.heap[j]? :=
  (Below.heap_setCell _ _ _ j (by show j ≠ g + 1; omega)).trans (Below.heap_setCell w _ _ j (by show j ≠ g; omega))
theorem PSt.next {W1 wr w' : World} {g i : Nat} {x y z q : LA} (h : PSt W1 g x y z i wr) (hq : (i = 0 ∧ q = x) ∨ (i = 1 ∧ q = y) ∨ (i = 2 ∧ q = z)) (hb : Below wr.heap.size wr w') (hg : g + 2 ≤ wr.heap.size) {B : Nat} {A : Option Addr} {c : Nat}
    (hB : wr.heap.size ≤ B) (hm : MapIs w' B q.keys) (hs : SlE strE 1 w' wr.heap.size w'.heap.size A (firsts q.keys)) :
    PSt W1 g x y z (i + 1) ((w'.setCell ⟨g, i, none⟩ (.map (some B))).setCell ⟨g + 1, i, none⟩ (.slice A (firsts q.keys).length c)) := by
  obtain ⟨hb0, u0, u1, u2, o0, o1, o2, hu, ho, e0, e1, e2⟩ := h
  have hsz := hb.size
  have hk : ∀ k, g + 2 ≤ k → k < wr.heap.size → ((w'.setCell ⟨g, i, none⟩ (.map (some B))).setCell ⟨g + 1, i, none⟩ (.slice A (firsts q.keys).length c)).heap[k]? = wr.heap[k]? := fun k h1 h2 => (two_stores _ _ h1).trans (hb.block k h2)
  have hs2 : wr.heap.size ≤ ((w'.setCell ⟨g, i, none⟩ (.map (some B))).setCell ⟨g + 1, i, none⟩ (.slice A (firsts q.keys).length c)).heap.size := by simpa using hsz
  have hu' := (Below.heap_setCell (w'.setCell ⟨g, i, none⟩ (.map (some B))) ⟨g + 1, i, none⟩ (.slice A (firsts q.keys).length c) g (by show g ≠ g + 1; omega)).trans (set_blk ((hb.block g (by omega)).trans hu) i (.map (some B)))
  have ho' := set_blk ((Below.heap_setCell w' ⟨g, i, none⟩ (.map (some B)) (g + 1) (by show g + 1 ≠ g; omega)).trans ((hb.block (g + 1) (by omega)).trans ho)) i (.slice A (firsts q.keys).length c)
  have hnew : EntS ((w'.setCell ⟨g, i, none⟩ (.map (some B))).setCell ⟨g + 1, i, none⟩ (.slice A (firsts q.keys).length c)) g q (.map (some B)) (.slice A (firsts q.keys).length c) :=
    ⟨B, A, c, rfl, rfl, hm.blk (two_stores _ _ (by omega)), (hs.keep (by simp) fun k h1 _ _ => two_stores _ _ (by omega)).widen hg (by simp), by omega⟩
  refine ⟨((hb0.trans (hb.mono (by omega))).setCell (p := ⟨g, i, none⟩) (Nat.le_refl _) _).setCell (p := ⟨g + 1, i, none⟩) (Nat.le_succ _) _, ?_⟩
  rcases hq with ⟨rfl, rfl⟩ | ⟨rfl, rfl⟩ | ⟨rfl, rfl⟩
  · exact ⟨_, _, _, _, _, _, hu', ho', fun _ => hnew, fun h => absurd h (by omega), fun h => absurd h (by omega)⟩
  · exact ⟨_, _, _, _, _, _, hu', ho', fun _ => (e0 (by omega)).keep hs2 hk, fun _ => hnew, fun h => absurd h (by omega)⟩
  · exact ⟨_, _, _, _, _, _, hu', ho', fun _ => (e0 (by omega)).keep hs2 hk, fun _ => (e1 (by omega)).keep hs2 hk, fun _ => hnew⟩

def PlanPost27 (b l r : List Val) (u : Int) (w : World) (e : Ending) (w' : World) : Prop :=
  ∃ (P : List Pk) (a : Option Addr), e = .returned (.slice a P.length P.length) ∧ (anyBad (b ++ l ++ r) = true → P = []) ∧ (anyBad (b ++ l ++ r) = false → PicksAre b l r u P) ∧ P.length ≤ 4194304 ∧
    OwnC w' w.heap.size 50 2 a P.length P.length (P.flatMap Pk.enc) ∧ Below w.heap.size w w'

/-- What a side brings that neither base nor those ahead of it have. -/
def freshK (kb K kq : List ByteArray) : List ByteArray := (firsts kq).filter fun s => decide (s ∉ K) && decide (s ∉ kb)
theorem freshK_nil (kb kq : List ByteArray) : freshK kb [] kq = newK kb kq := by
  unfold freshK newK
  congr 1
theorem freshK_new (kb kx kq : List ByteArray) : freshK kb (newK kb kx) kq = moreK kb kx kq := by
  unfold freshK moreK
  refine List.filter_congr fun s _ => ?_
  rw [← Bool.decide_and]
  refine decide_eq_decide.2 ?_
  rw [newK_mem]
  constructor
  · rintro ⟨h1, h2⟩
    exact ⟨h2, fun h => h1 ⟨h, h2⟩⟩
  · rintro ⟨h1, h2⟩
    exact ⟨fun h => h2 h.1, h1⟩
theorem take_nodup {l : List ByteArray} (h : l.Nodup) {m : Nat} {s : ByteArray} (hm : l[m]? = some s) : s ∉ l.take m := by
  intro hs
  obtain ⟨i, hi, e⟩ := List.mem_iff_getElem.1 hs
  rw [List.length_take] at hi
  rw [List.getElem_take] at e
  obtain ⟨hm1, hm2⟩ := List.getElem?_eq_some_iff.1 hm
  exact List.pairwise_iff_getElem.1 h i m (by omega) hm1 (by omega) (e.trans hm2.symm)
theorem firstsAt {q : LA} {m : Nat} {s : ByteArray} (h : (firsts q.keys)[m]? = some s) : s ∈ q.keys := firsts_mem.1 (List.mem_of_getElem? h)
theorem keys_v (q : LA) : q.keys = keysV q.v := by rw [LA.keys, keysV, LA.v, List.map_map]; rfl
theorem keys_size {w : World} {q : LA} (hq : q.Rd w) {s : ByteArray} (h : s ∈ q.keys) : s.size ≤ Go.maxLen := by
  rw [LA.keys, List.mem_map] at h
  obtain ⟨y, hy, rfl⟩ := h
  have := key_size (hq.kids y hy).1 (hq.kids y hy).2
  unfold Go.maxLen
  omega
/-- A side's keys. -/
def sideK (ky kz : List ByteArray) (s : Nat) : List ByteArray := if s = 1 then ky else kz
/-- What is fresh behind i of the sides s1, s2. -/
def FSt (kb ky kz : List ByteArray) (s1 s2 i : Nat) (F : List Pk) (K : List ByteArray) : Prop :=
  (i = 0 → F = [] ∧ K = []) ∧ (i = 1 → K = freshK kb [] (sideK ky kz s1) ∧ F = (freshK kb [] (sideK ky kz s1)).map (pkS s1 (sideK ky kz s1))) ∧
    (i = 2 → F = (freshK kb [] (sideK ky kz s1)).map (pkS s1 (sideK ky kz s1)) ++ (freshK kb (freshK kb [] (sideK ky kz s1)) (sideK ky kz s2)).map (pkS s2 (sideK ky kz s2)))
theorem FSt.step {kb ky kz : List ByteArray} {s1 s2 i s : Nat} {F : List Pk} {K : List ByteArray} (h : FSt kb ky kz s1 s2 i F K) (hs : (i = 0 ∧ s = s1) ∨ (i = 1 ∧ s = s2)) :
    FSt kb ky kz s1 s2 (i + 1) (F ++ (freshK kb K (sideK ky kz s)).map (pkS s (sideK ky kz s))) (K ++ freshK kb K (sideK ky kz s)) := by
  obtain ⟨h0, h1, h2⟩ := h
  rcases hs with ⟨rfl, rfl⟩ | ⟨rfl, rfl⟩
  · obtain ⟨rfl, rfl⟩ := h0 rfl
    exact ⟨fun h => absurd h (by omega), fun _ => ⟨rfl, rfl⟩, fun h => absurd h (by omega)⟩
  · obtain ⟨rfl, rfl⟩ := h1 rfl
    exact ⟨fun h => absurd h (by omega), fun h => absurd h (by omega), fun _ => rfl⟩
theorem FSt.fst {kb ky kz : List ByteArray} {F : List Pk} {K : List ByteArray} (h : FSt kb ky kz 1 2 2 F K) : F = fresh1 kb ky kz := by
  rw [h.2.2 rfl, freshK_nil, freshK_new]; rfl
theorem FSt.snd {kb ky kz : List ByteArray} {F : List Pk} {K : List ByteArray} (h : FSt kb ky kz 2 1 2 F K) : F = fresh2 kb ky kz := by
  rw [h.2.2 rfl, freshK_nil, freshK_new]; rfl
theorem freshK_len (kb K kq : List ByteArray) : (freshK kb K kq).length ≤ kq.length := Nat.le_trans (List.length_filter_le _ _) (firsts_len kq)
theorem fresh1_len (kb ky kz : List ByteArray) : (fresh1 kb ky kz).length ≤ ky.length + kz.length := by
  rw [fresh1, List.length_append, List.length_map, List.length_map]
  have h1 := freshK_len kb [] ky
  have h2 := freshK_len kb (newK kb ky) kz
  rw [freshK_nil] at h1
  rw [freshK_new] at h2
  omega
theorem fresh2_len (kb ky kz : List ByteArray) : (fresh2 kb ky kz).length ≤ ky.length + kz.length := by
  rw [fresh2, List.length_append, List.length_map, List.length_map]
  have h1 := freshK_len kb [] kz
  have h2 := freshK_len kb (newK kb kz) ky
  rw [freshK_nil] at h1
  rw [freshK_new] at h2
  omega
theorem bothP_len (kb ky kz : List ByteArray) : (bothP kb ky kz).length ≤ kb.length := by
  rw [bothP, List.length_map]
  exact Nat.le_trans (List.length_filter_le _ _) (firsts_len kb)
theorem fresh_pick {x y z : LA} (hb : anyBad (x.v ++ y.v ++ z.v) = false) {p : Pk} (h : p ∈ fresh1 x.keys y.keys z.keys) : ∃ v, pickV x.l y.l z.l p = some v ∧ v.v.may = true := by
  rw [keys_v, keys_v, keys_v] at h
  obtain ⟨v, h1, h2⟩ := fresh1_at h
  have hv : v ∈ x.v ++ y.v ++ z.v := by rcases h2 with ⟨h, -⟩ | ⟨h, -⟩ <;> simp [h]
  rw [LA.v, LA.v, LA.v, pickV_map] at h1
  cases e : pickV x.l y.l z.l p with
  | none => rw [e] at h1; cases h1
  | some u =>
    rw [e] at h1
    cases h1
    exact ⟨u, rfl, anyBad_not.1 hb _ hv⟩
theorem st_func (w : World) (t : TypeId) (u : Value) (f : Fn) (xs ys : Array Value) : Sem.run Tryz.prog (store ⟨w.heap.size, 0, none⟩ (.func f xs ys)) (w.alloc (.cells #[u] t)) = .ok () (w.alloc (.cells #[.func f xs ys] t)) := by
  rw [run_store _ _ _ _ _ rfl]
  simp [World.setCell_alloc_at]
theorem OwnC.nil (w : World) (base e size : Nat) : OwnC w base e size none 0 0 [] := ⟨by simp, Nat.le_refl _, fun h => absurd h (by omega)⟩

set_option maxRecDepth 100000 in
set_option maxHeartbeats 3200000 in
theorem plan27_c (w : World) (x y z : LA) (u : Nat) (hx : x.Rd w) (hy : y.Rd w) (hz : z.Rd w) (hP : Pow w) :
    Calls Tryz.prog 33 #[.slice x.a x.l.length x.c, .slice y.a y.l.length y.c, .slice z.a z.l.length z.c, .int .u8 u] w (PlanPost27 x.v y.v z.v u w) := by
  have hxl := hx.len
  have hyl := hy.len
  have hzl := hz.len
  have HX := Lib.hid hx
  have HY := Lib.hid hy
  have HZ := Lib.hid hz
  have HP := Lib.hid hP
  clear hx hy hz hP
  go_enter Tryz.func33, Tryz.ntmps33
  go_upto_region 1 with fail
  go_name_world W0 hW0
  have hb0 : Below w.heap.size w W0 := by rw [← hW0]; exact (((Below.refl _ _).alloc (Nat.le_refl _) _).alloc (by simp) _).alloc (by simp; omega) _
  have hs0 : W0.heap.size = w.heap.size + 3 := by rw [← hW0]; simp
  have HBX : Boxes3 W0 w.heap.size (w.heap.size + 1) (w.heap.size + 2) x y z := by
    have k4 : W0.heap[w.heap.size]? = some (.cells #[.slice x.a x.l.length x.c] 23 (0, 0)) := by rw [← hW0]; exact (heap_alloc_old _ _ _ (by simp; omega)).trans ((heap_alloc_old _ _ _ (by simp)).trans (heap_alloc_new w _))
    have k5 : W0.heap[w.heap.size + 1]? = some (.cells #[.slice y.a y.l.length y.c] 23 (0, 0)) := by
      rw [← hW0]
      have := heap_alloc_new (w.alloc (.cells #[.slice x.a x.l.length x.c] 23)) (.cells #[.slice y.a y.l.length y.c] 23)
      rw [World.size_alloc] at this
      exact (heap_alloc_old _ _ _ (by simp)).trans this
    have k6 : W0.heap[w.heap.size + 2]? = some (.cells #[.slice z.a z.l.length z.c] 23 (0, 0)) := by
      rw [← hW0]
      have := heap_alloc_new ((w.alloc (.cells #[.slice x.a x.l.length x.c] 23)).alloc (.cells #[.slice y.a y.l.length y.c] 23)) (.cells #[.slice z.a z.l.length z.c] 23)
      rwa [World.size_alloc, World.size_alloc] at this
    exact ⟨by simp [World.cell?, k4], by simp [World.cell?, k5], by simp [World.cell?, k6]⟩
  obtain ⟨x4, x5, x6⟩ := HBX
  have HBX := Lib.hid (show Boxes3 W0 w.heap.size (w.heap.size + 1) (w.heap.size + 2) x y z from ⟨x4, x5, x6⟩)
  have hlist := lit_sl (enc := LA.enc) (size := 1) (l := [x, y, z]) (t := 23) (fr := (0, 0)) (fun _ => rfl) (heap_alloc_new W0 (.cells #[.slice x.a x.l.length x.c, .slice y.a y.l.length y.c, .slice z.a z.l.length z.c] 23))
  have hba := (Below.refl W0.heap.size W0).alloc (Nat.le_refl _) (.cells #[.slice x.a x.l.length x.c, .slice y.a y.l.length y.c, .slice z.a z.l.length z.c] 23)
  have HB := bad_c _ (some ⟨W0.heap.size, 0, none⟩) 3 [x, y, z] (hlist.widen (Nat.zero_le _) (by simp)) (fun q hq => by
    have hbw := below_via hb0 hba
    simp only [List.mem_cons, List.not_mem_nil, or_false] at hq
    rcases hq with rfl | rfl | rfl
    · exact HX.out.up hbw
    · exact HY.out.up hbw
    · exact HZ.out.up hbw) (by simp)
  rw [show [x, y, z].flatMap LA.v = x.v ++ y.v ++ z.v by simp] at HB
  have HB := Lib.hid HB
  have HBA := Lib.hid hba
  have HB0 := Lib.hid hb0
  obtain ⟨r, hr⟩ : ∃ r, anyBad (x.v ++ y.v ++ z.v) = r := ⟨_, rfl⟩
  rw [hr] at HB
  have HR := Lib.hid hr
  have HS0 := Lib.hid hs0
  clear hW0 hlist hba hb0 hr hs0
  cases r with
  | true =>
    go_wp2_with (go_at_call 64; refine HB.out.mono ?_; rintro e w1 ⟨rfl, hb1⟩)
    go_ret
    exact ⟨[], none, rfl, fun _ => rfl, (fun h => by rw [HR.out] at h; cases h), Nat.zero_le _, OwnC.nil _ _ _ _, below_via HB0.out (below_via HBA.out hb1)⟩
  | false =>
    go_upto_region 5 with (go_at_call 64; refine HB.out.mono ?_; rintro e w1 ⟨rfl, hb1⟩)
    have hb01 : Below W0.heap.size W0 w1 := below_via HBA.out hb1
    have hs0 := HS0.out
    have hs1 : W0.heap.size < w1.heap.size := by have := hb1.size; simp at this; omega
    go_name_world W1 hW1
    have hb11 : Below w1.heap.size w1 W1 := by rw [← hW1]; exact ((Below.refl _ _).alloc (Nat.le_refl _) _).alloc (by simp) _
    have hs2 : W1.heap.size = w1.heap.size + 2 := by rw [← hW1]; simp
    have hg : W1.heap[w1.heap.size]? = some (.cells #[.map none, .map none, .map none] 81 (0, 0)) := by rw [← hW1]; exact (heap_alloc_old _ _ _ (by simp)).trans (heap_alloc_new w1 _)
    have ho : W1.heap[w1.heap.size + 1]? = some (.cells #[.slice none 0 0, .slice none 0 0, .slice none 0 0] 82 (0, 0)) := by
      rw [← hW1]
      have := heap_alloc_new (w1.alloc (.cells #[.map none, .map none, .map none] 81)) (.cells #[.slice none 0 0, .slice none 0 0, .slice none 0 0] 82)
      rwa [World.size_alloc] at this
    clear hW1 HB x4 x5 x6
    obtain ⟨g, hgn⟩ : ∃ g, g = w1.heap.size := ⟨_, rfl⟩
    rw [← hgn] at hg ho hs2
    have hbw1 : Below w.heap.size w w1 := below_via HB0.out hb01
    have hbgw : Below w.heap.size w W1 := below_via hbw1 hb11
    have hbg0 : Below W0.heap.size W0 W1 := below_via hb01 hb11
    have hst := Lib.hid (show PSt W1 g x y z 0 W1 from ⟨Below.refl _ _, _, _, _, _, _, _, hg, ho, fun h => absurd h (by omega), fun h => absurd h (by omega), fun h => absurd h (by omega)⟩)
    have HG := Lib.hid hgn
    have HS2 := Lib.hid hs2
    have HW := Lib.hid (And.intro hbgw hbg0)
    have hgl : W0.heap.size < g := by omega
    have hgw : w.heap.size < g := by omega
    obtain ⟨x4, x5, x6⟩ := HBX.out.up hbg0
    rw [← hgn]
    have l4 : w.heap.size < W1.heap.size := by omega
    have l5 : w.heap.size + 1 < W1.heap.size := by omega
    have l6 : w.heap.size + 2 < W1.heap.size := by omega
    clear hs0 hs1 hs2 hb1 hb01 hb11 hg ho hgn hbw1 hbgw hbg0
    go_wp2_with fail
    go_loopw [35] (fun s35 wr => ∃ i : Nat, i ≤ 3 ∧ s35 = .int .i64 i ∧ PSt W1 g x y z i wr) (fun s35 _ => 3 - (intOf s35).toNat)
    case atStart => exact ⟨0, by omega, by go_num, hst.out⟩
    case round =>
      clear hst x4 x5 x6 l4 l5 l6
      obtain ⟨i, hi, rfl, hps⟩ := hrel
      have HPS := Lib.hid hps
      obtain ⟨hbr, u0, u1, u2, o0, o1, o2, hu, ho, e0, e1, e2⟩ := hps
      have hgr : g + 2 ≤ wr.heap.size := by have := hbr.size; have := HS2.out; omega
      have hbr0 : Below W0.heap.size W0 wr := HW.out.2.trans (hbr.mono (by omega))
      have hbrw : Below w.heap.size w wr := below_via HB0.out hbr0
      have HO := fun (q : LA) (hq : q = x ∨ q = y ∨ q = z) => Lib.hid (of27_c wr q (by rcases hq with rfl | rfl | rfl; exact HX.out.up hbrw; exact HY.out.up hbrw; exact HZ.out.up hbrw) (HP.out.below hbrw))
      have HU := Lib.hid (And.intro hu ho)
      have HB2 := Lib.hid hbr
      have HB3 := Lib.hid (And.intro hbr0 hbrw)
      clear hbr hu ho e0 e1 e2 hbr0 hbrw
      rcases (show i = 0 ∨ i = 1 ∨ i = 2 ∨ i = 3 by omega) with rfl | rfl | rfl | rfl
      · have hix := idxM_0
        have HOQ := HO x (by simp)
        clear HO
        go_wp2_with (go_at_call 65; refine HOQ.out.mono ?_; rintro e w2 ⟨B, A, c, rfl, hB, hm, hs, hb2⟩
                     have hg2 := has_cell ((hb2.block g (by omega)).trans HU.out.1)
                     have ho2 := has_cell ((hb2.block (g + 1) (by omega)).trans HU.out.2)
                     have fg2 := fun o => frozen_block ((hb2.block g (by omega)).trans HU.out.1) o
                     have fo2 := fun o => frozen_block ((hb2.block (g + 1) (by omega)).trans HU.out.2) o
                     obtain ⟨g0, g1, g2, g3⟩ := hg2
                     obtain ⟨h0, h1, h2, h3⟩ := ho2
                     have HNX := Lib.hid (HPS.out.next (q := x) (by simp) hb2 hgr (c := c) hB hm hs)
                     clear hB hm hs hb2)
        exact ⟨⟨1, by omega, by go_num, HNX.out⟩, by simp [intOf]⟩
      · have hix := idxM_1
        have HOQ := HO y (by simp)
        clear HO
        go_wp2_with (go_at_call 65; refine HOQ.out.mono ?_; rintro e w2 ⟨B, A, c, rfl, hB, hm, hs, hb2⟩
                     have hg2 := has_cell ((hb2.block g (by omega)).trans HU.out.1)
                     have ho2 := has_cell ((hb2.block (g + 1) (by omega)).trans HU.out.2)
                     have fg2 := fun o => frozen_block ((hb2.block g (by omega)).trans HU.out.1) o
                     have fo2 := fun o => frozen_block ((hb2.block (g + 1) (by omega)).trans HU.out.2) o
                     obtain ⟨g0, g1, g2, g3⟩ := hg2
                     obtain ⟨h0, h1, h2, h3⟩ := ho2
                     have HNX := Lib.hid (HPS.out.next (q := y) (by simp) hb2 hgr (c := c) hB hm hs)
                     clear hB hm hs hb2)
        exact ⟨⟨2, by omega, by go_num, HNX.out⟩, by simp [intOf]⟩
      · have hix := idxM_2
        have HOQ := HO z (by simp)
        clear HO
        go_wp2_with (go_at_call 65; refine HOQ.out.mono ?_; rintro e w2 ⟨B, A, c, rfl, hB, hm, hs, hb2⟩
                     have hg2 := has_cell ((hb2.block g (by omega)).trans HU.out.1)
                     have ho2 := has_cell ((hb2.block (g + 1) (by omega)).trans HU.out.2)
                     have fg2 := fun o => frozen_block ((hb2.block g (by omega)).trans HU.out.1) o
                     have fo2 := fun o => frozen_block ((hb2.block (g + 1) (by omega)).trans HU.out.2) o
                     obtain ⟨g0, g1, g2, g3⟩ := hg2
                     obtain ⟨h0, h1, h2, h3⟩ := ho2
                     have HNX := Lib.hid (HPS.out.next (q := z) (by simp) hb2 hgr (c := c) hB hm hs)
                     clear hB hm hs hb2)
        exact ⟨⟨3, by omega, by go_num, HNX.out⟩, by simp [intOf]⟩
      · clear HO HU
        obtain ⟨-, u0, u1, u2, o0, o1, o2, hu, ho, e0, e1, e2⟩ := HPS.out
        obtain ⟨B0, A0, c0, rfl, rfl, m0, s0, -⟩ := e0 (by omega)
        obtain ⟨B1, A1, c1, rfl, rfl, m1, s1, -⟩ := e1 (by omega)
        obtain ⟨B2, A2, c2, rfl, rfl, m2, s2, -⟩ := e2 (by omega)
        clear e0 e1 e2 HPS hi
        obtain ⟨Wa, hWa⟩ : ∃ Wa, Wa = wr := ⟨_, rfl⟩
        subst hWa
        have HHAS := fun (side B : Nat) (K : List ByteArray) (hs : (side = 0 ∧ B = B0) ∨ (side = 1 ∧ B = B1) ∨ (side = 2 ∧ B = B2)) (hm : MapIs Wa B K) (s : ByteArray) (hz : s.size ≤ Go.maxLen) (W : World) (h : Below Wa.heap.size Wa W) => Lib.hid (has_c W g B0 B1 B2 ((h.block g (by omega)).trans hu) side B K hs (hm.up h) s hz)
        obtain ⟨g0, g1, g2, gl⟩ := has_cell hu
        obtain ⟨q0, q1, q2, ql⟩ := has_cell ho
        have HBX2 := Lib.hid (HBX.out.up HB3.out.1)
        have HM := Lib.hid (And.intro m0 (And.intro m1 m2))
        have HS := Lib.hid (And.intro s0 (And.intro s1 s2))
        have HC0 := Lib.hid (And.intro g0 (And.intro g1 g2))
        have HQ0 := Lib.hid (And.intro q0 (And.intro q1 q2))
        have HKX := fun s hs => Lib.hid (keys_size HX.out (s := s) hs)
        have HKY := fun s hs => Lib.hid (keys_size HY.out (s := s) hs)
        have HKZ := fun s hs => Lib.hid (keys_size HZ.out (s := s) hs)
        have hfx := firsts_len x.keys
        have hfy := firsts_len y.keys
        have hfz := firsts_len z.keys
        rw [show x.keys.length = x.l.length from List.length_map ..] at hfx
        rw [show y.keys.length = y.l.length from List.length_map ..] at hfy
        rw [show z.keys.length = z.l.length from List.length_map ..] at hfz
        clear hu ho m0 m1 m2 s0 s1 s2 g0 g1 g2 q1 q2
        obtain ⟨fB, hfB⟩ : ∃ fB : ByteArray → Bool, fB = fun s => decide (s ∈ y.keys ∧ s ∈ z.keys) := ⟨_, rfl⟩
        have HFB := fun s => Lib.hid (show fB s = (decide (s ∈ y.keys) && decide (s ∈ z.keys)) by rw [hfB]; exact Bool.decide_and _ _)
        have HFE := Lib.hid (show bothP x.keys y.keys z.keys = ((firsts x.keys).filter fB).map (pkS 1 y.keys) by rw [hfB]; rfl)
        clear hfB
        obtain ⟨fk, hfk⟩ : ∃ fk, fk = firsts x.keys := ⟨_, rfl⟩
        rw [← hfk] at q0 hfx HFE
        rw [← hfk] at HS
        have HFK := Lib.hid hfk
        clear hfk
        rw [show ((3 : Nat) : Int) = 3 from rfl]
        go_wp2_with fail
        go_loopw [8, 53] (fun s8 s53 wr => ∃ (m : Nat) (P : List Pk) (a : Option Addr) (c : Nat), m ≤ fk.length ∧ s53 = .int .i64 m ∧ P = ((fk.take m).filter fB).map (pkS 1 y.keys) ∧ s8 = .slice a P.length c ∧ OwnP wr Wa.heap.size (.slice a P.length c) P ∧ Below Wa.heap.size Wa wr) (fun _ s53 _ => fk.length - (intOf s53).toNat)
        case atStart => exact ⟨0, [], none, 0, Nat.zero_le _, by go_num, rfl, rfl, ⟨rfl, .inl ⟨rfl, rfl⟩⟩, Below.refl _ _⟩
        case round =>
          clear q0
          obtain ⟨m, P, a, c, hm, rfl, hPe, rfl, hown, hbr⟩ := hrel
          have HPE := Lib.hid hPe
          have HOW := Lib.hid hown
          have HBR := Lib.hid hbr
          have hsr := hbr.size
          have hpl : P.length ≤ m := by
            rw [hPe, List.length_map]
            have := List.length_filter_le fB (fk.take m)
            rw [List.length_take] at this
            omega
          clear hPe hown
          by_cases hlt : m < fk.length
          · have hk : fk[m]? = some fk[m] := List.getElem?_eq_getElem hlt
            generalize fk[m] = s at hk
            have hsx : s ∈ x.keys := by rw [HFK.out] at hk; exact firstsAt hk
            have hz := (HKX s hsx).out
            obtain ⟨b, off, hla, -, -, hb2, c0'⟩ := key_at HS.out.1 hk
            rw [← hbr.cell (p := ⟨_, _, none⟩) hb2] at c0'
            have hbb : b < wr.heap.size := by omega
            have hlt' : (m : Int) < (fk.length : Int) := by omega
            have hm0 : (0 : Int) ≤ (m : Int) := by omega
            have hwm : IntKind.i64.wrap ((m : Int) + 1) = ((m + 1 : Nat) : Int) := by rw [IntWalk.i64_in _ (by omega)]; omega
            have htk : fk.take (m + 1) = fk.take m ++ [s] := by rw [List.take_add_one, hk]; rfl
            have HTK := Lib.hid htk
            have HL := fun W (h : Below Wa.heap.size Wa W) => Lib.hid (show Calls Tryz.prog 66 #[.int .u8 1, .string s, .pointer (some ⟨g, 0, none⟩)] W (Ret (.bool (decide (s ∈ y.keys))) W) from (HHAS 1 B1 y.keys (by simp) HM.out.2.1 s hz W h).out)
            have HR := fun W (h : Below Wa.heap.size Wa W) => Lib.hid (show Calls Tryz.prog 66 #[.int .u8 2, .string s, .pointer (some ⟨g, 0, none⟩)] W (Ret (.bool (decide (s ∈ z.keys))) W) from (HHAS 2 B2 z.keys (by simp) HM.out.2.2 s hz W h).out)
            have HFBs := Lib.hid (HFB s).out
            obtain ⟨rl, hrl⟩ : ∃ r, decide (s ∈ y.keys) = r := ⟨_, rfl⟩
            obtain ⟨rr, hrr⟩ : ∃ r, decide (s ∈ z.keys) = r := ⟨_, rfl⟩
            rw [hrl] at HL
            rw [hrr] at HR
            rw [hrl, hrr] at HFBs
            have HRL := Lib.hid hrl
            clear hk hsx htk hbr hrl hrr
            subst hla
            cases rl with
            | false =>
              go_wp2_with (go_at_call 66; refine (HL _ HBR.out).out.mono ?_; rintro e w3 ⟨rfl, hb3⟩)
              refine ⟨⟨m + 1, P, a, c, by omega, by go_num, ?_, rfl, own_below HOW.out hb3, HBR.out.trans (hb3.mono hsr)⟩, by simp [intOf]; omega⟩
              rw [HTK.out, List.filter_append, List.filter_cons_of_neg (by rw [HFBs.out]; simp), List.filter_nil, List.append_nil]
              exact HPE.out
            | true =>
              cases rr with
              | false =>
                go_wp2_with (go_at_call 66; first
                  | ((with_reducible refine (HL _ HBR.out).out.mono ?_); rintro e w3 ⟨rfl, hb3⟩
                     have hb30 := HBR.out.trans (hb3.mono hsr))
                  | ((with_reducible refine (HR _ hb30).out.mono ?_); rintro e w4 ⟨rfl, hb4⟩))
                refine ⟨⟨m + 1, P, a, c, by omega, by go_num, ?_, rfl, own_below (own_below HOW.out hb3) hb4, hb30.trans (hb4.mono hb30.size)⟩, by simp [intOf]; omega⟩
                rw [HTK.out, List.filter_append, List.filter_cons_of_neg (by rw [HFBs.out]; simp), List.filter_nil, List.append_nil]
                exact HPE.out
              | true =>
                have hsy : s ∈ y.keys := of_decide_eq_true HRL.out
                obtain ⟨ix, hix, -⟩ := idxI_bound hsy
                have HIX := Lib.hid hix
                have HMY := Lib.hid hsy
                clear hix hsy
                go_wp2_with (first
                  | (go_at_call 66; first
                    | ((with_reducible refine (HL _ HBR.out).out.mono ?_); rintro e w3 ⟨rfl, hb3⟩
                       have hb30 := HBR.out.trans (hb3.mono hsr))
                    | ((with_reducible refine (HR _ hb30).out.mono ?_); rintro e w4 ⟨rfl, hb4⟩
                       have hb40 : Below Wa.heap.size Wa w4 := hb30.trans (hb4.mono hb30.size)
                       have hsz4 := hb40.size
                       have k1 := (hb40.cell (p := ⟨g, 1, none⟩) gl).trans HC0.out.2.1
                       have gl4 : g < w4.heap.size := by omega
                       have hlk := (HM.out.2.1.up hb40).lookF s hz HMY.out
                       rw [HIX.out] at hlk
                       have hown4 : OwnP w4 Wa.heap.size (.slice a P.length c) P := own_below (own_below HOW.out hb3) hb4
                       have hlit : SlE Pk.enc 2 (w4.alloc (.cells #[.int .u8 1, .int .i64 ix] 50)) w4.heap.size (w4.heap.size + 1) (some ⟨w4.heap.size, 0, none⟩) [⟨1, ix⟩] := lit_sl (enc := Pk.enc) (size := 2) (l := [⟨1, ix⟩]) (t := 50) (fr := (0, 0)) (fun _ => rfl) (heap_alloc_new _ _)
                       obtain ⟨v', W', hrun, hown', hgr, -⟩ := app_pk (c := 1) (own_below hown4 ((Below.refl _ _).alloc (Nat.le_refl _) _)) hlit (by simp; omega) (by simp; omega)
                       obtain ⟨P', hP'⟩ : ∃ P', P' = P ++ [⟨1, (ix : Int)⟩] := ⟨_, rfl⟩
                       rw [← hP'] at hown'
                       have HP' := Lib.hid hP'
                       clear hP'
                       obtain ⟨a', c', rfl⟩ := own_formP hown'
                       have HOW' := Lib.hid hown'
                       have HGR := Lib.hid hgr
                       have HOW4 := Lib.hid hown4
                       have HB40 := Lib.hid hb40
                       clear hown' hlit hgr hown4 hb40 hb30 hb3 hb4))
                  | (at_builtin; refine wl_append (s := .tmp 65) (x := .tmp 71) rfl rfl (hrun _) ?_; clear hrun))
                refine ⟨⟨m + 1, P', a', c', by omega, by go_num, ?_, rfl, HOW'.out, ?_⟩, by simp [intOf]; omega⟩
                · rw [HTK.out, List.filter_append, List.filter_cons_of_pos (by rw [HFBs.out]; rfl), List.filter_nil, List.map_append, ← HPE.out, HP'.out]
                  show _ = P ++ [pkS 1 y.keys s]
                  rw [pkS, HIX.out]
                · exact (HB40.out.alloc (by omega) _).grown HGR.out (by simp; omega) (fun q hq => (World.ownsRow.lt HOW4.out q hq).1)
          · obtain rfl : m = fk.length := by omega
            have hge : ¬ (fk.length : Int) < (fk.length : Int) := by omega
            have hpb := Lib.hid (show P = bothP x.keys y.keys z.keys by rw [HPE.out, List.take_length, HFE.out])
            obtain ⟨Wb, hWb⟩ : ∃ Wb, Wb = wr := ⟨_, rfl⟩
            subst hWb
            have HAB := Lib.hid HBR.out
            have HOP := Lib.hid HOW.out
            clear HPE hbr HBR HOW
            have hmm := @run_makeMap Tryz.prog
            go_upto_region 20 with fail
            clear hmm
            go_name_world W3 hW3
            have hbb3 : Below Wb.heap.size Wb W3 := by rw [← hW3]; exact ((Below.refl _ _).alloc (Nat.le_refl _) _).alloc (by simp) _
            have hz3 : W3.heap.size = Wb.heap.size + 2 := by rw [← hW3]; simp
            have hmH : MapHas W3 Wb.heap.size [] := by rw [← hW3]; exact (MapHas.made Wb).kept (World.grownBy_alloc _ _ none) (by simp)
            have hsd : W3.heap[Wb.heap.size + 1]? = some (.cells #[.int .u8 1, .int .u8 2] 87 (0, 0)) := by
              rw [← hW3]
              have := heap_alloc_new (Wb.alloc (.map #[] 0)) (.cells #[.int .u8 1, .int .u8 2] 87)
              rwa [World.size_alloc] at this
            clear hW3
            have HMH := Lib.hid hmH
            have HBB3 := Lib.hid hbb3
            have HZ3 := Lib.hid hz3
            have HSD := Lib.hid hsd
            clear hmH hbb3 hz3 hsd
            go_upto_if 77 with fail
            go_cut [] (fun wx => ∃ s1 s2 : Nat, ((u = 2 ∧ s1 = 2 ∧ s2 = 1) ∨ (u ≠ 2 ∧ s1 = 1 ∧ s2 = 2)) ∧ wx.heap[Wb.heap.size + 1]? = some (.cells #[.int .u8 s1, .int .u8 s2] 87 (0, 0)) ∧ Below (Wb.heap.size + 1) W3 wx)
            case first =>
              by_cases hu2 : u = 2
              · have e2 : ((u : Int) == 2) = true := by subst hu2; rfl
                go_wp2_with (go_at_call 67; refine (turn2_c _ _ HSD.out).mono ?_; rintro e w5 ⟨rfl, hsd', hb5⟩)
                rw [show (Value.int IntKind.u8 2) = .int .u8 (u : Int) by rw [hu2]; rfl]
                go_meet
                exact ⟨2, 1, .inl ⟨hu2, rfl, rfl⟩, hsd', hb5⟩
              · have e2 : ((u : Int) == 2) = false := by simp; omega
                go_wp2_with fail
                go_meet
                exact ⟨1, 2, .inr ⟨hu2, rfl, rfl⟩, HSD.out, Below.refl _ _⟩
            case rest =>
              obtain ⟨s1, s2, hs12, hsd, hb4⟩ := hcut
              obtain ⟨Wc, hWc⟩ : ∃ Wc, Wc = wc := ⟨_, rfl⟩
              subst hWc
              have HS12 := Lib.hid hs12
              obtain ⟨sd0, sd1⟩ := pkbox_up (Below.refl _ _) hsd
              have hbc : Below Wb.heap.size Wb Wc := HBB3.out.trans (hb4.mono (Nat.le_succ _))
              have hzc : Wb.heap.size + 2 ≤ Wc.heap.size := by have := HZ3.out; have := hb4.size; omega
              have hsl : Wb.heap.size + 1 < Wc.heap.size := by omega
              have HMC := Lib.hid (HMH.out.blk (hb4.block _ (Nat.lt_succ_self _)))
              have HBC := Lib.hid hbc
              clear hs12 hsd hb4 hbc HMH HBB3 HZ3 HSD
              have hsz1 : s1 = 1 ∨ s1 = 2 := by rcases HS12.out with h | h <;> omega
              have hsz2 : s2 = 1 ∨ s2 = 2 := by rcases HS12.out with h | h <;> omega
              go_wp2_with fail
              go_loopw [17, 81] (fun s17 s81 wr => ∃ (i : Nat) (F : List Pk) (K : List ByteArray) (a : Option Addr) (c : Nat), i ≤ 2 ∧ s81 = .int .i64 i ∧ s17 = .slice a F.length c ∧ OwnP wr (Wb.heap.size + 2) (.slice a F.length c) F ∧ MapHas wr Wb.heap.size K ∧ K.length ≤ i * 1048576 ∧ F.length ≤ i * 1048576 ∧ FSt x.keys y.keys z.keys s1 s2 i F K ∧ Below Wb.heap.size Wb wr ∧ Wb.heap.size + 2 ≤ wr.heap.size) (fun _ s81 _ => 2 - (intOf s81).toNat)
              case atStart => exact ⟨0, [], [], none, 0, by omega, by go_num, rfl, ⟨rfl, .inl ⟨rfl, rfl⟩⟩, HMC.out, by simp, by simp, ⟨fun _ => ⟨rfl, rfl⟩, fun h => absurd h (by omega), fun h => absurd h (by omega)⟩, HBC.out, hzc⟩
              case round =>
                clear sd0 sd1 hzc hsl
                obtain ⟨i, F, K, aF, cF, hi, rfl, rfl, hown, hmap, hkl, hfl, hst, hbr, hzr⟩ := hrel
                have HOF := Lib.hid hown
                have HMK := Lib.hid hmap
                have HST := Lib.hid hst
                have HBR := Lib.hid hbr
                clear hown hmap hst hbr
                rcases (show i = 2 ∨ i < 2 by omega) with rfl | hi2
                · have hge2 : ¬ (2 : Int) < 2 := by omega
                  have hpl4 : P.length ≤ 1048576 := by
                    rw [hpb.out]
                    exact Nat.le_trans (bothP_len _ _ _) (by rw [LA.keys, List.length_map]; omega)
                  rw [show ((2 : Nat) : Int) = 2 from rfl]
                  clear hkl
                  have hbwr : Below w.heap.size w wr := below_via HB3.out.2 (HAB.out.trans (HBR.out.mono HAB.out.size))
                  have HBWR := Lib.hid hbwr
                  clear hbwr
                  by_cases hu12 : u = 1 ∨ u = 2
                  · obtain ⟨v', W', hrun, hown', hgr, -⟩ := app_pk (c := cF) (own_below HOP.out HBR.out) (own_sl Pk.enc_len HOF.out) (by omega) (Nat.le_trans HAB.out.size HBR.out.size)
                    obtain ⟨Q, hQ⟩ : ∃ Q, Q = P ++ F := ⟨_, rfl⟩
                    rw [← hQ] at hown'
                    obtain ⟨a', c', rfl⟩ := own_formP hown'
                    have hcap := own_cap hown' rfl
                    have hQl : Q.length ≤ 4194304 := by rw [hQ, List.length_append]; omega
                    have hpk : PicksAre x.v y.v z.v u Q := by
                      refine ⟨F, by rw [hQ, hpb.out, keys_v, keys_v, keys_v], fun h => ?_, fun h => ?_, fun h1 h2 => ?_⟩
                      · rcases HS12.out with ⟨h2, -⟩ | ⟨-, rfl, rfl⟩
                        · omega
                        · have := HST.out.fst; rwa [keys_v, keys_v, keys_v] at this
                      · rcases HS12.out with ⟨-, rfl, rfl⟩ | ⟨h2, -⟩
                        · have := HST.out.snd; rwa [keys_v, keys_v, keys_v] at this
                        · omega
                      · omega
                    have hbW' : Below w.heap.size w W' := HBWR.out.grown hgr HBWR.out.size (fun q hq => by have h1 := (World.ownsRow.lt (own_below HOP.out HBR.out) q hq).1; have h2 := HB3.out.2.size; omega)
                    have hOC : OwnC W' w.heap.size 50 2 a' Q.length Q.length (Q.flatMap Pk.enc) := own_clip (World.ownsRow.mono hown' HB3.out.2.size) (Nat.le_refl _) hcap
                    have HE := Lib.hid (And.intro hpk (And.intro hbW' hOC))
                    clear hown' hgr hpk hbW' hOC hQ
                    have hb1 : (((u : Int) != 1) && ((u : Int) != 2)) = false := by
                      rcases hu12 with rfl | rfl <;> rfl
                    rcases hu12 with rfl | rfl
                    all_goals
                      go_wp2_with (first
                        | (at_builtin; refine wl_append (s := .tmp 135) (x := .tmp 136) rfl rfl (hrun _) ?_; clear hrun)
                        | (go_at_call 71; refine (clip_pk _ _ _ _ hcap).mono ?_; rintro e w6 ⟨rfl, rfl⟩))
                      go_ret
                      exact ⟨Q, a', rfl, (fun h => by rw [HR.out] at h; cases h), fun _ => HE.out.1, hQl, HE.out.2.2, HE.out.2.1⟩
                  · have hu1 : ((u : Int) == 1) = false := by simp; omega
                    have hu2 : ((u : Int) == 2) = false := by simp; omega
                    have hu3 : ((u : Int) != 1) = true := by simp; omega
                    have hu4 : ((u : Int) != 2) = true := by simp; omega
                    have hF1 : F = fresh1 x.keys y.keys z.keys := by
                      rcases HS12.out with ⟨h2, -⟩ | ⟨-, rfl, rfl⟩
                      · omega
                      · exact HST.out.fst
                    have hFp : ∀ p ∈ F, ∃ v, pickV x.l y.l z.l p = some v ∧ v.v.may = true := by
                      rw [hF1]
                      exact fun p hp => fresh_pick HR.out hp
                    have hbd : Below wr.heap.size wr (wr.alloc (.cells #[.func (.func 68) #[] #[.pointer (some ⟨w.heap.size, 0, none⟩), .pointer (some ⟨w.heap.size + 1, 0, none⟩), .pointer (some ⟨w.heap.size + 2, 0, none⟩)]] 90)) := (Below.refl _ _).alloc (Nat.le_refl _) _
                    have hbB : Below w.heap.size w Wb := below_via HB3.out.2 HAB.out
                    have HSO := Lib.hid (sortPk_c Wb (wr.alloc (.cells #[.func (.func 68) #[] #[.pointer (some ⟨w.heap.size, 0, none⟩), .pointer (some ⟨w.heap.size + 1, 0, none⟩), .pointer (some ⟨w.heap.size + 2, 0, none⟩)]] 90)) (below_via HBR.out hbd) wr.heap.size w.heap.size (w.heap.size + 1) (w.heap.size + 2) x y z (HX.out.up hbB) (HY.out.up hbB) (HZ.out.up hbB) (HBX2.out.up HAB.out) (by simp) F hFp (Wb.heap.size + 2) (by omega) aF cF (own_below HOF.out hbd)
                      (fun g hg => by have := (World.ownsRow.lt HOF.out g (by rw [hg]; rfl)).2; omega) (by omega))
                    have HF1 := Lib.hid hF1
                    have HBD := Lib.hid (below_via HBR.out hbd)
                    have hst9 := st_func wr 90 .nilFunc (.func 68) #[] #[.pointer (some ⟨w.heap.size, 0, none⟩), .pointer (some ⟨w.heap.size + 1, 0, none⟩), .pointer (some ⟨w.heap.size + 1 + 1, 0, none⟩)]
                    clear hF1 hFp hbd hbB
                    go_wp2_with (first
                      | (go_at_call 69; refine HSO.out.mono ?_; rintro e w6 ⟨rfl, S, hSp, hSw, hSs, hb6⟩
                         have hSl : S.length = F.length := hSp.length_eq
                         have hb6b : Below Wb.heap.size Wb w6 := HBD.out.trans hb6
                         obtain ⟨v', W', hrun, hown', hgr, -⟩ := app_pk (c := cF) (own_below HOP.out hb6b) hSs (by omega) (Nat.le_trans HAB.out.size hb6b.size)
                         rw [hSl] at hrun
                         obtain ⟨Q, hQ⟩ : ∃ Q, Q = P ++ S := ⟨_, rfl⟩
                         rw [← hQ] at hown'
                         obtain ⟨a', c', rfl⟩ := own_formP hown'
                         have hcap := own_cap hown' rfl
                         have hQl : Q.length ≤ 4194304 := by rw [hQ, List.length_append]; omega
                         have hpk : PicksAre x.v y.v z.v u Q := by
                           refine ⟨S, by rw [hQ, hpb.out, keys_v, keys_v, keys_v], fun h => by omega, fun h => by omega, fun h1 h2 => ⟨?_, hSw⟩⟩
                           rw [HF1.out, keys_v, keys_v, keys_v] at hSp
                           exact hSp
                         have hw6 : Below w.heap.size w w6 := below_via HB3.out.2 (HAB.out.trans (hb6b.mono HAB.out.size))
                         have hbW' : Below w.heap.size w W' := hw6.grown hgr hw6.size (fun q hq => by have h1 := (World.ownsRow.lt (own_below HOP.out hb6b) q hq).1; have h2 := HB3.out.2.size; omega)
                         have hOC : OwnC W' w.heap.size 50 2 a' Q.length Q.length (Q.flatMap Pk.enc) := own_clip (World.ownsRow.mono hown' HB3.out.2.size) (Nat.le_refl _) hcap
                         have HE := Lib.hid (And.intro hpk (And.intro hbW' hOC))
                         clear hown' hgr hpk hbW' hOC hQ hSp hSw hSs hb6 hb6b hw6 hSl)
                      | (at_builtin; refine wl_append (s := .tmp 135) (x := .tmp 136) rfl rfl (hrun _) ?_; clear hrun)
                      | (go_at_call 71; refine (clip_pk _ _ _ _ hcap).mono ?_; rintro e w7 ⟨rfl, rfl⟩))
                    go_ret
                    exact ⟨Q, a', rfl, (fun h => by rw [HR.out] at h; cases h), fun _ => HE.out.1, hQl, HE.out.2.2, HE.out.2.1⟩
                · obtain ⟨s, hsi, hix⟩ : ∃ s : Nat, ((i = 0 ∧ s = s1) ∨ (i = 1 ∧ s = s2)) ∧ ∀ W, (Instr.index 87 (.agg #[.int .u8 s1, .int .u8 s2]) (.int .i64 i)).run Tryz.prog W = .ok (.int .u8 s) W := by
                    rcases (show i = 0 ∨ i = 1 by omega) with rfl | rfl
                    · exact ⟨s1, .inl ⟨rfl, rfl⟩, fun W => idxS_0 _ _ W⟩
                    · exact ⟨s2, .inr ⟨rfl, rfl⟩, fun W => idxS_1 _ _ W⟩
                  obtain ⟨q, B, A, cq, hsq, hsB, kO, kA, hS, hM, hfq, hkz, hql, hs3⟩ : ∃ (q : LA) (B : Nat) (A : Option Addr) (cq : Nat), sideK y.keys z.keys s = q.keys ∧ ((s = 0 ∧ B = B0) ∨ (s = 1 ∧ B = B1) ∨ (s = 2 ∧ B = B2)) ∧ Wa.cell? ⟨g + 1, s, none⟩ = some (.slice A (firsts q.keys).length cq) ∧ Wa.cell? ⟨g, s, none⟩ = some (.map (some B)) ∧ SlE strE 1 Wa (g + 2) Wa.heap.size A (firsts q.keys) ∧ MapIs Wa B q.keys ∧ (firsts q.keys).length ≤ 1048576 ∧ (∀ t ∈ q.keys, t.size ≤ Go.maxLen) ∧ q.keys.length ≤ 1048576 ∧ s < 3 := by
                    rcases (show s = 1 ∨ s = 2 by rcases hsi with ⟨-, rfl⟩ | ⟨-, rfl⟩ <;> assumption) with rfl | rfl
                    · exact ⟨y, B1, A1, c1, rfl, .inr (.inl ⟨rfl, rfl⟩), HQ0.out.2.1, HC0.out.2.1, HS.out.2.1, HM.out.2.1, by omega, fun t ht => (HKY t ht).out, by rw [LA.keys, List.length_map]; omega, by omega⟩
                    · exact ⟨z, B2, A2, c2, rfl, .inr (.inr ⟨rfl, rfl⟩), HQ0.out.2.2, HC0.out.2.2, HS.out.2.2, HM.out.2.2, by omega, fun t ht => (HKZ t ht).out, by rw [LA.keys, List.length_map]; omega, by omega⟩
                  have hab := HAB.out.size
                  have hbra : Below Wa.heap.size Wa wr := HAB.out.trans (HBR.out.mono hab)
                  have kO1 := (hbra.cell (p := ⟨g + 1, s, none⟩) ql).trans kO
                  have hlt2 : (i : Int) < 2 := by omega
                  have hs30 : (0 : Int) ≤ (s : Int) := by omega
                  have hs33 : (s : Int) < 3 := by omega
                  have hwi : IntKind.i64.wrap ((i : Int) + 1) = ((i + 1 : Nat) : Int) := by rw [IntWalk.i64_in _ (by omega)]; omega
                  have hstep := HST.out.step hsi
                  rw [hsq] at hstep
                  obtain ⟨fN, hfN⟩ : ∃ fN : ByteArray → Bool, fN = fun t => decide (t ∉ K) && decide (t ∉ x.keys) := ⟨_, rfl⟩
                  have HFN := fun t => Lib.hid (show fN t = (!decide (t ∈ K) && !decide (t ∈ x.keys)) by rw [hfN]; simp)
                  have HFQ := Lib.hid (show freshK x.keys K q.keys = (firsts q.keys).filter fN by rw [hfN]; rfl)
                  have HND := Lib.hid (firsts_nodup q.keys)
                  obtain ⟨fq, hfqe⟩ : ∃ fq, fq = firsts q.keys := ⟨_, rfl⟩
                  rw [← hfqe] at kO1 hfq HFQ hS HND
                  have HQE := Lib.hid hfqe
                  have HSTP := Lib.hid hstep
                  have HKA := Lib.hid kA
                  have HSQ := Lib.hid hS
                  have HMQ := Lib.hid hM
                  have HKZQ := Lib.hid hkz
                  have HSB := Lib.hid hsB
                  have HRA := Lib.hid hbra
                  have hsz1 := HBR.out.size
                  clear hsi hsq hsB kO kA hS hM hkz hbra hfN hfqe hstep HST
                  go_wp2_with fail
                  go_loopw [17, 88] (fun s17 s88 wi => ∃ (m : Nat) (D : List ByteArray) (F' : List Pk) (a : Option Addr) (c : Nat), m ≤ fq.length ∧ s88 = .int .i64 m ∧ D = (fq.take m).filter fN ∧ F' = F ++ D.map (pkS s q.keys) ∧ s17 = .slice a F'.length c ∧ OwnP wi (Wb.heap.size + 2) (.slice a F'.length c) F' ∧ MapHas wi Wb.heap.size (K ++ D) ∧ Below Wb.heap.size Wb wi ∧ Wb.heap.size + 2 ≤ wi.heap.size) (fun _ s88 _ => fq.length - (intOf s88).toNat)
                  case atStart => exact ⟨0, [], F, aF, cF, Nat.zero_le _, by go_num, rfl, by simp, rfl, HOF.out, by rw [List.append_nil]; exact HMK.out, HBR.out, hzr⟩
                  case round =>
                    clear HOF HMK kO1
                    obtain ⟨m, D, F', a, c, hm, rfl, hDe, hFe, rfl, hown, hmap, hbi, hzi⟩ := hrel
                    have hdl : D.length ≤ m := by
                      rw [hDe]
                      have := List.length_filter_le fN (fq.take m)
                      rw [List.length_take] at this
                      omega
                    have hf'l : F'.length ≤ F.length + m := by rw [hFe, List.length_append, List.length_map]; omega
                    have HDE := Lib.hid hDe
                    have HFE' := Lib.hid hFe
                    have HOI := Lib.hid hown
                    have HMI := Lib.hid hmap
                    have HBI := Lib.hid hbi
                    have hszi := hbi.size
                    clear hDe hFe hown hmap hbi
                    by_cases hlt : m < fq.length
                    · have hk : fq[m]? = some fq[m] := List.getElem?_eq_getElem hlt
                      generalize fq[m] = t at hk
                      have hnd := take_nodup HND.out hk
                      have htq : t ∈ q.keys := by rw [HQE.out] at hk; exact firstsAt hk
                      have hz := HKZQ.out t htq
                      have hbia := HAB.out.trans (HBI.out.mono hab)
                      obtain ⟨b, off, hla, -, -, hb2, ct⟩ := key_at HSQ.out hk
                      rw [← hbia.cell (p := ⟨_, _, none⟩) hb2] at ct
                      have hsa := hbia.size
                      have hbb := Nat.lt_of_lt_of_le hb2 hsa
                      have hlt' : (m : Int) < (fq.length : Int) := by omega
                      have hm0 : (0 : Int) ≤ (m : Int) := by omega
                      have hwm : IntKind.i64.wrap ((m : Int) + 1) = ((m + 1 : Nat) : Int) := by rw [IntWalk.i64_in _ (by omega)]; omega
                      have htk : fq.take (m + 1) = fq.take m ++ [t] := by rw [List.take_add_one, hk]; rfl
                      have HTK := Lib.hid htk
                      have htd : t ∉ D := by rw [HDE.out]; exact fun h => hnd (List.mem_filter.1 h).1
                      obtain ⟨c9, hlook⟩ := HMI.out.look t hz
                      rw [show decide (t ∈ K ++ D) = decide (t ∈ K) from decide_eq_decide.2 (by simp [htd])] at hlook
                      have HB0' := fun W (h : Below Wa.heap.size Wa W) => Lib.hid (show Calls Tryz.prog 66 #[.int .u8 0, .string t, .pointer (some ⟨g, 0, none⟩)] W (Ret (.bool (decide (t ∈ x.keys))) W) from (HHAS 0 B0 x.keys (by simp) HM.out.1 t hz W h).out)
                      have HFNt := Lib.hid (HFN t).out
                      obtain ⟨rk, hrk⟩ : ∃ r, decide (t ∈ K) = r := ⟨_, rfl⟩
                      obtain ⟨rb, hrb⟩ : ∃ r, decide (t ∈ x.keys) = r := ⟨_, rfl⟩
                      rw [hrk] at hlook HFNt
                      rw [hrb] at HFNt HB0'
                      have HBIA := Lib.hid hbia
                      have HMT := Lib.hid htq
                      clear hk hnd htq htd htk hbia hrk hrb
                      subst hla
                      cases rk with
                      | true =>
                        go_wp2_with fail
                        refine ⟨⟨m + 1, D, F', a, c, by omega, by go_num, ?_, HFE'.out, rfl, HOI.out, HMI.out, HBI.out, hzi⟩, by simp [intOf]; omega⟩
                        rw [HTK.out, List.filter_append, List.filter_cons_of_neg (by rw [HFNt.out]; simp), List.filter_nil, List.append_nil]
                        exact HDE.out
                      | false =>
                        cases rb with
                        | true =>
                          go_wp2_with (go_at_call 66; refine (HB0' _ HBIA.out).out.mono ?_; rintro e w5 ⟨rfl, hb5⟩)
                          refine ⟨⟨m + 1, D, F', a, c, by omega, by go_num, ?_, HFE'.out, rfl, own_below HOI.out hb5, HMI.out.up hb5, HBI.out.trans (hb5.mono hszi), Nat.le_trans hzi hb5.size⟩, by simp [intOf]; omega⟩
                          rw [HTK.out, List.filter_append, List.filter_cons_of_neg (by rw [HFNt.out]; simp), List.filter_nil, List.append_nil]
                          exact HDE.out
                        | false =>
                          obtain ⟨ix, hix2, hixl⟩ := idxI_bound HMT.out
                          have hixb : ix ≤ 1073741824 := by omega
                          have hKD : (K ++ D).length < 1073741824 := by rw [List.length_append]; omega
                          have HIX := Lib.hid hix2
                          clear hix2 hixl
                          go_wp2_with (first
                            | (go_at_call 66; refine (HB0' _ HBIA.out).out.mono ?_; rintro e w5 ⟨rfl, hb5⟩
                               have hb5b : Below Wb.heap.size Wb w5 := HBI.out.trans (hb5.mono hszi)
                               have hba5 : Below Wa.heap.size Wa w5 := HAB.out.trans (hb5b.mono hab)
                               have kA5 := (hba5.cell (p := ⟨g, s, none⟩) gl).trans HKA.out
                               have hlk5 := (HMQ.out.up hba5).lookF t hz HMT.out
                               rw [HIX.out] at hlk5
                               obtain ⟨w6, hput, hmap6, hgr6⟩ := (HMI.out.up hb5).put t hz ix hixb hKD
                               have hb6 : Below Wb.heap.size Wb w6 := hb5b.grown hgr6 hb5b.size (fun q hq => Nat.le_of_eq (Option.some.inj hq))
                               have hba6 : Below Wa.heap.size Wa w6 := HAB.out.trans (hb6.mono hab)
                               have kA6 := (hba6.cell (p := ⟨g, s, none⟩) gl).trans HKA.out
                               have hlk6 := (HMQ.out.up hba6).lookF t hz HMT.out
                               rw [HIX.out] at hlk6
                               have hs5 := hb5.size
                               have hs6 := hgr6.size
                               have gl5 : g < w5.heap.size := by omega
                               have gl6 : g < w6.heap.size := by omega
                               have hown6 : OwnP w6 (Wb.heap.size + 2) (.slice a F'.length c) F' := World.ownsRow.kept (own_below HOI.out hb5) hgr6 (by
                                 cases hq : (Value.slice a F'.length c).ownBlock with
                                 | none => exact .inl rfl
                                 | some q => exact .inr fun e => by have := World.ownsRow.lt HOI.out q hq; have := Option.some.inj e; omega)
                               have hlit : SlE Pk.enc 2 (w6.alloc (.cells #[.int .u8 s, .int .i64 ix] 50)) w6.heap.size (w6.heap.size + 1) (some ⟨w6.heap.size, 0, none⟩) [⟨s, ix⟩] := lit_sl (enc := Pk.enc) (size := 2) (l := [⟨s, ix⟩]) (t := 50) (fr := (0, 0)) (fun _ => rfl) (heap_alloc_new _ _)
                               obtain ⟨v', W', hrun, hown', hgr, -⟩ := app_pk (c := 1) (own_below hown6 ((Below.refl _ _).alloc (Nat.le_refl _) _)) hlit (by simp; omega) (by simp; omega)
                               obtain ⟨F2, hF2⟩ : ∃ F2, F2 = F' ++ [⟨(s : Int), (ix : Int)⟩] := ⟨_, rfl⟩
                               rw [← hF2] at hown'
                               have HF2 := Lib.hid hF2
                               clear hF2
                               obtain ⟨a', c', rfl⟩ := own_formP hown'
                               have HOW' := Lib.hid hown'
                               have HGR := Lib.hid hgr
                               have HOW6 := Lib.hid hown6
                               have HB6 := Lib.hid hb6
                               have HM6 := Lib.hid hmap6
                               have HZ6 := Lib.hid (show Wb.heap.size + 2 ≤ w6.heap.size by omega)
                               clear hown' hlit hgr hgr6 hown6 hb6 hb5 hb5b hba5 hba6 hmap6)
                            | (at_builtin; refine wl_append (s := .tmp 113) (x := .tmp 121) rfl rfl (hrun _) ?_; clear hrun))
                          have hrl : ∀ q, (Value.slice a F'.length c).ownBlock = some q → Wb.heap.size + 2 ≤ q ∧ q < w6.heap.size := World.ownsRow.lt HOW6.out
                          refine ⟨⟨m + 1, D ++ [t], F2, a', c', by omega, by go_num, ?_, ?_, rfl, HOW'.out, ?_, ?_, ?_⟩, by simp [intOf]; omega⟩
                          · rw [HTK.out, List.filter_append, List.filter_cons_of_pos (by rw [HFNt.out]; rfl), List.filter_nil, ← HDE.out]
                          · rw [List.map_append, ← List.append_assoc, ← HFE'.out, HF2.out]
                            show _ = F' ++ [pkS s q.keys t]
                            rw [pkS, HIX.out]
                          · rw [← List.append_assoc]
                            exact (HM6.out.kept (World.grownBy_alloc _ _ none) (by simp)).kept HGR.out (fun e => by have := hrl _ e.symm; omega)
                          · exact (HB6.out.alloc (by have := HZ6.out; omega) _).grown HGR.out (by have := HZ6.out; simp; omega) (fun q hq => by have := (hrl q hq).1; omega)
                          · have h1 := HGR.out.size
                            have h2 := HZ6.out
                            rw [World.size_alloc] at h1
                            omega
                    · obtain rfl : m = fq.length := by omega
                      have hge : ¬ (fq.length : Int) < (fq.length : Int) := by omega
                      have hDq : D = freshK x.keys K q.keys := by rw [HDE.out, List.take_length, HFQ.out]
                      have HDQ := Lib.hid hDq
                      clear hDq
                      go_wp2_with fail
                      refine ⟨⟨i + 1, F', K ++ D, a, c, by omega, by go_num, rfl, HOI.out, HMI.out, ?_, ?_, ?_, HBI.out, hzi⟩, by simp [intOf]; omega⟩
                      · rw [List.length_append]; omega
                      · omega
                      · rw [HFE'.out, HDQ.out]
                        exact HSTP.out
end Go.Proofs.YtjihepdjcbpgoaaGreatDoor

namespace Go.Proofs.YtjihepdjcbpgoaaGreatDoor
open Go.RowKit Go.Sort

set_option maxRecDepth 100000 in
set_option maxHeartbeats 3200000 in
theorem sown2_c : ∀ (x : AV) (w : World), Rd w x → x.w ≤ 1048576 → Calls Tryz.prog 75 #[x.val] w (OwnPost2 x.v w) := AV.ind fun x ih w hx hw => by
  have hll := x.w_l
  have hlk := x.w_ks
  have hkd := hx.kind
  have hlb : x.l.length ≤ 1048576 := by omega
  have hlkb : x.ks.length ≤ 1048576 := by omega
  obtain ⟨i0, hi, hz0, hz1, hz2⟩ := info_parts info_val
  have hmk := fun W => run_make (P := Tryz.prog) W 23 26 i0 _ Tryz.underlying23 hi hz0 .i64 .i64 x.l.length x.l.length (by omega) (Int.le_refl _) (by rw [hz2]; omega) (by omega)
  rw [hz1, Int.toNat_natCast] at hmk
  rw [zcells] at hmk
  obtain ⟨mc, hmc⟩ : ∃ mc, mc = ((List.replicate x.l.length zAV).flatMap AV.enc).toArray := ⟨_, rfl⟩
  rw [← hmc] at hmk
  clear hi hz0 hz1 hz2
  have HMC := Lib.hid hmc
  clear hmc
  have HX := Lib.hid hx
  have HI := fun (y : AV) (hy : y ∈ x.l) (W : World) (hb : Below w.heap.size w W) => Lib.hid (ih y hy W (hx.kid_at hb hy) (Nat.le_trans (Nat.le_of_lt (AV.w_kid hy)) hw))
  have HC := fun W (hb : Below w.heap.size w W) => Lib.hid (clone2_c W x.ka x.kc x.ks 0 W.heap.size (hx.keys.up hb) hlkb)
  have HL := fun W a c h => Lib.hid (clip_c W a c x.ks.length h)
  clear ih hx
  go_enter Tryz.func75, Tryz.ntmps75
  go_upto_region 2 with (first
    | (go_at_call 107; refine (HC _ (by repeat (first | exact Below.refl _ _ | refine Below.drew ?_ | refine below_drewN ?_ _ | refine Below.alloc ?_ (by first | omega | (simp; done) | (simp; omega)) _))).out.mono ?_; rintro e w1 ⟨A', c', rfl, hc', hsl, hwr, hb⟩
       have hs1 := hb.size
       try simp only [World.size_alloc] at hs1
       have hbx := (hb.block w.heap.size (by simp; omega)).trans ((heap_alloc_old _ _ _ (by simp)).trans (heap_alloc_new w (.cells #[.int .u8 x.k, .string x.t, .slice x.la x.l.length x.lc, .slice x.ka x.ks.length x.kc] 26)))
       obtain ⟨q0, q1, q2, q3, y0, y1, y2, y3⟩ := vbox4 hbx)
    | (go_at_call 106; refine (HL _ _ _ hc').out.mono ?_; rintro e w2 ⟨rfl, rfl⟩))
  go_name_world W1 hW1
  have hsz1 : W1.heap.size = w1.heap.size := by rw [← hW1]; simp
  have hsl1 : SlE strE 1 W1 (w.heap.size + 1 + 1) w1.heap.size A' x.ks := by
    have h := hsl
    simp only [World.size_alloc] at h
    rw [← hW1]
    exact h.keep (by simp) fun q h1 _ _ => Below.heap_setCell w1 _ _ q (by show q ≠ w.heap.size; omega)
  have hbx1 : W1.heap[w.heap.size]? = some (.cells #[.int .u8 x.k, .string x.t, .slice x.la x.l.length x.lc, .slice A' x.ks.length x.ks.length] 26 (0, 0)) := by
    rw [← hW1, set_blk hbx]; rfl
  have hrb1 : W1.heap[w.heap.size + 1]? = some (.cells #[.int .u8 0, .string ⟨#[]⟩, .slice none 0 0, .slice none 0 0] 26 (0, 0)) := by
    rw [← hW1]
    refine (Below.heap_setCell w1 _ _ (w.heap.size + 1) (by show w.heap.size + 1 ≠ w.heap.size; omega)).trans ((hb.block (w.heap.size + 1) (by simp)).trans ?_)
    have := heap_alloc_new (w.alloc (.cells #[.int .u8 x.k, .string x.t, .slice x.la x.l.length x.lc, .slice x.ka x.ks.length x.kc] 26)) (.cells #[.int .u8 0, .string ⟨#[]⟩, .slice none 0 0, .slice none 0 0] 26)
    rwa [World.size_alloc] at this
  have hbw1 : Below w.heap.size w W1 := by
    rw [← hW1]
    refine Below.setCell (p := ⟨w.heap.size, 3, none⟩) ?_ (Nat.le_refl _) _
    exact (((Below.refl _ _).alloc (Nat.le_refl _) _).alloc (by simp) _).trans (hb.mono (by simp; omega))
  have hrow0 : RowV (W1.alloc (.cells mc 26)) W1.heap.size (List.replicate x.l.length zAV) := by
    rw [RowV, heap_alloc_new, HMC.out]
  have hwr1 : Wr W1 (w.heap.size + 1 + 1) w1.heap.size A' x.ks.length := by
    have h := hwr
    simp only [World.size_alloc] at h
    rw [← hW1]
    exact h.keep fun q h1 _ => Below.heap_setCell w1 _ _ q (by show q ≠ w.heap.size; omega)
  rw [← hsz1] at hsl1 hwr1
  have hs2 : w.heap.size + 1 + 1 ≤ W1.heap.size := by omega
  clear hwr hsl hb hbx q0 q1 q2 q3 y0 y1 y2 y3 HC HL HMC hc' hs1
  clear hW1 hsz1
  obtain ⟨q0, q1, q2, q3, y0, y1, y2, y3⟩ := vbox4 hbx1
  have hl1 : w.heap.size < W1.heap.size := by omega
  have HR0 := Lib.hid hrow0
  have HS1 := Lib.hid hsl1
  have HWW := Lib.hid hwr1
  have HB1 := Lib.hid hbx1
  have HRB := Lib.hid hrb1
  have HBW := Lib.hid hbw1
  clear hwr1 hsl1 hbx1 hrb1 hbw1 hrow0
  go_wp2_with fail
  clear hmk q0 q1 q2 q3 y0 y1 y2 y3
  go_loopw [4, 5, 18] (fun _ _ i wr => ∃ (m : Nat) (ys : List AV), m ≤ x.l.length ∧ i = .int .i64 m ∧ ys.length = m ∧ ys.map AV.v = (x.l.map AV.v).take m ∧ RowV wr W1.heap.size (ys ++ List.replicate (x.l.length - m) zAV) ∧ (∀ y ∈ ys, y.In wr (W1.heap.size + 1) wr.heap.size) ∧ Chn wr (W1.heap.size + 1) wr.heap.size ys ∧ Below W1.heap.size W1 wr ∧ W1.heap.size < wr.heap.size) (fun _ _ i _ => x.l.length - (intOf i).toNat)
  case atStart => exact ⟨0, [], Nat.zero_le _, rfl, rfl, rfl, HR0.out, fun y hy => absurd hy List.not_mem_nil, Chn.nil (by simp), (Below.refl _ _).alloc (Nat.le_refl _) _, by rw [World.size_alloc]; omega⟩
  case round =>
    obtain ⟨m, ys, hml, rfl, hyl, hyv, hrow, hyi, hych, hbr, hsr⟩ := hrel
    have hwr : Below w.heap.size w wr := HBW.out.trans (hbr.mono (by omega))
    obtain ⟨q0, q1, q2, q3, u0, u1, u2, u3⟩ := vbox4 ((hbr.block w.heap.size (by omega)).trans HB1.out)
    obtain ⟨s0, s1, s2, s3, y0, y1, y2, y3⟩ := vbox4 ((hbr.block (w.heap.size + 1) (by omega)).trans HRB.out)
    have HYL := Lib.hid hyl
    have HYV := Lib.hid hyv
    have HYI := Lib.hid hyi
    have HCH := Lib.hid hych
    have HROW := Lib.hid hrow
    have HBR := Lib.hid hbr
    have HWR := Lib.hid hwr
    clear hych hyl hyv hyi hrow hbr hwr HR0
    by_cases hlt : m < x.l.length
    · have hk : x.l[m]? = some x.l[m] := List.getElem?_eq_getElem hlt
      have hmem : x.l[m] ∈ x.l := List.getElem_mem hlt
      generalize x.l[m] = y at *
      obtain ⟨b, off, hla, -, hb1, hb2, h0, h1, h2, h3⟩ := vals_at HX.out.sl hk
      rw [← HWR.out.cell (p := ⟨_, _, none⟩) hb2] at h0 h1 h2 h3
      have hbb : b < wr.heap.size := Nat.lt_of_lt_of_le hb2 HWR.out.size
      have hlt' : (m : Int) < (x.l.length : Int) := by omega
      have HC := fun W h => HI y hmem W h
      rw [hla] at q2
      have hix := Nat.lt_of_lt_of_le hlt (Nat.le_refl x.l.length)
      have HK := Lib.hid hk
      rw [hla]
      clear hk hmem HI s0 s1 s2 s3
      go_wp2_with fail
      have hba := (Below.refl wr.heap.size wr).alloc (Nat.le_refl _) (.cells #[.int .u8 y.k, .string y.t, .slice y.la y.l.length y.lc, .slice y.ka y.ks.length y.kc] 26)
      refine (HC _ (HWR.out.trans (hba.mono HWR.out.size))).out.mono ?_
      rintro e w2 ⟨z, rfl, hzv, hzi, hzm, hb2'⟩
      have hbz : Below wr.heap.size wr w2 := hba.trans (hb2'.mono (by simp))
      have hrz := HROW.out.below hbz
      have hrl : (ys ++ List.replicate (x.l.length - m) zAV).length = x.l.length := by rw [List.length_append, List.length_replicate, HYL.out]; omega
      have hsz := hbz.size
      obtain ⟨⟨v0, c0⟩, f0⟩ := hrz.cell (m := m) (by omega) (j := 0) (by omega)
      obtain ⟨⟨v1, c1⟩, f1⟩ := hrz.cell (m := m) (by omega) (j := 1) (by omega)
      obtain ⟨⟨v2, c2⟩, f2⟩ := hrz.cell (m := m) (by omega) (j := 2) (by omega)
      obtain ⟨⟨v3, c3⟩, f3⟩ := hrz.cell (m := m) (by omega) (j := 3) (by omega)
      rw [Nat.add_zero] at c0 f0
      have HZI := Lib.hid hzi
      have HZM := Lib.hid hzm
      have HZV := Lib.hid hzv
      have HBZ := Lib.hid hbz
      have HRZ := Lib.hid hrz
      have HRL := Lib.hid hrl
      have hsr2 : W1.heap.size < w2.heap.size := by omega
      clear hzm hzi hzv hbz hrz hrl hba hb2' HC
      go_wp2_with fail
      have hput := HRZ.out.put (m := m) (by rw [HRL.out]; exact hlt) z
      have hset : (ys ++ List.replicate (x.l.length - m) zAV).set m z = (ys ++ [z]) ++ List.replicate (x.l.length - (m + 1)) zAV := by
        rw [List.set_append, if_neg (by rw [HYL.out]; omega), HYL.out, Nat.sub_self, List.append_assoc, show x.l.length - m = x.l.length - (m + 1) + 1 by omega, List.replicate_succ]
        rfl
      rw [hset] at hput
      have hbp : Below W1.heap.size W1 (put4 w2 W1.heap.size (m * 4) (.int .u8 z.k) (.string z.t) (.slice z.la z.l.length z.lc) (.slice z.ka z.ks.length z.kc)) :=
        ((((HBR.out.trans (HBZ.out.mono (by omega))).setCell (p := ⟨W1.heap.size, m * 4, none⟩) (Nat.le_refl _) _).setCell (p := ⟨W1.heap.size, m * 4 + 1, none⟩) (Nat.le_refl _) _).setCell (p := ⟨W1.heap.size, m * 4 + 2, none⟩) (Nat.le_refl _) _).setCell (p := ⟨W1.heap.size, m * 4 + 3, none⟩) (Nat.le_refl _) _
      refine ⟨⟨m + 1, ys ++ [z], by omega, by go_num, by simp [HYL.out], ?_, hput, ?_, ?_, hbp, by show W1.heap.size < (put4 _ _ _ _ _ _ _).heap.size; rw [put4_size]; omega⟩, by simp [intOf]; omega⟩
      · rw [List.map_append, HYV.out, List.take_add_one, List.getElem?_map, HK.out, List.map_singleton, HZV.out]; rfl
      · intro u hu
        have key : ∀ {lo hi : Nat}, W1.heap.size + 1 ≤ lo → hi ≤ w2.heap.size → u.In w2 lo hi → u.In (put4 w2 W1.heap.size (m * 4) (.int .u8 z.k) (.string z.t) (.slice z.la z.l.length z.lc) (.slice z.ka z.ks.length z.kc)) (W1.heap.size + 1) (put4 w2 W1.heap.size (m * 4) (.int .u8 z.k) (.string z.t) (.slice z.la z.l.length z.lc) (.slice z.ka z.ks.length z.kc)).heap.size := fun h1 h2 h =>
          (h.kept (Nat.le_of_eq put4_size.symm) fun q hq _ _ => put4_old (by omega)).widen h1 (by rw [put4_size]; exact h2)
        rcases List.mem_append.1 hu with hu | hu
        · exact key (Nat.le_refl _) hsz ((HYI.out u hu).blw' HBZ.out)
        · simp at hu; subst hu
          exact key (by rw [World.size_alloc]; omega) (Nat.le_refl _) HZI.out
      · refine Chn.snoc (mid := wr.heap.size) ((HCH.out.kept (w' := put4 w2 W1.heap.size (m * 4) (.int .u8 z.k) (.string z.t) (.slice z.la z.l.length z.lc) (.slice z.ka z.ks.length z.kc)) fun q h1 h2 => (put4_old (by omega)).trans (HBZ.out.block q h2))) ?_ (Nat.le_trans hsz (Nat.le_of_eq put4_size.symm))
        have h := HZM.out
        rw [World.size_alloc] at h
        exact (h.kept (w' := put4 w2 W1.heap.size (m * 4) (.int .u8 z.k) (.string z.t) (.slice z.la z.l.length z.lc) (.slice z.ka z.ks.length z.kc)) fun q h1 h2 => put4_old (by omega)).widen (by omega) (Nat.le_of_eq put4_size.symm)
    · obtain rfl : m = x.l.length := by omega
      have hge : ¬ (x.l.length : Int) < (x.l.length : Int) := by omega
      have hle : w.heap.size < wr.heap.size := by have := HBR.out.size; omega
      have hrow := HROW.out
      rw [Nat.sub_self, List.replicate_zero, List.append_nil] at hrow
      have hys : ys.map AV.v = x.l.map AV.v := by rw [HYV.out]; exact List.take_of_length_le (by simp)
      have HRW := Lib.hid hrow
      have HYS := Lib.hid hys
      have hsz := HBR.out.size
      clear hrow hys HI
      go_wp2_with fail
      have hq : ∀ q, W1.heap.size ≤ q ∨ w.heap.size + 1 + 1 ≤ q → (set4 (wr.setCell ⟨w.heap.size, 2, none⟩ (.slice (some ⟨W1.heap.size, 0, none⟩) x.l.length x.l.length)) (w.heap.size + 1) (.int .u8 x.k) (.string x.t) (.slice (some ⟨W1.heap.size, 0, none⟩) x.l.length x.l.length) (.slice A' x.ks.length x.ks.length)).heap[q]? = wr.heap[q]? := fun q hq => by
        rw [old4 (by omega)]
        exact Below.heap_setCell wr _ _ q (by show q ≠ w.heap.size; omega)
      have hqs : (set4 (wr.setCell ⟨w.heap.size, 2, none⟩ (.slice (some ⟨W1.heap.size, 0, none⟩) x.l.length x.l.length)) (w.heap.size + 1) (.int .u8 x.k) (.string x.t) (.slice (some ⟨W1.heap.size, 0, none⟩) x.l.length x.l.length) (.slice A' x.ks.length x.ks.length)).heap.size = wr.heap.size := by rw [size4]; simp
      have hin : AV.In (set4 (wr.setCell ⟨w.heap.size, 2, none⟩ (.slice (some ⟨W1.heap.size, 0, none⟩) x.l.length x.l.length)) (w.heap.size + 1) (.int .u8 x.k) (.string x.t) (.slice (some ⟨W1.heap.size, 0, none⟩) x.l.length x.l.length) (.slice A' x.ks.length x.ks.length)) w.heap.size (set4 (wr.setCell ⟨w.heap.size, 2, none⟩ (.slice (some ⟨W1.heap.size, 0, none⟩) x.l.length x.l.length)) (w.heap.size + 1) (.int .u8 x.k) (.string x.t) (.slice (some ⟨W1.heap.size, 0, none⟩) x.l.length x.l.length) (.slice A' x.ks.length x.ks.length)).heap.size ⟨x.k, x.t, some ⟨W1.heap.size, 0, none⟩, x.l.length, ys, A', x.ks.length, x.ks⟩ := by
        have e1 := HRW.out.sl.keep (w' := (set4 (wr.setCell ⟨w.heap.size, 2, none⟩ (.slice (some ⟨W1.heap.size, 0, none⟩) x.l.length x.l.length)) (w.heap.size + 1) (.int .u8 x.k) (.string x.t) (.slice (some ⟨W1.heap.size, 0, none⟩) x.l.length x.l.length) (.slice A' x.ks.length x.ks.length))) (Nat.le_of_eq hqs.symm) fun q h1 _ _ => hq q (.inl h1)
        have e2 := (HS1.out.below HBR.out (Nat.le_refl _)).keep (w' := (set4 (wr.setCell ⟨w.heap.size, 2, none⟩ (.slice (some ⟨W1.heap.size, 0, none⟩) x.l.length x.l.length)) (w.heap.size + 1) (.int .u8 x.k) (.string x.t) (.slice (some ⟨W1.heap.size, 0, none⟩) x.l.length x.l.length) (.slice A' x.ks.length x.ks.length))) (Nat.le_of_eq hqs.symm) fun q h1 _ _ => hq q (.inr h1)
        have e3 := fun u hu => (HYI.out u hu).kept (w' := (set4 (wr.setCell ⟨w.heap.size, 2, none⟩ (.slice (some ⟨W1.heap.size, 0, none⟩) x.l.length x.l.length)) (w.heap.size + 1) (.int .u8 x.k) (.string x.t) (.slice (some ⟨W1.heap.size, 0, none⟩) x.l.length x.l.length) (.slice A' x.ks.length x.ks.length))) (Nat.le_of_eq hqs.symm) fun q h1 _ _ => hq q (.inl (by omega))
        rw [hqs]
        exact ⟨e1.widen (by omega) (by omega), e2.widen (by omega) (by omega), hkd, fun u hu => (e3 u hu).widen (by omega) (Nat.le_refl _)⟩
      have hmn : AV.Mn (set4 (wr.setCell ⟨w.heap.size, 2, none⟩ (.slice (some ⟨W1.heap.size, 0, none⟩) x.l.length x.l.length)) (w.heap.size + 1) (.int .u8 x.k) (.string x.t) (.slice (some ⟨W1.heap.size, 0, none⟩) x.l.length x.l.length) (.slice A' x.ks.length x.ks.length)) w.heap.size (set4 (wr.setCell ⟨w.heap.size, 2, none⟩ (.slice (some ⟨W1.heap.size, 0, none⟩) x.l.length x.l.length)) (w.heap.size + 1) (.int .u8 x.k) (.string x.t) (.slice (some ⟨W1.heap.size, 0, none⟩) x.l.length x.l.length) (.slice A' x.ks.length x.ks.length)).heap.size ⟨x.k, x.t, some ⟨W1.heap.size, 0, none⟩, x.l.length, ys, A', x.ks.length, x.ks⟩ := by
        obtain ⟨f, g0, g1, g2, g3⟩ := HCH.out
        refine AV.Mn.mk f (by omega) g1 (by rw [hqs]; exact g2) (fun hpos => ?_) (fun _ => ⟨W1.heap.size, rfl, by omega, by omega, ?_⟩) rfl HYL.out.symm hkd fun i y hy => (g3 i y hy).kept fun q h1 h2 => hq q (.inl (by have := chn_le g1 i; omega))
        · obtain ⟨k, cs, e, h1, h2, h3, h4⟩ := HWW.out hpos
          exact ⟨k, cs, e, by omega, by omega, (hq k (.inr (by omega))).trans ((HBR.out.block k h2).trans h3), h4⟩
        · exact (hq _ (.inl (Nat.le_refl _))).trans HRW.out
      refine bodyPost_ret (v := .agg #[.int .u8 x.k, .string x.t, .slice (some ⟨W1.heap.size, 0, none⟩) x.l.length x.l.length, .slice A' x.ks.length x.ks.length]) (by simp [results, Tryz.results75, go_sem, s0, s1, s2, s3]) rfl ⟨⟨x.k, x.t, some ⟨W1.heap.size, 0, none⟩, x.l.length, ys, A', x.ks.length, x.ks⟩, ?_, ?_, ?_, ?_, ?_⟩
      · show _ = Ending.returned (.agg #[.int .u8 x.k, .string x.t, .slice (some ⟨W1.heap.size, 0, none⟩) ys.length x.l.length, .slice A' x.ks.length x.ks.length])
        rw [HYL.out]
      · rw [AV.v_eq, AV.v_eq x, HYS.out]
      · exact hin
      · exact hmn
      · show Below _ _ (set4 (wr.setCell ⟨w.heap.size, 2, none⟩ _) (w.heap.size + 1) _ _ _ _)
        exact below4 (HWR.out.setCell (p := ⟨w.heap.size, 2, none⟩) (Nat.le_refl _) _) (by omega)

end Go.Proofs.YtjihepdjcbpgoaaGreatDoor

namespace Go.Proofs.YtjihepdjcbpgoaaGreatDoor
open Go.RowKit Go.Sort

/-- Trees of the call's own, each in blocks of its own, behind each other; the row's block is none of these. -/
def IvS (w : World) (base : Nat) (blk : Option Nat) (ys : List AV) : Prop :=
  ∃ iv : List (Nat × Nat), iv.length = ys.length ∧ (∀ (i : Nat) (y : AV) (se : Nat × Nat), ys[i]? = some y → iv[i]? = some se → base ≤ se.1 ∧ se.2 ≤ w.heap.size ∧ y.In w se.1 se.2 ∧ y.Mn w se.1 se.2 ∧ ∀ g, blk = some g → ¬ (se.1 ≤ g ∧ g < se.2)) ∧ iv.Pairwise fun p q => p.2 ≤ q.1
theorem IvS.nil (w : World) (base : Nat) (blk : Option Nat) : IvS w base blk [] := ⟨[], rfl, fun i y se h => by simp at h, List.Pairwise.nil⟩
/-- One tree more, in new blocks; the row has grown. -/
theorem IvS.snoc {w w2 w3 : World} {base : Nat} {blk blk' : Option Nat} {ys : List AV} {y : AV} (h : IvS w base blk ys) (hb : Below w.heap.size w w2) (hin : y.In w2 w.heap.size w2.heap.size) (hmn : y.Mn w2 w.heap.size w2.heap.size) (hbase : base ≤ w.heap.size) (hblk : ∀ g, blk = some g → g < w.heap.size)
    (hs : w2.heap.size ≤ w3.heap.size) (hk : ∀ k, k < w2.heap.size → blk ≠ some k → w3.heap[k]? = w2.heap[k]?) (hb' : blk' = blk ∨ ∃ g, blk' = some g ∧ w2.heap.size ≤ g) : IvS w3 base blk' (ys ++ [y]) := by
  obtain ⟨iv, h1, h2, h3⟩ := h
  have hz := hb.size
  refine ⟨iv ++ [(w.heap.size, w2.heap.size)], by simp [h1], fun i u se hu hse => ?_, ?_⟩
  · rcases Nat.lt_or_ge i ys.length with hi | hi
    · rw [List.getElem?_append_left hi] at hu
      rw [List.getElem?_append_left (by omega)] at hse
      obtain ⟨g1, g2, g3, g4, g5⟩ := h2 i u se hu hse
      have hkk : ∀ k, se.1 ≤ k → k < se.2 → w3.heap[k]? = w.heap[k]? := fun k k1 k2 => (hk k (by omega) (fun e => g5 k e ⟨k1, k2⟩)).trans (hb.block k (by omega))
      refine ⟨g1, by omega, g3.kept (by omega) fun k k1 k2 _ => hkk k k1 k2, g4.kept hkk, fun g hg => ?_⟩
      rcases hb' with e | ⟨g', e, hg'⟩
      · exact g5 g (by rw [← e]; exact hg)
      · rw [e] at hg; cases hg; omega
    · rw [List.getElem?_append_right hi] at hu
      rw [List.getElem?_append_right (by omega), h1] at hse
      have h0 : i - ys.length = 0 := by
        have := (List.getElem?_eq_some_iff.1 hu).1
        simp at this; omega
      rw [h0] at hu hse
      cases hu
      cases hse
      have hkk : ∀ k, w.heap.size ≤ k → k < w2.heap.size → w3.heap[k]? = w2.heap[k]? := fun k k1 k2 => hk k k2 (fun e => by have := hblk k e; omega)
      refine ⟨hbase, hs, hin.kept hs fun k k1 k2 _ => hkk k k1 k2, hmn.kept hkk, fun g hg => ?_⟩
      rcases hb' with e | ⟨g', e, hg'⟩
      · have := hblk g (by rw [← e]; exact hg)
        show ¬ (w.heap.size ≤ g ∧ g < w2.heap.size)
        omega
      · rw [e] at hg; cases hg
        show ¬ (w.heap.size ≤ g ∧ g < w2.heap.size)
        omega
  · refine List.pairwise_append.2 ⟨h3, List.pairwise_singleton _ _, fun p hp q hq => ?_⟩
    rw [List.mem_singleton] at hq
    subst hq
    obtain ⟨i, hi, e⟩ := List.mem_iff_getElem.1 hp
    have := h2 i (ys[i]'(by omega)) p (List.getElem?_eq_getElem _) (by rw [List.getElem?_eq_getElem hi, e])
    exact this.2.1
theorem IvS.keep {w w' : World} {base : Nat} {blk : Option Nat} {ys : List AV} (h : IvS w base blk ys) (hb : Below w.heap.size w w') : IvS w' base blk ys := by
  obtain ⟨iv, h1, h2, h3⟩ := h
  refine ⟨iv, h1, fun i u se hu hse => ?_, h3⟩
  obtain ⟨g1, g2, g3, g4, g5⟩ := h2 i u se hu hse
  exact ⟨g1, Nat.le_trans g2 hb.size, g3.kept hb.size fun k _ _ hk => hb.block k hk, g4.kept fun k _ hk => hb.block k (by omega), g5⟩
def TakePost (b l r : List Val) (P : List Pk) (w : World) (e : Ending) (w' : World) : Prop :=
  ∃ (ys : List AV) (a : Option Addr), e = .returned (.slice a ys.length ys.length) ∧ ys.map AV.v = takeP b l r P ∧ OwnC w' w.heap.size 26 4 a ys.length ys.length (ys.flatMap AV.enc) ∧ IvS w' w.heap.size (Value.slice a ys.length ys.length).ownBlock ys ∧ Below w.heap.size w w'
theorem takeP_snoc {b l r : List Val} {P : List Pk} {p : Pk} : takeP b l r (P ++ [p]) = takeP b l r P ++ (pickV b l r p).toList := by
  rw [take_app]
  congr 1
theorem pk_at {w : World} {lo hi : Nat} {a : Option Addr} {l : List Pk} (h : SlE Pk.enc 2 w lo hi a l) {k : Nat} {y : Pk} (hk : l[k]? = some y) :
    ∃ b off, a = some ⟨b, off, none⟩ ∧ lo ≤ b ∧ b < hi ∧ b < w.heap.size ∧ w.cell? ⟨b, off + k * 2, none⟩ = some (.int .u8 y.side) ∧ w.cell? ⟨b, off + k * 2 + 1, none⟩ = some (.int .i64 y.at_) := by
  have hl : k < l.length := (List.getElem?_eq_some_iff.1 hk).1
  obtain ⟨b, off, e, g1, g2, g3, g4⟩ := h (by omega)
  have c := g4 k y hk
  exact ⟨b, off, e, g1, g2, g3, by simpa using c 0 _ rfl, c 1 _ rfl⟩
theorem clip_v (w : World) (a : Option Addr) (cap n : Nat) (hn : n ≤ cap) :
    Calls Tryz.prog 76 #[.slice a n cap] w fun e w' => e = .returned (.slice a n n) ∧ w = w' := by
  go_enter Tryz.func76, Tryz.ntmps76
  go_wp2_with fail
  go_ret
  exact ⟨rfl, rfl⟩
theorem pick_none {α : Type} {b l r : List α} {p : Pk} (h : p.side < 0 ∨ 3 ≤ p.side ∨ p.at_ < 0) : pickV b l r p = none := by
  unfold pickV sideL
  split
  · rfl
  · rw [if_neg (by omega), if_neg (by omega), if_neg (by omega)]; simp

set_option maxRecDepth 100000 in
set_option maxHeartbeats 3200000 in
theorem take27_c (w : World) (x y z : LA) (A : Option Addr) (cP : Nat) (P : List Pk) (hx : x.Rd w) (hy : y.Rd w) (hz : z.Rd w) (hPs : SlE Pk.enc 2 w 0 w.heap.size A P) (hPl : P.length ≤ 4194304) (hPk : ∀ p ∈ P, 0 ≤ p.side ∧ p.side ≤ 255) :
    Calls Tryz.prog 37 #[.slice x.a x.l.length x.c, .slice y.a y.l.length y.c, .slice z.a z.l.length z.c, .slice A P.length cP] w (TakePost x.v y.v z.v P w) := by
  have HX := Lib.hid hx
  have HY := Lib.hid hy
  have HZ := Lib.hid hz
  have HPS := Lib.hid hPs
  have HPK := Lib.hid hPk
  have hxl := hx.len
  have hyl := hy.len
  have hzl := hz.len
  clear hx hy hz hPs hPk
  go_enter Tryz.func37, Tryz.ntmps37
  go_upto_region 2 with fail
  go_name_world W1 hW1
  have hb1 : Below w.heap.size w W1 := by rw [← hW1]; exact (Below.refl _ _).alloc (Nat.le_refl _) _
  have hz1 : W1.heap.size = w.heap.size + 1 := by rw [← hW1]; simp
  have h9 : W1.heap[w.heap.size]? = some (.cells #[.slice x.a x.l.length x.c, .slice y.a y.l.length y.c, .slice z.a z.l.length z.c] 38 (0, 0)) := by rw [← hW1]; exact heap_alloc_new w _
  obtain ⟨k0, k1, k2, kl⟩ := has_cell h9
  have HB1 := Lib.hid hb1
  have HZ1 := Lib.hid hz1
  have HK := Lib.hid (And.intro k0 (And.intro k1 k2))
  clear hW1 hb1 hz1 h9 k0 k1 k2
  go_wp2_with fail
  go_loopw [8, 18] (fun s8 s18 wr => ∃ (m : Nat) (ys : List AV) (a : Option Addr) (c : Nat), m ≤ P.length ∧ s18 = .int .i64 m ∧ s8 = .slice a ys.length c ∧ OwnV wr W1.heap.size (.slice a ys.length c) ys ∧ ys.map AV.v = takeP x.v y.v z.v (P.take m) ∧ ys.length ≤ m ∧ IvS wr W1.heap.size (Value.slice a ys.length c).ownBlock ys ∧ Below W1.heap.size W1 wr) (fun _ s18 _ => P.length - (intOf s18).toNat)
  case atStart => exact ⟨0, [], none, 0, Nat.zero_le _, by go_num, rfl, ⟨rfl, .inl ⟨rfl, rfl⟩⟩, rfl, Nat.le_refl _, IvS.nil _ _ _, Below.refl _ _⟩
  case round =>
    obtain ⟨m, ys, a, c, hm, rfl, rfl, hown, hyv, hyl', hiv, hbr⟩ := hrel
    have HOW := Lib.hid hown
    have HYV := Lib.hid hyv
    have HIV := Lib.hid hiv
    have HBR := Lib.hid hbr
    have hsr := hbr.size
    clear hown hyv hiv hbr
    by_cases hlt : m < P.length
    · have hk : P[m]? = some P[m] := List.getElem?_eq_getElem hlt
      have hpk := HPK.out P[m] (List.getElem_mem hlt)
      have htk : P.take (m + 1) = P.take m ++ [P[m]] := by rw [List.take_add_one, hk]; rfl
      have htp : takeP x.v y.v z.v (P.take (m + 1)) = takeP x.v y.v z.v (P.take m) ++ (pickV x.v y.v z.v P[m]).toList := by rw [htk, takeP_snoc]
      generalize P[m] = p at *
      have hbw : Below w.heap.size w wr := below_via HB1.out HBR.out
      obtain ⟨b, off, hla, -, -, hb2, c0, c1⟩ := pk_at HPS.out hk
      rw [← hbw.cell (p := ⟨_, _, none⟩) hb2] at c0 c1
      have hbb := Nat.lt_of_lt_of_le hb2 hbw.size
      have hlt' : (m : Int) < (P.length : Int) := by omega
      have hm0 : (0 : Int) ≤ (m : Int) := by omega
      have hwm : IntKind.i64.wrap ((m : Int) + 1) = ((m + 1 : Nat) : Int) := by rw [IntWalk.i64_in _ (by omega)]; omega
      have HTP := Lib.hid htp
      have HBW := Lib.hid hbw
      clear hk htk htp hbw
      subst hla
      obtain ⟨ps, pa⟩ := p
      simp only at hpk c0 c1
      have hcv : IntKind.i64.wrap ps = ps := IntWalk.i64_in _ (by omega)
      go_upto_region 5 with fail
      clear c0 c1
      go_name_world W2 hW2
      have hb2' : Below wr.heap.size wr W2 := by rw [← hW2]; exact (Below.refl _ _).alloc (Nat.le_refl _) _
      have hbx : W2.heap[wr.heap.size]? = some (.cells #[.int .u8 ps, .int .i64 pa] 50 (0, 0)) := by rw [← hW2]; exact heap_alloc_new wr _
      have hb12 : Below W1.heap.size W1 W2 := HBR.out.trans (hb2'.mono hsr)
      have LD := Lib.hid (fun W (h : Below W2.heap.size W2 W) => And.intro (pkbox_up h hbx) (And.intro (((hb12.trans (h.mono hb12.size)).cell (p := ⟨_, _, none⟩) kl).trans HK.out.1) (And.intro (((hb12.trans (h.mono hb12.size)).cell (p := ⟨_, _, none⟩) kl).trans HK.out.2.1) (((hb12.trans (h.mono hb12.size)).cell (p := ⟨_, _, none⟩) kl).trans HK.out.2.2))))
      have HB2 := Lib.hid hb2'
      clear hW2 hb2' hbx
      have fin : ∀ wz, Below W2.heap.size W2 wz → pickV x.v y.v z.v ⟨ps, pa⟩ = none → OwnV wz W1.heap.size (.slice a ys.length c) ys ∧ ys.map AV.v = takeP x.v y.v z.v (P.take (m + 1)) ∧ IvS wz W1.heap.size (Value.slice a ys.length c).ownBlock ys ∧ Below W1.heap.size W1 wz := fun wz hbz hn =>
        have hbz' := below_via HB2.out hbz
        ⟨own_below HOW.out hbz', by rw [HTP.out, hn, HYV.out]; simp, HIV.out.keep hbz', HBR.out.trans (hbz'.mono hsr)⟩
      have FIN := Lib.hid fin
      clear fin hb12
      rcases (show 3 ≤ ps ∨ ps < 3 by omega) with h3 | h3
      · have g1 : decide (ps < 3) = false := decide_eq_false (by omega)
        have g2 : ¬ ps < 3 := by omega
        refine wp_region_bl (by kernel_rfl) (by kernel_rfl) ?_
        repeat (first | go_big_quiet_skip | (go_big_quiet_want; go_big_quiet_op; first | go_big_quiet_on | (refine ⟨_, fun _ _ => (by with_reducible rfl), ?_⟩; go_big_quiet_on) | (apply Exists.intro; refine ⟨fun w' hC => (by simp only [LD.out w' hC, Result.andThen]; exact ⟨trivial, rfl⟩), ?_⟩; go_big_quiet_on)))
        refine wpQuiet_nil ?_; intro wz hbz
        go_wp2_with fail
        obtain ⟨f1, f2, f3, f4⟩ := FIN.out wz hbz (pick_none (.inr (.inl h3)))
        exact ⟨⟨m + 1, ys, a, c, by omega, by go_num, rfl, f1, f2, by omega, f3, f4⟩, by simp [intOf]; omega⟩
      · obtain ⟨sd, rfl⟩ : ∃ sd : Nat, ps = sd := ⟨ps.toNat, by omega⟩
        have hs3 : sd < 3 := by omega
        have hs0 : (0 : Int) ≤ (sd : Int) := by omega
        have g1 : decide ((sd : Int) < 3) = true := decide_eq_true h3
        have g2 : decide (sd < 3) = true := decide_eq_true hs3
        rcases (show pa < 0 ∨ 0 ≤ pa by omega) with h0 | h0
        · have g3 : decide (0 ≤ pa) = false := decide_eq_false (by omega)
          have g4 : ¬ 0 ≤ pa := by omega
          refine wp_region_bl (by kernel_rfl) (by kernel_rfl) ?_
          repeat (first | go_big_quiet_skip | (go_big_quiet_want; go_big_quiet_op; first | go_big_quiet_on | (refine ⟨_, fun _ _ => (by with_reducible rfl), ?_⟩; go_big_quiet_on) | (apply Exists.intro; refine ⟨fun w' hC => (by simp only [LD.out w' hC, Result.andThen]; exact ⟨trivial, rfl⟩), ?_⟩; go_big_quiet_on)))
          refine wpQuiet_nil ?_; intro wz hbz
          go_wp2_with fail
          obtain ⟨f1, f2, f3, f4⟩ := FIN.out wz hbz (pick_none (.inr (.inr h0)))
          exact ⟨⟨m + 1, ys, a, c, by omega, by go_num, rfl, f1, f2, by omega, f3, f4⟩, by simp [intOf]; omega⟩
        · obtain ⟨at_, rfl⟩ : ∃ n : Nat, pa = n := ⟨pa.toNat, by omega⟩
          have hbw2 : Below w.heap.size w W2 := below_via HBW.out HB2.out
          obtain ⟨q, hq, hcell, hpq⟩ : ∃ q : LA, q.Rd w ∧ (∀ W, Below W2.heap.size W2 W → W.cell? ⟨w.heap.size, sd, none⟩ = some (.slice q.a q.l.length q.c)) ∧ pickV x.v y.v z.v ⟨(sd : Int), (at_ : Int)⟩ = q.v[at_]? := by
            rcases (show sd = 0 ∨ sd = 1 ∨ sd = 2 by omega) with rfl | rfl | rfl
            · exact ⟨x, HX.out, fun W h => (LD.out W h).2.1, by simp [pickV, sideL]; intro h; omega⟩
            · exact ⟨y, HY.out, fun W h => (LD.out W h).2.2.1, by simp [pickV, sideL]; intro h; omega⟩
            · exact ⟨z, HZ.out, fun W h => (LD.out W h).2.2.2, by simp [pickV, sideL]; intro h; omega⟩
          have hql := hq.len
          have g3 : decide ((0 : Int) ≤ (at_ : Int)) = true := decide_eq_true h0
          have LD2 := Lib.hid (fun W (h : Below W2.heap.size W2 W) => And.intro (LD.out W h).1 (hcell W h))
          have HQ := Lib.hid hq
          have HPQ := Lib.hid hpq
          have kl2 : w.heap.size < W2.heap.size := by have := HB2.out.size; omega
          clear hq hcell hpq LD
          by_cases hal : at_ < q.l.length
          · have g5 : decide ((at_ : Int) < (q.l.length : Int)) = true := decide_eq_true (by omega)
            have g6 : decide (at_ < q.l.length) = true := decide_eq_true hal
            have LD := LD2
            refine wp_region_bl (by kernel_rfl) (by kernel_rfl) ?_
            repeat (first | go_big_quiet_skip | (go_big_quiet_want; go_big_quiet_op; first | go_big_quiet_on | (refine ⟨_, fun _ _ => (by with_reducible rfl), ?_⟩; go_big_quiet_on) | (apply Exists.intro; refine ⟨fun w' hC => (by simp only [LD.out w' hC, Result.andThen]; exact ⟨trivial, rfl⟩), ?_⟩; go_big_quiet_on)))
            refine wpQuiet_nil ?_; intro wz hbz
            have hk2 : q.l[at_]? = some q.l[at_] := List.getElem?_eq_getElem hal
            have hmem : q.l[at_] ∈ q.l := List.getElem_mem hal
            generalize q.l[at_] = u at *
            have hwz : Below w.heap.size w wz := below_via hbw2 hbz
            obtain ⟨b3, o3, hla3, -, -, hb3, v0, v1, v2, v3⟩ := vals_at HQ.out.sl hk2
            rw [← hwz.cell (p := ⟨_, _, none⟩) hb3] at v0 v1 v2 v3
            have hb3z := Nat.lt_of_lt_of_le hb3 hwz.size
            obtain ⟨x0, x1⟩ := (LD2.out wz hbz).1
            have x9 := (LD2.out wz hbz).2
            have hkz : w.heap.size < wz.heap.size := Nat.lt_of_lt_of_le kl2 hbz.size
            have hrz : wr.heap.size < wz.heap.size := by
              have h1 := World.block_lt_of_cell? wz _ x0
              exact h1
            have hal' : (at_ : Int) < (q.l.length : Int) := by omega
            have HOWN := fun W (h : Below w.heap.size w W) => Lib.hid (sown2_c u W ((HQ.out.kids u hmem).1.up h) (HQ.out.kids u hmem).2)
            have hbz1 : Below wr.heap.size wr wz := below_via HB2.out hbz
            have HUV := Lib.hid (show pickV x.v y.v z.v ⟨(sd : Int), (at_ : Int)⟩ = some u.v by rw [HPQ.out, LA.v, List.getElem?_map, hk2]; rfl)
            have HWZ := Lib.hid hwz
            have HBZ1 := Lib.hid hbz1
            have HLA3 := Lib.hid hla3
            clear hk2 hmem hwz hbz1 hla3 LD LD2 FIN
            rw [HLA3.out] at x9
            go_upto_region 6 with fail
            go_region_law (first
              | (refine st_append (s := .tmp 41) (x := .tmp 51) rfl rfl (hrun _) ?_; clear hrun)
              | (go_simp; go_at_call 75; refine (HOWN _ HWZ.out.drew).out.mono ?_; rintro e w3 ⟨zt, rfl, hzv, hzi, hzm, hb4⟩
                 have hs4 : wz.heap.size ≤ w3.heap.size := hb4.size
                 have hs5 : W1.heap.size ≤ w3.heap.size := by have := HBZ1.out.size; omega
                 have hown4 : OwnV w3 W1.heap.size (.slice a ys.length c) ys := own_below (own_below HOW.out HBZ1.out.drew) hb4
                 have hlit : SlE AV.enc 4 (w3.alloc (.cells #[.int .u8 zt.k, .string zt.t, .slice zt.la zt.l.length zt.lc, .slice zt.ka zt.ks.length zt.kc] 26)) w3.heap.size (w3.heap.size + 1) (some ⟨w3.heap.size, 0, none⟩) [zt] := lit_sl (enc := AV.enc) (size := 4) (l := [zt]) (t := 26) (fr := (0, 0)) AV.enc_len (heap_alloc_new _ _)
                 obtain ⟨v', W', hrun, hown', hgr, hat⟩ := app_val (c := 1) (own_below hown4 ((Below.refl _ _).alloc (Nat.le_refl _) _)) hlit (by simp; omega) (by simp; omega)
                 obtain ⟨ys', hys'⟩ : ∃ ys', ys' = ys ++ [zt] := ⟨_, rfl⟩
                 rw [← hys'] at hown'
                 have HYS' := Lib.hid hys'
                 clear hys'
                 obtain ⟨a', c', rfl⟩ := own_formV hown'))
            all_goals
              have hys' := HYS'.out
              have hv2 : ys'.map AV.v = takeP x.v y.v z.v (P.take (m + 1)) := by rw [hys', List.map_append, HTP.out, HYV.out, HUV.out]; simp [hzv]
              have hg3 : ∀ k, k < w3.heap.size → (Value.slice a ys.length c).ownBlock ≠ some k → W'.heap[k]? = w3.heap[k]? := fun k k1 k2 => (hgr.block k (by simp; omega) (Ne.symm k2)).trans (heap_alloc_old _ _ _ k1)
              have hiv' : IvS W' W1.heap.size (Value.slice a' ys'.length c').ownBlock ys' := by
                rw [hys']
                refine IvS.snoc (HIV.out.keep HBZ1.out.drew) hb4 hzi hzm (by show W1.heap.size ≤ wz.heap.size; have := HBZ1.out.size; omega) (fun g hg => ?_) (by have := hgr.size; simp at this; omega) hg3 ?_
                · have h1 := (World.ownsRow.lt HOW.out g hg).2
                  have h2 := HBZ1.out.size
                  show g < wz.heap.size
                  omega
                · rw [← hys']
                  rcases hat with e | e
                  · exact .inl e
                  · exact .inr ⟨_, e, by simp⟩
              have hbW : Below W1.heap.size W1 W' := by
                refine Below.grown ?_ hgr (by simp; omega) (fun g hg => (World.ownsRow.lt HOW.out g hg).1)
                exact ((HBR.out.trans (HBZ1.out.mono hsr)).drew.trans (hb4.mono (by show W1.heap.size ≤ wz.heap.size; have := HBZ1.out.size; omega))).alloc hs5 _
              have hlen : ys'.length ≤ m + 1 := by rw [hys']; simp; omega
              have HE := Lib.hid (And.intro hv2 (And.intro hiv' (And.intro hbW hown')))
              clear hv2 hg3 hiv' hbW hown' hgr hat hown4 hlit hb4 hzi hzm hzv hys'
              go_wp2_with fail
              exact ⟨⟨m + 1, ys', a', c', by omega, by go_num, rfl, HE.out.2.2.2, HE.out.1, hlen, HE.out.2.1, HE.out.2.2.1⟩, by simp [intOf]; omega⟩
          · have g5 : decide ((at_ : Int) < (q.l.length : Int)) = false := decide_eq_false (by omega)
            have g6 : decide (at_ < q.l.length) = false := decide_eq_false hal
            have LD := LD2
            refine wp_region_bl (by kernel_rfl) (by kernel_rfl) ?_
            repeat (first | go_big_quiet_skip | (go_big_quiet_want; go_big_quiet_op; first | go_big_quiet_on | (refine ⟨_, fun _ _ => (by with_reducible rfl), ?_⟩; go_big_quiet_on) | (apply Exists.intro; refine ⟨fun w' hC => (by simp only [LD.out w' hC, Result.andThen]; exact ⟨trivial, rfl⟩), ?_⟩; go_big_quiet_on)))
            refine wpQuiet_nil ?_; intro wz hbz
            go_wp2_with fail
            obtain ⟨f1, f2, f3, f4⟩ := FIN.out wz hbz (by rw [HPQ.out]; exact List.getElem?_eq_none (by rw [LA.v, List.length_map]; omega))
            exact ⟨⟨m + 1, ys, a, c, by omega, by go_num, rfl, f1, f2, by omega, f3, f4⟩, by simp [intOf]; omega⟩
    · obtain rfl : m = P.length := by omega
      have hge : ¬ (P.length : Int) < (P.length : Int) := by omega
      have hcap := own_cap HOW.out rfl
      go_wp2_with (go_at_call 76; refine (clip_v _ _ _ _ hcap).mono ?_; rintro e w6 ⟨rfl, rfl⟩)
      go_ret
      refine ⟨ys, a, rfl, ?_, own_clip (World.ownsRow.mono (show wr.ownsRow W1.heap.size 26 4 (.slice a ys.length c) ys.length (ys.flatMap AV.enc) from HOW.out) HB1.out.size) (Nat.le_refl _) hcap, ?_, below_via HB1.out HBR.out⟩
      · have := HYV.out; rwa [List.take_length] at this
      · obtain ⟨iv, h1, h2, h3⟩ := HIV.out
        refine ⟨iv, h1, fun i u se hu hse => ?_, h3⟩
        obtain ⟨g1, g2, g3, g4, g5⟩ := h2 i u se hu hse
        exact ⟨Nat.le_trans HB1.out.size g1, g2, g3, g4, fun g hg => g5 g (by cases a <;> exact hg)⟩
end Go.Proofs.YtjihepdjcbpgoaaGreatDoor
