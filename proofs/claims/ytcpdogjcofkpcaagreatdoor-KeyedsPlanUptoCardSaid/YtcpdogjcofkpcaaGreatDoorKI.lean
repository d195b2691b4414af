/-
  keyeds.Plan's place: contract. Conditions: what it captures lies in memory as Plan lays it; lengths are bounded.
  slices.SortFunc at triples, by names. Conditions: the row lies in memory, its length is bounded.
  How long names are; what placing names leaves. Plain; condition: the weights are bounded.
-/
import Derived.Test.YtcpdogjcofkpcaaGreatDoorKF
import Derived.Deep.DeepCutAuto
import Derived.Test.YtcpdogjcofkpcaaGreatDoorShelf4
namespace Go.Proofs.YtcpdogjcofkpcaaGreatDoor
open Go.RowKit Go.Sort

def newTr (s : ByteArray) : Tr := ⟨s, -1, -1, -1⟩
/-- One name of one side is placed. -/
def place1 (side : Nat) (T : List Tr) (s : ByteArray) (i : Int) : List Tr :=
  match idxB (T.map Tr.id) s with
  | some k => T.modify k (fun t => t.put side i)
  | none => T ++ [(newTr s).put side i]
/-- The first k names of a side are placed. -/
def placeN (side : Nat) (ns : List ByteArray) (T : List Tr) : Nat → List Tr
  | 0 => T
  | k + 1 => place1 side (placeN side ns T k) (ns.getD k ⟨#[]⟩) k
theorem place1_len (side : Nat) (T : List Tr) (s : ByteArray) (i : Int) : (place1 side T s i).length ≤ T.length + 1 := by
  unfold place1; split <;> simp
theorem placeN_len (side : Nat) (ns : List ByteArray) (T : List Tr) : ∀ k, (placeN side ns T k).length ≤ T.length + k
  | 0 => Nat.le_refl _
  | k + 1 => by
    have := placeN_len side ns T k
    have := place1_len side (placeN side ns T k) (ns.getD k ⟨#[]⟩) k
    rw [placeN]; omega

/-- Plan's state: its map at the end of W0's memory, then the box of the map, the box of the row, the row. -/
structure PS (W0 w : World) (T : List Tr) : Prop where
  below : Below W0.heap.size W0 w
  box : w.heap[W0.heap.size + 1]? = some (.cells #[.map (some W0.heap.size)] 98 (0, 0))
  row : ∃ a c, w.heap[W0.heap.size + 2]? = some (.cells #[.slice a T.length c] 31 (0, 0)) ∧ OwnT w (W0.heap.size + 3) (.slice a T.length c) T
  map : MapIs w W0.heap.size (T.map Tr.id)
set_option maxRecDepth 100000 in
theorem idx3_0 (a b c : Value) (w : World) : (Instr.index 101 (.agg #[a, b, c]) (.int .i64 0)).run Tryz.prog w = .ok a w := by rfl
set_option maxRecDepth 100000 in
theorem idx3_1 (a b c : Value) (w : World) : (Instr.index 101 (.agg #[a, b, c]) (.int .i64 1)).run Tryz.prog w = .ok b w := by rfl
set_option maxRecDepth 100000 in
theorem idx3_2 (a b c : Value) (w : World) : (Instr.index 101 (.agg #[a, b, c]) (.int .i64 2)).run Tryz.prog w = .ok c w := by rfl
theorem one_cell {w : World} {b : Nat} {v : Value} {t : TypeId} (h : w.heap[b]? = some (.cells #[v] t (0, 0))) : w.cell? ⟨b, 0, none⟩ = some v ∧ w.frozen? ⟨b, 0, none⟩ = false := by
  constructor <;> simp [World.cell?, World.frozen?, h]

theorem one_block {w w' : World} {b g : Nat} (hb : b ≠ g) (o : Nat) (u : Value) (h : w' = w.setCell ⟨g, o, none⟩ u) : w'.heap[b]? = w.heap[b]? := by rw [h]; exact Below.heap_setCell w _ _ b hb
/-- A triple's place on one side is told. -/
theorem PS.put {W0 w : World} {U : List Tr} (h : PS W0 w U) {g c : Nat} (hbx : w.heap[W0.heap.size + 2]? = some (.cells #[.slice (some ⟨g, 0, none⟩) U.length c] 31 (0, 0))) (hown : OwnT w (W0.heap.size + 3) (.slice (some ⟨g, 0, none⟩) U.length c) U)
    (hg : W0.heap.size + 3 ≤ g) {side j : Nat} (hs : side < 3) (hj : j < U.length) (i : Int) : PS W0 (w.setCell ⟨g, j * 4 + (side + 1), none⟩ (.int .i64 i)).drew (U.modify j fun t => t.put side i) := by
  have hgr : w.grownBy (w.setCell ⟨g, j * 4 + (side + 1), none⟩ (.int .i64 i)) (some g) := ⟨rfl, rfl, rfl, by simp, fun k _ hk => Below.heap_setCell w _ _ k (fun e => hk (by rw [e]))⟩
  have hid : (U.modify j fun t => t.put side i).map Tr.id = U.map Tr.id := by
    clear hbx hown hj h hgr
    induction U generalizing j with
    | nil => cases j <;> rfl
    | cons t U ih =>
      cases j with
      | zero => show (t.put side i).id :: U.map Tr.id = _; rw [Tr.put_id]; rfl
      | succ j => show t.id :: (U.modify j fun t => t.put side i).map Tr.id = _; rw [ih]; rfl
  refine ⟨(h.below.setCell (p := ⟨g, _, none⟩) (by show W0.heap.size ≤ g; omega) _).drew, (Below.heap_setCell w _ _ _ (by show W0.heap.size + 1 ≠ g; omega)).trans h.box, ⟨some ⟨g, 0, none⟩, c, ?_, hown.put hs hj i⟩, by rw [hid]; have m := h.map.kept hgr (by intro e; injection e with e; omega); exact m⟩
  rw [List.length_modify]
  exact (Below.heap_setCell w _ _ _ (by show W0.heap.size + 2 ≠ g; omega)).trans hbx

theorem modify_snoc {α : Type} (f : α → α) (x : α) : ∀ l : List α, (l ++ [x]).modify l.length f = l ++ [f x]
  | [] => rfl
  | y :: l => by
    have := modify_snoc f x l
    show y :: (l ++ [x]).modify l.length f = _
    rw [this]; rfl
/-- A new triple at the row's end. -/
theorem PS.push {W0 wr wa W' W'' : World} {U U' : List Tr} {s : ByteArray} {a a' : Option Addr} {c c' : Nat} (h : PS W0 wr U) (hown : OwnT wr (W0.heap.size + 3) (.slice a U.length c) U) (hbA : Below wr.heap.size wr wa) (hgr : wa.grownBy W' (Value.slice a U.length c).ownBlock)
    (hown' : OwnT W' (W0.heap.size + 3) (.slice a' U'.length c') U') (hgr2 : W'.grownBy W'' (some W0.heap.size)) (hm : MapIs W'' W0.heap.size (U.map Tr.id ++ [s])) (hU : U' = U ++ [newTr s])
    (b1 : W''.heap[W0.heap.size + 1]? = some (.cells #[.map (some W0.heap.size)] 98 (0, 0))) (b2 : W''.heap[W0.heap.size + 2]? = some (.cells #[.slice a U.length c] 31 (0, 0))) :
    PS W0 (W''.setCell ⟨W0.heap.size + 2, 0, none⟩ (.slice a' U'.length c')) U' := by
  have hrl : ∀ q, (Value.slice a U.length c).ownBlock = some q → W0.heap.size + 3 ≤ q ∧ q < wr.heap.size := hown.lt
  have hrl' : ∀ q, (Value.slice a' U'.length c').ownBlock = some q → W0.heap.size + 3 ≤ q ∧ q < W'.heap.size := hown'.lt
  have z0 := h.below.size
  have z1 := hbA.size
  have z2 := hgr.size
  have hgs : W''.grownBy (W''.setCell ⟨W0.heap.size + 2, 0, none⟩ (.slice a' U'.length c')) (some (W0.heap.size + 2)) := ⟨rfl, rfl, rfl, by simp, fun k _ hk => Below.heap_setCell W'' _ _ k (fun e => hk (by rw [e]))⟩
  refine ⟨?_, (Below.heap_setCell W'' _ _ _ (by show W0.heap.size + 1 ≠ W0.heap.size + 2; omega)).trans b1, ⟨a', c', by rw [set_blk b2]; rfl, ?_⟩, ?_⟩
  · refine Below.setCell (p := ⟨W0.heap.size + 2, 0, none⟩) ?_ (by show W0.heap.size ≤ W0.heap.size + 2; omega) _
    exact (((h.below.trans (hbA.mono z0)).grown hgr (by omega) (fun q hq => by have := hrl q hq; omega)).grown hgr2 (by omega) (fun q hq => by cases hq; exact Nat.le_refl _))
  · refine World.ownsRow.kept (row := some (W0.heap.size + 2)) (World.ownsRow.kept (row := some W0.heap.size) hown' hgr2 ?_) hgs ?_
    · cases hq : (Value.slice a' U'.length c').ownBlock with
      | none => exact .inl rfl
      | some q => exact .inr fun e => by have := hrl' q hq; have := Option.some.inj e; omega
    · cases hq : (Value.slice a' U'.length c').ownBlock with
      | none => exact .inl rfl
      | some q => exact .inr fun e => by have := hrl' q hq; have := Option.some.inj e; omega
  · have := hm.kept hgs (fun e => by have := Option.some.inj e; omega)
    have hid : U'.map Tr.id = U.map Tr.id ++ [s] := by rw [hU, List.map_append]; rfl
    rw [hid]; exact this

set_option maxRecDepth 100000 in
set_option maxHeartbeats 12800000 in
theorem place_c (W0 w : World) (T : List Tr) (side pAll : Nat) (A : Option Addr) (cR : Nat) (R : List SA) (r : SA) (hside : side < 3) (hps : PS W0 w T) (hall : W0.cell? ⟨pAll, 0, none⟩ = some (.slice A R.length cR)) (hR : SlE SA.enc 1 W0 0 W0.heap.size A R) (hr : R[side]? = some r)
    (hns : SlE strE 1 W0 0 W0.heap.size r.a r.ns) (hnl : r.ns.length ≤ 1048576) (hT : T.length ≤ 4194304) (hsz : ∀ s ∈ r.ns, s.size ≤ Go.maxLen) :
    Calls Tryz.prog 64 #[.int .i64 side, .pointer (some ⟨pAll, 0, none⟩), .pointer (some ⟨W0.heap.size + 1, 0, none⟩), .pointer (some ⟨W0.heap.size + 2, 0, none⟩)] w fun e w' => e = .returned (.tuple #[]) ∧ PS W0 w' (placeN side r.ns T r.ns.length) := by
  have hpa := World.block_lt_of_cell? W0 ⟨pAll, 0, none⟩ hall
  have hpa' : pAll < W0.heap.size := hpa
  have hsl : side < R.length := (List.getElem?_eq_some_iff.1 hr).1
  obtain ⟨b, off, hla, -, hb1, hb2, h0⟩ := sa_at hR hr
  have hal := (hps.below.cell (p := ⟨pAll, 0, none⟩) hpa').trans hall
  rw [← hps.below.cell (p := ⟨_, _, none⟩) hb2] at h0
  have hs0 := hps.below.size
  have hbb : b < w.heap.size := by omega
  have hpw : pAll < w.heap.size := by omega
  have hside' : (side : Int) < (R.length : Int) := by omega
  have hside0 : (0 : Int) ≤ (side : Int) := by omega
  rw [hla] at hal
  have HPS := Lib.hid hps
  have HNS := Lib.hid hns
  have HSZ := Lib.hid hsz
  clear hps hns hsz hall hR hr hla
  go_enter Tryz.func64, Tryz.ntmps64
  go_wp2_with fail
  go_loopw [5, 6, 7, 8, 14] (fun _ _ _ _ i wr => ∃ k : Nat, k ≤ r.ns.length ∧ i = .int .i64 k ∧ PS W0 wr (placeN side r.ns T k)) (fun _ _ _ _ i _ => r.ns.length - (intOf i).toNat)
  case atStart => exact ⟨0, Nat.zero_le _, rfl, HPS.out⟩
  case round =>
    obtain ⟨k, hk, rfl, hps⟩ := hrel
    have hwb := hps.below
    have hsw := hwb.size
    by_cases hlt : k < r.ns.length
    · have hlt' : (k : Int) < (r.ns.length : Int) := by omega
      have hks : r.ns[k]? = some r.ns[k] := List.getElem?_eq_getElem hlt
      have hmem : r.ns[k] ∈ r.ns := List.getElem_mem hlt
      have hstep : placeN side r.ns T (k + 1) = place1 side (placeN side r.ns T k) r.ns[k] k := by rw [placeN, List.getD_eq_getElem?_getD, hks]; rfl
      have hlen := placeN_len side r.ns T k
      generalize r.ns[k] = s at *
      generalize placeN side r.ns T k = U at *
      have hss := HSZ.out s hmem
      obtain ⟨nb, noff, hna, -, hnb1, hnb2, hn0⟩ := key_at HNS.out hks
      rw [← hwb.cell (p := ⟨_, _, none⟩) hnb2] at hn0
      have hnb : nb < wr.heap.size := by omega
      obtain ⟨a, c, hbx, hown⟩ := hps.row
      obtain ⟨m0, m1⟩ := one_cell hps.box
      obtain ⟨o0, o1⟩ := one_cell hbx
      have hl1 : W0.heap.size + 1 < wr.heap.size := by
        rcases Nat.lt_or_ge (W0.heap.size + 1) wr.heap.size with h | h
        · exact h
        · have := hps.box; rw [Array.getElem?_eq_none h] at this; cases this
      have hl2 : W0.heap.size + 2 < wr.heap.size := by
        rcases Nat.lt_or_ge (W0.heap.size + 2) wr.heap.size with h | h
        · exact h
        · rw [Array.getElem?_eq_none h] at hbx; cases hbx
      obtain ⟨c0, hlook, hc0⟩ := hps.map.look s hss
      rw [hna]
      have HP := Lib.hid hps
      have HST := Lib.hid hstep
      have HOW := Lib.hid hown
      have HBX := Lib.hid hbx
      clear hps hstep hown hbx hks hmem hna
      cases hi : idxB (U.map Tr.id) s with
      | some j =>
        rw [hi] at hlook
        obtain rfl := hc0 j hi
        have hjU : j < U.length := by have := (List.getElem?_eq_some_iff.1 (idxB_some hi)).1; simpa using this
        have HI := Lib.hid hi
        clear hi hc0
        go_wp2_with fail
        obtain ⟨g, c', hv, hg1, hg2⟩ := HOW.out.form (by omega)
        injection hv with hv1 hv2 hv3
        subst hv1
        have cc := fun (o : Nat) (ho : o < U.length * 4) => HOW.out.cellAt o ho
        have c4 : ∀ q, q < 4 → ∃ u, wr.cell? ⟨g, j * 4 + q, none⟩ = some u := fun q hq => by
          rw [cc (j * 4 + q) (by omega)]
          exact ⟨_, List.getElem?_eq_getElem (by rw [flat_len Tr.enc_len]; omega)⟩
        obtain ⟨v1, w1'⟩ := c4 1 (by omega)
        obtain ⟨v2, w2'⟩ := c4 2 (by omega)
        obtain ⟨v3, w3'⟩ := c4 3 (by omega)
        have f1 := HOW.out.frozenAt (j * 4 + 1)
        have f2 := HOW.out.frozenAt (j * 4 + 2)
        have f3 := HOW.out.frozenAt (j * 4 + 3)
        have hj' : (j : Int) < (U.length : Int) := by omega
        clear cc c4 hlook
        have h3 : side = 0 ∨ side = 1 ∨ side = 2 := by omega
        rcases h3 with rfl | rfl | rfl
        · have hix := idx3_0
          go_region
          go_wp2_with fail
          refine ⟨⟨k + 1, by omega, by go_num, ?_⟩, by simp [intOf]; omega⟩
          rw [HST.out, place1, HI.out]
          exact HP.out.put (side := 0) HBX.out HOW.out hg1 (by omega) hjU _
        · have hix := idx3_1
          go_region
          go_wp2_with fail
          refine ⟨⟨k + 1, by omega, by go_num, ?_⟩, by simp [intOf]; omega⟩
          rw [HST.out, place1, HI.out]
          exact HP.out.put (side := 1) HBX.out HOW.out hg1 (by omega) hjU _
        · have hix := idx3_2
          go_region
          go_wp2_with fail
          refine ⟨⟨k + 1, by omega, by go_num, ?_⟩, by simp [intOf]; omega⟩
          rw [HST.out, place1, HI.out]
          exact HP.out.put (side := 2) HBX.out HOW.out hg1 (by omega) hjU _
      | none =>
        rw [hi] at hlook
        have hnin : s ∉ U.map Tr.id := idxB_none.1 hi
        have HI := Lib.hid hi
        have HNI := Lib.hid hnin
        clear hi hc0 hnin
        have hul : IntKind.i64.wrap (U.length : Int) = (U.length : Int) := IntWalk.i64_in _ (by omega)
        go_wp2_with fail
        go_cut [] (fun wx => ∃ U' : List Tr, U' = U ++ [newTr s] ∧ PS W0 wx U')
        case first =>
          have hbA := (Below.refl wr.heap.size wr).drew.alloc (Nat.le_refl _) (.cells #[.string s, .int .i64 (-1), .int .i64 (-1), .int .i64 (-1)] 44)
          have hlit : SlE Tr.enc 4 ((wr.drew).alloc (.cells #[.string s, .int .i64 (-1), .int .i64 (-1), .int .i64 (-1)] 44)) wr.heap.size (wr.heap.size + 1) (some ⟨wr.heap.size, 0, none⟩) [newTr s] := lit_sl (enc := Tr.enc) (size := 4) (l := [newTr s]) (t := 44) (fr := (0, 0)) Tr.enc_len (heap_alloc_new wr.drew _)
          obtain ⟨v', W', hrun, hown', hgr, hat⟩ := app_tr (c := 1) (own_below HOW.out hbA) hlit (by simp; omega) (by simp; omega)
          obtain ⟨U', hU'⟩ : ∃ U', U' = U ++ [newTr s] := ⟨_, rfl⟩
          rw [← hU'] at hown'
          obtain ⟨a', c', rfl⟩ := own_formT hown'
          have hrl : ∀ q, (Value.slice a U.length c).ownBlock = some q → W0.heap.size + 3 ≤ q ∧ q < wr.heap.size := HOW.out.lt
          have hm1 : MapIs (wr.drew.alloc (.cells #[.string s, .int .i64 (-1), .int .i64 (-1), .int .i64 (-1)] 44)) W0.heap.size (U.map Tr.id) := HP.out.map.kept (row := none) ⟨hbA.os, hbA.tape, hbA.output, hbA.size, fun k hk _ => hbA.block k hk⟩ (by simp)
          have hm2 := hm1.kept hgr (fun e => by have := hrl _ e.symm; omega)
          obtain ⟨W'', hrun2, hm3, hgr2⟩ := hm2.put s hss HNI.out (by simp; omega)
          rw [List.length_map] at hrun2
          have HU' := Lib.hid hU'
          have HOW' := Lib.hid hown'
          have HM3 := Lib.hid hm3
          have HG := Lib.hid hgr
          have HG2 := Lib.hid hgr2
          have hsA : (wr.drew.alloc (.cells #[.string s, .int .i64 (-1), .int .i64 (-1), .int .i64 (-1)] 44)).heap.size = wr.heap.size + 1 := World.size_alloc _ _
          have hsG := hgr.size
          have hn0' : ∀ q, q < wr.heap.size → (∀ k, (Value.slice a U.length c).ownBlock = some k → q ≠ k) → W'.heap[q]? = wr.heap[q]? := fun q h1 h2 =>
            (hgr.block q (by omega) (fun e => h2 q e.symm rfl)).trans (hbA.block q h1)
          have hn' : ∀ q, q < wr.heap.size → (∀ k, (Value.slice a U.length c).ownBlock = some k → q ≠ k) → q ≠ W0.heap.size → W''.heap[q]? = wr.heap[q]? := fun q h1 h2 h3 =>
            (hgr2.block q (by omega) (fun e => h3 (Option.some.inj e))).trans (hn0' q h1 h2)
          obtain ⟨n0, n1⟩ := one_cell ((hn0' (W0.heap.size + 1) hl1 (fun k hk => by have := hrl k hk; omega)).trans HP.out.box)
          have hlW : W0.heap.size + 1 < W'.heap.size := by omega
          have hbx2 := (hn' (W0.heap.size + 2) hl2 (fun k hk => by have := hrl k hk; omega) (by omega)).trans HBX.out
          have hbx1 := (hn' (W0.heap.size + 1) hl1 (fun k hk => by have := hrl k hk; omega) (by omega)).trans HP.out.box
          obtain ⟨t0, t1⟩ := one_cell hbx2
          have HPU := Lib.hid (HP.out.push HOW.out hbA hgr hown' hgr2 hm3 hU' hbx1 hbx2)
          clear hbA hlit hU' hown' hm1 hm2 hm3 hgr hgr2 hn0' hn' hbx2 hbx1 hat hrl hlook
          go_region_law (first
            | (refine st_append (s := .tmp 32) (x := .tmp 35) rfl rfl (hrun _) ?_; clear hrun))
          all_goals go_wp2_with fail
          all_goals go_meet
          all_goals exact ⟨U', HU'.out, HPU.out⟩
        case rest =>
          obtain ⟨U', hU', hps'⟩ := hcut
          have hjU : U.length < U'.length := by rw [hU']; simp
          have hmod : place1 side U s k = U'.modify U.length (fun t => t.put side k) := by rw [place1, HI.out, hU', modify_snoc]
          obtain ⟨a2, c2, hbx', hown'⟩ := hps'.row
          clear o0 o1 m0 m1 hlook
          obtain ⟨o0, o1⟩ := one_cell hbx'
          have hl3 : W0.heap.size + 2 < wc.heap.size := by
            rcases Nat.lt_or_ge (W0.heap.size + 2) wc.heap.size with h | h
            · exact h
            · rw [Array.getElem?_eq_none h] at hbx'; cases hbx'
          obtain ⟨g, c', hv, hg1, hg2⟩ := hown'.form (by omega)
          injection hv with hv1 hv2 hv3
          subst hv1
          have cc := fun (o : Nat) (ho : o < U'.length * 4) => hown'.cellAt o ho
          have c4 : ∀ q, q < 4 → ∃ u, wc.cell? ⟨g, U.length * 4 + q, none⟩ = some u := fun q hq => by
            rw [cc (U.length * 4 + q) (by omega)]
            exact ⟨_, List.getElem?_eq_getElem (by rw [flat_len Tr.enc_len]; omega)⟩
          obtain ⟨v1, w1'⟩ := c4 1 (by omega)
          obtain ⟨v2, w2'⟩ := c4 2 (by omega)
          obtain ⟨v3, w3'⟩ := c4 3 (by omega)
          have f1 := hown'.frozenAt (U.length * 4 + 1)
          have f2 := hown'.frozenAt (U.length * 4 + 2)
          have f3 := hown'.frozenAt (U.length * 4 + 3)
          have hj' : (U.length : Int) < (U'.length : Int) := by omega
          have HP' := Lib.hid hps'
          have HMO := Lib.hid hmod
          have HOW' := Lib.hid hown'
          have HBX' := Lib.hid hbx'
          clear cc c4 hps' hmod hown' hbx' hU'
          go_wp2_with fail
          have h3 : side = 0 ∨ side = 1 ∨ side = 2 := by omega
          rcases h3 with rfl | rfl | rfl
          · have hix := idx3_0
            go_region
            go_wp2_with fail
            refine ⟨⟨k + 1, by omega, by go_num, ?_⟩, by simp [intOf]; omega⟩
            rw [HST.out, HMO.out]
            exact HP'.out.put (side := 0) HBX'.out HOW'.out hg1 (by omega) hjU _
          · have hix := idx3_1
            go_region
            go_wp2_with fail
            refine ⟨⟨k + 1, by omega, by go_num, ?_⟩, by simp [intOf]; omega⟩
            rw [HST.out, HMO.out]
            exact HP'.out.put (side := 1) HBX'.out HOW'.out hg1 (by omega) hjU _
          · have hix := idx3_2
            go_region
            go_wp2_with fail
            refine ⟨⟨k + 1, by omega, by go_num, ?_⟩, by simp [intOf]; omega⟩
            rw [HST.out, HMO.out]
            exact HP'.out.put (side := 2) HBX'.out HOW'.out hg1 (by omega) hjU _
    · obtain rfl : k = r.ns.length := by omega
      have hge : ¬ (r.ns.length : Int) < (r.ns.length : Int) := by omega
      have HP := Lib.hid hps
      clear hps hwb
      go_wp2_with fail
      go_end0
      exact ⟨rfl, HP.out⟩
end Go.Proofs.YtcpdogjcofkpcaaGreatDoor

namespace Go.Proofs.YtcpdogjcofkpcaaGreatDoor
open Go.RowKit Go.Sort Go.Shelf

instance : Inhabited Tr := ⟨⟨⟨#[]⟩, 0, 0, 0⟩⟩
def cmpTr (a b : Tr) : Int := if Op.bytesLess a.id.toList b.id.toList = true then -1 else 1
set_option maxHeartbeats 1600000 in
theorem plan3_c (a b : Tr) (W : World) : Calls Tryz.prog 66 #[a.val, b.val] W fun e w' => e = .returned (.int .i64 (cmpTr a b)) ∧ ∃ q os, w' = grow (W.drewN q) os := by
  unfold cmpTr
  by_cases h : Op.bytesLess a.id.toList b.id.toList = true
  · rw [if_pos h]
    go_enter Tryz.func66, Tryz.ntmps66
    go_wp2_with fail
    go_ret
    exact ⟨rfl, 0, _, by rw [alloc_eq_grow, alloc_eq_grow, grow_grow]; rfl⟩
  · rw [if_neg h]
    have h' : Op.bytesLess a.id.toList b.id.toList = false := by simpa using h
    clear h
    go_enter Tryz.func66, Tryz.ntmps66
    go_wp2_with fail
    go_ret
    exact ⟨rfl, 0, _, by rw [alloc_eq_grow, alloc_eq_grow, grow_grow]; rfl⟩
theorem trLays (blk off size : Nat) (w : World) : CmpLays Tryz.prog 66 #[] Tr.enc 4 cmpTr blk off size w := fun _ _ _ _ a b => plan3_c a b _
theorem ltTr_iff (a b : Tr) : ltOf cmpTr a b = true ↔ a.id.toList < b.id.toList := by
  unfold ltOf cmpTr
  rw [bytesLess_eq, decide_eq_true_iff]
  by_cases h : a.id.toList < b.id.toList <;> simp [h]
theorem ltTr_not (a b : Tr) : ltOf cmpTr a b = false ↔ b.id.toList ≤ a.id.toList := by
  rw [← Bool.not_eq_true, ltTr_iff, List.not_lt]
theorem swoTr : SWO (ltOf cmpTr) where
  irrefl a := (ltTr_not a a).2 (List.le_refl _)
  trans a b c h1 h2 := (ltTr_iff a c).2 (List.lt_trans ((ltTr_iff a b).1 h1) ((ltTr_iff b c).1 h2))
  ntrans a b c h1 h2 := (ltTr_not a c).2 (List.le_trans ((ltTr_not b c).1 h2) ((ltTr_not a b).1 h1))
theorem isAggT : ∀ w, (isAgg (Tryz.sortT_ren.t 24)).run Tryz.prog w = .ok true w := fun w => by kernel_rfl
theorem sizeT : ∀ w, (Go.sizeOf (Tryz.sortT_ren.t 24)).run Tryz.prog w = .ok 4 w := fun w => by kernel_rfl
/-- slices.SortFunc of triples, from some triple of a block on. -/
theorem sortT_c (B off cap : Nat) (d : Array Tr) (w : World) (hH : HoldsK Tr.enc 4 w B off d) (hB : B < w.heap.size) (hsz : d.size ≤ 8388608) :
    Calls Tryz.prog 65 #[.slice (some ⟨B, off, none⟩) d.size cap, .func (.func 66) #[] #[]] w fun e w' => e = .returned (.tuple #[]) ∧
      ∃ d' : Array Tr, d'.toList.Perm d.toList ∧ d'.toList.Pairwise (fun a b => a.id.toList ≤ b.id.toList) ∧ HoldsK Tr.enc 4 w' B off d' ∧ w.grownBy w' (some B) ∧ (∀ o, o < off → w'.cell? ⟨B, o, none⟩ = w.cell? ⟨B, o, none⟩) ∧ ∀ o, w'.frozen? ⟨B, o, none⟩ = w.frozen? ⟨B, o, none⟩ := by
  have eg : ∀ args w, (callFunc 66 args).run Tryz.prog w = .ok (.enter 66 args) w := enters_of Tryz.func66 (by kernel_rfl) rfl
  have hcon := AnyQ.slices_SortFunc Tryz.sortT 4 isAggT sizeT Tr.enc (fun _ => rfl) (fun x v hv => by simp [Tr.enc] at hv; rcases hv with rfl | rfl | rfl | rfl <;> rfl) _ swoTr 66 #[] B off cap d w eg (trLays B off d.size w) hH hB (by omega)
  refine hcon.mono ?_
  rintro e w' ⟨rfl, d', n, os, ⟨hs, -, hp⟩, hso, rfl⟩
  have hH' := holdsK_sortWorldK_c Tr.enc 4 w B off d d' n os hH hB hs
  have hsize := size_sortWorldK_c Tr.enc 4 w B off n d' os
  refine ⟨rfl, d', ?_, ?_, hH', ⟨rfl, rfl, rfl, hsize, fun k hk hne => ?_⟩, fun o ho => ?_, fun o => ?_⟩
  · have e1 : d'.extract 0 d.size = d' := by rw [← hs]; exact Array.extract_size
    have e2 : d.extract 0 d.size = d := Array.extract_size
    rw [e1, e2] at hp
    exact hp
  · refine List.pairwise_iff_getElem.2 fun i j hi hj hij => ?_
    have := hso i j (Nat.zero_le _) hij (by simpa [hs] using hj)
    rw [getElem!_pos d' i (by simpa using hi), getElem!_pos d' j (by simpa using hj)] at this
    exact (ltTr_not _ _).1 this
  · unfold sortWorldK
    rw [heap_grow_old _ _ (by simpa [putRowK] using hk)]
    have : B ≠ k := fun e => hne (by rw [e])
    simp [putRowK, putRow, mapBlock, Sort.ahead, Array.getElem?_modify, this]
  · have hb : (sortWorldK Tr.enc 4 w B off n d' os).heap[B]? = (w.heap[B]?).map (onCells (putCells id off (flatK Tr.enc 4 d'))) := by
      unfold sortWorldK
      rw [heap_grow_old _ _ (by simpa [putRowK] using hB)]
      simp [putRowK, putRow, mapBlock, Sort.ahead, Array.getElem?_modify]
    simp only [World.cell?, hb]
    cases hc : w.heap[B]? with
    | none => rfl
    | some x =>
      have hno : ¬ off ≤ o := by omega
      cases x <;> simp [onCells, putCells, hno]
  · have hb : (sortWorldK Tr.enc 4 w B off n d' os).heap[B]? = (w.heap[B]?).map (onCells (putCells id off (flatK Tr.enc 4 d'))) := by
      unfold sortWorldK
      rw [heap_grow_old _ _ (by simpa [putRowK] using hB)]
      simp [putRowK, putRow, mapBlock, Sort.ahead, Array.getElem?_modify]
    simp only [World.frozen?, hb]
    cases hc : w.heap[B]? with
    | none => rfl
    | some x => cases x <;> simp [onCells]

/-- The row behind its first triples is sorted by names: the whole row, as it reads then. -/
theorem sort_row {w : World} {base g c : Nat} {T : List Tr} (h : OwnT w base (.slice (some ⟨g, 0, none⟩) T.length c) T) (n : Nat) (hn : n < T.length) (hT : T.length ≤ 8388608) :
    Calls Tryz.prog 65 #[.slice (some ⟨g, n * 4, none⟩) (T.length - n) (c - n), .func (.func 66) #[] #[]] w fun e w' => e = .returned (.tuple #[]) ∧
      ∃ S : List Tr, S.Perm (T.drop n) ∧ S.Pairwise (fun a b => a.id.toList ≤ b.id.toList) ∧ SlE Tr.enc 4 w' g (g + 1) (some ⟨g, 0, none⟩) (T.take n ++ S) ∧ w.grownBy w' (some g) ∧ ∀ o, w'.frozen? ⟨g, o, none⟩ = false := by
  obtain ⟨hg1, hg2⟩ := h.lt g rfl
  have hcell : ∀ o, o < T.length * 4 → w.cell? ⟨g, o, none⟩ = (T.flatMap Tr.enc)[o]? := fun o ho => h.cellAt o ho
  have hH : HoldsK Tr.enc 4 w g (n * 4) (T.drop n).toArray := fun j hj => by
    rw [size_flatK, List.size_toArray, List.length_drop] at hj
    refine ⟨?_, h.frozenAt _⟩
    rw [hcell _ (by omega), get_flatK _ _ _ _ (by simpa using hj)]
    have hd : j / 4 < T.length - n := (Nat.div_lt_iff_lt_mul (by omega)).2 hj
    have hm : j % 4 < 4 := Nat.mod_lt _ (by omega)
    have hx : T[n + j / 4]? = some (T[n + j / 4]'(by omega)) := List.getElem?_eq_getElem _
    rw [show n * 4 + j = (n + j / 4) * 4 + j % 4 by omega, flat_get Tr.enc_len T _ _ _ hx hm]
    rw [getElem!_pos (T.drop n).toArray (j / 4) (by simp; omega), List.getElem_toArray, List.getElem_drop, getElem!_pos _ (j % 4) hm]
    exact List.getElem?_eq_getElem _
  have hcon := sortT_c g (n * 4) (c - n) (T.drop n).toArray w hH hg2 (by simp; omega)
  rw [List.size_toArray, List.length_drop] at hcon
  refine hcon.mono ?_
  rintro e w' ⟨rfl, d', hp, hs, hH', hgr, hc, hfz⟩
  refine ⟨rfl, d'.toList, by simpa using hp, hs, fun _ => ⟨g, 0, rfl, Nat.le_refl _, by omega, Nat.lt_of_lt_of_le hg2 hgr.size, fun i x hx j u hu => ?_⟩, hgr, fun o => (hfz o).trans (h.frozenAt o)⟩
  have hj : j < 4 := by rw [← Tr.enc_len x]; exact (List.getElem?_eq_some_iff.1 hu).1
  have hl : (T.take n).length = n := by rw [List.length_take]; omega
  rw [Nat.zero_add]
  rcases Nat.lt_or_ge i n with hi | hi
  · rw [hc (i * 4 + j) (by omega), hcell _ (by omega), flat_get Tr.enc_len T i j x (by rw [List.getElem?_append_left (by omega), List.getElem?_take, if_pos hi] at hx; exact hx) hj, hu]
  · rw [List.getElem?_append_right (by omega), hl] at hx
    have hi2 : i - n < d'.size := by have := (List.getElem?_eq_some_iff.1 hx).1; simpa using this
    have := (hH'.cell hi2 hj).1
    rw [show i * 4 + j = n * 4 + (i - n) * 4 + j by omega, this]
    have ex : d'[i - n]! = x := by rw [getElem!_pos d' (i - n) hi2]; simpa [hi2] using hx
    rw [ex]
    have : (x.enc)[j]! = u := by rw [List.getElem!_eq_getElem?_getD, hu]; rfl
    rw [this]
end Go.Proofs.YtcpdogjcofkpcaaGreatDoor

namespace Go.Proofs.YtcpdogjcofkpcaaGreatDoor
open Go.RowKit Go.Sort

theorem name_size {s t : ByteArray} {v : Val} (h : nameOf s v = some t) : t.size ≤ 8 * v.w := by
  rw [nameOf] at h
  split at h
  · rename_i y hy
    split at h
    · cases h
      have h1 := Val.w_kid (get_mem hy).1
      have h2 : (textR y).length ≤ 8 * y.w := by
        unfold textR
        split
        · have := text_len 256 y; omega
        · simp
      have h3 : (⟨(textR y).toArray⟩ : ByteArray).size = (textR y).length := by simp [ByteArray.size]
      omega
    · cases h
  · cases h
theorem allSome_get {α : Type} : ∀ {l : List (Option α)} {m : List α}, allSome l = some m → l = m.map some
  | [], m, h => by simp [allSome] at h; subst h; rfl
  | none :: l, m, h => by simp [allSome] at h
  | some x :: l, m, h => by
    simp only [allSome] at h
    obtain ⟨k, hk, rfl⟩ := Option.map_eq_some_iff.1 h
    rw [allSome_get hk]; rfl
theorem namesP_get {s : ByteArray} {l : List Val} {ns : List ByteArray} (h : namesP s l = some ns) : l.map (nameOf s) = ns.map some ∧ ns.Nodup ∧ ns.length = l.length := by
  rw [namesP] at h
  split at h
  · rename_i ns' h'
    split at h
    · rename_i hn
      cases h
      have := allSome_get h'
      refine ⟨this, hn, ?_⟩
      have := congrArg List.length this
      simpa using this.symm
    · cases h
  · cases h
theorem names_size {s : ByteArray} {l : List Val} {ns : List ByteArray} (h : namesP s l = some ns) (hw : ∀ v ∈ l, v.w ≤ 1048576) : ∀ t ∈ ns, t.size ≤ Go.maxLen := fun t ht => by
  have h1 := (namesP_get h).1
  have h2 : some t ∈ l.map (nameOf s) := by rw [h1]; exact List.mem_map_of_mem ht
  obtain ⟨v, hv, e⟩ := List.mem_map.1 h2
  have := name_size e
  have := hw v hv
  unfold Go.maxLen; omega
theorem placeN_grow (side : Nat) (ns : List ByteArray) (T : List Tr) : ∀ k, T.length ≤ (placeN side ns T k).length
  | 0 => Nat.le_refl _
  | k + 1 => by
    have := placeN_grow side ns T k
    rw [placeN, place1]
    split <;> simp <;> omega
theorem place_new {side : Nat} {T : List Tr} {s : ByteArray} {i : Int} (h : s ∉ T.map Tr.id) : place1 side T s i = T ++ [(newTr s).put side i] := by
  rw [place1, idxB_none.2 h]
/-- Names that are all unlike, and none of them there, are laid in order. -/
theorem place_fresh (side : Nat) (ns : List ByteArray) (hn : ns.Nodup) : ∀ k, k ≤ ns.length → (placeN side ns [] k).map Tr.id = ns.take k
  | 0, _ => rfl
  | k + 1, hk => by
    have ih := place_fresh side ns hn k (by omega)
    have hg : ns.getD k ⟨#[]⟩ = ns[k] := by rw [List.getD_eq_getElem?_getD, List.getElem?_eq_getElem hk]; rfl
    have hnew : ns.getD k ⟨#[]⟩ ∉ (placeN side ns [] k).map Tr.id := by
      rw [ih, hg]
      intro hm
      obtain ⟨j, hj, e⟩ := List.mem_take_iff_getElem.1 hm
      have hne := (List.pairwise_iff_getElem.1 hn) j k (by omega) hk (by omega)
      exact hne e
    rw [placeN, place_new hnew, List.map_append, ih, List.take_add_one, List.getElem?_eq_getElem hk, hg]
    simp [Tr.put_id, newTr]
theorem base_len {ns : List ByteArray} (hn : ns.Nodup) : (placeN 0 ns [] ns.length).length = ns.length := by
  have := congrArg List.length (place_fresh 0 ns hn ns.length (Nat.le_refl _))
  rw [List.length_map, List.take_length] at this
  exact this
/-- All three lists placed, by whatever union. -/
def placed (u : Int) (xb xl xr : List ByteArray) : List Tr :=
  if u = 2 then placeN 1 xl (placeN 2 xr (placeN 0 xb [] xb.length) xr.length) xl.length else placeN 2 xr (placeN 1 xl (placeN 0 xb [] xb.length) xl.length) xr.length
theorem placed_len {u : Int} {xb xl xr : List ByteArray} (hn : xb.Nodup) : xb.length ≤ (placed u xb xl xr).length ∧ (placed u xb xl xr).length ≤ xb.length + xl.length + xr.length := by
  have h0 := base_len hn
  unfold placed
  split
  · have g1 := placeN_grow 2 xr (placeN 0 xb [] xb.length) xr.length
    have g2 := placeN_grow 1 xl (placeN 2 xr (placeN 0 xb [] xb.length) xr.length) xl.length
    have g3 := placeN_len 2 xr (placeN 0 xb [] xb.length) xr.length
    have g4 := placeN_len 1 xl (placeN 2 xr (placeN 0 xb [] xb.length) xr.length) xl.length
    omega
  · have g1 := placeN_grow 1 xl (placeN 0 xb [] xb.length) xl.length
    have g2 := placeN_grow 2 xr (placeN 1 xl (placeN 0 xb [] xb.length) xl.length) xr.length
    have g3 := placeN_len 1 xl (placeN 0 xb [] xb.length) xl.length
    have g4 := placeN_len 2 xr (placeN 1 xl (placeN 0 xb [] xb.length) xl.length) xr.length
    omega
/-- What Plan hands back, of names: placed, and what is new by names if the union is neither left's nor right's. -/
def PlanIs (u : Int) (xb xl xr : List ByteArray) (T : List Tr) : Prop :=
  if u = 1 ∨ u = 2 then T = placed u xb xl xr else ∃ S : List Tr, S.Perm ((placed u xb xl xr).drop xb.length) ∧ S.Pairwise (fun a b => a.id.toList ≤ b.id.toList) ∧ T = (placed u xb xl xr).take xb.length ++ S
end Go.Proofs.YtcpdogjcofkpcaaGreatDoor
