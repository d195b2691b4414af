/-
  keyeds.gather of lists of names, with Plan's first function: contracts. Conditions: the lists lie in memory, their weights are bounded; the table of short escapes holds what its initialiser lays.
  keyeds.gather of lists of names: contract. Conditions: the lists lie in memory, their weights are bounded; the table of short escapes holds what its initialiser lays.
  The map of places that keyeds.Plan keeps: a name's place in a list of names; rows of triples. Plain lemmas over the program's types; condition: names are no longer than a text may be.
-/
import Derived.Test.YtcpdogjcofkpcaaGreatDoorKC
import Derived.Test.YtcpdogjcofkpcaaGreatDoorMaps
import Derived.Maps.Own
import Derived.Maps.OwnOps
import Derived.Maps.OwnSet
import Derived.Maps.Views
namespace Go.Proofs.YtcpdogjcofkpcaaGreatDoor
open Go.RowKit Go.Sort

/-- A list of values, as it lies. -/
structure LA where
  a : Option Addr
  l : List AV
  c : Nat
def LA.enc (x : LA) : List Value := [.slice x.a x.l.length x.c]
def LA.v (x : LA) : List Val := x.l.map AV.v
/-- The list lies in memory, its length and its elements' weights are bounded. -/
structure LA.Rd (w : World) (x : LA) : Prop where
  sl : SlE AV.enc 4 w 0 w.heap.size x.a x.l
  len : x.l.length ≤ 1048576
  kids : ∀ y ∈ x.l, Go.Proofs.YtcpdogjcofkpcaaGreatDoor.Rd w y ∧ y.w ≤ 1048576
theorem LA.Rd.up {w w' : World} {x : LA} (h : x.Rd w) (hb : Below w.heap.size w w') : x.Rd w' := ⟨h.sl.up hb, h.len, fun y hy => ⟨(h.kids y hy).1.up hb, (h.kids y hy).2⟩⟩
/-- A list of texts with no room behind, as it lies. -/
structure SA where
  a : Option Addr
  ns : List ByteArray
def SA.enc (x : SA) : List Value := [.slice x.a x.ns.length x.ns.length]
theorem la_at {w : World} {lo hi : Nat} {a : Option Addr} {l : List LA} (h : SlE LA.enc 1 w lo hi a l) {k : Nat} {y : LA} (hk : l[k]? = some y) :
    ∃ b off, a = some ⟨b, off, none⟩ ∧ lo ≤ b ∧ b < hi ∧ b < w.heap.size ∧ w.cell? ⟨b, off + k, none⟩ = some (.slice y.a y.l.length y.c) := by
  have hl : k < l.length := (List.getElem?_eq_some_iff.1 hk).1
  obtain ⟨b, off, e, g1, g2, g3, g4⟩ := h (by omega)
  have c := g4 k y hk
  exact ⟨b, off, e, g1, g2, g3, by simpa using c 0 _ rfl⟩
theorem sa_at {w : World} {lo hi : Nat} {a : Option Addr} {l : List SA} (h : SlE SA.enc 1 w lo hi a l) {k : Nat} {y : SA} (hk : l[k]? = some y) :
    ∃ b off, a = some ⟨b, off, none⟩ ∧ lo ≤ b ∧ b < hi ∧ b < w.heap.size ∧ w.cell? ⟨b, off + k, none⟩ = some (.slice y.a y.ns.length y.ns.length) := by
  have hl : k < l.length := (List.getElem?_eq_some_iff.1 hk).1
  obtain ⟨b, off, e, g1, g2, g3, g4⟩ := h (by omega)
  have c := g4 k y hk
  exact ⟨b, off, e, g1, g2, g3, by simpa using c 0 _ rfl⟩

theorem info_row : (Tryz.prog.info? 37).map (fun i => (i.zero, i.size, i.bytes)) = some (some (.slice none 0 0), 1, 24) := by kernel_rfl
def OwnR (w : World) (base : Nat) (v : Value) (l : List SA) : Prop := w.ownsRow base 37 1 v l.length (l.flatMap SA.enc)
theorem app_row {w : World} {base : Nat} {v : Value} {l : List SA} (hown : OwnR w base v l) {lo hi : Nat} {A : Option Addr} {m : List SA} {c : Nat} (hr : SlE SA.enc 1 w lo hi A m) (hn : l.length + m.length ≤ 16777216) (hbase : base ≤ w.heap.size) :
    ∃ v' w', (∀ ty, (Builtin.append_ #[94, 94] ty #[v, .slice A m.length c]).run Tryz.prog w = .ok v' w') ∧ OwnR w' base v' (l ++ m) ∧ w.grownBy w' v.ownBlock ∧ (v'.ownBlock = v.ownBlock ∨ v'.ownBlock = some w.heap.size) := by
  obtain ⟨i0, hi0, hz0, hz1, hz2⟩ := info_parts info_row
  obtain ⟨v', w', h1, h2, h3, h4⟩ := run_append_sl (P := Tryz.prog) w SA.enc base 94 0 37 i0 _ 1 24 Tryz.underlying94 hi0 hz0 hz1 hz2 rfl (by omega) (by omega) v l.length _ hown lo hi A m c hr (fun _ => rfl) (fun x u hu => by simp [SA.enc] at hu; subst hu; rfl) hn hbase
  exact ⟨v', w', fun ty => h1, by simp only [OwnR, List.length_append, List.flatMap_append]; exact h2, h3, h4⟩
theorem own_formR {w : World} {base : Nat} {v : Value} {l : List SA} (h : OwnR w base v l) : ∃ a c, v = .slice a l.length c := by
  rcases h.2 with ⟨e, h0⟩ | ⟨g, cap, cur, e, _⟩
  · exact ⟨none, 0, by rw [e, h0]⟩
  · exact ⟨_, _, e⟩

set_option maxRecDepth 100000 in
set_option maxHeartbeats 3200000 in
theorem plan1_c (x : LA) (p : Nat) (s : ByteArray) (w : World) (hx : x.Rd w) (hp : w.cell? ⟨p, 2, none⟩ = some (.string s)) (hS : Shorts w) :
    Calls Tryz.prog 63 #[.slice x.a x.l.length x.c, .pointer (some ⟨p, 0, none⟩)] w (NamesPost (namesP s x.v) w) := by
  have hpl : p < w.heap.size := World.block_lt_of_cell? w ⟨p, 2, none⟩ hp
  have HN := Lib.hid (names_c w x.a x.c x.l hx.sl hx.len hx.kids s hS)
  go_enter Tryz.func63, Tryz.ntmps63
  go_wp2_with (go_at_call 16; refine HN.out.mono ?_; rintro e w1 (⟨ns, A, ho, rfl, hsl, hb⟩ | ⟨ho, rfl, hb⟩))
  · refine bodyPost_ret (v := .tuple #[.slice A ns.length ns.length, .bool true]) (by simp [results, Tryz.results63, go_sem]) rfl (.inl ⟨ns, A, ho, rfl, hsl, hb⟩)
  · refine bodyPost_ret (v := .tuple #[.slice none 0 0, .bool false]) (by simp [results, Tryz.results63, go_sem]) rfl (.inr ⟨ho, rfl, hb⟩)
end Go.Proofs.YtcpdogjcofkpcaaGreatDoor

namespace Go.Proofs.YtcpdogjcofkpcaaGreatDoor
open Go.RowKit Go.Sort

/-- What gather of the lists hands back. -/
def GlPost (os : List (Option (List ByteArray))) (w : World) (e : Ending) (w' : World) : Prop :=
  (∃ (R : List SA) (A : Option Addr) (c : Nat), os = R.map (fun r => some r.ns) ∧ e = .returned (.tuple #[.slice A R.length c, .bool true]) ∧ SlE SA.enc 1 w' w.heap.size w'.heap.size A R ∧ (∀ r ∈ R, SlE strE 1 w' 0 w'.heap.size r.a r.ns) ∧ Below w.heap.size w w') ∨
  (none ∈ os ∧ e = .returned (.tuple #[.slice none 0 0, .bool false]) ∧ Below w.heap.size w w')

set_option maxRecDepth 100000 in
set_option maxHeartbeats 3200000 in
theorem gather_l (w : World) (A0 : Option Addr) (cap : Nat) (l : List LA) (h : SlE LA.enc 1 w 0 w.heap.size A0 l) (hl : l.length ≤ 1048576) (hkw : ∀ y ∈ l, y.Rd w) (p : Nat) (s : ByteArray) (hp : w.cell? ⟨p, 2, none⟩ = some (.string s)) (hS : Shorts w) :
    Calls Tryz.prog 62 #[.slice A0 l.length cap, .func (.func 63) #[] #[.pointer (some ⟨p, 0, none⟩)]] w (GlPost (l.map fun y => namesP s y.v) w) := by
  have hpl : p < w.heap.size := World.block_lt_of_cell? w ⟨p, 2, none⟩ hp
  have HN := fun (y : LA) (hy : y ∈ l) (W : World) (hb : Below w.heap.size w W) => Lib.hid (plan1_c y p s W ((hkw y hy).up hb) ((hb.cell (p := ⟨p, 2, none⟩) hpl).trans hp) (hS.below hb))
  obtain ⟨i0, hi, hz0, hz1, hz2⟩ := info_parts info_row
  obtain ⟨w0, hmk, hown0, hgr0⟩ := run_make_own (P := Tryz.prog) w w.heap.size 94 37 i0 _ 1 Tryz.underlying94 hi hz0 hz1 .i64 .i64 l.length (by rw [hz2]; omega) (by simp only [maxLen]; omega) (Nat.le_refl _)
  have hb0 : Below w.heap.size w w0 := (Below.refl _ _).grown hgr0 (Nat.le_refl _) (fun k hk => by cases hk)
  have HO0 := Lib.hid (show OwnR w0 w.heap.size (.slice (some ⟨w.heap.size, 0, none⟩) ([] : List SA).length l.length) [] from hown0)
  have H := Lib.hid h
  clear hp hi hz0 hz1 hz2 hown0 hgr0 h hkw
  go_enter Tryz.func62, Tryz.ntmps62
  go_wp2_with fail
  clear hmk
  go_loopw [6, 8, 9, 10, 16] (fun s6 _ _ _ i wr => ∃ (m : Nat) (R : List SA) (a : Option Addr) (c : Nat), m ≤ l.length ∧ i = .int .i64 m ∧ R.length = m ∧ (l.take m).map (fun y => namesP s y.v) = R.map (fun r => some r.ns) ∧ s6 = .slice a R.length c ∧ OwnR wr w.heap.size (.slice a R.length c) R ∧ (∀ r ∈ R, ∃ lo hi, SlE strE 1 wr lo hi r.a r.ns ∧ w.heap.size ≤ lo ∧ hi ≤ wr.heap.size ∧ (∀ q, (Value.slice a R.length c).ownBlock = some q → ¬ (lo ≤ q ∧ q < hi))) ∧ Below w.heap.size w wr) (fun _ _ _ _ i _ => l.length - (intOf i).toNat)
  case atStart => exact ⟨0, [], some ⟨w.heap.size, 0, none⟩, l.length, Nat.zero_le _, rfl, rfl, rfl, rfl, HO0.out, fun r hr => absurd hr List.not_mem_nil, hb0⟩
  case round =>
    obtain ⟨m, R, a, c, hml, rfl, hnl, hns, rfl, hown, hRr, hbw⟩ := hrel
    have HNL := Lib.hid hnl
    have HNS := Lib.hid hns
    have HOW := Lib.hid hown
    have HRR := Lib.hid hRr
    have HBW := Lib.hid hbw
    have hsz := hbw.size
    clear hnl hns hown hRr hbw HO0 hb0
    by_cases hlt : m < l.length
    · have hk : l[m]? = some l[m] := List.getElem?_eq_getElem hlt
      have hmem : l[m] ∈ l := List.getElem_mem hlt
      generalize l[m] = y at *
      obtain ⟨b, off, hla, -, hb1, hb2, h0⟩ := la_at H.out hk
      rw [← HBW.out.cell (p := ⟨_, _, none⟩) hb2] at h0
      have hbb : b < wr.heap.size := Nat.lt_of_lt_of_le hb2 HBW.out.size
      have hlt' : (m : Int) < (l.length : Int) := by omega
      have HK := Lib.hid hk
      rw [hla]
      cases ho : namesP s y.v with
      | none =>
        have HC := fun W h => Lib.hid (show Calls Tryz.prog 63 #[.slice y.a y.l.length y.c, .pointer (some ⟨p, 0, none⟩)] W (fun e w' => e = .returned (.tuple #[.slice none 0 0, .bool false]) ∧ Below W.heap.size W w') by
          have := (HN y hmem W h).out
          rw [ho] at this
          exact this.mono fun e w' hh => by
            rcases hh with ⟨ns, A, h1, _⟩ | ⟨_, h2, h3⟩
            · cases h1
            · exact ⟨h2, h3⟩)
        have HO := Lib.hid ho
        have HMM := Lib.hid hmem
        clear hk hmem ho HN hla
        go_wp2_with (go_at_call 63; refine (HC _ HBW.out).out.mono ?_; rintro e w2 ⟨rfl, hb⟩)
        refine bodyPost_ret (v := .tuple #[.slice none 0 0, .bool false]) (by simp [results, Tryz.results62, go_sem]) rfl (.inr ⟨List.mem_map.2 ⟨y, HMM.out, HO.out⟩, rfl, below_via HBW.out hb⟩)
      | some u =>
        have HC := fun W h => Lib.hid (show Calls Tryz.prog 63 #[.slice y.a y.l.length y.c, .pointer (some ⟨p, 0, none⟩)] W (fun e w' => ∃ A, e = .returned (.tuple #[.slice A u.length u.length, .bool true]) ∧ SlE strE 1 w' W.heap.size w'.heap.size A u ∧ Below W.heap.size W w') by
          have := (HN y hmem W h).out
          rw [ho] at this
          exact this.mono fun e w' hh => by
            rcases hh with ⟨ns, A, h1, h2, h3, h4⟩ | ⟨h1, _⟩
            · cases h1; exact ⟨A, h2, h3, h4⟩
            · cases h1)
        have HO := Lib.hid ho
        clear hk hmem ho HN hla
        go_wp2_with (first
          | (go_at_call 63; refine (HC _ HBW.out).out.mono ?_; rintro e w2 ⟨A, rfl, hsl, hb⟩
             have hsz2 := hb.size
             have hlit : SlE SA.enc 1 (w2.alloc (.cells #[.slice A u.length u.length] 37)) w2.heap.size (w2.heap.size + 1) (some ⟨w2.heap.size, 0, none⟩) [⟨A, u⟩] := lit_sl (enc := SA.enc) (size := 1) (l := [⟨A, u⟩]) (t := 37) (fr := (0, 0)) (fun _ => rfl) (heap_alloc_new _ _)
             obtain ⟨v', W', hrun, hown', hgr, hat⟩ := app_row (c := 1) (own_below (own_below HOW.out hb) ((Below.refl _ _).alloc (Nat.le_refl _) _)) hlit (by have := HNL.out; simp; omega) (by simp; omega)
             obtain ⟨R', hR'⟩ : ∃ R', R' = R ++ [⟨A, u⟩] := ⟨_, rfl⟩
             rw [← hR'] at hown'
             have HR' := Lib.hid hR'
             clear hR'
             obtain ⟨a', c', rfl⟩ := own_formR hown'
             have HOW' := Lib.hid hown'
             have HSL := Lib.hid hsl
             clear hown' hlit hsl)
          | (at_builtin; refine wl_append (s := .tmp 28) (x := .tmp 30) rfl rfl (hrun _) ?_; clear hrun))
        have hgl : ∀ q, (Value.slice a R.length c).ownBlock = some q → w.heap.size ≤ q ∧ q < wr.heap.size := HOW.out.lt
        have hss := hgr.size
        rw [World.size_alloc] at hss
        refine ⟨⟨m + 1, R', a', c', by omega, by go_num, by rw [HR'.out]; simp [HNL.out], ?_, rfl, HOW'.out, ?_, ?_⟩, by simp [intOf]; omega⟩
        · rw [List.take_add_one, HK.out, List.map_append, HNS.out, HR'.out]; simp [HO.out]
        · have hblk : ∀ q, q < w2.heap.size → (∀ g, (Value.slice a R.length c).ownBlock = some g → q ≠ g) → W'.heap[q]? = w2.heap[q]? := fun q hq hne =>
            (hgr.block q (by simp; omega) (fun e => hne q e.symm rfl)).trans (heap_alloc_old _ _ _ hq)
          have hnew : ∀ q, (Value.slice a' R'.length c').ownBlock = some q → (Value.slice a R.length c).ownBlock = some q ∨ q = w2.heap.size + 1 := fun q hq => by
            rcases hat with e | e
            · exact .inl (by rw [← e]; exact hq)
            · rw [e] at hq; injection hq with hq; rw [World.size_alloc] at hq; exact .inr hq.symm
          have key : ∀ (r : SA) lo hi, SlE strE 1 w2 lo hi r.a r.ns → w.heap.size ≤ lo → hi ≤ w2.heap.size → (∀ q, (Value.slice a R.length c).ownBlock = some q → ¬ (lo ≤ q ∧ q < hi)) → ∃ lo hi, SlE strE 1 W' lo hi r.a r.ns ∧ w.heap.size ≤ lo ∧ hi ≤ W'.heap.size ∧ (∀ q, (Value.slice a' R'.length c').ownBlock = some q → ¬ (lo ≤ q ∧ q < hi)) := fun r lo hi h1 h2 h3 h4 => by
            refine ⟨lo, hi, h1.keep (by omega) (fun q q1 q2 q3 => hblk q q3 fun g hg e => h4 g hg ⟨by omega, by omega⟩), h2, by omega, fun q hq hc => ?_⟩
            rcases hnew q hq with e | e
            · exact h4 q e hc
            · omega
          intro r hr
          rw [HR'.out] at hr
          rcases List.mem_append.1 hr with hr | hr
          · obtain ⟨lo, hi, h1, h2, h3, h4⟩ := HRR.out r hr
            exact key r lo hi (h1.below hb h3) h2 (by omega) h4
          · simp at hr; subst hr
            exact key _ wr.heap.size w2.heap.size HSL.out hsz (Nat.le_refl _) fun q hq hc => by have := hgl q hq; omega
        · exact ((below_via HBW.out hb).trans ((Below.refl _ _).alloc (by omega) _)).grown hgr (by simp; omega) (fun q hq => (hgl q hq).1)
    · obtain rfl : m = l.length := by omega
      have hge : ¬ (l.length : Int) < (l.length : Int) := by omega
      go_wp2_with fail
      refine bodyPost_ret (v := .tuple #[.slice a R.length c, .bool true]) (by simp [results, Tryz.results62, go_sem]) rfl (.inl ⟨R, a, c, by rw [← HNS.out, List.take_length], rfl, (own_sl (enc := SA.enc) (size := 1) (fun _ => rfl) HOW.out), fun r hr => ?_, HBW.out⟩)
      obtain ⟨lo, hi, h1, h2, h3, -⟩ := HRR.out r hr
      exact h1.widen (Nat.zero_le _) h3
end Go.Proofs.YtcpdogjcofkpcaaGreatDoor

namespace Go.Proofs.YtcpdogjcofkpcaaGreatDoor
open Go.RowKit Go.Sort

theorem mapZero (w : World) : (zeroValue 3).run Tryz.prog w = .ok (.int .i64 0) w := by kernel_rfl
theorem idxB_snoc_new {ids : List ByteArray} {s : ByteArray} (h : s ∉ ids) : idxB (ids ++ [s]) s = some ids.length := by
  induction ids with
  | nil => simp [idxB]
  | cons t ids ih =>
    simp only [List.mem_cons, not_or] at h
    simp only [List.cons_append, idxB, if_neg (Ne.symm h.1), ih h.2, Option.map_some, List.length_cons]
theorem idxB_snoc_old {ids : List ByteArray} {s t : ByteArray} (h : t ≠ s) : idxB (ids ++ [s]) t = idxB ids t := by
  induction ids with
  | nil => simp [idxB, Ne.symm h]
  | cons u ids ih => simp only [List.cons_append, idxB, ih]

/-- Block B is a map that tells each name's place in the list. -/
def MapIs (w : World) (B : Nat) (ids : List ByteArray) : Prop :=
  ∃ (n : Nat) (D : DataW Unit), w.ownsMap Tryz.prog 9 (plainElem Tryz.prog 3) B n D ∧ n ≤ ids.length ∧
    ∀ s : ByteArray, s.size ≤ Go.maxLen → Maps.has D (keyLit s) = (idxB ids s).isSome ∧ ∀ i, idxB ids s = some i → D.atKey (keyLit s) (.lit (.int .i64 0)) = .lit (.int .i64 (i : Nat))
theorem MapIs.made (w : World) : MapIs (w.alloc (.map #[] 0)) w.heap.size [] :=
  ⟨0, .map [], World.ownsMap_made _ _ _ _, Nat.le_refl _, fun s _ => ⟨rfl, fun i h => by simp [idxB] at h⟩⟩
theorem MapIs.kept {w w' : World} {B : Nat} {ids : List ByteArray} {row : Option Nat} (h : MapIs w B ids) (hg : w.grownBy w' row) (hne : some B ≠ row) : MapIs w' B ids := by
  obtain ⟨n, D, h1, h2, h3⟩ := h
  exact ⟨n, D, h1.kept hg hne, h2, h3⟩
theorem MapIs.lt {w : World} {B : Nat} {ids : List ByteArray} (h : MapIs w B ids) : B < w.heap.size := by
  obtain ⟨n, D, h1, -⟩ := h
  exact h1.lt
theorem MapIs.look {w : World} {B : Nat} {ids : List ByteArray} (h : MapIs w B ids) (s : ByteArray) (hs : s.size ≤ Go.maxLen) :
    ∃ c : Int, (Instr.lookup 98 (.map (some B)) (.string s) true).run Tryz.prog w = .ok (.tuple #[.int .i64 c, .bool (idxB ids s).isSome]) w ∧ ∀ i, idxB ids s = some i → c = (i : Nat) := by
  obtain ⟨n, D, h1, h2, h3⟩ := h
  obtain ⟨e1, e2⟩ := h3 s hs
  obtain ⟨v, ps, hrun, hv⟩ := h1.look_ok mapLaw Tryz.underlying98 (mapZero w) (plainElem_int Tryz.underlying3 (by decide)) (WideMaps.keyOf_string_mk Tryz.underlying9 hs)
  obtain ⟨c, rfl, hc, -⟩ := plainElem_int_inv Tryz.underlying3 hv
  refine ⟨c, by rw [hrun, e1], fun i hi => ?_⟩
  have := congrArg Prod.fst hc
  simp only at this
  rw [e2 i hi] at this
  cases this
  rfl
theorem MapIs.put {w : World} {B : Nat} {ids : List ByteArray} (h : MapIs w B ids) (s : ByteArray) (hs : s.size ≤ Go.maxLen) (hn : s ∉ ids) (hl : ids.length < 1073741824) :
    ∃ w', (Instr.mapUpdate 98 (.map (some B)) (.string s) (.int .i64 ids.length)).run Tryz.prog w = .ok () w' ∧ MapIs w' B (ids ++ [s]) ∧ w.grownBy w' (some B) := by
  obtain ⟨n, D, h1, h2, h3⟩ := h
  have hm := h1.isMap
  obtain ⟨w', hrun, hown, hg⟩ := h1.update mapLaw Tryz.underlying98 (by unfold Go.maxLen; omega) (WideMaps.keyOf_string_mk Tryz.underlying9 hs) (plainElem_int (a := (ids.length : Int)) Tryz.underlying3 (by simp [Lit.wf, IntKind.min, IntKind.max, IntKind.signed, IntKind.bits]; omega))
  refine ⟨w', hrun, ⟨n + 1, _, hown, by simp; omega, fun t ht => ?_⟩, hg⟩
  by_cases e : t = s
  · subst e
    rw [idxB_snoc_new hn]
    refine ⟨Maps.has_put_same hm (by trivial) _, fun i hi => ?_⟩
    cases hi
    exact Maps.atKey_put_same hm (by trivial) _ _
  · have hne : keyLit t ≠ keyLit s := fun h => e (keyLit_inj h)
    rw [idxB_snoc_old e]
    obtain ⟨e1, e2⟩ := h3 t ht
    exact ⟨by rw [Maps.has_put_other hne]; exact e1, fun i hi => by rw [Maps.atKey_put_other hne]; exact e2 i hi⟩

/-- A triple, as it lies. -/
structure Tr where
  id : ByteArray
  b : Int
  l : Int
  r : Int
def Tr.enc (t : Tr) : List Value := [.string t.id, .int .i64 t.b, .int .i64 t.l, .int .i64 t.r]
abbrev Tr.val (t : Tr) : Value := .agg #[.string t.id, .int .i64 t.b, .int .i64 t.l, .int .i64 t.r]
theorem Tr.enc_len (t : Tr) : t.enc.length = 4 := rfl
theorem info_tr : (Tryz.prog.info? 44).map (fun i => (i.zero, i.size, i.bytes)) = some (some (.agg #[.string ⟨#[]⟩, .int .i64 0, .int .i64 0, .int .i64 0]), 4, 40) := by kernel_rfl
def OwnT (w : World) (base : Nat) (v : Value) (l : List Tr) : Prop := w.ownsRow base 44 4 v l.length (l.flatMap Tr.enc)
theorem app_tr {w : World} {base : Nat} {v : Value} {l : List Tr} (hown : OwnT w base v l) {lo hi : Nat} {A : Option Addr} {m : List Tr} {c : Nat} (hr : SlE Tr.enc 4 w lo hi A m) (hn : l.length + m.length ≤ 16777216) (hbase : base ≤ w.heap.size) :
    ∃ v' w', (∀ ty, (Builtin.append_ #[31, 31] ty #[v, .slice A m.length c]).run Tryz.prog w = .ok v' w') ∧ OwnT w' base v' (l ++ m) ∧ w.grownBy w' v.ownBlock ∧ (v'.ownBlock = v.ownBlock ∨ v'.ownBlock = some w.heap.size) := by
  obtain ⟨i0, hi0, hz0, hz1, hz2⟩ := info_parts info_tr
  obtain ⟨v', w', h1, h2, h3, h4⟩ := run_append_sl (P := Tryz.prog) w Tr.enc base 31 0 44 i0 _ 4 40 Tryz.underlying31 hi0 hz0 hz1 hz2 rfl (by omega) (by omega) v l.length _ hown lo hi A m c hr Tr.enc_len (fun x u hu => by simp [Tr.enc] at hu; rcases hu with rfl | rfl | rfl | rfl <;> rfl) hn hbase
  exact ⟨v', w', fun ty => h1, by simp only [OwnT, List.length_append, List.flatMap_append]; exact h2, h3, h4⟩
theorem own_formT {w : World} {base : Nat} {v : Value} {l : List Tr} (h : OwnT w base v l) : ∃ a c, v = .slice a l.length c := by
  rcases h.2 with ⟨e, h0⟩ | ⟨g, cap, cur, e, _⟩
  · exact ⟨none, 0, by rw [e, h0]⟩
  · exact ⟨_, _, e⟩
def Tr.put (side : Nat) (t : Tr) (i : Int) : Tr := if side = 0 then { t with b := i } else if side = 1 then { t with l := i } else { t with r := i }
theorem Tr.put_id (side : Nat) (t : Tr) (i : Int) : (t.put side i).id = t.id := by unfold Tr.put; split; rfl; split <;> rfl
/-- One cell of a triple is another one. -/
theorem flat_put (side : Nat) (hs : side < 3) (i : Int) : ∀ (l : List Tr) (j : Nat), j < l.length → (l.flatMap Tr.enc).set (j * 4 + (side + 1)) (.int .i64 i) = (l.modify j fun t => t.put side i).flatMap Tr.enc
  | [], j, h => by simp at h
  | t :: l, 0, _ => by
    have h3 : side = 0 ∨ side = 1 ∨ side = 2 := by omega
    rcases h3 with rfl | rfl | rfl <;> rfl
  | t :: l, j + 1, h => by
    have ih := flat_put side hs i l j (by simpa using h)
    have e : ∀ (a : Tr) (r : List Tr), (a :: r).flatMap Tr.enc = .string a.id :: .int .i64 a.b :: .int .i64 a.l :: .int .i64 a.r :: r.flatMap Tr.enc := fun a r => rfl
    have e2 : (t :: l).modify (j + 1) (fun t => t.put side i) = t :: l.modify j fun t => t.put side i := rfl
    rw [e2, e, e, ← ih, show (j + 1) * 4 + (side + 1) = j * 4 + (side + 1) + 1 + 1 + 1 + 1 from by omega]
    simp only [List.set_cons_succ]
theorem OwnT.put {w : World} {base g c : Nat} {l : List Tr} (h : OwnT w base (.slice (some ⟨g, 0, none⟩) l.length c) l) {side j : Nat} (hs : side < 3) (hj : j < l.length) (i : Int) :
    OwnT (w.setCell ⟨g, j * 4 + (side + 1), none⟩ (.int .i64 i)) base (.slice (some ⟨g, 0, none⟩) (l.modify j fun t => t.put side i).length c) (l.modify j fun t => t.put side i) := by
  have := (World.ownsRow.stored h (j * 4 + (side + 1)) (.int .i64 i)).1
  rw [flat_put side hs i l j hj] at this
  unfold OwnT
  rw [List.length_modify]
  exact this
end Go.Proofs.YtcpdogjcofkpcaaGreatDoor
