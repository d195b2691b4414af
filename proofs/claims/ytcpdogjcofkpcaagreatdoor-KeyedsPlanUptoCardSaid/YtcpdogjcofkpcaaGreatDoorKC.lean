/-
  keyeds.Names's own function and gather of names: contracts. Conditions: the values lie in memory, their weights are bounded; the table of short escapes holds what its initialiser lays.
  keyeds.gather of names: contract. Conditions: the values lie in memory, their weights are bounded; the table of short escapes holds what its initialiser lays.
  keyeds.Names: contract. Conditions: the values lie in memory, their weights are bounded; the table of short escapes holds what its initialiser lays.
-/
import Derived.Test.YtcpdogjcofkpcaaGreatDoorVU
import Derived.Test.YtcpdogjcofkpcaaGreatDoorVJ
import Derived.Deep.QuietTactic
import Derived.BigQuiet
namespace Go.Proofs.YtcpdogjcofkpcaaGreatDoor
open Go.RowKit Go.Sort Go.BigFrame

/-- A region that draws its order, whose operations only read, and whose callees hand back one value and make memory at most: one walk, in the order of the text. -/
theorem wp_region_bl {P : Program} {id : Nat} {Q : Exit → Act → World → Prop} {a : Act} {w : World} {l : List Oper} (hm : P.follows .mixedOrders = true) (hB : Region.lexB .any l.toArray = true)
    (h : wpQuiet P l.toArray (fun w' => Below w.heap.size w w') (fun a' => ∀ w', Below w.heap.size w w' → Q .normal a' w') l a) : (Code.region id l.toArray true).wp P Q a w :=
  wp_region_quiet (C := fun w' => Below w.heap.size w w') hm hB ((Below.refl _ _).drew) (by simpa using h)

/-- A keyed element's name. -/
def nameOf (s : ByteArray) (v : Val) : Option ByteArray := match v.get s with | some y => if y.k < 7 then some ⟨(textR y).toArray⟩ else none | none => none
def NPost (o : Option ByteArray) (w : World) (e : Ending) (w' : World) : Prop := ∃ t, e = .returned (.tuple #[.string t, .bool o.isSome]) ∧ (∀ u, o = some u → t = u) ∧ Below w.heap.size w w'
def GetSome (v : Val) (w : World) (e : Ending) (w' : World) : Prop := ∃ z : AV, e = .returned (.tuple #[z.val, .bool true]) ∧ z.v = v ∧ z.In w' w.heap.size w'.heap.size ∧ Below w.heap.size w w'
def GetNone (w : World) (e : Ending) (w' : World) : Prop := e = .returned (.tuple #[zAV.val, .bool false]) ∧ Below w.heap.size w w'
theorem get_some_c {x : AV} {s : ByteArray} {v : Val} (h : x.v.get s = some v) (w : World) (hx : Rd w x) (hw : x.w ≤ 1048576) : Calls Tryz.prog 44 #[x.val, .string s] w (GetSome v w) := by
  refine (get_c x s w hx hw).mono ?_
  rintro e w' ⟨z, rfl, h1, h2, h3, h4⟩
  exact ⟨z, by rw [h]; rfl, h1 v h, h3, h4⟩
theorem get_none_c {x : AV} {s : ByteArray} (h : x.v.get s = none) (w : World) (hx : Rd w x) (hw : x.w ≤ 1048576) : Calls Tryz.prog 44 #[x.val, .string s] w (GetNone w) := by
  refine (get_c x s w hx hw).mono ?_
  rintro e w' ⟨z, rfl, h1, h2, h3, h4⟩
  exact ⟨by rw [h, h2 h]; rfl, h4⟩
theorem S.bl {N : Nat} {W2 w' : World} (h : (∀ b o, b < N → w'.cell? ⟨b, o, none⟩ = W2.cell? ⟨b, o, none⟩) ∧ Below N W2 w') : Below N W2 w' := h.2

set_option maxRecDepth 100000 in
set_option maxHeartbeats 3200000 in
theorem names1_c (x : AV) (p : Nat) (s : ByteArray) (w : World) (hx : Rd w x) (hw : x.w ≤ 1048576) (hS : Shorts w) (hp : w.cell? ⟨p, 0, none⟩ = some (.string s)) :
    Calls Tryz.prog 70 #[x.val, .pointer (some ⟨p, 0, none⟩)] w (NPost (nameOf s x.v) w) := by
  have hpl : p < w.heap.size := World.block_lt_of_cell? w ⟨p, 0, none⟩ hp
  have hb0 := fun o => (Below.refl w.heap.size w).alloc (Nat.le_refl _) o
  have hp' := fun o => ((hb0 o).cell (p := ⟨p, 0, none⟩) hpl).trans hp
  clear hp
  cases hg : x.v.get s with
  | none =>
    have HN := Lib.hid (show nameOf s x.v = none by rw [nameOf, hg])
    have HG := fun W (hb : Below w.heap.size w W) => Lib.hid (get_none_c hg W (hx.up hb) hw)
    go_enter Tryz.func70, Tryz.ntmps70
    go_wp2_with (first
      | (go_at_call 44; refine (HG _ (hb0 _)).out.mono ?_; rintro e w1 ⟨rfl, hb1⟩))
    go_name_world W2 hW2
    have hb2 : Below w1.heap.size w1 W2 := by rw [← hW2]; exact (Below.refl _ _).alloc (Nat.le_refl _) _
    have hz2' : w1.heap.size + 1 = W2.heap.size := by rw [← hW2]; simp
    have hbx := (show W2.heap[w1.heap.size]? = some (.cells #[.int .u8 zAV.k, .string zAV.t, .slice zAV.la zAV.l.length zAV.lc, .slice zAV.ka zAV.ks.length zAV.kc] 48 (0, 0)) by rw [← hW2]; exact heap_alloc_new w1 _)
    clear hW2
    have hs1 := hb1.size
    have hw2 : Below w.heap.size w W2 := (hb0 _).trans ((hb1.mono (by simp)).trans (hb2.mono (by simp at hs1; omega)))
    have hz : Rd W2 zAV := ⟨SlE.nil, SlE.nil, by simp [zAV], fun y hy => absurd hy List.not_mem_nil⟩
    have HT := fun W (hb : Below W2.heap.size W2 W) => Lib.hid (text_c zAV W (hz.up hb) (by show Val.w _ ≤ _; rw [zAV, AV.v_eq, Val.w_eq]; decide) ((hS.below hw2).below hb))
    obtain ⟨q0, q1, q2, q3, -, -, -, -⟩ := vbox4 hbx
    have hN2 : W2.heap.size ≤ W2.heap.size := Nat.le_refl _
    have hl2 : w1.heap.size < W2.heap.size := by omega
    have HW2 := Lib.hid hw2
    clear hbx hz hb2 hw2 hb1 hz2'
    refine wp_region_bl (by kernel_rfl) (by kernel_rfl) ?_
    go_big_quiet_want
    go_big_quiet_op
    refine ⟨zAV.val, fun w' hC => ?_, ?_⟩
    · have c0 := (hC.cell (p := ⟨w1.heap.size, 0, none⟩) hl2).trans q0
      have c1 := (hC.cell (p := ⟨w1.heap.size, 1, none⟩) hl2).trans q1
      have c2 := (hC.cell (p := ⟨w1.heap.size, 2, none⟩) hl2).trans q2
      have c3 := (hC.cell (p := ⟨w1.heap.size, 3, none⟩) hl2).trans q3
      simp only [c0, c1, c2, c3, Result.andThen]
      exact ⟨trivial, trivial⟩
    go_big_quiet_on
    go_big_quiet_want
    go_big_quiet_op
    apply Exists.intro
    refine ⟨fun w' hC => ?_, ?_⟩
    · exact (HT _ hC).out.mono fun e w2 ⟨he, hb⟩ => ⟨he, hC.trans (hb.mono hC.size)⟩
    go_big_quiet_on
    repeat (first
      | go_big_quiet_skip
      | (go_big_quiet_want
         go_big_quiet_op
         first
           | go_big_quiet_on
           | (refine ⟨_, fun _ _ => (by with_reducible rfl), ?_⟩
              go_big_quiet_on)))
    refine wpQuiet_nil ?_
    intro wz hbz
    go_wp2_with fail
    refine bodyPost_ret (v := .tuple #[.string ⟨(textR zAV.v).toArray⟩, .bool false]) (by simp [results, Tryz.results70, go_sem]) rfl ⟨_, by rw [HN.out]; rfl, (fun u hu => by rw [HN.out] at hu; cases hu), below_via HW2.out hbz⟩
  | some y =>
    have hyw : y.w ≤ 1048576 := by
      have := Val.w_kid (get_mem hg).1
      have e : x.w = x.v.w := rfl
      omega
    have HN := Lib.hid (show nameOf s x.v = if y.k < 7 then some ⟨(textR y).toArray⟩ else none by rw [nameOf, hg])
    have HG := fun W (hb : Below w.heap.size w W) => Lib.hid (get_some_c hg W (hx.up hb) hw)
    go_enter Tryz.func70, Tryz.ntmps70
    go_wp2_with (first
      | (go_at_call 44; refine (HG _ (hb0 _)).out.mono ?_; rintro e w1 ⟨z, rfl, hzv, hz3, hb1⟩))
    have hzk : z.k = y.k := by rw [← hzv, AV.v_k]
    have hkk : (z.k < 7) = (y.k < 7) := by rw [hzk]
    have hbool' : (nameOf s x.v).isSome = decide (z.k < 7) := by
      rw [HN.out]
      by_cases h7 : y.k < 7
      · rw [if_pos h7, decide_eq_true (by rw [hkk]; exact h7)]; rfl
      · rw [if_neg h7, decide_eq_false (by rw [hkk]; exact h7)]; rfl
    have HBOOL := Lib.hid hbool'
    clear hkk hzk hbool'
    go_name_world W2 hW2
    have hb2 : Below w1.heap.size w1 W2 := by rw [← hW2]; exact (Below.refl _ _).alloc (Nat.le_refl _) _
    have hz2' : w1.heap.size + 1 = W2.heap.size := by rw [← hW2]; simp
    have hbx := (show W2.heap[w1.heap.size]? = some (.cells #[.int .u8 z.k, .string z.t, .slice z.la z.l.length z.lc, .slice z.ka z.ks.length z.kc] 48 (0, 0)) by rw [← hW2]; exact heap_alloc_new w1 _)
    clear hW2
    have hs1 := hb1.size
    have hw2 : Below w.heap.size w W2 := (hb0 _).trans ((hb1.mono (by simp)).trans (hb2.mono (by simp at hs1; omega)))
    have hz : Rd W2 z := (Rd.up (hz3.widen (Nat.zero_le _) (Nat.le_refl _)) hb2)
    have HT := fun W (hb : Below W2.heap.size W2 W) => Lib.hid (text_c z W (hz.up hb) (by show z.v.w ≤ _; rw [hzv]; exact hyw) ((hS.below hw2).below hb))
    rw [hzv] at HT
    obtain ⟨q0, q1, q2, q3, -, -, -, -⟩ := vbox4 hbx
    have hN2 : W2.heap.size ≤ W2.heap.size := Nat.le_refl _
    have hl2 : w1.heap.size < W2.heap.size := by omega
    have HW2 := Lib.hid hw2
    clear hbx hz hb2 hw2 hb1 hz2'
    go_region_held3 (fun w' => (∀ b o, b < W2.heap.size → w'.cell? ⟨b, o, none⟩ = W2.cell? ⟨b, o, none⟩) ∧ Below W2.heap.size W2 w')
      (first | (with_reducible exact Q1.out) | exact ⟨fun _ _ _ => rfl, (Below.refl _ _).drew⟩)
      (first | (go_at_call 41; refine (HT _ (S.bl (by assumption))).out.mono ?_; rintro e w3 ⟨rfl, hb3⟩; have Q1 := Lib.hid (s_step hN2 (by assumption) hb3)))
    all_goals
      go_wp2_with fail
      refine bodyPost_ret (v := .tuple #[.string ⟨(textR y).toArray⟩, .bool (decide (z.k < 7))]) (by simp [results, Tryz.results70, go_sem]) rfl ⟨⟨(textR y).toArray⟩, by rw [HBOOL.out], fun u hu => ?_, below_via HW2.out Q1.out.2⟩
      rw [HN.out] at hu
      split at hu
      · injection hu
      · cases hu
end Go.Proofs.YtcpdogjcofkpcaaGreatDoor

namespace Go.Proofs.YtcpdogjcofkpcaaGreatDoor
open Go.RowKit Go.Sort

/-- The block that a slice begins in is there, none of its cells is frozen. -/
def Thaw (w : World) (A : Option Addr) : Prop := ∀ b off, A = some ⟨b, off, none⟩ → b < w.heap.size ∧ ∀ o, w.frozen? ⟨b, o, none⟩ = false
theorem Thaw.up {w w' : World} {A : Option Addr} (h : Thaw w A) (hb : Below w.heap.size w w') : Thaw w' A := fun b off e => by
  obtain ⟨h1, h2⟩ := h b off e
  exact ⟨Nat.lt_of_lt_of_le h1 hb.size, fun o => (hb.frozen (p := ⟨b, o, none⟩) h1).trans (h2 o)⟩
theorem own_thaw {w : World} {base e size n m cap : Nat} {A : Option Addr} {xs : List Value} (h : w.ownsRow base e size (.slice A m cap) n xs) : Thaw w A := by
  intro b off e1
  rcases h.2 with ⟨e2, -⟩ | ⟨g, cap', cur, e2, -, hg, -⟩
  · injection e2 with e3; rw [e1] at e3; cases e3
  · injection e2 with e3
    rw [e1] at e3
    injection e3 with e3
    injection e3 with e4 e5
    subst e4
    refine ⟨?_, fun o => frozen_of_row w b o cur _ hg⟩
    rcases Nat.lt_or_ge b w.heap.size with h' | h'
    · exact h'
    · rw [Array.getElem?_eq_none h'] at hg; cases hg
/-- What gather hands back: all that the function gave, or nothing. -/
def GaPost (os : List (Option ByteArray)) (w : World) (e : Ending) (w' : World) : Prop :=
  (∃ ns A c, os = ns.map some ∧ e = .returned (.tuple #[.slice A ns.length c, .bool true]) ∧ ns.length ≤ c ∧ SlE strE 1 w' w.heap.size w'.heap.size A ns ∧ Below w.heap.size w w' ∧ Thaw w' A) ∨
  (none ∈ os ∧ e = .returned (.tuple #[.slice none 0 0, .bool false]) ∧ Below w.heap.size w w')
/-- A slice of the call's own that holds texts. -/
theorem own_form {w : World} {base : Nat} {v : Value} {l : List ByteArray} (h : OwnS w base v l) : ∃ a c, v = .slice a l.length c := by
  rcases h.2 with ⟨e, h0⟩ | ⟨g, cap, cur, e, _⟩
  · exact ⟨none, 0, by rw [e, h0]⟩
  · exact ⟨_, _, e⟩

set_option maxRecDepth 100000 in
set_option maxHeartbeats 3200000 in
theorem gather_s (w : World) (A0 : Option Addr) (cap : Nat) (l : List AV) (h : SlE AV.enc 4 w 0 w.heap.size A0 l) (hl : l.length ≤ 1048576) (hkw : ∀ y ∈ l, Rd w y ∧ y.w ≤ 1048576) (p : Nat) (s : ByteArray) (hp : w.cell? ⟨p, 0, none⟩ = some (.string s)) (hS : Shorts w) :
    Calls Tryz.prog 69 #[.slice A0 l.length cap, .func (.func 70) #[] #[.pointer (some ⟨p, 0, none⟩)]] w (GaPost (l.map fun y => nameOf s y.v) w) := by
  have hpl : p < w.heap.size := World.block_lt_of_cell? w ⟨p, 0, none⟩ hp
  have HN := fun (y : AV) (hy : y ∈ l) (W : World) (hb : Below w.heap.size w W) => Lib.hid (names1_c y p s W ((hkw y hy).1.up hb) (hkw y hy).2 (hS.below hb) ((hb.cell (p := ⟨p, 0, none⟩) hpl).trans hp))
  obtain ⟨i0, hi, hz0, hz1, hz2⟩ := info_parts info_str
  obtain ⟨w0, hmk, hown0, hgr0⟩ := run_make_own (P := Tryz.prog) w w.heap.size 37 9 i0 _ 1 Tryz.underlying37 hi hz0 hz1 .i64 .i64 l.length (by rw [hz2]; omega) (by simp only [maxLen]; omega) (Nat.le_refl _)
  have hb0 : Below w.heap.size w w0 := (Below.refl _ _).grown hgr0 (Nat.le_refl _) (fun k hk => by cases hk)
  have HO0 := Lib.hid (show OwnS w0 w.heap.size (.slice (some ⟨w.heap.size, 0, none⟩) ([] : List ByteArray).length l.length) [] from hown0)
  have H := Lib.hid h
  clear hp hi hz0 hz1 hz2 hown0 hgr0 h
  go_enter Tryz.func69, Tryz.ntmps69
  go_wp2_with fail
  clear hmk
  go_loopw [6, 8, 9, 10, 16] (fun s6 _ _ _ i wr => ∃ (m : Nat) (ns : List ByteArray) (a : Option Addr) (c : Nat), m ≤ l.length ∧ i = .int .i64 m ∧ ns.length = m ∧ (l.take m).map (fun y => nameOf s y.v) = ns.map some ∧ s6 = .slice a ns.length c ∧ OwnS wr w.heap.size (.slice a ns.length c) ns ∧ Below w.heap.size w wr) (fun _ _ _ _ i _ => l.length - (intOf i).toNat)
  case atStart => exact ⟨0, [], some ⟨w.heap.size, 0, none⟩, l.length, Nat.zero_le _, rfl, rfl, rfl, rfl, HO0.out, hb0⟩
  case round =>
    obtain ⟨m, ns, a, c, hml, rfl, hnl, hns, rfl, hown, hbw⟩ := hrel
    have HNL := Lib.hid hnl
    have HNS := Lib.hid hns
    have HOW := Lib.hid hown
    have HBW := Lib.hid hbw
    have hsz := hbw.size
    clear hnl hns hown hbw HO0 hb0
    by_cases hlt : m < l.length
    · have hk : l[m]? = some l[m] := List.getElem?_eq_getElem hlt
      have hmem : l[m] ∈ l := List.getElem_mem hlt
      generalize l[m] = y at *
      obtain ⟨b, off, hla, -, hb1, hb2, h0, h1, h2, h3⟩ := vals_at H.out hk
      rw [← HBW.out.cell (p := ⟨_, _, none⟩) hb2] at h0 h1 h2 h3
      have hbb : b < wr.heap.size := Nat.lt_of_lt_of_le hb2 HBW.out.size
      have hlt' : (m : Int) < (l.length : Int) := by omega
      have hba := fun o => (Below.refl wr.heap.size wr).alloc (Nat.le_refl _) o
      have HK := Lib.hid hk
      rw [hla]
      cases ho : nameOf s y.v with
      | none =>
        have HC := fun W h => Lib.hid (show Calls Tryz.prog 70 #[y.val, .pointer (some ⟨p, 0, none⟩)] W (fun e w' => ∃ t, e = .returned (.tuple #[.string t, .bool false]) ∧ Below W.heap.size W w') by
          have := (HN y hmem W h).out
          rw [ho] at this
          exact this.mono fun e w' ⟨t, h1, _, h3⟩ => ⟨t, h1, h3⟩)
        have HO := Lib.hid ho
        have HMM := Lib.hid hmem
        clear hk hmem ho HN hla
        go_wp2_with (go_at_call 70; refine (HC _ (HBW.out.trans ((hba _).mono hsz))).out.mono ?_; rintro e w2 ⟨t, rfl, hb⟩)
        refine bodyPost_ret (v := .tuple #[.slice none 0 0, .bool false]) (by simp [results, Tryz.results69, go_sem]) rfl (.inr ⟨List.mem_map.2 ⟨y, HMM.out, HO.out⟩, rfl, HBW.out.trans (((hba _).mono hsz).trans (hb.mono (by simp; omega)))⟩)
      | some u =>
        have HC := fun W h => Lib.hid (show Calls Tryz.prog 70 #[y.val, .pointer (some ⟨p, 0, none⟩)] W (fun e w' => e = .returned (.tuple #[.string u, .bool true]) ∧ Below W.heap.size W w') by
          have := (HN y hmem W h).out
          rw [ho] at this
          exact this.mono fun e w' ⟨t, h1, h2, h3⟩ => ⟨by rw [h1, h2 u rfl]; rfl, h3⟩)
        have HO := Lib.hid ho
        clear hk hmem ho HN hla
        go_wp2_with (first
          | (go_at_call 70; refine (HC _ (HBW.out.trans ((hba _).mono hsz))).out.mono ?_; rintro e w2 ⟨rfl, hb⟩
             have hbw2 : Below wr.heap.size wr w2 := (hba _).trans (hb.mono (by simp))
             have hsz2 := hbw2.size
             have hlit : SlE strE 1 (w2.alloc (.cells #[.string u] 9)) w2.heap.size (w2.heap.size + 1) (some ⟨w2.heap.size, 0, none⟩) [u] := lit_sl (enc := strE) (size := 1) (l := [u]) (t := 9) (fr := (0, 0)) (fun _ => rfl) (heap_alloc_new _ _)
             obtain ⟨v', W', hrun, hown', hgr, -⟩ := app_str (c := 1) (own_below (own_below HOW.out hbw2) ((Below.refl _ _).alloc (Nat.le_refl _) _)) hlit (by have := HNL.out; simp; omega) (by simp; omega)
             obtain ⟨ns', hns'⟩ : ∃ ns', ns' = ns ++ [u] := ⟨_, rfl⟩
             rw [← hns'] at hown'
             have HNS' := Lib.hid hns'
             clear hns'
             obtain ⟨a', c', rfl⟩ := own_form hown'
             have HOW' := Lib.hid hown'
             clear hown' hlit)
          | (at_builtin; refine wl_append (s := .tmp 28) (x := .tmp 30) rfl rfl (hrun _) ?_; clear hrun))
        refine ⟨⟨m + 1, ns', a', c', by omega, by go_num, by rw [HNS'.out]; simp [HNL.out], ?_, rfl, HOW'.out, ?_⟩, by simp [intOf]; omega⟩
        · rw [List.take_add_one, HK.out, List.map_append, HNS.out, HNS'.out]; simp [HO.out]
        · exact (HBW.out.trans ((hbw2.mono hsz).trans ((Below.refl _ _).alloc (by omega) _))).grown hgr (by simp; omega) (fun q hq => (World.ownsRow.lt HOW.out q hq).1)
    · obtain rfl : m = l.length := by omega
      have hge : ¬ (l.length : Int) < (l.length : Int) := by omega
      go_wp2_with fail
      refine bodyPost_ret (v := .tuple #[.slice a ns.length c, .bool true]) (by simp [results, Tryz.results69, go_sem]) rfl (.inl ⟨ns, a, c, by rw [← HNS.out, List.take_length], rfl, own_cap HOW.out rfl, (own_sl (enc := strE) (size := 1) (fun _ => rfl) HOW.out), HBW.out, own_thaw HOW.out⟩)
end Go.Proofs.YtcpdogjcofkpcaaGreatDoor

namespace Go.Proofs.YtcpdogjcofkpcaaGreatDoor
open Go.RowKit Go.Sort

def allSome {α : Type} : List (Option α) → Option (List α)
  | [] => some []
  | none :: _ => none
  | some x :: l => (allSome l).map (x :: ·)
theorem allSome_map {α : Type} : ∀ l : List α, allSome (l.map some) = some l
  | [] => rfl
  | x :: l => by simp [allSome, allSome_map l]
theorem allSome_none {α : Type} : ∀ {l : List (Option α)}, none ∈ l → allSome l = none
  | none :: _, _ => rfl
  | some x :: l, h => by
    have : none ∈ l := by simpa using h
    simp [allSome, allSome_none this]
/-- The names of a list, if each element has one, all unlike. -/
def namesP (s : ByteArray) (l : List Val) : Option (List ByteArray) := match allSome (l.map (nameOf s)) with | some ns => if ns.Nodup then some ns else none | none => none
def NamesPost (o : Option (List ByteArray)) (w : World) (e : Ending) (w' : World) : Prop :=
  (∃ ns A, o = some ns ∧ e = .returned (.tuple #[.slice A ns.length ns.length, .bool true]) ∧ SlE strE 1 w' w.heap.size w'.heap.size A ns ∧ Below w.heap.size w w') ∨
  (o = none ∧ e = .returned (.tuple #[.slice none 0 0, .bool false]) ∧ Below w.heap.size w w')
/-- ..and it is the caller's to write into. -/
def NamesPostO (o : Option (List ByteArray)) (w : World) (e : Ending) (w' : World) : Prop :=
  (∃ ns A, o = some ns ∧ e = .returned (.tuple #[.slice A ns.length ns.length, .bool true]) ∧ SlE strE 1 w' w.heap.size w'.heap.size A ns ∧ Below w.heap.size w w' ∧ Thaw w' A) ∨
  (o = none ∧ e = .returned (.tuple #[.slice none 0 0, .bool false]) ∧ Below w.heap.size w w')

set_option maxRecDepth 100000 in
set_option maxHeartbeats 3200000 in
theorem names_o (w : World) (A0 : Option Addr) (cap : Nat) (l : List AV) (h : SlE AV.enc 4 w 0 w.heap.size A0 l) (hl : l.length ≤ 1048576) (hkw : ∀ y ∈ l, Rd w y ∧ y.w ≤ 1048576) (s : ByteArray) (hS : Shorts w) :
    Calls Tryz.prog 16 #[.slice A0 l.length cap, .string s] w (NamesPostO (namesP s (l.map AV.v)) w) := by
  have hb0 := fun o => (Below.refl w.heap.size w).alloc (Nat.le_refl _) o
  have hbx := heap_alloc_new w (.cells #[.string s] 9)
  have HG := Lib.hid (gather_s (w.alloc (.cells #[.string s] 9)) A0 cap l (h.up (hb0 _)) hl (fun y hy => ⟨(hkw y hy).1.up (hb0 _), (hkw y hy).2⟩) w.heap.size s ((Go.Joins.cell_of_block hbx 0).trans rfl) (hS.below (hb0 _)))
  have hmm : (l.map AV.v).map (nameOf s) = l.map fun y => nameOf s y.v := by rw [List.map_map]; rfl
  have HMM := Lib.hid hmm
  clear hmm hbx h hkw
  go_enter Tryz.func16, Tryz.ntmps16
  go_upto_region 2 with (go_at_call 69; refine HG.out.mono ?_; rintro e w1 (⟨ns, A, c, hns, rfl, hc, hsl, hb, hth⟩ | ⟨hno, rfl, hb⟩))
  · have hs1 := hb.size
    rw [World.size_alloc] at hs1
    have hbw : Below w.heap.size w w1 := (hb0 _).trans (hb.mono (by simp))
    have hnl : ns.length = l.length := by have := congrArg List.length hns; simpa using this.symm
    have hall : allSome ((l.map AV.v).map (nameOf s)) = some ns := by rw [HMM.out, hns, allSome_map]
    have HSv := fun W => Lib.hid (values_c W A ns.length c)
    have HS := fun W Bs a cap h1 h2 h3 => Lib.hid (sorted_c W Bs a cap ns (by omega) h1 h2 h3)
    have HCo := fun W B v h1 h2 => Lib.hid (compact_c W B v ns h1 h2 (by omega))
    have hsl1 : SlE strE 1 w1 0 w1.heap.size A ns := hsl.widen (Nat.zero_le _) (Nat.le_refl _)
    have hnd := nodup_sorted ns
    have HBW := Lib.hid hbw
    have HSL := Lib.hid hsl
    have HNL := Lib.hid hnl
    have HTH := Lib.hid hth
    clear hth
    generalize (Go.Lib.compact (sorted ns)).length = K at *
    by_cases hn : ns.Nodup
    · have hK := hnd.2 hn
      have hne : ((K : Int) != (l.length : Int)) = false := by rw [bne, nat_eq, hK, hnl]; simp
      have HO := Lib.hid (show namesP s (l.map AV.v) = some ns by rw [namesP, hall]; exact if_pos hn)
      clear hns hall hnl hbw hsl hn hK hnd hb
      go_wp2_with (first
        | (go_at_call 73; refine (HSv _).out.mono ?_; rintro e w3 ⟨rfl, rfl⟩)
        | (go_at_call 72
           refine (HS _ w1.heap.size A c ?_ ?_ ?_).out.mono ?_
           · simp
           · exact (Go.Joins.cell_of_block (heap_alloc_new w1 _) 0).trans rfl
           · exact hsl1.up ((Below.refl _ _).alloc (Nat.le_refl _) _)
           rintro e w4 ⟨v, rfl, hrow, -, hb4⟩
           have hz4 := hb4.size)
        | (go_at_call 71; refine (HCo _ _ _ hrow hz4).out.mono ?_; rintro e w5 ⟨a5, c5, rfl, hb5⟩)
        | (go_at_call 74; refine (clip_c _ _ _ _ hc).mono ?_; rintro e w6 ⟨rfl, rfl⟩))
      have hb15 : Below w1.heap.size w1 w5 := ((Below.refl _ _).alloc (Nat.le_refl _) _).trans ((hb4.mono (by simp)).trans (hb5.mono (by simp)))
      refine bodyPost_ret (v := .tuple #[.slice A ns.length ns.length, .bool true]) (by simp [results, Tryz.results16, go_sem]) rfl (.inl ⟨ns, A, HO.out, rfl, ?_, below_via HBW.out hb15, HTH.out.up hb15⟩)
      exact (HSL.out.below' hb15).clamp.widen (by simp) (Nat.le_refl _)
    · have hK : K ≠ l.length := fun e => hn (hnd.1 (by rw [e, hnl]))
      have hne : ((K : Int) != (l.length : Int)) = true := by rw [bne, nat_eq]; simp [hK]
      have HO := Lib.hid (show namesP s (l.map AV.v) = none by rw [namesP, hall]; exact if_neg hn)
      clear hns hall hnl hbw hsl hn hK hnd hb
      go_wp2_with (first
        | (go_at_call 73; refine (HSv _).out.mono ?_; rintro e w3 ⟨rfl, rfl⟩)
        | (go_at_call 72
           refine (HS _ w1.heap.size A c ?_ ?_ ?_).out.mono ?_
           · simp
           · exact (Go.Joins.cell_of_block (heap_alloc_new w1 _) 0).trans rfl
           · exact hsl1.up ((Below.refl _ _).alloc (Nat.le_refl _) _)
           rintro e w4 ⟨v, rfl, hrow, -, hb4⟩
           have hz4 := hb4.size)
        | (go_at_call 71; refine (HCo _ _ _ hrow hz4).out.mono ?_; rintro e w5 ⟨a5, c5, rfl, hb5⟩))
      have hb15 : Below w1.heap.size w1 w5 := ((Below.refl _ _).alloc (Nat.le_refl _) _).trans ((hb4.mono (by simp)).trans (hb5.mono (by simp)))
      refine bodyPost_ret (v := .tuple #[.slice none 0 0, .bool false]) (by simp [results, Tryz.results16, go_sem]) rfl (.inr ⟨HO.out, rfl, below_via HBW.out hb15⟩)
  · have hbw : Below w.heap.size w w1 := (hb0 _).trans (hb.mono (by simp))
    have HO := Lib.hid (show namesP s (l.map AV.v) = none by rw [namesP, HMM.out, allSome_none hno])
    clear hno
    go_wp2_with fail
    refine bodyPost_ret (v := .tuple #[.slice none 0 0, .bool false]) (by simp [results, Tryz.results16, go_sem]) rfl (.inr ⟨HO.out, rfl, hbw⟩)
theorem names_c (w : World) (A0 : Option Addr) (cap : Nat) (l : List AV) (h : SlE AV.enc 4 w 0 w.heap.size A0 l) (hl : l.length ≤ 1048576) (hkw : ∀ y ∈ l, Rd w y ∧ y.w ≤ 1048576) (s : ByteArray) (hS : Shorts w) :
    Calls Tryz.prog 16 #[.slice A0 l.length cap, .string s] w (NamesPost (namesP s (l.map AV.v)) w) := by
  refine (names_o w A0 cap l h hl hkw s hS).mono ?_
  rintro e w' (⟨ns, A, h1, h2, h3, h4, -⟩ | h1)
  · exact .inl ⟨ns, A, h1, h2, h3, h4⟩
  · exact .inr h1
end Go.Proofs.YtcpdogjcofkpcaaGreatDoor
