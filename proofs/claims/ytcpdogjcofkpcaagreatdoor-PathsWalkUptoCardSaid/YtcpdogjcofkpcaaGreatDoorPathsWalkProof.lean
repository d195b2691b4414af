/-
  inarchlaw16.PathsWalk answers true at whatever arguments, and these read afterwards as they read before. Conditions: what the call reads is of bulk at most 1048576; the listed variables hold what the program's text lays (the card ties them).
-/
import Derived.Test.YtcpdogjcofkpcaaGreatDoorCards
import Derived.Test.YtcpdogjcofkpcaaGreatDoorTie
import Derived.Test.YtcpdogjcofkpcaaGreatDoorWD
import Derived.Test.YtcpdogjcofkpcaaGreatDoorOpenV
import Derived.Test.YtcpdogjcofkpcaaGreatDoorRows
import Derived.Test.YtcpdogjcofkpcaaGreatDoorP10
import Derived.WalkKit
import Derived.ProofKit
import Derived.OpenShut
import Derived.Deep.Slices
import Derived.Lib.SmallJoins
import Derived.Test.YtcpdogjcofkpcaaGreatDoorLaidW
namespace Go.Proofs.YtcpdogjcofkpcaaGreatDoor
open Go.RowKit Go.ChangeShapes Go.WideShapes Go.Deep Go.Joins

def stData {H : Type} (s : St) : DataW H := .agg [.lit (.int .u8 s.k), .lit (.string s.t.data.toList), .lit (.string s.i.data.toList), .lit (.int .i64 s.a)]

section
variable {H : Type} {enc : TypeId × Value → H} {w : World}

set_option maxRecDepth 100000 in
theorem cells_st (cs : List Value) {spare : Nat → Bool} {fuel : Nat} {x : DataW H × List MemPlace} (h : DataW.trod enc Tryz.prog w 0 spare true fuel 90 cs = some x) :
    ∃ s : St, cs = s.enc ∧ x.1 = stData s ∧ 0 ≤ s.k ∧ s.k ≤ 255 ∧ -9223372036854775808 ≤ s.a ∧ s.a ≤ 9223372036854775807 := by
  obtain ⟨xs, n, -, hx, hlen, hxl, hf⟩ := DataW.trod_struct Tryz.underlying90 h
  rw [show Tryz.prog.cellsOf 90 = 4 by kernel_rfl] at hlen
  match cs, hlen with
  | [c0, c1, c2, c3], _ =>
    match xs, hxl with
    | [y0, y1, y2, y3], _ =>
      have f0 : DataW.trod enc Tryz.prog w 0 spare true n 88 (([c0, c1, c2, c3].drop 0).take (Tryz.prog.cellsOf 88)) = some y0 := hf 0 _ rfl
      have f1 : DataW.trod enc Tryz.prog w 0 spare true n 9 (([c0, c1, c2, c3].drop 1).take (Tryz.prog.cellsOf 9)) = some y1 := hf 1 _ rfl
      have f2 : DataW.trod enc Tryz.prog w 0 spare true n 9 (([c0, c1, c2, c3].drop 2).take (Tryz.prog.cellsOf 9)) = some y2 := hf 2 _ rfl
      have f3 : DataW.trod enc Tryz.prog w 0 spare true n 3 (([c0, c1, c2, c3].drop 3).take (Tryz.prog.cellsOf 3)) = some y3 := hf 3 _ rfl
      rw [show Tryz.prog.cellsOf 88 = 1 by kernel_rfl] at f0
      rw [show Tryz.prog.cellsOf 9 = 1 by kernel_rfl] at f1 f2
      rw [show Tryz.prog.cellsOf 3 = 1 by kernel_rfl] at f3
      obtain ⟨k, e0, rfl, w0⟩ := DataW.trod_int Tryz.underlying88 f0
      obtain ⟨t, e1, rfl, w1⟩ := DataW.trod_string Tryz.underlying9 f1
      obtain ⟨i, e2, rfl, w2⟩ := DataW.trod_string Tryz.underlying9 f2
      obtain ⟨a, e3, rfl, w3⟩ := DataW.trod_int Tryz.underlying3 f3
      simp at e0 e1 e2 e3
      subst e0 e1 e2 e3
      simp [Lit.wf, IntKind.min, IntKind.max, IntKind.signed, IntKind.bits] at w0 w3
      exact ⟨⟨k, t, i, a⟩, rfl, by rw [hx]; rfl, w0.1, w0.2, w3.1, w3.2⟩

set_option maxRecDepth 100000 in
theorem open_sts {v : Value} {d : DataW H} {p : List MemPlace} {r : Reach} {b0 : Nat} (hv : Value.okWide Tryz.prog w r b0 81 v) (h : DataW.Trod enc Tryz.prog w 0 (fun _ => true) true 81 v d p) :
    ∃ (a : Option Addr) (cap : Nat) (l : List St), v = .slice a l.length cap ∧ l.length ≤ cap ∧ Sts w 0 w.heap.size a l ∧ (d = .nil ∧ l = [] ∨ ∃ spare, d = .slice (l.map stData) spare) ∧
      ∀ s ∈ l, 0 ≤ s.k ∧ s.k ≤ 255 ∧ -9223372036854775808 ≤ s.a ∧ s.a ≤ 9223372036854775807 := by
  obtain ⟨a0, len, cap, rfl⟩ := okWide_slice Tryz.underlying81 hv
  obtain ⟨fuel, hf⟩ := h
  rcases open_slice Tryz.underlying81 hf with ⟨hcs, hx⟩ | ⟨a, len', cap', m, n, D, Pl, hcs, _, hl, hm, hmm, hx, hi⟩
  · simp [Value.cells] at hcs
    obtain ⟨rfl, rfl, rfl⟩ := hcs
    simp only [Prod.mk.injEq] at hx
    exact ⟨none, 0, [], rfl, Nat.le_refl _, SlE.nil, .inl ⟨hx.1, rfl⟩, by simp⟩
  · simp [Value.cells] at hcs
    obtain ⟨rfl, rfl, rfl⟩ := hcs
    simp only [if_true] at hmm
    subst hmm
    simp only [Prod.mk.injEq] at hx
    rw [show Tryz.prog.cellsOf 90 = 4 by kernel_rfl] at hi
    have key : ∀ i, ∃ s : St, i < len → (∀ j u, s.enc[j]? = some u → w.cell? (a.add (i * 4 + j)) = some u) ∧ D i = stData s ∧ 0 ≤ s.k ∧ s.k ≤ 255 ∧ -9223372036854775808 ≤ s.a ∧ s.a ≤ 9223372036854775807 := by
      intro i
      by_cases hil : i < len
      · obtain ⟨cs', hc, ht⟩ := hi i (by omega)
        obtain ⟨_, hcl, hat⟩ := World.cells?_some hc
        obtain ⟨s, hs, hd, hk⟩ := cells_st cs' ht
        refine ⟨s, fun _ => ⟨fun j u hu => ?_, hd, hk⟩⟩
        have hj : j < 4 := by have := (List.getElem?_eq_some_iff.1 hu).1; simpa [St.enc] using this
        have := hat j hj
        rw [Go.Deep.add_add] at this
        rw [this, hs, hu]
      · exact ⟨⟨0, ⟨#[]⟩, ⟨#[]⟩, 0⟩, fun h => absurd h hil⟩
    obtain ⟨f, hf⟩ := Classical.axiomOfChoice key
    refine ⟨some a, m, (List.range len).map f, by simp, by simpa using hl, ?_, .inr ⟨_, by rw [hx.1, List.map_map]; congr 1; exact List.map_congr_left fun i hil => (hf i (by simpa using hil)).2.1⟩, ?_⟩
    · intro hl0
      simp only [List.length_map, List.length_range] at hl0
      obtain ⟨b, off, spot⟩ := a
      have h00 := (hf 0 hl0).1 0 _ rfl
      have hsp : spot = none := by
        simp only [Addr.add, World.cell?] at h00
        cases spot with
        | none => rfl
        | some x => simp at h00; split at h00 <;> simp_all
      subst hsp
      have hb : b < w.heap.size := by rw [add_none] at h00; exact World.block_lt_of_cell? w _ h00
      refine ⟨b, off, rfl, Nat.zero_le _, hb, hb, fun i x hx' j u hu => ?_⟩
      have hil : i < len := by have := (List.getElem?_eq_some_iff.1 hx').1; simpa using this
      have hfx : f i = x := by simpa [hil] using hx'
      subst hfx
      have := (hf i hil).1 j u hu
      rw [add_none] at this
      rw [Nat.add_assoc]
      exact this
    · intro s hs
      obtain ⟨i, hil, rfl⟩ := List.mem_map.1 hs
      exact (hf i (by simpa using hil)).2.2

set_option maxRecDepth 100000 in
theorem open_st {v : Value} {d : DataW H} {p : List MemPlace} {r : Reach} {b0 : Nat} (hv : Value.okWide Tryz.prog w r b0 90 v) (h : DataW.Trod enc Tryz.prog w 0 (fun _ => true) true 90 v d p) :
    ∃ s : St, v = s.val ∧ d = stData s := by
  obtain ⟨cs, rfl, -⟩ := okWide_struct Tryz.underlying90 hv
  obtain ⟨fuel, hf⟩ := h
  obtain ⟨s, hs, hd, -⟩ := cells_st _ hf
  refine ⟨s, ?_, hd⟩
  simp only [Value.cells] at hs
  have : cs = s.enc.toArray := by rw [← hs]
  rw [this]
  rfl
end

theorem bulk_st {H : Type} (s : St) : Rows.uptoBulk (stData (H := H) s) = s.t.size + s.i.size + 5 := by
  have e1 : s.t.data.size = s.t.size := rfl
  have e2 : s.i.data.size = s.i.size := rfl
  simp [stData, Rows.uptoBulk, Rows.uptoBulkAll]
  omega
theorem bulk_sts {H : Type} : ∀ l : List St, Rows.uptoBulkAll (l.map (stData (H := H))) = total l + 5 * l.length
  | [] => rfl
  | s :: l => by
    simp only [List.map_cons, Rows.uptoBulkAll, bulk_st, bulk_sts l, total, List.sum_cons, List.length_cons]
    omega
set_option maxRecDepth 100000 in
theorem fit_of_bulk {l : List St} (h : total l + 5 * l.length ≤ 1048576) (hk : ∀ s ∈ l, 0 ≤ s.k ∧ s.k ≤ 255 ∧ -9223372036854775808 ≤ s.a ∧ s.a ≤ 9223372036854775807) : Fit2 l := by
  have hm : ∀ s ∈ l, s.t.size + s.i.size ≤ total l := by
    clear h hk
    induction l with
    | nil => simp
    | cons x l ih =>
      intro s hs
      simp only [total, List.map_cons, List.sum_cons] at *
      rcases List.mem_cons.1 hs with rfl | hs
      · omega
      · have := ih s hs; omega
  refine ⟨⟨by omega, fun s hs => ?_⟩, fun s hs => (hk s hs).2.2⟩
  have := hm s hs
  exact ⟨by omega, by omega, (hk s hs).1, (hk s hs).2.1⟩
set_option maxRecDepth 100000 in
theorem sts_bulk {H : Type} {l : List St} {d : DataW H} (hd : d = .nil ∧ l = [] ∨ ∃ spare, d = .slice (l.map stData) spare) {n : Nat} (hb : Rows.uptoBulk d ≤ n) : total l + 5 * l.length ≤ n := by
  rcases hd with ⟨rfl, rfl⟩ | ⟨spare, rfl⟩
  · simp [total]
  · simp only [Rows.uptoBulk, bulk_sts] at hb; omega
end Go.Proofs.YtcpdogjcofkpcaaGreatDoor

namespace Go.Proofs.YtcpdogjcofkpcaaGreatDoor.pathsWalkLaw
open Go.ChangeShapes Go.WideShapes Go.ChangeAt Go.RowKit


set_option maxRecDepth 100000 in
theorem contract (H : Type) (enc : TypeId × Value → H) (W : World) (base : Nat) (args : Array Value) (ds gs : List (DataW H)) (before : List MemPlace)
    (hval : ∀ (j : Nat) t v, Tryz.f9.params[j]? = some t → args[j]? = some v → Value.okWide Tryz.prog W .any base t v)
    (hW : DataW.Whole enc Tryz.prog Tryz.f9.params.toList Rows.pathsWalkSpec.vars false W args.toList ds gs before) (hL : laidMetH Tryz.prog Rows.pathsWalkRow.laid W) (hk : Rows.uptoSmall H (ds ++ gs) = true) :
    Calls Tryz.prog 9 args W fun e W' => ∃ v, e = .returned v ∧ Rows.pathsWalkSpec.post enc Tryz.prog Tryz.f9 false true false false W args v W' := by
  have hW' := hW
  obtain ⟨p, q, hA0, hV, rfl, hfz, hnd⟩ := hW
  have hA : DataW.TrodAll enc Tryz.prog W 0 (fun _ => true) true Tryz.f9.params.toList args.toList ds p := hA0
  rw [Tryz.params9] at hA hval
  obtain ⟨v0, vs0, d0, ds0, p0, q0, hargs, rfl, rfl, h0, r0⟩ := trodAll_cons hA
  obtain ⟨v1, vs1, d1, ds1, p1, q1, rfl, rfl, rfl, h1, r1⟩ := trodAll_cons r0
  obtain ⟨rfl, rfl, rfl⟩ := trodAll_nil r1
  obtain rfl : args = #[v0, v1] := by cases args; simp_all
  obtain ⟨rfl, rfl⟩ := trodVars_none hV
  obtain ⟨x, rfl, hx, hwx⟩ := open_val (hval 0 48 v0 rfl rfl) h0
  obtain ⟨spa, spc, sp, rfl, hspc, hsp, esp, ksp⟩ := open_sts (hval 1 81 v1 rfl rfl) h1
  have hbulk : Rows.uptoBulkAll [d0, d1] ≤ 1048576 := by
    simp only [List.append_nil] at hk
    exact of_decide_eq_true hk
  simp only [Rows.uptoBulkAll] at hbulk
  have bsp := sts_bulk esp (n := 1048576) (by omega)
  have fsp := fit_of_bulk bsp ksp
  simp only [List.append_nil] at hW'
  refine (pwl W x spa spc sp hx (by omega) hsp fsp.1 (laidW.shorts_of4 hL) (laidW.pow_of4 hL)).mono fun e W' ⟨he, hg⟩ => ?_
  subst he
  have lt0 : ∀ x ∈ p0, x.block < W.heap.size := fun x hx => hW'.lt x (by simp [hx])
  have lt1 : ∀ x ∈ p1, x.block < W.heap.size := fun x hx => hW'.lt x (by simp [hx])
  refine ⟨_, rfl, _, _, _, [], p0 ++ (p1 ++ []), [], hW', trodAll_cons_mk (shut_bool Tryz.underlying4 _) trodAll_mk0, ?_, rfl, hg.frame _, fun h => by cases h⟩
  exact trodAll_cons_mk (Below.trod laidV.laidOut (by kernel_rfl) (of_decide_eq_true (by kernel_rfl)) h0 hg lt0)
    (trodAll_cons_mk (Below.trod laidV.laidOut (by kernel_rfl) (of_decide_eq_true (by kernel_rfl)) h1 hg lt1)
    trodAll_mk0)

def args0 : Array Value := #[.agg #[.int .u8 0, .string ⟨#[]⟩, .slice none 0 0, .slice none 0 0], .slice none 0 0]
theorem reads (os : Os) {H : Type} (enc : TypeId × Value → H) : ∃ places, DataW.whole enc Tryz.prog ((laidW.world os).forCall (fun _ _ => 0) ⟨#[], args0, []⟩).memory Tryz.f9.params.toList Rows.pathsWalkSpec.vars false args0.toList 8 = some ([.agg [.lit (.int .u8 0), .lit (.string []), .nil, .nil], .nil], [], places) :=
  ⟨[], by kernel_rfl⟩

set_option maxRecDepth 100000 in
theorem lifted (os : Os) (started : os.Started) (H : Type) (enc : TypeId × Value → H) (F : Stop.Interp) :
    ReturnsInHanded {} Tryz.checked os 9 .any ((Rows.OpenSpec.upto Rows.pathsWalkSpec).preRow enc Tryz.prog Tryz.f9 Rows.pathsWalkUptoRow.domain false Rows.pathsWalkUptoRow.laid) (((Rows.OpenSpec.upto Rows.pathsWalkSpec).at F).post enc Tryz.prog Tryz.f9 false true false false) := by
  obtain ⟨places, hx⟩ := reads os enc
  refine returnsInHanded_of_row (C := Tryz.checked) (s := Rows.OpenSpec.upto Rows.pathsWalkSpec) laidV.own started (by kernel_rfl) Tryz.func9
    (witness_row_at (enc := enc) (C := Tryz.checked) false (laidW.world os) args0 rfl (by kernel_rfl) (by kernel_rfl) (by kernel_rfl)
      (OpenSpec.preRow_of_cond 8 hx (by kernel_rfl) (fun k hk => by cases hk; kernel_rfl) (by kernel_rfl) (laidW.met4 os _))) ?_
  intro W base args ds gs before hval hW _ hcond _ hL _ _
  exact contract H enc W base args ds gs before hval hW hL (hcond _ rfl)

theorem saidUpto : Rows.PathsWalkUptoSaid :=
  OpenClaim.holds_of_cond 9 Tryz.f9 rfl rfl rfl rfl rfl rfl rfl ⟨rfl, rfl, rfl, rfl, rfl⟩ rfl rfl rfl rfl rfl (by kernel_rfl) Tryz.func9 (by kernel_rfl)
    (of_decide_eq_true (by kernel_rfl)) (by unfold Func.isWrapper; first | (rw [if_pos (by decide +kernel)]; kernel_rfl) | (rw [if_neg (by decide +kernel)]; exact ⟨rfl, rfl⟩))
    (fun os started H enc _ F => by rw [OpenClaim.pre_eq_preRow]; exact lifted os started H enc F)

theorem plain (f : FuncId) (fn : Func) (hf : Tryz.pinned.checked.prog.funcNamed "inarch/inarchlaw16.PathsWalk" = some f) (hfn : Tryz.pinned.checked.prog.funcs[f]? = some fn) :
    false = Tryz.pinned.checked.prog.looks [] ∧ ∀ (j : Nat) t, fn.params[j]? = some t → Tryz.pinned.checked.prog.wantsStandIn t = false := by
  obtain rfl : f = 9 := Option.some.inj ((show Tryz.prog.funcNamed "inarch/inarchlaw16.PathsWalk" = some 9 by kernel_rfl).symm.trans hf) |>.symm
  obtain rfl : fn = Tryz.f9 := (Option.some.inj (Tryz.func9.symm.trans hfn)).symm
  refine ⟨by kernel_rfl, fun j t ht => ?_⟩
  rw [Tryz.params9] at ht
  have hm := Array.mem_of_getElem? ht
  simp only [List.mem_toArray, List.mem_cons, List.not_mem_nil, or_false] at hm
  rcases hm with rfl | rfl
  · exact (show Tryz.prog.wantsStandIn 48 = false by kernel_rfl)
  · exact (show Tryz.prog.wantsStandIn 81 = false by kernel_rfl)

theorem cardUpto : Rows.PathsWalkUptoCardSaid :=
  Claim7.holds_tied_plain_at .later [] _ _ _ _ saidUpto (fun _ h => by cases h) (by kernel_rfl) (fun _ h => by cases h) pathsWalkUpto_row_tie rfl ⟨rfl, rfl⟩ (by kernel_rfl) rfl plain (by kernel_rfl)
end Go.Proofs.YtcpdogjcofkpcaaGreatDoor.pathsWalkLaw
