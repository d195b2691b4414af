/-
  inarchlaw16.PathsOn answers true at whatever arguments, and these read afterwards as they read before. Conditions: what the call reads is of bulk at most 1048576; the listed variables hold what the program's text lays (the card ties them).
-/
import Derived.Test.YtcpdogjcofkpcaaGreatDoorCards
import Derived.Test.YtcpdogjcofkpcaaGreatDoorTie
import Derived.Test.YtcpdogjcofkpcaaGreatDoorWC
import Derived.Test.YtcpdogjcofkpcaaGreatDoorOpenV
import Derived.Test.YtcpdogjcofkpcaaGreatDoorOpenSt
import Derived.Test.YtcpdogjcofkpcaaGreatDoorOpenB
import Derived.Test.YtcpdogjcofkpcaaGreatDoorLaidW
namespace Go.Proofs.YtcpdogjcofkpcaaGreatDoor.pathsOnLaw
open Go.ChangeShapes Go.WideShapes Go.ChangeAt Go.RowKit

theorem pon (w : World) (x : AV) (A : Option Addr) (cA : Nat) (zs : List Int) (B : Option Addr) (cB : Nat) (on : List St) (hx : Rd w x) (hwx : x.w ≤ 1048576) (hzs : SlE u8E 1 w 0 w.heap.size A zs) (hzr : ∀ n ∈ zs, 0 ≤ n ∧ n ≤ 255) (hon : Sts w 0 w.heap.size B on) (hf : Fit on) (hol : on.length ≤ 1000000) (hS : Shorts w) (hP : Pow w) :
    Calls Tryz.prog 10 #[x.val, .slice A zs.length cA, .slice B on.length cB] w (Ret (.bool true) w) := by
  by_cases h0 : 1500 < x.v.w
  · exact pon_out0 w x A cA zs B cB on hx hwx hP h0
  cases h1 : x.v.may with
  | false => exact pon_out1 w x A cA zs B cB on hx hwx hP h0 h1
  | true =>
    by_cases h2 : 100 < zs.length
    · exact pon_out2 w x A cA zs B cB on hx hwx hP h0 h1 h2
    · exact pon_in w x A cA zs B cB on hx hwx hzs hzr hon hf hol hS hP h0 h1 h2

set_option maxRecDepth 100000 in
theorem contract (H : Type) (enc : TypeId × Value → H) (W : World) (base : Nat) (args : Array Value) (ds gs : List (DataW H)) (before : List MemPlace)
    (hval : ∀ (j : Nat) t v, Tryz.f10.params[j]? = some t → args[j]? = some v → Value.okWide Tryz.prog W .any base t v)
    (hW : DataW.Whole enc Tryz.prog Tryz.f10.params.toList Rows.pathsOnSpec.vars false W args.toList ds gs before) (hL : laidMetH Tryz.prog Rows.pathsOnRow.laid W) (hk : Rows.uptoSmall H (ds ++ gs) = true) :
    Calls Tryz.prog 10 args W fun e W' => ∃ v, e = .returned v ∧ Rows.pathsOnSpec.post enc Tryz.prog Tryz.f10 false true false false W args v W' := by
  have hW' := hW
  obtain ⟨p, q, hA0, hV, rfl, hfz, hnd⟩ := hW
  have hA : DataW.TrodAll enc Tryz.prog W 0 (fun _ => true) true Tryz.f10.params.toList args.toList ds p := hA0
  rw [Tryz.params10] at hA hval
  obtain ⟨v0, vs0, d0, ds0, p0, q0, hargs, rfl, rfl, h0, r0⟩ := trodAll_cons hA
  obtain ⟨v1, vs1, d1, ds1, p1, q1, rfl, rfl, rfl, h1, r1⟩ := trodAll_cons r0
  obtain ⟨v2, vs2, d2, ds2, p2, q2, rfl, rfl, rfl, h2, r2⟩ := trodAll_cons r1
  obtain ⟨rfl, rfl, rfl⟩ := trodAll_nil r2
  obtain rfl : args = #[v0, v1, v2] := by cases args; simp_all
  obtain ⟨rfl, rfl⟩ := trodVars_none hV
  obtain ⟨x, rfl, hx, hwx⟩ := open_val (hval 0 48 v0 rfl rfl) h0
  obtain ⟨zsa, zsc, zs, rfl, hzs, rzs⟩ := open_u8s (hval 1 87 v1 rfl rfl) h1
  obtain ⟨ona, onc, on, rfl, honc, hon, eon, kon⟩ := open_sts (hval 2 81 v2 rfl rfl) h2
  have hbulk : Rows.uptoBulkAll [d0, d1, d2] ≤ 1048576 := by
    simp only [List.append_nil] at hk
    exact of_decide_eq_true hk
  simp only [Rows.uptoBulkAll] at hbulk
  have bon := sts_bulk eon (n := 1048576) (by omega)
  have fon := fit_of_bulk bon kon
  simp only [List.append_nil] at hW'
  refine (pon W x zsa zsc zs ona onc on hx (by omega) hzs rzs hon fon.1 (by omega) (laidW.shorts_of4 hL) (laidW.pow_of4 hL)).mono fun e W' ⟨he, hg⟩ => ?_
  subst he
  have lt0 : ∀ x ∈ p0, x.block < W.heap.size := fun x hx => hW'.lt x (by simp [hx])
  have lt1 : ∀ x ∈ p1, x.block < W.heap.size := fun x hx => hW'.lt x (by simp [hx])
  have lt2 : ∀ x ∈ p2, x.block < W.heap.size := fun x hx => hW'.lt x (by simp [hx])
  refine ⟨_, rfl, _, _, _, [], p0 ++ (p1 ++ (p2 ++ [])), [], hW', trodAll_cons_mk (shut_bool Tryz.underlying4 _) trodAll_mk0, ?_, rfl, hg.frame _, fun h => by cases h⟩
  exact trodAll_cons_mk (Below.trod laidV.laidOut (by kernel_rfl) (of_decide_eq_true (by kernel_rfl)) h0 hg lt0)
    (trodAll_cons_mk (Below.trod laidV.laidOut (by kernel_rfl) (of_decide_eq_true (by kernel_rfl)) h1 hg lt1)
    (trodAll_cons_mk (Below.trod laidV.laidOut (by kernel_rfl) (of_decide_eq_true (by kernel_rfl)) h2 hg lt2)
    trodAll_mk0))

def args0 : Array Value := #[.agg #[.int .u8 0, .string ⟨#[]⟩, .slice none 0 0, .slice none 0 0], .slice none 0 0, .slice none 0 0]
theorem reads (os : Os) {H : Type} (enc : TypeId × Value → H) : ∃ places, DataW.whole enc Tryz.prog ((laidW.world os).forCall (fun _ _ => 0) ⟨#[], args0, []⟩).memory Tryz.f10.params.toList Rows.pathsOnSpec.vars false args0.toList 8 = some ([.agg [.lit (.int .u8 0), .lit (.string []), .nil, .nil], .nil, .nil], [], places) :=
  ⟨[], by kernel_rfl⟩

set_option maxRecDepth 100000 in
theorem lifted (os : Os) (started : os.Started) (H : Type) (enc : TypeId × Value → H) (F : Stop.Interp) :
    ReturnsInHanded {} Tryz.checked os 10 .any ((Rows.OpenSpec.upto Rows.pathsOnSpec).preRow enc Tryz.prog Tryz.f10 Rows.pathsOnUptoRow.domain false Rows.pathsOnUptoRow.laid) (((Rows.OpenSpec.upto Rows.pathsOnSpec).at F).post enc Tryz.prog Tryz.f10 false true false false) := by
  obtain ⟨places, hx⟩ := reads os enc
  refine returnsInHanded_of_row (C := Tryz.checked) (s := Rows.OpenSpec.upto Rows.pathsOnSpec) laidV.own started (by kernel_rfl) Tryz.func10
    (witness_row_at (enc := enc) (C := Tryz.checked) false (laidW.world os) args0 rfl (by kernel_rfl) (by kernel_rfl) (by kernel_rfl)
      (OpenSpec.preRow_of_cond 8 hx (by kernel_rfl) (fun k hk => by cases hk; kernel_rfl) (by kernel_rfl) (laidW.met4 os _))) ?_
  intro W base args ds gs before hval hW _ hcond _ hL _ _
  exact contract H enc W base args ds gs before hval hW hL (hcond _ rfl)

theorem saidUpto : Rows.PathsOnUptoSaid :=
  OpenClaim.holds_of_cond 10 Tryz.f10 rfl rfl rfl rfl rfl rfl rfl ⟨rfl, rfl, rfl, rfl, rfl⟩ rfl rfl rfl rfl rfl (by kernel_rfl) Tryz.func10 (by kernel_rfl)
    (of_decide_eq_true (by kernel_rfl)) (by unfold Func.isWrapper; first | (rw [if_pos (by decide +kernel)]; kernel_rfl) | (rw [if_neg (by decide +kernel)]; exact ⟨rfl, rfl⟩))
    (fun os started H enc _ F => by rw [OpenClaim.pre_eq_preRow]; exact lifted os started H enc F)

theorem plain (f : FuncId) (fn : Func) (hf : Tryz.pinned.checked.prog.funcNamed "inarch/inarchlaw16.PathsOn" = some f) (hfn : Tryz.pinned.checked.prog.funcs[f]? = some fn) :
    false = Tryz.pinned.checked.prog.looks [] ∧ ∀ (j : Nat) t, fn.params[j]? = some t → Tryz.pinned.checked.prog.wantsStandIn t = false := by
  obtain rfl : f = 10 := Option.some.inj ((show Tryz.prog.funcNamed "inarch/inarchlaw16.PathsOn" = some 10 by kernel_rfl).symm.trans hf) |>.symm
  obtain rfl : fn = Tryz.f10 := (Option.some.inj (Tryz.func10.symm.trans hfn)).symm
  refine ⟨by kernel_rfl, fun j t ht => ?_⟩
  rw [Tryz.params10] at ht
  have hm := Array.mem_of_getElem? ht
  simp only [List.mem_toArray, List.mem_cons, List.not_mem_nil, or_false] at hm
  rcases hm with rfl | rfl | rfl
  · exact (show Tryz.prog.wantsStandIn 48 = false by kernel_rfl)
  · exact (show Tryz.prog.wantsStandIn 87 = false by kernel_rfl)
  · exact (show Tryz.prog.wantsStandIn 81 = false by kernel_rfl)

theorem cardUpto : Rows.PathsOnUptoCardSaid :=
  Claim7.holds_tied_plain_at .later [] _ _ _ _ saidUpto (fun _ h => by cases h) (by kernel_rfl) (fun _ h => by cases h) pathsOnUpto_row_tie rfl ⟨rfl, rfl⟩ (by kernel_rfl) rfl plain (by kernel_rfl)
end Go.Proofs.YtcpdogjcofkpcaaGreatDoor.pathsOnLaw
