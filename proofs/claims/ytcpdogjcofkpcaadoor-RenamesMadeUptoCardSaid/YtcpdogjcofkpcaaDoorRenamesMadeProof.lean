/-
  inarchlaw24.RenamesMade answers true at whatever arguments, and these read afterwards as they read before. Conditions: what the call reads is of bulk at most 1048576; the listed variables hold what the program's text lays (the card ties them).
-/
import Derived.Test.YtcpdogjcofkpcaaDoorCards
import Derived.Test.YtcpdogjcofkpcaaDoorTie
import Derived.Test.YtcpdogjcofkpcaaDoorNM
import Derived.Test.YtcpdogjcofkpcaaDoorOpenV
import Derived.Test.YtcpdogjcofkpcaaDoorLaidW
namespace Go.Proofs.YtcpdogjcofkpcaaDoor.renamesMadeLaw
open Go.ChangeShapes Go.WideShapes Go.ChangeAt Go.RowKit
open Go.ChangeMaps (open_string)

theorem rmade (w : World) (x : AV) (at_ : Nat) (s : ByteArray) (hat : at_ < 65536) (hx : Rd w x) (hwx : x.w ≤ 1048576) (hP : Pow w) :
    Calls Tryd.prog 6 #[x.val, .int .u16 at_, .string s] w (Ret (.bool true) w) := by
  by_cases h0 : 1500 < x.v.w
  · exact rmade_out0 w x at_ s hx hwx hP h0
  cases h1 : x.v.may with
  | false => exact rmade_out1 w x at_ s hx hwx hP h0 h1
  | true =>
    by_cases h2 : x.k = 8
    · by_cases h3 : x.ks.length = 0
      · exact rmade_out3 w x at_ s hx hwx hP h0 h1 h2 h3
      · by_cases h4 : 100 < s.size
        · exact rmade_out4 w x at_ s hx hwx hP h0 h1 h2 (by omega) h4
        · cases hg : x.v.get s with
          | none => exact rmade_in w x at_ s hx hwx hP h0 h1 h2 (by omega) h4 hat hg
          | some v => exact rmade_out5 w x at_ s hx hwx hP h0 h1 h2 (by omega) h4 hat v hg
    · exact rmade_out2 w x at_ s hx hwx hP h0 h1 h2

set_option maxRecDepth 100000 in
theorem contract (H : Type) (enc : TypeId × Value → H) (W : World) (base : Nat) (args : Array Value) (ds gs : List (DataW H)) (before : List MemPlace)
    (hval : ∀ (j : Nat) t v, Tryd.f6.params[j]? = some t → args[j]? = some v → Value.okWide Tryd.prog W .any base t v)
    (hW : DataW.Whole enc Tryd.prog Tryd.f6.params.toList Rows.renamesMadeSpec.vars false W args.toList ds gs before) (hL : laidMetH Tryd.prog Rows.renamesMadeRow.laid W) (hk : Rows.uptoSmall H (ds ++ gs) = true) :
    Calls Tryd.prog 6 args W fun e W' => ∃ v, e = .returned v ∧ Rows.renamesMadeSpec.post enc Tryd.prog Tryd.f6 false true false false W args v W' := by
  have hW' := hW
  obtain ⟨p, q, hA0, hV, rfl, hfz, hnd⟩ := hW
  have hA : DataW.TrodAll enc Tryd.prog W 0 (fun _ => true) true Tryd.f6.params.toList args.toList ds p := hA0
  rw [Tryd.params6] at hA hval
  obtain ⟨v0, vs0, d0, ds0, p0, q0, hargs, rfl, rfl, h0, r0⟩ := trodAll_cons hA
  obtain ⟨v1, vs1, d1, ds1, p1, q1, rfl, rfl, rfl, h1, r1⟩ := trodAll_cons r0
  obtain ⟨v2, vs2, d2, ds2, p2, q2, rfl, rfl, rfl, h2, r2⟩ := trodAll_cons r1
  obtain ⟨rfl, rfl, rfl⟩ := trodAll_nil r2
  obtain rfl : args = #[v0, v1, v2] := by cases args; simp_all
  obtain ⟨rfl, rfl⟩ := trodVars_none hV
  obtain ⟨x, rfl, hx, hwx⟩ := open_val (hval 0 26 v0 rfl rfl) h0
  have h1' := h1
  obtain ⟨n1, rfl, _, _, b1⟩ := open_int Tryd.underlying42 (hval 1 42 v1 rfl rfl) h1'
  simp [Lit.wf, IntKind.min, IntKind.max, IntKind.signed, IntKind.bits] at b1
  have h2' := h2
  obtain ⟨s, rfl, e2, _⟩ := open_string Tryd.underlying9 (hval 2 9 v2 rfl rfl) h2'
  have hbulk : Rows.uptoBulkAll [d0, d1, d2] ≤ 1048576 := by
    simp only [List.append_nil] at hk
    exact of_decide_eq_true hk
  simp only [Rows.uptoBulkAll, e2, Rows.uptoBulk] at hbulk
  obtain ⟨m, rfl⟩ := Int.eq_ofNat_of_zero_le b1.1
  have hss : s.size ≤ 1048576 := by
    have : s.data.toList.length = s.size := by simp
    omega
  simp only [List.append_nil] at hW'
  refine (rmade W x m s (by omega) hx (by omega) (laidW.pow_of3 hL)).mono fun e W' ⟨he, hg⟩ => ?_
  subst he
  have lt0 : ∀ x ∈ p0, x.block < W.heap.size := fun x hx => hW'.lt x (by simp [hx])
  have lt1 : ∀ x ∈ p1, x.block < W.heap.size := fun x hx => hW'.lt x (by simp [hx])
  have lt2 : ∀ x ∈ p2, x.block < W.heap.size := fun x hx => hW'.lt x (by simp [hx])
  refine ⟨_, rfl, _, _, _, [], p0 ++ (p1 ++ (p2 ++ [])), [], hW', trodAll_cons_mk (shut_bool Tryd.underlying4 _) trodAll_mk0, ?_, rfl, hg.frame _, fun h => by cases h⟩
  exact trodAll_cons_mk (Below.trod laidV.laidOut (by kernel_rfl) (of_decide_eq_true (by kernel_rfl)) h0 hg lt0)
    (trodAll_cons_mk (Below.trod laidV.laidOut (by kernel_rfl) (of_decide_eq_true (by kernel_rfl)) h1 hg lt1)
    (trodAll_cons_mk (Below.trod laidV.laidOut (by kernel_rfl) (of_decide_eq_true (by kernel_rfl)) h2 hg lt2)
    trodAll_mk0))

def args0 : Array Value := #[.agg #[.int .u8 0, .string ⟨#[]⟩, .slice none 0 0, .slice none 0 0], .int .u16 0, .string ⟨#[]⟩]
theorem reads (os : Os) {H : Type} (enc : TypeId × Value → H) : ∃ places, DataW.whole enc Tryd.prog ((laidW.world os).forCall (fun _ _ => 0) ⟨#[], args0, []⟩).memory Tryd.f6.params.toList Rows.renamesMadeSpec.vars false args0.toList 8 = some ([.agg [.lit (.int .u8 0), .lit (.string []), .nil, .nil], .lit (.int .u16 0), .lit (.string [])], [], places) :=
  ⟨[], by kernel_rfl⟩

set_option maxRecDepth 100000 in
theorem lifted (os : Os) (started : os.Started) (H : Type) (enc : TypeId × Value → H) (F : Stop.Interp) :
    ReturnsInHanded {} Tryd.checked os 6 .any ((Rows.OpenSpec.upto Rows.renamesMadeSpec).preRow enc Tryd.prog Tryd.f6 Rows.renamesMadeUptoRow.domain false Rows.renamesMadeUptoRow.laid) (((Rows.OpenSpec.upto Rows.renamesMadeSpec).at F).post enc Tryd.prog Tryd.f6 false true false false) := by
  obtain ⟨places, hx⟩ := reads os enc
  refine returnsInHanded_of_row (C := Tryd.checked) (s := Rows.OpenSpec.upto Rows.renamesMadeSpec) laidV.own started (by kernel_rfl) Tryd.func6
    (witness_row_at (enc := enc) (C := Tryd.checked) false (laidW.world os) args0 rfl (by kernel_rfl) (by kernel_rfl) (by kernel_rfl)
      (OpenSpec.preRow_of_cond 8 hx (by kernel_rfl) (fun k hk => by cases hk; kernel_rfl) (by kernel_rfl) (laidW.met3 os _))) ?_
  intro W base args ds gs before hval hW _ hcond _ hL _ _
  exact contract H enc W base args ds gs before hval hW hL (hcond _ rfl)

theorem saidUpto : Rows.RenamesMadeUptoSaid :=
  OpenClaim.holds_of_cond 6 Tryd.f6 rfl rfl rfl rfl rfl rfl rfl ⟨rfl, rfl, rfl, rfl, rfl⟩ rfl rfl rfl rfl rfl (by kernel_rfl) Tryd.func6 (by kernel_rfl)
    (of_decide_eq_true (by kernel_rfl)) (by unfold Func.isWrapper; first | (rw [if_pos (by decide +kernel)]; kernel_rfl) | (rw [if_neg (by decide +kernel)]; exact ⟨rfl, rfl⟩))
    (fun os started H enc _ F => by rw [OpenClaim.pre_eq_preRow]; exact lifted os started H enc F)

theorem plain (f : FuncId) (fn : Func) (hf : Tryd.pinned.checked.prog.funcNamed "inarch/inarchlaw24.RenamesMade" = some f) (hfn : Tryd.pinned.checked.prog.funcs[f]? = some fn) :
    false = Tryd.pinned.checked.prog.looks [] ∧ ∀ (j : Nat) t, fn.params[j]? = some t → Tryd.pinned.checked.prog.wantsStandIn t = false := by
  obtain rfl : f = 6 := Option.some.inj ((show Tryd.prog.funcNamed "inarch/inarchlaw24.RenamesMade" = some 6 by kernel_rfl).symm.trans hf) |>.symm
  obtain rfl : fn = Tryd.f6 := (Option.some.inj (Tryd.func6.symm.trans hfn)).symm
  refine ⟨by kernel_rfl, fun j t ht => ?_⟩
  rw [Tryd.params6] at ht
  have hm := Array.mem_of_getElem? ht
  simp only [List.mem_toArray, List.mem_cons, List.not_mem_nil, or_false] at hm
  rcases hm with rfl | rfl | rfl
  · exact (show Tryd.prog.wantsStandIn 26 = false by kernel_rfl)
  · exact (show Tryd.prog.wantsStandIn 42 = false by kernel_rfl)
  · exact (show Tryd.prog.wantsStandIn 9 = false by kernel_rfl)

theorem cardUpto : Rows.RenamesMadeUptoCardSaid :=
  Claim7.holds_tied_plain_at .later [] _ _ _ _ saidUpto (fun _ h => by cases h) (by kernel_rfl) (fun _ h => by cases h) renamesMadeUpto_row_tie rfl ⟨rfl, rfl⟩ (by kernel_rfl) rfl plain (by kernel_rfl)
end Go.Proofs.YtcpdogjcofkpcaaDoor.renamesMadeLaw
