/-
  inarchlaw23.ChunksOf answers true at whatever arguments, and these read afterwards as they read before. Conditions: what the call reads is of bulk at most 1048576; the listed variables hold what the program's text lays (the card ties them).
-/
import Derived.Test.YtjihepdjcbpgoaaGreatDoorCards
import Derived.Test.YtjihepdjcbpgoaaGreatDoorTie
import Derived.Test.YtjihepdjcbpgoaaGreatDoorCH
import Derived.Test.YtjihepdjcbpgoaaGreatDoorOpenV
import Derived.Test.YtjihepdjcbpgoaaGreatDoorKF
import Derived.Test.YtjihepdjcbpgoaaGreatDoorRows
import Derived.Lib.LaidTab
import Derived.Deep.DeepHandedRow
import Derived.RowKitTokens
import Derived.OpenShut
import Derived.Test.YtjihepdjcbpgoaaGreatDoorSE
import Derived.Stop.LaidErr
namespace Go.Proofs.YtjihepdjcbpgoaaGreatDoor
open Go.RowKit Go.ChangeShapes Go.WideShapes Go.Deep Go.Joins

section
variable {H : Type} {enc : TypeId × Value → H} {w : World}

set_option maxRecDepth 100000 in
theorem cells_list {cs : List Value} {fuel : Nat} {x : DataW H × List MemPlace} (h : DataW.trod enc Tryz.prog w 0 (fun _ => true) true fuel 23 cs = some x) :
    ∃ y : LA, cs = y.enc ∧ SlE AV.enc 4 w 0 w.heap.size y.a y.l ∧ (∀ z ∈ y.l, Rd w z) ∧ (y.l.map AV.w).sum ≤ Rows.uptoBulk x.1 := by
  rcases open_slice Tryz.underlying23 h with ⟨hcs, hx2⟩ | ⟨a, len, cap, m, n', D, Pl, hcs, _, hl, hm, hmm, hx2, hi⟩
  · exact ⟨⟨none, [], 0⟩, hcs, SlE.nil, by simp, by simp⟩
  · simp only [if_true] at hmm
    subst hmm
    rw [show Tryz.prog.cellsOf 26 = 4 by kernel_rfl] at hi
    have key : ∀ i, ∃ z : AV, i < len → (∀ j u, z.enc[j]? = some u → w.cell? (a.add (i * 4 + j)) = some u) ∧ Rd w z ∧ z.w ≤ Rows.uptoBulk (D i) := by
      intro i
      by_cases hil : i < len
      · obtain ⟨cs', hc, ht⟩ := hi i (by omega)
        obtain ⟨z, hz, hr, hb, -, -⟩ := cells_val _ cs' n' (D i, Pl i) (Nat.lt_succ_self _) ht
        obtain ⟨_, hcl, hat⟩ := World.cells?_some hc
        refine ⟨z, fun _ => ⟨fun j u hu => ?_, hr, hb⟩⟩
        have hj : j < 4 := by have := (List.getElem?_eq_some_iff.1 hu).1; simpa [AV.enc] using this
        have := hat j hj
        rw [Go.Deep.add_add] at this
        rw [this, hz, hu]
      · exact ⟨⟨0, ⟨#[]⟩, none, 0, [], none, 0, []⟩, fun h => absurd h hil⟩
    obtain ⟨f, hf⟩ := Classical.axiomOfChoice key
    refine ⟨⟨some a, (List.range len).map f, m⟩, by simpa [LA.enc] using hcs, ?_, ?_, ?_⟩
    · intro hl0
      simp only [List.length_map, List.length_range] at hl0
      obtain ⟨b, off, spot⟩ := a
      have h00 := (hf 0 hl0).1 0 _ rfl
      have hsp := spot_none h00
      subst hsp
      have hb : b < w.heap.size := by rw [add_none] at h00; exact World.block_lt_of_cell? w _ h00
      refine ⟨b, off, rfl, Nat.zero_le _, hb, hb, fun i x hx' j u hu => ?_⟩
      have hil : i < len := by have := (List.getElem?_eq_some_iff.1 hx').1; simpa using this
      have hfx : f i = x := by simpa [hil] using hx'
      subst hfx
      have := (hf i hil).1 j u hu
      rw [add_none] at this
      rw [Nat.add_assoc]
      exact this
    · intro z hz
      obtain ⟨i, hil, rfl⟩ := List.mem_map.1 hz
      exact (hf i (by simpa using hil)).2.1
    · rw [hx2]
      have := bulk_sum (fun i => (f i).w) D (List.range len) fun i hi => (hf i (by simpa using hi)).2.2
      simp only [Rows.uptoBulk, List.map_map]
      have e : (List.map (AV.w ∘ f) (List.range len)).sum = (List.map (fun i => (f i).w) (List.range len)).sum := rfl
      omega
theorem LA.rd_of {y : LA} (h1 : SlE AV.enc 4 w 0 w.heap.size y.a y.l) (h2 : ∀ z ∈ y.l, Go.Proofs.YtjihepdjcbpgoaaGreatDoor.Rd w z) {n : Nat} (h3 : (y.l.map AV.w).sum ≤ n) (hn : n ≤ 1048576) : y.Rd w := by
  refine ⟨h1, ?_, fun z hz => ⟨h2 z hz, ?_⟩⟩
  · have := len_sum AV.w (fun z => Val.w_pos z.v) y.l
    omega
  · have := le_sum AV.w hz
    omega
set_option maxRecDepth 100000 in
theorem open_list {v : Value} {d : DataW H} {p : List MemPlace} {r : Reach} {b0 : Nat} (hv : Value.okWide Tryz.prog w r b0 23 v) (h : DataW.Trod enc Tryz.prog w 0 (fun _ => true) true 23 v d p) (hn : Rows.uptoBulk d ≤ 1048576) :
    ∃ y : LA, v = .slice y.a y.l.length y.c ∧ y.Rd w := by
  obtain ⟨a, l, c, rfl⟩ := okWide_slice Tryz.underlying23 hv
  obtain ⟨fuel, hf⟩ := h
  obtain ⟨y, hy, h1, h2, h3⟩ := cells_list hf
  refine ⟨y, ?_, LA.rd_of h1 h2 h3 hn⟩
  simpa [Value.cells, LA.enc] using hy
set_option maxRecDepth 100000 in
theorem open_lists {v : Value} {d : DataW H} {p : List MemPlace} {r : Reach} {b0 : Nat} (hv : Value.okWide Tryz.prog w r b0 38 v) (h : DataW.Trod enc Tryz.prog w 0 (fun _ => true) true 38 v d p) (hn : Rows.uptoBulk d ≤ 1048576) :
    ∃ x y z : LA, v = .agg #[.slice x.a x.l.length x.c, .slice y.a y.l.length y.c, .slice z.a z.l.length z.c] ∧ x.Rd w ∧ y.Rd w ∧ z.Rd w := by
  obtain ⟨fuel, hf⟩ := h
  obtain ⟨xs, m, -, hx, hl, hxl, hg⟩ := DataW.trod_array Tryz.underlying38 hf
  have hv' : ∃ cs, v = .agg cs := by
    simp only [Value.okWide, Tryz.underlying38] at hv
    obtain ⟨cs, h1, -⟩ := hv
    exact ⟨cs, h1⟩
  obtain ⟨cs, rfl⟩ := hv'
  rw [show Tryz.prog.cellsOf 38 = 3 by kernel_rfl] at hl
  rw [show Tryz.prog.cellsOf 23 = 1 by kernel_rfl] at hg
  simp only [Value.cells] at hl hg
  obtain ⟨c0, c1, c2, rfl⟩ := Go.Joins.array3 (cs := cs) (by simpa using hl)
  match xs, hxl with
  | [x0, x1, x2], _ =>
    have f0 : DataW.trod enc Tryz.prog w 0 (fun _ => true) true m 23 [c0] = some x0 := hg 0 (by omega)
    have f1 : DataW.trod enc Tryz.prog w 0 (fun _ => true) true m 23 [c1] = some x1 := hg 1 (by omega)
    have f2 : DataW.trod enc Tryz.prog w 0 (fun _ => true) true m 23 [c2] = some x2 := hg 2 (by omega)
    obtain ⟨x, hx', g1, g2, g3⟩ := cells_list f0
    obtain ⟨y, hy', k1, k2, k3⟩ := cells_list f1
    obtain ⟨z, hz', l1, l2, l3⟩ := cells_list f2
    have hd : d = .agg [x0.1, x1.1, x2.1] := by simpa using (Prod.mk.inj hx).1
    rw [hd] at hn
    simp only [Rows.uptoBulk, Rows.uptoBulkAll] at hn
    simp only [LA.enc, List.cons.injEq, and_true] at hx' hy' hz'
    exact ⟨x, y, z, by rw [hx', hy', hz'], LA.rd_of g1 g2 g3 (by omega), LA.rd_of k1 k2 k3 (by omega), LA.rd_of l1 l2 l3 (by omega)⟩

end
end Go.Proofs.YtjihepdjcbpgoaaGreatDoor

namespace Go.Proofs.YtjihepdjcbpgoaaGreatDoor.laidV
open Go.ChangeShapes Go.WideShapes Go.ChangeAt Go.RowKit

theorem own : ownKnob Tryz.prog.godebug = none := by kernel_rfl
theorem laidOut : laidOutB Tryz.prog = true := by kernel_rfl
/-- A block's cells, laid anew. -/
noncomputable def lay (h : Array Obj) (g : Nat) (cs : Array Value) : Array Obj := h.modify g fun
  | .cells _ t frozen => .cells cs t frozen
  | o => o
end Go.Proofs.YtjihepdjcbpgoaaGreatDoor.laidV

namespace Go.Proofs.YtjihepdjcbpgoaaGreatDoor.laidW
open Go.ChangeShapes Go.WideShapes Go.ChangeAt Go.RowKit

theorem gPow : Tryz.prog.globalNamed "internal/strconv.uint64pow10" = some 1 := by kernel_rfl
theorem gPowType : (Tryz.prog.globals[1]?).map (·.type) = some 218 := by kernel_rfl
theorem gPowArray : Tryz.prog.underlying 218 = some (.array 20 169) := Tryz.underlying218
theorem gPowElem : Tryz.prog.underlying 169 = some (.int .u64) := Tryz.underlying169
abbrev list3 : List (String × DataW Unit) := [("math/bits.deBruijn32tab", Rows.laid_math_bits_deBruijn32tab), ("math/bits.deBruijn64tab", Rows.laid_math_bits_deBruijn64tab), ("internal/strconv.uint64pow10", Rows.laid_internal_strconv_uint64pow10)]
theorem pow_of3 {W : World} (h : laidMet Tryz.prog list3 W) : Pow W := by
  have h3 : laidMet Tryz.prog [("internal/strconv.uint64pow10", Rows.laid_internal_strconv_uint64pow10)] W := laidMet.tail (laidMet.tail h)
  exact Lib.tabIs_of_head (zs := Lib.pow10Tab) gPow gPowType gPowArray gPowElem (by kernel_rfl) (by kernel_rfl) h3
/-- A world for the witness. -/
noncomputable def world (os : Os) : World :=
  let w0 := World.holding Tryz.prog os ⟨#[], #[], []⟩
  { w0 with heap := laidV.lay (laidV.lay (laidV.lay w0.heap 2 #[.int .u8 0, .int .u8 1, .int .u8 28, .int .u8 2, .int .u8 29, .int .u8 14, .int .u8 24, .int .u8 3, .int .u8 30, .int .u8 22, .int .u8 20, .int .u8 15, .int .u8 25, .int .u8 17, .int .u8 4, .int .u8 8, .int .u8 31, .int .u8 27, .int .u8 13, .int .u8 23, .int .u8 21, .int .u8 19, .int .u8 16, .int .u8 7, .int .u8 26, .int .u8 12, .int .u8 18, .int .u8 6, .int .u8 11, .int .u8 5, .int .u8 10, .int .u8 9]) 3 #[.int .u8 0, .int .u8 1, .int .u8 56, .int .u8 2, .int .u8 57, .int .u8 49, .int .u8 28, .int .u8 3, .int .u8 61, .int .u8 58, .int .u8 42, .int .u8 50, .int .u8 38, .int .u8 29, .int .u8 17, .int .u8 4, .int .u8 62, .int .u8 47, .int .u8 59, .int .u8 36, .int .u8 45, .int .u8 43, .int .u8 51, .int .u8 22, .int .u8 53, .int .u8 39, .int .u8 33, .int .u8 30, .int .u8 24, .int .u8 18, .int .u8 12, .int .u8 5, .int .u8 63, .int .u8 55, .int .u8 48, .int .u8 27, .int .u8 60, .int .u8 41, .int .u8 37, .int .u8 16, .int .u8 46, .int .u8 35, .int .u8 44, .int .u8 21, .int .u8 52, .int .u8 32, .int .u8 23, .int .u8 11, .int .u8 54, .int .u8 26, .int .u8 40, .int .u8 15, .int .u8 34, .int .u8 20, .int .u8 31, .int .u8 10, .int .u8 25, .int .u8 14, .int .u8 19, .int .u8 9, .int .u8 13, .int .u8 8, .int .u8 7, .int .u8 6]) 1 #[.int .u64 1, .int .u64 10, .int .u64 100, .int .u64 1000, .int .u64 10000, .int .u64 100000, .int .u64 1000000, .int .u64 10000000, .int .u64 100000000, .int .u64 1000000000, .int .u64 10000000000, .int .u64 100000000000, .int .u64 1000000000000, .int .u64 10000000000000, .int .u64 100000000000000, .int .u64 1000000000000000, .int .u64 10000000000000000, .int .u64 100000000000000000, .int .u64 1000000000000000000, .int .u64 10000000000000000000] }
theorem met3 (os : Os) (args : Array Value) : laidMet Tryz.prog list3 ((world os).forCall (fun _ _ => 0) ⟨#[], args, []⟩).memory :=
  laidMet_of_run' 8 (by kernel_rfl) (by kernel_rfl)
end Go.Proofs.YtjihepdjcbpgoaaGreatDoor.laidW

namespace Go.Proofs.YtjihepdjcbpgoaaGreatDoor.chunksOfLaw
open Go.ChangeShapes Go.WideShapes Go.ChangeAt Go.RowKit


set_option maxRecDepth 100000 in
theorem contract (H : Type) (enc : TypeId × Value → H) (W : World) (base : Nat) (args : Array Value) (ds gs : List (DataW H)) (before : List MemPlace)
    (hval : ∀ (j : Nat) t v, Tryz.f8.params[j]? = some t → args[j]? = some v → Value.okWide Tryz.prog W .any base t v)
    (hW : DataW.Whole enc Tryz.prog Tryz.f8.params.toList Rows.chunksOfSpec.vars false W args.toList ds gs before) (hL : laidMetH Tryz.prog Rows.chunksOfRow.laid W) (hk : Rows.uptoSmall H (ds ++ gs) = true) :
    Calls Tryz.prog 8 args W fun e W' => ∃ v, e = .returned v ∧ Rows.chunksOfSpec.post enc Tryz.prog Tryz.f8 false true false false W args v W' := by
  have hW' := hW
  obtain ⟨p, q, hA0, hV, rfl, hfz, hnd⟩ := hW
  have hA : DataW.TrodAll enc Tryz.prog W 0 (fun _ => true) true Tryz.f8.params.toList args.toList ds p := hA0
  rw [Tryz.params8] at hA hval
  obtain ⟨v0, vs0, d0, ds0, p0, q0, hargs, rfl, rfl, h0, r0⟩ := trodAll_cons hA
  obtain ⟨v1, vs1, d1, ds1, p1, q1, rfl, rfl, rfl, h1, r1⟩ := trodAll_cons r0
  obtain ⟨v2, vs2, d2, ds2, p2, q2, rfl, rfl, rfl, h2, r2⟩ := trodAll_cons r1
  obtain ⟨rfl, rfl, rfl⟩ := trodAll_nil r2
  obtain rfl : args = #[v0, v1, v2] := by cases args; simp_all
  obtain ⟨rfl, rfl⟩ := trodVars_none hV
  have hbulk : Rows.uptoBulkAll [d0, d1, d2] ≤ 1048576 := by
    simp only [List.append_nil] at hk
    exact of_decide_eq_true hk
  simp only [Rows.uptoBulkAll] at hbulk
  obtain ⟨x, rfl, hx⟩ := open_list (hval 0 23 v0 rfl rfl) h0 (by omega)
  obtain ⟨y, rfl, hy⟩ := open_list (hval 1 23 v1 rfl rfl) h1 (by omega)
  obtain ⟨z, rfl, hz⟩ := open_list (hval 2 23 v2 rfl rfl) h2 (by omega)
  simp only [List.append_nil] at hW'
  refine (cof W x y z hx hy hz (laidW.pow_of3 hL)).mono fun e W' ⟨he, hg⟩ => ?_
  subst he
  have lt0 : ∀ x ∈ p0, x.block < W.heap.size := fun x hx => hW'.lt x (by simp [hx])
  have lt1 : ∀ x ∈ p1, x.block < W.heap.size := fun x hx => hW'.lt x (by simp [hx])
  have lt2 : ∀ x ∈ p2, x.block < W.heap.size := fun x hx => hW'.lt x (by simp [hx])
  refine ⟨_, rfl, _, _, _, [], p0 ++ (p1 ++ (p2 ++ [])), [], hW', trodAll_cons_mk (shut_bool Tryz.underlying4 _) trodAll_mk0, ?_, rfl, hg.frame _, fun h => by cases h⟩
  exact trodAll_cons_mk (Below.trod laidV.laidOut (by kernel_rfl) (of_decide_eq_true (by kernel_rfl)) h0 hg lt0)
    (trodAll_cons_mk (Below.trod laidV.laidOut (by kernel_rfl) (of_decide_eq_true (by kernel_rfl)) h1 hg lt1)
    (trodAll_cons_mk (Below.trod laidV.laidOut (by kernel_rfl) (of_decide_eq_true (by kernel_rfl)) h2 hg lt2)
    trodAll_mk0))

def args0 : Array Value := #[.slice none 0 0, .slice none 0 0, .slice none 0 0]
theorem reads (os : Os) {H : Type} (enc : TypeId × Value → H) : ∃ places, DataW.whole enc Tryz.prog ((laidW.world os).forCall (fun _ _ => 0) ⟨#[], args0, []⟩).memory Tryz.f8.params.toList Rows.chunksOfSpec.vars false args0.toList 8 = some ([.nil, .nil, .nil], [], places) :=
  ⟨[], by kernel_rfl⟩

set_option maxRecDepth 100000 in
theorem lifted (os : Os) (started : os.Started) (H : Type) (enc : TypeId × Value → H) (F : Stop.Interp) :
    ReturnsInHanded {} Tryz.checked os 8 .any ((Rows.OpenSpec.upto Rows.chunksOfSpec).preRow enc Tryz.prog Tryz.f8 Rows.chunksOfUptoRow.domain false Rows.chunksOfUptoRow.laid) (((Rows.OpenSpec.upto Rows.chunksOfSpec).at F).post enc Tryz.prog Tryz.f8 false true false false) := by
  obtain ⟨places, hx⟩ := reads os enc
  refine returnsInHanded_of_row (C := Tryz.checked) (s := Rows.OpenSpec.upto Rows.chunksOfSpec) laidV.own started (by kernel_rfl) Tryz.func8
    (witness_row_at (enc := enc) (C := Tryz.checked) false (laidW.world os) args0 rfl (by kernel_rfl) (by kernel_rfl) (by kernel_rfl)
      (OpenSpec.preRow_of_cond 8 hx (by kernel_rfl) (fun k hk => by cases hk; kernel_rfl) (by kernel_rfl) (laidW.met3 os _))) ?_
  intro W base args ds gs before hval hW _ hcond _ hL _ _
  exact contract H enc W base args ds gs before hval hW hL (hcond _ rfl)

theorem saidUpto : Rows.ChunksOfUptoSaid :=
  OpenClaim.holds_of_cond 8 Tryz.f8 rfl rfl rfl rfl rfl rfl rfl ⟨rfl, rfl, rfl, rfl, rfl⟩ rfl rfl rfl rfl rfl (by kernel_rfl) Tryz.func8 (by kernel_rfl)
    (of_decide_eq_true (by kernel_rfl)) (by unfold Func.isWrapper; first | (rw [if_pos (by decide +kernel)]; kernel_rfl) | (rw [if_neg (by decide +kernel)]; exact ⟨rfl, rfl⟩))
    (fun os started H enc _ F => by rw [OpenClaim.pre_eq_preRow]; exact lifted os started H enc F)

theorem plain (f : FuncId) (fn : Func) (hf : Tryz.pinned.checked.prog.funcNamed "inarch/inarchlaw23.ChunksOf" = some f) (hfn : Tryz.pinned.checked.prog.funcs[f]? = some fn) :
    false = Tryz.pinned.checked.prog.looks [] ∧ ∀ (j : Nat) t, fn.params[j]? = some t → Tryz.pinned.checked.prog.wantsStandIn t = false := by
  obtain rfl : f = 8 := Option.some.inj ((show Tryz.prog.funcNamed "inarch/inarchlaw23.ChunksOf" = some 8 by kernel_rfl).symm.trans hf) |>.symm
  obtain rfl : fn = Tryz.f8 := (Option.some.inj (Tryz.func8.symm.trans hfn)).symm
  refine ⟨by kernel_rfl, fun j t ht => ?_⟩
  rw [Tryz.params8] at ht
  have hm := Array.mem_of_getElem? ht
  simp only [List.mem_toArray, List.mem_cons, List.not_mem_nil, or_false] at hm
  rcases hm with rfl | rfl | rfl
  · exact (show Tryz.prog.wantsStandIn 23 = false by kernel_rfl)
  · exact (show Tryz.prog.wantsStandIn 23 = false by kernel_rfl)
  · exact (show Tryz.prog.wantsStandIn 23 = false by kernel_rfl)

theorem cardUpto : Rows.ChunksOfUptoCardSaid :=
  Claim7.holds_tied_plain_at .later [] _ _ _ _ saidUpto (fun _ h => by cases h) (by kernel_rfl) (fun _ h => by cases h) chunksOfUpto_row_tie rfl ⟨rfl, rfl⟩ (by kernel_rfl) rfl plain (by kernel_rfl)
end Go.Proofs.YtjihepdjcbpgoaaGreatDoor.chunksOfLaw
