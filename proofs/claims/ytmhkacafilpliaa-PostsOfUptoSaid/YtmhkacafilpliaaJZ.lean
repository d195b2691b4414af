/-
  PostsPart's walk. Conditions: the postorder lies in memory.
-/
import Derived.Test.YtmhkacafilpliaaJY
import Derived.Test.YtmhkacafilpliaaJS
import Derived.Test.YtmhkacafilpliaaJV
import Derived.Lib.ItoaWalk
namespace Go.Proofs.Ytmhkacafilpliaa
open Go.RowKit Go.Sort Go.Shelf

set_option maxRecDepth 100000 in
set_option maxHeartbeats 6400000 in
theorem ppart_out (w : World) (al af ar : Option Addr) (cl cf cr : Nat) (nl nf nr : Nat) (node : Int) (h : 100 < nl ∨ 100 < nf ∨ 100 < nr) :
    Calls Try.prog 4 #[.agg (pBox al nl cl af nf cf ar nr cr), .int .i64 node] w (Ret (.bool true) w) := by
  have hb0 := fun (o1 : Obj) => (Below.refl w.heap.size w).alloc (Nat.le_refl _) o1
  by_cases h1 : 100 < nl
  · have h1' : (100 : Int) < (nl : Int) := by omega
    clear h h1
    go_enter Try.func4, Try.ntmps4
    go_wp2_with (go_at_call 13; refine (lives19_c _).mono ?_; rintro e w2 ⟨rfl, hb2⟩)
    go_ret
    exact ⟨rfl, below_via (hb0 _) hb2⟩
  by_cases h2 : 100 < nf
  · have h1' : ¬ (100 : Int) < (nl : Int) := by omega
    have h2' : (100 : Int) < (nf : Int) := by omega
    clear h h1 h2
    go_enter Try.func4, Try.ntmps4
    go_wp2_with (go_at_call 13; refine (lives19_c _).mono ?_; rintro e w2 ⟨rfl, hb2⟩)
    go_ret
    exact ⟨rfl, below_via (hb0 _) hb2⟩
  · have h1' : ¬ (100 : Int) < (nl : Int) := by omega
    have h2' : ¬ (100 : Int) < (nf : Int) := by omega
    have h3' : (100 : Int) < (nr : Int) := by omega
    clear h h1 h2
    go_enter Try.func4, Try.ntmps4
    go_wp2_with (go_at_call 13; refine (lives19_c _).mono ?_; rintro e w2 ⟨rfl, hb2⟩)
    go_ret
    exact ⟨rfl, below_via (hb0 _) hb2⟩
theorem s_of {N : Nat} {W2 w' : World} (hb : Below N W2 w') : (∀ b o, b < N → w'.cell? ⟨b, o, none⟩ = W2.cell? ⟨b, o, none⟩) ∧ Below N W2 w' := ⟨fun b o hlt => hb.cell (p := ⟨b, o, none⟩) hlt, hb⟩
/-- A copy of labels. -/
theorem copy_lb {w : World} {lo hi : Nat} {A : Option Addr} {L : List Lab} {cl : Nat} (hr : SlE Lab.enc 4 w lo hi A L) (hn : L.length ≤ 4194304) :
    ∃ a' c' w', (∀ ty, (Builtin.append_ #[30, 30] ty #[.slice none 0 0, .slice A L.length cl]).run Try.prog w = .ok (.slice a' L.length c') w') ∧ L.length ≤ c' ∧ w'.ownsRow w.heap.size 46 4 (.slice a' L.length c') L.length (L.flatMap Lab.enc) ∧ Below w.heap.size w w' := by
  obtain ⟨i0, hi0, hz0, hz1, hz2⟩ := info_parts info_lb
  obtain ⟨v', w', h1, h2, h3, h4⟩ := run_append_sl (P := Try.prog) w Lab.enc w.heap.size 30 0 46 i0 _ 4 48 Try.underlying30 hi0 hz0 hz1 hz2 rfl (by omega) (by omega) (.slice none 0 0) 0 [] (World.ownsRow_nil _ _ _ _) lo hi A L cl hr (fun _ => rfl) Lab.enc_one (by omega) (Nat.le_refl _)
  rw [Nat.zero_add, List.nil_append] at h2
  obtain ⟨a', c', rfl, hc⟩ : ∃ a' c', v' = .slice a' L.length c' ∧ L.length ≤ c' := by
    rcases h2.2 with ⟨e, h0⟩ | ⟨g, cap, cur, e, _, _, hcap, _⟩
    · exact ⟨none, 0, by rw [e, h0], by omega⟩
    · exact ⟨_, cap, e, hcap⟩
  exact ⟨a', c', w', fun ty => h1, hc, h2, (Below.refl _ _).grown h3 (Nat.le_refl _) (by simp [Value.ownBlock])⟩
theorem bel_cell {w W : World} (hb : Below w.heap.size w W) : ∀ b o, b < w.heap.size → W.cell? ⟨b, o, none⟩ = w.cell? ⟨b, o, none⟩ := fun b o h => hb.cell (p := ⟨b, o, none⟩) h
theorem bel_froz {w W : World} (hb : Below w.heap.size w W) : ∀ b o, b < w.heap.size → W.frozen? ⟨b, o, none⟩ = w.frozen? ⟨b, o, none⟩ := fun b o h => hb.frozen (p := ⟨b, o, none⟩) h
theorem below_al {w W : World} {o : Obj} (h : Below w.heap.size w W) : Below w.heap.size w (W.alloc o) := h.alloc h.size o
theorem blk_via {w W : World} {k : Nat} {o : Obj} (h : Below w.heap.size w W) (hk : w.heap[k]? = some o) : W.heap[k]? = some o := (h.block k (Array.getElem?_eq_some_iff.1 hk).1).trans hk
/-- A copy of labels, as a step of a region that draws its order. -/
theorem st_copy_lb {ops : Array Oper} {o : Oper} {a : Act} {K : Act → World → Prop} {Q : Exit → Act → World → Prop} {E : Prop} {W5 cur : World} {lo hi : Nat} {A : Option Addr} {L : List Lab} {cl : Nat}
    (hB : Below W5.heap.size W5 cur) (hr : SlE Lab.enc 4 W5 lo hi A L) (hhi : hi ≤ W5.heap.size) (hn : L.length ≤ 4194304)
    (hgd : o.guard = none) {x : Operand} (ho : o.op = .call { callee := .builtin .append, args := #[.const (.slice none 0 0), x], argTypes := #[30, 30] }) (hx : a.eval x = .slice A L.length cl)
    (h : ∀ a' c' W', L.length ≤ c' → W'.ownsRow cur.heap.size 46 4 (.slice a' L.length c') L.length (L.flatMap Lab.enc) → Below cur.heap.size cur W' → K (a.put o.dst (.slice a' L.length c')) W') : if Region.wanted o (yielded ops a.tmps) = true then Oper.wp Try.prog o a cur K Q else E := by
  obtain ⟨a', c', W', hrun, h1, h2, h3⟩ := copy_lb (cl := cl) (hr.below hB hhi) hn
  exact st_append (s := .const (.slice none 0 0)) (x := x) hgd ho (by rw [hx]; exact hrun _) (h a' c' W' h1 h2 h3)
/-- A node's part: is it one, and its three rows. -/
def partR (L : List Lab) (F : List Int) (node : Int) : Bool × List Lab × List Int × List Int :=
  match partAt L F node with
  | some f => if partOk F f (node.toNat + 1 - f) = true then (true, partL L f (node.toNat + 1 - f), (partN F f (node.toNat + 1 - f)).map Int.ofNat, (rootsL (partN F f (node.toNat + 1 - f))).map Int.ofNat) else (false, [], [], [])
  | none => (false, [], [], [])
theorem nat_i64 (l : List Nat) : (l.map Int.ofNat).flatMap i64Z = l.flatMap natE := by
  rw [List.flatMap_map]; rfl
theorem sl_nat {w : World} {lo hi : Nat} {a : Option Addr} {l : List Nat} (h : SlE natE 1 w lo hi a l) : SlE i64Z 1 w lo hi a (l.map Int.ofNat) := fun hl => by
  obtain ⟨b, off, h1, h2, h3, h4, h5⟩ := h (by simpa using hl)
  refine ⟨b, off, h1, h2, h3, h4, fun i x hx => ?_⟩
  rw [List.getElem?_map] at hx
  cases e : l[i]? with
  | none => rw [e] at hx; cases hx
  | some n =>
    rw [e] at hx
    have : x = (n : Int) := by simpa using hx.symm
    subst this
    exact h5 i n e
theorem pa_empty (w : World) : PA.Rd ⟨none, 0, none, 0, none, 0, [], [], []⟩ w := ⟨fun h => absurd h (by simp), fun h => absurd h (by simp), fun h => absurd h (by simp), by simp⟩
theorem partR_no {L : List Lab} {F : List Int} {node : Int} (h : ∀ f, partAt L F node = some f → partOk F f (node.toNat + 1 - f) = false) : partR L F node = (false, [], [], []) := by
  unfold partR
  cases e : partAt L F node with
  | none => rfl
  | some f => simp only [h f e]; rfl
theorem partR_yes {L : List Lab} {F : List Int} {node : Int} {f : Nat} (h : partAt L F node = some f) (h2 : partOk F f (node.toNat + 1 - f) = true) : partR L F node = (true, partL L f (node.toNat + 1 - f), (partN F f (node.toNat + 1 - f)).map Int.ofNat, (rootsL (partN F f (node.toNat + 1 - f))).map Int.ofNat) := by
  unfold partR
  simp only [h, h2, if_true]
def PartU (b : Bool) (Lp : List Lab) (Fp Rp : List Int) (w : World) (e : Ending) (w' : World) : Prop :=
  ∃ a1 a2 a3, e = .returned (.tuple #[.agg (pBox a1 Lp.length Lp.length a2 Fp.length Fp.length a3 Rp.length Rp.length), .bool b]) ∧ PA.Rd ⟨a1, Lp.length, a2, Fp.length, a3, Rp.length, Lp, Fp, Rp⟩ w' ∧ Below w.heap.size w w'
def RPartU (b : Bool) (Lp : List Lab) (Fp Rp : List Int) (w : World) (e : Ending) (w' : World) : Prop :=
  ∃ a1 a2 a3 d1 d2 d3, e = .returned (.tuple #[.agg (pBox a1 Lp.length d1 a2 Fp.length d2 a3 Rp.length d3), .bool b]) ∧ PA.Rd ⟨a1, d1, a2, d2, a3, d3, Lp, Fp, Rp⟩ w' ∧ Below w.heap.size w w'
theorem partR_len {L : List Lab} {F : List Int} {node : Int} {f : Nat} (h : partAt L F node = some f) : (partL L f (node.toNat + 1 - f)).length = node.toNat + 1 - f ∧ (partN F f (node.toNat + 1 - f)).length = node.toNat + 1 - f ∧ node.toNat + 1 - f ≤ L.length := by
  obtain ⟨nd, rfl, h1, h2, h3, h4⟩ := part_at h
  have e : ((nd : Int).toNat) = nd := Int.toNat_natCast nd
  rw [e]
  exact ⟨partL_len (by omega), partN_len (by omega), by omega⟩
theorem rootsL_le (N : List Nat) : (rootsL N).length ≤ N.length := by
  unfold rootsL
  exact Nat.le_trans (List.length_filter_le _ _) (by simp)
theorem part_u {b : Bool} {Lp : List Lab} {Fp Rp : List Int} {L : List Lab} {F : List Int} {node : Int} {args : Array Value} {w : World} (hres : partR L F node = (b, Lp, Fp, Rp)) (hn : L.length ≤ 1048576) (h : Calls Try.prog 19 args w (PartPost L F node w)) :
    Calls Try.prog 19 args w (PartU b Lp Fp Rp w) := by
  refine h.mono fun e w' ⟨hb, h⟩ => ?_
  rcases h with ⟨f, h1, h2, al, af, ar, m, hm, rfl, o1, o2, o3⟩ | ⟨h1, rfl⟩
  · obtain ⟨l1, l2, l3⟩ := partR_len h1
    have l4 := rootsL_le (partN F f (node.toNat + 1 - f))
    rw [partR_yes h1 h2] at hres
    rw [← hm] at hres l1 l2 l3 l4
    have k1 : SlE Lab.enc 4 w' 0 w'.heap.size al (partL L f m) := by
      have o := o1
      generalize partL L f m = PL at o l1 ⊢
      rw [← l1] at o
      exact (ownC_sl (enc := Lab.enc) (size := 4) (fun _ => rfl) (by decide) o).widen (Nat.zero_le _) (Nat.le_refl _)
    have k2 : SlE natE 1 w' 0 w'.heap.size af (partN F f m) := by
      have o := o2
      generalize partN F f m = PN at o l2 ⊢
      rw [← l2] at o
      exact (ownC_sl (enc := natE) (size := 1) (fun _ => rfl) (by decide) o).widen (Nat.zero_le _) (Nat.le_refl _)
    have k3 : SlE natE 1 w' 0 w'.heap.size ar (rootsL (partN F f m)) := (ownC_sl (enc := natE) (size := 1) (fun _ => rfl) (by decide) o3).widen (Nat.zero_le _) (Nat.le_refl _)
    generalize partL L f m = PL at *
    generalize partN F f m = PN at *
    injection hres with e1 hres
    injection hres with e2 hres
    injection hres with e3 e4
    subst e1 e2 e3 e4
    refine ⟨al, af, ar, ?_, ⟨k1, sl_nat k2, sl_nat k3, by simp only [List.length_map]; omega⟩, hb⟩
    simp only [pBox, List.length_map, l1, l2]
  · rw [partR_no h1] at hres
    injection hres with e1 hres
    injection hres with e2 hres
    injection hres with e3 e4
    subst e1 e2 e3 e4
    exact ⟨none, none, none, rfl, pa_empty _, hb⟩
theorem rpart_u {b : Bool} {Lp : List Lab} {Fp Rp : List Int} {L : List Lab} {F : List Int} {node : Int} {args : Array Value} {w : World} (hres : partR L F node = (b, Lp, Fp, Rp)) (hn : L.length ≤ 1048576) (h : Calls Try.prog 20 args w (RPartPost L F node w)) :
    Calls Try.prog 20 args w (RPartU b Lp Fp Rp w) := by
  refine h.mono fun e w' ⟨hb, h⟩ => ?_
  rcases h with ⟨f, h1, h2, al, cl, af, cf, ar, cr, m, hm, rfl, k1, k2, k3⟩ | ⟨h1, rfl⟩
  · obtain ⟨l1, l2, l3⟩ := partR_len h1
    have l4 := rootsL_le (partN F f (node.toNat + 1 - f))
    rw [partR_yes h1 h2] at hres
    rw [← hm] at hres l1 l2 l3 l4
    generalize partL L f m = PL at *
    generalize partN F f m = PN at *
    injection hres with e1 hres
    injection hres with e2 hres
    injection hres with e3 e4
    subst e1 e2 e3 e4
    refine ⟨al, af, ar, cl, cf, cr, ?_, ⟨k1, sl_nat k2, sl_nat k3, by simp only [List.length_map]; omega⟩, hb⟩
    simp only [pBox, List.length_map, l1, l2]
  · rw [partR_no h1] at hres
    injection hres with e1 hres
    injection hres with e2 hres
    injection hres with e3 e4
    subst e1 e2 e3 e4
    exact ⟨none, none, none, 0, 0, 0, rfl, pa_empty _, hb⟩
/-- What stands behind the twin of a postorder: the box, and its three rows. -/
def PpSt (_w W0 : World) (_al _af _ar : Option Addr) (_cl _cf _cr : Nat) (L : List Lab) (F R : List Int) (s5 : Value) (wx : World) : Prop :=
  ∃ (B gF gR : Nat) (aL : Option Addr) (cL cF cR : Nat), s5 = .pointer (some ⟨B, 0, none⟩) ∧ W0.heap.size ≤ B ∧ wx.heap[B]? = some (.cells #[.slice aL L.length cL, .slice (some ⟨gF, 0, none⟩) F.length cF, .slice (some ⟨gR, 0, none⟩) R.length cR] 33 (0, 0)) ∧
    L.length ≤ cL ∧ F.length + 2 ≤ cF ∧ R.length + 2 ≤ cR ∧ wx.ownsRow W0.heap.size 46 4 (.slice aL L.length cL) L.length (L.flatMap Lab.enc) ∧
    OwnZ wx W0.heap.size (.slice (some ⟨gF, 0, none⟩) (F ++ [90, 90]).length cF) (F ++ [90, 90]) ∧ OwnZ wx W0.heap.size (.slice (some ⟨gR, 0, none⟩) (R ++ [90, 90]).length cR) (R ++ [90, 90]) ∧ Below W0.heap.size W0 wx
theorem blk_drew {W : World} {k : Nat} {o : Obj} (h : W.heap[k]? = some o) : W.drew.heap[k]? = some o := h
theorem own_set3 {V : World} {B base e size n : Nat} {v x y z a b c : Value} {xs : List Value} {t : TypeId} (hV : V.heap[B]? = some (.cells #[x, y, z] t (0, 0))) (he : e ≠ t) (h : V.ownsRow base e size v n xs) :
    (((V.setCell ⟨B, 0, none⟩ a).setCell ⟨B, 1, none⟩ b).setCell ⟨B, 2, none⟩ c).ownsRow base e size v n xs := by
  refine World.ownsRow.kept (row := some B) h ⟨rfl, rfl, rfl, by simp, fun q hq hne => ?_⟩ ?_
  · have hqB : q ≠ B := fun e => hne (by rw [e])
    rw [Below.heap_setCell _ _ _ q hqB, Below.heap_setCell _ _ _ q hqB, Below.heap_setCell _ _ _ q hqB]
  · rcases h.2 with ⟨e1, h0⟩ | ⟨g, cap, cur, e1, h1, h2, h3⟩
    · exact .inl (by rw [e1]; rfl)
    · refine .inr fun e2 => he ?_
      rw [e1] at e2
      have e3 : g = B := by simpa [Value.ownBlock] using e2
      subst e3
      rw [h2] at hV
      injection hV with hV
      injection hV
theorem ppst_mk {w W0 V : World} {al af ar : Option Addr} {cl cf cr B gF gR cL cF cR : Nat} {L : List Lab} {F R : List Int} {aL : Option Addr} {x y z : Value} (hB : W0.heap.size ≤ B) (hV : V.heap[B]? = some (.cells #[x, y, z] 33 (0, 0)))
    (hL : V.ownsRow W0.heap.size 46 4 (.slice aL L.length cL) L.length (L.flatMap Lab.enc)) (hF : OwnZ V W0.heap.size (.slice (some ⟨gF, 0, none⟩) (F ++ [90, 90]).length cF) (F ++ [90, 90])) (hR : OwnZ V W0.heap.size (.slice (some ⟨gR, 0, none⟩) (R ++ [90, 90]).length cR) (R ++ [90, 90]))
    (h1 : L.length ≤ cL) (h2 : F.length + 2 ≤ cF) (h3 : R.length + 2 ≤ cR) (hb : Below W0.heap.size W0 V) :
    PpSt w W0 al af ar cl cf cr L F R (.pointer (some ⟨B, 0, none⟩)) (((V.setCell ⟨B, 0, none⟩ (.slice aL L.length cL)).setCell ⟨B, 1, none⟩ (.slice (some ⟨gF, 0, none⟩) F.length cF)).setCell ⟨B, 2, none⟩ (.slice (some ⟨gR, 0, none⟩) R.length cR)) :=
  ⟨B, gF, gR, aL, cL, cF, cR, rfl, hB, Go.Joins.block_setCell (Go.Joins.block_setCell (Go.Joins.block_setCell hV (i := 0) _) (i := 1) _) (i := 2) _, h1, h2, h3, own_set3 hV (by decide) hL, own_set3 hV (by decide) hF, own_set3 hV (by decide) hR,
    ((hb.setCell (p := ⟨B, 0, none⟩) hB _).setCell (p := ⟨B, 1, none⟩) hB _).setCell (p := ⟨B, 2, none⟩) hB _⟩
theorem ppst_mk0 {w W0 V : World} {al af ar : Option Addr} {cl cf cr gF gR cL cF cR : Nat} {L : List Lab} {F R : List Int} {aL : Option Addr} (hB : W0.heap.size ≤ V.heap.size)
    (hL : V.ownsRow W0.heap.size 46 4 (.slice aL L.length cL) L.length (L.flatMap Lab.enc)) (hF : OwnZ V W0.heap.size (.slice (some ⟨gF, 0, none⟩) (F ++ [90, 90]).length cF) (F ++ [90, 90])) (hR : OwnZ V W0.heap.size (.slice (some ⟨gR, 0, none⟩) (R ++ [90, 90]).length cR) (R ++ [90, 90]))
    (h1 : L.length ≤ cL) (h2 : F.length + 2 ≤ cF) (h3 : R.length + 2 ≤ cR) (hb : Below W0.heap.size W0 V) :
    PpSt w W0 al af ar cl cf cr L F R (.pointer (some ⟨V.heap.size, 0, none⟩)) (V.alloc (.cells #[.slice aL L.length cL, .slice (some ⟨gF, 0, none⟩) F.length cF, .slice (some ⟨gR, 0, none⟩) R.length cR] 33)) :=
  ⟨V.heap.size, gF, gR, aL, cL, cF, cR, rfl, hB, heap_alloc_new V _, h1, h2, h3, own_below hL (below_al (Below.refl _ _)), own_below hF (below_al (Below.refl _ _)), own_below hR (below_al (Below.refl _ _)), below_al hb⟩
set_option maxRecDepth 100000 in
set_option maxHeartbeats 6400000 in
theorem ppart_in (w : World) (al af ar : Option Addr) (cl cf cr : Nat) (L : List Lab) (F R : List Int) (node : Int) (hp : PA.Rd ⟨al, cl, af, cf, ar, cr, L, F, R⟩ w) (h1 : L.length ≤ 100) (h2 : F.length ≤ 100) (h3 : R.length ≤ 100) :
    Calls Try.prog 4 #[.agg (pBox al L.length cl af F.length cf ar R.length cr), .int .i64 node] w (Ret (.bool true) w) := by
  have h1' : ¬ (100 : Int) < (L.length : Int) := by omega
  have h2' : ¬ (100 : Int) < (F.length : Int) := by omega
  have h3' : ¬ (100 : Int) < (R.length : Int) := by omega
  go_enter Try.func4, Try.ntmps4
  have HPD := Lib.hid hp
  have HTF := fun W (h : Below w.heap.size w W) => Lib.hid (twinnums_c W af cf F (hp.up h).f (by have := hp.n; simp only at this; omega))
  have HTR := fun W (h : Below w.heap.size w W) => Lib.hid (twinnums_c W ar cr R (hp.up h).r (by have := hp.n; simp only at this; omega))
  have HCL := fun W (h : Below w.heap.size w W) => Lib.hid ((hp.up h).l)
  clear hp
  go_upto_region 3 with fail
  go_name_world W0 hW0
  have hb0 : Below w.heap.size w W0 := by rw [← hW0]; exact (Below.refl _ _).alloc (Nat.le_refl _) _
  have hx0 : W0.heap[w.heap.size]? = some (.cells (pBox al L.length cl af F.length cf ar R.length cr) 33 (0, 0)) := by rw [← hW0]; exact heap_alloc_new w _
  have hs0 : w.heap.size < W0.heap.size := (Array.getElem?_eq_some_iff.1 hx0).1
  clear hW0
  obtain ⟨q0, q1, q2, -, -, -⟩ := box3 hx0
  have HB0 := Lib.hid hb0
  have HX0 := Lib.hid hx0
  clear hb0 hx0
  go_cut [5] (fun s5 wx => PpSt w W0 al af ar cl cf cr L F R s5 wx)
  case first =>
    go_region_held3 (fun w' => (∀ b o, b < W0.heap.size → w'.cell? ⟨b, o, none⟩ = W0.cell? ⟨b, o, none⟩) ∧ Below W0.heap.size W0 w')
      (exact s_of (by repeat (first | (with_reducible exact Below.refl _ _) | (with_reducible refine below_via ?_ hbR) | (with_reducible refine below_via ?_ hbF) | (with_reducible refine below_via ?_ hbL) | (with_reducible refine Below.drew ?_) | (with_reducible refine below_al ?_) | refine Below.setCell ?_ (by first | assumption | omega | (simp; done) | (simp; omega)) _)))
      (first
        | (refine st_copy_lb (W5 := W0) (x := .tmp 29) (L := L) (A := al) (cl := cl) (by repeat (first | (with_reducible exact Below.refl _ _) | (with_reducible refine below_via ?_ hbR) | (with_reducible refine below_via ?_ hbF) | (with_reducible refine below_via ?_ hbL) | (with_reducible refine Below.drew ?_) | (with_reducible refine below_al ?_) | refine Below.setCell ?_ (by first | assumption | omega | (simp; done) | (simp; omega)) _)) (HCL W0 HB0.out).out (Nat.le_refl _) (by omega) rfl rfl rfl ?_
           intro aL cL wL hcL howL hbL
           have hBL := bel_cell hbL
           have hFL := bel_froz hbL
           have hSL := hbL.size
           try simp at hSL
           try have u0L : W0.heap.size < wL.heap.size := by omega
           try have u2L : wF.heap.size < wL.heap.size := by omega
           try have u3L : wR.heap.size < wL.heap.size := by omega
           have hTL : W0.heap.size ≤ wL.heap.size := (show Below W0.heap.size W0 wL from (by repeat (first | (with_reducible exact Below.refl _ _) | (with_reducible refine below_via ?_ hbR) | (with_reducible refine below_via ?_ hbF) | (with_reducible refine below_via ?_ hbL) | (with_reducible refine Below.drew ?_) | (with_reducible refine below_al ?_) | refine Below.setCell ?_ (by first | assumption | omega | (simp; done) | (simp; omega)) _))).size)
        | (go_at_call 21; (with_reducible refine (HTF _ (below_via HB0.out (by repeat (first | (with_reducible exact Below.refl _ _) | (with_reducible refine below_via ?_ hbR) | (with_reducible refine below_via ?_ hbF) | (with_reducible refine below_via ?_ hbL) | (with_reducible refine Below.drew ?_) | (with_reducible refine below_al ?_) | refine Below.setCell ?_ (by first | assumption | omega | (simp; done) | (simp; omega)) _)))).out.mono ?_); rintro e wF ⟨gF, cF, rfl, hgF, hcF, howF, hbF⟩
           have hBF := bel_cell hbF
           have hFF := bel_froz hbF
           have hSF := hbF.size
           try simp at hSF
           try have u0F : W0.heap.size < wF.heap.size := by omega
           try have u1F : wL.heap.size < wF.heap.size := by omega
           try have u3F : wR.heap.size < wF.heap.size := by omega
           have hTF : W0.heap.size ≤ wF.heap.size := (show Below W0.heap.size W0 wF from (by repeat (first | (with_reducible exact Below.refl _ _) | (with_reducible refine below_via ?_ hbR) | (with_reducible refine below_via ?_ hbF) | (with_reducible refine below_via ?_ hbL) | (with_reducible refine Below.drew ?_) | (with_reducible refine below_al ?_) | refine Below.setCell ?_ (by first | assumption | omega | (simp; done) | (simp; omega)) _))).size)
        | (go_at_call 21; (with_reducible refine (HTR _ (below_via HB0.out (by repeat (first | (with_reducible exact Below.refl _ _) | (with_reducible refine below_via ?_ hbR) | (with_reducible refine below_via ?_ hbF) | (with_reducible refine below_via ?_ hbL) | (with_reducible refine Below.drew ?_) | (with_reducible refine below_al ?_) | refine Below.setCell ?_ (by first | assumption | omega | (simp; done) | (simp; omega)) _)))).out.mono ?_); rintro e wR ⟨gR, cR, rfl, hgR, hcR, howR, hbR⟩
           have hBR := bel_cell hbR
           have hFR := bel_froz hbR
           have hSR := hbR.size
           try simp at hSR
           try have u0R : W0.heap.size < wR.heap.size := by omega
           try have u1R : wL.heap.size < wR.heap.size := by omega
           try have u2R : wF.heap.size < wR.heap.size := by omega
           have hTR : W0.heap.size ≤ wR.heap.size := (show Below W0.heap.size W0 wR from (by repeat (first | (with_reducible exact Below.refl _ _) | (with_reducible refine below_via ?_ hbR) | (with_reducible refine below_via ?_ hbF) | (with_reducible refine below_via ?_ hbL) | (with_reducible refine Below.drew ?_) | (with_reducible refine below_al ?_) | refine Below.setCell ?_ (by first | assumption | omega | (simp; done) | (simp; omega)) _))).size))
    all_goals
      go_wp2_with fail
      go_meet
      first
        | refine ppst_mk0 (V := wR) (gF := gF) (gR := gR) (aL := aL) (cL := cL) (cF := cF) (cR := cR) ?hB ?hL ?hF ?hR hcL hcF hcR ?hb
        | refine ppst_mk (x := .slice none 0 0) (y := .slice none 0 0) (z := .slice none 0 0) (gF := gF) (gR := gR) (aL := aL) (cL := cL) (cF := cF) (cR := cR) ?hB ?hV ?hL ?hF ?hR hcL hcF hcR ?hb
      case hB => first | assumption | omega
      try case hV => repeat (first | (with_reducible exact heap_alloc_new _ _) | (with_reducible refine blk_via hbR ?_) | (with_reducible refine blk_via hbF ?_) | (with_reducible refine blk_via hbL ?_) | (with_reducible refine blk_drew ?_))
      case hL => exact own_lower (own_below howL (by repeat (first | (with_reducible exact Below.refl _ _) | (with_reducible refine below_via ?_ hbR) | (with_reducible refine below_via ?_ hbF) | (with_reducible refine below_via ?_ hbL) | (with_reducible refine Below.drew ?_) | (with_reducible refine below_al ?_) | refine Below.setCell ?_ (by first | assumption | omega | (simp; done) | (simp; omega)) _))) (by first | exact Nat.le_refl _ | assumption | (simp; done) | (simp; omega))
      case hF => exact own_lower (own_below howF (by repeat (first | (with_reducible exact Below.refl _ _) | (with_reducible refine below_via ?_ hbR) | (with_reducible refine below_via ?_ hbF) | (with_reducible refine below_via ?_ hbL) | (with_reducible refine Below.drew ?_) | (with_reducible refine below_al ?_) | refine Below.setCell ?_ (by first | assumption | omega | (simp; done) | (simp; omega)) _))) (by first | exact Nat.le_refl _ | assumption | (simp; done) | (simp; omega))
      case hR => exact own_lower (own_below howR (by repeat (first | (with_reducible exact Below.refl _ _) | (with_reducible refine below_via ?_ hbR) | (with_reducible refine below_via ?_ hbF) | (with_reducible refine below_via ?_ hbL) | (with_reducible refine Below.drew ?_) | (with_reducible refine below_al ?_) | refine Below.setCell ?_ (by first | assumption | omega | (simp; done) | (simp; omega)) _))) (by first | exact Nat.le_refl _ | assumption | (simp; done) | (simp; omega))
      case hb => exact (by repeat (first | (with_reducible exact Below.refl _ _) | (with_reducible refine below_via ?_ hbR) | (with_reducible refine below_via ?_ hbF) | (with_reducible refine below_via ?_ hbL) | (with_reducible refine Below.drew ?_) | (with_reducible refine below_al ?_) | refine Below.setCell ?_ (by first | assumption | omega | (simp; done) | (simp; omega)) _))
  case rest =>
    obtain ⟨B, gF, gR, aL, cL, cF, cR, rfl, hB, hbx, hcL, hcF, hcR, hoL, hoF, hoR, hbc⟩ := hcut
    obtain ⟨V, hV⟩ : ∃ V, V = wc := ⟨_, rfl⟩
    subst hV
    obtain ⟨y0, y1, y2, -, -, -⟩ := box3 hbx
    have hBl : B < V.heap.size := (Array.getElem?_eq_some_iff.1 hbx).1
    have hVb := below_via HB0.out hbc
    have hslF : SlE i64Z 1 V 0 V.heap.size (some ⟨gF, 0, none⟩) (F ++ [90, 90]) := (own_sl (enc := i64Z) (size := 1) (fun _ => rfl) hoF).widen (Nat.zero_le _) (Nat.le_refl _)
    have hslR : SlE i64Z 1 V 0 V.heap.size (some ⟨gR, 0, none⟩) (R ++ [90, 90]) := (own_sl (enc := i64Z) (size := 1) (fun _ => rfl) hoR).widen (Nat.zero_le _) (Nat.le_refl _)
    have hslF1 : SlE i64Z 1 V 0 V.heap.size (some ⟨gF, 0, none⟩) F := by have := hslF.take F.length; rwa [List.take_left'] at this; rfl
    have hslR1 : SlE i64Z 1 V 0 V.heap.size (some ⟨gR, 0, none⟩) R := by have := hslR.take R.length; rwa [List.take_left'] at this; rfl
    have hslL : SlE Lab.enc 4 V 0 V.heap.size aL L := (own_sl (enc := Lab.enc) (size := 4) (fun _ => rfl) hoL).widen (Nat.zero_le _) (Nat.le_refl _)
    obtain ⟨b, Lp, Fp, Rp, hres⟩ : ∃ b Lp Fp Rp, partR L F node = (b, Lp, Fp, Rp) := ⟨_, _, _, _, rfl⟩
    have HPC := Lib.hid (part_u hres (by omega) (part_c V L F aL (some ⟨gF, 0, none⟩) (some ⟨gR, 0, none⟩) cL cF R.length cR node hslL hcL hslF1 (by omega) (by omega)))
    have HRP := Lib.hid (fun (W : World) al' cl' (hl : SlE Lab.enc 4 W 0 W.heap.size al' L) (hW : Below w.heap.size w W) => rpart_u hres (by omega) (rpart_c W L F al' af ar cl' cf R.length cr node hl ((HPD.out.up hW).f) (by omega)))
    have HOT := Lib.hid (fun (W : World) (hW : Below w.heap.size w W) => other19_c W al af ar cl cf cr L F R (HPD.out.up hW) (by omega))
    have HSV := Lib.hid (And.intro hslL (And.intro hslF1 hslR1))
    have HOV := Lib.hid (And.intro hoF hoR)
    have HVB := Lib.hid hVb
    have HLF := Lib.hid (fun (W : World) (h : Below V.heap.size V W) => leftnums_c W af cf gF cF W0.heap.size F ((HPD.out.up (below_via hVb h)).f) (own_below hoF h) hcF (by omega))
    have HLR := Lib.hid (fun (W : World) (h : Below V.heap.size V W) => leftnums_c W ar cr gR cR W0.heap.size R ((HPD.out.up (below_via hVb h)).r) (own_below hoR h) hcR (by omega))
    have HX1 := Lib.hid ((hbc.block _ hs0).trans HX0.out)
    have HBX := Lib.hid hbx
    have hs1 : w.heap.size < V.heap.size := by have := hbc.size; omega
    have HRES := Lib.hid hres
    clear hbx hslF hslR hslF1 hslR1 hslL hoL hoF hoR hVb hbc hres q0 q1 q2
    go_wp2_with (first
      | (go_at_call 19; (with_reducible refine HPC.out.mono ?_); rintro e w2 ⟨a1, a2, a3, rfl, hrd2, hb2⟩
         have HRD2 := Lib.hid hrd2
         have HB2 := Lib.hid hb2
         have hz2 := hb2.size
         have hV3 : Below V.heap.size V (w2.alloc (.cells (pBox a1 Lp.length Lp.length a2 Fp.length Fp.length a3 Rp.length Rp.length) 33)) := below_al hb2
         have HV3 := Lib.hid hV3
         obtain ⟨q0, q1, q2, -, -, -⟩ := box3 ((hV3.block _ hs1).trans HX1.out)
         clear hrd2 hb2 hV3 y0 y1 y2)
      | (go_at_call 22; (with_reducible refine (HOT.out _ (below_via HVB.out HV3.out)).mono ?_); rintro e w4 ⟨al4, cl4, rfl, hsl4, hb4⟩
         have HSL4 := Lib.hid hsl4
         have HB4 := Lib.hid hb4
         clear hsl4 hb4 q0 q1 q2)
      | (go_at_call 20; (with_reducible refine (HRP.out _ _ _ HSL4.out (below_via HVB.out (below_via HV3.out HB4.out))).mono ?_); rintro e w5 ⟨b1, b2, b3, d1, d2, d3, rfl, hrd5, hb5⟩
         have HRD5 := Lib.hid hrd5
         have hb35 := below_al (o := .cells (pBox b1 Lp.length d1 b2 Fp.length d2 b3 Rp.length d3) 38) (below_via HB4.out hb5)
         have hx6 := blk_via hb35 (heap_alloc_new w2 (.cells (pBox a1 Lp.length Lp.length a2 Fp.length Fp.length a3 Rp.length Rp.length) 33))
         obtain ⟨z0, z1, z2, -, -, -⟩ := box3 hx6
         have hVW := below_via HV3.out hb35
         have HSM := Lib.hid (psame19_c _ a1 a2 a3 b1 b2 b3 Lp.length Fp.length Rp.length d1 d2 d3 Lp Fp Rp ((HRD2.out.up (below_al (Below.refl _ _))).up hb35) (HRD5.out.up (below_al (Below.refl _ _))) (Nat.le_refl _) (Nat.le_refl _) (Nat.le_refl _))
         have HVW := Lib.hid hVW
         clear hrd5 hb5 hx6 hb35 hVW)
      | (go_at_call 17; (with_reducible refine HSM.out.mono ?_); rintro e w6 ⟨rfl, hb6⟩
         have hV6 := below_via HVW.out hb6
         obtain ⟨q0, q1, q2, -, -, -⟩ := box3 (blk_via hV6 HX1.out)
         obtain ⟨y0, y1, y2, -, -, -⟩ := box3 (blk_via hV6 HBX.out)
         have HV6 := Lib.hid hV6
         clear hb6 hV6 z0 z1 z2)
      | (go_at_call 23; (with_reducible refine (HLR.out _ HV7.out).mono ?_); rintro e w8 ⟨rfl, hb8⟩
         have HV8 := Lib.hid (below_via HV7.out hb8)
         clear hb8 q0 q1 q2 y0 y1 y2)
      | (go_at_call 23; (with_reducible refine (HLF.out _ HV6.out).mono ?_); rintro e w7 ⟨rfl, hb7⟩
         have hV7 := below_via HV6.out hb7
         clear q0 q1 q2 y0 y1 y2
         obtain ⟨q0, q1, q2, -, -, -⟩ := box3 (blk_via hV7 HX1.out)
         obtain ⟨y0, y1, y2, -, -, -⟩ := box3 (blk_via hV7 HBX.out)
         have HV7 := Lib.hid hV7
         clear hb7 hV7))
    have HLV := Lib.hid (show ∀ W, Below V.heap.size V W → _ from fun W h => And.intro ((HSV.out.1).up h) ((HPD.out.up (below_via HVB.out h)).l))
    clear HPC HRP HOT HSM HLF HLR
    go_loopw [10] (fun s10 wr => ∃ i : Nat, i ≤ L.length ∧ s10 = .int .i64 i ∧ Hid (Below V.heap.size V wr)) (fun s10 _ => L.length - (intOf s10).toNat)
    case atStart => exact ⟨0, Nat.zero_le _, rfl, HV8⟩
    case round =>
      obtain ⟨i, hi, rfl, HW⟩ := hrel
      obtain ⟨p0, p1, p2, -, -, -⟩ := box3 (blk_via HW.out HX1.out)
      obtain ⟨y0, y1, y2, -, -, -⟩ := box3 (blk_via HW.out HBX.out)
      have hs8 : w.heap.size < wr.heap.size := by have := HW.out.size; omega
      have hs9 : B < wr.heap.size := by have := HW.out.size; omega
      by_cases hlt : i < L.length
      · have e1 : L[i]? = some L[i] := List.getElem?_eq_getElem hlt
        have hlt1 : (i : Int) < (L.length : Int) := by omega
        generalize L[i] = x at e1
        obtain ⟨b1, o1, ea, -, hb1, -, c0, c1, c2, c3⟩ := lab_at (HLV.out wr HW.out).1 e1
        obtain ⟨b2, o2, eb, -, hb2, -, d0, d1, d2, d3⟩ := lab_at (HLV.out wr HW.out).2 e1
        rw [ea] at y0
        have eb2 : al = some ⟨b2, o2, none⟩ := eb
        rw [eb2] at p0
        have hq : ∀ W, (binOp .neq 46 x.val x.val).run Try.prog W = .ok (.bool false) W := fun W => by rw [neq_lab]; simp
        clear e1 ea eb eb2
        go_wp2_with fail
        go_quiet (fail)
        go_wp2_with fail
        exact ⟨⟨i + 1, by omega, by go_num, Lib.hid (by (repeat' first | exact HW.out | refine Below.drew ?_ | refine below_drewN ?_ _))⟩, by simp [intOf]; omega⟩
      · obtain rfl : i = L.length := by omega
        have HLI := fun W => Lib.hid (lives19_c W)
        go_wp2_with (go_at_call 13; (with_reducible refine (HLI _).out.mono ?_); rintro e w9 ⟨rfl, hb9⟩)
        go_ret
        exact ⟨rfl, below_via (below_via HVB.out HW.out) hb9⟩
theorem ppart (w : World) (al af ar : Option Addr) (cl cf cr : Nat) (L : List Lab) (F R : List Int) (node : Int) (hl : SlE Lab.enc 4 w 0 w.heap.size al L) (hf : SlE i64Z 1 w 0 w.heap.size af F) (hr : SlE i64Z 1 w 0 w.heap.size ar R) (b1 : L.length ≤ 1048576) (b2 : F.length ≤ 1048576) (b3 : R.length ≤ 1048576) :
    Calls Try.prog 4 #[.agg (pBox al L.length cl af F.length cf ar R.length cr), .int .i64 node] w (Ret (.bool true) w) := by
  by_cases h : 100 < L.length ∨ 100 < F.length ∨ 100 < R.length
  · exact ppart_out w al af ar cl cf cr _ _ _ node h
  · exact ppart_in w al af ar cl cf cr L F R node ⟨hl, hf, hr, by simp only; omega⟩ (by omega) (by omega) (by omega)
end Go.Proofs.Ytmhkacafilpliaa
