/-
  The examples of chapter 20. No condition. (Printed by gen_en.py.)
-/
import Derived.Test.YtmhkacafilpliaaEH
import Derived.Test.YtmhkacafilpliaaRP
namespace Go.Proofs.Ytmhkacafilpliaa
open Go.RowKit Go.Sort Go.Shelf Go.BigFrame

theorem numV_w (s : ByteArray) : (numV s).w = 1 + s.size := by rw [Val.w_eq]; simp [numV]
theorem listV_w (l : List Val) : (listV l).w = 1 + (l.map Val.w).sum := by
  rw [Val.w_eq]
  show 1 + 0 + 0 + 0 + (l.map Val.w).sum = _
  omega
theorem entV_w (s : ByteArray) (v : Val) : (entV s v).w = 2 + s.size + v.w := by
  rw [Val.w_eq]
  show 1 + 0 + 1 + (s.size + 0) + (v.w + 0) = _
  omega
theorem blk_al {W : World} {k : Nat} {o o' : Obj} (h : W.heap[k]? = some o) : (W.alloc o').heap[k]? = some o := blk_via (below_al (Below.refl _ _)) h
theorem blk_new2 (W : World) (o o' : Obj) : ((W.alloc o).alloc o').heap[W.heap.size + 1]? = some o' := by
  have := heap_alloc_new (W.alloc o) o'
  rwa [World.size_alloc] at this
theorem blk_new3 (W : World) (o o' o2 : Obj) : (((W.alloc o).alloc o').alloc o2).heap[W.heap.size + 1 + 1]? = some o2 := by
  have := heap_alloc_new ((W.alloc o).alloc o') o2
  rwa [World.size_alloc, World.size_alloc] at this
/-- What stays in the region of the examples. -/
abbrev Sx (W0 w' : World) : Prop := (∀ b o, b < W0.heap.size → w'.cell? ⟨b, o, none⟩ = W0.cell? ⟨b, o, none⟩) ∧ Below W0.heap.size W0 w'
theorem sx_al {W0 X : World} {o : Obj} (h : (∀ b o, b < W0.heap.size → X.cell? ⟨b, o, none⟩ = W0.cell? ⟨b, o, none⟩) ∧ Below W0.heap.size W0 X) : (∀ b o', b < W0.heap.size → (X.alloc o).cell? ⟨b, o', none⟩ = W0.cell? ⟨b, o', none⟩) ∧ Below W0.heap.size W0 (X.alloc o) := sx_of (below_al h.2)
theorem sx_call {W0 X X' : World} (h : (∀ b o, b < W0.heap.size → X.cell? ⟨b, o, none⟩ = W0.cell? ⟨b, o, none⟩) ∧ Below W0.heap.size W0 X) (hb : Below X.heap.size X X') : (∀ b o, b < W0.heap.size → X'.cell? ⟨b, o, none⟩ = W0.cell? ⟨b, o, none⟩) ∧ Below W0.heap.size W0 X' := sx_of (below_via h.2 hb)
theorem sx_b {W0 X : World} (h : (∀ b o, b < W0.heap.size → X.cell? ⟨b, o, none⟩ = W0.cell? ⟨b, o, none⟩) ∧ Below W0.heap.size W0 X) : Below W0.heap.size W0 X := h.2
theorem list1_c (w : World) (B : Nat) (y1 : AV) (hB : w.heap[B]? = some (.cells #[.int .u8 y1.k, .string y1.t, .slice y1.la y1.l.length y1.lc, .slice y1.ka y1.ks.length y1.kc] 26 (0, 0))) (h1 : Rd w y1) : Calls Try.prog 32 #[.slice (some ⟨B, 0, none⟩) 1 1] w (GotV (listV [y1.v]) w) :=
  list20_c w B 1 [y1] hB rfl (by simp [h1])
theorem list2_c (w : World) (B : Nat) (y1 y2 : AV) (hB : w.heap[B]? = some (.cells #[.int .u8 y1.k, .string y1.t, .slice y1.la y1.l.length y1.lc, .slice y1.ka y1.ks.length y1.kc, .int .u8 y2.k, .string y2.t, .slice y2.la y2.l.length y2.lc, .slice y2.ka y2.ks.length y2.kc] 26 (0, 0))) (h1 : Rd w y1) (h2 : Rd w y2) : Calls Try.prog 32 #[.slice (some ⟨B, 0, none⟩) 2 2] w (GotV (listV [y1.v, y2.v]) w) :=
  list20_c w B 2 [y1, y2] hB rfl (by simp [h1, h2])
theorem list3_c (w : World) (B : Nat) (y1 y2 y3 : AV) (hB : w.heap[B]? = some (.cells #[.int .u8 y1.k, .string y1.t, .slice y1.la y1.l.length y1.lc, .slice y1.ka y1.ks.length y1.kc, .int .u8 y2.k, .string y2.t, .slice y2.la y2.l.length y2.lc, .slice y2.ka y2.ks.length y2.kc, .int .u8 y3.k, .string y3.t, .slice y3.la y3.l.length y3.lc, .slice y3.ka y3.ks.length y3.kc] 26 (0, 0))) (h1 : Rd w y1) (h2 : Rd w y2) (h3 : Rd w y3) : Calls Try.prog 32 #[.slice (some ⟨B, 0, none⟩) 3 3] w (GotV (listV [y1.v, y2.v, y3.v]) w) :=
  list20_c w B 3 [y1, y2, y3] hB rfl (by simp [h1, h2, h3])
/-- A value of api.Value's kind whose meaning is a. -/
def GotA (a : Val) (v : Value) (w : World) : Prop := ∃ y : AV, v = y.val ∧ y.v = a ∧ Rd w y
theorem GotA.mk {a : Val} {y : AV} {v : Value} {w : World} (h : v = y.val) (hv : y.v = a) (hr : Rd w y) : GotA a v w := ⟨y, h, hv, hr⟩
/-- A row of values in a block of its own. -/
def GotS (l : List Val) (v : Value) (w : World) : Prop := ∃ (b : Nat) (ys : List AV), v = .slice (some ⟨b, 0, none⟩) l.length l.length ∧ ys.map AV.v = l ∧ w.heap[b]? = some (.cells (ys.flatMap AV.enc).toArray 26 (0, 0)) ∧ ∀ y ∈ ys, Rd w y
abbrev GB (b : Bool) (v : Value) (_ : World) : Prop := v = .bool b
abbrev GI (k : Int) (v : Value) (_ : World) : Prop := v = .int .i64 k
def Stab (g : Value → World → Prop) : Prop := ∀ v w w', Below w.heap.size w w' → g v w → g v w'
theorem stab_B (b : Bool) : Stab (GB b) := fun _ _ _ _ h => h
theorem stab_I (k : Int) : Stab (GI k) := fun _ _ _ _ h => h
theorem stab_A (a : Val) : Stab (GotA a) := fun _ _ _ hb ⟨y, h1, h2, h3⟩ => ⟨y, h1, h2, h3.up hb⟩
theorem stab_S (l : List Val) : Stab (GotS l) := fun _ _ _ hb ⟨b, ys, h1, h2, h3, h4⟩ => ⟨b, ys, h1, h2, blk_via hb h3, fun y hy => (h4 y hy).up hb⟩
theorem gs1 {w : World} {y1 : AV} {a1 : Val} (v1 : y1.v = a1) (r1 : Rd w y1) : GotS [a1] (.slice (some ⟨w.heap.size, 0, none⟩) 1 1) (w.alloc (.cells #[.int .u8 y1.k, .string y1.t, .slice y1.la y1.l.length y1.lc, .slice y1.ka y1.ks.length y1.kc] 26)) :=
  ⟨_, [y1], rfl, by rw [← v1]; rfl, heap_alloc_new _ _, fun y hy => by
    simp at hy
    subst hy
    exact r1.up (below_al (Below.refl _ _))⟩
theorem gs2 {w : World} {y1 y2 : AV} {a1 a2 : Val} (v1 : y1.v = a1) (r1 : Rd w y1) (v2 : y2.v = a2) (r2 : Rd w y2) : GotS [a1, a2] (.slice (some ⟨w.heap.size, 0, none⟩) 2 2) (w.alloc (.cells #[.int .u8 y1.k, .string y1.t, .slice y1.la y1.l.length y1.lc, .slice y1.ka y1.ks.length y1.kc, .int .u8 y2.k, .string y2.t, .slice y2.la y2.l.length y2.lc, .slice y2.ka y2.ks.length y2.kc] 26)) :=
  ⟨_, [y1, y2], rfl, by rw [← v1, ← v2]; rfl, heap_alloc_new _ _, fun y hy => by
    simp at hy
    rcases hy with rfl | rfl
    · exact r1.up (below_al (Below.refl _ _))
    · exact r2.up (below_al (Below.refl _ _))⟩
theorem gs3 {w : World} {y1 y2 y3 : AV} {a1 a2 a3 : Val} (v1 : y1.v = a1) (r1 : Rd w y1) (v2 : y2.v = a2) (r2 : Rd w y2) (v3 : y3.v = a3) (r3 : Rd w y3) : GotS [a1, a2, a3] (.slice (some ⟨w.heap.size, 0, none⟩) 3 3) (w.alloc (.cells #[.int .u8 y1.k, .string y1.t, .slice y1.la y1.l.length y1.lc, .slice y1.ka y1.ks.length y1.kc, .int .u8 y2.k, .string y2.t, .slice y2.la y2.l.length y2.lc, .slice y2.ka y2.ks.length y2.kc, .int .u8 y3.k, .string y3.t, .slice y3.la y3.l.length y3.lc, .slice y3.ka y3.ks.length y3.kc] 26)) :=
  ⟨_, [y1, y2, y3], rfl, by rw [← v1, ← v2, ← v3]; rfl, heap_alloc_new _ _, fun y hy => by
    simp at hy
    rcases hy with rfl | rfl | rfl
    · exact r1.up (below_al (Below.refl _ _))
    · exact r2.up (below_al (Below.refl _ _))
    · exact r3.up (below_al (Below.refl _ _))⟩
theorem list_s {w : World} {b : Nat} {l : List Val} {ys : List AV} (hl : ys.map AV.v = l) (hB : w.heap[b]? = some (.cells (ys.flatMap AV.enc).toArray 26 (0, 0))) (hr : ∀ y ∈ ys, Rd w y) : Calls Try.prog 32 #[.slice (some ⟨b, 0, none⟩) l.length l.length] w (GotV (listV l) w) := by
  have := list20_c w b l.length ys hB (by rw [← hl, List.length_map]) hr
  rwa [hl] at this
theorem ent_s {w : World} {s : ByteArray} {y : AV} {a : Val} (hv : y.v = a) (hr : Rd w y) : Calls Try.prog 52 #[.string s, y.val] w (GotV (entV s a) w) := by
  have := entry20_c w s y hr
  rwa [hv] at this
def GLi : List (Value → World → Prop) := [GotA (numV ⟨#[49]⟩), GotA (numV ⟨#[50]⟩), GI 1, GB true, GB true, GotA (numV ⟨#[49]⟩), GotA (numV ⟨#[50]⟩), GotS [numV ⟨#[49]⟩, numV ⟨#[50]⟩], GotA (listV [numV ⟨#[49]⟩, numV ⟨#[50]⟩]), GotA (numV ⟨#[49]⟩), GotA (numV ⟨#[51]⟩), GotA (numV ⟨#[50]⟩), GotS [numV ⟨#[49]⟩, numV ⟨#[51]⟩, numV ⟨#[50]⟩], GotA (listV [numV ⟨#[49]⟩, numV ⟨#[51]⟩, numV ⟨#[50]⟩]), GI 1, GB true, GB true, GB true, GotA (numV ⟨#[49]⟩), GotA (entV ⟨#[97]⟩ (numV ⟨#[49]⟩)), GotA (numV ⟨#[49]⟩), GotA (entV ⟨#[98]⟩ (numV ⟨#[49]⟩)), GI 1, GB true, GB true, GB true, GotA (numV ⟨#[49]⟩), GotS [numV ⟨#[49]⟩], GotA (listV [numV ⟨#[49]⟩]), GotS [listV [numV ⟨#[49]⟩]], GotA (listV [listV [numV ⟨#[49]⟩]]), GotA (numV ⟨#[49]⟩), GotS [numV ⟨#[49]⟩], GotA (listV [numV ⟨#[49]⟩]), GI 1, GB true, GB true, GB true, GotA (numV ⟨#[49]⟩), GotA (numV ⟨#[50]⟩), GotS [numV ⟨#[49]⟩, numV ⟨#[50]⟩], GotA (listV [numV ⟨#[49]⟩, numV ⟨#[50]⟩]), GotA (entV ⟨#[97]⟩ (listV [numV ⟨#[49]⟩, numV ⟨#[50]⟩])), GotA (numV ⟨#[53]⟩), GI 4, GB true, GB true, GB true, GotA (numV ⟨#[49]⟩), GotA (numV ⟨#[50]⟩), GB false, GB true, GB true, GB true, GotA (numV ⟨#[49]⟩), GotA (numV ⟨#[50]⟩), GB true, GB true, GB true]
theorem GLi_stab : ∀ g ∈ GLi, Stab g := by
  unfold GLi
  repeat (first | exact fun _ h => absurd h List.not_mem_nil | refine List.forall_mem_cons.2 ⟨by first | exact stab_A _ | exact stab_S _ | exact stab_B _ | exact stab_I _, ?_⟩)
theorem GLi_up (i : Nat) (v : Value) (w w' : World) (hb : Below w.heap.size w w') (h : GLi.getD i (fun _ _ => True) v w) : GLi.getD i (fun _ _ => True) v w' := by
  rw [List.getD_eq_getElem?_getD] at h ⊢
  cases hg : GLi[i]? with
  | none => trivial
  | some g => rw [hg] at h; exact GLi_stab g (List.mem_of_getElem? hg) v w w' hb h
/-- What is asked behind the region: the answer, and that nothing old was changed. -/
def EiQ (W0 : World) : Exit → Act → World → Prop
  | .normal, a, w' => a.tmps.getD 0 undef = .bool true ∧ a.defers = [] ∧ Below W0.heap.size W0 w'
  | _, _, _ => False
set_option maxRecDepth 100000 in
set_option maxHeartbeats 12800000 in
theorem lives20_c (w : World) : Calls Try.prog 24 #[] w (Ret (.bool true) w) := by
  go_enter Try.func24, Try.ntmps24
  go_upto_region 3 with (first
    | (have kq := k1; go_at_call 51; (with_reducible refine (num20_c _ ⟨#[50]⟩).mono ?_); rintro e w2 ⟨y2, rfl, hv2, hr2, hb2⟩)
    | (go_at_call 51; (with_reducible refine (num20_c _ ⟨#[49]⟩).mono ?_); rintro e w1 ⟨y1, rfl, hv1, hr1, hb1⟩
       have k1 := trivial))
  go_name_world W0 hW0
  have hB1 : W0.heap[w1.heap.size]? = some (.cells #[.int .u8 y1.k, .string y1.t, .slice y1.la y1.l.length y1.lc, .slice y1.ka y1.ks.length y1.kc] 26 (0, 0)) := by rw [← hW0]; exact blk_al (blk_via hb2 (heap_alloc_new w1 _))
  have hB2 : W0.heap[w2.heap.size]? = some (.cells #[.int .u8 y2.k, .string y2.t, .slice y2.la y2.l.length y2.lc, .slice y2.ka y2.ks.length y2.kc] 26 (0, 0)) := by rw [← hW0]; exact heap_alloc_new w2 _
  have hb02 : Below w2.heap.size w2 W0 := by rw [← hW0]; exact below_al (Below.refl _ _)
  have hbW : Below w.heap.size w W0 := below_via (below_via (below_al hb1) hb2) hb02
  replace hr1 := hr1.up (below_via (below_via (below_al (o := .cells #[.int .u8 y1.k, .string y1.t, .slice y1.la y1.l.length y1.lc, .slice y1.ka y1.ks.length y1.kc] 26) (Below.refl w1.heap.size w1)) hb2) hb02)
  replace hr2 := hr2.up hb02
  have l1 : w1.heap.size < W0.heap.size := (Array.getElem?_eq_some_iff.1 hB1).1
  have l2 : w2.heap.size < W0.heap.size := (Array.getElem?_eq_some_iff.1 hB2).1
  obtain ⟨p0, p1, p2, p3⟩ := vb4 hB1
  obtain ⟨q0, q1, q2, q3⟩ := vb4 hB2
  have HBW := Lib.hid hbW
  have HRY1 := Lib.hid (show ∀ W, Below W0.heap.size W0 W → Rd W y1 from fun W h => hr1.up h)
  have HRY2 := Lib.hid (show ∀ W, Below W0.heap.size W0 W → Rd W y2 from fun W h => hr2.up h)
  have HV1 := Lib.hid hv1
  have HV2 := Lib.hid hv2
  have HWT1 := Lib.hid (show (numV ⟨#[49]⟩).w ≤ 1048576 by simp only [numV_w]; decide)
  have HWT2 := Lib.hid (show (numV ⟨#[50]⟩).w ≤ 1048576 by simp only [numV_w]; decide)
  have HWT13 := Lib.hid (show (listV [numV ⟨#[49]⟩, numV ⟨#[50]⟩]).w ≤ 1048576 by simp only [listV_w, numV_w, List.map_cons, List.map_nil, List.sum_cons, List.sum_nil]; decide)
  have HWT18 := Lib.hid (show (listV [numV ⟨#[49]⟩, numV ⟨#[51]⟩, numV ⟨#[50]⟩]).w ≤ 1048576 by simp only [listV_w, numV_w, List.map_cons, List.map_nil, List.sum_cons, List.sum_nil]; decide)
  have HWT24 := Lib.hid (show (entV ⟨#[97]⟩ (numV ⟨#[49]⟩)).w ≤ 1048576 by simp only [numV_w, entV_w]; decide)
  have HWT26 := Lib.hid (show (entV ⟨#[98]⟩ (numV ⟨#[49]⟩)).w ≤ 1048576 by simp only [numV_w, entV_w]; decide)
  have HWT35 := Lib.hid (show (listV [listV [numV ⟨#[49]⟩]]).w ≤ 1048576 by simp only [listV_w, numV_w, List.map_cons, List.map_nil, List.sum_cons, List.sum_nil]; decide)
  have HWT38 := Lib.hid (show (listV [numV ⟨#[49]⟩]).w ≤ 1048576 by simp only [listV_w, numV_w, List.map_cons, List.map_nil, List.sum_cons, List.sum_nil]; decide)
  have HWT47 := Lib.hid (show (entV ⟨#[97]⟩ (listV [numV ⟨#[49]⟩, numV ⟨#[50]⟩])).w ≤ 1048576 by simp only [listV_w, numV_w, entV_w, List.map_cons, List.map_nil, List.sum_cons, List.sum_nil]; decide)
  have HWT48 := Lib.hid (show (numV ⟨#[53]⟩).w ≤ 1048576 by simp only [numV_w]; decide)
  have HS := Lib.hid (show (∀ b o, b < W0.heap.size → W0.drew.cell? ⟨b, o, none⟩ = W0.cell? ⟨b, o, none⟩) ∧ Below W0.heap.size W0 W0.drew from sx_of ((Below.refl _ _).drew))
  clear hW0 hB1 hB2 hb02 hb1 hb2 hbW k1 hv1 hr1 hv2 hr2
  refine wp_mono (Q := EiQ W0) ?reg ?rest
  case reg =>
    clear HBW
    refine wp_region_steps (by kernel_rfl) (S := fun W => Below W0.heap.size W0 W) (G := fun i => GLi.getD i (fun _ _ => True)) (fun W W' => Below W.heap.size W W') (by kernel_rfl) (by kernel_rfl) (by kernel_rfl) ?hup ?h0 ?hstep ?hend
    case hup => exact GLi_up
    case h0 => exact (Below.refl _ _).drew
    case hend => exact fun a w F D => ⟨D 58 _ 0 rfl rfl, F.defers, F.cls⟩
    case hstep =>
      clear HS
      refine ⟨?_, ?_, ?_, ?_, ?_, ?_, ?_, ?_, ?_, ?_, ?_, ?_, ?_, ?_, ?_, ?_, ?_, ?_, ?_, ?_, ?_, ?_, ?_, ?_, ?_, ?_, ?_, ?_, ?_, ?_, ?_, ?_, ?_, ?_, ?_, ?_, ?_, ?_, ?_, ?_, ?_, ?_, ?_, ?_, ?_, ?_, ?_, ?_, ?_, ?_, ?_, ?_, ?_, ?_, ?_, ?_, ?_, ?_, ?_, trivial⟩
      · intro a w F D
        have o1 := get_of (F.at 1 (by kernel_rfl)) (by simp [undef])
        have c0 := blkv F.cls p0
        have c1 := blkv F.cls p1
        have c2 := blkv F.cls p2
        have c3 := blkv F.cls p3
        have hg := GotA.mk rfl HV1.out (HRY1.out _ F.cls)
        have FC := Lib.hid F.cls
        refine ⟨wanted_none rfl, fun K hK => ?_⟩
        have HK := Lib.hid hK
        clear hK D F
        replace hg := Lib.hid hg
        go_simp
        exact HK.out _ _ FC.out (Below.refl _ _) hg.out
      · intro a w F D
        have o2 := get_of (F.at 2 (by kernel_rfl)) (by simp [undef])
        have c0 := blkv F.cls q0
        have c1 := blkv F.cls q1
        have c2 := blkv F.cls q2
        have c3 := blkv F.cls q3
        have hg := GotA.mk rfl HV2.out (HRY2.out _ F.cls)
        have FC := Lib.hid F.cls
        refine ⟨wanted_none rfl, fun K hK => ?_⟩
        have HK := Lib.hid hK
        clear hK D F
        replace hg := Lib.hid hg
        go_simp
        exact HK.out _ _ FC.out (Below.refl _ _) hg.out
      · intro a w F D
        obtain ⟨y5, e5, v5, r5⟩ : GotA (numV ⟨#[49]⟩) (a.tmps.getD 5 undef) w := (D ⟨0, .data⟩ (by simp) rfl _ _ rfl rfl)
        replace e5 := get_of e5 (by simp [AV.val, undef])
        obtain ⟨y6, e6, v6, r6⟩ : GotA (numV ⟨#[50]⟩) (a.tmps.getD 6 undef) w := (D ⟨1, .data⟩ (by simp) rfl _ _ rfl rfl)
        replace e6 := get_of e6 (by simp [AV.val, undef])
        have FC := Lib.hid F.cls
        refine ⟨wanted_none rfl, fun K hK => ?_⟩
        have HK := Lib.hid hK
        clear hK D F
        go_simp
        refine (far_v ex_1 v5 v6 (show (numV ⟨#[49]⟩).w ≤ 1048576 by simp only [numV_w]; decide) (show (numV ⟨#[50]⟩).w ≤ 1048576 by simp only [numV_w]; decide) r5 r6).mono ?_
        rintro e w' ⟨rfl, hb⟩
        exact HK.out _ _ (below_via FC.out hb) hb rfl
      · intro a w F D
        have e7 : GI 1 (a.tmps.getD 7 undef) w := (D ⟨2, .data⟩ (by simp) rfl _ _ rfl rfl)
        replace e7 := get_of e7 (by simp [undef])
        have FC := Lib.hid F.cls
        refine ⟨wanted_none rfl, fun K hK => ?_⟩
        have HK := Lib.hid hK
        clear hK D F
        go_simp
        exact HK.out _ _ FC.out (Below.refl _ _) rfl
      · intro a w F D
        have e8 : GB true (a.tmps.getD 8 undef) w := (D ⟨3, .data⟩ (by simp) rfl _ _ rfl rfl)
        replace e8 := get_of e8 (by simp [undef])
        have FC := Lib.hid F.cls
        refine ⟨wanted_none rfl, fun K hK => ?_⟩
        have HK := Lib.hid hK
        clear hK D F
        go_simp
        exact HK.out _ _ FC.out (Below.refl _ _) rfl
      · intro a w F D
        have dg : GB true (a.tmps.getD 9 undef) w := D ⟨4, .guard⟩ (by simp) rfl _ _ rfl rfl
        have o1 := get_of (F.at 1 (by kernel_rfl)) (by simp [undef])
        have c0 := blkv F.cls p0
        have c1 := blkv F.cls p1
        have c2 := blkv F.cls p2
        have c3 := blkv F.cls p3
        have hg := GotA.mk rfl HV1.out (HRY1.out _ F.cls)
        have FC := Lib.hid F.cls
        refine ⟨wanted_some rfl rfl (get_of dg (by simp [undef])), fun K hK => ?_⟩
        have HK := Lib.hid hK
        clear hK D F dg
        replace hg := Lib.hid hg
        go_simp
        exact HK.out _ _ FC.out (Below.refl _ _) hg.out
      · intro a w F D
        have dg : GB true (a.tmps.getD 9 undef) w := D ⟨4, .guard⟩ (by simp) rfl _ _ rfl rfl
        have o2 := get_of (F.at 2 (by kernel_rfl)) (by simp [undef])
        have c0 := blkv F.cls q0
        have c1 := blkv F.cls q1
        have c2 := blkv F.cls q2
        have c3 := blkv F.cls q3
        have hg := GotA.mk rfl HV2.out (HRY2.out _ F.cls)
        have FC := Lib.hid F.cls
        refine ⟨wanted_some rfl rfl (get_of dg (by simp [undef])), fun K hK => ?_⟩
        have HK := Lib.hid hK
        clear hK D F dg
        replace hg := Lib.hid hg
        go_simp
        exact HK.out _ _ FC.out (Below.refl _ _) hg.out
      · intro a w F D
        have dg : GB true (a.tmps.getD 9 undef) w := D ⟨4, .guard⟩ (by simp) rfl _ _ rfl rfl
        obtain ⟨y10, e10, v10, r10⟩ : GotA (numV ⟨#[49]⟩) (a.tmps.getD 10 undef) w := (D ⟨5, .data⟩ (by simp) rfl _ _ rfl rfl)
        replace e10 := get_of e10 (by simp [AV.val, undef])
        obtain ⟨y11, e11, v11, r11⟩ : GotA (numV ⟨#[50]⟩) (a.tmps.getD 11 undef) w := (D ⟨6, .data⟩ (by simp) rfl _ _ rfl rfl)
        replace e11 := get_of e11 (by simp [AV.val, undef])
        have hg := gs2 (w := w) v10 r10 v11 r11
        have FC := Lib.hid F.cls
        refine ⟨wanted_some rfl rfl (get_of dg (by simp [undef])), fun K hK => ?_⟩
        have HK := Lib.hid hK
        clear hK D F dg
        replace hg := Lib.hid hg
        go_simp
        exact HK.out _ _ (below_al FC.out) (below_al (Below.refl _ _)) hg.out
      · intro a w F D
        have dg : GB true (a.tmps.getD 9 undef) w := D ⟨4, .guard⟩ (by simp) rfl _ _ rfl rfl
        obtain ⟨b12, ys12, e12, l12, hB12, r12⟩ : GotS [numV ⟨#[49]⟩, numV ⟨#[50]⟩] (a.tmps.getD 12 undef) w := (D ⟨7, .data⟩ (by simp) rfl _ _ rfl rfl)
        replace e12 := get_of e12 (by simp [undef])
        have HC := Lib.hid (list_s l12 hB12 r12)
        clear l12 hB12 r12
        have FC := Lib.hid F.cls
        refine ⟨wanted_some rfl rfl (get_of dg (by simp [undef])), fun K hK => ?_⟩
        have HK := Lib.hid hK
        clear hK D F dg
        go_simp
        refine (HC.out).mono ?_
        rintro e w' ⟨y, rfl, hv, hr, hb⟩
        exact HK.out _ _ (below_via FC.out hb) hb ⟨y, rfl, hv, hr⟩
      · intro a w F D
        have dg : GB true (a.tmps.getD 9 undef) w := D ⟨4, .guard⟩ (by simp) rfl _ _ rfl rfl
        have o1 := get_of (F.at 1 (by kernel_rfl)) (by simp [undef])
        have c0 := blkv F.cls p0
        have c1 := blkv F.cls p1
        have c2 := blkv F.cls p2
        have c3 := blkv F.cls p3
        have hg := GotA.mk rfl HV1.out (HRY1.out _ F.cls)
        have FC := Lib.hid F.cls
        refine ⟨wanted_some rfl rfl (get_of dg (by simp [undef])), fun K hK => ?_⟩
        have HK := Lib.hid hK
        clear hK D F dg
        replace hg := Lib.hid hg
        go_simp
        exact HK.out _ _ FC.out (Below.refl _ _) hg.out
      · intro a w F D
        have dg : GB true (a.tmps.getD 9 undef) w := D ⟨4, .guard⟩ (by simp) rfl _ _ rfl rfl
        have FC := Lib.hid F.cls
        refine ⟨wanted_some rfl rfl (get_of dg (by simp [undef])), fun K hK => ?_⟩
        have HK := Lib.hid hK
        clear hK D F dg
        go_simp
        refine (num20_c _ ⟨#[51]⟩).mono ?_
        rintro e w' ⟨y, rfl, hv, hr, hb⟩
        exact HK.out _ _ (below_via FC.out hb) hb ⟨y, rfl, hv, hr⟩
      · intro a w F D
        have dg : GB true (a.tmps.getD 9 undef) w := D ⟨4, .guard⟩ (by simp) rfl _ _ rfl rfl
        have o2 := get_of (F.at 2 (by kernel_rfl)) (by simp [undef])
        have c0 := blkv F.cls q0
        have c1 := blkv F.cls q1
        have c2 := blkv F.cls q2
        have c3 := blkv F.cls q3
        have hg := GotA.mk rfl HV2.out (HRY2.out _ F.cls)
        have FC := Lib.hid F.cls
        refine ⟨wanted_some rfl rfl (get_of dg (by simp [undef])), fun K hK => ?_⟩
        have HK := Lib.hid hK
        clear hK D F dg
        replace hg := Lib.hid hg
        go_simp
        exact HK.out _ _ FC.out (Below.refl _ _) hg.out
      · intro a w F D
        have dg : GB true (a.tmps.getD 9 undef) w := D ⟨4, .guard⟩ (by simp) rfl _ _ rfl rfl
        obtain ⟨y14, e14, v14, r14⟩ : GotA (numV ⟨#[49]⟩) (a.tmps.getD 14 undef) w := (D ⟨9, .data⟩ (by simp) rfl _ _ rfl rfl)
        replace e14 := get_of e14 (by simp [AV.val, undef])
        obtain ⟨y15, e15, v15, r15⟩ : GotA (numV ⟨#[51]⟩) (a.tmps.getD 15 undef) w := (D ⟨10, .data⟩ (by simp) rfl _ _ rfl rfl)
        replace e15 := get_of e15 (by simp [AV.val, undef])
        obtain ⟨y16, e16, v16, r16⟩ : GotA (numV ⟨#[50]⟩) (a.tmps.getD 16 undef) w := (D ⟨11, .data⟩ (by simp) rfl _ _ rfl rfl)
        replace e16 := get_of e16 (by simp [AV.val, undef])
        have hg := gs3 (w := w) v14 r14 v15 r15 v16 r16
        have FC := Lib.hid F.cls
        refine ⟨wanted_some rfl rfl (get_of dg (by simp [undef])), fun K hK => ?_⟩
        have HK := Lib.hid hK
        clear hK D F dg
        replace hg := Lib.hid hg
        go_simp
        exact HK.out _ _ (below_al FC.out) (below_al (Below.refl _ _)) hg.out
      · intro a w F D
        have dg : GB true (a.tmps.getD 9 undef) w := D ⟨4, .guard⟩ (by simp) rfl _ _ rfl rfl
        obtain ⟨b17, ys17, e17, l17, hB17, r17⟩ : GotS [numV ⟨#[49]⟩, numV ⟨#[51]⟩, numV ⟨#[50]⟩] (a.tmps.getD 17 undef) w := (D ⟨12, .data⟩ (by simp) rfl _ _ rfl rfl)
        replace e17 := get_of e17 (by simp [undef])
        have HC := Lib.hid (list_s l17 hB17 r17)
        clear l17 hB17 r17
        have FC := Lib.hid F.cls
        refine ⟨wanted_some rfl rfl (get_of dg (by simp [undef])), fun K hK => ?_⟩
        have HK := Lib.hid hK
        clear hK D F dg
        go_simp
        refine (HC.out).mono ?_
        rintro e w' ⟨y, rfl, hv, hr, hb⟩
        exact HK.out _ _ (below_via FC.out hb) hb ⟨y, rfl, hv, hr⟩
      · intro a w F D
        have dg : GB true (a.tmps.getD 9 undef) w := D ⟨4, .guard⟩ (by simp) rfl _ _ rfl rfl
        obtain ⟨y13, e13, v13, r13⟩ : GotA (listV [numV ⟨#[49]⟩, numV ⟨#[50]⟩]) (a.tmps.getD 13 undef) w := (D ⟨8, .data⟩ (by simp) rfl _ _ rfl rfl)
        replace e13 := get_of e13 (by simp [AV.val, undef])
        obtain ⟨y18, e18, v18, r18⟩ : GotA (listV [numV ⟨#[49]⟩, numV ⟨#[51]⟩, numV ⟨#[50]⟩]) (a.tmps.getD 18 undef) w := (D ⟨13, .data⟩ (by simp) rfl _ _ rfl rfl)
        replace e18 := get_of e18 (by simp [AV.val, undef])
        have FC := Lib.hid F.cls
        refine ⟨wanted_some rfl rfl (get_of dg (by simp [undef])), fun K hK => ?_⟩
        have HK := Lib.hid hK
        clear hK D F dg
        go_simp
        refine (far_v ex_2 v13 v18 (show (listV [numV ⟨#[49]⟩, numV ⟨#[50]⟩]).w ≤ 1048576 by simp only [listV_w, numV_w, List.map_cons, List.map_nil, List.sum_cons, List.sum_nil]; decide) (show (listV [numV ⟨#[49]⟩, numV ⟨#[51]⟩, numV ⟨#[50]⟩]).w ≤ 1048576 by simp only [listV_w, numV_w, List.map_cons, List.map_nil, List.sum_cons, List.sum_nil]; decide) r13 r18).mono ?_
        rintro e w' ⟨rfl, hb⟩
        exact HK.out _ _ (below_via FC.out hb) hb rfl
      · intro a w F D
        have dg : GB true (a.tmps.getD 9 undef) w := D ⟨4, .guard⟩ (by simp) rfl _ _ rfl rfl
        have e19 : GI 1 (a.tmps.getD 19 undef) w := (D ⟨14, .data⟩ (by simp) rfl _ _ rfl rfl)
        replace e19 := get_of e19 (by simp [undef])
        have FC := Lib.hid F.cls
        refine ⟨wanted_some rfl rfl (get_of dg (by simp [undef])), fun K hK => ?_⟩
        have HK := Lib.hid hK
        clear hK D F dg
        go_simp
        exact HK.out _ _ FC.out (Below.refl _ _) rfl
      · intro a w F D
        have e9 : GB true (a.tmps.getD 9 undef) w := (D ⟨4, .data⟩ (by simp) rfl _ _ rfl rfl)
        replace e9 := get_of e9 (by simp [undef])
        have e20 : GB true (a.tmps.getD 20 undef) w := (D ⟨15, .data⟩ (by simp) rfl _ _ rfl rfl)
        replace e20 := get_of e20 (by simp [undef])
        have FC := Lib.hid F.cls
        refine ⟨wanted_none rfl, fun K hK => ?_⟩
        have HK := Lib.hid hK
        clear hK D F
        go_simp
        exact HK.out _ _ FC.out (Below.refl _ _) rfl
      · intro a w F D
        have e21 : GB true (a.tmps.getD 21 undef) w := (D ⟨16, .data⟩ (by simp) rfl _ _ rfl rfl)
        replace e21 := get_of e21 (by simp [undef])
        have FC := Lib.hid F.cls
        refine ⟨wanted_none rfl, fun K hK => ?_⟩
        have HK := Lib.hid hK
        clear hK D F
        go_simp
        exact HK.out _ _ FC.out (Below.refl _ _) rfl
      · intro a w F D
        have dg : GB true (a.tmps.getD 22 undef) w := D ⟨17, .guard⟩ (by simp) rfl _ _ rfl rfl
        have o1 := get_of (F.at 1 (by kernel_rfl)) (by simp [undef])
        have c0 := blkv F.cls p0
        have c1 := blkv F.cls p1
        have c2 := blkv F.cls p2
        have c3 := blkv F.cls p3
        have hg := GotA.mk rfl HV1.out (HRY1.out _ F.cls)
        have FC := Lib.hid F.cls
        refine ⟨wanted_some rfl rfl (get_of dg (by simp [undef])), fun K hK => ?_⟩
        have HK := Lib.hid hK
        clear hK D F dg
        replace hg := Lib.hid hg
        go_simp
        exact HK.out _ _ FC.out (Below.refl _ _) hg.out
      · intro a w F D
        have dg : GB true (a.tmps.getD 22 undef) w := D ⟨17, .guard⟩ (by simp) rfl _ _ rfl rfl
        obtain ⟨y23, e23, v23, r23⟩ : GotA (numV ⟨#[49]⟩) (a.tmps.getD 23 undef) w := (D ⟨18, .data⟩ (by simp) rfl _ _ rfl rfl)
        replace e23 := get_of e23 (by simp [AV.val, undef])
        have HC := Lib.hid (ent_s (s := ⟨#[97]⟩) v23 r23)
        have FC := Lib.hid F.cls
        refine ⟨wanted_some rfl rfl (get_of dg (by simp [undef])), fun K hK => ?_⟩
        have HK := Lib.hid hK
        clear hK D F dg
        go_simp
        refine (HC.out).mono ?_
        rintro e w' ⟨y, rfl, hv, hr, hb⟩
        exact HK.out _ _ (below_via FC.out hb) hb ⟨y, rfl, hv, hr⟩
      · intro a w F D
        have dg : GB true (a.tmps.getD 22 undef) w := D ⟨17, .guard⟩ (by simp) rfl _ _ rfl rfl
        have o1 := get_of (F.at 1 (by kernel_rfl)) (by simp [undef])
        have c0 := blkv F.cls p0
        have c1 := blkv F.cls p1
        have c2 := blkv F.cls p2
        have c3 := blkv F.cls p3
        have hg := GotA.mk rfl HV1.out (HRY1.out _ F.cls)
        have FC := Lib.hid F.cls
        refine ⟨wanted_some rfl rfl (get_of dg (by simp [undef])), fun K hK => ?_⟩
        have HK := Lib.hid hK
        clear hK D F dg
        replace hg := Lib.hid hg
        go_simp
        exact HK.out _ _ FC.out (Below.refl _ _) hg.out
      · intro a w F D
        have dg : GB true (a.tmps.getD 22 undef) w := D ⟨17, .guard⟩ (by simp) rfl _ _ rfl rfl
        obtain ⟨y25, e25, v25, r25⟩ : GotA (numV ⟨#[49]⟩) (a.tmps.getD 25 undef) w := (D ⟨20, .data⟩ (by simp) rfl _ _ rfl rfl)
        replace e25 := get_of e25 (by simp [AV.val, undef])
        have HC := Lib.hid (ent_s (s := ⟨#[98]⟩) v25 r25)
        have FC := Lib.hid F.cls
        refine ⟨wanted_some rfl rfl (get_of dg (by simp [undef])), fun K hK => ?_⟩
        have HK := Lib.hid hK
        clear hK D F dg
        go_simp
        refine (HC.out).mono ?_
        rintro e w' ⟨y, rfl, hv, hr, hb⟩
        exact HK.out _ _ (below_via FC.out hb) hb ⟨y, rfl, hv, hr⟩
      · intro a w F D
        have dg : GB true (a.tmps.getD 22 undef) w := D ⟨17, .guard⟩ (by simp) rfl _ _ rfl rfl
        obtain ⟨y24, e24, v24, r24⟩ : GotA (entV ⟨#[97]⟩ (numV ⟨#[49]⟩)) (a.tmps.getD 24 undef) w := (D ⟨19, .data⟩ (by simp) rfl _ _ rfl rfl)
        replace e24 := get_of e24 (by simp [AV.val, undef])
        obtain ⟨y26, e26, v26, r26⟩ : GotA (entV ⟨#[98]⟩ (numV ⟨#[49]⟩)) (a.tmps.getD 26 undef) w := (D ⟨21, .data⟩ (by simp) rfl _ _ rfl rfl)
        replace e26 := get_of e26 (by simp [AV.val, undef])
        have FC := Lib.hid F.cls
        refine ⟨wanted_some rfl rfl (get_of dg (by simp [undef])), fun K hK => ?_⟩
        have HK := Lib.hid hK
        clear hK D F dg
        go_simp
        refine (far_v ex_3 v24 v26 (show (entV ⟨#[97]⟩ (numV ⟨#[49]⟩)).w ≤ 1048576 by simp only [numV_w, entV_w]; decide) (show (entV ⟨#[98]⟩ (numV ⟨#[49]⟩)).w ≤ 1048576 by simp only [numV_w, entV_w]; decide) r24 r26).mono ?_
        rintro e w' ⟨rfl, hb⟩
        exact HK.out _ _ (below_via FC.out hb) hb rfl
      · intro a w F D
        have dg : GB true (a.tmps.getD 22 undef) w := D ⟨17, .guard⟩ (by simp) rfl _ _ rfl rfl
        have e27 : GI 1 (a.tmps.getD 27 undef) w := (D ⟨22, .data⟩ (by simp) rfl _ _ rfl rfl)
        replace e27 := get_of e27 (by simp [undef])
        have FC := Lib.hid F.cls
        refine ⟨wanted_some rfl rfl (get_of dg (by simp [undef])), fun K hK => ?_⟩
        have HK := Lib.hid hK
        clear hK D F dg
        go_simp
        exact HK.out _ _ FC.out (Below.refl _ _) rfl
      · intro a w F D
        have e22 : GB true (a.tmps.getD 22 undef) w := (D ⟨17, .data⟩ (by simp) rfl _ _ rfl rfl)
        replace e22 := get_of e22 (by simp [undef])
        have e28 : GB true (a.tmps.getD 28 undef) w := (D ⟨23, .data⟩ (by simp) rfl _ _ rfl rfl)
        replace e28 := get_of e28 (by simp [undef])
        have FC := Lib.hid F.cls
        refine ⟨wanted_none rfl, fun K hK => ?_⟩
        have HK := Lib.hid hK
        clear hK D F
        go_simp
        exact HK.out _ _ FC.out (Below.refl _ _) rfl
      · intro a w F D
        have e29 : GB true (a.tmps.getD 29 undef) w := (D ⟨24, .data⟩ (by simp) rfl _ _ rfl rfl)
        replace e29 := get_of e29 (by simp [undef])
        have FC := Lib.hid F.cls
        refine ⟨wanted_none rfl, fun K hK => ?_⟩
        have HK := Lib.hid hK
        clear hK D F
        go_simp
        exact HK.out _ _ FC.out (Below.refl _ _) rfl
      · intro a w F D
        have dg : GB true (a.tmps.getD 30 undef) w := D ⟨25, .guard⟩ (by simp) rfl _ _ rfl rfl
        have o1 := get_of (F.at 1 (by kernel_rfl)) (by simp [undef])
        have c0 := blkv F.cls p0
        have c1 := blkv F.cls p1
        have c2 := blkv F.cls p2
        have c3 := blkv F.cls p3
        have hg := GotA.mk rfl HV1.out (HRY1.out _ F.cls)
        have FC := Lib.hid F.cls
        refine ⟨wanted_some rfl rfl (get_of dg (by simp [undef])), fun K hK => ?_⟩
        have HK := Lib.hid hK
        clear hK D F dg
        replace hg := Lib.hid hg
        go_simp
        exact HK.out _ _ FC.out (Below.refl _ _) hg.out
      · intro a w F D
        have dg : GB true (a.tmps.getD 30 undef) w := D ⟨25, .guard⟩ (by simp) rfl _ _ rfl rfl
        obtain ⟨y31, e31, v31, r31⟩ : GotA (numV ⟨#[49]⟩) (a.tmps.getD 31 undef) w := (D ⟨26, .data⟩ (by simp) rfl _ _ rfl rfl)
        replace e31 := get_of e31 (by simp [AV.val, undef])
        have hg := gs1 (w := w) v31 r31
        have FC := Lib.hid F.cls
        refine ⟨wanted_some rfl rfl (get_of dg (by simp [undef])), fun K hK => ?_⟩
        have HK := Lib.hid hK
        clear hK D F dg
        replace hg := Lib.hid hg
        go_simp
        exact HK.out _ _ (below_al FC.out) (below_al (Below.refl _ _)) hg.out
      · intro a w F D
        have dg : GB true (a.tmps.getD 30 undef) w := D ⟨25, .guard⟩ (by simp) rfl _ _ rfl rfl
        obtain ⟨b32, ys32, e32, l32, hB32, r32⟩ : GotS [numV ⟨#[49]⟩] (a.tmps.getD 32 undef) w := (D ⟨27, .data⟩ (by simp) rfl _ _ rfl rfl)
        replace e32 := get_of e32 (by simp [undef])
        have HC := Lib.hid (list_s l32 hB32 r32)
        clear l32 hB32 r32
        have FC := Lib.hid F.cls
        refine ⟨wanted_some rfl rfl (get_of dg (by simp [undef])), fun K hK => ?_⟩
        have HK := Lib.hid hK
        clear hK D F dg
        go_simp
        refine (HC.out).mono ?_
        rintro e w' ⟨y, rfl, hv, hr, hb⟩
        exact HK.out _ _ (below_via FC.out hb) hb ⟨y, rfl, hv, hr⟩
      · intro a w F D
        have dg : GB true (a.tmps.getD 30 undef) w := D ⟨25, .guard⟩ (by simp) rfl _ _ rfl rfl
        obtain ⟨y33, e33, v33, r33⟩ : GotA (listV [numV ⟨#[49]⟩]) (a.tmps.getD 33 undef) w := (D ⟨28, .data⟩ (by simp) rfl _ _ rfl rfl)
        replace e33 := get_of e33 (by simp [AV.val, undef])
        have hg := gs1 (w := w) v33 r33
        have FC := Lib.hid F.cls
        refine ⟨wanted_some rfl rfl (get_of dg (by simp [undef])), fun K hK => ?_⟩
        have HK := Lib.hid hK
        clear hK D F dg
        replace hg := Lib.hid hg
        go_simp
        exact HK.out _ _ (below_al FC.out) (below_al (Below.refl _ _)) hg.out
      · intro a w F D
        have dg : GB true (a.tmps.getD 30 undef) w := D ⟨25, .guard⟩ (by simp) rfl _ _ rfl rfl
        obtain ⟨b34, ys34, e34, l34, hB34, r34⟩ : GotS [listV [numV ⟨#[49]⟩]] (a.tmps.getD 34 undef) w := (D ⟨29, .data⟩ (by simp) rfl _ _ rfl rfl)
        replace e34 := get_of e34 (by simp [undef])
        have HC := Lib.hid (list_s l34 hB34 r34)
        clear l34 hB34 r34
        have FC := Lib.hid F.cls
        refine ⟨wanted_some rfl rfl (get_of dg (by simp [undef])), fun K hK => ?_⟩
        have HK := Lib.hid hK
        clear hK D F dg
        go_simp
        refine (HC.out).mono ?_
        rintro e w' ⟨y, rfl, hv, hr, hb⟩
        exact HK.out _ _ (below_via FC.out hb) hb ⟨y, rfl, hv, hr⟩
      · intro a w F D
        have dg : GB true (a.tmps.getD 30 undef) w := D ⟨25, .guard⟩ (by simp) rfl _ _ rfl rfl
        have o1 := get_of (F.at 1 (by kernel_rfl)) (by simp [undef])
        have c0 := blkv F.cls p0
        have c1 := blkv F.cls p1
        have c2 := blkv F.cls p2
        have c3 := blkv F.cls p3
        have hg := GotA.mk rfl HV1.out (HRY1.out _ F.cls)
        have FC := Lib.hid F.cls
        refine ⟨wanted_some rfl rfl (get_of dg (by simp [undef])), fun K hK => ?_⟩
        have HK := Lib.hid hK
        clear hK D F dg
        replace hg := Lib.hid hg
        go_simp
        exact HK.out _ _ FC.out (Below.refl _ _) hg.out
      · intro a w F D
        have dg : GB true (a.tmps.getD 30 undef) w := D ⟨25, .guard⟩ (by simp) rfl _ _ rfl rfl
        obtain ⟨y36, e36, v36, r36⟩ : GotA (numV ⟨#[49]⟩) (a.tmps.getD 36 undef) w := (D ⟨31, .data⟩ (by simp) rfl _ _ rfl rfl)
        replace e36 := get_of e36 (by simp [AV.val, undef])
        have hg := gs1 (w := w) v36 r36
        have FC := Lib.hid F.cls
        refine ⟨wanted_some rfl rfl (get_of dg (by simp [undef])), fun K hK => ?_⟩
        have HK := Lib.hid hK
        clear hK D F dg
        replace hg := Lib.hid hg
        go_simp
        exact HK.out _ _ (below_al FC.out) (below_al (Below.refl _ _)) hg.out
      · intro a w F D
        have dg : GB true (a.tmps.getD 30 undef) w := D ⟨25, .guard⟩ (by simp) rfl _ _ rfl rfl
        obtain ⟨b37, ys37, e37, l37, hB37, r37⟩ : GotS [numV ⟨#[49]⟩] (a.tmps.getD 37 undef) w := (D ⟨32, .data⟩ (by simp) rfl _ _ rfl rfl)
        replace e37 := get_of e37 (by simp [undef])
        have HC := Lib.hid (list_s l37 hB37 r37)
        clear l37 hB37 r37
        have FC := Lib.hid F.cls
        refine ⟨wanted_some rfl rfl (get_of dg (by simp [undef])), fun K hK => ?_⟩
        have HK := Lib.hid hK
        clear hK D F dg
        go_simp
        refine (HC.out).mono ?_
        rintro e w' ⟨y, rfl, hv, hr, hb⟩
        exact HK.out _ _ (below_via FC.out hb) hb ⟨y, rfl, hv, hr⟩
      · intro a w F D
        have dg : GB true (a.tmps.getD 30 undef) w := D ⟨25, .guard⟩ (by simp) rfl _ _ rfl rfl
        obtain ⟨y35, e35, v35, r35⟩ : GotA (listV [listV [numV ⟨#[49]⟩]]) (a.tmps.getD 35 undef) w := (D ⟨30, .data⟩ (by simp) rfl _ _ rfl rfl)
        replace e35 := get_of e35 (by simp [AV.val, undef])
        obtain ⟨y38, e38, v38, r38⟩ : GotA (listV [numV ⟨#[49]⟩]) (a.tmps.getD 38 undef) w := (D ⟨33, .data⟩ (by simp) rfl _ _ rfl rfl)
        replace e38 := get_of e38 (by simp [AV.val, undef])
        have FC := Lib.hid F.cls
        refine ⟨wanted_some rfl rfl (get_of dg (by simp [undef])), fun K hK => ?_⟩
        have HK := Lib.hid hK
        clear hK D F dg
        go_simp
        refine (far_v ex_4 v35 v38 (show (listV [listV [numV ⟨#[49]⟩]]).w ≤ 1048576 by simp only [listV_w, numV_w, List.map_cons, List.map_nil, List.sum_cons, List.sum_nil]; decide) (show (listV [numV ⟨#[49]⟩]).w ≤ 1048576 by simp only [listV_w, numV_w, List.map_cons, List.map_nil, List.sum_cons, List.sum_nil]; decide) r35 r38).mono ?_
        rintro e w' ⟨rfl, hb⟩
        exact HK.out _ _ (below_via FC.out hb) hb rfl
      · intro a w F D
        have dg : GB true (a.tmps.getD 30 undef) w := D ⟨25, .guard⟩ (by simp) rfl _ _ rfl rfl
        have e39 : GI 1 (a.tmps.getD 39 undef) w := (D ⟨34, .data⟩ (by simp) rfl _ _ rfl rfl)
        replace e39 := get_of e39 (by simp [undef])
        have FC := Lib.hid F.cls
        refine ⟨wanted_some rfl rfl (get_of dg (by simp [undef])), fun K hK => ?_⟩
        have HK := Lib.hid hK
        clear hK D F dg
        go_simp
        exact HK.out _ _ FC.out (Below.refl _ _) rfl
      · intro a w F D
        have e30 : GB true (a.tmps.getD 30 undef) w := (D ⟨25, .data⟩ (by simp) rfl _ _ rfl rfl)
        replace e30 := get_of e30 (by simp [undef])
        have e40 : GB true (a.tmps.getD 40 undef) w := (D ⟨35, .data⟩ (by simp) rfl _ _ rfl rfl)
        replace e40 := get_of e40 (by simp [undef])
        have FC := Lib.hid F.cls
        refine ⟨wanted_none rfl, fun K hK => ?_⟩
        have HK := Lib.hid hK
        clear hK D F
        go_simp
        exact HK.out _ _ FC.out (Below.refl _ _) rfl
      · intro a w F D
        have e41 : GB true (a.tmps.getD 41 undef) w := (D ⟨36, .data⟩ (by simp) rfl _ _ rfl rfl)
        replace e41 := get_of e41 (by simp [undef])
        have FC := Lib.hid F.cls
        refine ⟨wanted_none rfl, fun K hK => ?_⟩
        have HK := Lib.hid hK
        clear hK D F
        go_simp
        exact HK.out _ _ FC.out (Below.refl _ _) rfl
      · intro a w F D
        have dg : GB true (a.tmps.getD 42 undef) w := D ⟨37, .guard⟩ (by simp) rfl _ _ rfl rfl
        have o1 := get_of (F.at 1 (by kernel_rfl)) (by simp [undef])
        have c0 := blkv F.cls p0
        have c1 := blkv F.cls p1
        have c2 := blkv F.cls p2
        have c3 := blkv F.cls p3
        have hg := GotA.mk rfl HV1.out (HRY1.out _ F.cls)
        have FC := Lib.hid F.cls
        refine ⟨wanted_some rfl rfl (get_of dg (by simp [undef])), fun K hK => ?_⟩
        have HK := Lib.hid hK
        clear hK D F dg
        replace hg := Lib.hid hg
        go_simp
        exact HK.out _ _ FC.out (Below.refl _ _) hg.out
      · intro a w F D
        have dg : GB true (a.tmps.getD 42 undef) w := D ⟨37, .guard⟩ (by simp) rfl _ _ rfl rfl
        have o2 := get_of (F.at 2 (by kernel_rfl)) (by simp [undef])
        have c0 := blkv F.cls q0
        have c1 := blkv F.cls q1
        have c2 := blkv F.cls q2
        have c3 := blkv F.cls q3
        have hg := GotA.mk rfl HV2.out (HRY2.out _ F.cls)
        have FC := Lib.hid F.cls
        refine ⟨wanted_some rfl rfl (get_of dg (by simp [undef])), fun K hK => ?_⟩
        have HK := Lib.hid hK
        clear hK D F dg
        replace hg := Lib.hid hg
        go_simp
        exact HK.out _ _ FC.out (Below.refl _ _) hg.out
      · intro a w F D
        have dg : GB true (a.tmps.getD 42 undef) w := D ⟨37, .guard⟩ (by simp) rfl _ _ rfl rfl
        obtain ⟨y43, e43, v43, r43⟩ : GotA (numV ⟨#[49]⟩) (a.tmps.getD 43 undef) w := (D ⟨38, .data⟩ (by simp) rfl _ _ rfl rfl)
        replace e43 := get_of e43 (by simp [AV.val, undef])
        obtain ⟨y44, e44, v44, r44⟩ : GotA (numV ⟨#[50]⟩) (a.tmps.getD 44 undef) w := (D ⟨39, .data⟩ (by simp) rfl _ _ rfl rfl)
        replace e44 := get_of e44 (by simp [AV.val, undef])
        have hg := gs2 (w := w) v43 r43 v44 r44
        have FC := Lib.hid F.cls
        refine ⟨wanted_some rfl rfl (get_of dg (by simp [undef])), fun K hK => ?_⟩
        have HK := Lib.hid hK
        clear hK D F dg
        replace hg := Lib.hid hg
        go_simp
        exact HK.out _ _ (below_al FC.out) (below_al (Below.refl _ _)) hg.out
      · intro a w F D
        have dg : GB true (a.tmps.getD 42 undef) w := D ⟨37, .guard⟩ (by simp) rfl _ _ rfl rfl
        obtain ⟨b45, ys45, e45, l45, hB45, r45⟩ : GotS [numV ⟨#[49]⟩, numV ⟨#[50]⟩] (a.tmps.getD 45 undef) w := (D ⟨40, .data⟩ (by simp) rfl _ _ rfl rfl)
        replace e45 := get_of e45 (by simp [undef])
        have HC := Lib.hid (list_s l45 hB45 r45)
        clear l45 hB45 r45
        have FC := Lib.hid F.cls
        refine ⟨wanted_some rfl rfl (get_of dg (by simp [undef])), fun K hK => ?_⟩
        have HK := Lib.hid hK
        clear hK D F dg
        go_simp
        refine (HC.out).mono ?_
        rintro e w' ⟨y, rfl, hv, hr, hb⟩
        exact HK.out _ _ (below_via FC.out hb) hb ⟨y, rfl, hv, hr⟩
      · intro a w F D
        have dg : GB true (a.tmps.getD 42 undef) w := D ⟨37, .guard⟩ (by simp) rfl _ _ rfl rfl
        obtain ⟨y46, e46, v46, r46⟩ : GotA (listV [numV ⟨#[49]⟩, numV ⟨#[50]⟩]) (a.tmps.getD 46 undef) w := (D ⟨41, .data⟩ (by simp) rfl _ _ rfl rfl)
        replace e46 := get_of e46 (by simp [AV.val, undef])
        have HC := Lib.hid (ent_s (s := ⟨#[97]⟩) v46 r46)
        have FC := Lib.hid F.cls
        refine ⟨wanted_some rfl rfl (get_of dg (by simp [undef])), fun K hK => ?_⟩
        have HK := Lib.hid hK
        clear hK D F dg
        go_simp
        refine (HC.out).mono ?_
        rintro e w' ⟨y, rfl, hv, hr, hb⟩
        exact HK.out _ _ (below_via FC.out hb) hb ⟨y, rfl, hv, hr⟩
      · intro a w F D
        have dg : GB true (a.tmps.getD 42 undef) w := D ⟨37, .guard⟩ (by simp) rfl _ _ rfl rfl
        have FC := Lib.hid F.cls
        refine ⟨wanted_some rfl rfl (get_of dg (by simp [undef])), fun K hK => ?_⟩
        have HK := Lib.hid hK
        clear hK D F dg
        go_simp
        refine (num20_c _ ⟨#[53]⟩).mono ?_
        rintro e w' ⟨y, rfl, hv, hr, hb⟩
        exact HK.out _ _ (below_via FC.out hb) hb ⟨y, rfl, hv, hr⟩
      · intro a w F D
        have dg : GB true (a.tmps.getD 42 undef) w := D ⟨37, .guard⟩ (by simp) rfl _ _ rfl rfl
        obtain ⟨y47, e47, v47, r47⟩ : GotA (entV ⟨#[97]⟩ (listV [numV ⟨#[49]⟩, numV ⟨#[50]⟩])) (a.tmps.getD 47 undef) w := (D ⟨42, .data⟩ (by simp) rfl _ _ rfl rfl)
        replace e47 := get_of e47 (by simp [AV.val, undef])
        obtain ⟨y48, e48, v48, r48⟩ : GotA (numV ⟨#[53]⟩) (a.tmps.getD 48 undef) w := (D ⟨43, .data⟩ (by simp) rfl _ _ rfl rfl)
        replace e48 := get_of e48 (by simp [AV.val, undef])
        have FC := Lib.hid F.cls
        refine ⟨wanted_some rfl rfl (get_of dg (by simp [undef])), fun K hK => ?_⟩
        have HK := Lib.hid hK
        clear hK D F dg
        go_simp
        refine (far_v ex_5 v47 v48 (show (entV ⟨#[97]⟩ (listV [numV ⟨#[49]⟩, numV ⟨#[50]⟩])).w ≤ 1048576 by simp only [listV_w, numV_w, entV_w, List.map_cons, List.map_nil, List.sum_cons, List.sum_nil]; decide) (show (numV ⟨#[53]⟩).w ≤ 1048576 by simp only [numV_w]; decide) r47 r48).mono ?_
        rintro e w' ⟨rfl, hb⟩
        exact HK.out _ _ (below_via FC.out hb) hb rfl
      · intro a w F D
        have dg : GB true (a.tmps.getD 42 undef) w := D ⟨37, .guard⟩ (by simp) rfl _ _ rfl rfl
        have e49 : GI 4 (a.tmps.getD 49 undef) w := (D ⟨44, .data⟩ (by simp) rfl _ _ rfl rfl)
        replace e49 := get_of e49 (by simp [undef])
        have FC := Lib.hid F.cls
        refine ⟨wanted_some rfl rfl (get_of dg (by simp [undef])), fun K hK => ?_⟩
        have HK := Lib.hid hK
        clear hK D F dg
        go_simp
        exact HK.out _ _ FC.out (Below.refl _ _) rfl
      · intro a w F D
        have e42 : GB true (a.tmps.getD 42 undef) w := (D ⟨37, .data⟩ (by simp) rfl _ _ rfl rfl)
        replace e42 := get_of e42 (by simp [undef])
        have e50 : GB true (a.tmps.getD 50 undef) w := (D ⟨45, .data⟩ (by simp) rfl _ _ rfl rfl)
        replace e50 := get_of e50 (by simp [undef])
        have FC := Lib.hid F.cls
        refine ⟨wanted_none rfl, fun K hK => ?_⟩
        have HK := Lib.hid hK
        clear hK D F
        go_simp
        exact HK.out _ _ FC.out (Below.refl _ _) rfl
      · intro a w F D
        have e51 : GB true (a.tmps.getD 51 undef) w := (D ⟨46, .data⟩ (by simp) rfl _ _ rfl rfl)
        replace e51 := get_of e51 (by simp [undef])
        have FC := Lib.hid F.cls
        refine ⟨wanted_none rfl, fun K hK => ?_⟩
        have HK := Lib.hid hK
        clear hK D F
        go_simp
        exact HK.out _ _ FC.out (Below.refl _ _) rfl
      · intro a w F D
        have dg : GB true (a.tmps.getD 52 undef) w := D ⟨47, .guard⟩ (by simp) rfl _ _ rfl rfl
        have o1 := get_of (F.at 1 (by kernel_rfl)) (by simp [undef])
        have c0 := blkv F.cls p0
        have c1 := blkv F.cls p1
        have c2 := blkv F.cls p2
        have c3 := blkv F.cls p3
        have hg := GotA.mk rfl HV1.out (HRY1.out _ F.cls)
        have FC := Lib.hid F.cls
        refine ⟨wanted_some rfl rfl (get_of dg (by simp [undef])), fun K hK => ?_⟩
        have HK := Lib.hid hK
        clear hK D F dg
        replace hg := Lib.hid hg
        go_simp
        exact HK.out _ _ FC.out (Below.refl _ _) hg.out
      · intro a w F D
        have dg : GB true (a.tmps.getD 52 undef) w := D ⟨47, .guard⟩ (by simp) rfl _ _ rfl rfl
        have o2 := get_of (F.at 2 (by kernel_rfl)) (by simp [undef])
        have c0 := blkv F.cls q0
        have c1 := blkv F.cls q1
        have c2 := blkv F.cls q2
        have c3 := blkv F.cls q3
        have hg := GotA.mk rfl HV2.out (HRY2.out _ F.cls)
        have FC := Lib.hid F.cls
        refine ⟨wanted_some rfl rfl (get_of dg (by simp [undef])), fun K hK => ?_⟩
        have HK := Lib.hid hK
        clear hK D F dg
        replace hg := Lib.hid hg
        go_simp
        exact HK.out _ _ FC.out (Below.refl _ _) hg.out
      · intro a w F D
        have dg : GB true (a.tmps.getD 52 undef) w := D ⟨47, .guard⟩ (by simp) rfl _ _ rfl rfl
        obtain ⟨y53, e53, v53, r53⟩ : GotA (numV ⟨#[49]⟩) (a.tmps.getD 53 undef) w := (D ⟨48, .data⟩ (by simp) rfl _ _ rfl rfl)
        replace e53 := get_of e53 (by simp [AV.val, undef])
        obtain ⟨y54, e54, v54, r54⟩ : GotA (numV ⟨#[50]⟩) (a.tmps.getD 54 undef) w := (D ⟨49, .data⟩ (by simp) rfl _ _ rfl rfl)
        replace e54 := get_of e54 (by simp [AV.val, undef])
        have FC := Lib.hid F.cls
        refine ⟨wanted_some rfl rfl (get_of dg (by simp [undef])), fun K hK => ?_⟩
        have HK := Lib.hid hK
        clear hK D F dg
        go_simp
        refine (within_v ex_1 rfl v53 v54 (show (numV ⟨#[49]⟩).w ≤ 1048576 by simp only [numV_w]; decide) (show (numV ⟨#[50]⟩).w ≤ 1048576 by simp only [numV_w]; decide) r53 r54).mono ?_
        rintro e w' ⟨rfl, hb⟩
        exact HK.out _ _ (below_via FC.out hb) hb rfl
      · intro a w F D
        have dg : GB true (a.tmps.getD 52 undef) w := D ⟨47, .guard⟩ (by simp) rfl _ _ rfl rfl
        have e55 : GB false (a.tmps.getD 55 undef) w := (D ⟨50, .data⟩ (by simp) rfl _ _ rfl rfl)
        replace e55 := get_of e55 (by simp [undef])
        have FC := Lib.hid F.cls
        refine ⟨wanted_some rfl rfl (get_of dg (by simp [undef])), fun K hK => ?_⟩
        have HK := Lib.hid hK
        clear hK D F dg
        go_simp
        exact HK.out _ _ FC.out (Below.refl _ _) rfl
      · intro a w F D
        have e52 : GB true (a.tmps.getD 52 undef) w := (D ⟨47, .data⟩ (by simp) rfl _ _ rfl rfl)
        replace e52 := get_of e52 (by simp [undef])
        have e56 : GB true (a.tmps.getD 56 undef) w := (D ⟨51, .data⟩ (by simp) rfl _ _ rfl rfl)
        replace e56 := get_of e56 (by simp [undef])
        have FC := Lib.hid F.cls
        refine ⟨wanted_none rfl, fun K hK => ?_⟩
        have HK := Lib.hid hK
        clear hK D F
        go_simp
        exact HK.out _ _ FC.out (Below.refl _ _) rfl
      · intro a w F D
        have e57 : GB true (a.tmps.getD 57 undef) w := (D ⟨52, .data⟩ (by simp) rfl _ _ rfl rfl)
        replace e57 := get_of e57 (by simp [undef])
        have FC := Lib.hid F.cls
        refine ⟨wanted_none rfl, fun K hK => ?_⟩
        have HK := Lib.hid hK
        clear hK D F
        go_simp
        exact HK.out _ _ FC.out (Below.refl _ _) rfl
      · intro a w F D
        have dg : GB true (a.tmps.getD 58 undef) w := D ⟨53, .guard⟩ (by simp) rfl _ _ rfl rfl
        have o1 := get_of (F.at 1 (by kernel_rfl)) (by simp [undef])
        have c0 := blkv F.cls p0
        have c1 := blkv F.cls p1
        have c2 := blkv F.cls p2
        have c3 := blkv F.cls p3
        have hg := GotA.mk rfl HV1.out (HRY1.out _ F.cls)
        have FC := Lib.hid F.cls
        refine ⟨wanted_some rfl rfl (get_of dg (by simp [undef])), fun K hK => ?_⟩
        have HK := Lib.hid hK
        clear hK D F dg
        replace hg := Lib.hid hg
        go_simp
        exact HK.out _ _ FC.out (Below.refl _ _) hg.out
      · intro a w F D
        have dg : GB true (a.tmps.getD 58 undef) w := D ⟨53, .guard⟩ (by simp) rfl _ _ rfl rfl
        have o2 := get_of (F.at 2 (by kernel_rfl)) (by simp [undef])
        have c0 := blkv F.cls q0
        have c1 := blkv F.cls q1
        have c2 := blkv F.cls q2
        have c3 := blkv F.cls q3
        have hg := GotA.mk rfl HV2.out (HRY2.out _ F.cls)
        have FC := Lib.hid F.cls
        refine ⟨wanted_some rfl rfl (get_of dg (by simp [undef])), fun K hK => ?_⟩
        have HK := Lib.hid hK
        clear hK D F dg
        replace hg := Lib.hid hg
        go_simp
        exact HK.out _ _ FC.out (Below.refl _ _) hg.out
      · intro a w F D
        have dg : GB true (a.tmps.getD 58 undef) w := D ⟨53, .guard⟩ (by simp) rfl _ _ rfl rfl
        obtain ⟨y59, e59, v59, r59⟩ : GotA (numV ⟨#[49]⟩) (a.tmps.getD 59 undef) w := (D ⟨54, .data⟩ (by simp) rfl _ _ rfl rfl)
        replace e59 := get_of e59 (by simp [AV.val, undef])
        obtain ⟨y60, e60, v60, r60⟩ : GotA (numV ⟨#[50]⟩) (a.tmps.getD 60 undef) w := (D ⟨55, .data⟩ (by simp) rfl _ _ rfl rfl)
        replace e60 := get_of e60 (by simp [AV.val, undef])
        have FC := Lib.hid F.cls
        refine ⟨wanted_some rfl rfl (get_of dg (by simp [undef])), fun K hK => ?_⟩
        have HK := Lib.hid hK
        clear hK D F dg
        go_simp
        refine (within_v ex_1 rfl v59 v60 (show (numV ⟨#[49]⟩).w ≤ 1048576 by simp only [numV_w]; decide) (show (numV ⟨#[50]⟩).w ≤ 1048576 by simp only [numV_w]; decide) r59 r60).mono ?_
        rintro e w' ⟨rfl, hb⟩
        exact HK.out _ _ (below_via FC.out hb) hb rfl
      · intro a w F D
        have e58 : GB true (a.tmps.getD 58 undef) w := (D ⟨53, .data⟩ (by simp) rfl _ _ rfl rfl)
        replace e58 := get_of e58 (by simp [undef])
        have e61 : GB true (a.tmps.getD 61 undef) w := (D ⟨56, .data⟩ (by simp) rfl _ _ rfl rfl)
        replace e61 := get_of e61 (by simp [undef])
        have FC := Lib.hid F.cls
        refine ⟨wanted_none rfl, fun K hK => ?_⟩
        have HK := Lib.hid hK
        clear hK D F
        go_simp
        exact HK.out _ _ FC.out (Below.refl _ _) rfl
      · intro a w F D
        have e62 : GB true (a.tmps.getD 62 undef) w := (D ⟨57, .data⟩ (by simp) rfl _ _ rfl rfl)
        replace e62 := get_of e62 (by simp [undef])
        have FC := Lib.hid F.cls
        refine ⟨wanted_none rfl, fun K hK => ?_⟩
        have HK := Lib.hid hK
        clear hK D F
        go_simp
        exact HK.out _ _ FC.out (Below.refl _ _) rfl
  case rest =>
    intro e a' w' h
    cases e with
    | normal =>
      obtain ⟨g1, g2, g3⟩ := h
      obtain ⟨tm, df⟩ := a'
      simp only at g1 g2
      subst g2
      clear HS HRY1 HRY2 HV1 HV2 p0 p1 p2 p3 q0 q1 q2 q3
      go_wp2_with fail
      go_ret
      exact ⟨by rw [g1], below_via HBW.out g3⟩
    | ret => exact h.elim
    | exit _ => exact h.elim
    | goto _ => exact h.elim
    | panic _ => exact h.elim
    | outgrown => exact h.elim
end Go.Proofs.Ytmhkacafilpliaa
