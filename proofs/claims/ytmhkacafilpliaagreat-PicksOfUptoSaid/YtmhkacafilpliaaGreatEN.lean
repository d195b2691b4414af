/-
  The examples of chapter 20. No condition. (Printed by gen_en.py.)
-/
import Derived.Test.YtmhkacafilpliaaGreatEH
import Derived.Test.YtmhkacafilpliaaGreatRP
namespace Go.Proofs.YtmhkacafilpliaaGreat
open Go.RowKit Go.Sort Go.Shelf Go.BigFrame

theorem numV_w (s : ByteArray) : (numV s).w = 1 + s.size := by rw [Val.w_eq]; simp [numV]
theorem listV_w (l : List Val) : (listV l).w = 1 + (l.map Val.w).sum := by
  rw [Val.w_eq]
  show 1 + 0 + 0 + 0 + (l.map Val.w).sum = _
  omega
theorem entV_w (s : ByteArray) (v : Val) : (entV s v).w = 2 + s.size + v.w := by
  rw [Val.w_eq]
  show 1 + 0 + 1 + (s.size + 0) + (v.w + 0) = _
  omega
theorem blk_al {W : World} {k : Nat} {o o' : Obj} (h : W.heap[k]? = some o) : (W.alloc o').heap[k]? = some o := blk_via (below_al (Below.refl _ _)) h
theorem blk_new2 (W : World) (o o' : Obj) : ((W.alloc o).alloc o').heap[W.heap.size + 1]? = some o' := by
  have := heap_alloc_new (W.alloc o) o'
  rwa [World.size_alloc] at this
theorem blk_new3 (W : World) (o o' o2 : Obj) : (((W.alloc o).alloc o').alloc o2).heap[W.heap.size + 1 + 1]? = some o2 := by
  have := heap_alloc_new ((W.alloc o).alloc o') o2
  rwa [World.size_alloc, World.size_alloc] at this
/-- What stays in the region of the examples. -/
abbrev Sx (W0 w' : World) : Prop := (∀ b o, b < W0.heap.size → w'.cell? ⟨b, o, none⟩ = W0.cell? ⟨b, o, none⟩) ∧ Below W0.heap.size W0 w'
theorem sx_al {W0 X : World} {o : Obj} (h : (∀ b o, b < W0.heap.size → X.cell? ⟨b, o, none⟩ = W0.cell? ⟨b, o, none⟩) ∧ Below W0.heap.size W0 X) : (∀ b o', b < W0.heap.size → (X.alloc o).cell? ⟨b, o', none⟩ = W0.cell? ⟨b, o', none⟩) ∧ Below W0.heap.size W0 (X.alloc o) := sx_of (below_al h.2)
theorem sx_call {W0 X X' : World} (h : (∀ b o, b < W0.heap.size → X.cell? ⟨b, o, none⟩ = W0.cell? ⟨b, o, none⟩) ∧ Below W0.heap.size W0 X) (hb : Below X.heap.size X X') : (∀ b o, b < W0.heap.size → X'.cell? ⟨b, o, none⟩ = W0.cell? ⟨b, o, none⟩) ∧ Below W0.heap.size W0 X' := sx_of (below_via h.2 hb)
theorem sx_b {W0 X : World} (h : (∀ b o, b < W0.heap.size → X.cell? ⟨b, o, none⟩ = W0.cell? ⟨b, o, none⟩) ∧ Below W0.heap.size W0 X) : Below W0.heap.size W0 X := h.2
/-- A value of api.Value's kind whose meaning is a. -/
def GotA (a : Val) (v : Value) (w : World) : Prop := ∃ y : AV, v = y.val ∧ y.v = a ∧ Rd w y
theorem GotA.mk {a : Val} {y : AV} {v : Value} {w : World} (h : v = y.val) (hv : y.v = a) (hr : Rd w y) : GotA a v w := ⟨y, h, hv, hr⟩
/-- A row of values in a block of its own. -/
def GotS (l : List Val) (v : Value) (w : World) : Prop := ∃ (b : Nat) (ys : List AV), v = .slice (some ⟨b, 0, none⟩) l.length l.length ∧ ys.map AV.v = l ∧ w.heap[b]? = some (.cells (ys.flatMap AV.enc).toArray 26 (0, 0)) ∧ ∀ y ∈ ys, Rd w y
abbrev GB (b : Bool) (v : Value) (_ : World) : Prop := v = .bool b
abbrev GI (k : Int) (v : Value) (_ : World) : Prop := v = .int .i64 k
def Stab (g : Value → World → Prop) : Prop := ∀ v w w', Below w.heap.size w w' → g v w → g v w'
theorem stab_B (b : Bool) : Stab (GB b) := fun _ _ _ _ h => h
theorem stab_I (k : Int) : Stab (GI k) := fun _ _ _ _ h => h
theorem stab_A (a : Val) : Stab (GotA a) := fun _ _ _ hb ⟨y, h1, h2, h3⟩ => ⟨y, h1, h2, h3.up hb⟩
theorem stab_S (l : List Val) : Stab (GotS l) := fun _ _ _ hb ⟨b, ys, h1, h2, h3, h4⟩ => ⟨b, ys, h1, h2, blk_via hb h3, fun y hy => (h4 y hy).up hb⟩
theorem gs1 {w : World} {y1 : AV} {a1 : Val} (v1 : y1.v = a1) (r1 : Rd w y1) : GotS [a1] (.slice (some ⟨w.heap.size, 0, none⟩) 1 1) (w.alloc (.cells #[.int .u8 y1.k, .string y1.t, .slice y1.la y1.l.length y1.lc, .slice y1.ka y1.ks.length y1.kc] 26)) :=
  ⟨_, [y1], rfl, by rw [← v1]; rfl, heap_alloc_new _ _, fun y hy => by
    simp at hy
    subst hy
    exact r1.up (below_al (Below.refl _ _))⟩
theorem gs2 {w : World} {y1 y2 : AV} {a1 a2 : Val} (v1 : y1.v = a1) (r1 : Rd w y1) (v2 : y2.v = a2) (r2 : Rd w y2) : GotS [a1, a2] (.slice (some ⟨w.heap.size, 0, none⟩) 2 2) (w.alloc (.cells #[.int .u8 y1.k, .string y1.t, .slice y1.la y1.l.length y1.lc, .slice y1.ka y1.ks.length y1.kc, .int .u8 y2.k, .string y2.t, .slice y2.la y2.l.length y2.lc, .slice y2.ka y2.ks.length y2.kc] 26)) :=
  ⟨_, [y1, y2], rfl, by rw [← v1, ← v2]; rfl, heap_alloc_new _ _, fun y hy => by
    simp at hy
    rcases hy with rfl | rfl
    · exact r1.up (below_al (Below.refl _ _))
    · exact r2.up (below_al (Below.refl _ _))⟩
theorem gs3 {w : World} {y1 y2 y3 : AV} {a1 a2 a3 : Val} (v1 : y1.v = a1) (r1 : Rd w y1) (v2 : y2.v = a2) (r2 : Rd w y2) (v3 : y3.v = a3) (r3 : Rd w y3) : GotS [a1, a2, a3] (.slice (some ⟨w.heap.size, 0, none⟩) 3 3) (w.alloc (.cells #[.int .u8 y1.k, .string y1.t, .slice y1.la y1.l.length y1.lc, .slice y1.ka y1.ks.length y1.kc, .int .u8 y2.k, .string y2.t, .slice y2.la y2.l.length y2.lc, .slice y2.ka y2.ks.length y2.kc, .int .u8 y3.k, .string y3.t, .slice y3.la y3.l.length y3.lc, .slice y3.ka y3.ks.length y3.kc] 26)) :=
  ⟨_, [y1, y2, y3], rfl, by rw [← v1, ← v2, ← v3]; rfl, heap_alloc_new _ _, fun y hy => by
    simp at hy
    rcases hy with rfl | rfl | rfl
    · exact r1.up (below_al (Below.refl _ _))
    · exact r2.up (below_al (Below.refl _ _))
    · exact r3.up (below_al (Below.refl _ _))⟩
def GLi : List (Value → World → Prop) := [GotA (numV ⟨#[49]⟩), GotA (numV ⟨#[50]⟩), GI 1, GB true, GB true, GotA (numV ⟨#[49]⟩), GotA (numV ⟨#[50]⟩), GotS [numV ⟨#[49]⟩, numV ⟨#[50]⟩], GotA (listV [numV ⟨#[49]⟩, numV ⟨#[50]⟩]), GotA (numV ⟨#[49]⟩), GotA (numV ⟨#[51]⟩), GotA (numV ⟨#[50]⟩), GotS [numV ⟨#[49]⟩, numV ⟨#[51]⟩, numV ⟨#[50]⟩], GotA (listV [numV ⟨#[49]⟩, numV ⟨#[51]⟩, numV ⟨#[50]⟩]), GI 1, GB true, GB true, GB true, GotA (numV ⟨#[49]⟩), GotA (entV ⟨#[97]⟩ (numV ⟨#[49]⟩)), GotA (numV ⟨#[49]⟩), GotA (entV ⟨#[98]⟩ (numV ⟨#[49]⟩)), GI 1, GB true, GB true, GB true, GotA (numV ⟨#[49]⟩), GotS [numV ⟨#[49]⟩], GotA (listV [numV ⟨#[49]⟩]), GotS [listV [numV ⟨#[49]⟩]], GotA (listV [listV [numV ⟨#[49]⟩]]), GotA (numV ⟨#[49]⟩), GotS [numV ⟨#[49]⟩], GotA (listV [numV ⟨#[49]⟩]), GI 1, GB true, GB true, GB true, GotA (numV ⟨#[49]⟩), GotA (numV ⟨#[50]⟩), GotS [numV ⟨#[49]⟩, numV ⟨#[50]⟩], GotA (listV [numV ⟨#[49]⟩, numV ⟨#[50]⟩]), GotA (entV ⟨#[97]⟩ (listV [numV ⟨#[49]⟩, numV ⟨#[50]⟩])), GotA (numV ⟨#[53]⟩), GI 4, GB true, GB true, GB true, GotA (numV ⟨#[49]⟩), GotA (numV ⟨#[50]⟩), GB false, GB true, GB true, GB true, GotA (numV ⟨#[49]⟩), GotA (numV ⟨#[50]⟩), GB true, GB true, GB true]
theorem GLi_stab : ∀ g ∈ GLi, Stab g := by
  unfold GLi
  repeat (first | exact fun _ h => absurd h List.not_mem_nil | refine List.forall_mem_cons.2 ⟨by first | exact stab_A _ | exact stab_S _ | exact stab_B _ | exact stab_I _, ?_⟩)
theorem GLi_up (i : Nat) (v : Value) (w w' : World) (hb : Below w.heap.size w w') (h : GLi.getD i (fun _ _ => True) v w) : GLi.getD i (fun _ _ => True) v w' := by
  rw [List.getD_eq_getElem?_getD] at h ⊢
  cases hg : GLi[i]? with
  | none => trivial
  | some g => rw [hg] at h; exact GLi_stab g (List.mem_of_getElem? hg) v w w' hb h
/-- What is asked behind the region: the answer, and that nothing old was changed. -/
def EiQ (W0 : World) : Exit → Act → World → Prop
  | .normal, a, w' => a.tmps.getD 0 undef = .bool true ∧ a.defers = [] ∧ Below W0.heap.size W0 w'
  | _, _, _ => False
end Go.Proofs.YtmhkacafilpliaaGreat
