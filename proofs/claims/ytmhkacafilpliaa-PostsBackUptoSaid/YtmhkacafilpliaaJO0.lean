/-
  A postorder in memory of the call's own, and what posts.Of and the document's Of hand back. Conditions: the value lies in memory, its weight is bounded.
-/
import Derived.Test.YtmhkacafilpliaaJR
import Derived.Test.YtmhkacafilpliaaJM
namespace Go.Proofs.Ytmhkacafilpliaa
open Go.RowKit Go.Sort Go.Shelf

theorem below_al {w W : World} {o : Obj} (h : Below w.heap.size w W) : Below w.heap.size w (W.alloc o) := h.alloc h.size o
theorem blk_via {w W : World} {k : Nat} {o : Obj} (h : Below w.heap.size w W) (hk : w.heap[k]? = some o) : W.heap[k]? = some o := (h.block k (Array.getElem?_eq_some_iff.1 hk).1).trans hk
theorem rootsL_le (N : List Nat) : (rootsL N).length ≤ N.length := by
  unfold rootsL
  exact Nat.le_trans (List.length_filter_le _ _) (by simp)
/-- A block of at least so many cells, none of them frozen. -/
def Rw (w : World) (g : Nat) (t : TypeId) (m : Nat) : Prop := ∃ cur : Array Value, w.heap[g]? = some (.cells cur t (0, 0)) ∧ m ≤ cur.size
theorem Rw.lt {w : World} {g m : Nat} {t : TypeId} (h : Rw w g t m) : g < w.heap.size := by obtain ⟨c, h, -⟩ := h; exact (Array.getElem?_eq_some_iff.1 h).1
theorem Rw.cell {w : World} {g m : Nat} {t : TypeId} (h : Rw w g t m) {o : Nat} (ho : o < m) : ∃ v, w.cell? ⟨g, o, none⟩ = some v := by
  obtain ⟨c, h, hm⟩ := h
  exact ⟨c[o]'(by omega), by simp only [World.cell?, h]; exact Array.getElem?_eq_getElem (by omega)⟩
theorem Rw.froz {w : World} {g m : Nat} {t : TypeId} (h : Rw w g t m) (o : Nat) : w.frozen? ⟨g, o, none⟩ = false := by
  obtain ⟨c, h, hm⟩ := h
  simp [World.frozen?, h]
theorem Rw.keep {w w' : World} {g m : Nat} {t : TypeId} (h : Rw w g t m) (hb : w'.heap[g]? = w.heap[g]?) : Rw w' g t m := by
  obtain ⟨c, h, hm⟩ := h
  exact ⟨c, hb.trans h, hm⟩
theorem Rw.put {w : World} {g g' o m : Nat} {t : TypeId} (h : Rw w g t m) (v : Value) : Rw (w.setCell ⟨g', o, none⟩ v) g t m := by
  by_cases e : g = g'
  · subst e
    obtain ⟨c, h, hm⟩ := h
    exact ⟨_, Go.Joins.block_setCell h (i := o) v, by simpa using hm⟩
  · exact h.keep (Below.heap_setCell _ _ _ g e)
theorem rw_ne {w : World} {g1 g2 m n : Nat} {t s : TypeId} (h1 : Rw w g1 t m) (h2 : Rw w g2 s n) (hts : t ≠ s) (e : g1 = g2) : False := by
  subst e
  obtain ⟨c1, k1, -⟩ := h1
  obtain ⟨c2, k2, -⟩ := h2
  rw [k1] at k2
  injection k2 with k2
  injection k2 with _ k2
  exact hts k2
theorem rw_box {w : World} {g1 g2 n : Nat} {c : Array Value} {t s : TypeId} (h1 : w.heap[g1]? = some (.cells c t (0, 0))) (h2 : Rw w g2 s n) (hts : t ≠ s) (e : g1 = g2) : False := by
  subst e
  obtain ⟨c2, k2, -⟩ := h2
  rw [h1] at k2
  injection k2 with k2
  injection k2 with _ k2
  exact hts k2
/-- A postorder in blocks of the call's own, from one on. -/
structure POwn (w : World) (base : Nat) (al af ar : Option Addr) (cl cf cr : Nat) (L : List Lab) (F R : List Int) : Prop where
  l : SlE Lab.enc 4 w base w.heap.size al L
  f : SlE i64Z 1 w base w.heap.size af F
  r : SlE i64Z 1 w base w.heap.size ar R
  n : L.length ≤ 2097152 ∧ F.length ≤ 2097152 ∧ R.length ≤ 2097152
theorem POwn.rd {w : World} {base : Nat} {al af ar : Option Addr} {cl cf cr : Nat} {L : List Lab} {F R : List Int} (h : POwn w base al af ar cl cf cr L F R) : PA.Rd ⟨al, cl, af, cf, ar, cr, L, F, R⟩ w :=
  ⟨h.l.widen (Nat.zero_le _) (Nat.le_refl _), h.f.widen (Nat.zero_le _) (Nat.le_refl _), h.r.widen (Nat.zero_le _) (Nat.le_refl _), h.n⟩
/-- Its rows, which may be written. -/
def PWr (w : World) (base hi : Nat) (al af : Option Addr) (n : Nat) : Prop := 0 < n → ∃ g1 g2, al = some ⟨g1, 0, none⟩ ∧ af = some ⟨g2, 0, none⟩ ∧ base ≤ g1 ∧ base ≤ g2 ∧ g1 < hi ∧ g2 < hi ∧ Rw w g1 46 (n * 4) ∧ Rw w g2 3 n
theorem pown_of {w : World} {base : Nat} {al af ar : Option Addr} {n r : Nat} {L : List Lab} {N M : List Nat} (h1 : OwnC w base 46 4 al n n (L.flatMap Lab.enc)) (h2 : OwnC w base 3 1 af n n (N.flatMap natE)) (h3 : OwnC w base 3 1 ar r r (M.flatMap natE)) (e1 : n = L.length) (e2 : n = N.length) (e3 : r = M.length)
    (b1 : L.length ≤ 2097152) (b3 : M.length ≤ 2097152) : POwn w base al af ar n n r L (intsL N) (intsL M) ∧ PWr w base w.heap.size al af n := by
  refine ⟨⟨?_, ?_, ?_, by simp only [intsL, List.length_map]; omega⟩, fun h0 => ?_⟩
  · subst e1; exact ownC_sl (enc := Lab.enc) (size := 4) (fun _ => rfl) (by decide) h1
  · have h := h2
    rw [e2] at h
    exact nat_int N (ownC_sl (enc := natE) (size := 1) (fun _ => rfl) (by decide) h)
  · subst e3; exact nat_int M (ownC_sl (enc := natE) (size := 1) (fun _ => rfl) (by decide) h3)
  · obtain ⟨g1, c1, rfl, l1, k1, s1, -⟩ := h1.2.2 h0
    obtain ⟨g2, c2, rfl, l2, k2, s2, -⟩ := h2.2.2 h0
    exact ⟨g1, g2, rfl, rfl, l1, l2, (Array.getElem?_eq_some_iff.1 k1).1, (Array.getElem?_eq_some_iff.1 k2).1, ⟨c1, k1, s1⟩, ⟨c2, k2, by omega⟩⟩
theorem pown_none (w : World) (base : Nat) : POwn w base none none none 0 0 0 [] (intsL []) (intsL []) ∧ PWr w base w.heap.size none none 0 :=
  ⟨⟨fun h => absurd h (by simp), fun h => absurd h (by simp), fun h => absurd h (by simp), by simp⟩, fun h => absurd h (by omega)⟩
def POfU (v : Val) (w : World) (e : Ending) (w' : World) : Prop :=
  ∃ al af ar, e = .returned (.tuple #[.agg (pBox al v.labs0.length v.labs0.length af v.labs0.length v.labs0.length ar (rootsL v.lefts0).length (rootsL v.lefts0).length), .bool v.may]) ∧
    POwn w' w.heap.size al af ar v.labs0.length v.labs0.length (rootsL v.lefts0).length v.labs0 (intsL v.lefts0) (intsL (rootsL v.lefts0)) ∧ PWr w' w.heap.size w'.heap.size al af v.labs0.length ∧ Below w.heap.size w w'
theorem roots0_le (v : Val) : (rootsL v.lefts0).length ≤ v.labs0.length := by
  rw [← lefts0_len]; exact rootsL_le _
theorem pof_u (w : World) (x : AV) (hx : Rd w x) (hw : x.w ≤ 1048576) : Calls Try.prog 15 #[x.val] w (POfU x.v w) := by
  refine (pof_c w x hx hw).mono fun e w' h => ?_
  obtain ⟨al, af, ar, n, r, rfl, hn, hr, hy, hno, hb⟩ := h
  have b1 := labs0_le x.v
  have b2 := roots0_le x.v
  have b3 : x.v.w ≤ 1048576 := hw
  cases hm : x.v.may with
  | true =>
    obtain ⟨o1, o2, o3⟩ := hy hm
    have e1 : x.v.labs0 = x.v.labs := by rw [Val.labs0, hm]; rfl
    have e2 : x.v.lefts0 = x.v.lefts := by rw [Val.lefts0, hm]; rfl
    rw [hm] at hn hr
    simp only [if_true] at hn hr
    have e3 := lefts_len x.v
    rw [← e1] at o1 hn e3
    rw [← e2] at o2 o3 hr e3
    subst hn hr
    have := pown_of o1 o2 o3 rfl (by omega) rfl (by omega) (by omega)
    exact ⟨al, af, ar, by rw [hm], this.1, this.2, hb⟩
  | false =>
    obtain ⟨rfl, rfl, rfl⟩ := hno hm
    have e1 : x.v.labs0 = [] := by rw [Val.labs0, hm]; rfl
    have e2 : x.v.lefts0 = [] := by rw [Val.lefts0, hm]; rfl
    rw [hm] at hn hr
    simp only [Bool.false_eq_true, if_false] at hn hr
    subst hn hr
    rw [POfU, e1, e2, hm]
    have := pown_none w' w.heap.size
    exact ⟨none, none, none, rfl, this.1, this.2, hb⟩
def ROfU (v : Val) (w : World) (e : Ending) (w' : World) : Prop :=
  ∃ al cl af cf ar cr, e = .returned (.tuple #[.agg (pBox al v.labs0.length cl af v.labs0.length cf ar (rootsL v.lefts0).length cr), .bool v.may]) ∧
    POwn w' w.heap.size al af ar cl cf cr v.labs0 (intsL v.lefts0) (intsL (rootsL v.lefts0)) ∧ Below w.heap.size w w'
theorem rof_u (w : World) (x : AV) (hx : Rd w x) (hw : x.w ≤ 1048576) : Calls Try.prog 16 #[x.val] w (ROfU x.v w) := by
  refine (rof_c w x hx hw).mono fun e w' h => ?_
  obtain ⟨al, cl, af, cf, ar, cr, rfl, h1, h2, h3, hb⟩ := h
  have b1 := labs0_le x.v
  have b2 := roots0_le x.v
  have b3 : x.v.w ≤ 1048576 := hw
  have b4 := lefts0_len x.v
  exact ⟨al, cl, af, cf, ar, cr, rfl, ⟨h1, nat_int _ h2, nat_int _ h3, by simp only [intsL, List.length_map]; omega⟩, hb⟩
theorem vb4 {w : World} {g : Nat} {a b c d : Value} {t : TypeId} (h : w.heap[g]? = some (.cells #[a, b, c, d] t (0, 0))) :
    w.cell? ⟨g, 0, none⟩ = some a ∧ w.cell? ⟨g, 1, none⟩ = some b ∧ w.cell? ⟨g, 2, none⟩ = some c ∧ w.cell? ⟨g, 3, none⟩ = some d := by
  refine ⟨?_, ?_, ?_, ?_⟩ <;> simp [World.cell?, h]
theorem POwn.kept {w w' : World} {base : Nat} {al af ar : Option Addr} {cl cf cr : Nat} {L : List Lab} {F R : List Int} (h : POwn w base al af ar cl cf cr L F R) (hs : w.heap.size ≤ w'.heap.size) (hb : ∀ q, base ≤ q → q < w.heap.size → w'.heap[q]? = w.heap[q]?) : POwn w' base al af ar cl cf cr L F R :=
  ⟨(h.l.keep hs fun q h1 _ h3 => hb q h1 h3).widen (Nat.le_refl _) hs, (h.f.keep hs fun q h1 _ h3 => hb q h1 h3).widen (Nat.le_refl _) hs, (h.r.keep hs fun q h1 _ h3 => hb q h1 h3).widen (Nat.le_refl _) hs, h.n⟩
theorem POwn.up {w w' : World} {base : Nat} {al af ar : Option Addr} {cl cf cr : Nat} {L : List Lab} {F R : List Int} (h : POwn w base al af ar cl cf cr L F R) (hb : Below w.heap.size w w') : POwn w' base al af ar cl cf cr L F R :=
  h.kept hb.size fun q _ h3 => hb.block q h3
theorem PWr.up {w w' : World} {base hi n : Nat} {al af : Option Addr} (h : PWr w base hi al af n) (hb : Below w.heap.size w w') : PWr w' base hi al af n := fun h0 => by
  obtain ⟨g1, g2, e1, e2, b1, b2, b3, b4, r1, r2⟩ := h h0
  exact ⟨g1, g2, e1, e2, b1, b2, b3, b4, r1.keep (hb.block _ r1.lt), r2.keep (hb.block _ r2.lt)⟩
end Go.Proofs.Ytmhkacafilpliaa
