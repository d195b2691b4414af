/-
  PostsOf's walk. Conditions: the value lies in memory, its weight is bounded.
-/
import Derived.Test.YtmhkacafilpliaaJZ
import Derived.Test.YtmhkacafilpliaaJT
import Derived.Test.YtmhkacafilpliaaTC
import Derived.Test.YtmhkacafilpliaaEE
namespace Go.Proofs.Ytmhkacafilpliaa
open Go.RowKit Go.Sort Go.Shelf

/-- A block of at least so many cells, none of them frozen. -/
def Rw (w : World) (g : Nat) (t : TypeId) (m : Nat) : Prop := ∃ cur : Array Value, w.heap[g]? = some (.cells cur t (0, 0)) ∧ m ≤ cur.size
theorem Rw.lt {w : World} {g m : Nat} {t : TypeId} (h : Rw w g t m) : g < w.heap.size := by obtain ⟨c, h, -⟩ := h; exact (Array.getElem?_eq_some_iff.1 h).1
theorem Rw.cell {w : World} {g m : Nat} {t : TypeId} (h : Rw w g t m) {o : Nat} (ho : o < m) : ∃ v, w.cell? ⟨g, o, none⟩ = some v := by
  obtain ⟨c, h, hm⟩ := h
  exact ⟨c[o]'(by omega), by simp only [World.cell?, h]; exact Array.getElem?_eq_getElem (by omega)⟩
theorem Rw.froz {w : World} {g m : Nat} {t : TypeId} (h : Rw w g t m) (o : Nat) : w.frozen? ⟨g, o, none⟩ = false := by
  obtain ⟨c, h, hm⟩ := h
  simp [World.frozen?, h]
theorem Rw.keep {w w' : World} {g m : Nat} {t : TypeId} (h : Rw w g t m) (hb : w'.heap[g]? = w.heap[g]?) : Rw w' g t m := by
  obtain ⟨c, h, hm⟩ := h
  exact ⟨c, hb.trans h, hm⟩
theorem Rw.put {w : World} {g g' o m : Nat} {t : TypeId} (h : Rw w g t m) (v : Value) : Rw (w.setCell ⟨g', o, none⟩ v) g t m := by
  by_cases e : g = g'
  · subst e
    obtain ⟨c, h, hm⟩ := h
    exact ⟨_, Go.Joins.block_setCell h (i := o) v, by simpa using hm⟩
  · exact h.keep (Below.heap_setCell _ _ _ g e)
theorem rw_ne {w : World} {g1 g2 m n : Nat} {t s : TypeId} (h1 : Rw w g1 t m) (h2 : Rw w g2 s n) (hts : t ≠ s) (e : g1 = g2) : False := by
  subst e
  obtain ⟨c1, k1, -⟩ := h1
  obtain ⟨c2, k2, -⟩ := h2
  rw [k1] at k2
  injection k2 with k2
  injection k2 with _ k2
  exact hts k2
theorem rw_box {w : World} {g1 g2 n : Nat} {c : Array Value} {t s : TypeId} (h1 : w.heap[g1]? = some (.cells c t (0, 0))) (h2 : Rw w g2 s n) (hts : t ≠ s) (e : g1 = g2) : False := by
  subst e
  obtain ⟨c2, k2, -⟩ := h2
  rw [h1] at k2
  injection k2 with k2
  injection k2 with _ k2
  exact hts k2
/-- A postorder in blocks of the call's own, from one on. -/
structure POwn (w : World) (base : Nat) (al af ar : Option Addr) (cl cf cr : Nat) (L : List Lab) (F R : List Int) : Prop where
  l : SlE Lab.enc 4 w base w.heap.size al L
  f : SlE i64Z 1 w base w.heap.size af F
  r : SlE i64Z 1 w base w.heap.size ar R
  n : L.length ≤ 2097152 ∧ F.length ≤ 2097152 ∧ R.length ≤ 2097152
theorem POwn.rd {w : World} {base : Nat} {al af ar : Option Addr} {cl cf cr : Nat} {L : List Lab} {F R : List Int} (h : POwn w base al af ar cl cf cr L F R) : PA.Rd ⟨al, cl, af, cf, ar, cr, L, F, R⟩ w :=
  ⟨h.l.widen (Nat.zero_le _) (Nat.le_refl _), h.f.widen (Nat.zero_le _) (Nat.le_refl _), h.r.widen (Nat.zero_le _) (Nat.le_refl _), h.n⟩
/-- Its rows, which may be written. -/
def PWr (w : World) (base hi : Nat) (al af : Option Addr) (n : Nat) : Prop := 0 < n → ∃ g1 g2, al = some ⟨g1, 0, none⟩ ∧ af = some ⟨g2, 0, none⟩ ∧ base ≤ g1 ∧ base ≤ g2 ∧ g1 < hi ∧ g2 < hi ∧ Rw w g1 46 (n * 4) ∧ Rw w g2 3 n
theorem pown_of {w : World} {base : Nat} {al af ar : Option Addr} {n r : Nat} {L : List Lab} {N M : List Nat} (h1 : OwnC w base 46 4 al n n (L.flatMap Lab.enc)) (h2 : OwnC w base 3 1 af n n (N.flatMap natE)) (h3 : OwnC w base 3 1 ar r r (M.flatMap natE)) (e1 : n = L.length) (e2 : n = N.length) (e3 : r = M.length)
    (b1 : L.length ≤ 2097152) (b3 : M.length ≤ 2097152) : POwn w base al af ar n n r L (intsL N) (intsL M) ∧ PWr w base w.heap.size al af n := by
  refine ⟨⟨?_, ?_, ?_, by simp only [intsL, List.length_map]; omega⟩, fun h0 => ?_⟩
  · subst e1; exact ownC_sl (enc := Lab.enc) (size := 4) (fun _ => rfl) (by decide) h1
  · have h := h2
    rw [e2] at h
    exact nat_int N (ownC_sl (enc := natE) (size := 1) (fun _ => rfl) (by decide) h)
  · subst e3; exact nat_int M (ownC_sl (enc := natE) (size := 1) (fun _ => rfl) (by decide) h3)
  · obtain ⟨g1, c1, rfl, l1, k1, s1, -⟩ := h1.2.2 h0
    obtain ⟨g2, c2, rfl, l2, k2, s2, -⟩ := h2.2.2 h0
    exact ⟨g1, g2, rfl, rfl, l1, l2, (Array.getElem?_eq_some_iff.1 k1).1, (Array.getElem?_eq_some_iff.1 k2).1, ⟨c1, k1, s1⟩, ⟨c2, k2, by omega⟩⟩
theorem pown_none (w : World) (base : Nat) : POwn w base none none none 0 0 0 [] (intsL []) (intsL []) ∧ PWr w base w.heap.size none none 0 :=
  ⟨⟨fun h => absurd h (by simp), fun h => absurd h (by simp), fun h => absurd h (by simp), by simp⟩, fun h => absurd h (by omega)⟩
def POfU (v : Val) (w : World) (e : Ending) (w' : World) : Prop :=
  ∃ al af ar, e = .returned (.tuple #[.agg (pBox al v.labs0.length v.labs0.length af v.labs0.length v.labs0.length ar (rootsL v.lefts0).length (rootsL v.lefts0).length), .bool v.may]) ∧
    POwn w' w.heap.size al af ar v.labs0.length v.labs0.length (rootsL v.lefts0).length v.labs0 (intsL v.lefts0) (intsL (rootsL v.lefts0)) ∧ PWr w' w.heap.size w'.heap.size al af v.labs0.length ∧ Below w.heap.size w w'
theorem roots0_le (v : Val) : (rootsL v.lefts0).length ≤ v.labs0.length := by
  rw [← lefts0_len]; exact rootsL_le _
theorem pof_u (w : World) (x : AV) (hx : Rd w x) (hw : x.w ≤ 1048576) : Calls Try.prog 15 #[x.val] w (POfU x.v w) := by
  refine (pof_c w x hx hw).mono fun e w' h => ?_
  obtain ⟨al, af, ar, n, r, rfl, hn, hr, hy, hno, hb⟩ := h
  have b1 := labs0_le x.v
  have b2 := roots0_le x.v
  have b3 : x.v.w ≤ 1048576 := hw
  cases hm : x.v.may with
  | true =>
    obtain ⟨o1, o2, o3⟩ := hy hm
    have e1 : x.v.labs0 = x.v.labs := by rw [Val.labs0, hm]; rfl
    have e2 : x.v.lefts0 = x.v.lefts := by rw [Val.lefts0, hm]; rfl
    rw [hm] at hn hr
    simp only [if_true] at hn hr
    have e3 := lefts_len x.v
    rw [← e1] at o1 hn e3
    rw [← e2] at o2 o3 hr e3
    subst hn hr
    have := pown_of o1 o2 o3 rfl (by omega) rfl (by omega) (by omega)
    exact ⟨al, af, ar, by rw [hm], this.1, this.2, hb⟩
  | false =>
    obtain ⟨rfl, rfl, rfl⟩ := hno hm
    have e1 : x.v.labs0 = [] := by rw [Val.labs0, hm]; rfl
    have e2 : x.v.lefts0 = [] := by rw [Val.lefts0, hm]; rfl
    rw [hm] at hn hr
    simp only [Bool.false_eq_true, if_false] at hn hr
    subst hn hr
    rw [POfU, e1, e2, hm]
    have := pown_none w' w.heap.size
    exact ⟨none, none, none, rfl, this.1, this.2, hb⟩
def ROfU (v : Val) (w : World) (e : Ending) (w' : World) : Prop :=
  ∃ al cl af cf ar cr, e = .returned (.tuple #[.agg (pBox al v.labs0.length cl af v.labs0.length cf ar (rootsL v.lefts0).length cr), .bool v.may]) ∧
    POwn w' w.heap.size al af ar cl cf cr v.labs0 (intsL v.lefts0) (intsL (rootsL v.lefts0)) ∧ Below w.heap.size w w'
theorem rof_u (w : World) (x : AV) (hx : Rd w x) (hw : x.w ≤ 1048576) : Calls Try.prog 16 #[x.val] w (ROfU x.v w) := by
  refine (rof_c w x hx hw).mono fun e w' h => ?_
  obtain ⟨al, cl, af, cf, ar, cr, rfl, h1, h2, h3, hb⟩ := h
  have b1 := labs0_le x.v
  have b2 := roots0_le x.v
  have b3 : x.v.w ≤ 1048576 := hw
  have b4 := lefts0_len x.v
  exact ⟨al, cl, af, cf, ar, cr, rfl, ⟨h1, nat_int _ h2, nat_int _ h3, by simp only [intsL, List.length_map]; omega⟩, hb⟩
theorem partR_le {b : Bool} {Lp : List Lab} {Fp Rp : List Int} {L : List Lab} {F : List Int} {node : Int} (h : partR L F node = (b, Lp, Fp, Rp)) : Lp.length ≤ L.length := by
  unfold partR at h
  cases e : partAt L F node with
  | none =>
    simp only [e] at h
    injection h with _ h
    injection h with h _
    rw [← h]; simp
  | some f =>
    simp only [e] at h
    split at h
    · injection h with _ h
      injection h with h _
      rw [← h, (partR_len e).1]; exact (partR_len e).2.2
    · injection h with _ h
      injection h with h _
      rw [← h]; simp
def PartO (b : Bool) (Lp : List Lab) (Fp Rp : List Int) (w : World) (e : Ending) (w' : World) : Prop :=
  ∃ a1 a2 a3, e = .returned (.tuple #[.agg (pBox a1 Lp.length Lp.length a2 Fp.length Fp.length a3 Rp.length Rp.length), .bool b]) ∧ POwn w' w.heap.size a1 a2 a3 Lp.length Fp.length Rp.length Lp Fp Rp ∧ PWr w' w.heap.size w'.heap.size a1 a2 Lp.length ∧ Fp.length = Lp.length ∧ Below w.heap.size w w'
theorem part_o {b : Bool} {Lp : List Lab} {Fp Rp : List Int} {L : List Lab} {F : List Int} {node : Int} {args : Array Value} {w : World} (hres : partR L F node = (b, Lp, Fp, Rp)) (hn : L.length ≤ 1048576) (h : Calls Try.prog 19 args w (PartPost L F node w)) :
    Calls Try.prog 19 args w (PartO b Lp Fp Rp w) := by
  refine h.mono fun e w' ⟨hb, h⟩ => ?_
  rcases h with ⟨f, h1, h2, al, af, ar, m, hm, rfl, o1, o2, o3⟩ | ⟨h1, rfl⟩
  · obtain ⟨l1, l2, l3⟩ := partR_len h1
    have l4 := rootsL_le (partN F f (node.toNat + 1 - f))
    rw [partR_yes h1 h2] at hres
    rw [← hm] at hres l1 l2 l3 l4
    have k := pown_of o1 o2 o3 l1.symm l2.symm rfl (by omega) (by omega)
    generalize partL L f m = PL at *
    generalize partN F f m = PN at *
    injection hres with e1 hres
    injection hres with e2 hres
    injection hres with e3 e4
    subst e1 e2 e3 e4
    refine ⟨al, af, ar, ?_, ?_, ?_, by simp only [List.length_map]; omega, hb⟩
    · simp only [pBox, List.length_map, l1, l2]
    · have := k.1
      rw [List.length_map, List.length_map, l1, l2]
      exact this
    · rw [l1]; exact k.2
  · rw [partR_no h1] at hres
    injection hres with e1 hres
    injection hres with e2 hres
    injection hres with e3 e4
    subst e1 e2 e3 e4
    have := pown_none w' w.heap.size
    exact ⟨none, none, none, rfl, this.1, this.2, rfl, hb⟩
set_option maxRecDepth 100000 in
set_option maxHeartbeats 6400000 in
theorem pof_out (w : World) (x : AV) (node : Int) (hx : Rd w x) (hwx : x.w ≤ 1048576) (h : 1500 < x.v.w) : Calls Try.prog 3 #[x.val, .int .i64 node] w (Ret (.bool true) w) := by
  have HG1 := fun W (h : Below w.heap.size w W) => Lib.hid (great14_c x W (hx.up h) hwx)
  have hb0 := fun (o1 : Obj) => (Below.refl w.heap.size w).alloc (Nat.le_refl _) o1
  rw [decide_eq_true h] at HG1
  clear h
  go_enter Try.func3, Try.ntmps3
  go_wp2_with (first
    | (go_at_call 12; refine (HG1 _ (hb0 _)).out.mono ?_; rintro e w1 ⟨rfl, hb1⟩; have HW1 := Lib.hid (below_via (hb0 _) hb1); clear hb1)
    | (go_at_call 13; refine (lives19_c _).mono ?_; rintro e w2 ⟨rfl, hb2⟩))
  go_ret
  exact ⟨rfl, below_via HW1.out hb2⟩
theorem vb4 {w : World} {g : Nat} {a b c d : Value} {t : TypeId} (h : w.heap[g]? = some (.cells #[a, b, c, d] t (0, 0))) :
    w.cell? ⟨g, 0, none⟩ = some a ∧ w.cell? ⟨g, 1, none⟩ = some b ∧ w.cell? ⟨g, 2, none⟩ = some c ∧ w.cell? ⟨g, 3, none⟩ = some d := by
  refine ⟨?_, ?_, ?_, ?_⟩ <;> simp [World.cell?, h]
theorem POwn.kept {w w' : World} {base : Nat} {al af ar : Option Addr} {cl cf cr : Nat} {L : List Lab} {F R : List Int} (h : POwn w base al af ar cl cf cr L F R) (hs : w.heap.size ≤ w'.heap.size) (hb : ∀ q, base ≤ q → q < w.heap.size → w'.heap[q]? = w.heap[q]?) : POwn w' base al af ar cl cf cr L F R :=
  ⟨(h.l.keep hs fun q h1 _ h3 => hb q h1 h3).widen (Nat.le_refl _) hs, (h.f.keep hs fun q h1 _ h3 => hb q h1 h3).widen (Nat.le_refl _) hs, (h.r.keep hs fun q h1 _ h3 => hb q h1 h3).widen (Nat.le_refl _) hs, h.n⟩
theorem POwn.up {w w' : World} {base : Nat} {al af ar : Option Addr} {cl cf cr : Nat} {L : List Lab} {F R : List Int} (h : POwn w base al af ar cl cf cr L F R) (hb : Below w.heap.size w w') : POwn w' base al af ar cl cf cr L F R :=
  h.kept hb.size fun q _ h3 => hb.block q h3
theorem PWr.up {w w' : World} {base hi n : Nat} {al af : Option Addr} (h : PWr w base hi al af n) (hb : Below w.heap.size w w') : PWr w' base hi al af n := fun h0 => by
  obtain ⟨g1, g2, e1, e2, b1, b2, b3, b4, r1, r2⟩ := h h0
  exact ⟨g1, g2, e1, e2, b1, b2, b3, b4, r1.keep (hb.block _ r1.lt), r2.keep (hb.block _ r2.lt)⟩
set_option maxRecDepth 100000 in
set_option maxHeartbeats 12800000 in
theorem pof_in (w : World) (x : AV) (node : Int) (hx : Rd w x) (hwx : x.w ≤ 1048576) (h : ¬ 1500 < x.v.w) : Calls Try.prog 3 #[x.val, .int .i64 node] w (Ret (.bool true) w) := by
  have hxv : x.v.w = x.w := rfl
  have hbL : x.v.labs0.length ≤ 1500 := Nat.le_trans (labs0_le x.v) (by omega)
  have HG1 := fun W (h : Below w.heap.size w W) => Lib.hid (great14_c x W (hx.up h) hwx)
  have HTW := fun W (h : Below w.heap.size w W) => Lib.hid (twin14_c x W (hx.up h) hwx)
  have HRO := fun W (h : Below w.heap.size w W) => Lib.hid (rof_u W x (hx.up h) hwx)
  have HX := Lib.hid hx
  have hb0 := fun (o1 : Obj) => (Below.refl w.heap.size w).alloc (Nat.le_refl _) o1
  rw [decide_eq_false h] at HG1
  obtain ⟨L, hL⟩ : ∃ L, L = x.v.labs0 := ⟨_, rfl⟩
  obtain ⟨F, hF⟩ : ∃ F, F = intsL x.v.lefts0 := ⟨_, rfl⟩
  obtain ⟨R, hR⟩ : ∃ R, R = intsL (rootsL x.v.lefts0) := ⟨_, rfl⟩
  obtain ⟨ok, hok⟩ : ∃ ok, ok = x.v.may := ⟨_, rfl⟩
  have lF : F.length = L.length := by rw [hF, hL, List.length_map, lefts0_len]
  have lR : R.length = (rootsL x.v.lefts0).length := by rw [hR, List.length_map]
  obtain ⟨b, Lp, Fp, Rp, hres⟩ : ∃ b Lp Fp Rp, partR L F node = (b, Lp, Fp, Rp) := ⟨_, _, _, _, rfl⟩
  have HRES := Lib.hid hres
  have hLp : Lp.length ≤ L.length := partR_le hres
  have HROU := fun W (h : Below w.heap.size w W) => Lib.hid (show Calls Try.prog 16 #[x.val] W (fun e w' => ∃ al cl af cf ar cr, e = .returned (.tuple #[.agg (pBox al L.length cl af F.length cf ar R.length cr), .bool ok]) ∧ POwn w' W.heap.size al af ar cl cf cr L F R ∧ Below W.heap.size W w') by
    rw [lF, lR, hL, hF, hR, hok]; exact (HRO W h).out)
  have HPOU := Lib.hid (show ∀ (y : AV) (W : World), y.v = x.v → Rd W y → Calls Try.prog 15 #[y.val] W (fun e w' => ∃ al af ar, e = .returned (.tuple #[.agg (pBox al L.length L.length af F.length F.length ar R.length R.length), .bool ok]) ∧ POwn w' W.heap.size al af ar L.length F.length R.length L F R ∧ PWr w' W.heap.size w'.heap.size al af L.length ∧ Below W.heap.size W w') from fun y W hy hr => by
    have := pof_u W y hr (by show y.v.w ≤ 1048576; rw [hy]; exact hwx)
    rw [hy] at this
    rw [lF, lR, hL, hF, hR, hok]; exact this)
  have hn : L.length ≤ 1500 := by rw [hL]; exact hbL
  have HLF := Lib.hid lF
  have hlF2 : F.length ≤ L.length := by omega
  have hlF3 : L.length ≤ F.length := by omega
  clear hL hF hR hok lF lR HRO hres h hx hbL hxv
  go_enter Try.func3, Try.ntmps3
  go_wp2_with (first
    | (go_at_call 12; (with_reducible refine (HG1 _ (hb0 _)).out.mono ?_); rintro e w1 ⟨rfl, hb1⟩
       have hv1 := blk_via hb1 (heap_alloc_new w (.cells #[.int .u8 x.k, .string x.t, .slice x.la x.l.length x.lc, .slice x.ka x.ks.length x.kc] 26))
       obtain ⟨p0, p1, p2, p3⟩ := vb4 hv1
       have HV1 := Lib.hid hv1
       have HW1 := Lib.hid (below_via (hb0 _) hb1)
       clear hb1 hv1)
    | (go_at_call 14; (with_reducible refine (HTW _ HW1.out).out.mono ?_); rintro e w2 ⟨y, rfl, hyv, hyT, hb2⟩
       have hb13 : Below w1.heap.size w1 (w2.alloc (.cells #[.int .u8 y.k, .string y.t, .slice y.la y.l.length y.lc, .slice y.ka y.ks.length y.kc] 26)) := below_al hb2
       have HY := Lib.hid (And.intro hyv (hyT.blw (Below.refl _ w2) (Nat.le_refl _)))
       have HRY := Lib.hid (show Rd w2 y from (AV.Tw.rd y hyT).widen (Nat.zero_le _) (Nat.le_refl _))
       have hv3 := blk_via hb13 HV1.out
       have HV3 := Lib.hid hv3
       have HB13 := Lib.hid hb13
       have HP4 := Lib.hid (HPOU.out y (w2.alloc (.cells #[.int .u8 y.k, .string y.t, .slice y.la y.l.length y.lc, .slice y.ka y.ks.length y.kc] 26)) hyv (HRY.out.up (below_al (Below.refl _ _))))
       clear hyv hyT hb2 hb13 hv3 p0 p1 p2 p3)
    | (go_at_call 15; (with_reducible refine HP4.out.mono ?_); rintro e w4 ⟨al, af, ar, rfl, hpo, hpw, hb4⟩
       have hb35 : Below (w2.alloc (.cells #[.int .u8 y.k, .string y.t, .slice y.la y.l.length y.lc, .slice y.ka y.ks.length y.kc] 26)).heap.size (w2.alloc (.cells #[.int .u8 y.k, .string y.t, .slice y.la y.l.length y.lc, .slice y.ka y.ks.length y.kc] 26)) (w4.alloc (.cells (pBox al L.length L.length af F.length F.length ar R.length R.length) 33)) := below_al hb4
       have HB35 := Lib.hid hb35
       have hv5 := blk_via hb35 HV3.out
       obtain ⟨p0, p1, p2, p3⟩ := vb4 hv5
       have HPO := Lib.hid hpo
       have HPW := Lib.hid hpw
       have HB4 := Lib.hid hb4
       have HQ6 := Lib.hid (HROU _ (below_via (below_via HW1.out HB13.out) hb35)).out
       clear hb35 hv5 hpo hpw hb4)
    | (go_at_call 16; (with_reducible refine HQ6.out.mono ?_); rintro e w6 ⟨al', cl', af', cf', ar', cr', rfl, hqo, hb6⟩
       have hb57 : Below (w4.alloc (.cells (pBox al L.length L.length af F.length F.length ar R.length R.length) 33)).heap.size (w4.alloc (.cells (pBox al L.length L.length af F.length F.length ar R.length R.length) 33)) (w6.alloc (.cells (pBox al' L.length cl' af' F.length cf' ar' R.length cr') 38)) := below_al hb6
       have hp7 := blk_via hb57 (heap_alloc_new w4 (.cells (pBox al L.length L.length af F.length F.length ar R.length R.length) 33))
       obtain ⟨q0, q1, q2, -, -, -⟩ := box3 hp7
       have hsq7 := heap_alloc_new w6 (.cells (pBox al' L.length cl' af' F.length cf' ar' R.length cr') 38)
       have HSM := Lib.hid (psame19_c _ al af ar al' af' ar' L.length F.length R.length cl' cf' cr' L F R (((HPO.out.up (below_al (Below.refl _ _))).up hb57).rd) ((hqo.up (below_al (Below.refl _ _))).rd) (Nat.le_refl _) (Nat.le_refl _) (Nat.le_refl _))
       have HQO := Lib.hid hqo
       have HB6 := Lib.hid hb6
       have HB57 := Lib.hid hb57
       have HP7 := Lib.hid hp7
       have HQ7 := Lib.hid hsq7
       have hv7 := blk_via hb57 (blk_via HB35.out HV3.out)
       have hy7 := blk_via hb57 (blk_via HB35.out (heap_alloc_new w2 (.cells #[.int .u8 y.k, .string y.t, .slice y.la y.l.length y.lc, .slice y.ka y.ks.length y.kc] 26)))
       have HV7 := Lib.hid hv7
       have HY7 := Lib.hid hy7
       have HWW7 := Lib.hid (below_via (below_via (below_via HW1.out HB13.out) HB35.out) hb57)
       have HB27 := Lib.hid (below_via (below_via (below_al (o := .cells #[.int .u8 y.k, .string y.t, .slice y.la y.l.length y.lc, .slice y.ka y.ks.length y.kc] 26) (Below.refl w2.heap.size w2)) HB35.out) hb57)
       clear hb57 hp7 hqo hb6 hsq7 hv7 hy7 p0 p1 p2 p3)
    | (go_at_call 17; (with_reducible refine HSM2.out.mono ?_); rintro e w14 ⟨rfl, hb14⟩
       have HB14 := Lib.hid hb14
       clear hb14 q0 q1 q2)
    | (go_at_call 17; (with_reducible refine HSM.out.mono ?_); rintro e w8 ⟨rfl, hb8⟩
       obtain ⟨p0, p1, p2, p3⟩ := vb4 (blk_via hb8 HV7.out)
       obtain ⟨y0, y1, y2, y3⟩ := vb4 (blk_via hb8 HY7.out)
       have HLT := Lib.hid (left14_c x y w8 HY.out.1 (AV.Tw.imp (fun h => h.widen (Nat.zero_le _) (below_via HB27.out hb8).size) y (HY.out.2.blw (below_via HB27.out hb8) (Nat.le_refl _))) (HX.out.up (below_via HWW7.out hb8)) hwx)
       have HB8 := Lib.hid hb8
       clear hb8 q0 q1 q2)
    | (go_at_call 18; (with_reducible refine HLT.out.mono ?_); rintro e w9 ⟨rfl, hb9⟩
       have hb79 := below_via HB8.out hb9
       obtain ⟨q0, q1, q2, -, -, -⟩ := box3 (blk_via hb79 HP7.out)
       have hpo9 := ((HPO.out.up (below_al (Below.refl _ _))).up HB57.out).up hb79
       have HPT := Lib.hid (part_o HRES.out (by omega) (part_c w9 L F al af ar L.length F.length R.length R.length node hpo9.rd.l (Nat.le_refl _) hpo9.rd.f (Nat.le_refl _) (by omega)))
       have HB79 := Lib.hid hb79
       clear hb79 hpo9 hb9 p0 p1 p2 p3 y0 y1 y2 y3)
    | (go_at_call 19; (with_reducible refine HPT.out.mono ?_); rintro e w10 ⟨a1, a2, a3, rfl, hao, haw, hal, hb10⟩
       have hb911 : Below w9.heap.size w9 (w10.alloc (.cells (pBox a1 Lp.length Lp.length a2 Fp.length Fp.length a3 Rp.length Rp.length) 33)) := below_al hb10
       have hb711 := below_via HB79.out hb911
       have hq11 := blk_via hb711 HQ7.out
       clear q0 q1 q2
       obtain ⟨q0, q1, q2, -, -, -⟩ := box3 hq11
       have hqo11 := (HQO.out.up (below_al (Below.refl _ _))).up hb711
       have HRP := Lib.hid (rpart_u HRES.out (by omega) (rpart_c _ L F al' af' ar' cl' cf' R.length cr' node hqo11.rd.l hqo11.rd.f (by omega)))
       have HAO := Lib.hid hao
       have HAW := Lib.hid haw
       have HAL := Lib.hid hal
       have HB911 := Lib.hid hb911
       clear hao haw hal hb10 hb911 hb711 hq11 hqo11)
    | (go_at_call 20; (with_reducible refine HRP.out.mono ?_); rintro e w12 ⟨b1, b2, b3, d1, d2, d3, rfl, hrd12, hb12⟩
       have hb1113 : Below (w10.alloc (.cells (pBox a1 Lp.length Lp.length a2 Fp.length Fp.length a3 Rp.length Rp.length) 33)).heap.size (w10.alloc (.cells (pBox a1 Lp.length Lp.length a2 Fp.length Fp.length a3 Rp.length Rp.length) 33)) (w12.alloc (.cells (pBox b1 Lp.length d1 b2 Fp.length d2 b3 Rp.length d3) 38)) := below_al hb12
       have ha13 := blk_via hb1113 (heap_alloc_new w10 (.cells (pBox a1 Lp.length Lp.length a2 Fp.length Fp.length a3 Rp.length Rp.length) 33))
       clear q0 q1 q2
       obtain ⟨q0, q1, q2, -, -, -⟩ := box3 ha13
       have HSM2 := Lib.hid (psame19_c _ a1 a2 a3 b1 b2 b3 Lp.length Fp.length Rp.length d1 d2 d3 Lp Fp Rp (((HAO.out.up (below_al (Below.refl _ _))).up hb1113).rd) (hrd12.up (below_al (Below.refl _ _))) (Nat.le_refl _) (Nat.le_refl _) (Nat.le_refl _))
       have HA13 := Lib.hid ha13
       have HB1113 := Lib.hid hb1113
       clear hrd12 hb12 ha13 hb1113))
  have HPA := Lib.hid (And.intro ((blk_via HB1113.out (heap_alloc_new w10 (.cells (pBox a1 Lp.length Lp.length a2 Fp.length Fp.length a3 Rp.length Rp.length) 33)))) HAL.out)
  have hbA := below_via (below_via HB911.out HB1113.out) HB14.out
  have HA14 := Lib.hid (blk_via HB14.out HPA.out.1)
  have HW14 := Lib.hid ((HAW.out.up (below_al (Below.refl _ _))).up (below_via HB1113.out HB14.out))
  have HB914 := Lib.hid hbA
  have haL1 : Fp.length ≤ Lp.length := by have := HAL.out; omega
  have haL2 : Lp.length ≤ Fp.length := by have := HAL.out; omega
  clear hbA HSM HSM2 HPT HRP HLT HQ6 HP4
  go_loopw [14] (fun s14 wr => ∃ i : Nat, i ≤ Fp.length ∧ s14 = .int .i64 i ∧ Hid (Below w9.heap.size w9 wr) ∧ Hid (wr.heap[w10.heap.size]? = some (.cells (pBox a1 Lp.length Lp.length a2 Fp.length Fp.length a3 Rp.length Rp.length) 33 (0, 0))) ∧ Hid (PWr wr w9.heap.size w10.heap.size a1 a2 Lp.length)) (fun s14 _ => Fp.length - (intOf s14).toNat)
  case atStart => exact ⟨0, Nat.zero_le _, rfl, HB914, HA14, HW14⟩
  case round =>
    obtain ⟨i, hi, rfl, HW, HA, HR⟩ := hrel
    by_cases hlt : i < Fp.length
    · have hlt1 : (i : Int) < (Fp.length : Int) := by omega
      have hlt2 : (i : Int) < (Lp.length : Int) := by omega
      have hi0 : (0 : Int) ≤ (i : Int) := by omega
      obtain ⟨g1, g2, e1, e2, l1, l2, l3, l4, r1, r2⟩ := HR.out (by omega)
      obtain ⟨z0, z1, z2, -, -, -⟩ := box3 HA.out
      rw [e1] at z0
      rw [e2] at z1
      have n12 : g1 ≠ g2 := fun e => rw_ne r1 r2 (by decide) e
      have n1 : w10.heap.size ≠ g2 := fun e => rw_box HA.out r2 (by decide) e
      have n2 : w10.heap.size ≠ g1 := fun e => rw_box HA.out r1 (by decide) e
      obtain ⟨u1, c1⟩ := r2.cell (o := i) (by omega)
      have f1 := r2.froz i
      have r1' := r1.put (g' := g2) (o := i) (.int .i64 (-9))
      have r2' := r2.put (g' := g2) (o := i) (.int .i64 (-9))
      obtain ⟨u2, c2⟩ := r1'.cell (o := i * 4 + 1) (by omega)
      have f2 := r1'.froz (i * 4 + 1)
      have ha2 := (Below.heap_setCell wr ⟨g2, i, none⟩ (.int .i64 (-9)) _ n1).trans HA.out
      rw [e1, e2] at ha2
      obtain ⟨x0, x1, x2, -, -, -⟩ := box3 ha2
      have HRR := Lib.hid (And.intro (r1'.put (g' := g1) (o := i * 4 + 1) (.string ⟨#[63]⟩)) (r2'.put (g' := g1) (o := i * 4 + 1) (.string ⟨#[63]⟩)))
      have HEE := Lib.hid (And.intro e1 (And.intro e2 (And.intro l1 (And.intro l2 (And.intro l3 l4)))))
      clear l1 l2 l3 l4
      have HN := Lib.hid (And.intro n1 n2)
      clear r1 r2 r1' r2' ha2 e1 e2 n1 n2
      go_wp2_with fail
      refine ⟨⟨i + 1, by omega, by go_num, Lib.hid ((HW.out.setCell (p := ⟨g2, i, none⟩) HEE.out.2.2.2.1 _).setCell (p := ⟨g1, i * 4 + 1, none⟩) HEE.out.2.2.1 _), Lib.hid ((Below.heap_setCell _ _ _ _ HN.out.2).trans ((Below.heap_setCell _ _ _ _ HN.out.1).trans HA.out)), Lib.hid fun _ => ⟨g1, g2, HEE.out.1, HEE.out.2.1, HEE.out.2.2.1, HEE.out.2.2.2.1, HEE.out.2.2.2.2.1, HEE.out.2.2.2.2.2, HRR.out.1, HRR.out.2⟩⟩, by simp [intOf]; omega⟩
    · obtain rfl : i = Fp.length := by omega
      obtain ⟨za0, za1, za2, -, -, -⟩ := box3 HA.out
      have hge : ¬ (Fp.length : Int) < (Fp.length : Int) := by omega
      obtain ⟨V, hV⟩ : ∃ V, V = wr := ⟨_, rfl⟩
      subst hV
      have hb9V := HW.out
      have hb7V := below_via HB79.out hb9V
      have hpV := blk_via hb7V HP7.out
      have hqV := blk_via hb7V HQ7.out
      obtain ⟨z0, z1, z2, -, -, -⟩ := box3 hpV
      obtain ⟨x0, x1, x2, -, -, -⟩ := box3 hqV
      have hpoV := ((HPO.out.up (below_al (Below.refl _ _))).up HB57.out).up hb7V
      have hqoV := (HQO.out.up (below_al (Below.refl _ _))).up hb7V
      have HSM3 := Lib.hid (psame19_c V al af ar al' af' ar' L.length F.length R.length cl' cf' cr' L F R hpoV.rd hqoV.rd (Nat.le_refl _) (Nat.le_refl _) (Nat.le_refl _))
      have HB7V := Lib.hid hb7V
      clear hpV hqV hpoV hqoV hb7V hb9V HR HA HW
      go_wp2_with (first
        | (go_at_call 15; (with_reducible refine HP16.out.mono ?_); rintro e w17 ⟨rl, rf, rr, rfl, hro, hrw, hb17⟩
           have HRO := Lib.hid hro
           have HB17 := Lib.hid hb17
           clear hro hrw hb17 y0 y1 y2 y3)
        | (go_at_call 17; (with_reducible refine HSM3.out.mono ?_); rintro e w16 ⟨rfl, hb16⟩
           have hb716 := below_via HB7V.out hb16
           obtain ⟨y0, y1, y2, y3⟩ := vb4 (blk_via hb716 HY7.out)
           have HP16 := Lib.hid (HPOU.out y w16 HY.out.1 ((AV.Tw.rd y (HY.out.2.blw (below_via HB27.out hb716) (Nat.le_refl _))).widen (Nat.zero_le _) (below_via HB27.out hb716).size))
           have HB716 := Lib.hid hb716
           clear hb716 hb16 z0 z1 z2 x0 x1 x2 za0 za1 za2))
      have hb718 : Below (w6.alloc (.cells (pBox al' L.length cl' af' F.length cf' ar' R.length cr') 38)).heap.size (w6.alloc (.cells (pBox al' L.length cl' af' F.length cf' ar' R.length cr') 38)) (w17.alloc (.cells (pBox rl L.length L.length rf F.length F.length rr R.length R.length) 33)) := below_al (below_via HB716.out HB17.out)
      have HR18 := Lib.hid (heap_alloc_new w17 (.cells (pBox rl L.length L.length rf F.length F.length rr R.length R.length) 33))
      obtain ⟨W18, hW18⟩ : ∃ W18, W18 = w17.alloc (.cells (pBox rl L.length L.length rf F.length F.length rr R.length R.length) 33) := ⟨_, rfl⟩
      rw [← hW18] at hb718 HR18 ⊢
      have hb1718 : Below w17.heap.size w17 W18 := by rw [hW18]; exact below_al (Below.refl _ _)
      have HRO18 := Lib.hid (HRO.out.up hb1718)
      have HQO18 := Lib.hid ((HQO.out.up (below_al (Below.refl _ _))).up hb718)
      have HPW18 := Lib.hid ((HPW.out.up (below_al (Below.refl _ _))).up (below_via HB57.out hb718))
      have HP18 := Lib.hid (blk_via hb718 HP7.out)
      have HQ18 := Lib.hid (blk_via hb718 HQ7.out)
      obtain ⟨A0, hA0⟩ : ∃ A0, A0 = (w2.alloc (.cells #[.int .u8 y.k, .string y.t, .slice y.la y.l.length y.lc, .slice y.ka y.ks.length y.kc] 26)).heap.size := ⟨_, rfl⟩
      have hA1 : A0 ≤ w4.heap.size := by rw [hA0]; exact HB4.out.size
      have hwA : w.heap.size ≤ A0 := by rw [hA0]; exact (below_via HW1.out HB13.out).size
      have hw46 : w4.heap.size + 1 ≤ w6.heap.size := by have := HB6.out.size; simpa using this
      have hs716 : w6.heap.size + 1 ≤ w16.heap.size := by have := HB716.out.size; simpa using this
      have hs1617 := HB17.out.size
      have hs1718 : w17.heap.size < W18.heap.size := by rw [hW18]; simp
      have hWW := below_via HWW7.out hb718
      rw [← hA0] at HPW18
      have HWW18 := Lib.hid hWW
      have hlF4 : L.length ≤ F.length := hlF3
      clear hW18 hb718 hb1718 hWW hA0 HSM3 HP16 HRO HPO HQO HPW
      go_loopw [17] (fun s17 wr => ∃ i : Nat, i ≤ F.length ∧ s17 = .int .i64 i ∧ Hid (KpM A0 w4.heap.size W18 wr) ∧ Hid (PWr wr A0 w4.heap.size al af L.length)) (fun s17 _ => F.length - (intOf s17).toNat)
      case atStart => exact ⟨0, Nat.zero_le _, rfl, Lib.hid KpM.refl, HPW18⟩
      case round =>
        obtain ⟨i, hi, rfl, HK, HR⟩ := hrel
        have hp4 := (HK.out.2.2.2.2 w4.heap.size (by omega) (.inr (Nat.le_refl _))).trans HP18.out
        by_cases hlt : i < F.length
        · have hlt1 : (i : Int) < (F.length : Int) := by omega
          have hlt2 : (i : Int) < (L.length : Int) := by omega
          have hi0 : (0 : Int) ≤ (i : Int) := by omega
          obtain ⟨g1, g2, e1, e2, l1, l2, l3, l4, r1, r2⟩ := HR.out (by omega)
          obtain ⟨z0, z1, z2, -, -, -⟩ := box3 hp4
          rw [e1] at z0
          rw [e2] at z1
          have n12 : g1 ≠ g2 := fun e => rw_ne r1 r2 (by decide) e
          have n1 : w4.heap.size ≠ g2 := by omega
          have n2 : w4.heap.size ≠ g1 := by omega
          obtain ⟨u1, c1⟩ := r2.cell (o := i) (by omega)
          have f1 := r2.froz i
          have r1' := r1.put (g' := g2) (o := i) (.int .i64 (-9))
          have r2' := r2.put (g' := g2) (o := i) (.int .i64 (-9))
          obtain ⟨u2, c2⟩ := r1'.cell (o := i * 4 + 1) (by omega)
          have f2 := r1'.froz (i * 4 + 1)
          have ha2 := (Below.heap_setCell wr ⟨g2, i, none⟩ (.int .i64 (-9)) _ n1).trans hp4
          rw [e1, e2] at ha2
          obtain ⟨x0, x1, x2, -, -, -⟩ := box3 ha2
          have HRR := Lib.hid (And.intro (r1'.put (g' := g1) (o := i * 4 + 1) (.string ⟨#[63]⟩)) (r2'.put (g' := g1) (o := i * 4 + 1) (.string ⟨#[63]⟩)))
          have HEE := Lib.hid (And.intro e1 (And.intro e2 (And.intro l1 (And.intro l2 (And.intro l3 l4)))))
          clear r1 r2 r1' r2' ha2 e1 e2 n1 n2 l1 l2 l3 l4 hp4
          go_wp2_with fail
          refine ⟨⟨i + 1, by omega, by go_num, Lib.hid ((HK.out.set ⟨g2, i, none⟩ _ HEE.out.2.2.2.1 HEE.out.2.2.2.2.2).set ⟨g1, i * 4 + 1, none⟩ _ HEE.out.2.2.1 HEE.out.2.2.2.2.1), Lib.hid fun _ => ⟨g1, g2, HEE.out.1, HEE.out.2.1, HEE.out.2.2.1, HEE.out.2.2.2.1, HEE.out.2.2.2.2.1, HEE.out.2.2.2.2.2, HRR.out.1, HRR.out.2⟩⟩, by simp [intOf]; omega⟩
        · obtain rfl : i = F.length := by omega
          have hge : ¬ (F.length : Int) < (F.length : Int) := by omega
          obtain ⟨z0, z1, z2, -, -, -⟩ := box3 hp4
          obtain ⟨x0, x1, x2, -, -, -⟩ := box3 ((HK.out.2.2.2.2 w17.heap.size (by omega) (.inr (by omega))).trans HR18.out)
          obtain ⟨y0, y1, y2, -, -, -⟩ := box3 ((HK.out.2.2.2.2 w6.heap.size (by omega) (.inr (by omega))).trans HQ18.out)
          have hro := HRO18.out.kept (w' := wr) HK.out.2.2.2.1 fun q h1 h2 => HK.out.2.2.2.2 q h2 (.inr (by omega))
          have hqo := HQO18.out.kept (w' := wr) HK.out.2.2.2.1 fun q h1 h2 => HK.out.2.2.2.2 q h2 (.inr (by simp at h1; omega))
          have HSM4 := Lib.hid (psame19_c wr rl rf rr al' af' ar' L.length F.length R.length cl' cf' cr' L F R hro.rd hqo.rd (Nat.le_refl _) (Nat.le_refl _) (Nat.le_refl _))
          have HBE := Lib.hid ((HWW18.out).trans ((HK.out.below (by omega)).mono hwA))
          have HLI := fun W => Lib.hid (lives19_c W)
          clear hro hqo hp4
          go_wp2_with (first
            | (go_at_call 13; (with_reducible refine (HLI _).out.mono ?_); rintro e w20 ⟨rfl, hb20⟩)
            | (go_at_call 17; (with_reducible refine HSM4.out.mono ?_); rintro e w19 ⟨rfl, hb19⟩
               have HB19 := Lib.hid hb19
               clear hb19 z0 z1 z2 x0 x1 x2 y0 y1 y2))
          go_ret
          exact ⟨rfl, below_via (below_via HBE.out HB19.out) hb20⟩
theorem postsof (w : World) (x : AV) (node : Int) (hx : Rd w x) (hwx : x.w ≤ 1048576) : Calls Try.prog 3 #[x.val, .int .i64 node] w (Ret (.bool true) w) := by
  by_cases h : 1500 < x.v.w
  · exact pof_out w x node hx hwx h
  · exact pof_in w x node hx hwx h
end Go.Proofs.Ytmhkacafilpliaa
