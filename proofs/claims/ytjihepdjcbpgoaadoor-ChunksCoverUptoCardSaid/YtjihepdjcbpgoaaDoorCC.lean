/-
  chunks.Of: the chunks of three lists. Conditions: the lists lie in memory, lengths and weights are bounded; strconv's table of powers holds what its initialiser lays.
-/
import Derived.Test.YtjihepdjcbpgoaaDoorCB
import Derived.BigRegion
import Derived.ChangeKeysEq
import Derived.Laws.StructEq
namespace Go.Proofs.YtjihepdjcbpgoaaDoor
open Go.RowKit Go.Sort

def T3.vs (t : T3) : List Value := [.int .i64 t.b, .int .i64 t.l, .int .i64 t.r]
abbrev T3.val (t : T3) : Value := .agg #[.int .i64 t.b, .int .i64 t.l, .int .i64 t.r]
def Ck.enc (c : Ck) : List Value := [.bool c.st, .int .i64 c.f.b, .int .i64 c.t.b, .int .i64 c.f.l, .int .i64 c.t.l, .int .i64 c.f.r, .int .i64 c.t.r]
theorem Ck.enc_len (c : Ck) : c.enc.length = 7 := rfl
abbrev Ck.val (c : Ck) : Value := .agg #[.bool c.st, .int .i64 c.f.b, .int .i64 c.t.b, .int .i64 c.f.l, .int .i64 c.t.l, .int .i64 c.f.r, .int .i64 c.t.r]
set_option maxRecDepth 100000 in
set_option maxHeartbeats 3200000 in
theorem chunk_c (w : World) (st : Bool) (f t : T3) : Calls Tryd.prog 39 #[.bool st, f.val, t.val] w (Ret (Ck.val ⟨st, f, t⟩) w) := by
  go_enter Tryd.func39, Tryd.ntmps39
  go_wp2_with fail
  refine bodyPost_ret (v := Ck.val ⟨st, f, t⟩) (by simp [results, Tryd.results39, go_sem]) rfl ⟨rfl, (by repeat (first | exact Below.refl _ _ | refine Below.drew ?_ | refine below_drewN ?_ _ | refine Below.alloc ?_ (by first | omega | (simp; done) | (simp; omega)) _))⟩
theorem info_i3 : ∃ i, Tryd.prog.info? 3 = some i := by
  have h : (Tryd.prog.info? 3).isSome = true := by kernel_rfl
  exact Option.isSome_iff_exists.1 h
theorem eql_t3 (w : World) (s t : T3) : (binOp .eql 70 (.agg #[.int .i64 s.b, .int .i64 s.l, .int .i64 s.r]) (.agg #[.int .i64 t.b, .int .i64 t.l, .int .i64 t.r])).run Tryd.prog w = .ok (.bool (decide (s = t))) w := by
  obtain ⟨i, hi⟩ := info_i3
  rw [run_eql_struct, run_equalIn_array w 9999 _ _ Tryd.underlying70 hi]
  rw [show Tryd.prog.cellsOf 3 = 1 by kernel_rfl, show List.range 3 = [0, 1, 2] by rfl]
  have e : decide (s = t) = decide ((s.b : Int) = t.b ∧ (s.l : Int) = t.l ∧ (s.r : Int) = t.r) := by
    cases s; cases t
    simp only [T3.mk.injEq, Int.natCast_inj]
  rw [e]
  simp [Op.eqItems, go_sem]
  repeat' split
  all_goals simp_all
theorem neq_t3 (w : World) (s t : T3) : (binOp .neq 70 (.agg #[.int .i64 s.b, .int .i64 s.l, .int .i64 s.r]) (.agg #[.int .i64 t.b, .int .i64 t.l, .int .i64 t.r])).run Tryd.prog w = .ok (.bool (!decide (s = t))) w := by
  obtain ⟨i, hi⟩ := info_i3
  rw [run_neq_struct, run_equalIn_array w 9999 _ _ Tryd.underlying70 hi]
  rw [show Tryd.prog.cellsOf 3 = 1 by kernel_rfl, show List.range 3 = [0, 1, 2] by rfl]
  have e : decide (s = t) = decide ((s.b : Int) = t.b ∧ (s.l : Int) = t.l ∧ (s.r : Int) = t.r) := by
    cases s; cases t
    simp only [T3.mk.injEq, Int.natCast_inj]
  rw [e]
  simp [Op.eqItems, go_sem]
  repeat' split
  all_goals simp_all

/-- Is a base element an anchor? -/
theorem anc_pInt {P Q : List (Nat × Nat)} {i : Nat} : (anc P Q i = none ↔ (pInt P i = -1 ∨ pInt Q i = -1)) ∧ ∀ t, anc P Q i = some t ↔ t.b = i ∧ pInt P i = t.l ∧ pInt Q i = t.r := by
  unfold anc pInt
  cases part P i with
  | none =>
    refine ⟨by simp, fun t => ?_⟩
    constructor
    · intro h; cases h
    · rintro ⟨-, h, -⟩; simp only at h; omega
  | some j =>
    cases part Q i with
    | none =>
      refine ⟨by simp, fun t => ?_⟩
      constructor
      · intro h; cases h
      · rintro ⟨-, -, h⟩; simp only at h; omega
    | some k =>
      refine ⟨by simp, fun t => ?_⟩
      cases t
      simp only [Option.some.injEq, T3.mk.injEq]
      omega
/-- What the closures read: base's box, both rows of partners. -/
structure OfK (x : LA) (P Q : List (Nat × Nat)) (X3 X7 X8 GL GR : Nat) (W : World) : Prop where
  c3 : W.cell? ⟨X3, 0, none⟩ = some (.slice x.a x.l.length x.c)
  c7 : W.cell? ⟨X7, 0, none⟩ = some (.slice (some ⟨GL, 0, none⟩) x.l.length x.l.length)
  c8 : W.cell? ⟨X8, 0, none⟩ = some (.slice (some ⟨GR, 0, none⟩) x.l.length x.l.length)
  rl : RowF W GL x.l.length 3 (fun i => .int .i64 (pInt P i))
  rr : RowF W GR x.l.length 3 (fun i => .int .i64 (pInt Q i))
set_option maxRecDepth 100000 in
set_option maxHeartbeats 3200000 in
theorem anchored_c (W : World) (x : LA) (P Q : List (Nat × Nat)) (X3 X7 X8 GL GR i : Nat) (h : OfK x P Q X3 X7 X8 GL GR W) (hP : ∀ p ∈ P, p.1 < x.l.length) :
    Calls Tryd.prog 37 #[.int .i64 (i : Int), .pointer (some ⟨X3, 0, none⟩), .pointer (some ⟨X7, 0, none⟩), .pointer (some ⟨X8, 0, none⟩)] W (Ret (.bool (anc P Q i).isSome) W) := by
  obtain ⟨c3, c7, c8, rl, rr⟩ := h
  have hi0 : (0 : Int) ≤ (i : Int) := by omega
  by_cases hlt : i < x.l.length
  · have hlt' : (i : Int) < (x.l.length : Int) := by omega
    have d7 := rl.cell hlt
    have d8 := rr.cell hlt
    obtain ⟨p, hp⟩ : ∃ p, p = pInt P i := ⟨_, rfl⟩
    obtain ⟨q, hq⟩ : ∃ q, q = pInt Q i := ⟨_, rfl⟩
    rw [← hp] at d7
    rw [← hq] at d8
    have HA := Lib.hid (anc_pInt (P := P) (Q := Q) (i := i)).1
    rw [← hp, ← hq] at HA
    clear hp hq rl rr hP
    go_enter Tryd.func37, Tryd.ntmps37
    by_cases h1 : p = -1
    · have HN := Lib.hid (HA.out.2 (.inl h1))
      clear HA
      subst h1
      go_wp2_with fail
      go_ret
      exact ⟨by rw [HN.out]; rfl, Below.refl _ _⟩
    · by_cases h2 : q = -1
      · have HN := Lib.hid (HA.out.2 (.inr h2))
        clear HA
        subst h2
        go_wp2_with fail
        go_ret
        exact ⟨by rw [HN.out]; rfl, Below.refl _ _⟩
      · have HS := Lib.hid (show (anc P Q i).isSome = true by
          cases e : anc P Q i with
          | none => rcases HA.out.1 e with h | h; exact absurd h h1; exact absurd h h2
          | some t => rfl)
        go_wp2_with fail
        go_ret
        refine ⟨?_, Below.refl _ _⟩
        have hb : (p != -1 && q != -1) = true := by simp [h1, h2]
        show Ending.returned (.bool (p != -1 && q != -1)) = _
        rw [hb, HS.out]
  · have hge : ¬ (i : Int) < (x.l.length : Int) := by omega
    have HN := Lib.hid (show anc P Q i = none from by
      have e0 : part P i = none := part_none fun p hp e => by have := hP p hp; omega
      unfold anc
      rw [e0])
    clear rl rr hP
    go_enter Tryd.func37, Tryd.ntmps37
    go_wp2_with fail
    go_ret
    exact ⟨by rw [HN.out]; rfl, Below.refl _ _⟩

theorem info_ck : (Tryd.prog.info? 49).map (fun i => (i.zero, i.size, i.bytes)) = some (some (.agg #[.bool false, .int .i64 0, .int .i64 0, .int .i64 0, .int .i64 0, .int .i64 0, .int .i64 0]), 7, 56) := by kernel_rfl
def OwnCk (w : World) (base : Nat) (v : Value) (l : List Ck) : Prop := w.ownsRow base 49 7 v l.length (l.flatMap Ck.enc)
theorem app_ck {w : World} {base : Nat} {v : Value} {l : List Ck} (hown : OwnCk w base v l) {lo hi : Nat} {A : Option Addr} {m : List Ck} {c : Nat} (hr : SlE Ck.enc 7 w lo hi A m) (hn : l.length + m.length ≤ 8388608) (hbase : base ≤ w.heap.size) :
    ∃ v' w', (∀ ty, (Builtin.append_ #[44, 44] ty #[v, .slice A m.length c]).run Tryd.prog w = .ok v' w') ∧ OwnCk w' base v' (l ++ m) ∧ w.grownBy w' v.ownBlock ∧ (v'.ownBlock = v.ownBlock ∨ v'.ownBlock = some w.heap.size) := by
  obtain ⟨i0, hi0, hz0, hz1, hz2⟩ := info_parts info_ck
  obtain ⟨v', w', h1, h2, h3, h4⟩ := run_append_sl (P := Tryd.prog) w Ck.enc base 44 0 49 i0 _ 7 56 Tryd.underlying44 hi0 hz0 hz1 hz2 rfl (by omega) (by omega) v l.length _ hown lo hi A m c hr (fun _ => rfl) (fun x u hu => by simp [Ck.enc] at hu; rcases hu with rfl | rfl | rfl | rfl | rfl | rfl | rfl <;> rfl) (by omega) hbase
  exact ⟨v', w', fun ty => h1, by simp only [OwnCk, List.length_append, List.flatMap_append]; exact h2, h3, h4⟩
theorem own_formCk {w : World} {base : Nat} {v : Value} {l : List Ck} (h : OwnCk w base v l) : ∃ a c, v = .slice a l.length c := by
  rcases h.2 with ⟨e, h0⟩ | ⟨g, cap, cur, e, _⟩
  · exact ⟨none, 0, by rw [e, h0]⟩
  · exact ⟨_, _, e⟩
theorem own_keep {w w' : World} {base e size n : Nat} {v : Value} {xs : List Value} (h : w.ownsRow base e size v n xs) (hk : ∀ g, v.ownBlock = some g → w'.heap[g]? = w.heap[g]?) : w'.ownsRow base e size v n xs := by
  refine ⟨h.1, ?_⟩
  rcases h.2 with h0 | ⟨g, cap, cur, e1, h1, h2, h3⟩
  · exact .inl h0
  · exact .inr ⟨g, cap, cur, e1, h1, (hk g (by rw [e1]; rfl)).trans h2, h3⟩
def put3 (W : World) (B : Nat) (t : T3) : World := ((W.setCell ⟨B, 0, none⟩ (.int .i64 t.b)).setCell ⟨B, 1, none⟩ (.int .i64 t.l)).setCell ⟨B, 2, none⟩ (.int .i64 t.r)
theorem put3_blk {W : World} {B q : Nat} {t : T3} (h : q ≠ B) : (put3 W B t).heap[q]? = W.heap[q]? :=
  (Below.heap_setCell _ _ _ q h).trans ((Below.heap_setCell _ _ _ q h).trans (Below.heap_setCell _ _ _ q h))
theorem put3_size {W : World} {B : Nat} {t : T3} : (put3 W B t).heap.size = W.heap.size := by simp [put3]
theorem put3_at {W : World} {B : Nat} {t : T3} {u0 u1 u2 : Value} {ty : TypeId} (h : W.heap[B]? = some (.cells #[u0, u1, u2] ty (0, 0))) : (put3 W B t).heap[B]? = some (.cells #[.int .i64 t.b, .int .i64 t.l, .int .i64 t.r] ty (0, 0)) :=
  set_blk (set_blk (set_blk h 0 _) 1 _) 2 _
theorem put3_below {w0 W : World} {B N : Nat} {t : T3} (hb : Below N w0 W) (h : N ≤ B) : Below N w0 (put3 W B t) :=
  ((hb.setCell (p := ⟨B, 0, none⟩) h _).setCell (p := ⟨B, 1, none⟩) h _).setCell (p := ⟨B, 2, none⟩) h _
theorem c3_of {W : World} {B : Nat} {t : T3} {ty : TypeId} (h : W.heap[B]? = some (.cells #[.int .i64 t.b, .int .i64 t.l, .int .i64 t.r] ty (0, 0))) :
    W.cell? ⟨B, 0, none⟩ = some (.int .i64 t.b) ∧ W.cell? ⟨B, 1, none⟩ = some (.int .i64 t.l) ∧ W.cell? ⟨B, 2, none⟩ = some (.int .i64 t.r) ∧ W.frozen? ⟨B, 0, none⟩ = false ∧ W.frozen? ⟨B, 1, none⟩ = false ∧ W.frozen? ⟨B, 2, none⟩ = false :=
  ⟨(Go.Joins.cell_of_block h 0).trans rfl, (Go.Joins.cell_of_block h 1).trans rfl, (Go.Joins.cell_of_block h 2).trans rfl, by simp [World.frozen?, h], by simp [World.frozen?, h], by simp [World.frozen?, h]⟩
theorem c1_of {W : World} {B : Nat} {v : Value} {ty : TypeId} (h : W.heap[B]? = some (.cells #[v] ty (0, 0))) : W.cell? ⟨B, 0, none⟩ = some v ∧ W.frozen? ⟨B, 0, none⟩ = false :=
  ⟨(Go.Joins.cell_of_block h 0).trans rfl, by simp [World.frozen?, h]⟩
/-- What the loop writes: the chunks so far, and the places that they go up to. -/
structure OfSt (Bs X6 X10 : Nat) (C : List Ck) (z : T3) (W : World) : Prop where
  b6 : ∃ a c, W.heap[X6]? = some (.cells #[.slice a C.length c] 44 (0, 0)) ∧ OwnCk W Bs (.slice a C.length c) C
  b10 : W.heap[X10]? = some (.cells #[.int .i64 z.b, .int .i64 z.l, .int .i64 z.r] 70 (0, 0))
  bs : Bs ≤ W.heap.size
theorem OfSt.lt6 {Bs X6 X10 : Nat} {C : List Ck} {z : T3} {W : World} (h : OfSt Bs X6 X10 C z W) : X6 < W.heap.size := by obtain ⟨a, c, e, -⟩ := h.b6; exact lt_of_block e
theorem OfSt.up {Bs X6 X10 : Nat} {C : List Ck} {z : T3} {W W' : World} (h : OfSt Bs X6 X10 C z W) (hb : Below W.heap.size W W') : OfSt Bs X6 X10 C z W' := by
  obtain ⟨a, c, e, ho⟩ := h.b6
  exact ⟨⟨a, c, (hb.block X6 (lt_of_block e)).trans e, own_below ho hb⟩, (hb.block X10 (lt_of_block h.b10)).trans h.b10, Nat.le_trans h.bs hb.size⟩
theorem OfSt.at_ {Bs X6 X10 : Nat} {C : List Ck} {z : T3} {W : World} (h : OfSt Bs X6 X10 C z W) (h1 : X6 < X10) (h2 : X10 < Bs) (t : T3) : OfSt Bs X6 X10 C t (put3 W X10 t) := by
  obtain ⟨a, c, e, ho⟩ := h.b6
  exact ⟨⟨a, c, (put3_blk (by omega)).trans e, own_keep ho fun g hg => put3_blk (by have := (World.ownsRow.lt ho g hg).1; omega)⟩, put3_at h.b10, by rw [put3_size]; exact h.bs⟩
theorem OfSt.set6 {Bs X6 X10 : Nat} {C : List Ck} {z : T3} {W : World} {v : Value} {a : Option Addr} {c : Nat} (h1 : X6 < X10) (h2 : X10 < Bs) (e6 : W.heap[X6]? = some (.cells #[v] 44 (0, 0))) (e10 : W.heap[X10]? = some (.cells #[.int .i64 z.b, .int .i64 z.l, .int .i64 z.r] 70 (0, 0)))
    (ho : OwnCk W Bs (.slice a C.length c) C) (hs : Bs ≤ W.heap.size) : OfSt Bs X6 X10 C z (W.setCell ⟨X6, 0, none⟩ (.slice a C.length c)) :=
  ⟨⟨a, c, set_blk e6 0 _, own_keep ho fun g hg => Below.heap_setCell _ _ _ g (by have := (World.ownsRow.lt ho g hg).1; show g ≠ X6; omega)⟩, (Below.heap_setCell _ _ _ X10 (by show X10 ≠ X6; omega)).trans e10, by simpa using hs⟩
def BetPost (Bs X6 X10 : Nat) (C : List Ck) (t : T3) (w : World) (e : Ending) (w' : World) : Prop :=
  e = .returned (.tuple #[]) ∧ OfSt Bs X6 X10 C t w' ∧ (∀ k, k < Bs → k ≠ X6 → k ≠ X10 → w'.heap[k]? = w.heap[k]?) ∧ Below X6 w w'
set_option maxRecDepth 100000 in
set_option maxHeartbeats 3200000 in
theorem between_c (W : World) (Bs X6 X10 : Nat) (C : List Ck) (z t : T3) (h : OfSt Bs X6 X10 C z W) (h1 : X6 < X10) (h2 : X10 < Bs) (hl : C.length ≤ 8388607) :
    Calls Tryd.prog 38 #[t.val, .pointer (some ⟨X10, 0, none⟩), .pointer (some ⟨X6, 0, none⟩)] W (BetPost Bs X6 X10 (C ++ gapC z t) t W) := by
  have hneq := fun w' => neq_t3 w' z t
  have hba := (Below.refl W.heap.size W).alloc (Nat.le_refl _) (.cells #[.int .i64 t.b, .int .i64 t.l, .int .i64 t.r] 70)
  have hst := h.up hba
  obtain ⟨a, c, e6', ho'⟩ := h.b6
  have e6 := (hba.block X6 (lt_of_block e6')).trans e6'
  have ho : OwnCk (W.alloc (.cells #[.int .i64 t.b, .int .i64 t.l, .int .i64 t.r] 70)) Bs (.slice a C.length c) C := own_below ho' hba
  have HLT := Lib.hid (fun (g : Nat) (hg : (Value.slice a C.length c).ownBlock = some g) => (World.ownsRow.lt ho' g hg).2)
  have eT : (W.alloc (.cells #[.int .i64 t.b, .int .i64 t.l, .int .i64 t.r] 70)).heap[W.heap.size]? = some (.cells #[.int .i64 t.b, .int .i64 t.l, .int .i64 t.r] 70 (0, 0)) := heap_alloc_new W _
  have hW := h.bs
  obtain ⟨k0, k1, k2, f0, f1, f2⟩ := c3_of hst.b10
  obtain ⟨q6, g6⟩ := c1_of e6
  have nT : X10 ≠ W.heap.size := by omega
  have n6 : X6 ≠ X10 := by omega
  have n6T : X6 ≠ W.heap.size := by omega
  have HST := Lib.hid hst
  have HO := Lib.hid ho
  have HBA := Lib.hid hba
  have HE6 := Lib.hid e6
  have HET := Lib.hid eT
  clear hst ho hba e6 eT h ho' e6'
  go_enter Tryd.func38, Tryd.ntmps38
  by_cases hzt : z = t
  · have HG := Lib.hid (show C ++ gapC z t = C by rw [gapC, if_pos hzt, List.append_nil])
    simp only [decide_eq_true hzt, Bool.not_true] at hneq
    subst hzt
    go_upto_region 1 with fail
    go_upto_region 3 with fail
    go_wp2_with fail
    go_end0
    refine ⟨rfl, ?_, fun k b1 b2 b3 => ?_, ?_⟩
    · rw [HG.out]
      exact HST.out.at_ h1 h2 z
    · exact (put3_blk (t := z) b3).trans (HBA.out.block k (by omega))
    · exact put3_below (HBA.out.mono (by omega)) (by omega)
  · have HG := Lib.hid (show C ++ gapC z t = C ++ [Ck.mk false z t] by rw [gapC, if_neg hzt])
    simp only [decide_eq_false hzt, Bool.not_false] at hneq
    clear hzt
    go_upto_region 2 with fail
    obtain ⟨W1, hW1⟩ : ∃ W1, W1 = W.alloc (.cells #[.int .i64 t.b, .int .i64 t.l, .int .i64 t.r] 70) := ⟨_, rfl⟩
    rw [← hW1] at HST HO HBA HE6 HET q6 g6 k0 k1 k2 f0 f1 f2
    rw [← hW1]
    obtain ⟨j0, j1, j2, -, -, -⟩ := c3_of HET.out
    have hs1 : W1.heap.size = W.heap.size + 1 := by rw [hW1]; simp
    clear hW1 hneq
    go_region_law (first
      | (refine st_append (s := .tmp 7) (x := .tmp 11) rfl rfl (hrun _) ?_; clear hrun)
      | (go_simp; go_at_call 39; refine (chunk_c _ false z t).mono ?_; rintro e w2 ⟨rfl, hb2⟩
         have hb : Below W1.heap.size W1 w2 := below_of_drew hb2
         have hbs := hb.size
         obtain ⟨a', c', W', hrun, hoz, h6', h10', hT', hs', hk', hbz⟩ : ∃ (a' : Option Addr) (c' : Nat) (W' : World), (∀ ty, (Builtin.append_ #[44, 44] ty #[.slice a C.length c, .slice (some ⟨w2.heap.size, 0, none⟩) 1 1]).run Tryd.prog (w2.alloc (.cells #[.bool false, .int .i64 z.b, .int .i64 t.b, .int .i64 z.l, .int .i64 t.l, .int .i64 z.r, .int .i64 t.r] 49)) = .ok (.slice a' (C ++ [Ck.mk false z t]).length c') W') ∧
             OwnCk W' Bs (.slice a' (C ++ [Ck.mk false z t]).length c') (C ++ [Ck.mk false z t]) ∧ W'.heap[X6]? = some (.cells #[.slice a C.length c] 44 (0, 0)) ∧ W'.heap[X10]? = some (.cells #[.int .i64 z.b, .int .i64 z.l, .int .i64 z.r] 70 (0, 0)) ∧ W'.heap[W.heap.size]? = some (.cells #[.int .i64 t.b, .int .i64 t.l, .int .i64 t.r] 70 (0, 0)) ∧ Bs ≤ W'.heap.size ∧ (∀ k, k < Bs → W'.heap[k]? = W1.heap[k]?) ∧ Below Bs W1 W' := by
           have hlit : SlE Ck.enc 7 (w2.alloc (.cells #[.bool false, .int .i64 z.b, .int .i64 t.b, .int .i64 z.l, .int .i64 t.l, .int .i64 z.r, .int .i64 t.r] 49)) w2.heap.size (w2.heap.size + 1) (some ⟨w2.heap.size, 0, none⟩) [Ck.mk false z t] := lit_sl (enc := Ck.enc) (size := 7) (l := [Ck.mk false z t]) (t := 49) (fr := (0, 0)) Ck.enc_len (heap_alloc_new _ _)
           have hbl := (Below.refl w2.heap.size w2).alloc (Nat.le_refl _) (.cells #[.bool false, .int .i64 z.b, .int .i64 t.b, .int .i64 z.l, .int .i64 t.l, .int .i64 z.r, .int .i64 t.r] 49)
           have how := own_below (own_below HO.out hb) hbl
           obtain ⟨v', W', hrun, hown', hgr, -⟩ := app_ck (m := [Ck.mk false z t]) (c := 1) how hlit (by simp; omega) (by simp; omega)
           obtain ⟨a', c', rfl⟩ := own_formCk hown'
           have hall := below_via hb hbl
           have hkk : ∀ k, k < W1.heap.size → (∀ g, (Value.slice a C.length c).ownBlock = some g → k ≠ g) → W'.heap[k]? = W1.heap[k]? := fun k h1 h2 => (hgr.block k (by simp; omega) (fun e => h2 k e.symm rfl)).trans (hall.block k h1)
           have hlow : ∀ k, k < Bs → W'.heap[k]? = W1.heap[k]? := fun k h1 => hkk k (by omega) fun g hg => by have := (World.ownsRow.lt HO.out g hg).1; omega
           have hT : W'.heap[W.heap.size]? = W1.heap[W.heap.size]? := hkk W.heap.size (by omega) fun g hg => by have := HLT.out g hg; omega
           exact ⟨a', c', W', hrun, hown', (hlow X6 (by omega)).trans HE6.out, (hlow X10 (by omega)).trans HST.out.b10, hT.trans HET.out, by have := hgr.size; simp at this; omega, hlow, (hall.mono (by omega)).grown hgr (by simp; omega) (fun q hq => (World.ownsRow.lt HO.out q hq).1)⟩
         obtain ⟨r6, s6⟩ := c1_of h6'
         obtain ⟨u0, u1, u2, v0, v1, v2⟩ := c3_of h10'
         obtain ⟨y0, y1, y2, -, -, -⟩ := c3_of hT'
         have m6 := (hb.cell (p := ⟨X6, 0, none⟩) (by show X6 < _; omega)).trans q6
         have n6w : X6 < w2.heap.size := by omega))
    all_goals
      go_wp2_with fail
      go_end0
      refine ⟨rfl, ?_, fun k b1 b2 b3 => ?_, ?_⟩
      · rw [HG.out]
        have e : (C ++ [Ck.mk false z t]).length = C.length + 1 := by simp
        have hh := OfSt.set6 (C := C ++ [Ck.mk false z t]) h1 h2 h6' h10' hoz hs'
        rw [e] at hh
        exact hh.at_ h1 h2 t
      · exact (put3_blk (t := t) b3).trans ((Below.heap_setCell _ _ _ k (by show k ≠ X6; omega)).trans ((hk' k b1).trans (HBA.out.block k (by omega))))
      · have hx1 : Below X6 W W1 := HBA.out.mono (by omega)
        have hx2 : Below X6 W1 W' := hbz.mono (by omega)
        exact put3_below ((hx1.trans hx2).setCell (p := ⟨X6, 0, none⟩) (Nat.le_refl X6) _) (by omega)
end Go.Proofs.YtjihepdjcbpgoaaDoor
