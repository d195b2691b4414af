/-
  chunks.Of: the chunks of three lists. Conditions: the lists lie in memory, lengths and weights are bounded; strconv's table of powers holds what its initialiser lays.
-/
import Derived.Test.YtjihepdjcbpgoaaDoorCC
namespace Go.Proofs.YtjihepdjcbpgoaaDoor
open Go.RowKit Go.Sort

theorem bel_cell {W W' : World} (hb : Below W.heap.size W W') : ∀ k o : Nat, k < W.heap.size → W'.cell? ⟨k, o, none⟩ = W.cell? ⟨k, o, none⟩ := fun k o hk => hb.cell (p := ⟨k, o, none⟩) hk
theorem bel_froz {W W' : World} (hb : Below W.heap.size W W') : ∀ k o : Nat, k < W.heap.size → W'.frozen? ⟨k, o, none⟩ = W.frozen? ⟨k, o, none⟩ := fun k o hk => by simp only [World.frozen?, hb.block k hk]
theorem cl_drew (W : World) (p : Addr) : W.drew.cell? p = W.cell? p := rfl
theorem cl_new (W : World) (v : Value) (t : TypeId) : (W.alloc (.cells #[v] t)).cell? ⟨W.heap.size, 0, none⟩ = some v := (Go.Joins.cell_of_block (heap_alloc_new W _) 0).trans rfl
theorem cl_new2 (W : World) (v : Value) (t : TypeId) {k : Nat} (h : k = W.heap.size) : (W.alloc (.cells #[v] t)).cell? ⟨k, 0, none⟩ = some v := by rw [h]; exact cl_new W v t
theorem cl_old (W : World) (o : Obj) {k : Nat} (h : k < W.heap.size) : (W.alloc o).cell? ⟨k, 0, none⟩ = W.cell? ⟨k, 0, none⟩ := ((Below.refl W.heap.size W).alloc (Nat.le_refl _) o).cell (p := ⟨k, 0, none⟩) h
theorem cl_far (W : World) (v : Value) {k j : Nat} (h : j ≠ k) : (W.setCell ⟨j, 0, none⟩ v).cell? ⟨k, 0, none⟩ = W.cell? ⟨k, 0, none⟩ := World.cell?_setCell_far W _ _ v h
theorem cl_same (W : World) (v : Value) {u : Value} {k : Nat} (h : W.cell? ⟨k, 0, none⟩ = some u) : (W.setCell ⟨k, 0, none⟩ v).cell? ⟨k, 0, none⟩ = some v := World.cell?_setCell_same _ _ _ h
theorem clip_ck (w : World) (a : Option Addr) (cap n : Nat) (hn : n ≤ cap) :
    Calls Tryd.prog 40 #[.slice a n cap] w fun e w' => e = .returned (.slice a n n) ∧ w = w' := by
  go_enter Tryd.func40, Tryd.ntmps40
  go_wp2_with fail
  go_ret
  exact ⟨rfl, rfl⟩
theorem eqi_t3 (w : World) (s t : T3) : (Op.equalIn 10000 70 (.agg #[.int .i64 s.b, .int .i64 s.l, .int .i64 s.r]) (.agg #[.int .i64 t.b, .int .i64 t.l, .int .i64 t.r])).run Tryd.prog w = .ok (decide (s = t)) w := by
  obtain ⟨i, hi⟩ := info_i3
  rw [run_equalIn_array w 9999 _ _ Tryd.underlying70 hi]
  rw [show Tryd.prog.cellsOf 3 = 1 by kernel_rfl, show List.range 3 = [0, 1, 2] by rfl]
  have e : decide (s = t) = decide ((s.b : Int) = t.b ∧ (s.l : Int) = t.l ∧ (s.r : Int) = t.r) := by
    cases s; cases t
    simp only [T3.mk.injEq, Int.natCast_inj]
  rw [e]
  simp [Op.eqItems, go_sem]
  repeat' split
  all_goals simp_all
/-- Places, one by one on. -/
def incT (t : T3) : Nat → T3
  | 0 => t
  | 1 => ⟨t.b + 1, t.l, t.r⟩
  | 2 => ⟨t.b + 1, t.l + 1, t.r⟩
  | _ => t.up
/-- The run in the making. -/
def Inn (A : Nat → Option T3) (i : Nat) (a t : T3) : Prop := ∃ k, t = a.plus k ∧ (k = 0 ∨ runs A (i + k) = runs A i ++ [(a, t)])
/-- The chunks of the elements gone through, and the places that they go up to. -/
def Outr (A : Nat → Option T3) (i : Nat) (C : List Ck) (z : T3) : Prop := C = weaveP T3.zero (runs A i) ∧ z = lastT T3.zero (runs A i) ∧ (runs A i = [] ∨ A z.b ≠ some z) ∧ C.length ≤ 2 * i
section
variable {A : Nat → Option T3} {i : Nat} {C : List Ck} {z a t : T3}
theorem Outr.start (A : Nat → Option T3) : Outr A 0 [] T3.zero := ⟨rfl, rfl, .inl rfl, Nat.le_refl _⟩
theorem Outr.skip (h : Outr A i C z) (ha : A i = none) : Outr A (i + 1) C z := by
  obtain ⟨e1, e2, e3, e4⟩ := h
  unfold Outr
  rw [runs_skip ha]
  exact ⟨e1, e2, e3, by omega⟩
theorem Outr.done (h : Outr A i C z) (e : T3) : C ++ gapC z e = chunksL A i e := by
  obtain ⟨e1, e2, -, -⟩ := h
  rw [chunksL, ← e1, ← e2]
theorem Inn.start (A : Nat → Option T3) (i : Nat) (a : T3) : Inn A i a a := ⟨0, rfl, .inl rfl⟩
theorem Inn.on (hA : ∀ i a, A i = some a → a.b = i) (h0 : Outr A i C z) (ha : A i = some a) (h : Inn A i a t) (ht : A t.b = some t) : Inn A i a t.up := by
  obtain ⟨k, rfl, h⟩ := h
  have hab := hA i a ha
  refine ⟨k + 1, T3.up_plus a k, .inr ?_⟩
  rcases h with rfl | h
  · obtain ⟨-, e2, e3, -⟩ := h0
    subst e2
    exact runs_new hA ha e3
  · have hkb : (a.plus k).b = i + k := by show a.b + k = _; rw [hab]
    rw [hkb] at ht
    exact runs_on h ht
theorem gap_len (s t : T3) : (gapC s t).length ≤ 1 := by unfold gapC; split <;> simp
theorem Inn.done (hA : ∀ i a, A i = some a → a.b = i) (h0 : Outr A i C z) (ha : A i = some a) (h : Inn A i a t) (ht : A t.b ≠ some t) : i < t.b ∧ Outr A t.b (C ++ gapC z a ++ [⟨true, a, t⟩]) t := by
  obtain ⟨k, rfl, h⟩ := h
  have hab := hA i a ha
  have hkb : (a.plus k).b = i + k := by show a.b + k = _; rw [hab]
  rcases h with rfl | h
  · rw [hkb] at ht
    exact absurd ha ht
  · have hk : k ≠ 0 := by
      rintro rfl
      have := congrArg List.length h
      simp at this
    obtain ⟨e1, e2, e3, e4⟩ := h0
    have hg := gap_len z a
    refine ⟨by rw [hkb]; omega, ?_, ?_, .inr ht, ?_⟩
    · rw [hkb, h, weaveP_snoc, ← e1, ← e2, List.append_assoc]
    · rw [hkb, h, lastT_snoc]
    · rw [hkb]
      simp only [List.length_append, List.length_singleton]
      omega
end
/-- What chunks.Of hands back: a row of the call's own, clipped. -/
def OfPost (x y z : LA) (w : World) (e : Ending) (w' : World) : Prop :=
  ∃ (P Q : List (Nat × Nat)) (C : List Ck) (a : Option Addr) (cap : Nat), Early (labs 0 x.v) (labs 1 y.v) 0 0 P ∧ Early (labs 0 x.v) (labs 1 z.v) 0 0 Q ∧ C = chunksL (anc P Q) x.l.length ⟨x.l.length, y.l.length, z.l.length⟩ ∧ C.length ≤ 2097153 ∧ e = .returned (.slice a C.length C.length) ∧
    OwnCk w' w.heap.size (.slice a C.length cap) C ∧ Below w.heap.size w w'
theorem OfK.stay {x : LA} {P Q : List (Nat × Nat)} {X3 X6 X7 X8 GL GR N : Nat} {W W' : World} (h : OfK x P Q X3 X7 X8 GL GR W) (hk : ∀ k, k < N → k ≠ X6 → W'.heap[k]? = W.heap[k]?) (h7 : X6 < X7) (h8 : X6 < X8) (hL : X6 < GL) (hR : X6 < GR) (h3 : X3 < X6) (n7 : X7 < N) (n8 : X8 < N) (nL : GL < N) (nR : GR < N) : OfK x P Q X3 X7 X8 GL GR W' := by
  obtain ⟨c3, c7, c8, rl, rr⟩ := h
  exact ⟨(World.cell?_of_block (hk X3 (by omega) (by omega))).trans c3, (World.cell?_of_block (hk X7 n7 (by omega))).trans c7, (World.cell?_of_block (hk X8 n8 (by omega))).trans c8, rl.keep (hk GL nL (by omega)), rr.keep (hk GR nR (by omega))⟩
/-- Both rows of partners are made, each in its box. -/
def Both (x y z : LA) (X3 X6 : Nat) (w : World) (s7 s8 : Value) (wx : World) : Prop :=
  ∃ (X7 X8 GL GR : Nat) (P Q : List (Nat × Nat)), s7 = .pointer (some ⟨X7, 0, none⟩) ∧ s8 = .pointer (some ⟨X8, 0, none⟩) ∧ Early (labs 0 x.v) (labs 1 y.v) 0 0 P ∧ Early (labs 0 x.v) (labs 1 z.v) 0 0 Q ∧
    OfK x P Q X3 X7 X8 GL GR wx ∧ wx.heap[X6]? = some (.cells #[.slice none 0 0] 44 (0, 0)) ∧ X6 < X7 ∧ X6 < X8 ∧ X6 < GL ∧ X6 < GR ∧ X7 < wx.heap.size ∧ X8 < wx.heap.size ∧ Below w.heap.size w wx
theorem both_mk {x y z : LA} {w w2 F : World} {X3 X6 X7 X8 GL GR : Nat} {P Q : List (Nat × Nat)} (heP : Early (labs 0 x.v) (labs 1 y.v) 0 0 P) (heQ : Early (labs 0 x.v) (labs 1 z.v) 0 0 Q)
    (rl : RowF w2 GL x.l.length 3 (fun i => .int .i64 (pInt P i))) (rr : RowF w2 GR x.l.length 3 (fun i => .int .i64 (pInt Q i))) (e3 : w2.heap[X3]? = some (.cells #[.slice x.a x.l.length x.c] 22 (0, 0)))
    (e6 : w2.heap[X6]? = some (.cells #[.slice none 0 0] 44 (0, 0))) (h36 : X3 < X6) (c7 : F.cell? ⟨X7, 0, none⟩ = some (.slice (some ⟨GL, 0, none⟩) x.l.length x.l.length)) (c8 : F.cell? ⟨X8, 0, none⟩ = some (.slice (some ⟨GR, 0, none⟩) x.l.length x.l.length))
    (hk : ∀ k, k < w2.heap.size → k ≠ X7 → k ≠ X8 → F.heap[k]? = w2.heap[k]?) (h7 : X6 < X7) (h8 : X6 < X8) (l7 : X7 < F.heap.size) (l8 : X8 < F.heap.size) (hgl : X6 < GL ∧ GL ≠ X7 ∧ GL ≠ X8) (hgr : X6 < GR ∧ GR ≠ X7 ∧ GR ≠ X8) (hb : Below w.heap.size w F) :
    Both x y z X3 X6 w (.pointer (some ⟨X7, 0, none⟩)) (.pointer (some ⟨X8, 0, none⟩)) F := by
  have k6 := lt_of_block e6
  refine ⟨X7, X8, GL, GR, P, Q, rfl, rfl, heP, heQ, ⟨(c1_of ((hk X3 (lt_of_block e3) (by omega) (by omega)).trans e3)).1, c7, c8, rl.keep (hk GL rl.lt hgl.2.1 hgl.2.2), rr.keep (hk GR rr.lt hgr.2.1 hgr.2.2)⟩, (hk X6 k6 (by omega) (by omega)).trans e6, h7, h8, hgl.1, hgr.1, l7, l8, hb⟩
set_option maxRecDepth 100000 in
set_option maxHeartbeats 51200000 in
theorem of_c (w : World) (x y z : LA) (hx : x.Rd w) (hy : y.Rd w) (hz : z.Rd w) (hP : Pow w) : Calls Tryd.prog 23 #[.slice x.a x.l.length x.c, .slice y.a y.l.length y.c, .slice z.a z.l.length z.c] w (OfPost x y z w) := by
  have hxl := hx.len
  have PL := fun W (h : Below w.heap.size w W) => Lib.hid (partners_c W x y (hx.up h) (hy.up h) (hP.below h))
  have PR := fun W (h : Below w.heap.size w W) => Lib.hid (partners_c W x z (hx.up h) (hz.up h) (hP.below h))
  obtain ⟨W0, hW0⟩ : ∃ W0, W0 = (w.alloc (.cells #[.slice x.a x.l.length x.c] 22)).alloc (.cells #[.slice none 0 0] 44) := ⟨_, rfl⟩
  have e3 : W0.heap[w.heap.size]? = some (.cells #[.slice x.a x.l.length x.c] 22 (0, 0)) := by rw [hW0]; exact (blk_o _ _ _ (by simp)).trans (heap_alloc_new w _)
  have e6 : W0.heap[w.heap.size + 1]? = some (.cells #[.slice none 0 0] 44 (0, 0)) := by
    rw [hW0]
    have := heap_alloc_new (w.alloc (.cells #[.slice x.a x.l.length x.c] 22)) (.cells #[.slice none 0 0] 44)
    rwa [World.size_alloc] at this
  have hs0 : W0.heap.size = w.heap.size + 2 := by rw [hW0]; simp
  have hb0 : Below w.heap.size w W0 := by rw [hW0]; exact ((Below.refl _ _).alloc (Nat.le_refl _) _).alloc (by simp) _
  obtain ⟨q3, f3⟩ := c1_of e3
  have HE3 := Lib.hid e3
  have HE6 := Lib.hid e6
  have HB0 := Lib.hid hb0
  have l3 : w.heap.size < W0.heap.size := by omega
  have l6 : w.heap.size + 1 < W0.heap.size := by omega
  have HS0 := Lib.hid hs0
  clear e3 e6 hb0 hs0
  go_enter Tryd.func23, Tryd.ntmps23
  go_upto_region 1 with fail
  rw [← hW0]
  clear hW0
  go_cut [7, 8] (fun s7 s8 wx => Both x y z w.heap.size (w.heap.size + 1) w s7 s8 wx)
  case first =>
    go_region_law (first
      | (go_simp; go_at_call 36; have kk := m1; refine (PR _ (below_via HB0.out (hw1.trans (by repeat (first | exact Below.refl _ _ | refine Below.drew ?_ | refine below_drewN ?_ _ | refine Below.setCell ?_ (by first | omega | (simp; done) | (simp; omega)) _ | refine Below.alloc ?_ (by first | omega | (simp; done) | (simp; omega)) _))))).out.mono ?_; rintro e w2 ⟨GR, Q, rfl, heQ, hrR, hgR, hb2⟩
         have hB2 := bel_cell hb2
         have hF2 := bel_froz hb2
         have hS2 := hb2.size
         try simp at hS2
         try have hS3 : w1.heap.size < w2.heap.size := by omega
         try have hS4 : w1.heap.size + 1 < w2.heap.size := by omega
         try have hS5 : W0.heap.size < w2.heap.size := by omega
         try have hS6 : W0.heap.size + 1 < w2.heap.size := by omega
         have HEQ2 := Lib.hid heQ
         have HRR := Lib.hid hrR
         have hw2 : Below w1.heap.size w1 w2 := below_via (by repeat (first | exact Below.refl _ _ | refine Below.drew ?_ | refine below_drewN ?_ _ | refine Below.setCell ?_ (by first | omega | (simp; done) | (simp; omega)) _ | refine Below.alloc ?_ (by first | omega | (simp; done) | (simp; omega)) _)) hb2
         have HRL2 := Lib.hid (HRL.out.up hw2)
         have hglt := HRL.out.lt
         have hgrt := hrR.lt
         have HW02 := Lib.hid (below_via hw1 hw2)
         try simp at hgR
         clear heQ hrR hw2)
      | (go_simp; go_at_call 36; refine (PL _ (below_via HB0.out (by repeat (first | exact Below.refl _ _ | refine Below.drew ?_ | refine below_drewN ?_ _ | refine Below.setCell ?_ (by first | omega | (simp; done) | (simp; omega)) _ | refine Below.alloc ?_ (by first | omega | (simp; done) | (simp; omega)) _)))).out.mono ?_; rintro e w1 ⟨GL, P, rfl, heP, hrL, hgL, hb1⟩
         have hw1 : Below W0.heap.size W0 w1 := below_via (by repeat (first | exact Below.refl _ _ | refine Below.drew ?_ | refine below_drewN ?_ _ | refine Below.setCell ?_ (by first | omega | (simp; done) | (simp; omega)) _ | refine Below.alloc ?_ (by first | omega | (simp; done) | (simp; omega)) _)) hb1
         have q31 := (hw1.cell (p := ⟨w.heap.size, 0, none⟩) l3).trans q3
         have l31 : w.heap.size < w1.heap.size := Nat.lt_of_lt_of_le l3 hw1.size
         have n01 := hw1.size
         have hB1 := bel_cell hb1
         have hF1 := bel_froz hb1
         have hS1 := hb1.size
         try simp at hS1
         try have hT1 : W0.heap.size < w1.heap.size := by omega
         try have hT2 : W0.heap.size + 1 < w1.heap.size := by omega
         have HEP := Lib.hid heP
         have HRL := Lib.hid hrL
         try simp at hgL
         clear heP hrL
         have m1 := trivial))
    all_goals
      go_wp2_with fail
      go_meet
      have hwW2 := below_via HB0.out HW02.out
      refine both_mk (w2 := w2) HEP.out HEQ2.out HRL2.out HRR.out ((HW02.out.block _ l3).trans HE3.out) ((HW02.out.block _ l6).trans HE6.out) (Nat.lt_succ_self _) ?c7 ?c8 ?hk ?h7 ?h8 ?l7 ?l8 ?gl ?gr ?hb
      case c7 =>
        repeat (first
          | (with_reducible exact cl_new _ _ _)
          | (with_reducible refine (cl_drew _ _).trans ?_)
          | ((with_reducible refine cl_new2 _ _ _ ?_); focus (first | omega | (simp; done)))
          | ((with_reducible refine (hB2 _ 0 ?_).trans ?_); focus (first | omega | (simp; done) | (simp; omega)))
          | ((with_reducible refine (hB1 _ 0 ?_).trans ?_); focus (first | omega | (simp; done) | (simp; omega)))
          | ((with_reducible refine (cl_old _ _ ?_).trans ?_); focus (first | omega | (simp; done) | (simp; omega)))
          | ((with_reducible refine (cl_far _ _ ?_).trans ?_); focus omega)
          | (with_reducible refine cl_same (u := .slice none 0 0) _ _ ?_))
      case c8 =>
        repeat (first
          | (with_reducible exact cl_new _ _ _)
          | (with_reducible refine (cl_drew _ _).trans ?_)
          | ((with_reducible refine cl_new2 _ _ _ ?_); focus (first | omega | (simp; done)))
          | ((with_reducible refine (hB2 _ 0 ?_).trans ?_); focus (first | omega | (simp; done) | (simp; omega)))
          | ((with_reducible refine (hB1 _ 0 ?_).trans ?_); focus (first | omega | (simp; done) | (simp; omega)))
          | ((with_reducible refine (cl_old _ _ ?_).trans ?_); focus (first | omega | (simp; done) | (simp; omega)))
          | ((with_reducible refine (cl_far _ _ ?_).trans ?_); focus omega)
          | (with_reducible refine cl_same (u := .slice none 0 0) _ _ ?_))
      case hk =>
        intro k q1 q2 q3
        first
          | exact (blk_o _ _ _ (by simp; omega)).trans (blk_o _ _ _ q1)
          | exact (blk_o _ _ _ (by simp; omega)).trans (Below.heap_setCell _ _ _ _ q2)
          | exact (blk_o _ _ _ (by simp; omega)).trans (Below.heap_setCell _ _ _ _ q3)
          | exact (Below.heap_setCell _ _ _ _ q3).trans (Below.heap_setCell _ _ _ _ q2)
          | exact (Below.heap_setCell _ _ _ _ q2).trans (Below.heap_setCell _ _ _ _ q3)
      case h7 => omega
      case h8 => omega
      case l7 => first | omega | (simp; done) | (simp; omega)
      case l8 => first | omega | (simp; done) | (simp; omega)
      case gl => omega
      case gr => omega
      case hb =>
        repeat (first | exact hwW2 | refine Below.setCell ?_ (by first | (show w.heap.size ≤ _; omega) | (simp; omega)) _ | refine Below.alloc ?_ (by first | omega | (simp; omega)) _)
  case rest =>
    obtain ⟨X7, X8, GL, GR, P, Q, rfl, rfl, heP, heQ, hok, h6, h67, h68, h6L, h6R, h7w, h8w, hbw⟩ := hcut
    obtain ⟨V, hV⟩ : ∃ V, V = wc := ⟨_, rfl⟩
    subst hV
    have hvx : x.v.length = x.l.length := List.length_map _
    have hvy : y.v.length = y.l.length := List.length_map _
    have hvz : z.v.length = z.l.length := List.length_map _
    obtain ⟨-, hPk⟩ := early_many heP
    obtain ⟨-, hQk⟩ := early_many heQ
    rw [hvx, hvy] at hPk
    rw [hvx, hvz] at hQk
    have HPL := Lib.hid (fun p (hp : p ∈ P) => (hPk p hp).1)
    have HAO := Lib.hid (anc_ok (e := ⟨x.l.length, y.l.length, z.l.length⟩) (early_rise heP) (early_rise heQ) hPk hQk)
    have HAB := Lib.hid (fun i a (h : anc P Q i = some a) => (anc_some.1 h).1)
    have HEP := Lib.hid heP
    have HEQ := Lib.hid heQ
    have HOK := Lib.hid hok
    have HBW := Lib.hid hbw
    have hyl := hy.len
    have hzl := hz.len
    have hsv := hbw.size
    obtain ⟨v3, v7, v8⟩ : w.heap.size < V.heap.size ∧ X7 < V.heap.size ∧ X8 < V.heap.size := ⟨by omega, h7w, h8w⟩
    have vL := hok.rl.lt
    have vR := hok.rr.lt
    have hba := (Below.refl V.heap.size V).alloc (Nat.le_refl _) (.cells #[.int .i64 0, .int .i64 0, .int .i64 0] 70)
    have HS0 := Lib.hid (show OfSt (V.heap.size + 1) (w.heap.size + 1) V.heap.size [] T3.zero (V.alloc (.cells #[.int .i64 0, .int .i64 0, .int .i64 0] 70)) from
      ⟨⟨none, 0, (hba.block _ (lt_of_block h6)).trans h6, World.ownsRow_nil _ _ _ _⟩, heap_alloc_new V _, by simp⟩)
    have HBA := Lib.hid hba
    have v6 : w.heap.size + 1 < V.heap.size := lt_of_block h6
    clear heP heQ hok hbw h6 PL PR HE3 HE6 HB0 q3 f3 hPk hQk hvx hvy hvz hba hx hy hz hP
    go_wp2_with fail
    go_loopw [12, 13, 14, 67] (fun s12 _ _ _ wr => ∃ (i : Nat) (C : List Ck) (at_ : T3), i ≤ x.l.length ∧ s12 = .int .i64 i ∧ Outr (anc P Q) i C at_ ∧ OfSt (V.heap.size + 1) (w.heap.size + 1) V.heap.size C at_ wr ∧ (∀ k, k < V.heap.size → k ≠ w.heap.size + 1 → wr.heap[k]? = V.heap[k]?) ∧ Below w.heap.size w wr) (fun s12 _ _ _ _ => x.l.length - (intOf s12).toNat)
    case atStart => exact ⟨0, [], T3.zero, Nat.zero_le _, by go_num, Outr.start _, HS0.out, fun k h1 _ => HBA.out.block k h1, below_via HBW.out HBA.out⟩
    case round =>
      obtain ⟨i, C, at_, hi, rfl, hout, hst, hkp, hbr⟩ := hrel
      have hCl : C.length ≤ 2 * i := hout.2.2.2
      have HOU := Lib.hid hout
      have HST := Lib.hid hst
      have HKP := Lib.hid hkp
      have HBR := Lib.hid hbr
      have hokr := HOK.out.stay hkp h67 h68 h6L h6R (Nat.lt_succ_self _) v7 v8 vL vR
      have hsr := hst.bs
      have HOKR := Lib.hid hokr
      obtain ⟨k3, k7, k8, rl, rr⟩ := hokr
      have m3 : w.heap.size < wr.heap.size := by omega
      have m7 : X7 < wr.heap.size := by omega
      have m8 : X8 < wr.heap.size := by omega
      clear hout hst hkp hbr
      by_cases hlt : i < x.l.length
      · have hlt' : (i : Int) < (x.l.length : Int) := by omega
        have hi0 : (0 : Int) ≤ (i : Int) := by omega
        have hwi : IntKind.i64.wrap ((i : Int) + 1) = ((i + 1 : Nat) : Int) := by rw [IntWalk.i64_in _ (by omega)]; omega
        have hAN := anchored_c wr x P Q w.heap.size X7 X8 GL GR i HOKR.out HPL.out
        cases hA : anc P Q i with
        | none =>
          rw [hA] at hAN
          have HAN := Lib.hid hAN
          have HNX := Lib.hid (HOU.out.skip hA)
          clear hAN hA rl rr
          go_wp2_with (go_at_call 37; refine HAN.out.mono ?_; rintro e w1 ⟨rfl, hb1⟩)
          exact ⟨⟨i + 1, C, at_, by omega, by go_num, HNX.out, HST.out.up hb1, fun k g1 g2 => (hb1.block k (by omega)).trans (HKP.out k g1 g2), below_via HBR.out hb1⟩, by simp [intOf]; omega⟩
        | some a =>
          rw [hA] at hAN
          have HAN := Lib.hid hAN
          have hab := HAB.out i a hA
          obtain ⟨-, hpl, hpr⟩ := (anc_pInt.2 a).1 hA
          have hal := HAO.out.lt i a hA
          have HA := Lib.hid hA
          have dl := rl.cell hlt
          have dr := rr.cell hlt
          rw [hpl] at dl
          rw [hpr] at dr
          have mL := rl.lt
          have mR := rr.lt
          clear hAN hpl hpr hA rl rr
          subst hab
          go_upto_region 9 with (go_at_call 37; refine HAN.out.mono ?_; rintro e w1 ⟨rfl, hb1⟩)
          have hst1 := HST.out.up hb1
          have hs1 := hb1.size
          have n7 := (hb1.cell (p := ⟨X7, 0, none⟩) m7).trans k7
          have n8 := (hb1.cell (p := ⟨X8, 0, none⟩) m8).trans k8
          have el := (hb1.cell (p := ⟨GL, a.b, none⟩) mL).trans dl
          have er := (hb1.cell (p := ⟨GR, a.b, none⟩) mR).trans dr
          have HBT := fun W (hb : Below w1.heap.size w1 W) => Lib.hid (between_c W (V.heap.size + 1) (w.heap.size + 1) V.heap.size C at_ a (hst1.up hb) v6 (Nat.lt_succ_self _) (by omega))
          have HK1 := Lib.hid (fun k (g1 : k < V.heap.size) (g2 : k ≠ w.heap.size + 1) => (hb1.block k (by omega)).trans (HKP.out k g1 g2))
          have HB1 := Lib.hid (below_via HBR.out hb1)
          have l7 : X7 < w1.heap.size := by omega
          have l8 : X8 < w1.heap.size := by omega
          have lL : GL < w1.heap.size := by omega
          have lR : GR < w1.heap.size := by omega
          clear k3 k7 k8 dl dr hst1 hb1 HKP HBR HST HOKR m3 m7 m8 mL mR HAN
          go_cut [] (fun wx => OfSt (V.heap.size + 1) (w.heap.size + 1) V.heap.size (C ++ gapC at_ a) a wx ∧ (∀ k, k < V.heap.size → k ≠ w.heap.size + 1 → wx.heap[k]? = V.heap[k]?) ∧ Below w.heap.size w wx)
          case first =>
            go_region_law (first
              | (go_simp; go_at_call 38; refine (HBT _ (by repeat (first | exact Below.refl _ _ | refine Below.drew ?_ | refine below_drewN ?_ _ | refine Below.setCell ?_ (by first | omega | (simp; done) | (simp; omega)) _ | refine Below.alloc ?_ (by first | omega | (simp; done) | (simp; omega)) _))).out.mono ?_; rintro e w2 ⟨rfl, hst2, hk2, hb2⟩))
            all_goals
              go_wp2_with fail
              go_meet
              refine ⟨hst2, fun k g1 g2 => (hk2 k (by omega) g2 (by omega)).trans (HK1.out k g1 g2), ?_⟩
              exact Below.trans (by repeat (first | exact HB1.out | refine Below.drew ?_ | refine below_drewN ?_ _)) (hb2.mono (by omega))
          case rest =>
            obtain ⟨hst2, hkp2, hb2⟩ := hcut
            obtain ⟨U, hU⟩ : ∃ U, U = wc := ⟨_, rfl⟩
            subst hU
            have hs2 := hst2.bs
            obtain ⟨p0, p1, p2, -, -, -⟩ := c3_of hst2.b10
            have hgl := gap_len at_ a
            have hC2l : (C ++ gapC at_ a).length ≤ 2 * a.b + 1 := by rw [List.length_append]; omega
            obtain ⟨C2, hC2⟩ : ∃ C2, C2 = C ++ gapC at_ a := ⟨_, rfl⟩
            rw [← hC2] at hst2 hC2l
            have HDN := fun (t : T3) (h1 : Inn (anc P Q) a.b a t) (h2 : anc P Q t.b ≠ some t) => Lib.hid (Inn.done HAB.out HOU.out HA.out h1 h2)
            rw [← hC2] at HDN
            have HST2 := Lib.hid hst2
            have HKP2 := Lib.hid hkp2
            have HB2 := Lib.hid hb2
            have HC2 := Lib.hid hC2
            have HX0 := Lib.hid (show (U.alloc (.cells #[.int .i64 a.b, .int .i64 a.l, .int .i64 a.r] 70)).heap[U.heap.size]? = some (.cells #[.int .i64 a.b, .int .i64 a.l, .int .i64 a.r] 70 (0, 0)) from heap_alloc_new U _)
            have HBX := Lib.hid ((Below.refl U.heap.size U).alloc (Nat.le_refl _) (.cells #[.int .i64 a.b, .int .i64 a.l, .int .i64 a.r] 70))
            have u10 : V.heap.size < U.heap.size := by omega
            clear hst2 hkp2 hb2 hC2 n7 n8 el er HBT HK1 HB1 l7 l8 lL lR hs1
            go_wp2_with fail
            go_loopw [14, 67] (fun _ _ wi => ∃ t : T3, Inn (anc P Q) a.b a t ∧ t.b ≤ x.l.length ∧ t.l ≤ 1048576 ∧ t.r ≤ 1048576 ∧ wi.heap[U.heap.size]? = some (.cells #[.int .i64 t.b, .int .i64 t.l, .int .i64 t.r] 70 (0, 0)) ∧ Below U.heap.size U wi) (fun _ _ wi => x.l.length - (intOf ((wi.cell? ⟨U.heap.size, 0, none⟩).getD (.int .i64 0))).toNat)
            case atStart => exact ⟨a, Inn.start _ _ _, by omega, by omega, by omega, HX0.out, HBX.out⟩
            case round =>
              obtain ⟨t, hin, htb, htl, htr, hX, hbi⟩ := hrel
              obtain ⟨c0, c1, c2, f0, f1, f2⟩ := c3_of hX
              obtain ⟨W3, hW3⟩ : ∃ W3, W3 = wr := ⟨_, rfl⟩
              subst hW3
              have hs3 := hbi.size
              have hokt := HOK.out.stay (fun k (g1 : k < V.heap.size) (g2 : k ≠ w.heap.size + 1) => (hbi.block k (by omega)).trans (HKP2.out k g1 g2)) h67 h68 h6L h6R (Nat.lt_succ_self _) v7 v8 vL vR
              have hAN := fun W (h : Below W3.heap.size W3 W) => anchored_c W x P Q w.heap.size X7 X8 GL GR t.b (hokt.stay (N := W3.heap.size) (X6 := w.heap.size + 1) (fun k g1 _ => h.block k g1) h67 h68 h6L h6R (Nat.lt_succ_self _) (by omega) (by omega) (by omega) (by omega)) HPL.out
              have x13 : U.heap.size < W3.heap.size := lt_of_block hX
              have C0 := fun W (h : Below W3.heap.size W3 W) => (h.cell (p := ⟨U.heap.size, 0, none⟩) x13).trans c0
              have C1 := fun W (h : Below W3.heap.size W3 W) => (h.cell (p := ⟨U.heap.size, 1, none⟩) x13).trans c1
              have C2' := fun W (h : Below W3.heap.size W3 W) => (h.cell (p := ⟨U.heap.size, 2, none⟩) x13).trans c2
              have HIN := Lib.hid hin
              have HXX := Lib.hid hX
              have HBI := Lib.hid hbi
              obtain ⟨d, hd⟩ : ∃ d, d = decide (anc P Q t.b = some t) := ⟨_, rfl⟩
              have HD := Lib.hid hd
              clear hin hX hbi hd
              go_upto_region 11 with fail
              go_cut [66] (fun s66 wx => s66 = .bool d ∧ Below W3.heap.size W3 wx)
              case first =>
                clear c0 c1 c2 f0 f1 f2
                cases hA2 : anc P Q t.b with
                | none =>
                  simp only [hA2, Option.isSome_none] at hAN
                  have HAN2 := fun W (h : Below W3.heap.size W3 W) => Lib.hid (hAN W h)
                  have LD := Lib.hid (fun W (h : Below W3.heap.size W3 W) => And.intro (C0 W h) (C1 W h))
                  have hdf : d = false := by rw [HD.out, hA2]; rfl
                  subst hdf
                  clear hAN C0 C1 C2' hokt
                  refine wp_region_bl (by kernel_rfl) (by kernel_rfl) ?_
                  repeat (first | go_big_quiet_skip | (go_big_quiet_want; go_big_quiet_op; first | go_big_quiet_on | (refine ⟨_, fun _ _ => (by with_reducible rfl), ?_⟩; go_big_quiet_on) | (apply Exists.intro; refine ⟨fun w' hC => (by simp only [LD.out w' hC, Result.andThen]; exact ⟨trivial, rfl⟩), ?_⟩; go_big_quiet_on) | (apply Exists.intro; refine ⟨fun w' hC => (by (with_reducible refine (HAN2 w' hC).out.mono ?_); exact fun e w2 ⟨he, hb⟩ => ⟨he, hC.trans (hb.mono hC.size)⟩), ?_⟩; go_big_quiet_on)))
                  refine wpQuiet_nil ?_; intro wz hbz
                  go_wp2_with fail
                  go_meet
                  exact ⟨rfl, hbz⟩
                | some u =>
                  simp only [hA2, Option.isSome_some] at hAN
                  have hub := HAB.out t.b u hA2
                  obtain ⟨-, hpl, hpr⟩ := (anc_pInt.2 u).1 hA2
                  have hde : d = decide (u = t) := by rw [HD.out, hA2]; simp
                  have hut := HAO.out.lt t.b u hA2
                  obtain ⟨ub, ul, ur⟩ := u
                  simp only at hub hpl hpr hut
                  subst hub
                  have heq : ∀ W : World, (Op.equalIn 10000 70 (.agg #[.int .i64 t.b, .int .i64 ul, .int .i64 ur]) (.agg #[.int .i64 t.b, .int .i64 t.l, .int .i64 t.r])).run Tryd.prog W = .ok d W := fun W => by rw [hde]; exact eqi_t3 W ⟨t.b, ul, ur⟩ t
                  have hlt2 : t.b < x.l.length := hut.1
                  have HAN2 := fun W (h : Below W3.heap.size W3 W) => Lib.hid (hAN W h)
                  have D7 := fun W (h : Below W3.heap.size W3 W) => (h.cell (p := ⟨X7, 0, none⟩) (show X7 < _ by omega)).trans hokt.c7
                  have D8 := fun W (h : Below W3.heap.size W3 W) => (h.cell (p := ⟨X8, 0, none⟩) (show X8 < _ by omega)).trans hokt.c8
                  have DL := fun W (h : Below W3.heap.size W3 W) => (h.cell (p := ⟨GL, t.b, none⟩) (show GL < _ by omega)).trans (hokt.rl.cell hlt2)
                  have DR := fun W (h : Below W3.heap.size W3 W) => (h.cell (p := ⟨GR, t.b, none⟩) (show GR < _ by omega)).trans (hokt.rr.cell hlt2)
                  simp only [hpl] at DL
                  simp only [hpr] at DR
                  have LD := Lib.hid (fun W (h : Below W3.heap.size W3 W) => And.intro (C0 W h) (And.intro (C1 W h) (And.intro (C2' W h) (And.intro (D7 W h) (And.intro (D8 W h) (And.intro (DL W h) (And.intro (DR W h) (heq W))))))))
                  have htb2 : (t.b : Int) < (x.l.length : Int) := by omega
                  have htb0 : (0 : Int) ≤ (t.b : Int) := by omega
                  clear hAN C0 C1 C2' hokt D7 D8 DL DR heq hde hpl hpr hA2
                  refine wp_region_bl (by kernel_rfl) (by kernel_rfl) ?_
                  repeat (first | go_big_quiet_skip | (go_big_quiet_want; go_big_quiet_op; first | go_big_quiet_on | (refine ⟨_, fun _ _ => (by with_reducible rfl), ?_⟩; go_big_quiet_on) | (apply Exists.intro; refine ⟨fun w' hC => (by simp only [LD.out w' hC, Result.andThen]; exact ⟨trivial, rfl⟩), ?_⟩; go_big_quiet_on) | (apply Exists.intro; refine ⟨fun w' hC => (by (with_reducible refine (HAN2 w' hC).out.mono ?_); exact fun e w2 ⟨he, hb⟩ => ⟨he, hC.trans (hb.mono hC.size)⟩), ?_⟩; go_big_quiet_on)))
                  refine wpQuiet_nil ?_; intro wz hbz
                  go_wp2_with fail
                  go_meet
                  exact ⟨rfl, hbz⟩
              case rest =>
                obtain ⟨rfl, hb3⟩ := hcut
                obtain ⟨W4, hW4⟩ : ∃ W4, W4 = wc := ⟨_, rfl⟩
                subst hW4
                have hX4 := (hb3.block U.heap.size x13).trans HXX.out
                have hbi4 := below_via HBI.out hb3
                have HB4 := Lib.hid hbi4
                have HX4 := Lib.hid hX4
                have hs4 := hb3.size
                clear hAN C0 C1 C2' hokt c0 c1 c2 f0 f1 f2 hb3 hbi4 hX4
                cases d with
                | true =>
                  have hAt : anc P Q t.b = some t := of_decide_eq_true HD.out.symm
                  have hle := HAO.out.lt t.b t hAt
                  have HIN2 := Lib.hid (HIN.out.on HAB.out HOU.out HA.out hAt)
                  have hl1 : t.b < x.l.length := hle.1
                  have hl2 : t.l < y.l.length := hle.2.1
                  have hl3 : t.r < z.l.length := hle.2.2
                  clear hAt hle
                  go_wp2_with fail
                  go_loopw [14, 67] (fun _ s67 wk => ∃ k : Int, (k = 0 ∨ k = 1 ∨ k = 2 ∨ k = 3) ∧ s67 = .int .i64 k ∧ wk.heap[U.heap.size]? = some (.cells #[.int .i64 (incT t k.toNat).b, .int .i64 (incT t k.toNat).l, .int .i64 (incT t k.toNat).r] 70 (0, 0)) ∧ Below U.heap.size U wk) (fun _ s67 _ => 3 - (intOf s67).toNat)
                  case atStart => exact ⟨0, .inl rfl, by go_num, HX4.out, HB4.out⟩
                  case round =>
                    obtain ⟨k, hk, rfl, hXk, hbk⟩ := hrel
                    obtain ⟨c0, c1, c2, f0, f1, f2⟩ := c3_of hXk
                    have HBK := Lib.hid hbk
                    have hxk : U.heap.size < wr.heap.size := lt_of_block hXk
                    have i0 : IntKind.i64.wrap ((t.b : Int) + 1) = ((t.b + 1 : Nat) : Int) := by rw [IntWalk.i64_in _ (by omega)]; omega
                    have i1 : IntKind.i64.wrap ((t.l : Int) + 1) = ((t.l + 1 : Nat) : Int) := by rw [IntWalk.i64_in _ (by omega)]; omega
                    have i2 : IntKind.i64.wrap ((t.r : Int) + 1) = ((t.r + 1 : Nat) : Int) := by rw [IntWalk.i64_in _ (by omega)]; omega
                    rcases hk with rfl | rfl | rfl | rfl
                    · have HN := Lib.hid (set_blk hXk 0 (.int .i64 ((t.b + 1 : Nat) : Int)))
                      simp only [show (0 : Int).toNat = 0 from rfl, incT] at c0 c1 c2
                      clear hXk hbk
                      go_wp2_with fail
                      exact ⟨⟨1, .inr (.inl rfl), by go_num, HN.out, HBK.out.setCell (p := ⟨U.heap.size, 0, none⟩) (Nat.le_refl _) _⟩, by simp [intOf]⟩
                    · have HN := Lib.hid (set_blk hXk 1 (.int .i64 ((t.l + 1 : Nat) : Int)))
                      simp only [show (1 : Int).toNat = 1 from rfl, incT] at c0 c1 c2
                      clear hXk hbk
                      go_wp2_with fail
                      exact ⟨⟨2, .inr (.inr (.inl rfl)), by go_num, HN.out, HBK.out.setCell (p := ⟨U.heap.size, 1, none⟩) (Nat.le_refl _) _⟩, by simp [intOf]⟩
                    · have HN := Lib.hid (set_blk hXk 2 (.int .i64 ((t.r + 1 : Nat) : Int)))
                      simp only [show (2 : Int).toNat = 2 from rfl, incT] at c0 c1 c2
                      clear hXk hbk
                      go_wp2_with fail
                      exact ⟨⟨3, .inr (.inr (.inr rfl)), by go_num, HN.out, HBK.out.setCell (p := ⟨U.heap.size, 2, none⟩) (Nat.le_refl _) _⟩, by simp [intOf]⟩
                    · have HXK := Lib.hid hXk
                      have C0 := Lib.hid c0
                      clear hXk hbk c0 c1 c2 f0 f1 f2
                      go_wp2_with fail
                      refine ⟨⟨t.up, HIN2.out, hl1, (by show t.l + 1 ≤ _; omega), (by show t.r + 1 ≤ _; omega), HXK.out, HBK.out⟩, ?_⟩
                      have q0 := (c3_of HXX.out).1
                      simp [C0.out, q0, intOf, incT, T3.up]
                      omega
                | false =>
                  have hAt : anc P Q t.b ≠ some t := of_decide_eq_false HD.out.symm
                  obtain ⟨hlt4, hout4⟩ := (HDN t HIN.out hAt).out
                  have HOUT4 := Lib.hid hout4
                  have hst4 := HST2.out.up HB4.out
                  obtain ⟨j0, j1, j2, -, -, -⟩ := c3_of HX4.out
                  obtain ⟨k0, k1, k2, f0, f1, f2⟩ := c3_of hst4.b10
                  obtain ⟨a6, c6, e6, ho⟩ := hst4.b6
                  obtain ⟨q6, g6⟩ := c1_of e6
                  have hXlt := lt_of_block HX4.out
                  have h6lt := lt_of_block e6
                  have h10lt := lt_of_block hst4.b10
                  have HLT := Lib.hid (fun (g : Nat) (hg : (Value.slice a6 C2.length c6).ownBlock = some g) => by
                    obtain ⟨a7, c7, e7, ho7⟩ := HST2.out.b6
                    have e8 := (HB4.out.block (w.heap.size + 1) (lt_of_block e7)).trans e7
                    rw [e6] at e8
                    cases e8
                    exact (World.ownsRow.lt ho7 g hg).2)
                  have HO := Lib.hid ho
                  have HE6 := Lib.hid e6
                  have HST4 := Lib.hid hst4
                  have HKP4 := Lib.hid (fun k (g1 : k < V.heap.size) (g2 : k ≠ w.heap.size + 1) => (HB4.out.block k (by omega)).trans (HKP2.out k g1 g2))
                  have HB5 := Lib.hid (below_via HB2.out HB4.out)
                  clear hAt hout4 hst4 e6 ho
                  go_upto_region 17 with fail
                  go_cut [] (fun wx => OfSt (V.heap.size + 1) (w.heap.size + 1) V.heap.size (C2 ++ [⟨true, a, t⟩]) a wx ∧ wx.heap[U.heap.size]? = some (.cells #[.int .i64 t.b, .int .i64 t.l, .int .i64 t.r] 70 (0, 0)) ∧ (∀ k, k < V.heap.size → k ≠ w.heap.size + 1 → wx.heap[k]? = V.heap[k]?) ∧ Below w.heap.size w wx)
                  case first =>
                    go_region_law (first
                      | (refine st_append (s := .tmp 76) (x := .tmp 80) rfl rfl (hrun _) ?_; clear hrun)
                      | (go_simp; go_at_call 39; refine (chunk_c _ true a t).mono ?_; rintro e w2 ⟨rfl, hb2⟩
                         have hb : Below W4.heap.size W4 w2 := below_of_drew hb2
                         have hbs := hb.size
                         obtain ⟨a', c', W', hrun, hoz, h6', h10', hT', hs', hk', hbz⟩ : ∃ (a' : Option Addr) (c' : Nat) (W' : World), (∀ ty, (Builtin.append_ #[44, 44] ty #[.slice a6 C2.length c6, .slice (some ⟨w2.heap.size, 0, none⟩) 1 1]).run Tryd.prog (w2.alloc (.cells #[.bool true, .int .i64 a.b, .int .i64 t.b, .int .i64 a.l, .int .i64 t.l, .int .i64 a.r, .int .i64 t.r] 49)) = .ok (.slice a' (C2 ++ [Ck.mk true a t]).length c') W') ∧
                             OwnCk W' (V.heap.size + 1) (.slice a' (C2 ++ [Ck.mk true a t]).length c') (C2 ++ [Ck.mk true a t]) ∧ W'.heap[w.heap.size + 1]? = some (.cells #[.slice a6 C2.length c6] 44 (0, 0)) ∧ W'.heap[V.heap.size]? = some (.cells #[.int .i64 a.b, .int .i64 a.l, .int .i64 a.r] 70 (0, 0)) ∧ W'.heap[U.heap.size]? = some (.cells #[.int .i64 t.b, .int .i64 t.l, .int .i64 t.r] 70 (0, 0)) ∧ V.heap.size + 1 ≤ W'.heap.size ∧ (∀ k, k < V.heap.size + 1 → W'.heap[k]? = W4.heap[k]?) ∧ Below (V.heap.size + 1) W4 W' := by
                           have hlit : SlE Ck.enc 7 (w2.alloc (.cells #[.bool true, .int .i64 a.b, .int .i64 t.b, .int .i64 a.l, .int .i64 t.l, .int .i64 a.r, .int .i64 t.r] 49)) w2.heap.size (w2.heap.size + 1) (some ⟨w2.heap.size, 0, none⟩) [Ck.mk true a t] := lit_sl (enc := Ck.enc) (size := 7) (l := [Ck.mk true a t]) (t := 49) (fr := (0, 0)) Ck.enc_len (heap_alloc_new _ _)
                           have hbl := (Below.refl w2.heap.size w2).alloc (Nat.le_refl _) (.cells #[.bool true, .int .i64 a.b, .int .i64 t.b, .int .i64 a.l, .int .i64 t.l, .int .i64 a.r, .int .i64 t.r] 49)
                           have how := own_below (own_below HO.out hb) hbl
                           obtain ⟨v', W', hrun, hown', hgr, -⟩ := app_ck (m := [Ck.mk true a t]) (c := 1) how hlit (by simp; omega) (by simp; omega)
                           obtain ⟨a', c', rfl⟩ := own_formCk hown'
                           have hall := below_via hb hbl
                           have hkk : ∀ k, k < W4.heap.size → (∀ g, (Value.slice a6 C2.length c6).ownBlock = some g → k ≠ g) → W'.heap[k]? = W4.heap[k]? := fun k h1 h2 => (hgr.block k (by simp; omega) (fun e => h2 k e.symm rfl)).trans (hall.block k h1)
                           have hlow : ∀ k, k < V.heap.size + 1 → W'.heap[k]? = W4.heap[k]? := fun k h1 => hkk k (by omega) fun g hg => by have := (World.ownsRow.lt HO.out g hg).1; omega
                           have hT : W'.heap[U.heap.size]? = W4.heap[U.heap.size]? := hkk U.heap.size hXlt fun g hg => by have := HLT.out g hg; omega
                           exact ⟨a', c', W', hrun, hown', (hlow _ (by omega)).trans HE6.out, (hlow V.heap.size (by omega)).trans HST4.out.b10, hT.trans HX4.out, by have := hgr.size; simp at this; omega, hlow, (hall.mono (by omega)).grown hgr (by simp; omega) (fun q hq => (World.ownsRow.lt HO.out q hq).1)⟩
                         obtain ⟨r6, s6⟩ := c1_of h6'
                         have m6 := (hb.cell (p := ⟨w.heap.size + 1, 0, none⟩) (by show w.heap.size + 1 < _; omega)).trans q6
                         have n6w : w.heap.size + 1 < w2.heap.size := by omega))
                    all_goals
                      go_wp2_with fail
                      go_meet
                      have hh := OfSt.set6 (C := C2 ++ [Ck.mk true a t]) v6 (Nat.lt_succ_self _) h6' h10' hoz hs'
                      rw [show (C2 ++ [Ck.mk true a t]).length = C2.length + 1 by simp] at hh
                      refine ⟨hh, (Below.heap_setCell _ _ _ U.heap.size (by show U.heap.size ≠ w.heap.size + 1; omega)).trans hT', fun k g1 g2 => (Below.heap_setCell _ _ _ k g2).trans ((hk' k (by omega)).trans (HKP4.out k g1 g2)), ?_⟩
                      exact (HB5.out.trans (hbz.mono (by omega))).setCell (p := ⟨w.heap.size + 1, 0, none⟩) (Nat.le_succ _) _
                  case rest =>
                    obtain ⟨hst5, hX5, hkp5, hb5⟩ := hcut
                    obtain ⟨y0, y1, y2, -, -, -⟩ := c3_of hX5
                    obtain ⟨z0, z1, z2, g0, g1, g2⟩ := c3_of hst5.b10
                    have HST5 := Lib.hid hst5
                    have HKP5 := Lib.hid hkp5
                    have HB6 := Lib.hid hb5
                    have w1x : IntKind.i64.wrap ((t.b : Int) - 1) = ((t.b - 1 : Nat) : Int) := by rw [IntWalk.i64_in _ (by omega)]; omega
                    have w2x : IntKind.i64.wrap (((t.b - 1 : Nat) : Int) + 1) = (t.b : Int) := by rw [IntWalk.i64_in _ (by omega)]; omega
                    clear hst5 hX5 hkp5 hb5 j0 j1 j2 k0 k1 k2 f0 f1 f2 q6 g6
                    go_upto_region 18 with fail
                    go_region
                    all_goals
                      go_wp2_with fail
                      refine ⟨⟨t.b, C2 ++ [⟨true, a, t⟩], t, htb, by go_num, HOUT4.out, (HST5.out.at_ v6 (Nat.lt_succ_self _) t).up (Below.refl _ _).drew, fun k g1 g2 => (put3_blk (t := t) (by omega)).trans (HKP5.out k g1 g2), (put3_below (t := t) HB6.out (by omega)).drew⟩, by simp [intOf]; omega⟩
      · obtain rfl : i = x.l.length := by omega
        have hge : ¬ (x.l.length : Int) < (x.l.length : Int) := by omega
        have hBT := between_c wr (V.heap.size + 1) (w.heap.size + 1) V.heap.size C at_ ⟨x.l.length, y.l.length, z.l.length⟩ HST.out v6 (Nat.lt_succ_self _) (by omega)
        have hC3 := HOU.out.done ⟨x.l.length, y.l.length, z.l.length⟩
        have hgl := gap_len at_ ⟨x.l.length, y.l.length, z.l.length⟩
        have hC3l : (C ++ gapC at_ ⟨x.l.length, y.l.length, z.l.length⟩).length ≤ 2097153 := by rw [List.length_append]; omega
        obtain ⟨C3, hC3e⟩ : ∃ C3, C3 = C ++ gapC at_ ⟨x.l.length, y.l.length, z.l.length⟩ := ⟨_, rfl⟩
        rw [← hC3e] at hBT hC3 hC3l
        have HBT := Lib.hid hBT
        have HC3 := Lib.hid hC3
        clear hBT hC3 hC3e rl rr
        go_wp2_with (first
          | (go_at_call 38; refine HBT.out.mono ?_; rintro e w2 ⟨rfl, hst2, hk2, hb2⟩
             obtain ⟨a6, c6, e6, ho⟩ := hst2.b6
             obtain ⟨q6, g6⟩ := c1_of e6
             have hcap := own_cap ho rfl
             have HO := Lib.hid ho
             have HE6 := Lib.hid e6
             have HB2 := Lib.hid (HBR.out.trans (hb2.mono (Nat.le_succ _)))
             have h6lt := lt_of_block e6
             clear hst2 e6 ho hk2 hb2)
          | (go_at_call 40; refine (clip_ck _ _ _ _ hcap).mono ?_; rintro e w5 ⟨rfl, rfl⟩))
        have hcf := World.cell?_setCell_same w2 ⟨w.heap.size + 1, 0, none⟩ (.slice a6 C3.length C3.length) q6
        refine bodyPost_ret (v := .slice a6 C3.length C3.length) (by simp [results, Tryd.results23, go_sem, hcf]) rfl ⟨P, Q, C3, a6, c6, HEP.out, HEQ.out, HC3.out, hC3l, rfl, ?_, HB2.out.setCell (p := ⟨w.heap.size + 1, 0, none⟩) (Nat.le_succ _) _⟩
        exact World.ownsRow.mono (own_keep HO.out fun g hg => Below.heap_setCell _ _ _ g (by have := (World.ownsRow.lt HO.out g hg).1; show g ≠ w.heap.size + 1; omega)) (by omega)
end Go.Proofs.YtjihepdjcbpgoaaDoor
