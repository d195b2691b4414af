/-
  inarchlaw23.ChunksCover answers true. Conditions: the lists lie in memory, lengths and weights are bounded; strconv's table of powers holds what its initialiser lays.
-/
import Derived.Test.YtjihepdjcbpgoaaDoorCG
namespace Go.Proofs.YtjihepdjcbpgoaaDoor
open Go.RowKit Go.Sort

theorem ck_cells {w : World} {lo hi : Nat} {a : Option Addr} {C : List Ck} (h : SlE Ck.enc 7 w lo hi a C) {k : Nat} {c : Ck} (hk : C[k]? = some c) :
    ∃ b off, a = some ⟨b, off, none⟩ ∧ b < w.heap.size ∧ ∀ W : World, W.heap[b]? = w.heap[b]? → W.cell? ⟨b, off + k * 7, none⟩ = some (.bool c.st) ∧ W.cell? ⟨b, off + k * 7 + 1, none⟩ = some (.int .i64 c.f.b) ∧ W.cell? ⟨b, off + k * 7 + 2, none⟩ = some (.int .i64 c.t.b) ∧ W.cell? ⟨b, off + k * 7 + 3, none⟩ = some (.int .i64 c.f.l) ∧ W.cell? ⟨b, off + k * 7 + 4, none⟩ = some (.int .i64 c.t.l) ∧ W.cell? ⟨b, off + k * 7 + 5, none⟩ = some (.int .i64 c.f.r) ∧ W.cell? ⟨b, off + k * 7 + 6, none⟩ = some (.int .i64 c.t.r) := by
  have hl : k < C.length := (List.getElem?_eq_some_iff.1 hk).1
  obtain ⟨b, off, e, g1, g2, g3, g4⟩ := h (by omega)
  refine ⟨b, off, e, g3, fun W hW => ?_⟩
  have q := fun (j : Nat) (u : Value) (hu : c.enc[j]? = some u) => (World.cell?_of_block (a := ⟨b, off + k * 7 + j, none⟩) hW).trans (g4 k c hk j u hu)
  exact ⟨q 0 _ rfl, q 1 _ rfl, q 2 _ rfl, q 3 _ rfl, q 4 _ rfl, q 5 _ rfl, q 6 _ rfl⟩
def put7 (W : World) (B : Nat) (c : Ck) : World := ((((((W.setCell ⟨B, 0, none⟩ (.bool c.st)).setCell ⟨B, 1, none⟩ (.int .i64 c.f.b)).setCell ⟨B, 2, none⟩ (.int .i64 c.t.b)).setCell ⟨B, 3, none⟩ (.int .i64 c.f.l)).setCell ⟨B, 4, none⟩ (.int .i64 c.t.l)).setCell ⟨B, 5, none⟩ (.int .i64 c.f.r)).setCell ⟨B, 6, none⟩ (.int .i64 c.t.r)
abbrev ckO (c : Ck) : Obj := .cells #[.bool c.st, .int .i64 c.f.b, .int .i64 c.t.b, .int .i64 c.f.l, .int .i64 c.t.l, .int .i64 c.f.r, .int .i64 c.t.r] 49
theorem s7_0 {W : World} {B : Nat} {b0 b1 b2 b3 b4 b5 b6 : Value} {T : TypeId} (v : Value) (h : W.heap[B]? = some (.cells #[b0, b1, b2, b3, b4, b5, b6] T (0, 0))) : (W.setCell ⟨B, 0, none⟩ v).heap[B]? = some (.cells #[v, b1, b2, b3, b4, b5, b6] T (0, 0)) := set_blk h 0 v
theorem s7_1 {W : World} {B : Nat} {b0 b1 b2 b3 b4 b5 b6 : Value} {T : TypeId} (v : Value) (h : W.heap[B]? = some (.cells #[b0, b1, b2, b3, b4, b5, b6] T (0, 0))) : (W.setCell ⟨B, 1, none⟩ v).heap[B]? = some (.cells #[b0, v, b2, b3, b4, b5, b6] T (0, 0)) := set_blk h 1 v
theorem s7_2 {W : World} {B : Nat} {b0 b1 b2 b3 b4 b5 b6 : Value} {T : TypeId} (v : Value) (h : W.heap[B]? = some (.cells #[b0, b1, b2, b3, b4, b5, b6] T (0, 0))) : (W.setCell ⟨B, 2, none⟩ v).heap[B]? = some (.cells #[b0, b1, v, b3, b4, b5, b6] T (0, 0)) := set_blk h 2 v
theorem s7_3 {W : World} {B : Nat} {b0 b1 b2 b3 b4 b5 b6 : Value} {T : TypeId} (v : Value) (h : W.heap[B]? = some (.cells #[b0, b1, b2, b3, b4, b5, b6] T (0, 0))) : (W.setCell ⟨B, 3, none⟩ v).heap[B]? = some (.cells #[b0, b1, b2, v, b4, b5, b6] T (0, 0)) := set_blk h 3 v
theorem s7_4 {W : World} {B : Nat} {b0 b1 b2 b3 b4 b5 b6 : Value} {T : TypeId} (v : Value) (h : W.heap[B]? = some (.cells #[b0, b1, b2, b3, b4, b5, b6] T (0, 0))) : (W.setCell ⟨B, 4, none⟩ v).heap[B]? = some (.cells #[b0, b1, b2, b3, v, b5, b6] T (0, 0)) := set_blk h 4 v
theorem s7_5 {W : World} {B : Nat} {b0 b1 b2 b3 b4 b5 b6 : Value} {T : TypeId} (v : Value) (h : W.heap[B]? = some (.cells #[b0, b1, b2, b3, b4, b5, b6] T (0, 0))) : (W.setCell ⟨B, 5, none⟩ v).heap[B]? = some (.cells #[b0, b1, b2, b3, b4, v, b6] T (0, 0)) := set_blk h 5 v
theorem s7_6 {W : World} {B : Nat} {b0 b1 b2 b3 b4 b5 b6 : Value} {T : TypeId} (v : Value) (h : W.heap[B]? = some (.cells #[b0, b1, b2, b3, b4, b5, b6] T (0, 0))) : (W.setCell ⟨B, 6, none⟩ v).heap[B]? = some (.cells #[b0, b1, b2, b3, b4, b5, v] T (0, 0)) := set_blk h 6 v
theorem put7_at {W : World} {B : Nat} {l c : Ck} (h : W.heap[B]? = some (ckO l)) : (put7 W B c).heap[B]? = some (ckO c) :=
  s7_6 _ (s7_5 _ (s7_4 _ (s7_3 _ (s7_2 _ (s7_1 _ (s7_0 _ h))))))
theorem put7_below {w0 W : World} {B N : Nat} {c : Ck} (hb : Below N w0 W) (h : N ≤ B) : Below N w0 (put7 W B c) :=
  ((((((hb.setCell (p := ⟨B, 0, none⟩) h _).setCell (p := ⟨B, 1, none⟩) h _).setCell (p := ⟨B, 2, none⟩) h _).setCell (p := ⟨B, 3, none⟩) h _).setCell (p := ⟨B, 4, none⟩) h _).setCell (p := ⟨B, 5, none⟩) h _).setCell (p := ⟨B, 6, none⟩) h _
theorem c7_of {W : World} {B : Nat} {c : Ck} (h : W.heap[B]? = some (ckO c)) :
    (W.cell? ⟨B, 0, none⟩ = some (.bool c.st) ∧ W.cell? ⟨B, 1, none⟩ = some (.int .i64 c.f.b) ∧ W.cell? ⟨B, 2, none⟩ = some (.int .i64 c.t.b) ∧ W.cell? ⟨B, 3, none⟩ = some (.int .i64 c.f.l) ∧ W.cell? ⟨B, 4, none⟩ = some (.int .i64 c.t.l) ∧ W.cell? ⟨B, 5, none⟩ = some (.int .i64 c.f.r) ∧ W.cell? ⟨B, 6, none⟩ = some (.int .i64 c.t.r)) ∧ ∀ j, W.frozen? ⟨B, j, none⟩ = false :=
  ⟨⟨(Go.Joins.cell_of_block h 0).trans rfl, (Go.Joins.cell_of_block h 1).trans rfl, (Go.Joins.cell_of_block h 2).trans rfl, (Go.Joins.cell_of_block h 3).trans rfl, (Go.Joins.cell_of_block h 4).trans rfl, (Go.Joins.cell_of_block h 5).trans rfl, (Go.Joins.cell_of_block h 6).trans rfl⟩, fun j => by simp [World.frozen?, h]⟩
theorem neq_ck (w : World) (c : Ck) : (binOp .neq 49 c.val c.val).run Tryd.prog w = .ok (.bool false) w := by
  rw [run_neq_struct]
  simp [go_sem]
/-- What one stable chunk says of its elements. -/
theorem stable_at {x y z : LA} {P Q : List (Nat × Nat)} (heP : Early (labs 0 x.v) (labs 1 y.v) 0 0 P) (heQ : Early (labs 0 x.v) (labs 1 z.v) 0 0 Q) {f : T3} {n k : Nat} (h : ∀ k, k < n → anc P Q (f.b + k) = some (f.plus k)) (hk : k < n) :
    ∃ u v r : AV, x.l[f.b + k]? = some u ∧ y.l[f.l + k]? = some v ∧ z.l[f.r + k]? = some r ∧ sameV u.v v.v = true ∧ sameV u.v r.v = true := by
  obtain ⟨-, h1, h2⟩ := anc_some.1 (h k hk)
  obtain ⟨u, v, g1, g2, g3⟩ := part_same heP h1
  obtain ⟨u', r, g4, g5, g6⟩ := part_same heQ h2
  rw [g1] at g4
  cases g4
  exact ⟨u, v, r, g1, g2, g5, g3, g6⟩
set_option maxRecDepth 100000 in
set_option maxHeartbeats 12800000 in
theorem cover (w : World) (x y z : LA) (hx : x.Rd w) (hy : y.Rd w) (hz : z.Rd w) (hP : Pow w) :
    Calls Tryd.prog 7 #[.slice x.a x.l.length x.c, .slice y.a y.l.length y.c, .slice z.a z.l.length z.c] w (Ret (.bool true) w) := by
  have hxl := hx.len
  have hyl := hy.len
  have hzl := hz.len
  have HLV := fun W (h : Below w.heap.size w W) => Lib.hid (lives23_c W (hP.below h))
  have HO1 := fun W (h : Below w.heap.size w W) => Lib.hid (of_c W x y z (hx.up h) (hy.up h) (hz.up h) (hP.below h))
  have HO2 := fun W (h : Below w.heap.size w W) => Lib.hid (of_c W x z y (hx.up h) (hz.up h) (hy.up h) (hP.below h))
  have HS1 := fun (u v : AV) (hu : u ∈ x.l) (hv : v ∈ y.l) W (h : Below w.heap.size w W) => Lib.hid (same_c u v W ((hx.kids u hu).1.up h) ((hy.kids v hv).1.up h) (hx.kids u hu).2 (hy.kids v hv).2)
  have HS2 := fun (u v : AV) (hu : u ∈ x.l) (hv : v ∈ z.l) W (h : Below w.heap.size w W) => Lib.hid (same_c u v W ((hx.kids u hu).1.up h) ((hz.kids v hv).1.up h) (hx.kids u hu).2 (hz.kids v hv).2)
  have hba := (Below.refl w.heap.size w).alloc (Nat.le_refl _) (.cells #[.slice x.a x.l.length x.c, .slice y.a y.l.length y.c, .slice z.a z.l.length z.c] 22)
  have HG := Lib.hid (show Calls Tryd.prog 21 #[.slice (some ⟨w.heap.size, 0, none⟩) 3 3] _ (RetB _) from
    great23_c (w.alloc (.cells #[.slice x.a x.l.length x.c, .slice y.a y.l.length y.c, .slice z.a z.l.length z.c] 22)) (some ⟨w.heap.size, 0, none⟩) 3 [x, y, z] ((lit_sl (enc := LA.enc) (size := 1) (l := [x, y, z]) (t := 22) (fr := (0, 0)) (fun _ => rfl) (heap_alloc_new w _)).widen (Nat.zero_le _) (by simp)) (fun v hv => by
      simp only [List.mem_cons, List.not_mem_nil, or_false] at hv
      rcases hv with rfl | rfl | rfl
      · exact hx.up hba
      · exact hy.up hba
      · exact hz.up hba) (by simp))
  have HX := Lib.hid hx
  have HY := Lib.hid hy
  have HZ := Lib.hid hz
  have HBA := Lib.hid hba
  clear hx hy hz hP hba
  go_enter Tryd.func7, Tryd.ntmps7
  go_upto_if 19 with (
    go_at_call 21
    refine HG.out.mono ?_
    rintro e w1 ⟨r, rfl, hb1⟩
    have HB1 := Lib.hid (below_via HBA.out hb1)
    clear hb1
    cases r)
  · go_upto_region 6 with (first
      | (go_at_call 23; first
          | (have kq := k1; (with_reducible refine (HO2 _ HB3.out).out.mono ?_); rintro e w4 ⟨Q2, P2, C2, a2, cap2, heQ2, heP2, hC2, -, rfl, hown2, hb4⟩
             have hCt : C2 = C.map Ck.turn := by rw [hC2, early_one heQ2 HEQ.out, early_one heP2 HEP.out, HC.out]; exact chunks_round P Q _ _ _
             subst hCt
             rw [List.length_map]
             have HSU := Lib.hid ((own_sl Ck.enc_len hown2).widen (Nat.zero_le _) (Nat.le_refl _))
             have HB4 := Lib.hid (below_via HB3.out hb4)
             have HSC4 := Lib.hid ((HSC.out.up hb3).up hb4)
             have HST4 := Lib.hid (HST.out.up hb4)
             clear heQ2 heP2 hC2 hown2 hb4)
          | ((with_reducible refine (HO1 _ HB1.out).out.mono ?_); rintro e w2 ⟨P, Q, C, a, cap, heP, heQ, hC, hCl, rfl, hown, hb2⟩
             have HEP := Lib.hid heP
             have HEQ := Lib.hid heQ
             have HC := Lib.hid hC
             have HSC := Lib.hid ((own_sl Ck.enc_len hown).widen (Nat.zero_le _) (Nat.le_refl _))
             have HB2 := Lib.hid (below_via HB1.out hb2)
             have HTC := Lib.hid (turn_c w2 a cap _ C hown (by omega))
             clear heP heQ hC hown hb2))
      | (go_at_call 25; refine HTC.out.mono ?_; rintro e w3 ⟨a', cap', rfl, hownt, hb3⟩
         have HST := Lib.hid ((own_sl (l := C.map Ck.turn) Ck.enc_len hownt).widen (Nat.zero_le _) (Nat.le_refl _))
         have HB3 := Lib.hid (below_via HB2.out hb3)
         have k1 := trivial
         clear hownt))
    have hvx : x.v.length = x.l.length := List.length_map _
    have hvy : y.v.length = y.l.length := List.length_map _
    have hvz : z.v.length = z.l.length := List.length_map _
    obtain ⟨-, hPk⟩ := early_many HEP.out
    obtain ⟨-, hQk⟩ := early_many HEQ.out
    rw [hvx, hvy] at hPk
    rw [hvx, hvz] at hQk
    have hcv := chunks_cov (anc_ok (e := ⟨x.l.length, y.l.length, z.l.length⟩) (early_rise HEP.out) (early_rise HEQ.out) hPk hQk) x.l.length
    rw [← HC.out] at hcv
    have HCV := Lib.hid hcv
    clear hPk hQk hvx hvy hvz hcv HO1 HO2 HTC hb3
    go_wp2_with fail
    go_loopw [6, 11, 12, 13, 14] (fun _ s11 _ _ _ wr => ∃ (i : Nat) (last : Ck), i ≤ C.length ∧ s11 = .int .i64 i ∧ wr.heap[w4.heap.size]? = some (ckO last) ∧ Cov (anc P Q) ⟨x.l.length, y.l.length, z.l.length⟩ last (C.drop i) ∧ Below w4.heap.size w4 wr) (fun _ s11 _ _ _ _ => C.length - (intOf s11).toNat)
    case atStart => exact ⟨0, ⟨true, T3.zero, T3.zero⟩, Nat.zero_le _, by go_num, heap_alloc_new w4 _, HCV.out, (Below.refl _ _).alloc (Nat.le_refl _) _⟩
    case round =>
      obtain ⟨i, last, hi, rfl, hXB, hcov, hb⟩ := hrel
      obtain ⟨W5, hW5⟩ : ∃ W5, W5 = wr := ⟨_, rfl⟩
      subst hW5
      have HB5 := Lib.hid hb
      have HXB := Lib.hid hXB
      have hlX := lt_of_block hXB
      by_cases hlt : i < C.length
      · obtain ⟨c, hc⟩ : ∃ c, C[i]? = some c := ⟨_, List.getElem?_eq_getElem hlt⟩
        obtain ⟨h1, h2, h3, h4, h5⟩ := hcov.at_ hc
        have hle := h5.le
        obtain ⟨b1, o1, e1, g1, q1⟩ := ck_cells HSC4.out hc
        obtain ⟨b2, o2, e2, g2, q2⟩ := ck_cells HST4.out (k := i) (c := c.turn) (by rw [List.getElem?_map, hc]; rfl)
        obtain ⟨b3, o3, e3, g3, q3⟩ := ck_cells HSU.out (k := i) (c := c.turn) (by rw [List.getElem?_map, hc]; rfl)
        have hlt' : (i : Int) < (C.length : Int) := by omega
        have hi0 : (0 : Int) ≤ (i : Int) := by omega
        have hwi : IntKind.i64.wrap ((i : Int) + 1) = ((i + 1 : Nat) : Int) := by rw [IntWalk.i64_in _ (by omega)]; omega
        subst e1
        subst e2
        subst e3
        have H5 := Lib.hid h5
        obtain ⟨st, f, t⟩ := c
        obtain ⟨lst, lf, lt⟩ := last
        simp only at h1 h2 h3 h4 hle
        subst h1
        simp only [Ck.turn, T3.swap] at q1 q2 q3
        obtain ⟨x0, x1, x2, x3, x4, x5, x6⟩ := q1 W5 (hb.block b1 g1)
        have gb1 : b1 < W5.heap.size := Nat.lt_of_lt_of_le g1 hb.size
        obtain ⟨d1, d2, d3⟩ := h2
        obtain ⟨l1, l2, l3⟩ := hle
        simp only at l1 l2 l3
        clear hXB hcov hb hc h5
        go_upto_region 13 with fail
        have hba6 := (Below.refl W5.heap.size W5).alloc (Nat.le_refl _) (.cells #[.bool st, .int .i64 (f.b : Int), .int .i64 (t.b : Int), .int .i64 (f.l : Int), .int .i64 (t.l : Int), .int .i64 (f.r : Int), .int .i64 (t.r : Int)] 49)
        have e12 : (W5.alloc (.cells #[.bool st, .int .i64 (f.b : Int), .int .i64 (t.b : Int), .int .i64 (f.l : Int), .int .i64 (t.l : Int), .int .i64 (f.r : Int), .int .i64 (t.r : Int)] 49)).heap[W5.heap.size]? = some (ckO ⟨st, f, t⟩) := heap_alloc_new W5 _
        obtain ⟨W6, hW6⟩ : ∃ W6, W6 = W5.alloc (.cells #[.bool st, .int .i64 (f.b : Int), .int .i64 (t.b : Int), .int .i64 (f.l : Int), .int .i64 (t.l : Int), .int .i64 (f.r : Int), .int .i64 (t.r : Int)] 49) := ⟨_, rfl⟩
        rw [← hW6] at hba6 e12
        rw [← hW6]
        have hl12 := lt_of_block e12
        have hb46 := below_via HB5.out hba6
        have gb2 : b2 < W6.heap.size := Nat.lt_of_lt_of_le g2 hb46.size
        have gb3 : b3 < W6.heap.size := Nat.lt_of_lt_of_le g3 hb46.size
        have heq : ∀ W : World, (Op.equalIn 10000 49 (.agg #[.bool st, .int .i64 (f.b : Int), .int .i64 (t.b : Int), .int .i64 (f.r : Int), .int .i64 (t.r : Int), .int .i64 (f.l : Int), .int .i64 (t.l : Int)]) (.agg #[.bool st, .int .i64 (f.b : Int), .int .i64 (t.b : Int), .int .i64 (f.r : Int), .int .i64 (t.r : Int), .int .i64 (f.l : Int), .int .i64 (t.l : Int)])).run Tryd.prog W = .ok true W := fun W => (eqi_ck W ⟨st, f.swap, t.swap⟩ ⟨st, f.swap, t.swap⟩).trans (by rw [decide_eq_true rfl])
        have LD := Lib.hid (fun W (h : Below W6.heap.size W6 W) => And.intro (q2 W ((h.block b2 gb2).trans (hb46.block b2 g2))) (And.intro (q3 W ((h.block b3 gb3).trans (hb46.block b3 g3))) (And.intro (c7_of ((h.block W5.heap.size hl12).trans e12)).1 (heq W))))
        have E12 := Lib.hid e12
        have HBA6 := Lib.hid hba6
        have HB46 := Lib.hid hb46
        clear hW6 q1 q2 q3 x0 x1 x2 x3 x4 x5 x6 heq hba6 e12 hb46
        refine wp_region_bl (by kernel_rfl) (by kernel_rfl) ?_
        repeat (first | go_big_quiet_skip | (go_big_quiet_want; go_big_quiet_op; first | go_big_quiet_on | (refine ⟨_, fun _ _ => (by with_reducible rfl), ?_⟩; go_big_quiet_on) | (apply Exists.intro; refine ⟨fun w' hC => (by simp only [LD.out w' hC, Result.andThen]; exact ⟨trivial, rfl⟩), ?_⟩; go_big_quiet_on)))
        refine wpQuiet_nil ?_; intro wz hbz
        have hbs := hbz.size
        have E10 : wz.heap[w4.heap.size]? = some (ckO ⟨lst, lf, f⟩) := (hbz.block _ (by omega)).trans ((HBA6.out.block _ hlX).trans HXB.out)
        have E12z := (hbz.block W5.heap.size hl12).trans E12.out
        obtain ⟨⟨y0, y1, y2, y3, y4, y5, y6⟩, -⟩ := c7_of E10
        obtain ⟨⟨z0, z1, z2, z3, z4, z5, z6⟩, -⟩ := c7_of E12z
        simp only at y0 y1 y2 y3 y4 y5 y6 z0 z1 z2 z3 z4 z5 z6
        have HE10 := Lib.hid E10
        have HE12 := Lib.hid E12z
        have HBZ := Lib.hid (below_via HB46.out hbz)
        have k10 := lt_of_block E10
        have k12 := lt_of_block E12z
        have n1 : ¬ (t.b : Int) < (f.b : Int) := by omega
        have n2 : ¬ (t.l : Int) < (f.l : Int) := by omega
        have n3 : ¬ (t.r : Int) < (f.r : Int) := by omega
        clear E10 E12z hbz LD
        cases st with
        | false =>
          obtain ⟨hl, hne⟩ := h3 rfl
          subst hl
          have hne' := (T3.le_ne ⟨d1, d2, d3⟩).1 hne
          obtain ⟨mb, hmb⟩ : ∃ mb, mb = t.b - f.b := ⟨_, rfl⟩
          obtain ⟨m1, hm1⟩ : ∃ m1, m1 = mb + t.l := ⟨_, rfl⟩
          obtain ⟨m2, hm2⟩ : ∃ m2, m2 = m1 - f.l := ⟨_, rfl⟩
          obtain ⟨m3, hm3⟩ : ∃ m3, m3 = m2 + t.r := ⟨_, rfl⟩
          obtain ⟨m4, hm4⟩ : ∃ m4, m4 = m3 - f.r := ⟨_, rfl⟩
          have v0 : IntKind.i64.wrap ((t.b : Int) - (f.b : Int)) = (mb : Int) := by rw [IntWalk.i64_in _ (by omega)]; omega
          have v1 : IntKind.i64.wrap ((mb : Int) + (t.l : Int)) = (m1 : Int) := by rw [IntWalk.i64_in _ (by omega)]; omega
          have v2 : IntKind.i64.wrap ((m1 : Int) - (f.l : Int)) = (m2 : Int) := by rw [IntWalk.i64_in _ (by omega)]; omega
          have v3 : IntKind.i64.wrap ((m2 : Int) + (t.r : Int)) = (m3 : Int) := by rw [IntWalk.i64_in _ (by omega)]; omega
          have v4 : IntKind.i64.wrap ((m3 : Int) - (f.r : Int)) = (m4 : Int) := by rw [IntWalk.i64_in _ (by omega)]; omega
          have v5 : ((m4 : Int) == 0) = false := beq_false_of_ne (by omega)
          have v6 : (m4 == 0) = false := beq_false_of_ne (by omega)
          clear hmb hm1 hm2 hm3 hm4 hne hne' h3 h4
          go_wp2_with fail
          go_loopw [6, 14] (fun _ s14 wi => s14 = .int .i64 0 ∧ Below wz.heap.size wz wi) (fun _ _ _ => 0)
          case atStart => exact ⟨by go_num, Below.refl _ _⟩
          case round =>
            clear y0 y1 y2 y3 y4 y5 y6 z0 z1 z2 z3 z4 z5 z6
            obtain ⟨rfl, hbi⟩ := hrel
            have e10 := (hbi.block _ k10).trans HE10.out
            have e12 := (hbi.block _ k12).trans HE12.out
            obtain ⟨⟨y0, y1, y2, y3, y4, y5, y6⟩, fy⟩ := c7_of e10
            obtain ⟨⟨z0, z1, z2, z3, z4, z5, z6⟩, -⟩ := c7_of e12
            have f0 := fy 0
            have f1 := fy 1
            have f2 := fy 2
            have f3 := fy 3
            have f4 := fy 4
            have f5 := fy 5
            have f6 := fy 6
            have HN := Lib.hid (put7_at (c := ⟨false, f, t⟩) e10)
            have HNB := Lib.hid (put7_below (c := ⟨false, f, t⟩) (below_via HBZ.out hbi) (Nat.le_refl _))
            clear hbi e10 e12 fy
            go_wp2_with fail
            exact ⟨⟨i + 1, ⟨false, f, t⟩, by omega, by go_num, HN.out, H5.out, HNB.out⟩, by simp [intOf]; omega⟩
        | true =>
          obtain ⟨n, hn0, ht, hA⟩ := h4 rfl
          have htb : t.b = f.b + n := by rw [ht]; rfl
          have htl : t.l = f.l + n := by rw [ht]; rfl
          have htr : t.r = f.r + n := by rw [ht]; rfl
          have v0 : IntKind.i64.wrap ((t.b : Int) - (f.b : Int)) = (n : Int) := by rw [IntWalk.i64_in _ (by omega)]; omega
          have v1 : IntKind.i64.wrap ((t.l : Int) - (f.l : Int)) = (n : Int) := by rw [IntWalk.i64_in _ (by omega)]; omega
          have v2 : IntKind.i64.wrap ((t.r : Int) - (f.r : Int)) = (n : Int) := by rw [IntWalk.i64_in _ (by omega)]; omega
          have v3 : ((n : Int) == 0) = false := beq_false_of_ne (by omega)
          have v4 : (n == 0) = false := beq_false_of_ne (by omega)
          have HTB := Lib.hid htb
          have HTL := Lib.hid htl
          have HTR := Lib.hid htr
          have HAA := Lib.hid hA
          clear htb htl htr ht hA h3 h4
          go_wp2_with fail
          go_loopw [6, 14] (fun _ s14 wi => ∃ k : Nat, k ≤ n ∧ s14 = .int .i64 k ∧ Below wz.heap.size wz wi) (fun _ s14 _ => n - (intOf s14).toNat)
          case atStart => exact ⟨0, Nat.zero_le _, by go_num, Below.refl _ _⟩
          case round =>
            clear y0 y1 y2 y3 y4 y5 y6 z0 z1 z2 z3 z4 z5 z6 v0 v1 v2 v3 v4
            obtain ⟨k, hk, rfl, hbi⟩ := hrel
            have e10 := (hbi.block _ k10).trans HE10.out
            have e12 := (hbi.block _ k12).trans HE12.out
            obtain ⟨⟨z0, z1, z2, z3, z4, z5, z6⟩, -⟩ := c7_of e12
            have k12i := lt_of_block e12
            have hwk : IntKind.i64.wrap ((k : Int) + 1) = ((k + 1 : Nat) : Int) := by have := HTB.out; rw [IntWalk.i64_in _ (by omega)]; omega
            by_cases hkn : k < n
            · have hkn' : (k : Int) < (n : Int) := by omega
              as_aux_lemma =>
                obtain ⟨u, v, r, gu, gv, gr, s1, s2⟩ := stable_at HEP.out HEQ.out HAA.out hkn
                have htb := HTB.out
                have htl := HTL.out
                have htr := HTR.out
                obtain ⟨ib, hib⟩ : ∃ ib, ib = f.b + k := ⟨_, rfl⟩
                obtain ⟨il, hil⟩ : ∃ il, il = f.l + k := ⟨_, rfl⟩
                obtain ⟨ir, hir⟩ : ∃ ir, ir = f.r + k := ⟨_, rfl⟩
                rw [← hib] at gu
                rw [← hil] at gv
                rw [← hir] at gr
                have w1' : IntKind.i64.wrap ((f.b : Int) + (k : Int)) = (ib : Int) := by rw [IntWalk.i64_in _ (by omega)]; omega
                have w2' : IntKind.i64.wrap ((f.l : Int) + (k : Int)) = (il : Int) := by rw [IntWalk.i64_in _ (by omega)]; omega
                have w3' : IntKind.i64.wrap ((f.r : Int) + (k : Int)) = (ir : Int) := by rw [IntWalk.i64_in _ (by omega)]; omega
                have c1 : decide ((x.l.length : Int) < (t.b : Int)) = false := decide_eq_false (by omega)
                have c2 : decide ((y.l.length : Int) < (t.l : Int)) = false := decide_eq_false (by omega)
                have c3 : decide ((z.l.length : Int) < (t.r : Int)) = false := decide_eq_false (by omega)
                have c4 : decide (x.l.length < t.b) = false := decide_eq_false (by omega)
                have c5 : decide (y.l.length < t.l) = false := decide_eq_false (by omega)
                have c6 : decide (z.l.length < t.r) = false := decide_eq_false (by omega)
                have b1' : (ib : Int) < (x.l.length : Int) := by omega
                have b2' : (il : Int) < (y.l.length : Int) := by omega
                have b3' : (ir : Int) < (z.l.length : Int) := by omega
                have b4' : (0 : Int) ≤ (ib : Int) := by omega
                have b5' : (0 : Int) ≤ (il : Int) := by omega
                have b6' : (0 : Int) ≤ (ir : Int) := by omega
                have hW := below_via HB4.out (below_via HBZ.out hbi)
                obtain ⟨bu, ou, hlu, -, -, hcu, u0, u1, u2, u3⟩ := vals_at HX.out.sl gu
                obtain ⟨bv, ov, hlv, -, -, hcv, p0, p1, p2, p3⟩ := vals_at HY.out.sl gv
                obtain ⟨br, or_, hlr, -, -, hcr, r0, r1, r2, r3⟩ := vals_at HZ.out.sl gr
                have hSa := HS1 u v (List.mem_of_getElem? gu) (List.mem_of_getElem? gv)
                have hSb := HS2 u r (List.mem_of_getElem? gu) (List.mem_of_getElem? gr)
                rw [s1] at hSa
                rw [s2] at hSb
                have HSA := fun W (h : Below wr.heap.size wr W) => hSa W (below_via hW h)
                have HSB := fun W (h : Below wr.heap.size wr W) => hSb W (below_via hW h)
                have UU := fun W (h : Below wr.heap.size wr W) => And.intro (((below_via hW h).cell (p := ⟨bu, ou + ib * 4, none⟩) hcu).trans u0) (And.intro (((below_via hW h).cell (p := ⟨bu, ou + ib * 4 + 1, none⟩) hcu).trans u1) (And.intro (((below_via hW h).cell (p := ⟨bu, ou + ib * 4 + 2, none⟩) hcu).trans u2) (((below_via hW h).cell (p := ⟨bu, ou + ib * 4 + 3, none⟩) hcu).trans u3)))
                have VV := fun W (h : Below wr.heap.size wr W) => And.intro (((below_via hW h).cell (p := ⟨bv, ov + il * 4, none⟩) hcv).trans p0) (And.intro (((below_via hW h).cell (p := ⟨bv, ov + il * 4 + 1, none⟩) hcv).trans p1) (And.intro (((below_via hW h).cell (p := ⟨bv, ov + il * 4 + 2, none⟩) hcv).trans p2) (((below_via hW h).cell (p := ⟨bv, ov + il * 4 + 3, none⟩) hcv).trans p3)))
                have RR := fun W (h : Below wr.heap.size wr W) => And.intro (((below_via hW h).cell (p := ⟨br, or_ + ir * 4, none⟩) hcr).trans r0) (And.intro (((below_via hW h).cell (p := ⟨br, or_ + ir * 4 + 1, none⟩) hcr).trans r1) (And.intro (((below_via hW h).cell (p := ⟨br, or_ + ir * 4 + 2, none⟩) hcr).trans r2) (((below_via hW h).cell (p := ⟨br, or_ + ir * 4 + 3, none⟩) hcr).trans r3)))
                have LD := Lib.hid (fun W (h : Below wr.heap.size wr W) => And.intro (c7_of ((h.block W5.heap.size k12i).trans e12)).1 (And.intro (UU W h) (And.intro (VV W h) (RR W h))))
                have HBI := Lib.hid hbi
                have HLU := Lib.hid hlu
                have HLV2 := Lib.hid hlv
                have HLR := Lib.hid hlr
                clear hbi hW u0 u1 u2 u3 p0 p1 p2 p3 r0 r1 r2 r3 UU VV RR hSa hSb gu gv gr e10 e12 hib hil hir htb htl htr hlu hlv hlr s1 s2 hcu hcv hcr
                rw [HLU.out, HLV2.out, HLR.out]
                go_upto_region 23 with fail
                clear z0 z1 z2 z3 z4 z5 z6
                refine wp_region_bl (by kernel_rfl) (by kernel_rfl) ?_
                repeat (first | go_big_quiet_skip | (go_big_quiet_want; go_big_quiet_op; first | go_big_quiet_on | (refine ⟨_, fun _ _ => (by with_reducible rfl), ?_⟩; go_big_quiet_on) | (apply Exists.intro; refine ⟨fun w' hC => (by simp only [LD.out w' hC, Result.andThen]; exact ⟨trivial, rfl⟩), ?_⟩; go_big_quiet_on) | (apply Exists.intro; refine ⟨fun w' hC => (by (with_reducible refine (HSA w' hC).out.mono ?_); exact fun e w2 ⟨he, hb⟩ => ⟨he, hC.trans (hb.mono hC.size)⟩), ?_⟩; go_big_quiet_on) | (apply Exists.intro; refine ⟨fun w' hC => (by (with_reducible refine (HSB w' hC).out.mono ?_); exact fun e w2 ⟨he, hb⟩ => ⟨he, hC.trans (hb.mono hC.size)⟩), ?_⟩; go_big_quiet_on)))
                refine wpQuiet_nil ?_; intro wz hbz
                go_wp2_with fail
                exact ⟨⟨k + 1, by omega, by go_num, below_via HBI.out hbz⟩, by simp [intOf]; omega⟩
            · have hkn' : ¬ (k : Int) < (n : Int) := by omega
              obtain ⟨⟨y0, y1, y2, y3, y4, y5, y6⟩, fy⟩ := c7_of e10
              have f0 := fy 0
              have f1 := fy 1
              have f2 := fy 2
              have f3 := fy 3
              have f4 := fy 4
              have f5 := fy 5
              have f6 := fy 6
              have HN := Lib.hid (put7_at (c := ⟨true, f, t⟩) e10)
              have HNB := Lib.hid (put7_below (c := ⟨true, f, t⟩) (below_via HBZ.out hbi) (Nat.le_refl _))
              clear hbi e10 e12 fy
              go_wp2_with fail
              exact ⟨⟨i + 1, ⟨true, f, t⟩, by omega, by go_num, HN.out, H5.out, HNB.out⟩, by simp [intOf]; omega⟩
      · obtain rfl : i = C.length := by omega
        have hge : ¬ (C.length : Int) < (C.length : Int) := by omega
        have hend := cov_end hcov (Nat.le_refl _)
        obtain ⟨lst, lf, lt⟩ := last
        simp only at hend
        subst hend
        obtain ⟨⟨x0, x1, x2, x3, x4, x5, x6⟩, -⟩ := c7_of hXB
        simp only at x2 x4 x6
        have HBW := Lib.hid (below_via HB4.out hb)
        clear hXB hcov hb
        go_wp2_with (go_at_call 22; refine (HLV _ HBW.out).out.mono ?_; rintro e w9 ⟨rfl, hb9⟩)
        go_ret
        exact ⟨rfl, below_via HBW.out hb9⟩
  · go_wp2_with (go_at_call 22; refine (HLV _ HB1.out).out.mono ?_; rintro e w5 ⟨rfl, hb5⟩)
    go_ret
    exact ⟨rfl, below_via HB1.out hb5⟩
end Go.Proofs.YtjihepdjcbpgoaaDoor
