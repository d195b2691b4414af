/-
  inarchlaw22.LcsAny answers true. Conditions: the lists lie in memory, lengths and weights are bounded; strconv's table of powers holds what its initialiser lays.
-/
import Derived.Test.YtjihepdjcbpgoaaDoorMT
import Derived.Test.YtjihepdjcbpgoaaDoorMJ
import Derived.Test.YtjihepdjcbpgoaaDoorTC
import Derived.Test.YtjihepdjcbpgoaaDoorRB
namespace Go.Proofs.YtjihepdjcbpgoaaDoor
open Go.RowKit Go.Sort

theorem rlong_eq (a b : List Val) : fT a b 0 0 = lcsL (labs 0 a) (labs 1 b) := by rw [fT, lcsT, List.drop_zero, List.drop_zero]
set_option maxRecDepth 100000 in
set_option maxHeartbeats 3200000 in
theorem rlong_c (w : World) (x y : LA) (hx : x.Rd w) (hy : y.Rd w) : Calls Tryd.prog 14 #[.slice x.a x.l.length x.c, .slice y.a y.l.length y.c] w (Ret (.int .i64 (lcsL (labs 0 x.v) (labs 1 y.v) : Nat)) w) := by
  have hxl := hx.len
  have hyl := hy.len
  have hvx : x.v.length = x.l.length := List.length_map _
  have hvy : y.v.length = y.l.length := List.length_map _
  have HVX := Lib.hid hvx
  have HVY := Lib.hid hvy
  have HTB := Lib.hid (table_c w x y hx hy)
  obtain ⟨n1, hn1⟩ : ∃ n1, n1 = x.v.length + 1 := ⟨_, rfl⟩
  obtain ⟨m1, hm1⟩ : ∃ m1, m1 = y.v.length + 1 := ⟨_, rfl⟩
  have hz1 : (0 : Int) < (n1 : Int) := by omega
  have hz2 : (0 : Int) < (m1 : Int) := by omega
  have HN1 := Lib.hid hn1
  have HM1 := Lib.hid hm1
  clear hx hy hvx hvy hn1 hm1
  go_enter Tryd.func14, Tryd.ntmps14
  go_wp2_with (first
    | (go_at_call 30; refine HTB.out.mono ?_; rintro e w1 ⟨A1, c1, R, rfl, hRl, hRo, hRw, hb1⟩
       have hRsl : SlE (rowE y.v.length) 1 w1 w.heap.size w1.heap.size A1 R := own_sl (rowE_len _) hRo
       have hE := ends_c w1 x.v y.v A1 c1 R hRl (hRsl.widen (Nat.zero_le _) (Nat.le_refl _)) hRw (by rw [HVX.out]; exact hxl) (by rw [HVY.out]; exact hyl)
       rw [show x.v.length = R.length from hRl.symm, HVY.out] at hE
       have HE := Lib.hid hE
       have HB1 := Lib.hid hb1
       clear hRl hRo hRw hb1 hRsl hE)
    | (go_at_call 31; refine HE.out.mono ?_; rintro e w2 ⟨rfl, htab⟩
       have t0 : w2.cell? ⟨w1.heap.size, 0, none⟩ = some (.slice (some ⟨w1.heap.size + 1 + (x.v.length - 0), 0, none⟩) m1 m1) := by
         have hh := htab.top.cell (j := 0) (by omega)
         rw [tabF, if_pos (Nat.zero_le _), ← HM1.out] at hh
         exact hh
       have t1 : w2.cell? ⟨w1.heap.size + 1 + (x.v.length - 0), 0, none⟩ = some (.int .i64 (fT x.v y.v 0 0 : Nat)) := (htab.rows 0 (Nat.zero_le _) (Nat.zero_le _)).cell (by omega)
       obtain ⟨B0, hB0⟩ : ∃ B0, B0 = w1.heap.size + 1 + (x.v.length - 0) := ⟨_, rfl⟩
       rw [← hB0] at t0 t1
       rw [rlong_eq] at t1
       rw [← HN1.out]
       have HB2 := Lib.hid (below_via HB1.out htab.below)
       clear hB0 htab))
  go_ret
  exact ⟨rfl, HB2.out⟩

theorem blk_cell {w : World} {g j : Nat} {cs : Array Value} {T : TypeId} (h : w.heap[g]? = some (.cells cs T (0, 0))) (hj : j < cs.size) : (∃ u, w.cell? ⟨g, j, none⟩ = some u) ∧ w.frozen? ⟨g, j, none⟩ = false := by
  constructor
  · simp only [World.cell?, h]
    exact ⟨cs[j], by simp [hj]⟩
  · simp [World.frozen?, h]
theorem blk_sets {w : World} {g j : Nat} {cs : Array Value} {T : TypeId} (v : Value) (h : w.heap[g]? = some (.cells cs T (0, 0))) : ∃ cs', (w.setCell ⟨g, j, none⟩ v).heap[g]? = some (.cells cs' T (0, 0)) ∧ cs'.size = cs.size :=
  ⟨_, set_blk h _ _, by simp⟩
theorem own_blkP {w : World} {base : Nat} {G n c : Nat} {P : List (Nat × Nat)} (h : OwnPr w base (.slice (some ⟨G, 0, none⟩) n c) P) : ∃ cs, w.heap[G]? = some (.cells cs 35 (0, 0)) ∧ P.length * 2 ≤ cs.size ∧ base ≤ G := by
  rcases h.2 with ⟨e, h0⟩ | ⟨g, cap, cur, e, h1, h2, h3, h4, h5, h6⟩
  · cases e
  · cases e
    exact ⟨cur, h2, by omega, h1⟩

/-- A row of the call's own, its elements twins apart from it. -/
def TTrees (base : Nat) (w : World) (u : LA) : Prop := OwnV w base (.slice u.a u.l.length u.c) u.l ∧ ∀ r ∈ u.l, ∃ lo hi, r.Tw w lo hi ∧ base ≤ lo ∧ hi ≤ w.heap.size ∧ ∀ q, (Value.slice u.a u.l.length u.c).ownBlock = some q → ¬ (lo ≤ q ∧ q < hi)
theorem ttrees_nil (base : Nat) (w : World) : TTrees base w ⟨none, [], 0⟩ := ⟨World.ownsRow_nil _ _ _ _, fun _r hr => absurd hr List.not_mem_nil⟩
theorem TTrees.tw {base : Nat} {w : World} {u : LA} (h : TTrees base w u) {r : AV} (hr : r ∈ u.l) : r.Tw w 0 w.heap.size := by
  obtain ⟨lo, hi, h2, h3, h4, -⟩ := h.2 r hr
  exact h2.widen (Nat.zero_le _) h4
theorem TTrees.rd {base : Nat} {w w0 : World} {u x : LA} (h : TTrees base w u) (he : u.v = x.v) (hx : x.Rd w0) : u.Rd w := by
  refine ⟨(own_sl AV.enc_len h.1).widen (Nat.zero_le _) (Nat.le_refl _), ?_, fun y hy => ⟨(h.tw hy).rd, ?_⟩⟩
  · have := congrArg List.length he
    rw [LA.v, LA.v, List.length_map, List.length_map] at this
    rw [this]; exact hx.len
  · have hm : y.v ∈ x.v := by rw [← he, LA.v]; exact List.mem_map_of_mem hy
    obtain ⟨z, hz, e⟩ := List.mem_map.1 hm
    have : y.w = z.w := by show y.v.w = z.v.w; rw [e]
    rw [this]; exact (hx.kids z hz).2
theorem ttrees_add {base : Nat} {w w2 : World} {u : LA} {z : AV} (ht : TTrees base w u) (hbase : base ≤ w.heap.size) (hb : Below w.heap.size w w2) (hz : z.Tw w2 w.heap.size w2.heap.size) (hl : u.l.length ≤ 1048576) :
    ∃ (u' : LA) (W' : World), (∀ ty, (Builtin.append_ #[22, 22] ty #[.slice u.a u.l.length u.c, .slice (some ⟨w2.heap.size, 0, none⟩) 1 1]).run Tryd.prog (w2.alloc (.cells #[.int .u8 z.k, .string z.t, .slice z.la z.l.length z.lc, .slice z.ka z.ks.length z.kc] 28)) = .ok (.slice u'.a u'.l.length u'.c) W') ∧
      u'.l = u.l ++ [z] ∧ TTrees base W' u' ∧ Below base w W' := by
  obtain ⟨ho, hk⟩ := ht
  have hsz := hb.size
  have hlit : SlE AV.enc 4 (w2.alloc (.cells #[.int .u8 z.k, .string z.t, .slice z.la z.l.length z.lc, .slice z.ka z.ks.length z.kc] 28)) w2.heap.size (w2.heap.size + 1) (some ⟨w2.heap.size, 0, none⟩) [z] := lit_sl (enc := AV.enc) (size := 4) (l := [z]) (t := 28) (fr := (0, 0)) AV.enc_len (heap_alloc_new _ _)
  obtain ⟨v', W', hrun, hown', hgr, hat⟩ := app_val (c := 1) (own_below (own_below ho hb) ((Below.refl _ _).alloc (Nat.le_refl _) _)) hlit (by simp; omega) (by simp; omega)
  obtain ⟨a', c', rfl⟩ := own_formV hown'
  have hgl : ∀ q, (Value.slice u.a u.l.length u.c).ownBlock = some q → base ≤ q ∧ q < w.heap.size := World.ownsRow.lt ho
  have hsz3 := hgr.size
  rw [World.size_alloc] at hsz3
  have hnew : ∀ q, (Value.slice a' (u.l ++ [z]).length c').ownBlock = some q → (Value.slice u.a u.l.length u.c).ownBlock = some q ∨ q = w2.heap.size + 1 := fun q hq => by
    rcases hat with e | e
    · exact .inl (e ▸ hq)
    · rw [hq, World.size_alloc] at e
      injection e with e
      exact .inr e
  have hblk : ∀ q, q < w2.heap.size → (∀ g, (Value.slice u.a u.l.length u.c).ownBlock = some g → q ≠ g) → W'.heap[q]? = w2.heap[q]? := fun q hq hne => by
    rw [hgr.block q (by rw [World.size_alloc]; omega) (fun e => hne q e.symm rfl), blk_o _ _ _ hq]
  have key : ∀ (r : AV) lo hi, r.Tw w2 lo hi → base ≤ lo → hi ≤ w2.heap.size → (∀ q, (Value.slice u.a u.l.length u.c).ownBlock = some q → ¬ (lo ≤ q ∧ q < hi)) → ∃ lo hi, r.Tw W' lo hi ∧ base ≤ lo ∧ hi ≤ W'.heap.size ∧ ∀ q, (Value.slice a' (u.l ++ [z]).length c').ownBlock = some q → ¬ (lo ≤ q ∧ q < hi) := by
    intro r lo hi h1 h2 h3 h4
    refine ⟨lo, hi, h1.kept (by omega) (fun q q1 q2 q3 => hblk q q3 fun g hg e => h4 g hg ⟨by omega, by omega⟩), h2, by omega, fun q hq hc => ?_⟩
    rcases hnew q hq with e | e
    · exact h4 q e hc
    · omega
  refine ⟨⟨a', u.l ++ [z], c'⟩, W', hrun, rfl, ⟨hown', fun r hr => ?_⟩, ((hb.mono hbase).trans ((Below.refl _ _).alloc (by omega) _)).grown hgr (by simp; omega) (fun q hq => (hgl q hq).1)⟩
  rcases List.mem_append.1 hr with hr | hr
  · obtain ⟨lo, hi, h1, h2, h3, h4⟩ := hk r hr
    exact key r lo hi (h1.blw hb h3) h2 (by omega) h4
  · simp at hr; subst hr
    exact key _ w.heap.size w2.heap.size hz hbase (Nat.le_refl _) fun q hq hc => by have := hgl q hq; omega
theorem TTrees.below {base : Nat} {w w' : World} {u : LA} (h : TTrees base w u) (hb : Below w.heap.size w w') : TTrees base w' u :=
  ⟨own_below h.1 hb, fun r hr => by
    obtain ⟨lo, hi, h1, h2, h3, h4⟩ := h.2 r hr
    exact ⟨lo, hi, h1.blw hb h3, h2, Nat.le_trans h3 hb.size, h4⟩⟩
set_option maxRecDepth 100000 in
set_option maxHeartbeats 3200000 in
theorem lcsany (w : World) (x y : LA) (hx : x.Rd w) (hy : y.Rd w) (hP : Pow w) :
    Calls Tryd.prog 3 #[.slice x.a x.l.length x.c, .slice y.a y.l.length y.c] w (Ret (.bool true) w) := by
  have hxl := hx.len
  have hyl := hy.len
  have HG1 := fun W (h : Below w.heap.size w W) => Lib.hid (great22_c W x (hx.up h))
  have HG2 := fun W (h : Below w.heap.size w W) => Lib.hid (great22_c W y (hy.up h))
  have HLV := fun W (h : Below w.heap.size w W) => Lib.hid (lives22_c W (hP.below h))
  have hvx : x.v.length = x.l.length := List.length_map _
  have hvy : y.v.length = y.l.length := List.length_map _
  have HVX := Lib.hid hvx
  have HVY := Lib.hid hvy
  have HX := Lib.hid hx
  have HY := Lib.hid hy
  have HP := Lib.hid hP
  clear hx hy hP hvx hvy
  go_enter Tryd.func3, Tryd.ntmps3
  go_upto_region 1 with fail
  go_cut [20] (fun s20 wx => ∃ r : Bool, s20 = .bool r ∧ Below w.heap.size w wx)
  case first =>
    go_wp2_with (go_at_call 8; first
      | ((with_reducible refine (HG1 _ (Below.refl _ _)).out.mono ?_); rintro e w1 ⟨r, rfl, hb1⟩
         have hbw1 := hb1
         cases r)
      | ((with_reducible refine (HG2 _ hbw1).out.mono ?_); rintro e w2 ⟨r, rfl, hb2⟩
         have hbw2 := below_via hbw1 hb2
         cases r))
    all_goals go_meet
    all_goals first
      | exact ⟨_, rfl, hbw2⟩
      | exact ⟨_, rfl, hbw1⟩
  case rest =>
    obtain ⟨r, rfl, hbw⟩ := hcut
    have HBW := Lib.hid hbw
    clear hbw HG1 HG2
    cases r with
    | true =>
      go_wp2_with (go_at_call 9; refine (HLV _ HBW.out).out.mono ?_; rintro e w5 ⟨rfl, hb5⟩)
      go_ret
      exact ⟨rfl, below_via HBW.out hb5⟩
    | false =>
      obtain ⟨W2, hW2⟩ : ∃ W, W = wc := ⟨_, rfl⟩
      subst hW2
      go_wp2_with fail
      go_loopw [5, 7] (fun s5 s7 wr => ∃ (i : Nat) (u : LA), i ≤ x.l.length ∧ s7 = .int .i64 i ∧ s5 = .slice u.a u.l.length u.c ∧ u.v = x.v.take i ∧ TTrees W2.heap.size wr u ∧ Below W2.heap.size W2 wr) (fun _ s7 _ => x.l.length - (intOf s7).toNat)
      case atStart => exact ⟨0, ⟨none, [], 0⟩, Nat.zero_le _, by go_num, rfl, rfl, ttrees_nil _ _, Below.refl _ _⟩
      case round =>
        obtain ⟨i, u, hi, rfl, rfl, huv, htr, hbr⟩ := hrel
        have hul : u.l.length = i := by
          have := congrArg List.length huv
          rw [LA.v, List.length_map, List.length_take, HVX.out] at this
          omega
        have HUL := Lib.hid hul
        have HUV := Lib.hid huv
        have HTR := Lib.hid htr
        have HBR := Lib.hid hbr
        have hsr := hbr.size
        clear hul huv htr hbr
        by_cases hlt : i < x.l.length
        · have hlt' : (i : Int) < (x.l.length : Int) := by omega
          have hi0 : (0 : Int) ≤ (i : Int) := by omega
          have hwi : IntKind.i64.wrap ((i : Int) + 1) = ((i + 1 : Nat) : Int) := by rw [IntWalk.i64_in _ (by omega)]; omega
          have hk : x.l[i]? = some x.l[i] := List.getElem?_eq_getElem hlt
          have hmem : x.l[i] ∈ x.l := List.getElem_mem hlt
          have htk : x.v.take (i + 1) = x.v.take i ++ [x.l[i].v] := by rw [List.take_add_one, LA.v, List.getElem?_map, hk]; rfl
          generalize x.l[i] = t at *
          have hbw : Below w.heap.size w wr := below_via HBW.out HBR.out
          obtain ⟨b, off, hla, -, -, hb2, c0, c1, c2, c3⟩ := vals_at (HX.out.up hbw).sl hk
          have htr := (HX.out.up hbw).kids t hmem
          have HT := Lib.hid (twin14_c t wr htr.1 htr.2)
          have HTK := Lib.hid htk
          have HLA := Lib.hid hla
          clear hk hmem htk hbw htr hla
          rw [HLA.out]
          go_wp2_with (first
            | (go_at_call 10; refine HT.out.mono ?_; rintro e w2 ⟨z, rfl, hzv, hzt, hb2'⟩
               obtain ⟨u', W', hrun, hul', htr', hbl'⟩ := ttrees_add HTR.out hsr hb2' hzt (by have := HUL.out; omega)
               have HU' := Lib.hid hul'
               have HT' := Lib.hid htr'
               have HB' := Lib.hid hbl'
               have HZ := Lib.hid hzv
               clear hul' htr' hbl' hzv hzt hb2')
            | (at_builtin; refine wl_append (s := .tmp 28) (x := .tmp 34) rfl rfl (hrun _) ?_; clear hrun))
          exact ⟨⟨i + 1, u', by omega, by go_num, rfl, by rw [LA.v, HU'.out, List.map_append, HTK.out, ← HUV.out, List.map_singleton, HZ.out]; rfl, HT'.out, HBR.out.trans HB'.out⟩, by simp [intOf]; omega⟩
        · obtain rfl : i = x.l.length := by omega
          have hge : ¬ (x.l.length : Int) < (x.l.length : Int) := by omega
          have huv : u.v = x.v := by rw [HUV.out, ← HVX.out, List.take_length]
          have HU := Lib.hid huv
          have HBW5 := Lib.hid (below_via HBW.out HBR.out)
          have HUL2 := HUL
          clear huv HUV HUL
          obtain ⟨W5, hW5⟩ : ∃ W, W = wr := ⟨_, rfl⟩
          subst hW5
          obtain ⟨ua, ul, uc⟩ := u
          simp only at *
          go_wp2_with fail
          go_loopw [6, 8] (fun s6 s8 wr => ∃ (i : Nat) (v : LA), i ≤ y.l.length ∧ s8 = .int .i64 i ∧ s6 = .slice v.a v.l.length v.c ∧ v.v = y.v.take i ∧ TTrees W5.heap.size wr v ∧ Below W5.heap.size W5 wr) (fun _ s8 _ => y.l.length - (intOf s8).toNat)
          case atStart => exact ⟨0, ⟨none, [], 0⟩, Nat.zero_le _, by go_num, rfl, rfl, ttrees_nil _ _, Below.refl _ _⟩
          case round =>
            obtain ⟨i, v, hi, rfl, rfl, hvv, htr2, hbr2⟩ := hrel
            have hul : v.l.length = i := by
              have := congrArg List.length hvv
              rw [LA.v, List.length_map, List.length_take, HVY.out] at this
              omega
            have HUL := Lib.hid hul
            have HVV := Lib.hid hvv
            have HTV := Lib.hid htr2
            have HBV := Lib.hid hbr2
            have hsv := hbr2.size
            clear hul hvv htr2 hbr2
            by_cases hlt : i < y.l.length
            · have hlt' : (i : Int) < (y.l.length : Int) := by omega
              have hi0 : (0 : Int) ≤ (i : Int) := by omega
              have hwi : IntKind.i64.wrap ((i : Int) + 1) = ((i + 1 : Nat) : Int) := by rw [IntWalk.i64_in _ (by omega)]; omega
              have hk : y.l[i]? = some y.l[i] := List.getElem?_eq_getElem hlt
              have hmem : y.l[i] ∈ y.l := List.getElem_mem hlt
              have htk : y.v.take (i + 1) = y.v.take i ++ [y.l[i].v] := by rw [List.take_add_one, LA.v, List.getElem?_map, hk]; rfl
              generalize y.l[i] = t at *
              have hbw : Below w.heap.size w wr := below_via HBW5.out HBV.out
              obtain ⟨b, off, hla, -, -, hb2, c0, c1, c2, c3⟩ := vals_at (HY.out.up hbw).sl hk
              have htr := (HY.out.up hbw).kids t hmem
              have HT := Lib.hid (twin14_c t wr htr.1 htr.2)
              have HTK := Lib.hid htk
              have HLA := Lib.hid hla
              clear hk hmem htk hbw htr hla
              rw [HLA.out]
              go_wp2_with (first
                | (go_at_call 10; refine HT.out.mono ?_; rintro e w2 ⟨z, rfl, hzv, hzt, hb2'⟩
                   obtain ⟨u', W', hrun, hul', htr', hbl'⟩ := ttrees_add HTV.out hsv hb2' hzt (by have := HUL.out; omega)
                   have HU' := Lib.hid hul'
                   have HT' := Lib.hid htr'
                   have HB' := Lib.hid hbl'
                   have HZ := Lib.hid hzv
                   clear hul' htr' hbl' hzv hzt hb2')
                | (at_builtin; refine wl_append (s := .tmp 42) (x := .tmp 48) rfl rfl (hrun _) ?_; clear hrun))
              exact ⟨⟨i + 1, u', by omega, by go_num, rfl, by rw [LA.v, HU'.out, List.map_append, HTK.out, ← HVV.out, List.map_singleton, HZ.out]; rfl, HT'.out, HBV.out.trans HB'.out⟩, by simp [intOf]; omega⟩
            · obtain rfl : i = y.l.length := by omega
              have hge : ¬ (y.l.length : Int) < (y.l.length : Int) := by omega
              have hvv : v.v = y.v := by rw [HVV.out, ← HVY.out, List.take_length]
              have HW6 := Lib.hid (below_via HBW5.out HBV.out)
              have HTU := Lib.hid (HTR.out.below HBV.out)
              obtain ⟨W6, hW6⟩ : ∃ W, W = wr := ⟨_, rfl⟩
              subst hW6
              obtain ⟨va, vl, vc⟩ := v
              clear HVV HUL
              have HVV := Lib.hid hvv
              clear hvv
              have RU := Lib.hid (HTU.out.rd HU.out HX.out)
              have RV := Lib.hid (HTV.out.rd HVV.out HY.out)
              have TU := Lib.hid (fun (z : AV) (hz : z ∈ ul) => HTU.out.tw (r := z) hz)
              have TV := Lib.hid (fun (z : AV) (hz : z ∈ vl) => HTV.out.tw (r := z) hz)
              have PR := fun W (h : Below W6.heap.size W6 W) => Lib.hid (show Calls Tryd.prog 11 #[.slice ua ul.length uc, .slice va vl.length vc] W (PairsPost x.v y.v W) from by
                have hh := pairs_c W ⟨ua, ul, uc⟩ ⟨va, vl, vc⟩ (RU.out.up h) (RV.out.up h) (HP.out.below (below_via HW6.out h))
                rwa [HU.out, HVV.out] at hh)
              have LG := fun W (h : Below W6.heap.size W6 W) => Lib.hid (show Calls Tryd.prog 13 #[.slice ua ul.length uc, .slice va vl.length vc] W (Ret (.int .i64 (lcsL (labs 0 x.v) (labs 1 y.v) : Nat)) W) from by
                have hh := long_c W ⟨ua, ul, uc⟩ ⟨va, vl, vc⟩ (RU.out.up h) (RV.out.up h) (HP.out.below (below_via HW6.out h))
                rwa [HU.out, HVV.out] at hh)
              have RP := fun W (h : Below w.heap.size w W) => Lib.hid (rpairs_c W x y (HX.out.up h) (HY.out.up h))
              have RL := fun W (h : Below w.heap.size w W) => Lib.hid (rlong_c W x y (HX.out.up h) (HY.out.up h))
              obtain ⟨L, hL⟩ : ∃ L, L = lcsL (labs 0 x.v) (labs 1 y.v) := ⟨_, rfl⟩
              rw [← hL] at LG RL
              clear hL
              simp only at *
              go_upto_region 13 with (go_at_call 11; refine (PR _ (Below.refl _ _)).out.mono ?_; rintro e w7 ⟨G1, P, rfl, he, hown1, hb7⟩)
              have HE := Lib.hid he
              have HO1 := Lib.hid hown1
              have HB7 := Lib.hid hb7
              have hPl : P.length ≤ 1048576 := by
                have h := he.len
                have h2 := lcs_le_l ((labs 0 x.v).drop 0) ((labs 1 y.v).drop 0)
                rw [List.drop_zero, labs_len, HVX.out] at h2
                rw [h]
                exact Nat.le_trans h2 hxl
              clear he hown1 hb7
              go_upto_region 14 with (go_at_call 11; refine (PR _ HB7.out).out.mono ?_; rintro e w8 ⟨G2, P2, rfl, he2, hown2, hb8⟩)
              obtain rfl : P = P2 := early_one HE.out he2
              have HO2 := Lib.hid hown2
              have HB8 := Lib.hid hb8
              have HB68 := Lib.hid (below_via HB7.out hb8)
              clear he2 hown2 hb8
              go_upto_region 15 with (go_at_call 12; refine (RP _ (below_via HW6.out HB68.out)).out.mono ?_; rintro e w9 ⟨AQ, cQ, Q, rfl, heQ, hownQ, hb9⟩)
              obtain rfl : P = Q := early_one HE.out heQ
              have HB69 := Lib.hid (below_via HB68.out hb9)
              have hs7 := HB7.out.size
              have hs8 := HB8.out.size
              have hs9 := hb9.size
              have sl1 : SlE prE 2 w7 W6.heap.size w7.heap.size (some ⟨G1, 0, none⟩) P := own_sl prE_len HO1.out
              have sl2 : SlE prE 2 w8 w7.heap.size w8.heap.size (some ⟨G2, 0, none⟩) P := own_sl prE_len HO2.out
              have slQ : SlE prE 2 w9 w8.heap.size w9.heap.size AQ P := own_sl prE_len hownQ
              have HL1 := Lib.hid ((sl1.widen (Nat.zero_le _) (Nat.le_refl _)).up (below_via HB8.out hb9))
              have HL2 := Lib.hid ((sl2.below' hb9).clamp)
              have HLQ := Lib.hid (slQ.widen hs8 (Nat.le_refl _))
              obtain ⟨cs0, q1, q2, q3⟩ := own_blkP HO1.out
              have hgl : G1 < w7.heap.size := lt_of_block q1
              have HR1 := Lib.hid (((below_via HB8.out hb9).block G1 hgl).trans q1)
              have SP := fun W (h : Below w9.heap.size w9 W) => Lib.hid (show Calls Tryd.prog 15 #[.slice (some ⟨G1, 0, none⟩) P.length P.length, .slice AQ P.length cQ] W (Ret (.bool true) W) from by
                have hh := samepr_c W (some ⟨G1, 0, none⟩) AQ P.length cQ P P (HL1.out.up h) ((HLQ.out.widen (Nat.zero_le _) (Nat.le_refl _)).up h) (by omega) (by omega)
                rwa [decide_eq_true rfl] at hh)
              clear heQ hownQ hb9 sl1 sl2 slQ q1 HO1 HO2 PR RP
              go_upto_region 17 with (first
                | (go_at_call 13; refine (LG _ HB69.out).out.mono ?_; rintro e w10 ⟨rfl, hb10⟩
                   have h10 := hb10)
                | (go_at_call 14; refine (RL _ (below_via HW6.out (below_via HB69.out h10))).out.mono ?_; rintro e w11 ⟨rfl, hb11⟩
                   have h11 := below_via h10 hb11)
                | (go_at_call 15; refine (SP _ h11).out.mono ?_; rintro e w12 ⟨rfl, hb12⟩
                   have h12 := below_via h11 hb12))
              have H12 := Lib.hid h12
              clear hb10 hb11 hb12 h10 h11 h12 SP LG RL
              go_wp2_with fail
              go_loopw [12] (fun s wr => ∃ m : Nat, m ≤ P.length ∧ s = .int .i64 m ∧ Below W6.heap.size W6 wr ∧ w7.heap.size ≤ wr.heap.size ∧ SlE prE 2 wr w7.heap.size wr.heap.size (some ⟨G2, 0, none⟩) P ∧ SlE prE 2 wr w7.heap.size wr.heap.size AQ P ∧ ∃ cs, wr.heap[G1]? = some (.cells cs 35 (0, 0)) ∧ P.length * 2 ≤ cs.size) (fun s _ => P.length - (intOf s).toNat)
              case atStart =>
                refine ⟨0, Nat.zero_le _, by go_num, below_via HB69.out H12.out, by have := H12.out.size; omega, (HL2.out.below' H12.out).clamp, (HLQ.out.below' H12.out).clamp, cs0, ?_, q2⟩
                exact (H12.out.block G1 (by omega)).trans HR1.out
              case round =>
                obtain ⟨m, hm, rfl, hb6, hs7r, hs2, hsq, cs, hgc, hgs⟩ := hrel
                have HB6R := Lib.hid hb6
                have HS2 := Lib.hid hs2
                have HSQ := Lib.hid hsq
                clear hb6 hs2 hsq
                by_cases hlt : m < P.length
                · obtain ⟨⟨v1, g1⟩, z1⟩ := blk_cell (j := m * 2) hgc (by omega)
                  have hgl2 : G1 < wr.heap.size := lt_of_block hgc
                  have HGC := Lib.hid hgc
                  have HGS := Lib.hid hgs
                  have hlt' : (m : Int) < (P.length : Int) := by omega
                  have hm0 : (0 : Int) ≤ (m : Int) := by omega
                  have hwm : IntKind.i64.wrap ((m : Int) + 1) = ((m + 1 : Nat) : Int) := by rw [IntWalk.i64_in _ (by omega)]; omega
                  clear hgc hgs
                  go_wp2_with fail
                  obtain ⟨cs', e1, e2⟩ := blk_sets (j := m * 2) (.int .i64 (-9)) HGC.out
                  refine ⟨⟨m + 1, by omega, by go_num, HB6R.out.setCell (p := ⟨G1, m * 2, none⟩) q3 _, by simpa using hs7r, ?_, ?_, cs', e1, by rw [e2]; exact HGS.out⟩, by simp [intOf]; omega⟩
                  · exact (HS2.out.keep (by simp) fun k h1 h2 h3 => Below.heap_setCell _ _ _ k (by show k ≠ G1; omega)).clamp
                  · exact (HSQ.out.keep (by simp) fun k h1 h2 h3 => Below.heap_setCell _ _ _ k (by show k ≠ G1; omega)).clamp
                · obtain rfl : m = P.length := by omega
                  have hge : ¬ (P.length : Int) < (P.length : Int) := by omega
                  have HV13 := HB6R
                  obtain ⟨V13, hV13⟩ : ∃ W, W = wr := ⟨_, rfl⟩
                  subst hV13
                  clear hgc hgs HR1 HL1 HL2 HLQ H12
                  go_wp2_with fail
                  go_loopw [13] (fun s wr => ∃ m : Nat, m ≤ x.l.length ∧ s = .int .i64 m ∧ Below V13.heap.size V13 wr) (fun s _ => x.l.length - (intOf s).toNat)
                  case atStart => exact ⟨0, Nat.zero_le _, by go_num, Below.refl _ _⟩
                  case round =>
                    obtain ⟨m, hm, rfl, hbr⟩ := hrel
                    have HBR := Lib.hid hbr
                    have HB6 := Lib.hid (below_via HV13.out hbr)
                    clear hbr
                    by_cases hlt : m < x.l.length
                    · have hlt' : (m : Int) < (x.l.length : Int) := by omega
                      have hm0 : (0 : Int) ≤ (m : Int) := by omega
                      have hwm : IntKind.i64.wrap ((m : Int) + 1) = ((m + 1 : Nat) : Int) := by rw [IntWalk.i64_in _ (by omega)]; omega
                      have hk : x.l[m]? = some x.l[m] := List.getElem?_eq_getElem hlt
                      have hmem : x.l[m] ∈ x.l := List.getElem_mem hlt
                      obtain ⟨z, hz, hzv⟩ : ∃ z, ul[m]? = some z ∧ z.v = x.l[m].v := by
                        have h := congrArg (fun q => q[m]?) HU.out
                        simp only [LA.v, List.getElem?_map, hk, Option.map_some] at h
                        cases hq : ul[m]? with
                        | none => rw [hq] at h; cases h
                        | some z => rw [hq] at h; exact ⟨z, rfl, by simpa using h⟩
                      have hzm := List.mem_of_getElem? hz
                      have hul : ul.length = x.l.length := by
                        have := congrArg List.length HU.out
                        simpa [LA.v] using this
                      generalize x.l[m] = t at *
                      have hww := below_via HW6.out HB6.out
                      obtain ⟨b2, o2, hla2, -, -, g2, d0, d1, d2, d3⟩ := vals_at (HX.out.up hww).sl hk
                      obtain ⟨b1, o1, hla1, -, -, g1, e0, e1, e2, e3⟩ := vals_at (RU.out.up HB6.out).sl hz
                      have htx := (HX.out.up hww).kids t hmem
                      have HLF := fun W (h : Below wr.heap.size wr W) => Lib.hid (left14_c t z W hzv ((TU.out z hzm).up (below_via HB6.out h)) (htx.1.up h) htx.2)
                      have LD := Lib.hid (fun W (h : Below wr.heap.size wr W) => And.intro
                        (And.intro ((h.cell (p := ⟨b2, o2 + m * 4, none⟩) g2).trans d0) (And.intro ((h.cell (p := ⟨b2, o2 + m * 4 + 1, none⟩) g2).trans d1) (And.intro ((h.cell (p := ⟨b2, o2 + m * 4 + 2, none⟩) g2).trans d2) ((h.cell (p := ⟨b2, o2 + m * 4 + 3, none⟩) g2).trans d3))))
                        (And.intro ((h.cell (p := ⟨b1, o1 + m * 4, none⟩) g1).trans e0) (And.intro ((h.cell (p := ⟨b1, o1 + m * 4 + 1, none⟩) g1).trans e1) (And.intro ((h.cell (p := ⟨b1, o1 + m * 4 + 2, none⟩) g1).trans e2) ((h.cell (p := ⟨b1, o1 + m * 4 + 3, none⟩) g1).trans e3)))))
                      have HLX := Lib.hid hla2
                      have HLU := Lib.hid (show ua = some ⟨b1, o1, none⟩ from hla1)
                      have hult : (m : Int) < (ul.length : Int) := by omega
                      clear hla1 hla2 hk hmem hz hzv hzm hww htx d0 d1 d2 d3 e0 e1 e2 e3 hul
                      rw [HLX.out, HLU.out]
                      go_upto_region 24 with fail
                      refine wp_region_bl (by kernel_rfl) (by kernel_rfl) ?_
                      repeat (first | go_big_quiet_skip | (go_big_quiet_want; go_big_quiet_op; first | go_big_quiet_on | (refine ⟨_, fun _ _ => (by with_reducible rfl), ?_⟩; go_big_quiet_on) | (apply Exists.intro; refine ⟨fun w' hC => (by simp only [LD.out w' hC, Result.andThen]; exact ⟨trivial, rfl⟩), ?_⟩; go_big_quiet_on) | (apply Exists.intro; refine ⟨fun w' hC => (by (with_reducible refine (HLF w' hC).out.mono ?_); exact fun e w2 ⟨he, hb⟩ => ⟨he, hC.trans (hb.mono hC.size)⟩), ?_⟩; go_big_quiet_on)))
                      refine wpQuiet_nil ?_; intro wz hbz
                      go_wp2_with fail
                      exact ⟨⟨m + 1, by omega, by go_num, below_via HBR.out hbz⟩, by simp [intOf]; omega⟩
                    · obtain rfl : m = x.l.length := by omega
                      have hge : ¬ (x.l.length : Int) < (x.l.length : Int) := by omega
                      obtain ⟨V14, hV14⟩ : ∃ W, W = wr := ⟨_, rfl⟩
                      subst hV14
                      have HV14' := Lib.hid HBR.out
                      have HV14 := Lib.hid (below_via HV13.out HBR.out)
                      go_wp2_with fail
                      go_loopw [14] (fun s wr => ∃ m : Nat, m ≤ y.l.length ∧ s = .int .i64 m ∧ Below V14.heap.size V14 wr) (fun s _ => y.l.length - (intOf s).toNat)
                      case atStart => exact ⟨0, Nat.zero_le _, by go_num, Below.refl _ _⟩
                      case round =>
                        obtain ⟨m, hm, rfl, hbr⟩ := hrel
                        have HBR := Lib.hid hbr
                        have HB6 := Lib.hid (below_via HV14.out hbr)
                        clear hbr
                        by_cases hlt : m < y.l.length
                        · have hlt' : (m : Int) < (y.l.length : Int) := by omega
                          have hm0 : (0 : Int) ≤ (m : Int) := by omega
                          have hwm : IntKind.i64.wrap ((m : Int) + 1) = ((m + 1 : Nat) : Int) := by rw [IntWalk.i64_in _ (by omega)]; omega
                          have hk : y.l[m]? = some y.l[m] := List.getElem?_eq_getElem hlt
                          have hmem : y.l[m] ∈ y.l := List.getElem_mem hlt
                          obtain ⟨z, hz, hzv⟩ : ∃ z, vl[m]? = some z ∧ z.v = y.l[m].v := by
                            have h := congrArg (fun q => q[m]?) HVV.out
                            simp only [LA.v, List.getElem?_map, hk, Option.map_some] at h
                            cases hq : vl[m]? with
                            | none => rw [hq] at h; cases h
                            | some z => rw [hq] at h; exact ⟨z, rfl, by simpa using h⟩
                          have hzm := List.mem_of_getElem? hz
                          have hul : vl.length = y.l.length := by
                            have := congrArg List.length HVV.out
                            simpa [LA.v] using this
                          generalize y.l[m] = t at *
                          have hww := below_via HW6.out HB6.out
                          obtain ⟨b2, o2, hla2, -, -, g2, d0, d1, d2, d3⟩ := vals_at (HY.out.up hww).sl hk
                          obtain ⟨b1, o1, hla1, -, -, g1, e0, e1, e2, e3⟩ := vals_at (RV.out.up HB6.out).sl hz
                          have htx := (HY.out.up hww).kids t hmem
                          have HLF := fun W (h : Below wr.heap.size wr W) => Lib.hid (left14_c t z W hzv ((TV.out z hzm).up (below_via HB6.out h)) (htx.1.up h) htx.2)
                          have LD := Lib.hid (fun W (h : Below wr.heap.size wr W) => And.intro
                            (And.intro ((h.cell (p := ⟨b2, o2 + m * 4, none⟩) g2).trans d0) (And.intro ((h.cell (p := ⟨b2, o2 + m * 4 + 1, none⟩) g2).trans d1) (And.intro ((h.cell (p := ⟨b2, o2 + m * 4 + 2, none⟩) g2).trans d2) ((h.cell (p := ⟨b2, o2 + m * 4 + 3, none⟩) g2).trans d3))))
                            (And.intro ((h.cell (p := ⟨b1, o1 + m * 4, none⟩) g1).trans e0) (And.intro ((h.cell (p := ⟨b1, o1 + m * 4 + 1, none⟩) g1).trans e1) (And.intro ((h.cell (p := ⟨b1, o1 + m * 4 + 2, none⟩) g1).trans e2) ((h.cell (p := ⟨b1, o1 + m * 4 + 3, none⟩) g1).trans e3)))))
                          have HLX := Lib.hid hla2
                          have HLU := Lib.hid (show va = some ⟨b1, o1, none⟩ from hla1)
                          have hult : (m : Int) < (vl.length : Int) := by omega
                          clear hla1 hla2 hk hmem hz hzv hzm hww htx d0 d1 d2 d3 e0 e1 e2 e3 hul
                          rw [HLX.out, HLU.out]
                          go_upto_region 29 with fail
                          refine wp_region_bl (by kernel_rfl) (by kernel_rfl) ?_
                          repeat (first | go_big_quiet_skip | (go_big_quiet_want; go_big_quiet_op; first | go_big_quiet_on | (refine ⟨_, fun _ _ => (by with_reducible rfl), ?_⟩; go_big_quiet_on) | (apply Exists.intro; refine ⟨fun w' hC => (by simp only [LD.out w' hC, Result.andThen]; exact ⟨trivial, rfl⟩), ?_⟩; go_big_quiet_on) | (apply Exists.intro; refine ⟨fun w' hC => (by (with_reducible refine (HLF w' hC).out.mono ?_); exact fun e w2 ⟨he, hb⟩ => ⟨he, hC.trans (hb.mono hC.size)⟩), ?_⟩; go_big_quiet_on)))
                          refine wpQuiet_nil ?_; intro wz hbz
                          go_wp2_with fail
                          exact ⟨⟨m + 1, by omega, by go_num, below_via HBR.out hbz⟩, by simp [intOf]; omega⟩
                        · obtain rfl : m = y.l.length := by omega
                          have hge : ¬ (y.l.length : Int) < (y.l.length : Int) := by omega
                          have HW31 := Lib.hid (below_via HW6.out HB6.out)
                          have HSB := Lib.hid (show Calls Tryd.prog 15 #[.slice (some ⟨G2, 0, none⟩) P.length P.length, .slice AQ P.length cQ] wr (Ret (.bool true) wr) from by
                            have hh := samepr_c wr (some ⟨G2, 0, none⟩) AQ P.length cQ P P ((HS2.out.up (below_via HV14'.out HBR.out)).widen (Nat.zero_le _) (Nat.le_refl _)) ((HSQ.out.up (below_via HV14'.out HBR.out)).widen (Nat.zero_le _) (Nat.le_refl _)) (by omega) (by omega)
                            rwa [decide_eq_true rfl] at hh)
                          go_wp2_with (first
                            | (go_at_call 15; refine HSB.out.mono ?_; rintro e w21 ⟨rfl, hb21⟩
                               have h21 := below_via HW31.out hb21)
                            | (go_at_call 9; refine (HLV _ h21).out.mono ?_; rintro e w22 ⟨rfl, hb22⟩))
                          go_ret
                          exact ⟨rfl, below_via h21 hb22⟩
end Go.Proofs.YtjihepdjcbpgoaaDoor
