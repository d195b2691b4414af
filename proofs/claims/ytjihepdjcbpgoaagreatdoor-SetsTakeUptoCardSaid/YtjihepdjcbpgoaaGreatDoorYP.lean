/-
  inarchlaw27.SetsTake answers true. Conditions: the lists and the picks lie in memory, lengths and weights are bounded; strconv's table of powers holds what its initialiser lays.
-/
import Derived.Test.YtjihepdjcbpgoaaGreatDoorYM
import Derived.Test.YtjihepdjcbpgoaaGreatDoorLS
namespace Go.Proofs.YtjihepdjcbpgoaaGreatDoor
open Go.RowKit Go.Sort

theorem takeP_snoc' {α : Type} {b l r : List α} {P : List Pk} {p : Pk} : takeP b l r (P ++ [p]) = takeP b l r P ++ (pickV b l r p).toList := by
  show (P ++ [p]).filterMap _ = P.filterMap _ ++ _
  rw [List.filterMap_append]
  congr 1
theorem takeP_map {x y z : LA} : ∀ P : List Pk, (takeP x.l y.l z.l P).map AV.v = takeP x.v y.v z.v P
  | [] => rfl
  | p :: P => by
    have ih := takeP_map (x := x) (y := y) (z := z) P
    have e : pickV x.v y.v z.v p = (pickV x.l y.l z.l p).map AV.v := by rw [LA.v, LA.v, LA.v, pickV_map]
    unfold takeP at ih ⊢
    rw [List.filterMap_cons, List.filterMap_cons, e]
    cases pickV x.l y.l z.l p with
    | none => exact ih
    | some u => exact congrArg (u.v :: ·) ih
theorem takeP_len {α : Type} {b l r : List α} (P : List Pk) : (takeP b l r P).length ≤ P.length := List.length_filterMap_le _ _

theorem OwnC.at_ {w : World} {base e size : Nat} {a : Option Addr} {n cap : Nat} {xs : List Value} (h : OwnC w base e size a n cap xs) (hc : 0 < cap) :
    ∃ g, a = some ⟨g, 0, none⟩ ∧ base ≤ g ∧ g < w.heap.size ∧ (∃ cs, w.heap[g]? = some (.cells cs e (0, 0)) ∧ cap * size ≤ cs.size) ∧ ∀ w' : World, w'.heap[g]? = w.heap[g]? → OwnC w' base e size a n cap xs := by
  obtain ⟨h1, h2, h3⟩ := h
  obtain ⟨g, cur, e1, hb, hh, h4, h5⟩ := h3 hc
  have hlt : g < w.heap.size := by
    rcases Nat.lt_or_ge g w.heap.size with hlt | hge
    · exact hlt
    · rw [Array.getElem?_eq_none hge] at hh; cases hh
  exact ⟨g, e1, hb, hlt, ⟨cur, hh, h4⟩, fun w' hw => ⟨h1, h2, fun _ => ⟨g, cur, e1, hb, hw.trans hh, h4, h5⟩⟩⟩
/-- What stays while the first i trees are spoilt. -/
structure SpSt (W7 Wt : World) (iv : List (Nat × Nat)) (i : Nat) (w : World) : Prop where
  bel : Below W7.heap.size W7 w
  size : Wt.heap.size ≤ w.heap.size
  blk : ∀ k, k < Wt.heap.size → (∀ j se, j < i → iv[j]? = some se → ¬ (se.1 ≤ k ∧ k < se.2)) → w.heap[k]? = Wt.heap[k]?
theorem SpSt.below {W7 Wt w w' : World} {iv : List (Nat × Nat)} {i : Nat} (h : SpSt W7 Wt iv i w) (hb : Below w.heap.size w w') : SpSt W7 Wt iv i w' :=
  ⟨h.bel.trans (hb.mono h.bel.size), Nat.le_trans h.size hb.size, fun k h1 h2 => (hb.block k (Nat.lt_of_lt_of_le h1 h.size)).trans (h.blk k h1 h2)⟩
theorem SpSt.next {W7 Wt w w' : World} {iv : List (Nat × Nat)} {i lo hi : Nat} (h : SpSt W7 Wt iv i w) (he : iv[i]? = some (lo, hi)) (h7 : W7.heap.size ≤ lo) (hb : Below lo w w') (hq : ∀ q, hi ≤ q → q < w.heap.size → w'.heap[q]? = w.heap[q]?) : SpSt W7 Wt iv (i + 1) w' :=
  ⟨h.bel.trans (hb.mono h7), Nat.le_trans h.size hb.size, fun k h1 h2 => by
    have h3 : w'.heap[k]? = w.heap[k]? := by
      have hn := h2 i (lo, hi) (Nat.lt_succ_self _) he
      rcases Nat.lt_or_ge k lo with h4 | h4
      · exact hb.block k h4
      · exact hq k (by simp only at hn; omega) (Nat.lt_of_lt_of_le h1 h.size)
    exact h3.trans (h.blk k h1 fun j se hj => h2 j se (Nat.lt_succ_of_lt hj))⟩

theorem cells_at {w : World} {g j : Nat} {cs : Array Value} {T : TypeId} (h : w.heap[g]? = some (.cells cs T (0, 0))) (hj : j < cs.size) : (∃ u, w.cell? ⟨g, j, none⟩ = some u) ∧ w.frozen? ⟨g, j, none⟩ = false := by
  constructor
  · simp only [World.cell?, h]
    exact ⟨cs[j], by simp [hj]⟩
  · simp [World.frozen?, h]
theorem set_cells {w : World} {g j : Nat} {cs : Array Value} {T : TypeId} (v : Value) (h : w.heap[g]? = some (.cells cs T (0, 0))) : ∃ cs', (w.setCell ⟨g, j, none⟩ v).heap[g]? = some (.cells cs' T (0, 0)) ∧ cs'.size = cs.size :=
  ⟨_, set_blk h _ _, by simp⟩
theorem put4_cells {w : World} {g o : Nat} {a b c d : Value} {cs : Array Value} {T : TypeId} (h : w.heap[g]? = some (.cells cs T (0, 0))) : ∃ cs', (put4 w g o a b c d).heap[g]? = some (.cells cs' T (0, 0)) ∧ cs'.size = cs.size := by
  obtain ⟨c1, h1, e1⟩ := set_cells (j := o) a h
  obtain ⟨c2, h2, e2⟩ := set_cells (j := o + 1) b h1
  obtain ⟨c3, h3, e3⟩ := set_cells (j := o + 2) c h2
  obtain ⟨c4, h4, e4⟩ := set_cells (j := o + 3) d h3
  exact ⟨c4, h4, by omega⟩
theorem takeP_mem {α : Type} {b l r : List α} {P : List Pk} {u : α} (h : u ∈ takeP b l r P) : u ∈ b ∨ u ∈ l ∨ u ∈ r := by
  obtain ⟨p, -, hp⟩ := List.mem_filterMap.1 h
  unfold pickV sideL at hp
  split at hp
  · cases hp
  · have hm := List.mem_of_getElem? hp
    split at hm
    · exact .inl hm
    · split at hm
      · exact .inr (.inl hm)
      · split at hm
        · exact .inr (.inr hm)
        · cases hm
set_option maxRecDepth 100000 in
set_option maxHeartbeats 3200000 in
theorem stake (w : World) (x y z : LA) (A : Option Addr) (cP : Nat) (P : List Pk) (hx : x.Rd w) (hy : y.Rd w) (hz : z.Rd w) (hPs : SlE Pk.enc 2 w 0 w.heap.size A P) (hPl : P.length ≤ 1048576) (hPk : ∀ p ∈ P, 0 ≤ p.side ∧ p.side ≤ 255) (hP : Pow w) :
    Calls Tryz.prog 5 #[.agg #[.slice x.a x.l.length x.c, .slice y.a y.l.length y.c, .slice z.a z.l.length z.c], .slice A P.length cP] w (Ret (.bool true) w) := by
  have hxl := hx.len
  have hyl := hy.len
  have hzl := hz.len
  have HX := Lib.hid hx
  have HY := Lib.hid hy
  have HZ := Lib.hid hz
  have HP := Lib.hid hP
  have HPS := Lib.hid hPs
  have HPK := Lib.hid hPk
  clear hx hy hz hP hPs hPk
  go_enter Tryz.func5, Tryz.ntmps5
  go_upto_region 4 with fail
  go_name_world W1 hW1
  have hb1 : Below w.heap.size w W1 := by rw [← hW1]; exact (Below.refl _ _).alloc (Nat.le_refl _) _
  have HB1 := Lib.hid hb1
  have hlist := lit_sl (enc := LA.enc) (size := 1) (l := [x, y, z]) (t := 23) (fr := (0, 0)) (fun _ => rfl) (heap_alloc_new W1 (.cells #[.slice x.a x.l.length x.c, .slice y.a y.l.length y.c, .slice z.a z.l.length z.c] 23))
  have hba := (Below.refl W1.heap.size W1).alloc (Nat.le_refl _) (.cells #[.slice x.a x.l.length x.c, .slice y.a y.l.length y.c, .slice z.a z.l.length z.c] 23)
  have HG := Lib.hid (great23_s _ (some ⟨W1.heap.size, 0, none⟩) 3 [x, y, z] (hlist.widen (Nat.zero_le _) (by simp)) (fun q hq => by
    have hbw := below_via hb1 hba
    simp only [List.mem_cons, List.not_mem_nil, or_false] at hq
    rcases hq with rfl | rfl | rfl
    · exact HX.out.up hbw
    · exact HY.out.up hbw
    · exact HZ.out.up hbw) (by simp))
  have HBA := Lib.hid hba
  have HLV := fun W (h : Below w.heap.size w W) => Lib.hid (lives27_c W (HP.out.below h))
  clear hlist hba hb1 hW1
  go_upto_region 4 with fail
  go_cut [32] (fun s32 wx => ∃ r : Bool, s32 = .bool r ∧ (r = false → P.length ≤ 100) ∧ Below W1.heap.size W1 wx)
  case first =>
    by_cases hp : 100 < P.length
    · have hp1 : (100 : Int) < (P.length : Int) := by omega
      have hp2 : decide ((100 : Int) < (P.length : Int)) = true := decide_eq_true hp1
      go_wp2_with (go_at_call 30; refine HG.out.mono ?_; rintro e w2 ⟨r, rfl, hsm, hb2⟩; cases r)
      all_goals go_meet
      all_goals exact ⟨_, rfl, (fun h => by cases h), below_via HBA.out hb2⟩
    · have hp1 : ¬ (100 : Int) < (P.length : Int) := by omega
      go_wp2_with (go_at_call 30; refine HG.out.mono ?_; rintro e w2 ⟨r, rfl, hsm, hb2⟩; cases r)
      all_goals go_meet
      all_goals exact ⟨_, rfl, (fun _ => by omega), below_via HBA.out hb2⟩
  case rest =>
    obtain ⟨r, rfl, hpl, hb12⟩ := hcut
    have HPL := Lib.hid hpl
    have HB12 := Lib.hid hb12
    have HBW2 := Lib.hid (below_via HB1.out hb12)
    clear hpl hb12 HG
    cases r with
    | true =>
      go_wp2_with (go_at_call 31; refine (HLV _ HBW2.out).out.mono ?_; rintro e w5 ⟨rfl, hb5⟩)
      go_ret
      exact ⟨rfl, below_via HBW2.out hb5⟩
    | false =>
      have hp100 := HPL.out rfl
      go_upto_region 7 with fail
      go_name_world W3 hW3
      have hb23 : Below wc.heap.size wc W3 := by rw [← hW3]; exact (Below.refl _ _).alloc (Nat.le_refl _) _
      have hbx : W3.heap[wc.heap.size]? = some (.cells #[.slice x.a x.l.length x.c, .slice y.a y.l.length y.c, .slice z.a z.l.length z.c] 23 (0, 0)) := by rw [← hW3]; exact heap_alloc_new wc _
      clear hW3
      have HBW3 := Lib.hid (below_via HBW2.out hb23)
      have kl := (has_cell hbx).2.2.2
      have HK3 := Lib.hid (fun W (h : Below W3.heap.size W3 W) (k : Nat) (hk : k < 3) => (h.cell (p := ⟨wc.heap.size, k, none⟩) kl).trans (show W3.cell? ⟨wc.heap.size, k, none⟩ = some (.slice (if k = 0 then x else if k = 1 then y else z).a (if k = 0 then x else if k = 1 then y else z).l.length (if k = 0 then x else if k = 1 then y else z).c) from by
        obtain ⟨h0, h1, h2, -⟩ := has_cell hbx
        rcases (show k = 0 ∨ k = 1 ∨ k = 2 by omega) with rfl | rfl | rfl
        · exact h0
        · exact h1
        · exact h2))
      clear hb23 hbx
      go_wp2_with fail
      go_loopw [9, 10] (fun s9 s10 wr => ∃ (m : Nat) (ys : List AV) (a : Option Addr) (c : Nat), m ≤ P.length ∧ s10 = .int .i64 m ∧ s9 = .slice a ys.length c ∧ OwnV wr W3.heap.size (.slice a ys.length c) ys ∧ ys = takeP x.l y.l z.l (P.take m) ∧ Below W3.heap.size W3 wr) (fun _ s10 _ => P.length - (intOf s10).toNat)
      case atStart => exact ⟨0, [], none, 0, Nat.zero_le _, by go_num, rfl, ⟨rfl, .inl ⟨rfl, rfl⟩⟩, rfl, Below.refl _ _⟩
      case round =>
        obtain ⟨m, ys, a, c, hm, rfl, rfl, hown, hyv, hbr⟩ := hrel
        have hyl' : ys.length ≤ m := by rw [hyv]; exact Nat.le_trans (takeP_len _) (by rw [List.length_take]; omega)
        have HOW := Lib.hid hown
        have HYV := Lib.hid hyv
        have HBR := Lib.hid hbr
        have hsr := hbr.size
        clear hown hyv hbr
        by_cases hlt : m < P.length
        · have hk : P[m]? = some P[m] := List.getElem?_eq_getElem hlt
          have hpk := HPK.out P[m] (List.getElem_mem hlt)
          have htk : P.take (m + 1) = P.take m ++ [P[m]] := by rw [List.take_add_one, hk]; rfl
          have htp : takeP x.l y.l z.l (P.take (m + 1)) = takeP x.l y.l z.l (P.take m) ++ (pickV x.l y.l z.l P[m]).toList := by rw [htk, takeP_snoc']
          generalize P[m] = p at *
          have hbw : Below w.heap.size w wr := below_via HBW3.out HBR.out
          obtain ⟨b, off, hla, -, -, hb2, c0, c1⟩ := pk_at HPS.out hk
          have d0 := (hbw.cell (p := ⟨b, off + m * 2, none⟩) hb2).trans c0
          have d1 := (hbw.cell (p := ⟨b, off + m * 2 + 1, none⟩) hb2).trans c1
          have hbb := Nat.lt_of_lt_of_le hb2 hbw.size
          have hlt' : (m : Int) < (P.length : Int) := by omega
          have hm0 : (0 : Int) ≤ (m : Int) := by omega
          have hwm : IntKind.i64.wrap ((m : Int) + 1) = ((m + 1 : Nat) : Int) := by rw [IntWalk.i64_in _ (by omega)]; omega
          have HTP := Lib.hid htp
          have HBW := Lib.hid hbw
          clear hk htk htp hbw c0 c1
          subst hla
          obtain ⟨ps, pa⟩ := p
          simp only at hpk d0 d1
          have fin : ∀ wz, Below wr.heap.size wr wz → pickV x.l y.l z.l ⟨ps, pa⟩ = none → OwnV wz W3.heap.size (.slice a ys.length c) ys ∧ ys = takeP x.l y.l z.l (P.take (m + 1)) ∧ Below W3.heap.size W3 wz := fun wz hbz hn =>
            ⟨own_below HOW.out hbz, by rw [HTP.out, hn, ← HYV.out]; simp, HBR.out.trans (hbz.mono hsr)⟩
          have FIN := Lib.hid fin
          have LD0 := Lib.hid (fun W (h : Below wr.heap.size wr W) => And.intro ((h.cell (p := ⟨b, off + m * 2, none⟩) hbb).trans d0) ((h.cell (p := ⟨b, off + m * 2 + 1, none⟩) hbb).trans d1))
          clear fin d0 d1
          rcases (show 3 ≤ ps ∨ ps < 3 by omega) with h3 | h3
          · have g1 : decide (ps < 3) = false := decide_eq_false (by omega)
            have g2 : ¬ ps < 3 := by omega
            have LD := LD0
            go_upto_region 11 with fail
            refine wp_region_bl (by kernel_rfl) (by kernel_rfl) ?_
            repeat (first | go_big_quiet_skip | (go_big_quiet_want; go_big_quiet_op; first | go_big_quiet_on | (refine ⟨_, fun _ _ => (by with_reducible rfl), ?_⟩; go_big_quiet_on) | (apply Exists.intro; refine ⟨fun w' hC => (by simp only [LD.out w' hC, Result.andThen]; exact ⟨trivial, rfl⟩), ?_⟩; go_big_quiet_on)))
            refine wpQuiet_nil ?_; intro wz hbz
            go_wp2_with fail
            obtain ⟨f1, f2, f3⟩ := FIN.out wz hbz (pick_none (.inr (.inl h3)))
            exact ⟨⟨m + 1, ys, a, c, by omega, by go_num, rfl, f1, f2, f3⟩, by simp [intOf]; omega⟩
          · obtain ⟨sd, rfl⟩ : ∃ sd : Nat, ps = sd := ⟨ps.toNat, by omega⟩
            have hs3 : sd < 3 := by omega
            have hs0 : (0 : Int) ≤ (sd : Int) := by omega
            have g1 : decide ((sd : Int) < 3) = true := decide_eq_true h3
            have g2 : decide (sd < 3) = true := decide_eq_true hs3
            rcases (show pa < 0 ∨ 0 ≤ pa by omega) with h0 | h0
            · have g3 : decide (0 ≤ pa) = false := decide_eq_false (by omega)
              have g4 : ¬ 0 ≤ pa := by omega
              have LD := LD0
              go_upto_region 11 with fail
              refine wp_region_bl (by kernel_rfl) (by kernel_rfl) ?_
              repeat (first | go_big_quiet_skip | (go_big_quiet_want; go_big_quiet_op; first | go_big_quiet_on | (refine ⟨_, fun _ _ => (by with_reducible rfl), ?_⟩; go_big_quiet_on) | (apply Exists.intro; refine ⟨fun w' hC => (by simp only [LD.out w' hC, Result.andThen]; exact ⟨trivial, rfl⟩), ?_⟩; go_big_quiet_on)))
              refine wpQuiet_nil ?_; intro wz hbz
              go_wp2_with fail
              obtain ⟨f1, f2, f3⟩ := FIN.out wz hbz (pick_none (.inr (.inr h0)))
              exact ⟨⟨m + 1, ys, a, c, by omega, by go_num, rfl, f1, f2, f3⟩, by simp [intOf]; omega⟩
            · obtain ⟨at_, rfl⟩ : ∃ n : Nat, pa = n := ⟨pa.toNat, by omega⟩
              obtain ⟨q, hq, hcell, hpq⟩ : ∃ q : LA, q.Rd w ∧ (∀ W, Below W3.heap.size W3 W → W.cell? ⟨wc.heap.size, sd, none⟩ = some (.slice q.a q.l.length q.c)) ∧ pickV x.l y.l z.l ⟨(sd : Int), (at_ : Int)⟩ = q.l[at_]? := by
                rcases (show sd = 0 ∨ sd = 1 ∨ sd = 2 by omega) with rfl | rfl | rfl
                · exact ⟨x, HX.out, fun W h => HK3.out W h 0 (by omega), by simp [pickV, sideL]; intro h; omega⟩
                · exact ⟨y, HY.out, fun W h => HK3.out W h 1 (by omega), by simp [pickV, sideL]; intro h; omega⟩
                · exact ⟨z, HZ.out, fun W h => HK3.out W h 2 (by omega), by simp [pickV, sideL]; intro h; omega⟩
              have hql := hq.len
              have g3 : decide ((0 : Int) ≤ (at_ : Int)) = true := decide_eq_true h0
              have LD := Lib.hid (fun W (h : Below wr.heap.size wr W) => And.intro (LD0.out W h) (hcell W (HBR.out.trans (h.mono hsr))))
              have HQ := Lib.hid hq
              have HPQ := Lib.hid hpq
              have klr : wc.heap.size < wr.heap.size := Nat.lt_of_lt_of_le kl hsr
              clear hq hcell hpq LD0
              by_cases hal : at_ < q.l.length
              · have g5 : decide ((at_ : Int) < (q.l.length : Int)) = true := decide_eq_true (by omega)
                have g6 : decide (at_ < q.l.length) = true := decide_eq_true hal
                have hk2 : q.l[at_]? = some q.l[at_] := List.getElem?_eq_getElem hal
                generalize q.l[at_] = u at *
                go_upto_region 11 with fail
                refine wp_region_bl (by kernel_rfl) (by kernel_rfl) ?_
                repeat (first | go_big_quiet_skip | (go_big_quiet_want; go_big_quiet_op; first | go_big_quiet_on | (refine ⟨_, fun _ _ => (by with_reducible rfl), ?_⟩; go_big_quiet_on) | (apply Exists.intro; refine ⟨fun w' hC => (by simp only [LD.out w' hC, Result.andThen]; exact ⟨trivial, rfl⟩), ?_⟩; go_big_quiet_on)))
                refine wpQuiet_nil ?_; intro wz hbz
                have hwz : Below w.heap.size w wz := below_via HBW.out hbz
                obtain ⟨b3, o3, hla3, -, -, hb3, v0, v1, v2, v3⟩ := vals_at (HQ.out.up hwz).sl hk2
                obtain ⟨⟨x0, x1⟩, x9⟩ := LD.out wz hbz
                have hbz3 := Nat.lt_of_lt_of_le hbb hbz.size
                have klz := Nat.lt_of_lt_of_le klr hbz.size
                have hal' : (at_ : Int) < (q.l.length : Int) := by omega
                have HUV := Lib.hid (show pickV x.l y.l z.l ⟨(sd : Int), (at_ : Int)⟩ = some u by rw [HPQ.out, hk2])
                have hown2 : OwnV wz.drew W3.heap.size (.slice a ys.length c) ys := own_below HOW.out hbz.drew
                have hlit : SlE AV.enc 4 (wz.drew.alloc (.cells #[.int .u8 u.k, .string u.t, .slice u.la u.l.length u.lc, .slice u.ka u.ks.length u.kc] 26)) wz.drew.heap.size (wz.drew.heap.size + 1) (some ⟨wz.drew.heap.size, 0, none⟩) [u] := lit_sl (enc := AV.enc) (size := 4) (l := [u]) (t := 26) (fr := (0, 0)) AV.enc_len (heap_alloc_new _ _)
                obtain ⟨v', W', hrun, hown', hgr, -⟩ := app_val (c := 1) (own_below hown2 ((Below.refl _ _).alloc (Nat.le_refl _) _)) hlit (by simp; omega) (by show W3.heap.size ≤ (wz.drew.alloc _).heap.size; rw [World.size_alloc]; show W3.heap.size ≤ wz.heap.size + 1; have := hbz.size; omega)
                obtain ⟨ys', hys'⟩ : ∃ ys', ys' = ys ++ [u] := ⟨_, rfl⟩
                rw [← hys'] at hown'
                obtain ⟨a', c', rfl⟩ := own_formV hown'
                have HYS' := Lib.hid hys'
                have HOW' := Lib.hid hown'
                have HGR := Lib.hid hgr
                have HOW2 := Lib.hid hown2
                have HBZ := Lib.hid hbz
                clear hk2 hys' hown' hgr hlit hown2 hwz LD FIN
                rw [hla3] at x9
                clear hla3
                go_upto_region 12 with fail
                go_region_law (first | (refine st_append (s := .tmp 75) (x := .tmp 91) rfl rfl (hrun _) ?_; clear hrun))
                all_goals
                  go_wp2_with fail
                  refine ⟨⟨m + 1, ys', a', c', by omega, by go_num, rfl, HOW'.out, ?_, ?_⟩, by simp [intOf]; omega⟩
                  · rw [HYS'.out, HTP.out, HUV.out, ← HYV.out]; rfl
                  · exact (((HBR.out.trans (HBZ.out.mono hsr)).drew).alloc (by show W3.heap.size ≤ wz.heap.size; have := HBZ.out.size; omega) _).grown HGR.out (by rw [World.size_alloc]; show W3.heap.size ≤ wz.heap.size + 1; have := HBZ.out.size; omega) (fun g hg => (World.ownsRow.lt HOW2.out g hg).1)
              · have g5 : decide ((at_ : Int) < (q.l.length : Int)) = false := decide_eq_false (by omega)
                have g6 : decide (at_ < q.l.length) = false := decide_eq_false hal
                go_upto_region 11 with fail
                refine wp_region_bl (by kernel_rfl) (by kernel_rfl) ?_
                repeat (first | go_big_quiet_skip | (go_big_quiet_want; go_big_quiet_op; first | go_big_quiet_on | (refine ⟨_, fun _ _ => (by with_reducible rfl), ?_⟩; go_big_quiet_on) | (apply Exists.intro; refine ⟨fun w' hC => (by simp only [LD.out w' hC, Result.andThen]; exact ⟨trivial, rfl⟩), ?_⟩; go_big_quiet_on)))
                refine wpQuiet_nil ?_; intro wz hbz
                go_wp2_with fail
                obtain ⟨f1, f2, f3⟩ := FIN.out wz hbz (by rw [HPQ.out]; exact List.getElem?_eq_none (by omega))
                exact ⟨⟨m + 1, ys, a, c, by omega, by go_num, rfl, f1, f2, f3⟩, by simp [intOf]; omega⟩
        · obtain rfl : m = P.length := by omega
          have hge : ¬ (P.length : Int) < (P.length : Int) := by omega
          have hU := HYV.out
          rw [List.take_length] at hU
          have HU := Lib.hid hU
          have HWB := Lib.hid (below_via HBW3.out HBR.out)
          clear hU HYV
          have TX := fun W (h : Below w.heap.size w W) => Lib.hid (twin23_c W x (HX.out.up h))
          have TY := fun W (h : Below w.heap.size w W) => Lib.hid (twin23_c W y (HY.out.up h))
          have TZ := fun W (h : Below w.heap.size w W) => Lib.hid (twin23_c W z (HZ.out.up h))
          go_upto_region 17 with (first
            | (go_at_call 32; first
              | ((with_reducible refine (TX _ HWB.out).out.mono ?_); rintro e w5 ⟨t1, rfl, hv1, ht1, hb5⟩
                 have hw5 := below_via HWB.out hb5)
              | ((with_reducible refine (TY _ hw5).out.mono ?_); rintro e w6 ⟨t2, rfl, hv2, ht2, hb6⟩
                 have hw6 := below_via hw5 hb6)
              | ((with_reducible refine (TZ _ hw6).out.mono ?_); rintro e w7 ⟨t3, rfl, hv3, ht3, hb7⟩
                 have hw7 := below_via hw6 hb7
                 have hb67 := below_via hb6 hb7
                 have r1 : LA.Tw w7 0 w7.heap.size t1 := (ht1.widen (Nat.zero_le _) (Nat.le_refl _)).up hb67
                 have r2 : LA.Tw w7 0 w7.heap.size t2 := (ht2.widen (Nat.zero_le _) (Nat.le_refl _)).up hb7
                 have r3 : LA.Tw w7 0 w7.heap.size t3 := ht3.widen (Nat.zero_le _) (Nat.le_refl _)
                 have HTK := Lib.hid (take27_c w7 t1 t2 t3 A cP P (r1.rd hv1 (HX.out.up hw7)) (r2.rd hv2 (HY.out.up hw7)) (r3.rd hv3 (HZ.out.up hw7)) (HPS.out.up hw7) (by omega) HPK.out)))
            | (go_at_call 37; refine HTK.out.mono ?_; rintro e w8 ⟨zs, bz, rfl, hzv, hoz, hiv, hb8⟩))
          have hzl0 : zs.length = ys.length := by
            have e := congrArg List.length hzv
            rw [hv1, hv2, hv3, List.length_map, ← takeP_map, List.length_map, ← HU.out] at e
            exact e
          have hyw' : ys.map AV.v = zs.map AV.v := by rw [hzv, hv1, hv2, hv3, ← takeP_map, ← HU.out]
          have hys : ys.length ≤ 100 := by omega
          have hYR : (⟨a, ys, c⟩ : LA).Rd wr := ⟨(own_sl AV.enc_len HOW.out).widen (Nat.zero_le _) (Nat.le_refl _), by show ys.length ≤ 1048576; omega, fun u hu => by
            have hu2 : u ∈ x.l ∨ u ∈ y.l ∨ u ∈ z.l := by rw [HU.out] at hu; exact takeP_mem hu
            rcases hu2 with h | h | h
            · exact ⟨((HX.out.kids u h).1).up HWB.out, (HX.out.kids u h).2⟩
            · exact ⟨((HY.out.kids u h).1).up HWB.out, (HY.out.kids u h).2⟩
            · exact ⟨((HZ.out.kids u h).1).up HWB.out, (HZ.out.kids u h).2⟩⟩
          have hb78 : Below wr.heap.size wr w8 := below_via (below_via hb5 hb67) hb8
          have HYR := Lib.hid hYR
          have hb57 : Below wr.heap.size wr w7 := below_via hb5 hb67
          have HB57 := Lib.hid hb57
          have HB8 := Lib.hid hb8
          have h57 := hb57.size
          have hw8 := below_via hw7 hb8
          have L1 := fun W (h : Below w7.heap.size w7 W) => Lib.hid (left23_c W x t1 hv1 (r1.up h) (HX.out.up (below_via hw7 h)))
          have L2 := fun W (h : Below w7.heap.size w7 W) => Lib.hid (left23_c W y t2 hv2 (r2.up h) (HY.out.up (below_via hw7 h)))
          have L3 := fun W (h : Below w7.heap.size w7 W) => Lib.hid (left23_c W z t3 hv3 (r3.up h) (HZ.out.up (below_via hw7 h)))
          have HW7 := Lib.hid hw7
          obtain ⟨iv, hil, hiva, hivp⟩ := hiv
          rw [hzl0] at hoz hil hiva
          rw [hzl0]
          have HIV := Lib.hid hiva
          have HIP := Lib.hid hivp
          have HZO := Lib.hid hoz
          have HYW := Lib.hid hyw'
          have HIL := Lib.hid hil
          have HZL := Lib.hid hzl0
          clear hiva hivp hoz hyw' hil hzv hv1 hv2 hv3 hzl0 hYR hw8 hw7 hw6 hw5 hb57 hb67 hb78 hb8 hb7 hb6 hb5 r1 r2 r3 ht1 ht2 ht3 HBR HTK HWB TX TY TZ
          obtain ⟨W5, hW5⟩ : ∃ W5, W5 = wr := ⟨_, rfl⟩
          subst hW5
          go_wp2_with fail
          go_loopw [15] (fun i wr => ∃ m : Nat, m ≤ ys.length ∧ i = .int .i64 m ∧ SpSt w7 w8 iv m wr) (fun i _ => ys.length - (intOf i).toNat)
          case atStart => exact ⟨0, Nat.zero_le _, by go_num, ⟨HB8.out, Nat.le_refl _, fun k _ _ => rfl⟩⟩
          case round =>
            obtain ⟨m, hm, rfl, hsp⟩ := hrel
            have HSP := Lib.hid hsp
            have hsv := hsp.bel.size
            have hsv8 := hsp.size
            clear hsp
            by_cases hlt : m < ys.length
            · have hk : ys[m]? = some ys[m] := List.getElem?_eq_getElem hlt
              have hmem : ys[m] ∈ ys := List.getElem_mem hlt
              generalize ys[m] = u at hk hmem
              obtain ⟨t, hzt, htv⟩ : ∃ t, zs[m]? = some t ∧ t.v = u.v := by
                have h := congrArg (fun q => q[m]?) HYW.out
                simp only [List.getElem?_map, hk, Option.map_some] at h
                cases hq : zs[m]? with
                | none => rw [hq] at h; cases h
                | some y' => rw [hq] at h; exact ⟨y', rfl, by simpa using h.symm⟩
              obtain ⟨lo, hi, hse⟩ : ∃ lo hi, iv[m]? = some (lo, hi) := ⟨_, _, List.getElem?_eq_getElem (by rw [HIL.out]; exact hlt)⟩
              obtain ⟨k1, k2, kin, kmn, -⟩ := HIV.out m t (lo, hi) hzt hse
              simp only at k1 k2 kin kmn
              obtain ⟨g, hla, hgb, hgl, ⟨cs, hgc, hgs⟩, hkeep⟩ := HZO.out.at_ (by omega)
              subst hla
              have hbk : wr.heap[g]? = w8.heap[g]? := HSP.out.blk g hgl fun j se hj hjse => by
                obtain ⟨zj, hzj⟩ : ∃ zj, zs[j]? = some zj := by
                  have h := congrArg List.length HYW.out
                  rw [List.length_map, List.length_map] at h
                  exact ⟨_, List.getElem?_eq_getElem (by omega)⟩
                exact (HIV.out j zj se hzj hjse).2.2.2.2 g rfl
              have hoz := hkeep wr hbk
              have hkk : ∀ k, lo ≤ k → k < hi → wr.heap[k]? = w8.heap[k]? := fun k h1 h2 => HSP.out.blk k (by omega) fun j se hj hjse => by
                have hp := List.pairwise_iff_getElem.1 HIP.out j m (List.getElem?_eq_some_iff.1 hjse).1 (List.getElem?_eq_some_iff.1 hse).1 hj
                rw [(List.getElem?_eq_some_iff.1 hjse).2, (List.getElem?_eq_some_iff.1 hse).2] at hp
                simp only at hp
                omega
              have hoz2 := ownC_sl (enc := AV.enc) AV.enc_len (by omega) (by rw [HZL.out]; exact hoz)
              have HIN := Lib.hid (kin.kept hsv8 fun k h1 h2 _ => hkk k h1 h2)
              have HMN := Lib.hid (kmn.kept hkk)
              obtain ⟨b2, o2, hla2, -, -, gb, c0, c1, c2, c3⟩ := vals_at hoz2 hzt
              cases hla2
              simp only [Nat.zero_add] at c0 c1 c2 c3
              obtain ⟨b3, o3, hla3, -, -, gb3, e0, e1, e2, e3⟩ := vals_at HYR.out.sl hk
              have hb5r : Below W5.heap.size W5 wr := below_via HB57.out HSP.out.bel
              rw [← hb5r.cell (p := ⟨_, _, none⟩) gb3] at e0 e1 e2 e3
              have gb3' : b3 < wr.heap.size := by have := hb5r.size; omega
              have hlt' : (m : Int) < (ys.length : Int) := by omega
              have hm0 : (0 : Int) ≤ (m : Int) := by omega
              have hwm : IntKind.i64.wrap ((m : Int) + 1) = ((m + 1 : Nat) : Int) := by rw [IntWalk.i64_in _ (by omega)]; omega
              have LD := Lib.hid (fun W (h : Below wr.heap.size wr W) => And.intro
                (And.intro ((h.cell (p := ⟨g, m * 4, none⟩) gb).trans c0) (And.intro ((h.cell (p := ⟨g, m * 4 + 1, none⟩) gb).trans c1) (And.intro ((h.cell (p := ⟨g, m * 4 + 2, none⟩) gb).trans c2) ((h.cell (p := ⟨g, m * 4 + 3, none⟩) gb).trans c3))))
                (And.intro ((h.cell (p := ⟨b3, o3 + m * 4, none⟩) gb3').trans e0) (And.intro ((h.cell (p := ⟨b3, o3 + m * 4 + 1, none⟩) gb3').trans e1) (And.intro ((h.cell (p := ⟨b3, o3 + m * 4 + 2, none⟩) gb3').trans e2) ((h.cell (p := ⟨b3, o3 + m * 4 + 3, none⟩) gb3').trans e3)))))
              have huw := (HYR.out.kids u hmem).2
              have htw : t.w ≤ 1048576 := by have : t.w = u.w := by { show t.v.w = u.v.w; rw [htv] }; omega
              have HRU := Lib.hid (show Rd wr u from ((HYR.out.kids u hmem).1).up hb5r)
              have HRT := Lib.hid (show Rd wr t from HIN.out.widen (Nat.zero_le _) (by omega))
              have HLK := fun W (h : Below wr.heap.size wr W) => Lib.hid (like_c t u W htv.symm (HRT.out.up h) (HRU.out.up h) htw)
              have HSPL := fun W (h : Below wr.heap.size wr W) => Lib.hid (spoil_c t lo hi W (HMN.out.kept fun q _ h2 => h.block q (by omega)) htw (by have := h.size; omega))
              have hla3 : a = some ⟨b3, o3, none⟩ := hla3
              have HLA3 := Lib.hid hla3
              have HSE := Lib.hid hse
              clear c0 c1 c2 c3 e0 e1 e2 e3 hla3 hoz hoz2 hkk hbk hkeep hgc hzt hk hse kin kmn hmem htv
              rw [HLA3.out]
              go_upto_region 22 with fail
              refine wp_region_bl (by kernel_rfl) (by kernel_rfl) ?_
              repeat (first | go_big_quiet_skip | (go_big_quiet_want; go_big_quiet_op; first | go_big_quiet_on | (refine ⟨_, fun _ _ => (by with_reducible rfl), ?_⟩; go_big_quiet_on) | (apply Exists.intro; refine ⟨fun w' hC => (by simp only [LD.out w' hC, Result.andThen]; exact ⟨trivial, rfl⟩), ?_⟩; go_big_quiet_on) | (apply Exists.intro; refine ⟨fun w' hC => (by (with_reducible refine (HLK w' hC).out.mono ?_); exact fun e w2 ⟨he, hb⟩ => ⟨he, hC.trans (hb.mono hC.size)⟩), ?_⟩; go_big_quiet_on)))
              refine wpQuiet_nil ?_; intro wz hbz
              obtain ⟨⟨c0, c1, c2, c3⟩, -⟩ := LD.out wz hbz
              have hbgz : g < wz.heap.size := by have := hbz.size; omega
              have HBZ := Lib.hid hbz
              clear hbz
              go_wp2_with (go_at_call 29; refine (HSPL _ (HBZ.out.trans (Below.mono (by repeat (first | exact Below.refl _ _ | refine Below.drew ?_ | refine below_drewN ?_ _ | refine Below.alloc ?_ (by first | omega | (simp; done) | (simp; omega)) _)) HBZ.out.size))).out.mono ?_; rintro e w10 ⟨rfl, hb10, hq10⟩)
              exact ⟨⟨m + 1, by omega, by go_num, ((HSP.out.below HBZ.out).below (by repeat (first | exact Below.refl _ _ | refine Below.drew ?_ | refine below_drewN ?_ _ | refine Below.alloc ?_ (by first | omega | (simp; done) | (simp; omega)) _))).next HSE.out k1 hb10 hq10⟩, by simp [intOf]; omega⟩
            · obtain rfl : m = ys.length := by omega
              have hge : ¬ (ys.length : Int) < (ys.length : Int) := by omega
              have hn0 : (0 : Int) ≤ (ys.length : Int) := by omega
              have hrow : 0 < ys.length → ∃ g cs, bz = some ⟨g, 0, none⟩ ∧ w7.heap.size ≤ g ∧ wr.heap[g]? = some (.cells cs 26 (0, 0)) ∧ ys.length * 4 ≤ cs.size := fun hp => by
                obtain ⟨g, hla, hgb, hgl, ⟨cs, hgc, hgs⟩, hkeep⟩ := HZO.out.at_ hp
                subst hla
                refine ⟨g, cs, rfl, hgb, (HSP.out.blk g hgl fun j se hj hjse => ?_).trans hgc, hgs⟩
                obtain ⟨zj, hzj⟩ : ∃ zj, zs[j]? = some zj := by
                  have h := congrArg List.length HYW.out
                  rw [List.length_map, List.length_map] at h
                  exact ⟨_, List.getElem?_eq_getElem (by omega)⟩
                exact (HIV.out j zj se hzj hjse).2.2.2.2 g rfl
              have HROW := Lib.hid hrow
              have HB7R := Lib.hid HSP.out.bel
              clear hrow
              obtain ⟨W6, hW6⟩ : ∃ W6, W6 = wr := ⟨_, rfl⟩
              subst hW6
              go_wp2_with fail
              go_loopw [16] (fun i wr => ∃ m : Nat, m ≤ ys.length ∧ i = .int .i64 m ∧ Below w7.heap.size w7 wr ∧ (0 < ys.length → ∃ g cs, bz = some ⟨g, 0, none⟩ ∧ w7.heap.size ≤ g ∧ wr.heap[g]? = some (.cells cs 26 (0, 0)) ∧ ys.length * 4 ≤ cs.size)) (fun i _ => ys.length - (intOf i).toNat)
              case atStart => exact ⟨0, Nat.zero_le _, by go_num, HB7R.out, HROW.out⟩
              case round =>
                obtain ⟨m, hm, rfl, hb7, hrow⟩ := hrel
                have hs7 := hb7.size
                have HB7 := Lib.hid hb7
                clear hb7
                by_cases hlt : m < ys.length
                · obtain ⟨g, cs, hla, hg7, hgc, hgs⟩ := hrow (by omega)
                  subst hla
                  have hgl : g < wr.heap.size := lt_of_blk hgc
                  obtain ⟨⟨v0, g0⟩, z0⟩ := cells_at (j := m * 4) hgc (by omega)
                  obtain ⟨⟨v1, g1⟩, z1⟩ := cells_at (j := m * 4 + 1) hgc (by omega)
                  obtain ⟨⟨v2, g2⟩, z2⟩ := cells_at (j := m * 4 + 2) hgc (by omega)
                  obtain ⟨⟨v3, g3⟩, z3⟩ := cells_at (j := m * 4 + 3) hgc (by omega)
                  have HGC := Lib.hid hgc
                  have HGS := Lib.hid hgs
                  have hlt' : (m : Int) < (ys.length : Int) := by omega
                  have hm0 : (0 : Int) ≤ (m : Int) := by omega
                  have hwm : IntKind.i64.wrap ((m : Int) + 1) = ((m + 1 : Nat) : Int) := by rw [IntWalk.i64_in _ (by omega)]; omega
                  clear hgc hgs hrow
                  go_wp2_with fail
                  refine ⟨⟨m + 1, by omega, by go_num, ?_, fun _ => ?_⟩, by simp [intOf]; omega⟩
                  · show Below w7.heap.size w7 (put4 wr g (m * 4) _ _ _ _)
                    exact (((HB7.out.setCell (p := ⟨g, m * 4, none⟩) hg7 _).setCell (p := ⟨g, m * 4 + 1, none⟩) hg7 _).setCell (p := ⟨g, m * 4 + 2, none⟩) hg7 _).setCell (p := ⟨g, m * 4 + 3, none⟩) hg7 _
                  · obtain ⟨cs', e1, e2⟩ := put4_cells (o := m * 4) (a := .int .u8 0) (b := .string ⟨#[115, 112, 111, 105, 108, 116]⟩) (c := .slice none 0 0) (d := .slice none 0 0) HGC.out
                    exact ⟨g, cs', rfl, hg7, e1, by rw [e2]; exact HGS.out⟩
                · obtain rfl : m = ys.length := by omega
                  have hge : ¬ (ys.length : Int) < (ys.length : Int) := by omega
                  have hww : Below w.heap.size w wr := below_via HW7.out HB7.out
                  have HWW := Lib.hid hww
                  clear hrow hww
                  go_wp2_with (first
                    | (go_at_call 36; first
                      | ((with_reducible refine (L1 _ HB7.out).out.mono ?_); rintro e w11 ⟨rfl, hb11⟩)
                      | ((with_reducible refine (L2 _ (below_via HB7.out hb11)).out.mono ?_); rintro e w12 ⟨rfl, hb12⟩)
                      | ((with_reducible refine (L3 _ (below_via (below_via HB7.out hb11) hb12)).out.mono ?_); rintro e w13 ⟨rfl, hb13⟩))
                    | (go_at_call 31; refine (HLV _ (below_via (below_via (below_via HWW.out hb11) hb12) hb13)).out.mono ?_; rintro e w14 ⟨rfl, hb14⟩))
                  go_ret
                  exact ⟨rfl, below_via (below_via (below_via (below_via HWW.out hb11) hb12) hb13) hb14⟩
end Go.Proofs.YtjihepdjcbpgoaaGreatDoor
