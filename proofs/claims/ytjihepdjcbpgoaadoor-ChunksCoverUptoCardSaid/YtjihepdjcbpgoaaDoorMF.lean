/-
  lcs.Pairs: the earliest longest common part. Conditions: the lists lie in memory, their elements' weights are bounded; strconv's table of powers holds what its initialiser lays.
-/
import Derived.Test.YtjihepdjcbpgoaaDoorMD
import Derived.Test.YtjihepdjcbpgoaaDoorME
import Derived.Test.YtjihepdjcbpgoaaDoorTC
import Derived.Deep.Onto
namespace Go.Proofs.YtjihepdjcbpgoaaDoor
open Go.RowKit Go.Sort

abbrev prE (p : Nat × Nat) : List Value := [.int .i64 p.1, .int .i64 p.2]
theorem prE_len (p : Nat × Nat) : (prE p).length = 2 := rfl
theorem info_pr : (Tryd.prog.info? 35).map (fun i => (i.zero, i.size, i.bytes)) = some (some (.agg #[.int .i64 0, .int .i64 0]), 2, 16) := by kernel_rfl
def OwnPr (w : World) (base : Nat) (v : Value) (l : List (Nat × Nat)) : Prop := w.ownsRow base 35 2 v l.length (l.flatMap prE)
theorem make_prs (c : Nat) (hc : c ≤ 4194304) : ∃ mc, ∀ W : World, (Instr.makeSlice 30 (.int .i64 0) (.int .i64 (c : Int))).run Tryd.prog W = .ok (.slice (some ⟨W.heap.size, 0, none⟩) 0 c) (W.alloc (.cells mc 35)) ∧ OwnPr (W.alloc (.cells mc 35)) W.heap.size (.slice (some ⟨W.heap.size, 0, none⟩) 0 c) [] := by
  obtain ⟨i0, hi, hz0, hz1, hz2⟩ := info_parts info_pr
  refine ⟨madeCells (Value.agg #[.int .i64 0, .int .i64 0]).cells (c * i0.size), fun W => ?_⟩
  have h := run_make (P := Tryd.prog) W 30 35 i0 _ Tryd.underlying30 hi hz0 .i64 .i64 0 c (Int.le_refl _) (by omega) (by rw [hz2]; omega) (by omega)
  rw [Int.toNat_natCast] at h
  refine ⟨h, rfl, .inr ⟨W.heap.size, c, _, rfl, Nat.le_refl _, heap_alloc_new W _, Nat.zero_le _, by unfold maxLen; omega, by rw [size_madeCells, hz1], by simp⟩⟩
/-- One more pair, where there is room. -/
theorem app_pr {w : World} {base g n cap : Nat} {P : List (Nat × Nat)} (hP : P.length = n) (hown : OwnPr w base (.slice (some ⟨g, 0, none⟩) n cap) P) (hbase : base ≤ w.heap.size) (hroom : n < cap) (p : Nat × Nat) :
    ∃ w', (∀ ty, (Builtin.append_ #[30, 30] ty #[.slice (some ⟨g, 0, none⟩) n cap, .slice (some ⟨w.heap.size, 0, none⟩) 1 1]).run Tryd.prog (w.alloc (.cells #[.int .i64 p.1, .int .i64 p.2] 35)) = .ok (.slice (some ⟨g, 0, none⟩) (n + 1) cap) w') ∧
      OwnPr w' base (.slice (some ⟨g, 0, none⟩) (n + 1) cap) (P ++ [p]) ∧ Below base w w' := by
  subst hP
  obtain ⟨i0, hi, hz0, hz1, hz2⟩ := info_parts info_pr
  have hba := (Below.refl w.heap.size w).alloc (Nat.le_refl _) (.cells #[.int .i64 p.1, .int .i64 p.2] 35)
  have hn := heap_alloc_new w (.cells #[.int .i64 p.1, .int .i64 p.2] 35)
  have ho : (w.alloc (.cells #[.int .i64 p.1, .int .i64 p.2] 35)).ownsRow base 35 2 (.slice (some ⟨g, 0, none⟩) P.length cap) P.length (P.flatMap prE) := own_below hown hba
  have hfits := fun ty => run_append_fits (P := Tryd.prog) _ base 30 ty 35 i0 2 Tryd.underlying30 hi hz1 g P.length cap _ ho ⟨w.heap.size, 0, none⟩ 1 1 (prE p) rfl (fun j u hj => by
    rw [add_none]
    rcases j with _ | _ | j
    · simp at hj; subst hj; exact (Go.Joins.cell_of_block hn 0).trans rfl
    · simp at hj; subst hj; exact (Go.Joins.cell_of_block hn 1).trans rfl
    · simp at hj) (fun u hu => by simp at hu; rcases hu with rfl | rfl <;> rfl) (by omega)
  obtain ⟨w', h1, h2, h3⟩ := hfits 0
  refine ⟨w', fun ty => ?_, ?_, ?_⟩
  · obtain ⟨w'', g1, -, -⟩ := hfits ty
    have : (Builtin.append_ #[30, 30] ty #[.slice (some ⟨g, 0, none⟩) P.length cap, .slice (some ⟨w.heap.size, 0, none⟩) 1 1]) = (Builtin.append_ #[30, 30] 0 #[.slice (some ⟨g, 0, none⟩) P.length cap, .slice (some ⟨w.heap.size, 0, none⟩) 1 1]) := rfl
    rw [this]; exact h1
  · unfold OwnPr
    rw [List.length_append, List.flatMap_append]
    exact h2
  · have hgb := (World.ownsRow.lt hown g rfl).1
    exact (((Below.refl base w).alloc hbase _).grown h3 (by rw [World.size_alloc]; omega) (fun q hq => by have := Option.some.inj hq; omega))
theorem sl_drop {w : World} {lo hi b off : Nat} {l : List Int} (h : SlE i64E 1 w lo hi (some ⟨b, off, none⟩) l) (s : Nat) : SlE i64E 1 w lo hi (some ⟨b, off + s, none⟩) (l.drop s) := fun hl => by
  obtain ⟨b', off', e, h1, h2, h3, h4⟩ := h (by rw [List.length_drop] at hl; omega)
  injection e with e
  injection e with e1 e2
  subst e1; subst e2
  refine ⟨b, off + s, rfl, h1, h2, h3, fun i x hx => ?_⟩
  rw [List.getElem?_drop] at hx
  have := h4 _ x hx
  rw [show off + s + i * 1 = off + (s + i) * 1 by omega]
  exact this
theorem diag_snoc (n : Nat) : diag (n + 1) = diag n ++ [(n, n)] := by simp [diag, List.range_succ]
theorem diag_len (n : Nat) : (diag n).length = n := by simp [diag]
theorem split_take {α : Type} {X Y : List α} {s : Nat} (hs : s ≤ X.length) (hs2 : s ≤ Y.length) (h : ∀ j, j < s → X[j]? = Y[j]?) : X.take s = Y.take s := by
  apply List.ext_getElem?
  intro i
  rcases Nat.lt_or_ge i s with hi | hi
  · rw [List.getElem?_take, List.getElem?_take, if_pos hi, if_pos hi, h i hi]
  · rw [List.getElem?_eq_none (by rw [List.length_take]; omega), List.getElem?_eq_none (by rw [List.length_take]; omega)]
theorem early_split {X Y : List Int} {s : Nat} {R : List (Nat × Nat)} (hs : s ≤ X.length) (hs2 : s ≤ Y.length) (h : ∀ j, j < s → X[j]? = Y[j]?) (he : Early (X.drop s) (Y.drop s) 0 0 R) : Early X Y 0 0 (diag s ++ shP s s R) := by
  have := early_front (X.take s) he
  rw [List.length_take, Nat.min_eq_left hs] at this
  have e1 : X.take s ++ X.drop s = X := List.take_append_drop s X
  have e2 : X.take s ++ Y.drop s = Y := by rw [split_take hs hs2 h]; exact List.take_append_drop s Y
  rw [e1, e2] at this
  exact this

def PairsPost (a b : List Val) (w : World) (e : Ending) (w' : World) : Prop :=
  ∃ (G : Nat) (P : List (Nat × Nat)), e = .returned (.slice (some ⟨G, 0, none⟩) P.length P.length) ∧ Early (labs 0 a) (labs 1 b) 0 0 P ∧ OwnPr w' w.heap.size (.slice (some ⟨G, 0, none⟩) P.length P.length) P ∧ Below w.heap.size w w'
set_option maxRecDepth 100000 in
set_option maxHeartbeats 3200000 in
theorem pairs_c (w : World) (x y : LA) (hx : x.Rd w) (hy : y.Rd w) (hP : Pow w) : Calls Tryd.prog 11 #[.slice x.a x.l.length x.c, .slice y.a y.l.length y.c] w (PairsPost x.v y.v w) := by
  have HN := Lib.hid (names_n w x y hx hy hP)
  have hxl := hx.len
  have hyl := hy.len
  clear hx hy hP
  go_enter Tryd.func11, Tryd.ntmps11
  go_wp2_with (go_at_call 28; refine HN.out.mono ?_; rintro e w1 ⟨A, B, N, M, rfl, hnl', hml', hsm, hA, hB, hb1⟩
               have HNL := Lib.hid hnl'
               have HML := Lib.hid hml'
               clear hnl' hml')
  have hn1 : N.length ≤ 1048576 := by rw [HNL.out, LA.v, List.length_map]; exact hxl
  have hm1 : M.length ≤ 1048576 := by rw [HML.out, LA.v, List.length_map]; exact hyl
  have HSM := Lib.hid hsm
  have HA := Lib.hid hA
  have HB := Lib.hid hB
  have HB1 := Lib.hid hb1
  clear HN hsm hA hB hb1
  go_loopw [7] (fun s7 wr => ∃ s : Nat, s ≤ N.length ∧ s ≤ M.length ∧ s7 = .int .i64 s ∧ (∀ j, j < s → N[j]? = M[j]?) ∧ Below w1.heap.size w1 wr) (fun s7 _ => N.length - (intOf s7).toNat)
  case atStart => exact ⟨0, Nat.zero_le _, Nat.zero_le _, by go_num, fun j hj => absurd hj (Nat.not_lt_zero _), Below.refl _ _⟩
  case round =>
    obtain ⟨s, hs1, hs2, rfl, hpre, hbr⟩ := hrel
    have HPRE := Lib.hid hpre
    have HBR := Lib.hid hbr
    have hws : IntKind.i64.wrap ((s : Int) + 1) = ((s + 1 : Nat) : Int) := by rw [IntWalk.i64_in _ (by omega)]; omega
    by_cases hon : ∃ v, N[s]? = some v ∧ M[s]? = some v
    · obtain ⟨v, h1, h2⟩ := hon
      obtain ⟨b1, o1, e1, -, -, g1, c1⟩ := i64_at HA.out h1
      obtain ⟨b2, o2, e2, -, -, g2, c2⟩ := i64_at HB.out h2
      cases e1; cases e2
      rw [← hbr.cell (p := ⟨_, _, none⟩) g1] at c1
      rw [← hbr.cell (p := ⟨_, _, none⟩) g2] at c2
      have hl1 : (s : Int) < (N.length : Int) := by have := (List.getElem?_eq_some_iff.1 h1).1; omega
      have hl2 : (s : Int) < (M.length : Int) := by have := (List.getElem?_eq_some_iff.1 h2).1; omega
      have hs0 : (0 : Int) ≤ (s : Int) := by omega
      have f1 : A < wr.heap.size := Nat.lt_of_lt_of_le g1 hbr.size
      have f2 : B < wr.heap.size := Nat.lt_of_lt_of_le g2 hbr.size
      have HE := Lib.hid (h1.trans h2.symm)
      simp only [Nat.zero_add] at c1 c2
      clear hpre hbr h1 h2
      go_upto_region 3 with fail
      go_region
      go_wp2_with fail
      refine ⟨⟨s + 1, by omega, by omega, by go_num, fun j hj => ?_, HBR.out.drew⟩, by simp [intOf]; omega⟩
      rcases Nat.lt_or_ge j s with h | h
      · exact HPRE.out j h
      · obtain rfl : j = s := by omega
        exact HE.out
    · have HON := Lib.hid hon
      clear hpre hbr hon
      go_upto_region 3 with fail
      go_cut [40] (fun s40 wx => s40 = .bool false ∧ Below w1.heap.size w1 wx)
      case first =>
        by_cases l1 : s < N.length
        · have l1' : (s : Int) < (N.length : Int) := by omega
          have hs0 : (0 : Int) ≤ (s : Int) := by omega
          by_cases l2 : s < M.length
          · have l2' : (s : Int) < (M.length : Int) := by omega
            have h1 : N[s]? = some N[s] := List.getElem?_eq_getElem l1
            have h2 : M[s]? = some M[s] := List.getElem?_eq_getElem l2
            generalize N[s] = v1 at h1
            generalize M[s] = v2 at h2
            obtain ⟨b1, o1, e1, -, -, g1, c1⟩ := i64_at HA.out h1
            obtain ⟨b2, o2, e2, -, -, g2, c2⟩ := i64_at HB.out h2
            cases e1; cases e2
            rw [← HBR.out.cell (p := ⟨_, _, none⟩) g1] at c1
            rw [← HBR.out.cell (p := ⟨_, _, none⟩) g2] at c2
            have f1 : A < wr.heap.size := Nat.lt_of_lt_of_le g1 HBR.out.size
            have f2 : B < wr.heap.size := Nat.lt_of_lt_of_le g2 HBR.out.size
            have hne : (v1 == v2) = false := beq_false_of_ne fun e => by subst e; exact HON.out ⟨v1, h1, h2⟩
            simp only [Nat.zero_add] at c1 c2
            clear h1 h2
            go_region
            go_wp2_with fail
            go_meet
            exact ⟨rfl, HBR.out.drew⟩
          · have l2' : ¬ (s : Int) < (M.length : Int) := by omega
            go_region
            go_wp2_with fail
            go_meet
            exact ⟨rfl, HBR.out.drew⟩
        · have l1' : ¬ (s : Int) < (N.length : Int) := by omega
          go_region
          go_wp2_with fail
          go_meet
          exact ⟨rfl, HBR.out.drew⟩
      case rest =>
        obtain ⟨rfl, hbc⟩ := hcut
        have hsn0 : (0 : Int) ≤ (s : Int) := by omega
        have hsn : (s : Int) ≤ (N.length : Int) := by omega
        have hsm : (s : Int) ≤ (M.length : Int) := by omega
        obtain ⟨X, hXe⟩ : ∃ X, X = N.drop s := ⟨_, rfl⟩
        obtain ⟨Y, hYe⟩ : ∃ Y, Y = M.drop s := ⟨_, rfl⟩
        have hXl : X.length = N.length - s := by rw [hXe, List.length_drop]
        have hYl : Y.length = M.length - s := by rw [hYe, List.length_drop]
        obtain ⟨PA, hPA⟩ : ∃ PA, (if N.length = s then some (⟨A, 0, none⟩ : Addr) else some ⟨A, s, none⟩) = PA := ⟨_, rfl⟩
        obtain ⟨PB, hPB⟩ : ∃ PB, (if M.length = s then some (⟨B, 0, none⟩ : Addr) else some ⟨B, s, none⟩) = PB := ⟨_, rfl⟩
        have HSX := Lib.hid (show SlE i64E 1 w1 w.heap.size w1.heap.size PA X by
          rw [← hPA]
          split
          · intro h; omega
          · rw [hXe]; have := sl_drop HA.out s; rwa [Nat.zero_add] at this)
        have HSY := Lib.hid (show SlE i64E 1 w1 w.heap.size w1.heap.size PB Y by
          rw [← hPB]
          split
          · intro h; omega
          · rw [hYe]; have := sl_drop HB.out s; rwa [Nat.zero_add] at this)
        have HT := fun W (h : Below w1.heap.size w1 W) => Lib.hid (show Calls Tryd.prog 29 #[.slice PA (N.length - s) (N.length - s), .slice PB (M.length - s) (M.length - s)] W (TailsPost X Y W) by
          have := tails_c W PA PB (N.length - s) (M.length - s) X Y ((HSX.out.widen (Nat.zero_le _) (Nat.le_refl _)).up h) ((HSY.out.widen (Nat.zero_le _) (Nat.le_refl _)).up h) (by omega) (by omega)
          rw [hXl, hYl] at this
          exact this)
        have HXL := Lib.hid hXl
        have HYL := Lib.hid hYl
        have HXE := Lib.hid hXe
        have HYE := Lib.hid hYe
        have hn2 : X.length ≤ 1048576 := by omega
        have hm2 : Y.length ≤ 1048576 := by omega
        have HBC := Lib.hid hbc
        clear hXl hYl hXe hYe hbc
        go_upto_region 5 with fail
        have hN := Nat.le_refl wc.heap.size
        go_region_held3 (fun w' => (∀ b o, b < wc.heap.size → w'.cell? ⟨b, o, none⟩ = wc.cell? ⟨b, o, none⟩) ∧ Below wc.heap.size wc w')
          (first | (with_reducible exact Q1.out) | exact s_of (Below.refl _ _).drew)
          (first
            | (go_at_call 29; refine (HT _ HBC.out.drew).out.mono ?_; rintro e w2 ⟨rfl, htab⟩
               have Q1 := Lib.hid (s_of (N := wc.heap.size) (below_of_drew htab.below))))
        have hbw2 : Below w1.heap.size w1 w2 := below_via HBC.out (below_of_drew htab.below)
        have HTB := Lib.hid (show Tab X Y wc.drew w2 0 from htab)
        have HBW2 := Lib.hid hbw2
        obtain ⟨n1, hn1'⟩ : ∃ n1, n1 = X.length + 1 := ⟨_, rfl⟩
        obtain ⟨m1, hm1'⟩ : ∃ m1, m1 = Y.length + 1 := ⟨_, rfl⟩
        have TOP := fun (i : Nat) (hi : i ≤ X.length) => Lib.hid (show w2.cell? ⟨wc.heap.size, i, none⟩ = some (.slice (some ⟨wc.heap.size + 1 + (X.length - i), 0, none⟩) m1 m1) by
          have h := htab.top.cell (j := i) (by omega)
          rw [tabF, if_pos (Nat.zero_le _), ← hm1'] at h
          exact h)
        have ROW := fun (i k : Nat) (hi : i ≤ X.length) (hk : k ≤ Y.length) => Lib.hid (show w2.cell? ⟨wc.heap.size + 1 + (X.length - i), k, none⟩ = some (.int .i64 (lcsT X Y i k : Nat)) from (htab.rows i (Nat.zero_le _) hi).cell (by omega))
        have TL := Lib.hid (show wc.heap.size < w2.heap.size from htab.top.lt)
        have RL := fun (i : Nat) (hi : i ≤ X.length) => Lib.hid (show wc.heap.size + 1 + (X.length - i) < w2.heap.size from (htab.rows i (Nat.zero_le _) hi).lt)
        have HN1 := Lib.hid hn1'
        have HM1 := Lib.hid hm1'
        obtain ⟨c0, hc0⟩ : ∃ c0, c0 = lcsT X Y 0 0 := ⟨_, rfl⟩
        have hc0l : c0 ≤ X.length := by rw [hc0]; have := lcs_le_l (X.drop 0) (Y.drop 0); rw [List.length_drop] at this; exact Nat.le_trans this (by omega)
        obtain ⟨cap, hcap⟩ : ∃ cap, cap = s + c0 := ⟨_, rfl⟩
        have hcw : IntKind.i64.wrap ((s : Int) + (c0 : Int)) = (cap : Int) := by rw [IntWalk.i64_in _ (by omega)]; omega
        obtain ⟨mc, hmk⟩ := make_prs cap (by omega)
        have hmk1 := fun W => (hmk W).1
        have HO1 := fun W => Lib.hid (hmk W).2
        have HCAP := Lib.hid hcap
        have HC0 := Lib.hid hc0
        have t0 := (TOP 0 (Nat.zero_le _)).out
        have t1 := (ROW 0 0 (Nat.zero_le _) (Nat.zero_le _)).out
        rw [← hc0] at t1
        have t2 := TL.out
        have t3 := (RL 0 (Nat.zero_le _)).out
        obtain ⟨B0, hB0⟩ : ∃ B0, B0 = wc.heap.size + 1 + (X.length - 0) := ⟨_, rfl⟩
        rw [← hB0] at t0 t1 t3
        have hz1 : (0 : Int) < (n1 : Int) := by omega
        have hz2 : (0 : Int) < (m1 : Int) := by omega
        have hn1z : ((X.length : Int) + 1) = (n1 : Int) := by omega
        rw [← hn1']
        clear hmk htab hbw2 hcap hc0 hn1' hm1' hB0 Q1 HT
        go_wp2_with fail
        have HOW0 := Lib.hid (HO1 w2).out
        clear hmk1 t0 t1 t2 t3 HO1
        have hn1f := HN1.out
        have hm1f := HM1.out
        have hcapf := HCAP.out
        have hXLf := HXL.out
        have hYLf := HYL.out
        have hscap : s ≤ cap := by omega
        have hwx : IntKind.i64.wrap ((N.length : Int) - (s : Int)) = (X.length : Int) := by rw [IntWalk.i64_in _ (by omega)]; omega
        have hwy : IntKind.i64.wrap ((M.length : Int) - (s : Int)) = (Y.length : Int) := by rw [IntWalk.i64_in _ (by omega)]; omega
        have HLN := Lib.hid (show N.length = s + X.length by omega)
        have HLM := Lib.hid (show M.length = s + Y.length by omega)
        have HCL := Lib.hid (show cap ≤ 4194304 by omega)
        clear hn1f hm1f hcapf hXLf hYLf
        go_loopw [9, 59] (fun s9 s59 wr => ∃ i : Nat, i ≤ s ∧ s59 = .int .i64 i ∧ s9 = .slice (some ⟨w2.heap.size, 0, none⟩) i cap ∧ OwnPr wr w2.heap.size (.slice (some ⟨w2.heap.size, 0, none⟩) i cap) (diag i) ∧ Below w2.heap.size w2 wr) (fun _ s59 _ => s - (intOf s59).toNat)
        case atStart => exact ⟨0, Nat.zero_le _, by go_num, rfl, HOW0.out, (Below.refl _ _).alloc (Nat.le_refl _) _⟩
        case round =>
          obtain ⟨i, hi, rfl, rfl, hown, hbr2⟩ := hrel
          have HOW := Lib.hid hown
          have HBR2 := Lib.hid hbr2
          clear HOW0
          by_cases hlt : i < s
          · have hlt' : (i : Int) < (s : Int) := by omega
            have hwi : IntKind.i64.wrap ((i : Int) + 1) = ((i + 1 : Nat) : Int) := by rw [IntWalk.i64_in _ (by omega)]; omega
            obtain ⟨W', hrun, ho', hb'⟩ := app_pr (diag_len i) hown hbr2.size (by omega) (i, i)
            have HO' := Lib.hid ho'
            have HB' := Lib.hid hb'
            clear hown hbr2 ho' hb'
            go_wp2_with (at_builtin; refine wl_append (s := .tmp 62) (x := .tmp 66) rfl rfl (hrun _) ?_; clear hrun)
            refine ⟨⟨i + 1, by omega, by go_num, rfl, ?_, HBR2.out.trans HB'.out⟩, by simp [intOf]; omega⟩
            rw [diag_snoc]; exact HO'.out
          · obtain rfl : i = s := by omega
            have hge : ¬ (i : Int) < (i : Int) := by omega
            clear hown hbr2
            go_wp2_with fail
            go_loopw [9, 11, 12] (fun s9 s11 s12 wl => ∃ (q k : Nat) (Q : List (Nat × Nat)), q ≤ X.length ∧ k ≤ Y.length ∧ s11 = .int .i64 k ∧ s12 = .int .i64 q ∧ s9 = .slice (some ⟨w2.heap.size, 0, none⟩) (i + Q.length) cap ∧ OwnPr wl w2.heap.size (.slice (some ⟨w2.heap.size, 0, none⟩) (i + Q.length) cap) (diag i ++ shP i i Q) ∧
              Q.length + lcsT X Y q k = c0 ∧ (∀ P, Early X Y q k P → Early X Y 0 0 (Q ++ P)) ∧ Below w2.heap.size w2 wl) (fun _ _ s12 _ => X.length - (intOf s12).toNat)
            case atStart => exact ⟨0, 0, [], Nat.zero_le _, Nat.zero_le _, by go_num, by go_num, by simp, by simpa [shP] using HOW.out, by rw [HC0.out]; simp, fun P h => h, HBR2.out⟩
            case round =>
              obtain ⟨q, k, Q, hq, hk, rfl, rfl, rfl, hown, hqc, hearly, hbl⟩ := hrel
              have HOL := Lib.hid hown
              have HQC := Lib.hid hqc
              have HEA := Lib.hid hearly
              have HBL := Lib.hid hbl
              clear hown hqc hearly hbl HOW HBR2
              by_cases hqx : q < X.length
              · have hqx' : (q : Int) < (X.length : Int) := by omega
                have hwq : IntKind.i64.wrap ((q : Int) + 1) = ((q + 1 : Nat) : Int) := by rw [IntWalk.i64_in _ (by omega)]; omega
                go_wp2_with fail
                go_loopw [9, 11, 13] (fun s9 s11 s13 wi => ∃ j : Nat, k ≤ j ∧ j ≤ Y.length ∧ s13 = .int .i64 j ∧ s9 = .slice (some ⟨w2.heap.size, 0, none⟩) (i + Q.length) cap ∧ s11 = .int .i64 k ∧ (∀ p, k ≤ p → p < j → ¬ Mt X Y q p) ∧ OwnPr wi w2.heap.size (.slice (some ⟨w2.heap.size, 0, none⟩) (i + Q.length) cap) (diag i ++ shP i i Q) ∧ Below w2.heap.size w2 wi) (fun _ _ s13 _ => Y.length - (intOf s13).toNat)
                case atStart => exact ⟨k, Nat.le_refl _, hk, by go_num, rfl, rfl, fun p h1 h2 => by omega, HOL.out, HBL.out⟩
                case round =>
                  obtain ⟨j, hkj, hjy, rfl, rfl, rfl, hno, hown, hbi⟩ := hrel
                  have HNO := Lib.hid hno
                  have HOI := Lib.hid hown
                  have HBI := Lib.hid hbi
                  have hwj : IntKind.i64.wrap ((j : Int) + 1) = ((j + 1 : Nat) : Int) := by rw [IntWalk.i64_in _ (by omega)]; omega
                  clear hno hown hbi
                  go_upto_region 17 with fail
                  go_cut [9, 11, 100] (fun s9 s11 s100 wx => s9 = .slice (some ⟨w2.heap.size, 0, none⟩) (i + Q.length) cap ∧ s11 = .int .i64 k ∧ s100 = .bool (decide (j < Y.length ∧ lcsT X Y q j = lcsT X Y q k)) ∧ OwnPr wx w2.heap.size (.slice (some ⟨w2.heap.size, 0, none⟩) (i + Q.length) cap) (diag i ++ shP i i Q) ∧ Below w2.heap.size w2 wx)
                  case first =>
                    by_cases hjl : j < Y.length
                    · have hjl' : (j : Int) < (Y.length : Int) := by omega
                      have hjm : (j : Int) < (m1 : Int) := by have := HM1.out; omega
                      have hkm : (k : Int) < (m1 : Int) := by have := HM1.out; omega
                      have hqn : (q : Int) < (n1 : Int) := by have := HN1.out; omega
                      have h0 : (0 : Int) ≤ (q : Int) ∧ (0 : Int) ≤ (j : Int) ∧ (0 : Int) ≤ (k : Int) := by omega
                      have t0 := (HBI.out.cell (p := ⟨wc.heap.size, q, none⟩) TL.out).trans (TOP q hq).out
                      have t1 := (HBI.out.cell (p := ⟨wc.heap.size + 1 + (X.length - q), j, none⟩) (RL q hq).out).trans (ROW q j hq hjy).out
                      have t2 := (HBI.out.cell (p := ⟨wc.heap.size + 1 + (X.length - q), k, none⟩) (RL q hq).out).trans (ROW q k hq hk).out
                      have l1 : wc.heap.size < wr.heap.size := Nat.lt_of_lt_of_le TL.out HBI.out.size
                      have l2 : wc.heap.size + 1 + (X.length - q) < wr.heap.size := Nat.lt_of_lt_of_le (RL q hq).out HBI.out.size
                      have hdec : ((lcsT X Y q j : Nat) : Int) = ((lcsT X Y q k : Nat) : Int) ↔ lcsT X Y q j = lcsT X Y q k := by omega
                      generalize wc.heap.size + 1 + (X.length - q) = Bq at *
                      generalize lcsT X Y q j = tj at *
                      generalize lcsT X Y q k = tk at *
                      by_cases htt : tj = tk
                      · subst htt
                        clear hdec
                        go_region
                        go_wp2_with fail
                        go_meet
                        exact ⟨rfl, rfl, by simp [hjl], own_drew HOI.out, HBI.out.drew⟩
                      · have hb1 : ((tj : Int) == (tk : Int)) = false := beq_false_of_ne (by omega)
                        have hb2 : (tj == tk) = false := beq_false_of_ne htt
                        have hb3 : decide (tj = tk) = false := decide_eq_false htt
                        clear hdec
                        go_region
                        go_wp2_with fail
                        go_meet
                        exact ⟨rfl, rfl, by rw [decide_eq_false fun h => htt h.2], own_drew HOI.out, HBI.out.drew⟩
                    · have hjl' : ¬ (j : Int) < (Y.length : Int) := by omega
                      go_region
                      go_wp2_with fail
                      go_meet
                      exact ⟨rfl, rfl, by rw [decide_eq_false fun h => hjl h.1], own_drew HOI.out, HBI.out.drew⟩
                  case rest =>
                    obtain ⟨rfl, rfl, rfl, hown, hbc⟩ := hcut
                    have HOC := Lib.hid hown
                    have HBC2 := Lib.hid hbc
                    clear hown hbc
                    by_cases hcond : j < Y.length ∧ lcsT X Y q j = lcsT X Y q k
                    · rw [decide_eq_true hcond]
                      obtain ⟨hjl, htt⟩ := hcond
                      have hxk : X[q]? = some X[q] := List.getElem?_eq_getElem hqx
                      have hyk : Y[j]? = some Y[j] := List.getElem?_eq_getElem hjl
                      generalize X[q] = u at hxk
                      generalize Y[j] = v at hyk
                      have hxn : N[i + q]? = some u := by have h := hxk; rw [HXE.out, List.getElem?_drop] at h; exact h
                      have hyn : M[i + j]? = some v := by have h := hyk; rw [HYE.out, List.getElem?_drop] at h; exact h
                      obtain ⟨b1, o1, e1, -, -, g1, c1⟩ := i64_at HA.out hxn
                      obtain ⟨b2, o2, e2, -, -, g2, c2⟩ := i64_at HB.out hyn
                      cases e1; cases e2
                      rw [← HBW2.out.cell (p := ⟨_, _, none⟩) g1, ← HBC2.out.cell (p := ⟨_, _, none⟩) (Nat.lt_of_lt_of_le g1 HBW2.out.size)] at c1
                      rw [← HBW2.out.cell (p := ⟨_, _, none⟩) g2, ← HBC2.out.cell (p := ⟨_, _, none⟩) (Nat.lt_of_lt_of_le g2 HBW2.out.size)] at c2
                      have f1 : A < wc.heap.size := Nat.lt_of_lt_of_le g1 (Nat.le_trans HBW2.out.size HBC2.out.size)
                      have f2 : B < wc.heap.size := Nat.lt_of_lt_of_le g2 (Nat.le_trans HBW2.out.size HBC2.out.size)
                      simp only [Nat.zero_add] at c1 c2
                      obtain ⟨si, hsi⟩ : ∃ si, si = i + q := ⟨_, rfl⟩
                      obtain ⟨sj, hsj⟩ : ∃ sj, sj = i + j := ⟨_, rfl⟩
                      have hwsi : IntKind.i64.wrap ((i : Int) + (q : Int)) = (si : Int) := by rw [IntWalk.i64_in _ (by omega)]; omega
                      have hwsj : IntKind.i64.wrap ((i : Int) + (j : Int)) = (sj : Int) := by rw [IntWalk.i64_in _ (by omega)]; omega
                      have hln := HLN.out
                      have hlm := HLM.out
                      have hb1 : (0 : Int) ≤ (si : Int) ∧ (si : Int) < (N.length : Int) := by omega
                      have hb2 : (0 : Int) ≤ (sj : Int) ∧ (sj : Int) < (M.length : Int) := by omega
                      rw [← hsi] at c1
                      rw [← hsj] at c2
                      clear hln hlm hxn hyn
                      by_cases huv : u = v
                      · have hmt : Mt X Y q j := ⟨u, hxk, by rw [hyk, huv]⟩
                        have hup := hmt.up
                        have huvb : (u == v) = true := by simp [huv]
                        have hroom : i + Q.length < cap := by have h1 := HQC.out; have h2 := HCAP.out; omega
                        have hQl : (diag i ++ shP i i Q).length = i + Q.length := by rw [List.length_append, diag_len, shP, List.length_map]
                        obtain ⟨W', hrun, ho', hb'⟩ := app_pr hQl (own_drew HOC.out) HBC2.out.drew.size hroom (si, sj)
                        have HO' := Lib.hid ho'
                        have HB' := Lib.hid hb'
                        have HMT := Lib.hid hmt
                        have HUP := Lib.hid hup
                        have HTT := Lib.hid htt
                        have HSI := Lib.hid (And.intro hsi hsj)
                        clear ho' hb' hmt hup htt huv hxk hyk hsi hsj hQl
                        go_wp2_with fail
                        go_region
                        go_wp2_with (at_builtin; refine wl_append (s := .tmp 116) (x := .tmp 124) rfl rfl (hrun _) ?_; clear hrun)
                        refine ⟨⟨q + 1, j + 1, Q ++ [(q, j)], by omega, by omega, by go_num, by go_num, by simp; omega, ?_, ?_, fun P hP => ?_, HBC2.out.drew.trans HB'.out⟩, by simp [intOf]; omega⟩
                        · have h := HO'.out
                          have e : (diag i ++ shP i i Q) ++ [(si, sj)] = diag i ++ shP i i (Q ++ [(q, j)]) := by rw [HSI.out.1, HSI.out.2]; simp [shP, Nat.add_comm]
                          rw [e] at h
                          rw [List.length_append, List.length_singleton, ← Nat.add_assoc]
                          exact h
                        · have h1 := HQC.out; have h2 := HUP.out; have h3 := HTT.out
                          rw [List.length_append, List.length_singleton]; omega
                        · rw [List.append_assoc]
                          exact HEA.out _ (early_take HMT.out hkj HTT.out (fun p h1 h2 => HNO.out p h1 h2) hP)
                      · have huvb : (u == v) = false := by simp [huv]
                        have HNM := Lib.hid (show ¬ Mt X Y q j from fun ⟨z, h1, h2⟩ => huv (by rw [hxk] at h1; rw [hyk] at h2; exact (Option.some.inj h1).trans (Option.some.inj h2).symm))
                        clear huv hxk hyk hsi hsj htt
                        go_wp2_with fail
                        go_region
                        go_wp2_with fail
                        refine ⟨⟨j + 1, by omega, by omega, by go_num, rfl, rfl, fun p h1 h2 => ?_, own_drew HOC.out, HBC2.out.drew⟩, by simp [intOf]; omega⟩
                        rcases Nat.lt_or_ge p j with h | h
                        · exact HNO.out p h1 h
                        · obtain rfl : p = j := by omega
                          exact HNM.out
                    · rw [decide_eq_false hcond]
                      have HCO := Lib.hid hcond
                      clear hcond
                      go_wp2_with fail
                      have hskip : ∀ p, k ≤ p → Mt X Y q p → lcsT X Y q p ≠ lcsT X Y q k := fun p h1 h2 h3 => by
                        rcases Nat.lt_or_ge p j with h | h
                        · exact HNO.out p h1 h h2
                        · have h4 := lcsT_mono (X := X) (Y := Y) (Nat.le_refl q) h
                          have h5 := lcsT_mono (X := X) (Y := Y) (Nat.le_refl q) hkj
                          have h6 := h2.lt.2
                          exact HCO.out ⟨by omega, by omega⟩
                      refine ⟨⟨q + 1, k, Q, by omega, hk, rfl, by go_num, rfl, HOC.out, ?_, fun P hP => HEA.out P (early_skip hskip hP), HBC2.out⟩, by simp [intOf]; omega⟩
                      rw [early_skip_T hskip]; exact HQC.out
              · obtain rfl : q = X.length := by omega
                have hge2 : ¬ (X.length : Int) < (X.length : Int) := by omega
                go_wp2_with fail
                go_ret
                have hQl : Q.length = c0 := by have := HQC.out; rw [lcsT_end_l (Nat.le_refl _)] at this; omega
                have hlen : (diag i ++ shP i i Q).length = cap := by rw [List.length_append, diag_len, shP, List.length_map, hQl, HCAP.out]
                have hic : i + Q.length = cap := by rw [hQl, HCAP.out]
                refine ⟨w2.heap.size, diag i ++ shP i i Q, by rw [hlen, hic]; rfl, ?_, ?_, below_via HB1.out (HBW2.out.trans (HBL.out.mono HBW2.out.size))⟩
                · have := HEA.out [] (.done (lcsT_end_l (Nat.le_refl _)))
                  rw [List.append_nil, HXE.out, HYE.out] at this
                  exact HSM.out.early (early_split hs1 hs2 HPRE.out this)
                · have := HOL.out
                  rw [hic] at this
                  rw [hlen]
                  exact World.ownsRow.mono this (Nat.le_trans HB1.out.size HBW2.out.size)
end Go.Proofs.YtjihepdjcbpgoaaDoor
