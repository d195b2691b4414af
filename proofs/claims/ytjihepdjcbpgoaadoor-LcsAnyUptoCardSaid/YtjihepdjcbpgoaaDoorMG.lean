/-
  lcs.differences, lcs.Long: how few differences there are (Myers). Conditions: the rows of numbers lie in memory, their lengths are bounded.
-/
import Derived.Test.YtjihepdjcbpgoaaDoorMF
namespace Go.Proofs.YtjihepdjcbpgoaaDoor
open Go.RowKit Go.Sort

/-- What differences keeps: its boxes at the end of w's memory, and how far one gets on each diagonal. -/
structure Dst (w : World) (N M : List Int) (PX PY : Option Addr) (cX cY qn qm : Nat) (W : World) (G : Int → Nat) : Prop where
  bx : W.heap[w.heap.size]? = some (.cells #[.slice PX N.length cX] 54 (0, 0))
  by_ : W.heap[w.heap.size + 1]? = some (.cells #[.slice PY M.length cY] 54 (0, 0))
  bn : W.heap[qn]? = some (.cells #[.int .i64 N.length] 3 (0, 0))
  bm : W.heap[qm]? = some (.cells #[.int .i64 M.length] 3 (0, 0))
  row : RowF W (w.heap.size + 1 + 1 + 1 + 1) (2 * (N.length + M.length) + 3) 3 (fun j => .int .i64 (G ((j : Int) - ((N.length + M.length + 1 : Nat) : Int)) : Nat))
  far : W.heap[w.heap.size + 1 + 1 + 1 + 1 + 1]? = some (.cells #[.slice (some ⟨w.heap.size + 1 + 1 + 1 + 1, 0, none⟩) (2 * (N.length + M.length) + 3) (2 * (N.length + M.length) + 3)] 54 (0, 0))
  mid : W.heap[w.heap.size + 1 + 1 + 1 + 1 + 1 + 1]? = some (.cells #[.int .i64 (N.length + M.length + 1 : Nat)] 3 (0, 0))
  below : Below w.heap.size w W
  ne : qn ≠ w.heap.size + 1 + 1 + 1 + 1 ∧ qm ≠ w.heap.size + 1 + 1 + 1 + 1
section
variable {w W W' : World} {N M : List Int} {PX PY : Option Addr} {cX cY qn qm : Nat} {G : Int → Nat}
theorem Dst.up (h : Dst w N M PX PY cX cY qn qm W G) (hb : Below W.heap.size W W') : Dst w N M PX PY cX cY qn qm W' G :=
  ⟨(hb.block _ (one_cell2 h.bx).2.2).trans h.bx, (hb.block _ (one_cell2 h.by_).2.2).trans h.by_, (hb.block _ (one_cell2 h.bn).2.2).trans h.bn, (hb.block _ (one_cell2 h.bm).2.2).trans h.bm, h.row.up hb, (hb.block _ (one_cell2 h.far).2.2).trans h.far, (hb.block _ (one_cell2 h.mid).2.2).trans h.mid, h.below.trans (hb.mono h.below.size), h.ne⟩
theorem Dst.put (h : Dst w N M PX PY cX cY qn qm W G) (j : Nat) (k : Int) (hj : (j : Int) = ((N.length + M.length + 1 : Nat) : Int) + k) (v : Nat) : Dst w N M PX PY cX cY qn qm (W.setCell ⟨w.heap.size + 1 + 1 + 1 + 1, j, none⟩ (.int .i64 v)) (fun q => if q = k then v else G q) := by
  have hq : ∀ q, q ≠ w.heap.size + 1 + 1 + 1 + 1 → (W.setCell ⟨w.heap.size + 1 + 1 + 1 + 1, j, none⟩ (.int .i64 v)).heap[q]? = W.heap[q]? := fun q hq => Below.heap_setCell _ _ _ q hq
  refine ⟨(hq _ (by omega)).trans h.bx, (hq _ (by omega)).trans h.by_, (hq _ h.ne.1).trans h.bn, (hq _ h.ne.2).trans h.bm, (h.row.set j _).cong fun i _ => ?_, (hq _ (by omega)).trans h.far, (hq _ (by omega)).trans h.mid, h.below.setCell (p := ⟨w.heap.size + 1 + 1 + 1 + 1, j, none⟩) (by show w.heap.size ≤ w.heap.size + 1 + 1 + 1 + 1; omega) _, h.ne⟩
  by_cases e : i = j
  · subst e; rw [if_pos rfl, if_pos (by omega)]
  · rw [if_neg e, if_neg (by omega)]
end

def ReachPost (N M : List Int) (d : Nat) (k : Int) (w : World) (e : Ending) (w' : World) : Prop := ∃ v : Nat, e = .returned (.int .i64 v) ∧ FarV N M d k v ∧ Below w.heap.size w w'
set_option maxRecDepth 100000 in
set_option maxHeartbeats 3200000 in
theorem reach_c (w W : World) (N M : List Int) (PX PY : Option Addr) (cX cY qn qm : Nat) (G : Int → Nat) (hX : SlE i64E 1 w 0 w.heap.size PX N) (hY : SlE i64E 1 w 0 w.heap.size PY M) (hn : N.length ≤ 1048576) (hm : M.length ≤ 1048576)
    (hD : Dst w N M PX PY cX cY qn qm W G) (d : Nat) (k : Int) (hd : d ≤ N.length + M.length) (hk1 : -(d : Int) ≤ k) (hk2 : k ≤ d) (hG : ∀ q, G q ≤ 4194304) (hs : Sld N M d k (startV d k G) (startV d k G)) :
    Calls Tryd.prog 45 #[.int .i64 d, .int .i64 k, .pointer (some ⟨w.heap.size + 1 + 1 + 1 + 1 + 1, 0, none⟩), .pointer (some ⟨w.heap.size + 1 + 1 + 1 + 1 + 1 + 1, 0, none⟩), .pointer (some ⟨qn, 0, none⟩), .pointer (some ⟨qm, 0, none⟩), .pointer (some ⟨w.heap.size, 0, none⟩), .pointer (some ⟨w.heap.size + 1, 0, none⟩)] W (ReachPost N M d k W) := by
  obtain ⟨mid, hmid⟩ : ∃ mid, mid = N.length + M.length + 1 := ⟨_, rfl⟩
  obtain ⟨L, hL⟩ : ∃ L, L = 2 * (N.length + M.length) + 3 := ⟨_, rfl⟩
  obtain ⟨kk, hkk⟩ : ∃ kk : Nat, (kk : Int) = mid + k := ⟨(mid + k).toNat, by omega⟩
  obtain ⟨ka, hka⟩ : ∃ ka, kk = ka + 1 := ⟨kk - 1, by omega⟩
  obtain ⟨kb, hkb⟩ : ∃ kb, kb = kk + 1 := ⟨_, rfl⟩
  have w1 : IntKind.i64.wrap ((mid : Int) + k) = (kk : Int) := by rw [IntWalk.i64_in _ (by omega)]; omega
  have w2 : IntKind.i64.wrap ((kk : Int) - 1) = (ka : Int) := by rw [IntWalk.i64_in _ (by omega)]; omega
  have w3 : IntKind.i64.wrap ((kk : Int) + 1) = (kb : Int) := by rw [IntWalk.i64_in _ (by omega)]; omega
  have w4 : IntKind.i64.wrap (-(d : Int)) = -(d : Int) := IntWalk.i64_in _ (by omega)
  have hrow := hD.row
  rw [← hmid, ← hL] at hrow
  have ga := hrow.cell (j := ka) (by omega)
  have gb := hrow.cell (j := kb) (by omega)
  rw [show ((ka : Int) - (mid : Int)) = k - 1 by omega] at ga
  rw [show ((kb : Int) - (mid : Int)) = k + 1 by omega] at gb
  obtain ⟨fx0, fx1, fx2⟩ := one_cell2 hD.bx
  obtain ⟨fy0, fy1, fy2⟩ := one_cell2 hD.by_
  obtain ⟨fn0, fn1, fn2⟩ := one_cell2 hD.bn
  obtain ⟨fm0, fm1, fm2⟩ := one_cell2 hD.bm
  obtain ⟨ff0, ff1, ff2⟩ := one_cell2 hD.far
  obtain ⟨fd0, fd1, fd2⟩ := one_cell2 hD.mid
  rw [← hL] at ff0
  rw [← hmid] at fd0
  have hFl := hrow.lt
  have b1 : (0 : Int) ≤ (ka : Int) ∧ (ka : Int) < (L : Int) := by omega
  have b2 : (0 : Int) ≤ (kb : Int) ∧ (kb : Int) < (L : Int) := by omega
  have hga := hG (k - 1)
  have hgb := hG (k + 1)
  have HBL := Lib.hid hD.below
  have HX := Lib.hid hX
  have HY := Lib.hid hY
  have HS := Lib.hid hs
  have hst := hs.top
  have hsv : startV d k G = if k = -(d : Int) ∨ (k ≠ d ∧ G (k - 1) < G (k + 1)) then G (k + 1) else G (k - 1) + 1 := rfl
  obtain ⟨s0, hs0⟩ : ∃ s0, s0 = startV d k G := ⟨_, rfl⟩
  rw [← hs0] at HS hst hsv
  generalize G (k - 1) = g1 at *
  generalize G (k + 1) = g2 at *
  have w5 : IntKind.i64.wrap ((g1 : Int) + 1) = ((g1 + 1 : Nat) : Int) := by rw [IntWalk.i64_in _ (by omega)]; omega
  have HSV := Lib.hid hsv
  clear hD hX hY hs hG hrow hsv hs0 hmid hL hkk hka hkb
  go_enter Tryd.func45, Tryd.ntmps45
  go_upto_region 2 with fail
  go_cut [45] (fun s45 wx => s45 = .bool (decide (k = -(d : Int) ∨ (k ≠ d ∧ g1 < g2))) ∧ Below W.heap.size W wx)
  case first =>
    by_cases e1 : k = -(d : Int)
    · have q1 : (k == -(d : Int)) = true := by simp [e1]
      have E1 := Lib.hid e1
      clear e1
      go_region
      go_wp2_with fail
      go_meet
      exact ⟨by rw [decide_eq_true (.inl E1.out)], (Below.refl _ _).drew⟩
    · have q1 : (k == -(d : Int)) = false := beq_false_of_ne e1
      have E1 := Lib.hid e1
      clear e1
      by_cases e2 : k = d
      · have q2 : (k != (d : Int)) = false := by simp [e2]
        have E2 := Lib.hid e2
        clear e2
        go_region
        go_wp2_with fail
        go_meet
        exact ⟨by rw [decide_eq_false fun h => h.elim E1.out fun h => h.1 E2.out], (Below.refl _ _).drew⟩
      · have q2 : (k != (d : Int)) = true := by simp [e2]
        have E2 := Lib.hid e2
        clear e2
        by_cases e3 : g1 < g2
        · have q3 : (g1 : Int) < (g2 : Int) := by omega
          have E3 := Lib.hid e3
          clear e3
          go_region
          go_wp2_with fail
          go_meet
          exact ⟨by rw [decide_eq_true (.inr ⟨E2.out, E3.out⟩)], (Below.refl _ _).drew⟩
        · have q3 : ¬ (g1 : Int) < (g2 : Int) := by omega
          have E3 := Lib.hid e3
          clear e3
          go_region
          go_wp2_with fail
          go_meet
          exact ⟨by rw [decide_eq_false fun h => h.elim E1.out fun h => E3.out h.2], (Below.refl _ _).drew⟩
  case rest =>
    obtain ⟨rfl, hbc⟩ := hcut
    have HB0 := Lib.hid hbc
    clear hbc
    go_upto_if 45 with fail
    go_cut [11] (fun s11 wx => s11 = .int .i64 s0 ∧ Below W.heap.size W wx)
    case first =>
      by_cases hc : k = -(d : Int) ∨ (k ≠ d ∧ g1 < g2)
      · have hsz := HB0.out.size
        have ff3 := (HB0.out.cell (p := ⟨w.heap.size + 1 + 1 + 1 + 1 + 1, 0, none⟩) ff2).trans ff0
        have fd3 := (HB0.out.cell (p := ⟨w.heap.size + 1 + 1 + 1 + 1 + 1 + 1, 0, none⟩) fd2).trans fd0
        have gb3 := (HB0.out.cell (p := ⟨w.heap.size + 1 + 1 + 1 + 1, kb, none⟩) hFl).trans gb
        have l1 := Nat.lt_of_lt_of_le ff2 hsz
        have l2 := Nat.lt_of_lt_of_le fd2 hsz
        have l3 := Nat.lt_of_lt_of_le hFl hsz
        have HC := Lib.hid hc
        rw [decide_eq_true hc]
        clear hc
        go_wp2_with fail
        go_meet
        exact ⟨by rw [HSV.out, if_pos HC.out], HB0.out⟩
      · have HC := Lib.hid hc
        rw [decide_eq_false hc]
        clear hc
        go_wp2_with fail
        go_meet
        exact ⟨by rw [HSV.out, if_neg HC.out]; rfl, HB0.out⟩
    case rest =>
      obtain ⟨rfl, hbc2⟩ := hcut
      have HB1 := Lib.hid hbc2
      clear hbc2
      go_wp2_with fail
      go_loopw [11] (fun s11 wr => ∃ v : Nat, s11 = .int .i64 v ∧ Sld N M d k s0 v ∧ Below W.heap.size W wr) (fun s11 _ => N.length + d + 1 - (intOf s11).toNat)
      case atStart => exact ⟨s0, rfl, HS.out, HB1.out⟩
      case round =>
        obtain ⟨v, rfl, hsl, hbr⟩ := hrel
        have HSL := Lib.hid hsl
        have HBR := Lib.hid hbr
        have hlow := hsl.low
        have htop := hsl.top
        obtain ⟨j, hj⟩ : ∃ j : Nat, (j : Int) = v - k := ⟨(v - k).toNat, by omega⟩
        have wv : IntKind.i64.wrap ((v : Int) - k) = (j : Int) := by rw [IntWalk.i64_in _ (by omega)]; omega
        have wv1 : IntKind.i64.wrap ((v : Int) + 1) = ((v + 1 : Nat) : Int) := by rw [IntWalk.i64_in _ (by omega)]; omega
        have hsz := hbr.size
        have n3 := (hbr.cell (p := ⟨qn, 0, none⟩) fn2).trans fn0
        have m3 := (hbr.cell (p := ⟨qm, 0, none⟩) fm2).trans fm0
        have x3 := (hbr.cell (p := ⟨w.heap.size, 0, none⟩) fx2).trans fx0
        have y3 := (hbr.cell (p := ⟨w.heap.size + 1, 0, none⟩) fy2).trans fy0
        have l1 := Nat.lt_of_lt_of_le fn2 hsz
        have l2 := Nat.lt_of_lt_of_le fm2 hsz
        have l3 := Nat.lt_of_lt_of_le fx2 hsz
        have l4 := Nat.lt_of_lt_of_le fy2 hsz
        have HJ := Lib.hid hj
        clear hsl hbr hj
        by_cases hmt : ∃ u, N[v]? = some u ∧ M[j]? = some u
        · obtain ⟨u, h1, h2⟩ := hmt
          obtain ⟨b1, o1, e1, -, -, g1', c1⟩ := i64_at HX.out h1
          obtain ⟨b2, o2, e2, -, -, g2', c2⟩ := i64_at HY.out h2
          rw [← (HBL.out.trans (HBR.out.mono HBL.out.size)).cell (p := ⟨_, _, none⟩) g1'] at c1
          rw [← (HBL.out.trans (HBR.out.mono HBL.out.size)).cell (p := ⟨_, _, none⟩) g2'] at c2
          have hl1 : (v : Int) < (N.length : Int) := by have := (List.getElem?_eq_some_iff.1 h1).1; omega
          have hl2 : (j : Int) < (M.length : Int) := by have := (List.getElem?_eq_some_iff.1 h2).1; omega
          have h0 : (0 : Int) ≤ (v : Int) ∧ (0 : Int) ≤ (j : Int) := by omega
          have f1 : b1 < wr.heap.size := Nat.lt_of_lt_of_le g1' (Nat.le_trans HBL.out.size hsz)
          have f2 : b2 < wr.heap.size := Nat.lt_of_lt_of_le g2' (Nat.le_trans HBL.out.size hsz)
          have HM := Lib.hid (show Mt N M v j from ⟨u, h1, h2⟩)
          have hvN : v < N.length := (List.getElem?_eq_some_iff.1 h1).1
          rw [e1] at x3
          rw [e2] at y3
          clear h1 h2 e1 e2
          go_upto_region 4 with fail
          go_region
          go_wp2_with fail
          exact ⟨⟨v + 1, by go_num, HSL.out.step HJ.out HM.out, HBR.out.drew⟩, by simp [intOf]; omega⟩
        · have HNM := Lib.hid (show ¬ Mt N M v j from hmt)
          clear hmt
          go_upto_region 4 with fail
          go_cut [75] (fun s75 wx => s75 = .bool false ∧ Below W.heap.size W wx)
          case first =>
            by_cases hv1 : v < N.length
            · have hv1' : (v : Int) < (N.length : Int) := by omega
              by_cases hv2 : j < M.length
              · have hv2' : (j : Int) < (M.length : Int) := by omega
                have h1 : N[v]? = some N[v] := List.getElem?_eq_getElem hv1
                have h2 : M[j]? = some M[j] := List.getElem?_eq_getElem hv2
                generalize N[v] = u1 at h1
                generalize M[j] = u2 at h2
                obtain ⟨b1, o1, e1, -, -, g1', c1⟩ := i64_at HX.out h1
                obtain ⟨b2, o2, e2, -, -, g2', c2⟩ := i64_at HY.out h2
                rw [← (HBL.out.trans (HBR.out.mono HBL.out.size)).cell (p := ⟨_, _, none⟩) g1'] at c1
                rw [← (HBL.out.trans (HBR.out.mono HBL.out.size)).cell (p := ⟨_, _, none⟩) g2'] at c2
                have h0 : (0 : Int) ≤ (v : Int) ∧ (0 : Int) ≤ (j : Int) := by omega
                have f1 : b1 < wr.heap.size := Nat.lt_of_lt_of_le g1' (Nat.le_trans HBL.out.size hsz)
                have f2 : b2 < wr.heap.size := Nat.lt_of_lt_of_le g2' (Nat.le_trans HBL.out.size hsz)
                have hne : (u1 == u2) = false := beq_false_of_ne fun e => by subst e; exact HNM.out ⟨u1, h1, h2⟩
                rw [e1] at x3
                rw [e2] at y3
                clear h1 h2 e1 e2
                go_region
                go_wp2_with fail
                go_meet
                exact ⟨rfl, HBR.out.drew⟩
              · have hv2' : ¬ (j : Int) < (M.length : Int) := by omega
                go_region
                go_wp2_with fail
                go_meet
                exact ⟨rfl, HBR.out.drew⟩
            · have hv1' : ¬ (v : Int) < (N.length : Int) := by omega
              go_region
              go_wp2_with fail
              go_meet
              exact ⟨rfl, HBR.out.drew⟩
          case rest =>
            obtain ⟨rfl, hbc3⟩ := hcut
            have HB3 := Lib.hid hbc3
            clear hbc3
            go_wp2_with fail
            go_ret
            exact ⟨v, rfl, HSL.out.stop fun i hi => by
              obtain rfl : i = j := by have := HJ.out; omega
              exact HNM.out, HB3.out⟩
end Go.Proofs.YtjihepdjcbpgoaaDoor
