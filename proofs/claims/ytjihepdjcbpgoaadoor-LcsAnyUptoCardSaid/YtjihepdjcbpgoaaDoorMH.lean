/-
  lcs.differences, lcs.Long: how few differences there are. Conditions: the rows of numbers lie in memory, their lengths are bounded.
-/
import Derived.Test.YtjihepdjcbpgoaaDoorMG
namespace Go.Proofs.YtjihepdjcbpgoaaDoor
open Go.RowKit Go.Sort

theorem start_any {N M : List Int} {d : Nat} {k : Int} {G G' : Int → Nat} (h0 : d = 0 → ∀ q, G q = 0) (hr : ∀ d', d = d' + 1 → FarR N M d' G) (hsame : ∀ q : Int, (q - d) % 2 ≠ 0 → G' q = G q) (h1 : -(d : Int) ≤ k) (h2 : k ≤ d) (h3 : (k - d) % 2 = 0) : Sld N M d k (startV d k G') (startV d k G') := by
  cases d with
  | zero =>
    obtain rfl : k = 0 := by omega
    have e : startV 0 0 G' = 0 := by
      unfold startV
      rw [if_pos (.inl rfl), hsame _ (by omega)]
      exact h0 rfl _
    rw [e]
    exact start_zero
  | succ d' =>
    refine start_succ (fun q g1 g2 g3 => ?_) h1 h2 h3
    rw [hsame q (by omega)]
    exact hr d' rfl q g1 g2 g3
def DiffPost (N M : List Int) (w : World) (e : Ending) (w' : World) : Prop := ∃ d : Nat, e = .returned (.int .i64 d) ∧ d + 2 * lcsL N M = N.length + M.length ∧ Below w.heap.size w w'
set_option maxRecDepth 100000 in
set_option maxHeartbeats 3200000 in
theorem diff_c (w : World) (N M : List Int) (PX PY : Option Addr) (cX cY : Nat) (hX : SlE i64E 1 w 0 w.heap.size PX N) (hY : SlE i64E 1 w 0 w.heap.size PY M) (hn : N.length ≤ 1048576) (hm : M.length ≤ 1048576) :
    Calls Tryd.prog 32 #[.slice PX N.length cX, .slice PY M.length cY] w (DiffPost N M w) := by
  obtain ⟨mid, hmid⟩ : ∃ mid, mid = N.length + M.length + 1 := ⟨_, rfl⟩
  obtain ⟨L, hL⟩ : ∃ L, L = 2 * (N.length + M.length) + 3 := ⟨_, rfl⟩
  obtain ⟨nm, hnm⟩ : ∃ nm, nm = N.length + M.length := ⟨_, rfl⟩
  have w1 : IntKind.i64.wrap ((N.length : Int) + (M.length : Int)) = (nm : Int) := by rw [IntWalk.i64_in _ (by omega)]; omega
  have w2 : IntKind.i64.wrap (2 * (nm : Int)) = 2 * (nm : Int) := by rw [IntWalk.i64_in _ (by omega)]
  have w3 : IntKind.i64.wrap (2 * (nm : Int) + 3) = (L : Int) := by rw [IntWalk.i64_in _ (by omega)]; omega
  have w4 : IntKind.i64.wrap ((nm : Int) + 1) = (mid : Int) := by rw [IntWalk.i64_in _ (by omega)]; omega
  have hmk := make_ints L (by omega)
  have HL := Lib.hid hL
  have HMID := Lib.hid hmid
  have HNM := Lib.hid hnm
  have HX := Lib.hid hX
  have HY := Lib.hid hY
  clear hL hmid hnm hX hY
  go_enter Tryd.func32, Tryd.ntmps32
  go_wp2_with fail
  go_step3
  go_upto_region 1 with fail
  go_cut [5, 6] (fun s5 s6 wx => ∃ qn qm : Nat, s5 = .pointer (some ⟨qn, 0, none⟩) ∧ s6 = .pointer (some ⟨qm, 0, none⟩) ∧ wx.heap.size = w.heap.size + 1 + 1 + 1 + 1 ∧ wx.heap[w.heap.size]? = some (.cells #[.slice PX N.length cX] 54 (0, 0)) ∧ wx.heap[w.heap.size + 1]? = some (.cells #[.slice PY M.length cY] 54 (0, 0)) ∧
    wx.heap[qn]? = some (.cells #[.int .i64 N.length] 3 (0, 0)) ∧ wx.heap[qm]? = some (.cells #[.int .i64 M.length] 3 (0, 0)) ∧ Below w.heap.size w wx)
  case first =>
    go_region
    all_goals
      go_wp2_with fail
      go_meet
    · refine ⟨w.heap.size + 1 + 1, w.heap.size + 1 + 1 + 1, rfl, rfl, by simp, ?_, ?_, ?_, ?_, (by repeat (first | exact Below.refl _ _ | refine Below.drew ?_ | refine below_drewN ?_ _ | refine Below.alloc ?_ (by first | omega | (simp; done) | (simp; omega)) _))⟩
      · exact (blk_o _ _ _ (by simp <;> omega)).trans ((blk_o _ _ _ (by simp <;> omega)).trans ((blk_o _ _ _ (by simp)).trans (heap_alloc_new w _)))
      · have h := heap_alloc_new (w.alloc (.cells #[.slice PX N.length cX] 54)) (.cells #[.slice PY M.length cY] 54)
        rw [World.size_alloc] at h
        exact (blk_o _ _ _ (by simp <;> omega)).trans ((blk_o _ _ _ (by simp)).trans h)
      · have h := heap_alloc_new ((w.alloc (.cells #[.slice PX N.length cX] 54)).alloc (.cells #[.slice PY M.length cY] 54)) (.cells #[.int .i64 N.length] 3)
        simp only [World.size_alloc] at h
        exact (blk_o _ _ _ (by simp)).trans h
      · have h := heap_alloc_new (((w.alloc (.cells #[.slice PX N.length cX] 54)).alloc (.cells #[.slice PY M.length cY] 54)).alloc (.cells #[.int .i64 N.length] 3)) (.cells #[.int .i64 M.length] 3)
        simp only [World.size_alloc] at h
        exact h
    · refine ⟨w.heap.size + 1 + 1 + 1, w.heap.size + 1 + 1, rfl, rfl, by simp, ?_, ?_, ?_, ?_, (by repeat (first | exact Below.refl _ _ | refine Below.drew ?_ | refine below_drewN ?_ _ | refine Below.alloc ?_ (by first | omega | (simp; done) | (simp; omega)) _))⟩
      · exact (blk_o _ _ _ (by simp <;> omega)).trans ((blk_o _ _ _ (by simp <;> omega)).trans ((blk_o _ _ _ (by simp)).trans (heap_alloc_new w _)))
      · have h := heap_alloc_new (w.alloc (.cells #[.slice PX N.length cX] 54)) (.cells #[.slice PY M.length cY] 54)
        rw [World.size_alloc] at h
        exact (blk_o _ _ _ (by simp <;> omega)).trans ((blk_o _ _ _ (by simp)).trans h)
      · have h := heap_alloc_new (((w.alloc (.cells #[.slice PX N.length cX] 54)).alloc (.cells #[.slice PY M.length cY] 54)).alloc (.cells #[.int .i64 M.length] 3)) (.cells #[.int .i64 N.length] 3)
        simp only [World.size_alloc] at h
        exact h
      · have h := heap_alloc_new ((w.alloc (.cells #[.slice PX N.length cX] 54)).alloc (.cells #[.slice PY M.length cY] 54)) (.cells #[.int .i64 M.length] 3)
        simp only [World.size_alloc] at h
        exact (blk_o _ _ _ (by simp)).trans h
  case rest =>
    obtain ⟨qn, qm, rfl, rfl, hsc, k1, k2, k3, k4, hbc⟩ := hcut
    obtain ⟨n0, -, n2⟩ := one_cell2 k3
    obtain ⟨m0, -, m2⟩ := one_cell2 k4
    have HSC := Lib.hid hsc
    have HK := Lib.hid (And.intro k1 (And.intro k2 (And.intro k3 (And.intro k4 hbc))))
    clear hsc k1 k2 k3 k4 hbc
    go_wp2_with fail
    have hD : Dst w N M PX PY cX cY qn qm (((wc.alloc (.cells ((List.range L).map fun _ => Value.int .i64 0).toArray 3)).alloc (.cells #[.slice (some ⟨w.heap.size + 1 + 1 + 1 + 1, 0, none⟩) L L] 54)).alloc (.cells #[.int .i64 mid] 3)) (fun _ => 0) := by
      obtain ⟨k1, k2, k3, k4, hbc⟩ := HK.out
      have hsc := HSC.out
      have hb3 : Below wc.heap.size wc (((wc.alloc (.cells ((List.range L).map fun _ => Value.int .i64 0).toArray 3)).alloc (.cells #[.slice (some ⟨w.heap.size + 1 + 1 + 1 + 1, 0, none⟩) L L] 54)).alloc (.cells #[.int .i64 mid] 3)) := (((Below.refl _ _).alloc (Nat.le_refl _) _).alloc (by simp) _).alloc (by simp; omega) _
      have h1 := heap_alloc_new wc (.cells ((List.range L).map fun _ => Value.int .i64 0).toArray 3)
      have h2 := heap_alloc_new (wc.alloc (.cells ((List.range L).map fun _ => Value.int .i64 0).toArray 3)) (.cells #[.slice (some ⟨w.heap.size + 1 + 1 + 1 + 1, 0, none⟩) L L] 54)
      have h3 := heap_alloc_new ((wc.alloc (.cells ((List.range L).map fun _ => Value.int .i64 0).toArray 3)).alloc (.cells #[.slice (some ⟨w.heap.size + 1 + 1 + 1 + 1, 0, none⟩) L L] 54)) (.cells #[.int .i64 mid] 3)
      simp only [World.size_alloc] at h2 h3
      have q1 := (one_cell2 k3).2.2
      have q2 := (one_cell2 k4).2.2
      refine ⟨(hb3.block _ (by omega)).trans k1, (hb3.block _ (by omega)).trans k2, (hb3.block _ q1).trans k3, (hb3.block _ q2).trans k4, ?_, ?_, ?_, hbc.trans (hb3.mono hbc.size), by omega, by omega⟩
      · rw [← hsc, ← HL.out]
        exact (blk_o _ _ _ (by simp; omega)).trans ((blk_o _ _ _ (by simp)).trans h1)
      · rw [← HL.out, ← hsc]
        refine (blk_o _ _ _ (by simp)).trans ?_
        rw [← hsc] at h2
        exact h2
      · rw [← HMID.out, ← hsc]
        rw [← hsc] at h3
        exact h3
    have HD := Lib.hid hD
    rw [HSC.out]
    clear hD n0 m0 n2 m2 hmk
    go_step3
    go_wp2_with fail
    go_loopw [10] (fun s10 wr => ∃ (d : Nat) (G : Int → Nat), s10 = .int .i64 d ∧ Dst w N M PX PY cX cY qn qm wr G ∧ d + 2 * lcsL N M ≤ N.length + M.length ∧ (d = 0 → ∀ q, G q = 0) ∧ (∀ d', d = d' + 1 → FarR N M d' G) ∧ ∀ q, G q ≤ 4194304) (fun s10 _ => N.length + M.length + 1 - (intOf s10).toNat)
    case atStart => exact ⟨0, _, by go_num, HD.out, by have h1 := lcs_le_l N M; have h2 := lcs_le_r N M; omega, fun _ _ => rfl, fun d' h => by omega, fun _ => Nat.zero_le _⟩
    case round =>
      obtain ⟨d, G, rfl, hD, hdl, hd0, hdr, hG⟩ := hrel
      have hdn : d ≤ N.length + M.length := by omega
      have wd : IntKind.i64.wrap (-(d : Int)) = -(d : Int) := IntWalk.i64_in _ (by omega)
      have wd1 : IntKind.i64.wrap ((d : Int) + 1) = ((d + 1 : Nat) : Int) := by rw [IntWalk.i64_in _ (by omega)]; omega
      have HDT := Lib.hid hD
      have HDL := Lib.hid hdl
      have HD0 := Lib.hid hd0
      have HDR := Lib.hid hdr
      have HG := Lib.hid hG
      clear hD hdl hd0 hdr hG HD
      go_wp2_with fail
      go_loopw [11] (fun s11 wi => ∃ (t : Nat) (G' : Int → Nat), s11 = .int .i64 (-(d : Int) + 2 * (t : Int)) ∧ t ≤ d + 1 ∧ Dst w N M PX PY cX cY qn qm wi G' ∧
        (∀ q : Int, -(d : Int) ≤ q → q < -(d : Int) + 2 * (t : Int) → (q - d) % 2 = 0 → FarV N M d q (G' q) ∧ ¬ (N.length ≤ G' q ∧ (M.length : Int) ≤ G' q - q)) ∧ (∀ q : Int, (q - d) % 2 ≠ 0 → G' q = G q) ∧ ∀ q, G' q ≤ 4194304) (fun s11 _ => ((d : Int) + 2 - intOf s11).toNat)
      case atStart => exact ⟨0, G, by simp, Nat.zero_le _, HDT.out, fun q h1 h2 => by omega, fun q _ => rfl, HG.out⟩
      case round =>
        obtain ⟨t, G', rfl, ht, hD, hfar, hsame, hG'⟩ := hrel
        obtain ⟨k, hk⟩ : ∃ k : Int, k = -(d : Int) + 2 * (t : Int) := ⟨_, rfl⟩
        rw [← hk] at hfar ⊢
        have HDI := Lib.hid hD
        have HFAR := Lib.hid hfar
        have HSA := Lib.hid hsame
        have HG' := Lib.hid hG'
        have HKK := Lib.hid hk
        by_cases hkd : k ≤ d
        · have hs := start_any (N := N) (M := M) HD0.out HDR.out hsame (show -(d : Int) ≤ k by omega) hkd (show (k - d) % 2 = 0 by omega)
          have HR := Lib.hid (reach_c w wr N M PX PY cX cY qn qm G' HX.out HY.out hn hm hD d k hdn (by omega) hkd hG' hs)
          obtain ⟨kk, hkk⟩ : ∃ kk : Nat, (kk : Int) = mid + k := ⟨(mid + k).toNat, by have := HMID.out; omega⟩
          have wk : IntKind.i64.wrap ((mid : Int) + k) = (kk : Int) := by have := HMID.out; rw [IntWalk.i64_in _ (by omega)]; omega
          have wk2 : IntKind.i64.wrap (k + 2) = k + 2 := IntWalk.i64_in _ (by omega)
          have bk : (0 : Int) ≤ (kk : Int) ∧ (kk : Int) < (L : Int) := by have h1 := HMID.out; have h2 := HL.out; omega
          have HKE := Lib.hid hkk
          have hkl : -(d : Int) ≤ k := by omega
          clear hD hfar hsame hG' hs hk hkk
          go_wp2_with (go_at_call 45; refine HR.out.mono ?_; rintro e wv ⟨v, rfl, hfv, hbv⟩
                       have hDv := HDI.out.up hbv
                       obtain ⟨ff0, ff1, ff2⟩ := one_cell2 hDv.far
                       obtain ⟨fd0, fd1, fd2⟩ := one_cell2 hDv.mid
                       obtain ⟨fn0, fn1, fn2⟩ := one_cell2 hDv.bn
                       obtain ⟨fm0, fm1, fm2⟩ := one_cell2 hDv.bm
                       rw [← HL.out] at ff0
                       rw [← HMID.out] at fd0
                       have hrow := hDv.row
                       rw [← HL.out] at hrow
                       have r0 := hrow.cell (j := kk) (by omega)
                       have r1 := hrow.froz kk
                       have r2 := hrow.lt
                       have hne1 := hDv.ne.1
                       have hne2 := hDv.ne.2
                       have htop := hfv.top
                       have hlow := hfv.low
                       have wvk : IntKind.i64.wrap ((v : Int) - k) = (v : Int) - k := IntWalk.i64_in _ (by omega)
                       have HDV := Lib.hid hDv
                       have HFV := Lib.hid hfv
                       clear hDv hrow hfv)
          · rename_i ha hb
            have hnew := HDV.out.put kk k (by rw [HKE.out, HMID.out]) v
            have hd2 := far_done HFV.out ha hb
            have hd1 := HDL.out
            repeat rw [Exit.noGoto_ret]
            go_ret
            exact ⟨d, rfl, by omega, hnew.below⟩
          all_goals
            have hnd : ¬ (N.length ≤ v ∧ (M.length : Int) ≤ (v : Int) - k) := by rintro ⟨ha, hb⟩; omega
            have hk := HKK.out
            refine ⟨⟨t + 1, fun q => if q = k then v else G' q, by rw [hk]; congr 1; omega, by omega, HDV.out.put kk k (by rw [HKE.out, HMID.out]) v, fun q g1 g2 g3 => ?_, fun q hq => ?_, fun q => ?_⟩, by simp [intOf]; omega⟩
            · by_cases e : q = k
              · subst e
                simp only [if_pos trivial]
                exact ⟨HFV.out, hnd⟩
              · simp only [if_neg e]
                exact HFAR.out q g1 (by omega) g3
            · have e : q ≠ k := fun e => by subst e; omega
              simp only [if_neg e]
              exact HSA.out q hq
            · by_cases e : q = k
              · simp only [if_pos e]; omega
              · simp only [if_neg e]; exact HG'.out q
        · have hkd' : ¬ k ≤ (d : Int) := hkd
          have HMO := Lib.hid (far_more (F := G') (fun q h1 h2 h3 => (hfar q h1 (by omega) h3).1) HDL.out (fun q h1 h2 h3 => (hfar q h1 (by omega) h3).2))
          have HFR := Lib.hid (show FarR N M d G' from fun q h1 h2 h3 => (hfar q h1 (by omega) h3).1)
          clear hD hfar hsame hG' hk
          go_wp2_with fail
          refine ⟨⟨d + 1, G', by go_num, HDI.out, HMO.out, fun h => by omega, fun d' h => (show d = d' by omega) ▸ HFR.out, HG'.out⟩, by simp [intOf]; omega⟩

set_option maxRecDepth 100000 in
set_option maxHeartbeats 3200000 in
theorem long_c (w : World) (x y : LA) (hx : x.Rd w) (hy : y.Rd w) (hP : Pow w) : Calls Tryd.prog 13 #[.slice x.a x.l.length x.c, .slice y.a y.l.length y.c] w (Ret (.int .i64 (lcsL (labs 0 x.v) (labs 1 y.v) : Nat)) w) := by
  have HN := Lib.hid (names_n w x y hx hy hP)
  have hxl := hx.len
  have hyl := hy.len
  clear hx hy hP
  go_enter Tryd.func13, Tryd.ntmps13
  go_wp2_with (first
    | (go_at_call 28; refine HN.out.mono ?_; rintro e w1 ⟨A, B, N, M, rfl, hnl', hml', hsm, hA, hB, hb1⟩
       have HSM := Lib.hid hsm
       have hn1 : N.length ≤ 1048576 := by rw [hnl', LA.v, List.length_map]; exact hxl
       have hm1 : M.length ≤ 1048576 := by rw [hml', LA.v, List.length_map]; exact hyl
       clear hnl' hml' hsm
       obtain ⟨nm, hnm⟩ : ∃ nm, nm = N.length + M.length := ⟨_, rfl⟩
       have wn : IntKind.i64.wrap ((N.length : Int) + (M.length : Int)) = (nm : Int) := by rw [IntWalk.i64_in _ (by omega)]; omega
       have HNM := Lib.hid hnm
       have HD := Lib.hid (diff_c w1 N M (some ⟨A, 0, none⟩) (some ⟨B, 0, none⟩) N.length M.length (hA.widen (Nat.zero_le _) (Nat.le_refl _)) (hB.widen (Nat.zero_le _) (Nat.le_refl _)) hn1 hm1)
       clear hnm)
    | (go_at_call 32; refine HD.out.mono ?_; rintro e w2 ⟨d, rfl, hd, hb2⟩
       have hl := lcs_le_l N M
       obtain ⟨T, hT⟩ : ∃ T, T = lcsL N M := ⟨_, rfl⟩
       rw [← hT] at hd hl
       have HT := Lib.hid hT
       have hnm2 := HNM.out
       have wd : IntKind.i64.wrap ((nm : Int) - (d : Int)) = 2 * (T : Int) := by rw [IntWalk.i64_in _ (by omega)]; omega
       have wt : Int.tdiv (2 * (T : Int)) 2 = (T : Int) := Int.mul_tdiv_cancel_left _ (by decide)
       have wq : IntKind.i64.wrap (T : Int) = (T : Int) := IntWalk.i64_in _ (by omega)
       clear hd hT hnm2))
  go_ret
  refine ⟨?_, below_via hb1 hb2⟩
  have h : lcsL N M = lcsL (labs 0 x.v) (labs 1 y.v) := HSM.out.T 0 0
  rw [← h, ← HT.out]; rfl
end Go.Proofs.YtjihepdjcbpgoaaDoor
