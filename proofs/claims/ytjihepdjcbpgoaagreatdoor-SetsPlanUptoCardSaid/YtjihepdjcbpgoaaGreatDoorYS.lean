/-
  inarchlaw27.SetsPlan answers true. Conditions: the lists lie in memory, lengths and weights are bounded; strconv's table of powers holds what its initialiser lays.
-/
import Derived.Test.YtjihepdjcbpgoaaGreatDoorYM
import Derived.Test.YtjihepdjcbpgoaaGreatDoorYR
namespace Go.Proofs.YtjihepdjcbpgoaaGreatDoor
open Go.RowKit Go.Sort

theorem plans_one {b l r : List Val} {u : Int} {P Q : List Pk} (h1 : anyBad (b ++ l ++ r) = true → P = []) (h2 : anyBad (b ++ l ++ r) = false → PicksAre b l r u P) (g1 : anyBad (b ++ l ++ r) = true → Q = []) (g2 : anyBad (b ++ l ++ r) = false → PicksAre b l r u Q) : P = Q := by
  cases hb : anyBad (b ++ l ++ r) with
  | true => rw [h1 hb, g1 hb]
  | false =>
    obtain ⟨-, hl, hr⟩ := bad_split.1 hb
    exact picks_one hl hr (h2 hb) (g2 hb)

set_option maxRecDepth 100000 in
set_option maxHeartbeats 3200000 in
theorem splan (w : World) (x y z : LA) (u : Nat) (hx : x.Rd w) (hy : y.Rd w) (hz : z.Rd w) (hP : Pow w) :
    Calls Tryz.prog 4 #[.agg #[.slice x.a x.l.length x.c, .slice y.a y.l.length y.c, .slice z.a z.l.length z.c], .int .u8 u] w (Ret (.bool true) w) := by
  have hxl := hx.len
  have hyl := hy.len
  have hzl := hz.len
  have HX := Lib.hid hx
  have HY := Lib.hid hy
  have HZ := Lib.hid hz
  have HP := Lib.hid hP
  clear hx hy hz hP
  go_enter Tryz.func4, Tryz.ntmps4
  go_upto_region 4 with fail
  go_name_world W1 hW1
  have hb1 : Below w.heap.size w W1 := by rw [← hW1]; exact (Below.refl _ _).alloc (Nat.le_refl _) _
  have HB1 := Lib.hid hb1
  have hlist := lit_sl (enc := LA.enc) (size := 1) (l := [x, y, z]) (t := 23) (fr := (0, 0)) (fun _ => rfl) (heap_alloc_new W1 (.cells #[.slice x.a x.l.length x.c, .slice y.a y.l.length y.c, .slice z.a z.l.length z.c] 23))
  have hba := (Below.refl W1.heap.size W1).alloc (Nat.le_refl _) (.cells #[.slice x.a x.l.length x.c, .slice y.a y.l.length y.c, .slice z.a z.l.length z.c] 23)
  have HG := Lib.hid (great23_c _ (some ⟨W1.heap.size, 0, none⟩) 3 [x, y, z] (hlist.widen (Nat.zero_le _) (by simp)) (fun q hq => by
    have hbw := below_via hb1 hba
    simp only [List.mem_cons, List.not_mem_nil, or_false] at hq
    rcases hq with rfl | rfl | rfl
    · exact HX.out.up hbw
    · exact HY.out.up hbw
    · exact HZ.out.up hbw) (by simp))
  have HBA := Lib.hid hba
  have HLV := fun W (h : Below w.heap.size w W) => Lib.hid (lives27_c W (HP.out.below h))
  clear hlist hba hb1 hW1
  go_upto_if 24 with (go_at_call 30; refine HG.out.mono ?_; rintro e w2 ⟨r, rfl, hb2⟩)
  have HBW2 := Lib.hid (below_via HB1.out (below_via HBA.out hb2))
  clear hb2 HG
  cases r with
  | true =>
    go_wp2_with (go_at_call 31; refine (HLV _ HBW2.out).out.mono ?_; rintro e w5 ⟨rfl, hb5⟩)
    go_ret
    exact ⟨rfl, below_via HBW2.out hb5⟩
  | false =>
    have TX := fun W (h : Below w.heap.size w W) => Lib.hid (twin23_c W x (HX.out.up h))
    have TY := fun W (h : Below w.heap.size w W) => Lib.hid (twin23_c W y (HY.out.up h))
    have TZ := fun W (h : Below w.heap.size w W) => Lib.hid (twin23_c W z (HZ.out.up h))
    go_upto_region 9 with (go_at_call 32; first
        | ((with_reducible refine (TX _ HBW2.out).out.mono ?_); rintro e w5 ⟨t1, rfl, hv1, ht1, hb5⟩
           have hw5 := below_via HBW2.out hb5)
        | ((with_reducible refine (TY _ hw5).out.mono ?_); rintro e w6 ⟨t2, rfl, hv2, ht2, hb6⟩
           have hw6 := below_via hw5 hb6)
        | ((with_reducible refine (TZ _ hw6).out.mono ?_); rintro e w7 ⟨t3, rfl, hv3, ht3, hb7⟩
           have hw7 := below_via hw6 hb7))
    have hb67 := below_via hb6 hb7
    have r1 : LA.Tw w7 0 w7.heap.size t1 := (ht1.widen (Nat.zero_le _) (Nat.le_refl _)).up hb67
    have r2 : LA.Tw w7 0 w7.heap.size t2 := (ht2.widen (Nat.zero_le _) (Nat.le_refl _)).up hb7
    have r3 : LA.Tw w7 0 w7.heap.size t3 := ht3.widen (Nat.zero_le _) (Nat.le_refl _)
    have PL := fun W (h : Below w7.heap.size w7 W) => Lib.hid (show Calls Tryz.prog 33 #[.slice t1.a t1.l.length t1.c, .slice t2.a t2.l.length t2.c, .slice t3.a t3.l.length t3.c, .int .u8 u] W (PlanPost27 x.v y.v z.v u W) from by
      have hh := plan27_c W t1 t2 t3 u ((r1.up h).rd hv1 (HX.out.up hw7)) ((r2.up h).rd hv2 (HY.out.up hw7)) ((r3.up h).rd hv3 (HZ.out.up hw7)) (HP.out.below (below_via hw7 h))
      rwa [hv1, hv2, hv3] at hh)
    have RP := fun W (h : Below w.heap.size w W) => Lib.hid (rplan27_c W x y z u (HX.out.up h) (HY.out.up h) (HZ.out.up h))
    have L1 := fun W (h : Below w7.heap.size w7 W) => Lib.hid (left23_c W x t1 hv1 (r1.up h) (HX.out.up (below_via hw7 h)))
    have L2 := fun W (h : Below w7.heap.size w7 W) => Lib.hid (left23_c W y t2 hv2 (r2.up h) (HY.out.up (below_via hw7 h)))
    have L3 := fun W (h : Below w7.heap.size w7 W) => Lib.hid (left23_c W z t3 hv3 (r3.up h) (HZ.out.up (below_via hw7 h)))
    have HW7 := Lib.hid hw7
    clear hv1 hv2 hv3 ht1 ht2 ht3 hb5 hb6 hb7 hb67 hw5 hw6 hw7 TX TY TZ r1 r2 r3
    go_upto_region 10 with (go_at_call 33; refine (PL _ (Below.refl _ _)).out.mono ?_; rintro e w8 ⟨P, a, rfl, h1, h2, hPlen, hoP, hb8⟩)
    have HB8 := Lib.hid hb8
    have HW8 := Lib.hid (below_via HW7.out hb8)
    have HOP := Lib.hid hoP
    have H1 := Lib.hid h1
    have H2 := Lib.hid h2
    clear h1 h2 hoP hb8
    go_upto_region 11 with (go_at_call 34; refine (RP _ HW8.out).out.mono ?_; rintro e w9 ⟨Q, qa, qc, rfl, g1, g2, hQlen, hoQ, hb9⟩)
    obtain rfl : P = Q := plans_one H1.out H2.out g1 g2
    clear g1 g2 hQlen RP
    have hs8 := HB8.out.size
    have hs9 := hb9.size
    have hslP : SlE Pk.enc 2 w9 0 w9.heap.size a P := ((ownC_sl (enc := Pk.enc) Pk.enc_len (by omega) HOP.out).widen (Nat.zero_le _) (Nat.le_refl _)).up hb9
    have hslQ : SlE Pk.enc 2 w9 w8.heap.size w9.heap.size qa P := own_sl Pk.enc_len hoQ
    have HSM := Lib.hid (same27_c w9 a qa P.length qc P hslP (hslQ.widen (Nat.zero_le _) (Nat.le_refl _)) (by omega))
    have HB79 := Lib.hid (below_via HB8.out hb9)
    have HSQ := Lib.hid hslQ
    have hrow : 0 < P.length → ∃ g cs, a = some ⟨g, 0, none⟩ ∧ w7.heap.size ≤ g ∧ g < w8.heap.size ∧ w9.heap[g]? = some (.cells cs 50 (0, 0)) ∧ P.length * 2 ≤ cs.size := fun hp => by
      obtain ⟨g, hla, hgb, hgl, ⟨cs, hgc, hgs⟩, -⟩ := HOP.out.at_ hp
      exact ⟨g, cs, hla, hgb, hgl, (hb9.block g hgl).trans hgc, hgs⟩
    have HROW := Lib.hid hrow
    clear hslP hslQ hrow hoQ hb9 HOP
    go_upto_region 13 with (first
      | (go_at_call 35; refine HSM.out.mono ?_; rintro e w10 ⟨rfl, hb10⟩
         have h710 := below_via HB79.out hb10)
      | (go_at_call 36; first
        | ((with_reducible refine (L1 _ h710).out.mono ?_); rintro e w11 ⟨rfl, hb11⟩
           have h711 := below_via h710 hb11)
        | ((with_reducible refine (L2 _ h711).out.mono ?_); rintro e w12 ⟨rfl, hb12⟩
           have h712 := below_via h711 hb12)
        | ((with_reducible refine (L3 _ h712).out.mono ?_); rintro e w13 ⟨rfl, hb13⟩
           have h713 := below_via h712 hb13)))
    have h913 : Below w9.heap.size w9 w13 := below_via (below_via (below_via hb10 hb11) hb12) hb13
    have H713 := Lib.hid h713
    have H913 := Lib.hid h913
    clear hb10 hb11 hb12 hb13 h710 h711 h712 h713 h913 L1 L2 L3 HSM
    go_wp2_with fail
    go_loopw [13] (fun i wr => ∃ m : Nat, m ≤ P.length ∧ i = .int .i64 m ∧ Below w7.heap.size w7 wr ∧ w8.heap.size ≤ wr.heap.size ∧ SlE Pk.enc 2 wr w8.heap.size wr.heap.size qa P ∧ (0 < P.length → ∃ g cs, a = some ⟨g, 0, none⟩ ∧ w7.heap.size ≤ g ∧ g < w8.heap.size ∧ wr.heap[g]? = some (.cells cs 50 (0, 0)) ∧ P.length * 2 ≤ cs.size)) (fun i _ => P.length - (intOf i).toNat)
    case atStart =>
      refine ⟨0, Nat.zero_le _, by go_num, H713.out, by have := H913.out.size; omega, (HSQ.out.below' H913.out).clamp, fun hp => ?_⟩
      obtain ⟨g, cs, q1, q2, q3, q4, q5⟩ := HROW.out hp
      exact ⟨g, cs, q1, q2, q3, (H913.out.block g (by omega)).trans q4, q5⟩
    case round =>
      obtain ⟨m, hm, rfl, hb7, hs8r, hsq, hrow⟩ := hrel
      have hs7 := hb7.size
      have HB7 := Lib.hid hb7
      have HSR := Lib.hid hsq
      clear hb7 hsq
      by_cases hlt : m < P.length
      · obtain ⟨g, cs, hla, hg7, hg8, hgc, hgs⟩ := hrow (by omega)
        subst hla
        have hgl : g < wr.heap.size := lt_of_blk hgc
        obtain ⟨⟨v1, g1⟩, z1⟩ := cells_at (j := m * 2 + 1) hgc (by omega)
        have HGC := Lib.hid hgc
        have HGS := Lib.hid hgs
        have hlt' : (m : Int) < (P.length : Int) := by omega
        have hm0 : (0 : Int) ≤ (m : Int) := by omega
        have hwm : IntKind.i64.wrap ((m : Int) + 1) = ((m + 1 : Nat) : Int) := by rw [IntWalk.i64_in _ (by omega)]; omega
        clear hgc hgs hrow
        go_wp2_with fail
        refine ⟨⟨m + 1, by omega, by go_num, HB7.out.setCell (p := ⟨g, m * 2 + 1, none⟩) hg7 _, by simpa using hs8r, ?_, fun _ => ?_⟩, by simp [intOf]; omega⟩
        · refine (HSR.out.keep (by simp) fun k h1 h2 h3 => Below.heap_setCell _ _ _ k (by show k ≠ g; omega)).clamp
        · obtain ⟨cs', e1, e2⟩ := set_cells (j := m * 2 + 1) (.int .i64 (-7)) HGC.out
          exact ⟨g, cs', rfl, hg7, hg8, e1, by rw [e2]; exact HGS.out⟩
      · obtain rfl : m = P.length := by omega
        have hge : ¬ (P.length : Int) < (P.length : Int) := by omega
        have HWW := Lib.hid (below_via HW7.out HB7.out)
        clear hrow
        go_wp2_with (first
          | (go_at_call 33; refine (PL _ HB7.out).out.mono ?_; rintro e w14 ⟨P2, a2, rfl, k1, k2, hP2, hoP2, hb14⟩
             obtain rfl : P = P2 := plans_one H1.out H2.out k1 k2
             have HS2 := Lib.hid (same27_c w14 a2 qa P.length qc P ((ownC_sl (enc := Pk.enc) Pk.enc_len (by omega) hoP2).widen (Nat.zero_le _) (Nat.le_refl _)) ((HSR.out.widen (Nat.zero_le _) (Nat.le_refl _)).up hb14) (by omega))
             have HW14 := Lib.hid (below_via HWW.out hb14)
             clear k1 k2 hoP2 hb14)
          | (go_at_call 35; refine HS2.out.mono ?_; rintro e w15 ⟨rfl, hb15⟩
             have HW15 := Lib.hid (below_via HW14.out hb15))
          | (go_at_call 31; refine (HLV _ HW15.out).out.mono ?_; rintro e w16 ⟨rfl, hb16⟩))
        go_ret
        exact ⟨rfl, below_via HW15.out hb16⟩
end Go.Proofs.YtjihepdjcbpgoaaGreatDoor
