/-
  inarchlaw14.Like at two values that are one: true. Conditions: both lie in memory, their weight is bounded.
  inarchlaw14.Spoil of a tree of the call's own: it writes into that tree's blocks alone. Condition: the tree's lengths are bounded.
  inarchref16.Walk: as paths.Walk's plain function. Conditions: the tree and the steps lie in memory, their weights are bounded.
  inarchlaw16.PathsWalk answers true at whatever arguments. Conditions: the tree and the steps lie in memory, their weights are bounded; strconv's tables hold what their initialisers lay.
-/
import Derived.Test.YtcpdogjcofkpcaaGreatDoorNK
import Derived.Test.YtcpdogjcofkpcaaGreatDoorRB
import Derived.Test.YtcpdogjcofkpcaaGreatDoorSO
import Derived.Test.YtcpdogjcofkpcaaGreatDoorWB
import Derived.Test.YtcpdogjcofkpcaaGreatDoorNU
import Derived.Test.YtcpdogjcofkpcaaGreatDoorTK
import Derived.Test.YtcpdogjcofkpcaaGreatDoorQ2
import Derived.Test.YtcpdogjcofkpcaaGreatDoorTC
namespace Go.Proofs.YtcpdogjcofkpcaaGreatDoor
open Go.RowKit Go.Sort

set_option maxRecDepth 100000 in
set_option maxHeartbeats 6400000 in
theorem like_c : ∀ (x y : AV) (w : World), y.v = x.v → Rd w x → Rd w y → x.w ≤ 1048576 → Calls Tryz.prog 46 #[x.val, y.val] w (Ret (.bool true) w) := fun x => AV.ind (P := fun x => ∀ (y : AV) (w : World), y.v = x.v → Rd w x → Rd w y → x.w ≤ 1048576 → Calls Tryz.prog 46 #[x.val, y.val] w (Ret (.bool true) w)) (fun x ih y w hv hx hy hw => by
  have hll := x.w_l
  have hlk := x.w_ks
  rw [AV.v_eq x, AV.v_eq y, Val.mk.injEq] at hv
  obtain ⟨h1, h2, h3, h4⟩ := hv
  obtain ⟨yk, yt, yla, ylc, yl, yka, ykc, yks⟩ := y
  simp only at h1 h2 h3 h4
  subst h1 h2 h4
  have hlen : yl.length = x.l.length := by have := congrArg List.length h3; simpa using this
  have hB0 := duo_0 (w := w) (o1 := .cells #[.int .u8 x.k, .string x.t, .slice x.la x.l.length x.lc, .slice x.ka x.ks.length x.kc] 48) (o2 := .cells #[.int .u8 x.k, .string x.t, .slice yla yl.length ylc, .slice yka x.ks.length ykc] 48)
  obtain ⟨W2, hW2⟩ : ∃ W2, (w.alloc (.cells #[.int .u8 x.k, .string x.t, .slice x.la x.l.length x.lc, .slice x.ka x.ks.length x.kc] 48)).alloc (.cells #[.int .u8 x.k, .string x.t, .slice yla yl.length ylc, .slice yka x.ks.length ykc] 48) = W2 := ⟨_, rfl⟩
  have HT := Lib.hid (show ∀ W, Below (w.heap.size + 1 + 1) W2 W → _ from fun W (h : Below (w.heap.size + 1 + 1) W2 W) => duo_at (w := w) (W := W) (o1 := .cells #[.int .u8 x.k, .string x.t, .slice x.la x.l.length x.lc, .slice x.ka x.ks.length x.kc] 48) (o2 := .cells #[.int .u8 x.k, .string x.t, .slice yla yl.length ylc, .slice yka x.ks.length ykc] 48) (by rw [hW2]; exact h))
  rw [hW2] at hB0
  have hs2 : W2.heap.size = w.heap.size + 1 + 1 := by rw [← hW2]; simp
  have el : ((x.l.length : Int) != (yl.length : Int)) = false := by rw [bne_eq_false_iff_eq]; omega
  have HB0 := Lib.hid hB0
  have HS2 := Lib.hid hs2
  have HW2 := Lib.hid hW2
  have HX := Lib.hid hx
  have HYS := Lib.hid hy.sl
  have HYK := Lib.hid hy.keys
  have HYC := Lib.hid (fun z (hz : z ∈ yl) => hy.kid (y := z) hz)
  have HI := Lib.hid ih
  have HM := Lib.hid h3
  have HLE := Lib.hid hlen
  clear hB0 hW2 hs2 hx hy ih h3 hlen
  go_enter Tryz.func46, Tryz.ntmps46
  go_wp2_with fail
  rw [HW2.out]
  go_loopw [5] (fun s5 wr => ∃ m : Nat, m ≤ x.ks.length ∧ s5 = .int .i64 m ∧ Below (w.heap.size + 1 + 1) W2 wr) (fun s5 _ => x.ks.length - (intOf s5).toNat)
  case atStart => exact ⟨0, Nat.zero_le _, rfl, HB0.out⟩
  case round =>
    obtain ⟨m, hm, rfl, hbr⟩ := hrel
    obtain ⟨k1, k2, k3, k5⟩ := HT.out wr hbr
    obtain ⟨q0, q1, q2, q3, -, -, -, -⟩ := vbox4 k1
    obtain ⟨p0, p1, p2, p3, -, -, -, -⟩ := vbox4 k2
    have l1 : w.heap.size < wr.heap.size := by omega
    have HBR := Lib.hid hbr
    have K5 := Lib.hid k5
    clear hbr k5
    by_cases hlt : m < x.ks.length
    · have hk : x.ks[m]? = some x.ks[m] := List.getElem?_eq_getElem hlt
      generalize x.ks[m] = s at hk
      obtain ⟨b1, o1, e1, -, -, g1, c1⟩ := key_at (HX.out.up K5.out).keys hk
      obtain ⟨b2, o2, e2, -, -, g2, c2⟩ := key_at (HYK.out.up K5.out) hk
      have hlt' : (m : Int) < (x.ks.length : Int) := by omega
      have hm0 : (0 : Int) ≤ (m : Int) := by omega
      have hwm : IntKind.i64.wrap ((m : Int) + 1) = ((m + 1 : Nat) : Int) := by rw [IntWalk.i64_in _ (by omega)]; omega
      rw [e1] at q3
      rw [e2] at p3
      clear hk k1 k2 e1 e2
      go_upto_region 6 with fail
      go_quiet (fail)
      go_wp2_with fail
      exact ⟨⟨m + 1, by omega, by go_num, below_drewN HBR.out _⟩, by simp [intOf]; omega⟩
    · have hge : ¬ (m : Int) < (x.ks.length : Int) := by omega
      clear k1 k2
      go_wp2_with fail
      go_loopw [6] (fun s6 wq => ∃ m : Nat, m ≤ x.l.length ∧ s6 = .int .i64 m ∧ Below (w.heap.size + 1 + 1) W2 wq) (fun s6 _ => x.l.length - (intOf s6).toNat)
      case atStart => exact ⟨0, Nat.zero_le _, rfl, HBR.out⟩
      case round =>
        clear K5 HBR q0 q1 q2 q3 p0 p1 p2 p3 l1 hge
        obtain ⟨m, hm, rfl, hbr⟩ := hrel
        obtain ⟨k1, k2, k3, k5⟩ := HT.out wr hbr
        obtain ⟨q0, q1, q2, q3, -, -, -, -⟩ := vbox4 k1
        have l1 : w.heap.size < wr.heap.size := by omega
        have HBR := Lib.hid hbr
        have K5 := Lib.hid k5
        clear hbr k5
        by_cases hlt : m < x.l.length
        · have he : x.l[m]? = some x.l[m] := List.getElem?_eq_getElem hlt
          have hem : x.l[m] ∈ x.l := List.getElem_mem hlt
          have hlt2 : m < yl.length := by have := HLE.out; omega
          have hf : yl[m]? = some yl[m] := List.getElem?_eq_getElem hlt2
          have hfm : yl[m] ∈ yl := List.getElem_mem hlt2
          generalize x.l[m] = e at he hem
          generalize yl[m] = f at hf hfm
          have hvv : f.v = e.v := by
            have := congrArg (fun l => l[m]?) HM.out
            simp only [List.getElem?_map, he, hf, Option.map_some, Option.some.injEq] at this
            exact this
          obtain ⟨be, oe, hla, -, -, ge, e0', e1', e2', e3'⟩ := vals_at (HX.out.up K5.out).sl he
          obtain ⟨bf, of, hlb, -, -, gf, f0', f1', f2', f3'⟩ := vals_at (HYS.out.up K5.out) hf
          have hew := AV.w_kid hem
          have HH := fun W (h : Below wr.heap.size wr W) => Lib.hid (HI.out e hem f W hvv (Rd.up (HX.out.kid hem) (below_via K5.out h)) (Rd.up (HYC.out f hfm) (below_via K5.out h)) (by omega))
          have hlt' : (m : Int) < (x.l.length : Int) := by omega
          have hlt2' : (m : Int) < (yl.length : Int) := by omega
          have hm0 : (0 : Int) ≤ (m : Int) := by omega
          have hwm : IntKind.i64.wrap ((m : Int) + 1) = ((m + 1 : Nat) : Int) := by rw [IntWalk.i64_in _ (by omega)]; omega
          have LD := Lib.hid (show ∀ W, Below wr.heap.size wr W → _ from fun W (h : Below wr.heap.size wr W) => And.intro (vbox4 (blk_up h k1)) (And.intro (vbox4 (blk_up h k2)) (And.intro ((h.cell (p := ⟨_, _, none⟩) ge).trans e0') (And.intro ((h.cell (p := ⟨_, _, none⟩) ge).trans e1') (And.intro ((h.cell (p := ⟨_, _, none⟩) ge).trans e2') (And.intro ((h.cell (p := ⟨_, _, none⟩) ge).trans e3') (And.intro ((h.cell (p := ⟨_, _, none⟩) gf).trans f0') (And.intro ((h.cell (p := ⟨_, _, none⟩) gf).trans f1') (And.intro ((h.cell (p := ⟨_, _, none⟩) gf).trans f2') ((h.cell (p := ⟨_, _, none⟩) gf).trans f3'))))))))))
          rw [hla, hlb] at LD
          clear he hem hf hfm hla hlb hvv e0' e1' e2' e3' f0' f1' f2' f3' k1 k2
          go_wp2_with fail
          refine wp_region_bl (by kernel_rfl) (by kernel_rfl) ?_
          repeat (first | go_big_quiet_skip | (go_big_quiet_want; go_big_quiet_op; first | go_big_quiet_on | (refine ⟨_, fun _ _ => (by with_reducible rfl), ?_⟩; go_big_quiet_on) | (apply Exists.intro; refine ⟨fun w' hC => (by simp only [LD.out w' hC, Result.andThen]; exact ⟨trivial, rfl⟩), ?_⟩; go_big_quiet_on) | (apply Exists.intro; refine ⟨fun w' hC => (by (with_reducible refine (HH w' hC).out.mono ?_); exact fun e w2 ⟨he, hb⟩ => ⟨he, hC.trans (hb.mono hC.size)⟩), ?_⟩; go_big_quiet_on)))
          refine wpQuiet_nil ?_; intro wz hbz
          go_wp2_with fail
          exact ⟨⟨m + 1, by omega, by go_num, tri_step HBR.out hbz (by rw [HS2.out]; exact Nat.le_refl _)⟩, by simp [intOf]; omega⟩
        · have hge : ¬ (m : Int) < (x.l.length : Int) := by omega
          clear k1 k2
          go_wp2_with fail
          go_ret
          exact ⟨rfl, K5.out⟩) x
end Go.Proofs.YtcpdogjcofkpcaaGreatDoor

namespace Go.Proofs.YtcpdogjcofkpcaaGreatDoor
open Go.RowKit Go.Sort

def spS : ByteArray := ⟨#[115, 112, 111, 105, 108, 116]⟩
def spAV : AV := ⟨0, spS, none, 0, [], none, 0, []⟩
/-- What Spoil leaves: what lies below lo, and from hi on, stays. -/
def SpPost (lo hi : Nat) (w : World) (e : Ending) (w' : World) : Prop := e = .returned (.tuple #[]) ∧ Below lo w w' ∧ ∀ q, hi ≤ q → q < w.heap.size → w'.heap[q]? = w.heap[q]?
set_option maxRecDepth 100000 in
set_option maxHeartbeats 6400000 in
theorem spoil_c : ∀ (x : AV) (lo hi : Nat) (w : World), x.Mn w lo hi → x.w ≤ 1048576 → hi ≤ w.heap.size → Calls Tryz.prog 47 #[x.val] w (SpPost lo hi w) := fun x => AV.ind (P := fun x => ∀ (lo hi : Nat) (w : World), x.Mn w lo hi → x.w ≤ 1048576 → hi ≤ w.heap.size → Calls Tryz.prog 47 #[x.val] w (SpPost lo hi w)) (fun x ih lo hi w hx hw hhi => by
  have hll := x.w_l
  have hlk := x.w_ks
  cases hx with
  | mk f h0 hm hh hk hl hkc hlc hkd hch =>
  have hf := fun {i j : Nat} (h : i ≤ j) => chn_mono hm h
  have hf0 : f 0 ≤ hi := Nat.le_trans (hf (Nat.zero_le _)) hh
  have hB0 : Below (w.heap.size + 1) (w.alloc (.cells #[.int .u8 x.k, .string x.t, .slice x.la x.l.length x.l.length, .slice x.ka x.ks.length x.ks.length] 48)) (w.alloc (.cells #[.int .u8 x.k, .string x.t, .slice x.la x.l.length x.l.length, .slice x.ka x.ks.length x.ks.length] 48)) := Below.refl _ _
  obtain ⟨W2, hW2⟩ : ∃ W2, w.alloc (.cells #[.int .u8 x.k, .string x.t, .slice x.la x.l.length x.l.length, .slice x.ka x.ks.length x.ks.length] 48) = W2 := ⟨_, rfl⟩
  have hbx : W2.heap[w.heap.size]? = some (.cells #[.int .u8 x.k, .string x.t, .slice x.la x.l.length x.l.length, .slice x.ka x.ks.length x.ks.length] 48 (0, 0)) := by rw [← hW2]; exact heap_alloc_new w _
  have hs2 : W2.heap.size = w.heap.size + 1 := by rw [← hW2]; simp
  have hb2 : Below w.heap.size w W2 := by rw [← hW2]; exact (Below.refl _ _).alloc (Nat.le_refl _) _
  obtain ⟨q0, q1, q2, q3, -, -, -, -⟩ := vbox4 hbx
  have e : x.val = .agg #[.int .u8 x.k, .string x.t, .slice x.la x.l.length x.l.length, .slice x.ka x.ks.length x.ks.length] := by show Value.agg _ = _; rw [hlc, hkc]
  rw [e]
  have HW2 := Lib.hid hW2
  have HBX := Lib.hid hbx
  have HS2 := Lib.hid hs2
  have HB2 := Lib.hid hb2
  have HI := Lib.hid ih
  have HK := Lib.hid hk
  have HL := Lib.hid hl
  have HCH := Lib.hid hch
  have HF := Lib.hid (show ∀ i j, i ≤ j → f i ≤ f j from fun i j h => hf h)
  have HH := Lib.hid hh
  clear hB0 hW2 hbx hs2 hb2 ih hk hl hch hkc hlc e hf
  go_enter Tryz.func47, Tryz.ntmps47
  go_wp2_with fail
  rw [HW2.out]
  go_loopw [3] (fun s3 wr => ∃ m : Nat, m ≤ x.ks.length ∧ s3 = .int .i64 m ∧ Below lo W2 wr ∧ wr.heap.size = W2.heap.size ∧ (∀ q, f 0 ≤ q → q < W2.heap.size → wr.heap[q]? = W2.heap[q]?) ∧ (0 < x.ks.length → ∃ k cs, x.ka = some ⟨k, 0, none⟩ ∧ lo ≤ k ∧ k < f 0 ∧ wr.heap[k]? = some (.cells cs 9 (0, 0)) ∧ x.ks.length ≤ cs.size) ∧ (0 < x.l.length → ∃ b, x.la = some ⟨b, 0, none⟩ ∧ lo ≤ b ∧ b < f 0 ∧ RowV wr b x.l)) (fun s3 _ => x.ks.length - (intOf s3).toNat)
  case atStart =>
    refine ⟨0, Nat.zero_le _, rfl, Below.refl _ _, rfl, fun _ _ _ => rfl, fun hp => ?_, fun hp => ?_⟩
    · obtain ⟨k, cs, e, a1, a2, a3, a4⟩ := HK.out hp
      exact ⟨k, cs, e, a1, a2, (HB2.out.block k (by omega)).trans a3, a4⟩
    · obtain ⟨b, e, a1, a2, a3⟩ := HL.out hp
      exact ⟨b, e, a1, a2, (HB2.out.block b (by omega)).trans a3⟩
  case round =>
    obtain ⟨m, hmn, rfl, hbr, hsz, hsame, hkr, hlr⟩ := hrel
    clear q0 q1 q2 q3
    by_cases hlt : m < x.ks.length
    · obtain ⟨k, cs, e, a1, a2, a3, a4⟩ := hkr (by omega)
      have hc : wr.cell? ⟨k, m, none⟩ = some cs[m] := by simp [World.cell?, a3]
      have hfz := frozen_of_row wr k m cs _ a3
      have hkl := lt_of_blk a3
      have hlt' : (m : Int) < (x.ks.length : Int) := by omega
      have hm0 : (0 : Int) ≤ (m : Int) := by omega
      have hwm : IntKind.i64.wrap ((m : Int) + 1) = ((m + 1 : Nat) : Int) := by rw [IntWalk.i64_in _ (by omega)]; omega
      have hnew := set_blk a3 m (.string spS)
      have HNEW := Lib.hid hnew
      have HBR := Lib.hid hbr
      have HSZ := Lib.hid hsz
      have HSM := Lib.hid hsame
      have HLR := Lib.hid hlr
      have HA3 := Lib.hid a3
      have HE := Lib.hid e
      clear hnew hbr hsz hsame hlr a3 hkr e
      rw [HE.out]
      go_wp2_with fail
      refine ⟨⟨m + 1, by omega, by go_num, HBR.out.setCell (p := ⟨k, m, none⟩) a1 _, ?_, fun q g1 g2 => ?_, fun _ => ⟨k, _, rfl, a1, a2, HNEW.out, by simpa using a4⟩, fun hp => ?_⟩, by simp [intOf]; omega⟩
      · exact (show (wr.setCell ⟨k, m, none⟩ (.string spS)).heap.size = wr.heap.size by simp).trans HSZ.out
      · exact (Below.heap_setCell wr _ _ q (by show q ≠ k; omega)).trans (HSM.out q g1 g2)
      · obtain ⟨b, e, c1, c2, c3⟩ := HLR.out hp
        refine ⟨b, e, c1, c2, (Below.heap_setCell wr _ _ b ?_).trans c3⟩
        show b ≠ k
        intro hbk
        subst hbk
        rw [RowV, HA3.out] at c3
        injection c3 with c3
        injection c3 with _ c3 _
        revert c3
        decide
    · have hge : ¬ (m : Int) < (x.ks.length : Int) := by omega
      obtain ⟨q0, q1, q2, q3, -, -, -, -⟩ := vbox4 ((hsame w.heap.size (by omega) (by have := HS2.out; omega)).trans HBX.out)
      have hlw : w.heap.size < wr.heap.size := by have := HS2.out; omega
      obtain ⟨W3, hW3⟩ : ∃ W3, W3 = wr := ⟨_, rfl⟩
      subst hW3
      have HBR := Lib.hid hbr
      have HSZ := Lib.hid hsz
      have HSM := Lib.hid hsame
      have HLR := Lib.hid hlr
      clear hbr hsz hsame hlr hkr
      go_wp2_with fail
      go_loopw [5] (fun s5 wr => ∃ m : Nat, m ≤ x.l.length ∧ s5 = .int .i64 m ∧ Below lo W2 wr ∧ (∀ q, hi ≤ q → q < W2.heap.size → wr.heap[q]? = W2.heap[q]?) ∧ (∀ (i : Nat) (y : AV), m ≤ i → x.l[i]? = some y → y.Mn wr (f i) (f (i + 1))) ∧ (0 < x.l.length → ∃ b, x.la = some ⟨b, 0, none⟩ ∧ lo ≤ b ∧ b < f 0 ∧ RowV wr b (List.replicate m spAV ++ x.l.drop m))) (fun s5 _ => x.l.length - (intOf s5).toNat)
      case atStart =>
        refine ⟨0, Nat.zero_le _, rfl, HBR.out, fun q g1 g2 => HSM.out q (by omega) g2, fun i y _ hy => (HCH.out i y hy).kept fun q g1 g2 => ?_, fun hp => ?_⟩
        · have b1 := HF.out 0 i (Nat.zero_le _)
          have b2 := HF.out (i + 1) x.l.length (Nat.succ_le_of_lt (List.getElem?_eq_some_iff.1 hy).1)
          have b3 := HH.out
          have b4 := HS2.out
          exact (HSM.out q (by omega) (by omega)).trans (HB2.out.block q (by omega))
        · obtain ⟨b, e, c1, c2, c3⟩ := HLR.out hp
          exact ⟨b, e, c1, c2, by simpa using c3⟩
      case round =>
        obtain ⟨m, hmn, rfl, hbr, hsame, hmch, hlr⟩ := hrel
        have hsr := hbr.size
        by_cases hlt : m < x.l.length
        · obtain ⟨b, e, c1, c2, c3⟩ := hlr (by omega)
          have hy : x.l[m]? = some x.l[m] := List.getElem?_eq_getElem hlt
          have hym : x.l[m] ∈ x.l := List.getElem_mem hlt
          generalize x.l[m] = y at hy hym
          have hrl : (List.replicate m spAV ++ x.l.drop m).length = x.l.length := by rw [List.length_append, List.length_replicate, List.length_drop]; omega
          have hry : (List.replicate m spAV ++ x.l.drop m)[m]? = some y := by
            rw [List.getElem?_append_right (by simp), List.length_replicate, Nat.sub_self, List.getElem?_drop, Nat.add_zero]; exact hy
          obtain ⟨b', o', eb, -, -, gb, d0, d1, d2, d3⟩ := vals_at c3.sl hry
          injection eb with eb
          injection eb with eb1 eb2
          subst eb1 eb2
          simp only [Nat.zero_add] at d0 d1 d2 d3
          have f1 := HF.out (m + 1) x.l.length (Nat.succ_le_of_lt hlt)
          have f2 := HF.out 0 m (Nat.zero_le _)
          have f5 := HF.out m (m + 1) (Nat.le_succ _)
          have f3 := HH.out
          have f4 := HS2.out
          have hyw := AV.w_kid hym
          have HC := Lib.hid (HI.out y hym (f m) (f (m + 1)) wr (hmch m y (Nat.le_refl _) hy) (by omega) (by omega))
          have hlt' : (m : Int) < (x.l.length : Int) := by omega
          have hm0 : (0 : Int) ≤ (m : Int) := by omega
          have hwm : IntKind.i64.wrap ((m : Int) + 1) = ((m + 1 : Nat) : Int) := by rw [IntWalk.i64_in _ (by omega)]; omega
          have HBR3 := Lib.hid hbr
          have HSM3 := Lib.hid hsame
          have HMC := Lib.hid hmch
          have HC3 := Lib.hid c3
          have HE := Lib.hid e
          have HRL := Lib.hid hrl
          clear hbr hsame hmch c3 e hlr hrl hry hy q0 q1 q2 q3
          rw [HE.out]
          go_wp2_with fail
          refine HC.out.mono ?_
          rintro e1 w1 ⟨rfl, hb1, hq1⟩
          have hs1 := hb1.size
          have hrow : RowV w1 b (List.replicate m spAV ++ x.l.drop m) := (hb1.block b (by omega)).trans HC3.out
          obtain ⟨⟨v0, g0⟩, z0⟩ := hrow.cell (m := m) (by rw [HRL.out]; exact hlt) (j := 0) (by omega)
          obtain ⟨⟨v1, g1⟩, z1⟩ := hrow.cell (m := m) (by rw [HRL.out]; exact hlt) (j := 1) (by omega)
          obtain ⟨⟨v2, g2⟩, z2⟩ := hrow.cell (m := m) (by rw [HRL.out]; exact hlt) (j := 2) (by omega)
          obtain ⟨⟨v3, g3⟩, z3⟩ := hrow.cell (m := m) (by rw [HRL.out]; exact hlt) (j := 3) (by omega)
          rw [Nat.add_zero] at g0 z0
          have HROW := Lib.hid hrow
          have HB1 := Lib.hid hb1
          have HQ1 := Lib.hid hq1
          have hbl : b < w1.heap.size := by omega
          clear hrow hb1 hq1
          go_wp2_with fail
          have hput := HROW.out.put (m := m) (by rw [HRL.out]; exact hlt) spAV
          have hset : (List.replicate m spAV ++ x.l.drop m).set m spAV = List.replicate (m + 1) spAV ++ x.l.drop (m + 1) := by
            rw [List.set_append, if_neg (by simp), List.length_replicate, Nat.sub_self, List.drop_eq_getElem_cons hlt, List.set_cons_zero, List.replicate_succ', List.append_assoc]; rfl
          rw [hset] at hput
          have hput' : RowV (put4 w1 b (m * 4) (.int .u8 0) (.string ⟨#[115, 112, 111, 105, 108, 116]⟩) (.slice none 0 0) (.slice none 0 0)) b (List.replicate (m + 1) spAV ++ x.l.drop (m + 1)) := by
            generalize List.replicate (m + 1) spAV ++ x.l.drop (m + 1) = R at hput ⊢
            exact hput
          have HPUT := Lib.hid hput'
          clear hput hput'
          refine ⟨⟨m + 1, by omega, by go_num, ?_, ?_, ?_, ?_⟩, by simp [intOf]; omega⟩
          · show Below lo W2 (put4 w1 b (m * 4) _ _ _ _)
            exact ((((HBR3.out.trans (HB1.out.mono (by omega))).setCell (p := ⟨b, m * 4, none⟩) c1 _).setCell (p := ⟨b, m * 4 + 1, none⟩) c1 _).setCell (p := ⟨b, m * 4 + 2, none⟩) c1 _).setCell (p := ⟨b, m * 4 + 3, none⟩) c1 _
          · intro q u1 u2
            show (put4 w1 b (m * 4) _ _ _ _).heap[q]? = _
            rw [put4_old (by omega)]
            exact (HQ1.out q (by omega) (by omega)).trans (HSM3.out q u1 u2)
          · intro i y' u1 u2
            have t1 := HF.out (m + 1) i u1
            have t2 := HF.out (i + 1) x.l.length (Nat.succ_le_of_lt (List.getElem?_eq_some_iff.1 u2).1)
            show AV.Mn (put4 w1 b (m * 4) _ _ _ _) _ _ _
            exact (HMC.out i y' (by omega) u2).kept fun q u3 u4 => (put4_old (by omega)).trans (HQ1.out q (by omega) (by omega))
          · intro _
            refine ⟨b, rfl, c1, c2, ?_⟩
            show RowV (put4 w1 b (m * 4) _ _ _ _) _ _
            exact HPUT.out
        · have hge : ¬ (m : Int) < (x.l.length : Int) := by omega
          have HFIN := Lib.hid (show Below lo w wr from (HB2.out.mono (by omega)).trans hbr)
          have HFQ := Lib.hid (show ∀ q, hi ≤ q → q < w.heap.size → wr.heap[q]? = w.heap[q]? from fun q u1 u2 => (hsame q u1 (by have := HS2.out; omega)).trans (HB2.out.block q u2))
          clear hbr hsame hmch hlr q0 q1 q2 q3
          go_wp2_with fail
          refine bodyPost_ret (v := .tuple #[]) (by simp [results, Tryz.results47, go_sem]) rfl ⟨rfl, HFIN.out, HFQ.out⟩) x
end Go.Proofs.YtcpdogjcofkpcaaGreatDoor

namespace Go.Proofs.YtcpdogjcofkpcaaGreatDoor
open Go.RowKit Go.Sort

/-- Is a part the one that a step asks for? -/
def hit (z : Val) (s : St) (k : Nat) : Bool :=
  if z.k = 8 ∧ s.k = 0 then decide (z.ks[k]? = some s.t) else if z.k = 7 ∧ s.k = 1 then decide ((k : Int) = s.a) else if z.k = 7 ∧ s.k = 2 then (match z.l[k]? with | some y => named1 s y | none => false) else false
theorem stp_hit {z u : Val} {s : St} {k : Nat} (hm : z.may = true) (hk : z.l[k]? = some u) (hn : ∀ j, j < k → hit z s j = false) (hh : hit z s k = true) : z.stp s = some u := by
  unfold hit at hh
  split at hh
  · rename_i h
    unfold Val.stp
    rw [if_pos h.2]
    exact get_at hm (of_decide_eq_true hh) hk
  · split at hh
    · rename_i h
      unfold Val.stp
      rw [if_neg (by rw [h.2]; decide), if_pos h.1, if_pos h.2, ← of_decide_eq_true hh]
      simpa using hk
    · split at hh
      · rename_i h
        unfold Val.stp
        rw [if_neg (by rw [h.2]; decide), if_pos h.1, if_neg (by rw [h.2]; decide), List.find?_eq_some_iff_getElem]
        rw [hk] at hh
        obtain ⟨hl, e⟩ := List.getElem?_eq_some_iff.1 hk
        refine ⟨hh, k, hl, e, fun j hj => ?_⟩
        have h2 := hn j hj
        unfold hit at h2
        rw [if_neg (by omega), if_neg (by omega), if_pos h, List.getElem?_eq_getElem (by omega)] at h2
        simpa using h2
      · cases hh
theorem stp_miss {z : Val} {s : St} (hm : z.may = true) (hs : mayS s = true) (hn : ∀ j, j < z.l.length → hit z s j = false) : z.stp s = none := by
  unfold Val.stp
  by_cases h0 : s.k = 0
  · rw [if_pos h0]
    by_cases h8 : z.k = 8
    · refine get_none fun ht => ?_
      obtain ⟨j, hj⟩ := List.getElem?_of_mem ht
      have hlk := (shape_map (within_sh (n := 256) (by rw [Val.may_eq]; exact hm)) h8).2.1
      have h2 := hn j (by have := (List.getElem?_eq_some_iff.1 hj).1; omega)
      unfold hit at h2
      rw [if_pos ⟨h8, h0⟩, hj] at h2
      simp at h2
    · unfold Val.get
      rw [if_neg (fun h => h8 h.1)]
  · rw [if_neg h0]
    by_cases h7 : z.k = 7
    · rw [if_pos h7]
      by_cases h1 : s.k = 1
      · rw [if_pos h1]
        refine List.getElem?_eq_none (Nat.le_of_not_lt fun hlt => ?_)
        have h2 := hn _ hlt
        have ha : 0 ≤ s.a := by
          unfold mayS at hs
          rw [if_neg h0, if_pos h1, Bool.and_eq_true] at hs
          exact of_decide_eq_true hs.1
        unfold hit at h2
        rw [if_neg (by omega), if_pos ⟨h7, h1⟩] at h2
        have := of_decide_eq_false h2
        omega
      · rw [if_neg h1]
        have hk2 : s.k = 2 := by
          unfold mayS at hs
          rw [if_neg h0, if_neg h1] at hs
          split at hs
          · assumption
          · cases hs
        rw [List.find?_eq_none]
        intro y hy
        obtain ⟨j, hj⟩ := List.getElem?_of_mem hy
        have h2 := hn j (List.getElem?_eq_some_iff.1 hj).1
        unfold hit at h2
        rw [if_neg (by omega), if_neg (by omega), if_pos ⟨h7, hk2⟩, hj] at h2
        simpa using h2
    · rw [if_neg h7]
def RWalkPost (o : Option Val) (w : World) (e : Ending) (w' : World) : Prop :=
  ∃ y : AV, e = .returned (.tuple #[y.val, .bool o.isSome]) ∧ (∀ u, o = some u → y.v = u) ∧ (o = none → y = zAV) ∧ y.In w 0 w.heap.size ∧ Below w.heap.size w w'
theorem rwalk_no {o : Option Val} {w w' : World} (h : o = none) (hb : Below w.heap.size w w') : RWalkPost o w (.returned (.tuple #[.agg #[.int .u8 0, .string ⟨#[]⟩, .slice none 0 0, .slice none 0 0], .bool false])) w' :=
  ⟨zAV, by rw [h]; rfl, (fun u hu => by rw [h] at hu; cases hu), fun _ => rfl, zAV_in _ _ _, hb⟩
set_option maxRecDepth 100000 in
set_option maxHeartbeats 25600000 in
theorem rwalk_c (x : AV) (a : Option Addr) (cap : Nat) (p : List St) (w : World) (hx : Rd w x) (hw : x.w ≤ 1048576) (hp : Sts w 0 w.heap.size a p) (hl : p.length ≤ 1048576) (hk0 : ∀ s ∈ p, 0 ≤ s.k) :
    Calls Tryz.prog 57 #[x.val, .slice a p.length cap] w (RWalkPost (walkV x.v p) w) := by
  have hB0 := duo_0 (w := w) (o1 := .cells #[.int .u8 x.k, .string x.t, .slice x.la x.l.length x.lc, .slice x.ka x.ks.length x.kc] 48) (o2 := .cells #[.int .u8 0, .string ⟨#[]⟩, .slice none 0 0, .slice none 0 0] 48)
  have hb0 := duo_b (w := w) (o1 := .cells #[.int .u8 x.k, .string x.t, .slice x.la x.l.length x.lc, .slice x.ka x.ks.length x.kc] 48) (o2 := .cells #[.int .u8 0, .string ⟨#[]⟩, .slice none 0 0, .slice none 0 0] 48)
  have HM16 := fun W (h : Below w.heap.size w W) => Lib.hid (refmay16 W a cap p (hp.up h) hl hk0)
  have HMV := fun W (h : Below w.heap.size w W) => Lib.hid (rmay_c x W (hx.up h) hw)
  have HX := Lib.hid hx
  have HP := Lib.hid hp
  clear hx hp
  cases hm : mayL p with
  | false =>
    have HF := Lib.hid (show walkV x.v p = none by unfold walkV; rw [hm]; rfl)
    rw [hm] at HM16
    clear hm
    go_enter Tryz.func57, Tryz.ntmps57
    go_wp2_with (
      go_at_call 110; refine (HM16 _ hb0).out.mono ?_; rintro e w1 ⟨rfl, hb1⟩
      have hB1 := tri_step (N := w.heap.size + 1 + 1) hB0 hb1 (by simp)
      obtain ⟨k1, k2, k3, k4⟩ := duo_at hB1
      obtain ⟨s0, s1, s2, s3, y0, y1, y2, y3⟩ := vbox4 k2)
    refine bodyPost_ret (v := .tuple #[.agg #[.int .u8 0, .string ⟨#[]⟩, .slice none 0 0, .slice none 0 0], .bool false]) (by simp [results, Tryz.results57, go_sem, s0, s1, s2, s3]) rfl (rwalk_no HF.out (below4 k4 (by omega)))
  | true =>
    rw [hm] at HM16
    cases hv : x.v.may with
    | false =>
      have HF := Lib.hid (show walkV x.v p = none by unfold walkV; rw [hv, Bool.and_false]; rfl)
      rw [hv] at HMV
      clear hm hv
      go_enter Tryz.func57, Tryz.ntmps57
      go_wp2_with (first
        | (go_at_call 110; refine (HM16 _ hb0).out.mono ?_; rintro e w1 ⟨rfl, hb1⟩
           have hB1 := tri_step (N := w.heap.size + 1 + 1) hB0 hb1 (by simp)
           obtain ⟨k1, k2, k3, k4⟩ := duo_at hB1
           obtain ⟨q0, q1, q2, q3, -, -, -, -⟩ := vbox4 k1)
        | (go_at_call 32; refine (HMV _ k4).out.mono ?_; rintro e w2 ⟨rfl, hb2⟩
           have hB2 := tri_step (N := w.heap.size + 1 + 1) hB1 hb2 (by simp)
           clear k1 k2 k3 k4
           obtain ⟨k1, k2, k3, k4⟩ := duo_at hB2
           obtain ⟨s0, s1, s2, s3, y0, y1, y2, y3⟩ := vbox4 k2))
      refine bodyPost_ret (v := .tuple #[.agg #[.int .u8 0, .string ⟨#[]⟩, .slice none 0 0, .slice none 0 0], .bool false]) (by simp [results, Tryz.results57, go_sem, s0, s1, s2, s3]) rfl (rwalk_no HF.out (below4 k4 (by omega)))
    | true =>
      have HF := Lib.hid (show walkV x.v p = walkL x.v p by unfold walkV; rw [hm, hv]; rfl)
      have hall : ∀ s ∈ p, mayS s = true := fun s hs => by
        unfold mayL at hm
        rw [Bool.and_eq_true] at hm
        exact List.all_eq_true.1 hm.2 s hs
      have HALL := Lib.hid hall
      have HMAY := Lib.hid hv
      rw [hv] at HMV
      clear hm hv hall
      go_enter Tryz.func57, Tryz.ntmps57
      go_wp2_with (first
        | (go_at_call 110; refine (HM16 _ hb0).out.mono ?_; rintro e w1 ⟨rfl, hb1⟩
           have hB1 := tri_step (N := w.heap.size + 1 + 1) hB0 hb1 (by simp)
           obtain ⟨k1, k2, k3, k4⟩ := duo_at hB1
           obtain ⟨q0, q1, q2, q3, -, -, -, -⟩ := vbox4 k1)
        | (go_at_call 32; refine (HMV _ k4).out.mono ?_; rintro e w2 ⟨rfl, hb2⟩
           have hB2 := tri_step (N := w.heap.size + 1 + 1) hB1 hb2 (by simp)
           clear k1 k2 k3 k4 q0 q1 q2 q3))
      obtain ⟨k1, k2, k3, k4⟩ := duo_at hB2
      have K1 := Lib.hid k1
      have K2 := Lib.hid k2
      have K3 := Lib.hid k3
      have K4 := Lib.hid k4
      clear k1 k2 k3 k4 hB0 hb0 hB1 hB2 hb1 hb2 HM16 HMV
      go_loopw [6] (fun s6 wr => ∃ (m : Nat) (z : AV), m ≤ p.length ∧ s6 = .int .i64 m ∧ walkL x.v (p.take m) = some z.v ∧ z.In w 0 w.heap.size ∧ z.w ≤ x.w ∧ wr.heap[w.heap.size]? = some (.cells #[.int .u8 z.k, .string z.t, .slice z.la z.l.length z.lc, .slice z.ka z.ks.length z.kc] 48 (0, 0)) ∧ wr.heap[w.heap.size + 1]? = some (.cells #[.int .u8 0, .string ⟨#[]⟩, .slice none 0 0, .slice none 0 0] 48 (0, 0)) ∧ Below w.heap.size w wr ∧ w.heap.size + 1 < wr.heap.size) (fun s6 _ => p.length - (intOf s6).toNat)
      case atStart => exact ⟨0, x, Nat.zero_le _, rfl, rfl, HX.out, Nat.le_refl _, K1.out, K2.out, K4.out, K3.out⟩
      case round =>
        obtain ⟨m, z, hm, rfl, hwk, hzi, hzw, hbz1, hbz2, hbw, hsz⟩ := hrel
        obtain ⟨W3, hW3⟩ : ∃ W3, W3 = wr := ⟨_, rfl⟩
        subst hW3
        have HWK := Lib.hid hwk
        have HZI := Lib.hid hzi
        have HB1 := Lib.hid hbz1
        have HB2' := Lib.hid hbz2
        have HBW := Lib.hid hbw
        by_cases hlt : m < p.length
        · have hk : p[m]? = some p[m] := List.getElem?_eq_getElem hlt
          have hmem : p[m] ∈ p := List.getElem_mem hlt
          generalize p[m] = s at hk hmem
          have hms := HALL.out s hmem
          have hzm := walkL_may HMAY.out hwk
          obtain ⟨b, off, hpa, -, -, gb, c0', c1', c2', c3'⟩ := HP.out.at_ hk
          have c0 := (hbw.cell (p := ⟨_, _, none⟩) gb).trans c0'
          have c1 := (hbw.cell (p := ⟨_, _, none⟩) gb).trans c1'
          have c2 := (hbw.cell (p := ⟨_, _, none⟩) gb).trans c2'
          have c3 := (hbw.cell (p := ⟨_, _, none⟩) gb).trans c3'
          have hbb : b < W3.heap.size := Nat.lt_of_lt_of_le gb hbw.size
          have hlt' : (m : Int) < (p.length : Int) := by omega
          have hm0 : (0 : Int) ≤ (m : Int) := by omega
          have hwm : IntKind.i64.wrap ((m : Int) + 1) = ((m + 1 : Nat) : Int) := by rw [IntWalk.i64_in _ (by omega)]; omega
          have HK := Lib.hid hk
          have HMS := Lib.hid hms
          have HZM := Lib.hid hzm
          subst hpa
          clear hwk hzi hk hmem hms hzm c0' c1' c2' c3' hbz1 hbz2
          go_upto_region 10 with fail
          go_name_world W4 hW4
          have hp4 : W4 = (W3.alloc (.cells #[.int .u8 s.k, .string s.t, .string s.i, .int .i64 s.a] 90)).alloc (.cells #[.int .u8 0, .string ⟨#[]⟩, .slice none 0 0, .slice none 0 0] 48) := hW4.symm
          clear hW4
          have hs4 : W4.heap.size = W3.heap.size + 1 + 1 := by rw [hp4]; simp
          have hb34 : Below W3.heap.size W3 W4 := by rw [hp4]; exact ((Below.refl _ _).alloc (Nat.le_refl _) _).alloc (by simp) _
          have hsb : W4.heap[W3.heap.size]? = some (.cells #[.int .u8 s.k, .string s.t, .string s.i, .int .i64 s.a] 90 (0, 0)) := by
            rw [hp4, heap_alloc_old _ _ _ (by simp)]; exact heap_alloc_new W3 _
          have hnb : W4.heap[W3.heap.size + 1]? = some (.cells #[.int .u8 zAV.k, .string zAV.t, .slice zAV.la zAV.l.length zAV.lc, .slice zAV.ka zAV.ks.length zAV.kc] 48 (0, 0)) := by
            rw [hp4]
            have := heap_alloc_new (W3.alloc (.cells #[.int .u8 s.k, .string s.t, .string s.i, .int .i64 s.a] 90)) (.cells #[.int .u8 0, .string ⟨#[]⟩, .slice none 0 0, .slice none 0 0] 48)
            rw [World.size_alloc] at this
            exact this
          have HS4 := Lib.hid hs4
          have H34 := Lib.hid hb34
          have HSB := Lib.hid hsb
          have hW34 := hb34.size
          clear hp4 hs4 hb34 hsb c0 c1 c2 c3
          go_loopw [8, 10] (fun s8 s10 wi => ∃ (k : Nat) (fd : Bool) (u : AV), k ≤ z.l.length ∧ s10 = .int .i64 k ∧ s8 = .bool fd ∧ wi.heap[W3.heap.size + 1]? = some (.cells #[.int .u8 u.k, .string u.t, .slice u.la u.l.length u.lc, .slice u.ka u.ks.length u.kc] 48 (0, 0)) ∧ (fd = false → ∀ j, j < k → hit z.v s j = false) ∧ (fd = true → ∃ j, j + 1 = k ∧ z.l[j]? = some u ∧ hit z.v s j = true ∧ ∀ q, q < j → hit z.v s q = false) ∧ Below (W3.heap.size + 1) W4 wi ∧ W3.heap.size + 1 < wi.heap.size) (fun _ s10 _ => z.l.length - (intOf s10).toNat)
          case atStart => exact ⟨0, false, zAV, Nat.zero_le _, rfl, rfl, hnb, (fun _ j hj => absurd hj (Nat.not_lt_zero _)), (fun h => by cases h), Below.refl _ _, by have := HS4.out; omega⟩
          case round =>
            clear hnb
            obtain ⟨k, fd, u, hkl, rfl, rfl, hnb, hno, hyes, hbi, hsi⟩ := hrel
            obtain ⟨wi, hwi⟩ : ∃ wi, wi = wr := ⟨_, rfl⟩
            subst hwi
            have HNB := Lib.hid hnb
            have HBI := Lib.hid hbi
            have HB3i := Lib.hid (show Below W3.heap.size W3 wi from H34.out.trans (hbi.mono (by omega)))
            have HBWi := Lib.hid (below_via HBW.out HB3i.out)
            have hb2i := blk_up HB3i.out HB1.out
            have hsbi : wi.heap[W3.heap.size]? = _ := (hbi.block W3.heap.size (by omega)).trans HSB.out
            have hll := z.w_l
            have hlw : w.heap.size < wi.heap.size := by omega
            have hk0' : (0 : Int) ≤ (k : Int) := by omega
            cases fd with
            | true =>
              obtain ⟨j, hjk, hju, hjh, hjn⟩ := hyes rfl
              have hst : z.v.stp s = some u.v := stp_hit HZM.out (by rw [AV.v_l, List.getElem?_map, hju]; rfl) hjn hjh
              have HTK := Lib.hid (show walkL x.v (p.take (m + 1)) = some u.v by rw [walk_take HK.out, HWK.out]; exact hst)
              have hui := HZI.out.kid (List.mem_of_getElem? hju)
              have huw := AV.w_kid (List.mem_of_getElem? hju)
              have HU := Lib.hid hui
              have HB2i := Lib.hid hb2i
              obtain ⟨q0, q1, q2, q3, f0, f1, f2, f3⟩ := vbox4 hb2i
              obtain ⟨n0, n1, n2, n3, -, -, -, -⟩ := vbox4 hnb
              clear hno hyes hjk hju hjh hjn hst hui hnb hbi hb2i hsbi
              by_cases hkl2 : k < z.l.length
              · have hd1 : decide ((k : Int) < (z.l.length : Int)) = true := by rw [decide_eq_true_iff]; omega
                have hd2 : (k : Int) < (z.l.length : Int) := by omega
                go_wp2_with fail
                exact ⟨⟨m + 1, u, by omega, by go_num, HTK.out, HU.out, by omega, put4_box HB2i.out, (put4_old (by omega)).trans (blk_up HB3i.out HB2'.out), below4 HBWi.out (Nat.le_refl _), by show _ < (put4 _ _ _ _ _ _ _).heap.size; rw [put4_size]; omega⟩, by simp [intOf]; omega⟩
              · have hd1 : decide ((k : Int) < (z.l.length : Int)) = false := by rw [decide_eq_false_iff_not]; omega
                have hd2 : ¬ (k : Int) < (z.l.length : Int) := by omega
                go_wp2_with fail
                exact ⟨⟨m + 1, u, by omega, by go_num, HTK.out, HU.out, by omega, put4_box HB2i.out, (put4_old (by omega)).trans (blk_up HB3i.out HB2'.out), below4 HBWi.out (Nat.le_refl _), by show _ < (put4 _ _ _ _ _ _ _).heap.size; rw [put4_size]; omega⟩, by simp [intOf]; omega⟩
            | false =>
              have HNO := Lib.hid (hno rfl)
              clear hyes hno
              by_cases hkl2 : k < z.l.length
              · have hd2 : (k : Int) < (z.l.length : Int) := by omega
                have hy : z.l[k]? = some z.l[k] := List.getElem?_eq_getElem hkl2
                have hym : z.l[k] ∈ z.l := List.getElem_mem hkl2
                generalize z.l[k] = y at hy hym
                have hyv : z.v.l[k]? = some y.v := by rw [AV.v_l, List.getElem?_map, hy]; rfl
                obtain ⟨by_, oy, hla, -, -, gy, y0', y1', y2', y3'⟩ := vals_at (Rd.up (w := w) HZI.out HBWi.out).sl hy
                have hyR : Rd wi y := Rd.up (w := w) (HZI.out.kid hym) HBWi.out
                have hyw := AV.w_kid hym
                have hyw2 : y.w ≤ 1048576 := by omega
                have hsh := within_sh (n := 256) (v := z.v) (by rw [Val.may_eq]; exact HZM.out)
                have hkind : z.k = 7 ∨ z.k = 8 := by
                  rcases shape_range hsh with h | h | h
                  · have h1 := shape_leaf hsh h
                    rw [AV.v_l] at h1
                    rw [List.map_eq_nil_iff.1 h1] at hkl2; cases hkl2
                  · left; rw [← AV.v_k]; exact h
                  · right; rw [← AV.v_k]; exact h
                have HYK := Lib.hid hy
                have HLA := Lib.hid hla
                have hwm2 : IntKind.i64.wrap ((k : Int) + 1) = ((k + 1 : Nat) : Int) := by rw [IntWalk.i64_in _ (by omega)]; omega
                have LO := Lib.hid (show ∀ W, Below wi.heap.size wi W → _ from fun W (h : Below wi.heap.size wi W) => And.intro (vbox4 (blk_up h hb2i)) (And.intro (st_box (blk_up h hsbi)) (And.intro (vbox4 (blk_up h hnb)) (And.intro ((h.cell (p := ⟨_, _, none⟩) gy).trans y0') (And.intro ((h.cell (p := ⟨_, _, none⟩) gy).trans y1') (And.intro ((h.cell (p := ⟨_, _, none⟩) gy).trans y2') ((h.cell (p := ⟨_, _, none⟩) gy).trans y3')))))))
                have hmsk : s.k = 0 ∨ s.k = 1 ∨ s.k = 2 := by
                  have h := HMS.out
                  unfold mayS at h
                  by_cases h0 : s.k = 0
                  · exact .inl h0
                  by_cases h1 : s.k = 1
                  · exact .inr (.inl h1)
                  rw [if_neg h0, if_neg h1] at h
                  split at h
                  · rename_i h2; exact .inr (.inr h2)
                  · cases h
                have hbr0 : Below wi.heap.size wi wi := Below.refl _ _
                cases hh : hit z.v s k with
                | true =>
                  have HHIT := Lib.hid hh
                  unfold hit at hh
                  rcases hkind with h7 | h8
                  · have e8 : (z.k == 8) = false := by simp [h7]
                    have e7 : (z.k == 7) = true := by simp [h7]
                    rcases hmsk with h | h | h
                    · rw [AV.v_k, if_neg (by omega), if_neg (by omega), if_neg (by omega)] at hh
                      cases hh
                    · rw [AV.v_k, if_neg (by omega), if_pos ⟨h7, h⟩] at hh
                      have a0 : (s.k == 0) = false := by simp [h]
                      have a1 : (s.k == 1) = true := by simp [h]
                      have a2 : (s.k == 2) = false := by simp [h]
                      have eka : ((k : Int) == s.a) = true := by have h2 := of_decide_eq_true hh; rw [beq_iff_eq]; exact h2
                      obtain ⟨⟨q0, q1, q2, q3, -, -, -, -⟩, ⟨b0, b1, b2, b3⟩, ⟨n0, n1, n2, n3, m0, m1, m2, m3⟩, y0, y1, y2, y3⟩ := LO.out wi hbr0
                      have i1 : w.heap.size < wi.heap.size := by have := (hbr0).size; omega
                      have i2 : W3.heap.size + 1 < wi.heap.size := by have := (hbr0).size; omega
                      have i3 : W3.heap.size < wi.heap.size := by have := (hbr0).size; omega
                      have i4 : by_ < wi.heap.size := by have := (hbr0).size; omega
                      rw [hla] at q2
                      clear hnb hbi hb2i hsbi y0' y1' y2' y3' hy hym hyv hsh hla
                      clear hh h7 h
                      go_wp2_with fail
                      have hbe := Below.refl wi.heap.size wi
                      have hsz9 := hbe.size
                      refine ⟨⟨k + 1, true, y, by omega, by go_num, rfl, put4_box (blk_up hbe HNB.out), (fun h => by cases h), (fun _ => ⟨k, rfl, HYK.out, HHIT.out, HNO.out⟩), below4 (HBI.out.trans (hbe.mono (by omega))) (Nat.le_refl _), ?_⟩, by simp [intOf]; omega⟩
                      show _ < (put4 wi (W3.heap.size + 1) 0 _ _ _ _).heap.size
                      rw [put4_size]; omega
                    · rw [AV.v_k, if_neg (by omega), if_neg (by omega), if_pos ⟨h7, h⟩, hyv] at hh
                      have hnm : named1 s y.v = true := hh
                      unfold named1 at hnm
                      have a0 : (s.k == 0) = false := by simp [h]
                      have a1 : (s.k == 1) = false := by simp [h]
                      have a2 : (s.k == 2) = true := by simp [h]
                      obtain ⟨⟨q0, q1, q2, q3, -, -, -, -⟩, ⟨b0, b1, b2, b3⟩, ⟨n0, n1, n2, n3, m0, m1, m2, m3⟩, y0, y1, y2, y3⟩ := LO.out wi hbr0
                      have i1 : w.heap.size < wi.heap.size := by have := (hbr0).size; omega
                      have i2 : W3.heap.size + 1 < wi.heap.size := by have := (hbr0).size; omega
                      have i3 : W3.heap.size < wi.heap.size := by have := (hbr0).size; omega
                      have i4 : by_ < wi.heap.size := by have := (hbr0).size; omega
                      rw [hla] at q2
                      clear hnb hbi hb2i hsbi y0' y1' y2' y3' hy hym hyv hsh hla
                      clear hh h7 h
                      go_wp2_with fail
                      cases hg : y.v.get s.t with
                      | none => rw [hg] at hnm; cases hnm
                      | some v =>
                        rw [hg] at hnm
                        have hty : decide ((⟨(textR v).toArray⟩ : ByteArray) = s.i) = true := hnm
                        clear hnm
                        have hG := fun W (h : Below wi.heap.size wi W) => Lib.hid (rgot_s hg W (Rd.up hyR h) hyw2)
                        have hvw := got_w hg
                        clear hg
                        have hN : wi.heap.size ≤ wi.heap.size := Nat.le_refl _
                        go_cut [11, 12] (fun t6 t7 wx => ∃ g z, t6 = .pointer (some ⟨g, 0, none⟩) ∧ t7 = .bool true ∧ wx.heap[g]? = some (.cells #[.int .u8 z.k, .string z.t, .slice z.la z.l.length z.lc, .slice z.ka z.ks.length z.kc] 48 (0, 0)) ∧ z ∈ y.l ∧ z.v = v ∧ Below wi.heap.size wi wx)
                        case first =>
                          go_region_held3 (fun w' => (∀ b o, b < wi.heap.size → w'.cell? ⟨b, o, none⟩ = wi.cell? ⟨b, o, none⟩) ∧ Below wi.heap.size wi w')
                            (first
                              | (with_reducible exact Q1.out)
                              | (with_reducible exact s_alloc hN Q1.out _)
                              | (with_reducible exact s_put4 hN Q1.out (by omega))
                              | (with_reducible exact s_alloc0 hN _)
                              | (with_reducible refine s_alloc hN (by assumption) _)
                              | exact ⟨fun _ _ _ => rfl, (Below.refl _ _).drew⟩)
                            (first
                              | (go_at_call 45; refine (hG _ (s_bel (by assumption))).out.mono ?_; rintro e w6 ⟨z, rfl, hzm, hzv, hb6⟩; have Q1 := Lib.hid (s_step hN (by assumption) hb6)
                                 obtain ⟨bs1, bs2⟩ := bcell hb6
                                 have hss := hb6.size
                                 try simp only [World.size_drew, World.size_alloc] at hss
                                 first | (have l1 : wi.heap.size < w6.heap.size := by omega) | skip))
                          all_goals go_wp2_with fail
                          all_goals go_meet
                          · exact ⟨w6.heap.size, z, rfl, rfl, heap_alloc_new w6 _, hzm, hzv, (s_alloc hN Q1.out _).2⟩
                          · have hbk := heap_alloc_new wi (.cells #[.int .u8 0, .string ⟨#[]⟩, .slice none 0 0, .slice none 0 0] 48)
                            exact ⟨wi.heap.size, z, rfl, rfl, put4_box ((hb6.block wi.heap.size (by simp)).trans hbk), hzm, hzv, (s_put4 hN Q1.out (by omega)).2⟩
                        case rest =>
                          obtain ⟨g2, y5, rfl, rfl, hgb, hy5m, hy5v, hbc⟩ := hcut
                          obtain ⟨W5, hWn⟩ : ∃ W5, W5 = wc := ⟨_, rfl⟩
                          subst hWn
                          have B_W5 := Lib.hid hbc
                          have G_W5 := Lib.hid hgb
                          clear hgb hbc
                          clear q0 q1 q2 q3 b0 b1 b2 b3 n0 n1 n2 n3 m0 m1 m2 m3 y0 y1 y2 y3 i1 i2 i3 i4
                          clear hG hN
                          have hy5r := Rd.up (hyR.kid hy5m) B_W5.out
                          have hy5w : y5.w ≤ 1048576 := by have := AV.w_kid hy5m; omega
                          have HT := fun W (h : Below W5.heap.size W5 W) => Lib.hid (show Calls Tryz.prog 42 #[y5.val] W (Ret (.string ⟨(textR v).toArray⟩) W) by
                            have h2 := rText_c y5 W (hy5r.up h) hy5w
                            rw [hy5v] at h2
                            exact h2)
                          have LD := Lib.hid (show ∀ W, Below W5.heap.size W5 W → _ from fun W (h : Below W5.heap.size W5 W) => And.intro (vbox4 (blk_up h G_W5.out)) (LO.out W (below_via B_W5.out h)).2.1)
                          generalize (⟨(textR v).toArray⟩ : ByteArray) = ty at HT hty
                          have e1 : (ty.toList == s.i.toList) = true := by rw [str_beq]; exact hty
                          clear hty
                          go_wp2_with fail
                          refine wp_region_bl (by kernel_rfl) (by kernel_rfl) ?_
                          repeat (first | go_big_quiet_skip | (go_big_quiet_want; go_big_quiet_op; first | go_big_quiet_on | (refine ⟨_, fun _ _ => (by with_reducible rfl), ?_⟩; go_big_quiet_on) | (apply Exists.intro; refine ⟨fun w' hC => (by simp only [LD.out w' hC, Result.andThen]; exact ⟨trivial, rfl⟩), ?_⟩; go_big_quiet_on) | (apply Exists.intro; refine ⟨fun w' hC => (by (with_reducible refine (HT w' hC).out.mono ?_); exact fun e w2 ⟨he, hb⟩ => ⟨he, hC.trans (hb.mono hC.size)⟩), ?_⟩; go_big_quiet_on)))
                          refine wpQuiet_nil ?_; intro wz hbz
                          have hbc := below_via B_W5.out hbz
                          obtain ⟨⟨q0, q1, q2, q3, -, -, -, -⟩, ⟨b0, b1, b2, b3⟩, ⟨n0, n1, n2, n3, m0, m1, m2, m3⟩, y0, y1, y2, y3⟩ := LO.out wz hbc
                          have i1 : w.heap.size < wz.heap.size := by have := (hbc).size; omega
                          have i2 : W3.heap.size + 1 < wz.heap.size := by have := (hbc).size; omega
                          have i3 : W3.heap.size < wz.heap.size := by have := (hbc).size; omega
                          have i4 : by_ < wz.heap.size := by have := (hbc).size; omega
                          rw [HLA.out] at q2
                          go_wp2_with fail
                          have hbe := hbc
                          have hsz9 := hbe.size
                          refine ⟨⟨k + 1, true, y, by omega, by go_num, rfl, put4_box (blk_up hbe HNB.out), (fun h => by cases h), (fun _ => ⟨k, rfl, HYK.out, HHIT.out, HNO.out⟩), below4 (HBI.out.trans (hbe.mono (by omega))) (Nat.le_refl _), ?_⟩, by simp [intOf]; omega⟩
                          show _ < (put4 wz (W3.heap.size + 1) 0 _ _ _ _).heap.size
                          rw [put4_size]; omega
                  · have e8 : (z.k == 8) = true := by simp [h8]
                    have e7 : (z.k == 7) = false := by simp [h8]
                    by_cases h : s.k = 0
                    · rw [AV.v_k, if_pos ⟨h8, h⟩, AV.v_ks] at hh
                      have hlk := (shape_map hsh (by rw [AV.v_k]; exact h8)).2.1
                      rw [AV.v_ks, AV.v_l, List.length_map] at hlk
                      have hkk : k < z.ks.length := by omega
                      have hkey : z.ks[k]? = some z.ks[k] := List.getElem?_eq_getElem hkk
                      generalize z.ks[k] = key at hkey
                      rw [hkey] at hh
                      have ekey : (key.toList == s.t.toList) = true := by
                        have h2 := of_decide_eq_true hh
                        rw [str_beq]
                        exact decide_eq_true (Option.some.inj h2)
                      obtain ⟨bk, ok, hka, -, -, gk, ck⟩ := key_at (Rd.up (w := w) HZI.out HBWi.out).keys hkey
                      have hkk' : (k : Int) < (z.ks.length : Int) := by omega
                      have a0 : (s.k == 0) = true := by simp [h]
                      have a1 : (s.k == 1) = false := by simp [h]
                      have a2 : (s.k == 2) = false := by simp [h]
                      obtain ⟨⟨q0, q1, q2, q3, -, -, -, -⟩, ⟨b0, b1, b2, b3⟩, ⟨n0, n1, n2, n3, m0, m1, m2, m3⟩, y0, y1, y2, y3⟩ := LO.out wi hbr0
                      have i1 : w.heap.size < wi.heap.size := by have := (hbr0).size; omega
                      have i2 : W3.heap.size + 1 < wi.heap.size := by have := (hbr0).size; omega
                      have i3 : W3.heap.size < wi.heap.size := by have := (hbr0).size; omega
                      have i4 : by_ < wi.heap.size := by have := (hbr0).size; omega
                      rw [hla] at q2
                      rw [hka] at q3
                      have HKA := Lib.hid hka
                      clear hnb hbi hb2i hsbi y0' y1' y2' y3' hy hym hyv hsh hla
                      clear hh h8 h hlk hkey hka
                      have LD := show ∀ W, Below wi.heap.size wi W → _ from fun W (h : Below wi.heap.size wi W) => And.intro (LO.out W h).1 (And.intro (LO.out W h).2.1 ((h.cell (p := ⟨_, _, none⟩) gk).trans ck))
                      rw [HKA.out] at LD
                      replace LD := Lib.hid LD
                      go_wp2_with fail
                      clear q0 q1 q2 q3 b0 b1 b2 b3 n0 n1 n2 n3 m0 m1 m2 m3 y0 y1 y2 y3 i1 i2 i3 i4
                      refine wp_region_bl (by kernel_rfl) (by kernel_rfl) ?_
                      repeat (first | go_big_quiet_skip | (go_big_quiet_want; go_big_quiet_op; first | go_big_quiet_on | (refine ⟨_, fun _ _ => (by with_reducible rfl), ?_⟩; go_big_quiet_on) | (apply Exists.intro; refine ⟨fun w' hC => (by simp only [LD.out w' hC, Result.andThen]; exact ⟨trivial, rfl⟩), ?_⟩; go_big_quiet_on)))
                      refine wpQuiet_nil ?_; intro wz hbz
                      obtain ⟨⟨q0, q1, q2, q3, -, -, -, -⟩, ⟨b0, b1, b2, b3⟩, ⟨n0, n1, n2, n3, m0, m1, m2, m3⟩, y0, y1, y2, y3⟩ := LO.out wz hbz
                      have i1 : w.heap.size < wz.heap.size := by have := (hbz).size; omega
                      have i2 : W3.heap.size + 1 < wz.heap.size := by have := (hbz).size; omega
                      have i3 : W3.heap.size < wz.heap.size := by have := (hbz).size; omega
                      have i4 : by_ < wz.heap.size := by have := (hbz).size; omega
                      rw [HLA.out] at q2
                      go_wp2_with fail
                      have hbe := hbz
                      have hsz9 := hbe.size
                      refine ⟨⟨k + 1, true, y, by omega, by go_num, rfl, put4_box (blk_up hbe HNB.out), (fun h => by cases h), (fun _ => ⟨k, rfl, HYK.out, HHIT.out, HNO.out⟩), below4 (HBI.out.trans (hbe.mono (by omega))) (Nat.le_refl _), ?_⟩, by simp [intOf]; omega⟩
                      show _ < (put4 wz (W3.heap.size + 1) 0 _ _ _ _).heap.size
                      rw [put4_size]; omega
                    · rw [AV.v_k, if_neg (fun q => h q.2), if_neg (by omega), if_neg (by omega)] at hh
                      cases hh
                | false =>
                  have HHIT := Lib.hid hh
                  unfold hit at hh
                  rcases hkind with h7 | h8
                  · have e8 : (z.k == 8) = false := by simp [h7]
                    have e7 : (z.k == 7) = true := by simp [h7]
                    rcases hmsk with h | h | h
                    · rw [AV.v_k, if_neg (by omega), if_neg (by omega), if_neg (by omega)] at hh
                      have a0 : (s.k == 0) = true := by simp [h]
                      have a1 : (s.k == 1) = false := by simp [h]
                      have a2 : (s.k == 2) = false := by simp [h]
                      obtain ⟨⟨q0, q1, q2, q3, -, -, -, -⟩, ⟨b0, b1, b2, b3⟩, ⟨n0, n1, n2, n3, m0, m1, m2, m3⟩, y0, y1, y2, y3⟩ := LO.out wi hbr0
                      have i1 : w.heap.size < wi.heap.size := by have := (hbr0).size; omega
                      have i2 : W3.heap.size + 1 < wi.heap.size := by have := (hbr0).size; omega
                      have i3 : W3.heap.size < wi.heap.size := by have := (hbr0).size; omega
                      have i4 : by_ < wi.heap.size := by have := (hbr0).size; omega
                      rw [hla] at q2
                      clear hnb hbi hb2i hsbi y0' y1' y2' y3' hy hym hyv hsh hla
                      clear hh h7 h
                      go_wp2_with fail
                      have hno9 : ∀ j, j < k + 1 → hit z.v s j = false := by
                        intro j hj
                        rcases Nat.lt_or_ge j k with h | h
                        · exact HNO.out j h
                        · obtain rfl : j = k := by omega
                          exact HHIT.out
                      have hbe := Below.refl wi.heap.size wi
                      have hsz9 := hbe.size
                      refine ⟨⟨k + 1, false, y, by omega, by go_num, rfl, put4_box (blk_up hbe HNB.out), (fun _ => hno9), (fun h => by cases h), below4 (HBI.out.trans (hbe.mono (by omega))) (Nat.le_refl _), ?_⟩, by simp [intOf]; omega⟩
                      show _ < (put4 wi (W3.heap.size + 1) 0 _ _ _ _).heap.size
                      rw [put4_size]; omega
                    · rw [AV.v_k, if_neg (by omega), if_pos ⟨h7, h⟩] at hh
                      have a0 : (s.k == 0) = false := by simp [h]
                      have a1 : (s.k == 1) = true := by simp [h]
                      have a2 : (s.k == 2) = false := by simp [h]
                      have eka : ((k : Int) == s.a) = false := by have h2 := of_decide_eq_false hh; rw [beq_eq_false_iff_ne]; exact h2
                      obtain ⟨⟨q0, q1, q2, q3, -, -, -, -⟩, ⟨b0, b1, b2, b3⟩, ⟨n0, n1, n2, n3, m0, m1, m2, m3⟩, y0, y1, y2, y3⟩ := LO.out wi hbr0
                      have i1 : w.heap.size < wi.heap.size := by have := (hbr0).size; omega
                      have i2 : W3.heap.size + 1 < wi.heap.size := by have := (hbr0).size; omega
                      have i3 : W3.heap.size < wi.heap.size := by have := (hbr0).size; omega
                      have i4 : by_ < wi.heap.size := by have := (hbr0).size; omega
                      rw [hla] at q2
                      clear hnb hbi hb2i hsbi y0' y1' y2' y3' hy hym hyv hsh hla
                      clear hh h7 h
                      go_wp2_with fail
                      have hno9 : ∀ j, j < k + 1 → hit z.v s j = false := by
                        intro j hj
                        rcases Nat.lt_or_ge j k with h | h
                        · exact HNO.out j h
                        · obtain rfl : j = k := by omega
                          exact HHIT.out
                      have hbe := Below.refl wi.heap.size wi
                      have hsz9 := hbe.size
                      refine ⟨⟨k + 1, false, y, by omega, by go_num, rfl, put4_box (blk_up hbe HNB.out), (fun _ => hno9), (fun h => by cases h), below4 (HBI.out.trans (hbe.mono (by omega))) (Nat.le_refl _), ?_⟩, by simp [intOf]; omega⟩
                      show _ < (put4 wi (W3.heap.size + 1) 0 _ _ _ _).heap.size
                      rw [put4_size]; omega
                    · rw [AV.v_k, if_neg (by omega), if_neg (by omega), if_pos ⟨h7, h⟩, hyv] at hh
                      have hnm : named1 s y.v = false := hh
                      unfold named1 at hnm
                      have a0 : (s.k == 0) = false := by simp [h]
                      have a1 : (s.k == 1) = false := by simp [h]
                      have a2 : (s.k == 2) = true := by simp [h]
                      obtain ⟨⟨q0, q1, q2, q3, -, -, -, -⟩, ⟨b0, b1, b2, b3⟩, ⟨n0, n1, n2, n3, m0, m1, m2, m3⟩, y0, y1, y2, y3⟩ := LO.out wi hbr0
                      have i1 : w.heap.size < wi.heap.size := by have := (hbr0).size; omega
                      have i2 : W3.heap.size + 1 < wi.heap.size := by have := (hbr0).size; omega
                      have i3 : W3.heap.size < wi.heap.size := by have := (hbr0).size; omega
                      have i4 : by_ < wi.heap.size := by have := (hbr0).size; omega
                      rw [hla] at q2
                      clear hnb hbi hb2i hsbi y0' y1' y2' y3' hy hym hyv hsh hla
                      clear hh h7 h
                      go_wp2_with fail
                      cases hg : y.v.get s.t with
                      | none =>
                        clear hnm
                        have hG := fun W (h : Below wi.heap.size wi W) => Lib.hid (rgot_n hg W (Rd.up hyR h) hyw2)
                        clear hg
                        have hN : wi.heap.size ≤ wi.heap.size := Nat.le_refl _
                        go_cut [11, 12] (fun t6 t7 wx => ∃ g, t6 = .pointer (some ⟨g, 0, none⟩) ∧ t7 = .bool false ∧ wx.heap[g]? = some (.cells #[.int .u8 zAV.k, .string zAV.t, .slice zAV.la zAV.l.length zAV.lc, .slice zAV.ka zAV.ks.length zAV.kc] 48 (0, 0)) ∧ Below wi.heap.size wi wx)
                        case first =>
                          go_region_held3 (fun w' => (∀ b o, b < wi.heap.size → w'.cell? ⟨b, o, none⟩ = wi.cell? ⟨b, o, none⟩) ∧ Below wi.heap.size wi w')
                            (first
                              | (with_reducible exact Q1.out)
                              | (with_reducible exact s_alloc hN Q1.out _)
                              | (with_reducible exact s_put4 hN Q1.out (by omega))
                              | (with_reducible exact s_alloc0 hN _)
                              | (with_reducible refine s_alloc hN (by assumption) _)
                              | exact ⟨fun _ _ _ => rfl, (Below.refl _ _).drew⟩)
                            (first
                              | (go_at_call 45; refine (hG _ (s_bel (by assumption))).out.mono ?_; rintro e w6 ⟨rfl, hb6⟩; have Q1 := Lib.hid (s_step hN (by assumption) hb6)
                                 obtain ⟨bs1, bs2⟩ := bcell hb6
                                 have hss := hb6.size
                                 try simp only [World.size_drew, World.size_alloc] at hss
                                 first | (have l1 : wi.heap.size < w6.heap.size := by omega) | skip))
                          all_goals go_wp2_with fail
                          all_goals go_meet
                          · exact ⟨w6.heap.size, rfl, rfl, heap_alloc_new w6 _, (s_alloc hN Q1.out _).2⟩
                          · have hbk := heap_alloc_new wi (.cells #[.int .u8 0, .string ⟨#[]⟩, .slice none 0 0, .slice none 0 0] 48)
                            exact ⟨wi.heap.size, rfl, rfl, put4_box ((hb6.block wi.heap.size (by simp)).trans hbk), (s_put4 hN Q1.out (by omega)).2⟩
                        case rest =>
                          obtain ⟨g2, rfl, rfl, hgb, hbc⟩ := hcut
                          obtain ⟨W5, hWn⟩ : ∃ W5, W5 = wc := ⟨_, rfl⟩
                          subst hWn
                          have B_W5 := Lib.hid hbc
                          have G_W5 := Lib.hid hgb
                          clear hgb hbc
                          clear q0 q1 q2 q3 b0 b1 b2 b3 n0 n1 n2 n3 m0 m1 m2 m3 y0 y1 y2 y3 i1 i2 i3 i4
                          clear hG hN
                          have LD := Lib.hid (show ∀ W, Below W5.heap.size W5 W → _ from fun W (h : Below W5.heap.size W5 W) => vbox4 (blk_up h G_W5.out))
                          go_wp2_with fail
                          refine wp_region_bl (by kernel_rfl) (by kernel_rfl) ?_
                          repeat (first | go_big_quiet_skip | (go_big_quiet_want; go_big_quiet_op; first | go_big_quiet_on | (refine ⟨_, fun _ _ => (by with_reducible rfl), ?_⟩; go_big_quiet_on)))
                          refine wpQuiet_nil ?_; intro wz hbz
                          have hbc := below_via B_W5.out hbz
                          obtain ⟨⟨q0, q1, q2, q3, -, -, -, -⟩, ⟨b0, b1, b2, b3⟩, ⟨n0, n1, n2, n3, m0, m1, m2, m3⟩, y0, y1, y2, y3⟩ := LO.out wz hbc
                          have i1 : w.heap.size < wz.heap.size := by have := (hbc).size; omega
                          have i2 : W3.heap.size + 1 < wz.heap.size := by have := (hbc).size; omega
                          have i3 : W3.heap.size < wz.heap.size := by have := (hbc).size; omega
                          have i4 : by_ < wz.heap.size := by have := (hbc).size; omega
                          rw [HLA.out] at q2
                          go_wp2_with fail
                          have hno9 : ∀ j, j < k + 1 → hit z.v s j = false := by
                            intro j hj
                            rcases Nat.lt_or_ge j k with h | h
                            · exact HNO.out j h
                            · obtain rfl : j = k := by omega
                              exact HHIT.out
                          have hbe := hbc
                          have hsz9 := hbe.size
                          refine ⟨⟨k + 1, false, y, by omega, by go_num, rfl, put4_box (blk_up hbe HNB.out), (fun _ => hno9), (fun h => by cases h), below4 (HBI.out.trans (hbe.mono (by omega))) (Nat.le_refl _), ?_⟩, by simp [intOf]; omega⟩
                          show _ < (put4 wz (W3.heap.size + 1) 0 _ _ _ _).heap.size
                          rw [put4_size]; omega
                      | some v =>
                        rw [hg] at hnm
                        have hty : decide ((⟨(textR v).toArray⟩ : ByteArray) = s.i) = false := hnm
                        clear hnm
                        have hG := fun W (h : Below wi.heap.size wi W) => Lib.hid (rgot_s hg W (Rd.up hyR h) hyw2)
                        have hvw := got_w hg
                        clear hg
                        have hN : wi.heap.size ≤ wi.heap.size := Nat.le_refl _
                        go_cut [11, 12] (fun t6 t7 wx => ∃ g z, t6 = .pointer (some ⟨g, 0, none⟩) ∧ t7 = .bool true ∧ wx.heap[g]? = some (.cells #[.int .u8 z.k, .string z.t, .slice z.la z.l.length z.lc, .slice z.ka z.ks.length z.kc] 48 (0, 0)) ∧ z ∈ y.l ∧ z.v = v ∧ Below wi.heap.size wi wx)
                        case first =>
                          go_region_held3 (fun w' => (∀ b o, b < wi.heap.size → w'.cell? ⟨b, o, none⟩ = wi.cell? ⟨b, o, none⟩) ∧ Below wi.heap.size wi w')
                            (first
                              | (with_reducible exact Q1.out)
                              | (with_reducible exact s_alloc hN Q1.out _)
                              | (with_reducible exact s_put4 hN Q1.out (by omega))
                              | (with_reducible exact s_alloc0 hN _)
                              | (with_reducible refine s_alloc hN (by assumption) _)
                              | exact ⟨fun _ _ _ => rfl, (Below.refl _ _).drew⟩)
                            (first
                              | (go_at_call 45; refine (hG _ (s_bel (by assumption))).out.mono ?_; rintro e w6 ⟨z, rfl, hzm, hzv, hb6⟩; have Q1 := Lib.hid (s_step hN (by assumption) hb6)
                                 obtain ⟨bs1, bs2⟩ := bcell hb6
                                 have hss := hb6.size
                                 try simp only [World.size_drew, World.size_alloc] at hss
                                 first | (have l1 : wi.heap.size < w6.heap.size := by omega) | skip))
                          all_goals go_wp2_with fail
                          all_goals go_meet
                          · exact ⟨w6.heap.size, z, rfl, rfl, heap_alloc_new w6 _, hzm, hzv, (s_alloc hN Q1.out _).2⟩
                          · have hbk := heap_alloc_new wi (.cells #[.int .u8 0, .string ⟨#[]⟩, .slice none 0 0, .slice none 0 0] 48)
                            exact ⟨wi.heap.size, z, rfl, rfl, put4_box ((hb6.block wi.heap.size (by simp)).trans hbk), hzm, hzv, (s_put4 hN Q1.out (by omega)).2⟩
                        case rest =>
                          obtain ⟨g2, y5, rfl, rfl, hgb, hy5m, hy5v, hbc⟩ := hcut
                          obtain ⟨W5, hWn⟩ : ∃ W5, W5 = wc := ⟨_, rfl⟩
                          subst hWn
                          have B_W5 := Lib.hid hbc
                          have G_W5 := Lib.hid hgb
                          clear hgb hbc
                          clear q0 q1 q2 q3 b0 b1 b2 b3 n0 n1 n2 n3 m0 m1 m2 m3 y0 y1 y2 y3 i1 i2 i3 i4
                          clear hG hN
                          have hy5r := Rd.up (hyR.kid hy5m) B_W5.out
                          have hy5w : y5.w ≤ 1048576 := by have := AV.w_kid hy5m; omega
                          have HT := fun W (h : Below W5.heap.size W5 W) => Lib.hid (show Calls Tryz.prog 42 #[y5.val] W (Ret (.string ⟨(textR v).toArray⟩) W) by
                            have h2 := rText_c y5 W (hy5r.up h) hy5w
                            rw [hy5v] at h2
                            exact h2)
                          have LD := Lib.hid (show ∀ W, Below W5.heap.size W5 W → _ from fun W (h : Below W5.heap.size W5 W) => And.intro (vbox4 (blk_up h G_W5.out)) (LO.out W (below_via B_W5.out h)).2.1)
                          generalize (⟨(textR v).toArray⟩ : ByteArray) = ty at HT hty
                          have e1 : (ty.toList == s.i.toList) = false := by rw [str_beq]; exact hty
                          clear hty
                          go_wp2_with fail
                          refine wp_region_bl (by kernel_rfl) (by kernel_rfl) ?_
                          repeat (first | go_big_quiet_skip | (go_big_quiet_want; go_big_quiet_op; first | go_big_quiet_on | (refine ⟨_, fun _ _ => (by with_reducible rfl), ?_⟩; go_big_quiet_on) | (apply Exists.intro; refine ⟨fun w' hC => (by simp only [LD.out w' hC, Result.andThen]; exact ⟨trivial, rfl⟩), ?_⟩; go_big_quiet_on) | (apply Exists.intro; refine ⟨fun w' hC => (by (with_reducible refine (HT w' hC).out.mono ?_); exact fun e w2 ⟨he, hb⟩ => ⟨he, hC.trans (hb.mono hC.size)⟩), ?_⟩; go_big_quiet_on)))
                          refine wpQuiet_nil ?_; intro wz hbz
                          have hbc := below_via B_W5.out hbz
                          obtain ⟨⟨q0, q1, q2, q3, -, -, -, -⟩, ⟨b0, b1, b2, b3⟩, ⟨n0, n1, n2, n3, m0, m1, m2, m3⟩, y0, y1, y2, y3⟩ := LO.out wz hbc
                          have i1 : w.heap.size < wz.heap.size := by have := (hbc).size; omega
                          have i2 : W3.heap.size + 1 < wz.heap.size := by have := (hbc).size; omega
                          have i3 : W3.heap.size < wz.heap.size := by have := (hbc).size; omega
                          have i4 : by_ < wz.heap.size := by have := (hbc).size; omega
                          rw [HLA.out] at q2
                          go_wp2_with fail
                          have hno9 : ∀ j, j < k + 1 → hit z.v s j = false := by
                            intro j hj
                            rcases Nat.lt_or_ge j k with h | h
                            · exact HNO.out j h
                            · obtain rfl : j = k := by omega
                              exact HHIT.out
                          have hbe := hbc
                          have hsz9 := hbe.size
                          refine ⟨⟨k + 1, false, y, by omega, by go_num, rfl, put4_box (blk_up hbe HNB.out), (fun _ => hno9), (fun h => by cases h), below4 (HBI.out.trans (hbe.mono (by omega))) (Nat.le_refl _), ?_⟩, by simp [intOf]; omega⟩
                          show _ < (put4 wz (W3.heap.size + 1) 0 _ _ _ _).heap.size
                          rw [put4_size]; omega
                  · have e8 : (z.k == 8) = true := by simp [h8]
                    have e7 : (z.k == 7) = false := by simp [h8]
                    by_cases h : s.k = 0
                    · rw [AV.v_k, if_pos ⟨h8, h⟩, AV.v_ks] at hh
                      have hlk := (shape_map hsh (by rw [AV.v_k]; exact h8)).2.1
                      rw [AV.v_ks, AV.v_l, List.length_map] at hlk
                      have hkk : k < z.ks.length := by omega
                      have hkey : z.ks[k]? = some z.ks[k] := List.getElem?_eq_getElem hkk
                      generalize z.ks[k] = key at hkey
                      rw [hkey] at hh
                      have ekey : (key.toList == s.t.toList) = false := by
                        have h2 := of_decide_eq_false hh
                        rw [str_beq]
                        exact decide_eq_false fun e => h2 (by rw [e])
                      obtain ⟨bk, ok, hka, -, -, gk, ck⟩ := key_at (Rd.up (w := w) HZI.out HBWi.out).keys hkey
                      have hkk' : (k : Int) < (z.ks.length : Int) := by omega
                      have a0 : (s.k == 0) = true := by simp [h]
                      have a1 : (s.k == 1) = false := by simp [h]
                      have a2 : (s.k == 2) = false := by simp [h]
                      obtain ⟨⟨q0, q1, q2, q3, -, -, -, -⟩, ⟨b0, b1, b2, b3⟩, ⟨n0, n1, n2, n3, m0, m1, m2, m3⟩, y0, y1, y2, y3⟩ := LO.out wi hbr0
                      have i1 : w.heap.size < wi.heap.size := by have := (hbr0).size; omega
                      have i2 : W3.heap.size + 1 < wi.heap.size := by have := (hbr0).size; omega
                      have i3 : W3.heap.size < wi.heap.size := by have := (hbr0).size; omega
                      have i4 : by_ < wi.heap.size := by have := (hbr0).size; omega
                      rw [hla] at q2
                      rw [hka] at q3
                      have HKA := Lib.hid hka
                      clear hnb hbi hb2i hsbi y0' y1' y2' y3' hy hym hyv hsh hla
                      clear hh h8 h hlk hkey hka
                      have LD := show ∀ W, Below wi.heap.size wi W → _ from fun W (h : Below wi.heap.size wi W) => And.intro (LO.out W h).1 (And.intro (LO.out W h).2.1 ((h.cell (p := ⟨_, _, none⟩) gk).trans ck))
                      rw [HKA.out] at LD
                      replace LD := Lib.hid LD
                      go_wp2_with fail
                      clear q0 q1 q2 q3 b0 b1 b2 b3 n0 n1 n2 n3 m0 m1 m2 m3 y0 y1 y2 y3 i1 i2 i3 i4
                      refine wp_region_bl (by kernel_rfl) (by kernel_rfl) ?_
                      repeat (first | go_big_quiet_skip | (go_big_quiet_want; go_big_quiet_op; first | go_big_quiet_on | (refine ⟨_, fun _ _ => (by with_reducible rfl), ?_⟩; go_big_quiet_on) | (apply Exists.intro; refine ⟨fun w' hC => (by simp only [LD.out w' hC, Result.andThen]; exact ⟨trivial, rfl⟩), ?_⟩; go_big_quiet_on)))
                      refine wpQuiet_nil ?_; intro wz hbz
                      obtain ⟨⟨q0, q1, q2, q3, -, -, -, -⟩, ⟨b0, b1, b2, b3⟩, ⟨n0, n1, n2, n3, m0, m1, m2, m3⟩, y0, y1, y2, y3⟩ := LO.out wz hbz
                      have i1 : w.heap.size < wz.heap.size := by have := (hbz).size; omega
                      have i2 : W3.heap.size + 1 < wz.heap.size := by have := (hbz).size; omega
                      have i3 : W3.heap.size < wz.heap.size := by have := (hbz).size; omega
                      have i4 : by_ < wz.heap.size := by have := (hbz).size; omega
                      rw [HLA.out] at q2
                      go_wp2_with fail
                      have hno9 : ∀ j, j < k + 1 → hit z.v s j = false := by
                        intro j hj
                        rcases Nat.lt_or_ge j k with h | h
                        · exact HNO.out j h
                        · obtain rfl : j = k := by omega
                          exact HHIT.out
                      have hbe := hbz
                      have hsz9 := hbe.size
                      refine ⟨⟨k + 1, false, y, by omega, by go_num, rfl, put4_box (blk_up hbe HNB.out), (fun _ => hno9), (fun h => by cases h), below4 (HBI.out.trans (hbe.mono (by omega))) (Nat.le_refl _), ?_⟩, by simp [intOf]; omega⟩
                      show _ < (put4 wz (W3.heap.size + 1) 0 _ _ _ _).heap.size
                      rw [put4_size]; omega
                    · rw [AV.v_k, if_neg (fun q => h q.2), if_neg (by omega), if_neg (by omega)] at hh
                      have a0 : (s.k == 0) = false := by simp [h]
                      obtain ⟨⟨q0, q1, q2, q3, -, -, -, -⟩, ⟨b0, b1, b2, b3⟩, ⟨n0, n1, n2, n3, m0, m1, m2, m3⟩, y0, y1, y2, y3⟩ := LO.out wi hbr0
                      have i1 : w.heap.size < wi.heap.size := by have := (hbr0).size; omega
                      have i2 : W3.heap.size + 1 < wi.heap.size := by have := (hbr0).size; omega
                      have i3 : W3.heap.size < wi.heap.size := by have := (hbr0).size; omega
                      have i4 : by_ < wi.heap.size := by have := (hbr0).size; omega
                      rw [hla] at q2
                      clear hnb hbi hb2i hsbi y0' y1' y2' y3' hy hym hyv hsh hla
                      clear hh h8 h hmsk
                      go_wp2_with fail
                      have hno9 : ∀ j, j < k + 1 → hit z.v s j = false := by
                        intro j hj
                        rcases Nat.lt_or_ge j k with h | h
                        · exact HNO.out j h
                        · obtain rfl : j = k := by omega
                          exact HHIT.out
                      have hbe := Below.refl wi.heap.size wi
                      have hsz9 := hbe.size
                      refine ⟨⟨k + 1, false, y, by omega, by go_num, rfl, put4_box (blk_up hbe HNB.out), (fun _ => hno9), (fun h => by cases h), below4 (HBI.out.trans (hbe.mono (by omega))) (Nat.le_refl _), ?_⟩, by simp [intOf]; omega⟩
                      show _ < (put4 wi (W3.heap.size + 1) 0 _ _ _ _).heap.size
                      rw [put4_size]; omega
              · obtain rfl : k = z.l.length := by omega
                have hd2 : ¬ (z.l.length : Int) < (z.l.length : Int) := by omega
                have hst := stp_miss HZM.out HMS.out (fun j hj => HNO.out j (by rw [AV.v_l, List.length_map] at hj; exact hj))
                have HN := Lib.hid (HF.out.trans (walk_stop HK.out HWK.out hst))
                obtain ⟨s0, s1, s2, s3, f0, f1, f2, f3⟩ := vbox4 (blk_up HB3i.out HB2'.out)
                obtain ⟨q0, q1, q2, q3, -, -, -, -⟩ := vbox4 hb2i
                have hl2 : w.heap.size + 1 < wi.heap.size := by omega
                clear hst hnb hbi hb2i hsbi
                go_wp2_with fail
                refine bodyPost_ret (v := .tuple #[.agg #[.int .u8 0, .string ⟨#[]⟩, .slice none 0 0, .slice none 0 0], .bool false]) (by simp [results, Tryz.results57, go_sem, s0, s1, s2, s3]) rfl (rwalk_no HN.out (below4 HBWi.out (by omega)))
        · obtain rfl : m = p.length := by omega
          have hge : ¬ (p.length : Int) < (p.length : Int) := by omega
          have hwf : walkV x.v p = some z.v := by rw [HF.out]; have h := HWK.out; rwa [List.take_length] at h
          have HWF := Lib.hid hwf
          obtain ⟨q0, q1, q2, q3, -, -, -, -⟩ := vbox4 hbz1
          obtain ⟨s0, s1, s2, s3, f0, f1, f2, f3⟩ := vbox4 hbz2
          have l0 : w.heap.size < W3.heap.size := by omega
          clear hwk hzi hbz1 hbz2 hbw hwf
          go_wp2_with fail
          refine bodyPost_ret (v := .tuple #[.agg #[.int .u8 z.k, .string z.t, .slice z.la z.l.length z.lc, .slice z.ka z.ks.length z.kc], .bool true]) (by simp [results, Tryz.results57, go_sem, s0, s1, s2, s3]) rfl ⟨z, by rw [HWF.out]; rfl, (fun u hu => by rw [HWF.out] at hu; cases hu; rfl), (fun hn => by rw [HWF.out] at hn; cases hn), HZI.out, below4 HBW.out (by omega)⟩
end Go.Proofs.YtcpdogjcofkpcaaGreatDoor

namespace Go.Proofs.YtcpdogjcofkpcaaGreatDoor
open Go.RowKit

set_option maxRecDepth 100000 in
set_option maxHeartbeats 3200000 in
theorem pwl_out (w : World) (x : AV) (a : Option Addr) (ca : Nat) (p : List St) (hx : Rd w x) (hwx : x.w ≤ 1048576) (_hp : Sts w 0 w.heap.size a p) (_hf : Fit p) (_hS : Shorts w) (hP : Pow w) (h0 : 1500 < x.v.w) :
    Calls Tryz.prog 9 #[x.val, .slice a p.length ca] w (Ret (.bool true) w) := by
  have HL := fun W (h : Below w.heap.size w W) => Lib.hid (lives16 W (hP.below h))
  have hB0 : Below (w.heap.size + 1) (w.alloc (.cells #[.int .u8 x.k, .string x.t, .slice x.la x.l.length x.lc, .slice x.ka x.ks.length x.kc] 48)) (w.alloc (.cells #[.int .u8 x.k, .string x.t, .slice x.la x.l.length x.lc, .slice x.ka x.ks.length x.kc] 48)) := Below.refl _ _
  have hb0 : Below w.heap.size w (w.alloc (.cells #[.int .u8 x.k, .string x.t, .slice x.la x.l.length x.lc, .slice x.ka x.ks.length x.kc] 48)) := (Below.refl _ _).alloc (Nat.le_refl _) _
  have HGX := fun W (h : Below w.heap.size w W) => Lib.hid (great14_c x W (hx.up h) hwx)
  rw [decide_eq_true h0] at HGX
  clear h0
  go_enter Tryz.func9, Tryz.ntmps9
  go_wp2_with (first
    | (go_at_call 54; refine (HL _ k1).out.mono ?_; rintro e w9 ⟨rfl, hb9⟩)
    | (go_at_call 21; refine (HGX _ hb0).out.mono ?_; rintro e w1 ⟨rfl, hb1⟩
       have hB1 := tri_step (N := w.heap.size + 1) hB0 hb1 (by simp)
       obtain ⟨q0, q1, q2, q3⟩ := bx hB1
       have k1 := bx_w hB1))
  go_ret
  exact ⟨rfl, below_via k1 hb9⟩
set_option maxRecDepth 100000 in
set_option maxHeartbeats 12800000 in
theorem pwl_in (w : World) (x : AV) (a : Option Addr) (ca : Nat) (p : List St) (hx : Rd w x) (hwx : x.w ≤ 1048576) (hp : Sts w 0 w.heap.size a p) (hf : Fit p) (hS : Shorts w) (hP : Pow w) (h0 : ¬ 1500 < x.v.w) :
    Calls Tryz.prog 9 #[x.val, .slice a p.length ca] w (Ret (.bool true) w) := by
  have HL := fun W (h : Below w.heap.size w W) => Lib.hid (lives16 W (hP.below h))
  have hB0 : Below (w.heap.size + 1) (w.alloc (.cells #[.int .u8 x.k, .string x.t, .slice x.la x.l.length x.lc, .slice x.ka x.ks.length x.kc] 48)) (w.alloc (.cells #[.int .u8 x.k, .string x.t, .slice x.la x.l.length x.lc, .slice x.ka x.ks.length x.kc] 48)) := Below.refl _ _
  have hb0 : Below w.heap.size w (w.alloc (.cells #[.int .u8 x.k, .string x.t, .slice x.la x.l.length x.lc, .slice x.ka x.ks.length x.kc] 48)) := (Below.refl _ _).alloc (Nat.le_refl _) _
  have HGX := fun W (h : Below w.heap.size w W) => Lib.hid (great14_c x W (hx.up h) hwx)
  have HG16 := fun W (h : Below w.heap.size w W) => Lib.hid (great16 W a ca p (hp.up h) hf)
  have hpl := hf.1
  have hk0 : ∀ s ∈ p, 0 ≤ s.k := fun s hs => (hf.2 s hs).2.2.1
  have HTX := fun W (h : Below w.heap.size w W) => Lib.hid (twin14_c x W (hx.up h) hwx)
  have HTP := fun W (h : Below w.heap.size w W) => Lib.hid (twin16 W a ca p (hp.up h) hpl)
  have HRW := fun W (h : Below w.heap.size w W) => Lib.hid (rwalk_c x a ca p W (hx.up h) hwx (hp.up h) hpl hk0)
  have HX := Lib.hid hx
  have HP := Lib.hid hp
  have HSH := Lib.hid hS
  rw [decide_eq_false h0] at HGX
  clear h0 hx hp hf hS hk0
  go_enter Tryz.func9, Tryz.ntmps9
  go_wp2_with (go_at_call 21; refine (HGX _ hb0).out.mono ?_; rintro e w1 ⟨rfl, hb1⟩
               have hB1 := tri_step (N := w.heap.size + 1) hB0 hb1 (by simp)
               obtain ⟨q0, q1, q2, q3⟩ := bx hB1)
  refine (HG16 _ (bx_w hB1)).out.mono ?_
  rintro e w2 ⟨r, rfl, hb2⟩
  have hB2 := tri_step (N := w.heap.size + 1) hB1 hb2 (by simp)
  clear q0 q1 q2 q3
  cases r with
  | true =>
    go_wp2_with (go_at_call 54; refine (HL _ (bx_w hB2)).out.mono ?_; rintro e w9 ⟨rfl, hb9⟩)
    go_ret
    exact ⟨rfl, below_via (bx_w hB2) hb9⟩
  | false =>
    obtain ⟨q0, q1, q2, q3⟩ := bx hB2
    clear hB0 hb0 hB1 hb1 hb2 HGX HG16
    cases ho : walkV x.v p with
    | none =>
      rw [ho] at HRW
      go_wp2_with (first
        | (go_at_call 23; (with_reducible refine (HTX _ (bx_w hB2)).out.mono ?_); rintro e w3 ⟨t, rfl, hxv, htx, hb3⟩
           clear q0 q1 q2 q3
           have hB3 := tri_step (N := w.heap.size + 1) hB2 hb3 (by simp)
           have hB3' := hB3.alloc (by have := hB3.size; simpa using this) (.cells #[.int .u8 t.k, .string t.t, .slice t.la t.l.length t.lc, .slice t.ka t.ks.length t.kc] 48)
           have hT3' : Below (w3.heap.size + 1) (w3.alloc (.cells #[.int .u8 t.k, .string t.t, .slice t.la t.l.length t.lc, .slice t.ka t.ks.length t.kc] 48)) (w3.alloc (.cells #[.int .u8 t.k, .string t.t, .slice t.la t.l.length t.lc, .slice t.ka t.ks.length t.kc] 48)) := Below.refl _ _
           obtain ⟨q0, q1, q2, q3⟩ := bx hB3
           have z3 : w.heap.size < w3.heap.size := by have := hB3.size; simp at this; omega)
        | (go_at_call 55; (with_reducible refine (HTP _ (bx_w hB3')).out.mono ?_); rintro e w4 ⟨g, cap, rfl, hg, hcap, hos, hb4⟩
           clear q0 q1 q2 q3
           have hB4 := tri_step (N := w.heap.size + 1) hB3' hb4 (by simp)
           have hT4 := tri_step (N := w3.heap.size + 1) hT3' hb4 (by simp)
           obtain ⟨q0, q1, q2, q3⟩ := bx hB4
           obtain ⟨p0, p1, p2, p3⟩ := bx hT4
           have z4 : w3.heap.size + 1 ≤ w4.heap.size := by have := hT4.size; simpa using this
           have hrt : Rd w3 t := (AV.Tw.rd t htx).widen (Nat.zero_le _) (Nat.le_refl _)
           have htw : t.w ≤ 1048576 := by show t.v.w ≤ _; rw [hxv]; exact hwx
           have sx : Sts w4 0 w4.heap.size (some ⟨g, 0, none⟩) p := by have := ((own_sl St.enc_len hos).widen (Nat.zero_le _) (Nat.le_refl _)).take p.length; rwa [List.take_left'] at this; rfl
           have HW := Lib.hid (pwalk_c t (some ⟨g, 0, none⟩) cap p w4 (hrt.up (bx_w hT4)) htw (HSH.out.below (bx_w hB4)) sx hpl)
           rw [hxv, ho] at HW)
        | (go_at_call 56; (with_reducible refine HW.out.mono ?_); rintro e w5 ⟨y, rfl, hy1, hy2, hyi, hb5, hym⟩
           have HY := Lib.hid (hy2 rfl)
           clear hy1 hy2
           clear q0 q1 q2 q3 p0 p1 p2 p3
           have hB5 := tri_step (N := w.heap.size + 1) hB4 hb5 (by simp)
           have hT5 := tri_step (N := w3.heap.size + 1) hT4 hb5 (by simp)
           have hB5' := hB5.alloc (by have := hB5.size; simpa using this) (.cells #[.int .u8 y.k, .string y.t, .slice y.la y.l.length y.lc, .slice y.ka y.ks.length y.kc] 48)
           have hT5' := hT5.alloc (by have := hT5.size; simpa using this) (.cells #[.int .u8 y.k, .string y.t, .slice y.la y.l.length y.lc, .slice y.ka y.ks.length y.kc] 48)
           have hY5' : Below (w5.heap.size + 1) (w5.alloc (.cells #[.int .u8 y.k, .string y.t, .slice y.la y.l.length y.lc, .slice y.ka y.ks.length y.kc] 48)) (w5.alloc (.cells #[.int .u8 y.k, .string y.t, .slice y.la y.l.length y.lc, .slice y.ka y.ks.length y.kc] 48)) := Below.refl _ _
           obtain ⟨q0, q1, q2, q3⟩ := bx hB5
           obtain ⟨p0, p1, p2, p3⟩ := bx hT5
           have z5 : w4.heap.size ≤ w5.heap.size := hb5.size
           have z5a : w.heap.size < w5.heap.size := by omega
           have z5b : w3.heap.size < w5.heap.size := by omega)
        | (go_at_call 57; (with_reducible refine (HRW _ (bx_w hB5')).out.mono ?_); rintro e w6 ⟨z, rfl, hz1, hz2, hzi, hb6⟩
           clear q0 q1 q2 q3 p0 p1 p2 p3
           have hB6 := tri_step (N := w.heap.size + 1) hB5' hb6 (by simp)
           have hT6 := tri_step (N := w3.heap.size + 1) hT5' hb6 (by simp)
           have hY6 := tri_step (N := w5.heap.size + 1) hY5' hb6 (by simp)
           have hB6' := hB6.alloc (by have := hB6.size; simpa using this) (.cells #[.int .u8 z.k, .string z.t, .slice z.la z.l.length z.lc, .slice z.ka z.ks.length z.kc] 48)
           have hT6' := hT6.alloc (by have := hT6.size; simpa using this) (.cells #[.int .u8 z.k, .string z.t, .slice z.la z.l.length z.lc, .slice z.ka z.ks.length z.kc] 48)
           have hY6' := hY6.alloc (by have := hY6.size; simpa using this) (.cells #[.int .u8 z.k, .string z.t, .slice z.la z.l.length z.lc, .slice z.ka z.ks.length z.kc] 48)
           have hZ6' : Below (w6.heap.size + 1) (w6.alloc (.cells #[.int .u8 z.k, .string z.t, .slice z.la z.l.length z.lc, .slice z.ka z.ks.length z.kc] 48)) (w6.alloc (.cells #[.int .u8 z.k, .string z.t, .slice z.la z.l.length z.lc, .slice z.ka z.ks.length z.kc] 48)) := Below.refl _ _
           obtain ⟨q0, q1, q2, q3⟩ := bx hB6
           obtain ⟨p0, p1, p2, p3⟩ := bx hT6
           obtain ⟨r0, r1, r2, r3⟩ := bx hY6
           have z6 : w5.heap.size + 1 ≤ w6.heap.size := by have := hY6.size; simpa using this
           have z6a : w.heap.size < w6.heap.size := by omega
           have z6b : w3.heap.size < w6.heap.size := by omega
           have z6c : w5.heap.size < w6.heap.size := by omega
           obtain ⟨s0, s1, s2, s3⟩ := bx hZ6'
           have hry : Rd (w6.alloc (.cells #[.int .u8 z.k, .string z.t, .slice z.la z.l.length z.lc, .slice z.ka z.ks.length z.kc] 48)) y := Rd.up (hyi.widen (Nat.zero_le _) (Nat.le_refl _)) (bx_w hY6')
           have hrz : Rd (w6.alloc (.cells #[.int .u8 z.k, .string z.t, .slice z.la z.l.length z.lc, .slice z.ka z.ks.length z.kc] 48)) z := Rd.up (Rd.up hzi hb6) (bx_w hZ6')
           have hyz : z.v = y.v := by rw [hz2 rfl, HY.out]
           have hyw : y.w ≤ 1048576 := by rw [HY.out]; exact of_decide_eq_true (by kernel_rfl)
           have HLK := Lib.hid (like_c y z _ hyz hry hrz hyw)
           clear hyz hz1 hz2)
        | (go_at_call 46; (with_reducible refine HLK.out.mono ?_); rintro e w7 ⟨rfl, hb7⟩
           clear q0 q1 q2 q3 p0 p1 p2 p3 r0 r1 r2 r3 s0 s1 s2 s3
           have hB7 := tri_step (N := w.heap.size + 1) hB6' hb7 (by simp)
           have hT7 := tri_step (N := w3.heap.size + 1) hT6' hb7 (by simp)
           have hY7 := tri_step (N := w5.heap.size + 1) hY6' hb7 (by simp)
           have hZ7 := tri_step (N := w6.heap.size + 1) hZ6' hb7 (by simp)
           obtain ⟨q0, q1, q2, q3⟩ := bx hB7
           obtain ⟨p0, p1, p2, p3⟩ := bx hT7
           obtain ⟨r0, r1, r2, r3⟩ := bx hY7
           obtain ⟨s0, s1, s2, s3⟩ := bx hZ7
           have hD4 := below_via hb5 (bx_w hY7))
        | (go_at_call 58; (with_reducible refine (left16 w7 g cap a ca p _ (own_below hos hD4) (HP.out.up (bx_w hB7)) hpl hcap).mono ?_); rintro e w8 ⟨rfl, hb8⟩
           clear q0 q1 q2 q3 p0 p1 p2 p3 r0 r1 r2 r3 s0 s1 s2 s3
           have hB8 := tri_step (N := w.heap.size + 1) hB7 hb8 (by simp)
           have hT8 := tri_step (N := w3.heap.size + 1) hT7 hb8 (by simp)
           have hY8 := tri_step (N := w5.heap.size + 1) hY7 hb8 (by simp)
           have hZ8 := tri_step (N := w6.heap.size + 1) hZ7 hb8 (by simp)
           obtain ⟨q0, q1, q2, q3⟩ := bx hB8
           obtain ⟨p0, p1, p2, p3⟩ := bx hT8
           obtain ⟨r0, r1, r2, r3⟩ := bx hY8
           obtain ⟨s0, s1, s2, s3⟩ := bx hZ8)
        | (go_at_call 29; first
             | ((with_reducible refine (left14_c x t w8 hxv ((AV.Tw.widen htx (Nat.zero_le _) (Nat.le_refl _)).up (bx_w hT8)) (HX.out.up (bx_w hB8)) hwx).mono ?_); rintro e w9 ⟨rfl, hb9⟩
                clear q0 q1 q2 q3 p0 p1 p2 p3 r0 r1 r2 r3 s0 s1 s2 s3
                have hB9 := tri_step (N := w.heap.size + 1) hB8 hb9 (by simp)
                have hT9 := tri_step (N := w3.heap.size + 1) hT8 hb9 (by simp)
                have hY9 := tri_step (N := w5.heap.size + 1) hY8 hb9 (by simp)
                have hZ9 := tri_step (N := w6.heap.size + 1) hZ8 hb9 (by simp)
                obtain ⟨q0, q1, q2, q3⟩ := bx hB9
                obtain ⟨p0, p1, p2, p3⟩ := bx hT9
                obtain ⟨r0, r1, r2, r3⟩ := bx hY9
                obtain ⟨s0, s1, s2, s3⟩ := bx hZ9
                have hM := hym.kept fun q _ h2 => (bx_w hY9).block q h2
                have HSP := Lib.hid (spoil_c y w4.heap.size w5.heap.size w9 hM hyw (bx_w hY9).size))
             | ((with_reducible refine (left14_c x t w10 hxv ((AV.Tw.widen htx (Nat.zero_le _) (Nat.le_refl _)).up (bx_w hT10)) (HX.out.up (bx_w hB10)) hwx).mono ?_); rintro e w11 ⟨rfl, hb11⟩
                have hB11 := tri_step (N := w.heap.size + 1) hB10 hb11 (by simp)))
        | (go_at_call 47; (with_reducible refine HSP.out.mono ?_); rintro e w10 ⟨rfl, hb10, -⟩
           clear q0 q1 q2 q3 p0 p1 p2 p3 r0 r1 r2 r3 s0 s1 s2 s3
           have hB10 := hB9.trans (hb10.mono (by omega))
           have hT10 := hT9.trans (hb10.mono z4)
           obtain ⟨q0, q1, q2, q3⟩ := bx hB10
           obtain ⟨p0, p1, p2, p3⟩ := bx hT10)
        | (go_at_call 54; refine (HL _ (bx_w hB11)).out.mono ?_; rintro e w12 ⟨rfl, hb12⟩
        ))
      go_ret
      exact ⟨rfl, below_via (bx_w hB11) hb12⟩
    | some u =>
      rw [ho] at HRW
      go_wp2_with (first
        | (go_at_call 23; (with_reducible refine (HTX _ (bx_w hB2)).out.mono ?_); rintro e w3 ⟨t, rfl, hxv, htx, hb3⟩
           clear q0 q1 q2 q3
           have hB3 := tri_step (N := w.heap.size + 1) hB2 hb3 (by simp)
           have hB3' := hB3.alloc (by have := hB3.size; simpa using this) (.cells #[.int .u8 t.k, .string t.t, .slice t.la t.l.length t.lc, .slice t.ka t.ks.length t.kc] 48)
           have hT3' : Below (w3.heap.size + 1) (w3.alloc (.cells #[.int .u8 t.k, .string t.t, .slice t.la t.l.length t.lc, .slice t.ka t.ks.length t.kc] 48)) (w3.alloc (.cells #[.int .u8 t.k, .string t.t, .slice t.la t.l.length t.lc, .slice t.ka t.ks.length t.kc] 48)) := Below.refl _ _
           obtain ⟨q0, q1, q2, q3⟩ := bx hB3
           have z3 : w.heap.size < w3.heap.size := by have := hB3.size; simp at this; omega)
        | (go_at_call 55; (with_reducible refine (HTP _ (bx_w hB3')).out.mono ?_); rintro e w4 ⟨g, cap, rfl, hg, hcap, hos, hb4⟩
           clear q0 q1 q2 q3
           have hB4 := tri_step (N := w.heap.size + 1) hB3' hb4 (by simp)
           have hT4 := tri_step (N := w3.heap.size + 1) hT3' hb4 (by simp)
           obtain ⟨q0, q1, q2, q3⟩ := bx hB4
           obtain ⟨p0, p1, p2, p3⟩ := bx hT4
           have z4 : w3.heap.size + 1 ≤ w4.heap.size := by have := hT4.size; simpa using this
           have hrt : Rd w3 t := (AV.Tw.rd t htx).widen (Nat.zero_le _) (Nat.le_refl _)
           have htw : t.w ≤ 1048576 := by show t.v.w ≤ _; rw [hxv]; exact hwx
           have sx : Sts w4 0 w4.heap.size (some ⟨g, 0, none⟩) p := by have := ((own_sl St.enc_len hos).widen (Nat.zero_le _) (Nat.le_refl _)).take p.length; rwa [List.take_left'] at this; rfl
           have HW := Lib.hid (pwalk_c t (some ⟨g, 0, none⟩) cap p w4 (hrt.up (bx_w hT4)) htw (HSH.out.below (bx_w hB4)) sx hpl)
           rw [hxv, ho] at HW)
        | (go_at_call 56; (with_reducible refine HW.out.mono ?_); rintro e w5 ⟨y, rfl, hy1, hy2, hyi, hb5, hym⟩
           have HY := Lib.hid (hy1 u rfl)
           clear hy1 hy2
           clear q0 q1 q2 q3 p0 p1 p2 p3
           have hB5 := tri_step (N := w.heap.size + 1) hB4 hb5 (by simp)
           have hT5 := tri_step (N := w3.heap.size + 1) hT4 hb5 (by simp)
           have hB5' := hB5.alloc (by have := hB5.size; simpa using this) (.cells #[.int .u8 y.k, .string y.t, .slice y.la y.l.length y.lc, .slice y.ka y.ks.length y.kc] 48)
           have hT5' := hT5.alloc (by have := hT5.size; simpa using this) (.cells #[.int .u8 y.k, .string y.t, .slice y.la y.l.length y.lc, .slice y.ka y.ks.length y.kc] 48)
           have hY5' : Below (w5.heap.size + 1) (w5.alloc (.cells #[.int .u8 y.k, .string y.t, .slice y.la y.l.length y.lc, .slice y.ka y.ks.length y.kc] 48)) (w5.alloc (.cells #[.int .u8 y.k, .string y.t, .slice y.la y.l.length y.lc, .slice y.ka y.ks.length y.kc] 48)) := Below.refl _ _
           obtain ⟨q0, q1, q2, q3⟩ := bx hB5
           obtain ⟨p0, p1, p2, p3⟩ := bx hT5
           have z5 : w4.heap.size ≤ w5.heap.size := hb5.size
           have z5a : w.heap.size < w5.heap.size := by omega
           have z5b : w3.heap.size < w5.heap.size := by omega)
        | (go_at_call 57; (with_reducible refine (HRW _ (bx_w hB5')).out.mono ?_); rintro e w6 ⟨z, rfl, hz1, hz2, hzi, hb6⟩
           clear q0 q1 q2 q3 p0 p1 p2 p3
           have hB6 := tri_step (N := w.heap.size + 1) hB5' hb6 (by simp)
           have hT6 := tri_step (N := w3.heap.size + 1) hT5' hb6 (by simp)
           have hY6 := tri_step (N := w5.heap.size + 1) hY5' hb6 (by simp)
           have hB6' := hB6.alloc (by have := hB6.size; simpa using this) (.cells #[.int .u8 z.k, .string z.t, .slice z.la z.l.length z.lc, .slice z.ka z.ks.length z.kc] 48)
           have hT6' := hT6.alloc (by have := hT6.size; simpa using this) (.cells #[.int .u8 z.k, .string z.t, .slice z.la z.l.length z.lc, .slice z.ka z.ks.length z.kc] 48)
           have hY6' := hY6.alloc (by have := hY6.size; simpa using this) (.cells #[.int .u8 z.k, .string z.t, .slice z.la z.l.length z.lc, .slice z.ka z.ks.length z.kc] 48)
           have hZ6' : Below (w6.heap.size + 1) (w6.alloc (.cells #[.int .u8 z.k, .string z.t, .slice z.la z.l.length z.lc, .slice z.ka z.ks.length z.kc] 48)) (w6.alloc (.cells #[.int .u8 z.k, .string z.t, .slice z.la z.l.length z.lc, .slice z.ka z.ks.length z.kc] 48)) := Below.refl _ _
           obtain ⟨q0, q1, q2, q3⟩ := bx hB6
           obtain ⟨p0, p1, p2, p3⟩ := bx hT6
           obtain ⟨r0, r1, r2, r3⟩ := bx hY6
           have z6 : w5.heap.size + 1 ≤ w6.heap.size := by have := hY6.size; simpa using this
           have z6a : w.heap.size < w6.heap.size := by omega
           have z6b : w3.heap.size < w6.heap.size := by omega
           have z6c : w5.heap.size < w6.heap.size := by omega
           obtain ⟨s0, s1, s2, s3⟩ := bx hZ6'
           have hry : Rd (w6.alloc (.cells #[.int .u8 z.k, .string z.t, .slice z.la z.l.length z.lc, .slice z.ka z.ks.length z.kc] 48)) y := Rd.up (hyi.widen (Nat.zero_le _) (Nat.le_refl _)) (bx_w hY6')
           have hrz : Rd (w6.alloc (.cells #[.int .u8 z.k, .string z.t, .slice z.la z.l.length z.lc, .slice z.ka z.ks.length z.kc] 48)) z := Rd.up (Rd.up hzi hb6) (bx_w hZ6')
           have hyz : z.v = y.v := by rw [hz1 u rfl, HY.out]
           have hyw : y.w ≤ 1048576 := by show y.v.w ≤ _; rw [HY.out]; have := walkV_w ho; have e : x.w = x.v.w := rfl; omega
           have HLK := Lib.hid (like_c y z _ hyz hry hrz hyw)
           clear hyz hz1 hz2)
        | (go_at_call 46; (with_reducible refine HLK.out.mono ?_); rintro e w7 ⟨rfl, hb7⟩
           clear q0 q1 q2 q3 p0 p1 p2 p3 r0 r1 r2 r3 s0 s1 s2 s3
           have hB7 := tri_step (N := w.heap.size + 1) hB6' hb7 (by simp)
           have hT7 := tri_step (N := w3.heap.size + 1) hT6' hb7 (by simp)
           have hY7 := tri_step (N := w5.heap.size + 1) hY6' hb7 (by simp)
           have hZ7 := tri_step (N := w6.heap.size + 1) hZ6' hb7 (by simp)
           obtain ⟨q0, q1, q2, q3⟩ := bx hB7
           obtain ⟨p0, p1, p2, p3⟩ := bx hT7
           obtain ⟨r0, r1, r2, r3⟩ := bx hY7
           obtain ⟨s0, s1, s2, s3⟩ := bx hZ7
           have hD4 := below_via hb5 (bx_w hY7))
        | (go_at_call 58; (with_reducible refine (left16 w7 g cap a ca p _ (own_below hos hD4) (HP.out.up (bx_w hB7)) hpl hcap).mono ?_); rintro e w8 ⟨rfl, hb8⟩
           clear q0 q1 q2 q3 p0 p1 p2 p3 r0 r1 r2 r3 s0 s1 s2 s3
           have hB8 := tri_step (N := w.heap.size + 1) hB7 hb8 (by simp)
           have hT8 := tri_step (N := w3.heap.size + 1) hT7 hb8 (by simp)
           have hY8 := tri_step (N := w5.heap.size + 1) hY7 hb8 (by simp)
           have hZ8 := tri_step (N := w6.heap.size + 1) hZ7 hb8 (by simp)
           obtain ⟨q0, q1, q2, q3⟩ := bx hB8
           obtain ⟨p0, p1, p2, p3⟩ := bx hT8
           obtain ⟨r0, r1, r2, r3⟩ := bx hY8
           obtain ⟨s0, s1, s2, s3⟩ := bx hZ8)
        | (go_at_call 29; first
             | ((with_reducible refine (left14_c x t w8 hxv ((AV.Tw.widen htx (Nat.zero_le _) (Nat.le_refl _)).up (bx_w hT8)) (HX.out.up (bx_w hB8)) hwx).mono ?_); rintro e w9 ⟨rfl, hb9⟩
                clear q0 q1 q2 q3 p0 p1 p2 p3 r0 r1 r2 r3 s0 s1 s2 s3
                have hB9 := tri_step (N := w.heap.size + 1) hB8 hb9 (by simp)
                have hT9 := tri_step (N := w3.heap.size + 1) hT8 hb9 (by simp)
                have hY9 := tri_step (N := w5.heap.size + 1) hY8 hb9 (by simp)
                have hZ9 := tri_step (N := w6.heap.size + 1) hZ8 hb9 (by simp)
                obtain ⟨q0, q1, q2, q3⟩ := bx hB9
                obtain ⟨p0, p1, p2, p3⟩ := bx hT9
                obtain ⟨r0, r1, r2, r3⟩ := bx hY9
                obtain ⟨s0, s1, s2, s3⟩ := bx hZ9
                have hM := hym.kept fun q _ h2 => (bx_w hY9).block q h2
                have HSP := Lib.hid (spoil_c y w4.heap.size w5.heap.size w9 hM hyw (bx_w hY9).size))
             | ((with_reducible refine (left14_c x t w10 hxv ((AV.Tw.widen htx (Nat.zero_le _) (Nat.le_refl _)).up (bx_w hT10)) (HX.out.up (bx_w hB10)) hwx).mono ?_); rintro e w11 ⟨rfl, hb11⟩
                have hB11 := tri_step (N := w.heap.size + 1) hB10 hb11 (by simp)))
        | (go_at_call 47; (with_reducible refine HSP.out.mono ?_); rintro e w10 ⟨rfl, hb10, -⟩
           clear q0 q1 q2 q3 p0 p1 p2 p3 r0 r1 r2 r3 s0 s1 s2 s3
           have hB10 := hB9.trans (hb10.mono (by omega))
           have hT10 := hT9.trans (hb10.mono z4)
           obtain ⟨q0, q1, q2, q3⟩ := bx hB10
           obtain ⟨p0, p1, p2, p3⟩ := bx hT10)
        | (go_at_call 54; refine (HL _ (bx_w hB11)).out.mono ?_; rintro e w12 ⟨rfl, hb12⟩
        ))
      go_ret
      exact ⟨rfl, below_via (bx_w hB11) hb12⟩

theorem pwl (w : World) (x : AV) (a : Option Addr) (ca : Nat) (p : List St) (hx : Rd w x) (hwx : x.w ≤ 1048576) (hp : Sts w 0 w.heap.size a p) (hf : Fit p) (hS : Shorts w) (hP : Pow w) :
    Calls Tryz.prog 9 #[x.val, .slice a p.length ca] w (Ret (.bool true) w) := by
  by_cases h0 : 1500 < x.v.w
  · exact pwl_out w x a ca p hx hwx hp hf hS hP h0
  · exact pwl_in w x a ca p hx hwx hp hf hS hP h0
end Go.Proofs.YtcpdogjcofkpcaaGreatDoor
