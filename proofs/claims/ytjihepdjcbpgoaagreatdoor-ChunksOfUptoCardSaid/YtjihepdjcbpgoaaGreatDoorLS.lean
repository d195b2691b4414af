/-
  inarchlaw14.Like at two values that are one: true. Conditions: both lie in memory, their weight is bounded.
  inarchlaw14.Spoil of a tree of the call's own: it writes into that tree's blocks alone. Condition: the tree's lengths are bounded.
-/
import Derived.Test.YtjihepdjcbpgoaaGreatDoorRB
import Derived.Test.YtjihepdjcbpgoaaGreatDoorSO
import Derived.Test.YtjihepdjcbpgoaaGreatDoorTC
namespace Go.Proofs.YtjihepdjcbpgoaaGreatDoor
open Go.RowKit Go.Sort

theorem ls_duo_at {w W : World} {o1 o2 : Obj} (hb : Below (w.heap.size + 1 + 1) ((w.alloc o1).alloc o2) W) : W.heap[w.heap.size]? = some o1 ∧ W.heap[w.heap.size + 1]? = some o2 ∧ w.heap.size + 1 < W.heap.size ∧ Below w.heap.size w W := by
  have hs := hb.size
  simp only [World.size_alloc] at hs
  have h2 := heap_alloc_new (w.alloc o1) o2
  simp only [World.size_alloc] at h2
  refine ⟨(hb.block _ (by omega)).trans ?_, (hb.block _ (by omega)).trans h2, by omega, ?_⟩
  · rw [heap_alloc_old _ _ _ (by simp)]; exact heap_alloc_new w o1
  · exact ((((Below.refl _ _).alloc (Nat.le_refl _) _).alloc (by simp) _)).trans (hb.mono (by omega))
theorem ls_duo_0 {w : World} {o1 o2 : Obj} : Below (w.heap.size + 1 + 1) ((w.alloc o1).alloc o2) ((w.alloc o1).alloc o2) := Below.refl _ _
theorem ls_duo_b {w : World} {o1 o2 : Obj} : Below w.heap.size w ((w.alloc o1).alloc o2) := ((Below.refl _ _).alloc (Nat.le_refl _) _).alloc (by simp) _
theorem ls_tri_step {N : Nat} {A W W' : World} (h : Below N A W) (hb : Below W.heap.size W W') (hN : N ≤ A.heap.size) : Below N A W' := h.trans (hb.mono (Nat.le_trans hN h.size))

set_option maxRecDepth 100000 in
set_option maxHeartbeats 6400000 in
theorem like_c : ∀ (x y : AV) (w : World), y.v = x.v → Rd w x → Rd w y → x.w ≤ 1048576 → Calls Tryz.prog 27 #[x.val, y.val] w (Ret (.bool true) w) := fun x => AV.ind (P := fun x => ∀ (y : AV) (w : World), y.v = x.v → Rd w x → Rd w y → x.w ≤ 1048576 → Calls Tryz.prog 27 #[x.val, y.val] w (Ret (.bool true) w)) (fun x ih y w hv hx hy hw => by
  have hll := x.w_l
  have hlk := x.w_ks
  rw [AV.v_eq x, AV.v_eq y, Val.mk.injEq] at hv
  obtain ⟨h1, h2, h3, h4⟩ := hv
  obtain ⟨yk, yt, yla, ylc, yl, yka, ykc, yks⟩ := y
  simp only at h1 h2 h3 h4
  subst h1 h2 h4
  have hlen : yl.length = x.l.length := by have := congrArg List.length h3; simpa using this
  have hB0 := ls_duo_0 (w := w) (o1 := .cells #[.int .u8 x.k, .string x.t, .slice x.la x.l.length x.lc, .slice x.ka x.ks.length x.kc] 26) (o2 := .cells #[.int .u8 x.k, .string x.t, .slice yla yl.length ylc, .slice yka x.ks.length ykc] 26)
  obtain ⟨W2, hW2⟩ : ∃ W2, (w.alloc (.cells #[.int .u8 x.k, .string x.t, .slice x.la x.l.length x.lc, .slice x.ka x.ks.length x.kc] 26)).alloc (.cells #[.int .u8 x.k, .string x.t, .slice yla yl.length ylc, .slice yka x.ks.length ykc] 26) = W2 := ⟨_, rfl⟩
  have HT := Lib.hid (show ∀ W, Below (w.heap.size + 1 + 1) W2 W → _ from fun W (h : Below (w.heap.size + 1 + 1) W2 W) => ls_duo_at (w := w) (W := W) (o1 := .cells #[.int .u8 x.k, .string x.t, .slice x.la x.l.length x.lc, .slice x.ka x.ks.length x.kc] 26) (o2 := .cells #[.int .u8 x.k, .string x.t, .slice yla yl.length ylc, .slice yka x.ks.length ykc] 26) (by rw [hW2]; exact h))
  rw [hW2] at hB0
  have hs2 : W2.heap.size = w.heap.size + 1 + 1 := by rw [← hW2]; simp
  have el : ((x.l.length : Int) != (yl.length : Int)) = false := by rw [bne_eq_false_iff_eq]; omega
  have HB0 := Lib.hid hB0
  have HS2 := Lib.hid hs2
  have HW2 := Lib.hid hW2
  have HX := Lib.hid hx
  have HYS := Lib.hid hy.sl
  have HYK := Lib.hid hy.keys
  have HYC := Lib.hid (fun z (hz : z ∈ yl) => hy.kid (y := z) hz)
  have HI := Lib.hid ih
  have HM := Lib.hid h3
  have HLE := Lib.hid hlen
  clear hB0 hW2 hs2 hx hy ih h3 hlen
  go_enter Tryz.func27, Tryz.ntmps27
  go_wp2_with fail
  rw [HW2.out]
  go_loopw [5] (fun s5 wr => ∃ m : Nat, m ≤ x.ks.length ∧ s5 = .int .i64 m ∧ Below (w.heap.size + 1 + 1) W2 wr) (fun s5 _ => x.ks.length - (intOf s5).toNat)
  case atStart => exact ⟨0, Nat.zero_le _, rfl, HB0.out⟩
  case round =>
    obtain ⟨m, hm, rfl, hbr⟩ := hrel
    obtain ⟨k1, k2, k3, k5⟩ := HT.out wr hbr
    obtain ⟨q0, q1, q2, q3, -, -, -, -⟩ := vbox4 k1
    obtain ⟨p0, p1, p2, p3, -, -, -, -⟩ := vbox4 k2
    have l1 : w.heap.size < wr.heap.size := by omega
    have HBR := Lib.hid hbr
    have K5 := Lib.hid k5
    clear hbr k5
    by_cases hlt : m < x.ks.length
    · have hk : x.ks[m]? = some x.ks[m] := List.getElem?_eq_getElem hlt
      generalize x.ks[m] = s at hk
      obtain ⟨b1, o1, e1, -, -, g1, c1⟩ := key_at (HX.out.up K5.out).keys hk
      obtain ⟨b2, o2, e2, -, -, g2, c2⟩ := key_at (HYK.out.up K5.out) hk
      have hlt' : (m : Int) < (x.ks.length : Int) := by omega
      have hm0 : (0 : Int) ≤ (m : Int) := by omega
      have hwm : IntKind.i64.wrap ((m : Int) + 1) = ((m + 1 : Nat) : Int) := by rw [IntWalk.i64_in _ (by omega)]; omega
      rw [e1] at q3
      rw [e2] at p3
      clear hk k1 k2 e1 e2
      go_upto_region 6 with fail
      go_quiet (fail)
      go_wp2_with fail
      exact ⟨⟨m + 1, by omega, by go_num, below_drewN HBR.out _⟩, by simp [intOf]; omega⟩
    · have hge : ¬ (m : Int) < (x.ks.length : Int) := by omega
      clear k1 k2
      go_wp2_with fail
      go_loopw [6] (fun s6 wq => ∃ m : Nat, m ≤ x.l.length ∧ s6 = .int .i64 m ∧ Below (w.heap.size + 1 + 1) W2 wq) (fun s6 _ => x.l.length - (intOf s6).toNat)
      case atStart => exact ⟨0, Nat.zero_le _, rfl, HBR.out⟩
      case round =>
        clear K5 HBR q0 q1 q2 q3 p0 p1 p2 p3 l1 hge
        obtain ⟨m, hm, rfl, hbr⟩ := hrel
        obtain ⟨k1, k2, k3, k5⟩ := HT.out wr hbr
        obtain ⟨q0, q1, q2, q3, -, -, -, -⟩ := vbox4 k1
        have l1 : w.heap.size < wr.heap.size := by omega
        have HBR := Lib.hid hbr
        have K5 := Lib.hid k5
        clear hbr k5
        by_cases hlt : m < x.l.length
        · have he : x.l[m]? = some x.l[m] := List.getElem?_eq_getElem hlt
          have hem : x.l[m] ∈ x.l := List.getElem_mem hlt
          have hlt2 : m < yl.length := by have := HLE.out; omega
          have hf : yl[m]? = some yl[m] := List.getElem?_eq_getElem hlt2
          have hfm : yl[m] ∈ yl := List.getElem_mem hlt2
          generalize x.l[m] = e at he hem
          generalize yl[m] = f at hf hfm
          have hvv : f.v = e.v := by
            have := congrArg (fun l => l[m]?) HM.out
            simp only [List.getElem?_map, he, hf, Option.map_some, Option.some.injEq] at this
            exact this
          obtain ⟨be, oe, hla, -, -, ge, e0', e1', e2', e3'⟩ := vals_at (HX.out.up K5.out).sl he
          obtain ⟨bf, of, hlb, -, -, gf, f0', f1', f2', f3'⟩ := vals_at (HYS.out.up K5.out) hf
          have hew := AV.w_kid hem
          have HH := fun W (h : Below wr.heap.size wr W) => Lib.hid (HI.out e hem f W hvv (Rd.up (HX.out.kid hem) (below_via K5.out h)) (Rd.up (HYC.out f hfm) (below_via K5.out h)) (by omega))
          have hlt' : (m : Int) < (x.l.length : Int) := by omega
          have hlt2' : (m : Int) < (yl.length : Int) := by omega
          have hm0 : (0 : Int) ≤ (m : Int) := by omega
          have hwm : IntKind.i64.wrap ((m : Int) + 1) = ((m + 1 : Nat) : Int) := by rw [IntWalk.i64_in _ (by omega)]; omega
          have LD := Lib.hid (show ∀ W, Below wr.heap.size wr W → _ from fun W (h : Below wr.heap.size wr W) => And.intro (vbox4 (blk_up h k1)) (And.intro (vbox4 (blk_up h k2)) (And.intro ((h.cell (p := ⟨_, _, none⟩) ge).trans e0') (And.intro ((h.cell (p := ⟨_, _, none⟩) ge).trans e1') (And.intro ((h.cell (p := ⟨_, _, none⟩) ge).trans e2') (And.intro ((h.cell (p := ⟨_, _, none⟩) ge).trans e3') (And.intro ((h.cell (p := ⟨_, _, none⟩) gf).trans f0') (And.intro ((h.cell (p := ⟨_, _, none⟩) gf).trans f1') (And.intro ((h.cell (p := ⟨_, _, none⟩) gf).trans f2') ((h.cell (p := ⟨_, _, none⟩) gf).trans f3'))))))))))
          rw [hla, hlb] at LD
          clear he hem hf hfm hla hlb hvv e0' e1' e2' e3' f0' f1' f2' f3' k1 k2
          go_wp2_with fail
          refine wp_region_bl (by kernel_rfl) (by kernel_rfl) ?_
          repeat (first | go_big_quiet_skip | (go_big_quiet_want; go_big_quiet_op; first | go_big_quiet_on | (refine ⟨_, fun _ _ => (by with_reducible rfl), ?_⟩; go_big_quiet_on) | (apply Exists.intro; refine ⟨fun w' hC => (by simp only [LD.out w' hC, Result.andThen]; exact ⟨trivial, rfl⟩), ?_⟩; go_big_quiet_on) | (apply Exists.intro; refine ⟨fun w' hC => (by (with_reducible refine (HH w' hC).out.mono ?_); exact fun e w2 ⟨he, hb⟩ => ⟨he, hC.trans (hb.mono hC.size)⟩), ?_⟩; go_big_quiet_on)))
          refine wpQuiet_nil ?_; intro wz hbz
          go_wp2_with fail
          exact ⟨⟨m + 1, by omega, by go_num, ls_tri_step HBR.out hbz (by rw [HS2.out]; exact Nat.le_refl _)⟩, by simp [intOf]; omega⟩
        · have hge : ¬ (m : Int) < (x.l.length : Int) := by omega
          clear k1 k2
          go_wp2_with fail
          go_ret
          exact ⟨rfl, K5.out⟩) x
end Go.Proofs.YtjihepdjcbpgoaaGreatDoor

namespace Go.Proofs.YtjihepdjcbpgoaaGreatDoor
open Go.RowKit Go.Sort

def spS : ByteArray := ⟨#[115, 112, 111, 105, 108, 116]⟩
def spAV : AV := ⟨0, spS, none, 0, [], none, 0, []⟩
/-- What Spoil leaves: what lies below lo, and from hi on, stays. -/
def SpPost (lo hi : Nat) (w : World) (e : Ending) (w' : World) : Prop := e = .returned (.tuple #[]) ∧ Below lo w w' ∧ ∀ q, hi ≤ q → q < w.heap.size → w'.heap[q]? = w.heap[q]?
set_option maxRecDepth 100000 in
set_option maxHeartbeats 6400000 in
theorem spoil_c : ∀ (x : AV) (lo hi : Nat) (w : World), x.Mn w lo hi → x.w ≤ 1048576 → hi ≤ w.heap.size → Calls Tryz.prog 29 #[x.val] w (SpPost lo hi w) := fun x => AV.ind (P := fun x => ∀ (lo hi : Nat) (w : World), x.Mn w lo hi → x.w ≤ 1048576 → hi ≤ w.heap.size → Calls Tryz.prog 29 #[x.val] w (SpPost lo hi w)) (fun x ih lo hi w hx hw hhi => by
  have hll := x.w_l
  have hlk := x.w_ks
  cases hx with
  | mk f h0 hm hh hk hl hkc hlc hkd hch =>
  have hf := fun {i j : Nat} (h : i ≤ j) => chn_mono hm h
  have hf0 : f 0 ≤ hi := Nat.le_trans (hf (Nat.zero_le _)) hh
  have hB0 : Below (w.heap.size + 1) (w.alloc (.cells #[.int .u8 x.k, .string x.t, .slice x.la x.l.length x.l.length, .slice x.ka x.ks.length x.ks.length] 26)) (w.alloc (.cells #[.int .u8 x.k, .string x.t, .slice x.la x.l.length x.l.length, .slice x.ka x.ks.length x.ks.length] 26)) := Below.refl _ _
  obtain ⟨W2, hW2⟩ : ∃ W2, w.alloc (.cells #[.int .u8 x.k, .string x.t, .slice x.la x.l.length x.l.length, .slice x.ka x.ks.length x.ks.length] 26) = W2 := ⟨_, rfl⟩
  have hbx : W2.heap[w.heap.size]? = some (.cells #[.int .u8 x.k, .string x.t, .slice x.la x.l.length x.l.length, .slice x.ka x.ks.length x.ks.length] 26 (0, 0)) := by rw [← hW2]; exact heap_alloc_new w _
  have hs2 : W2.heap.size = w.heap.size + 1 := by rw [← hW2]; simp
  have hb2 : Below w.heap.size w W2 := by rw [← hW2]; exact (Below.refl _ _).alloc (Nat.le_refl _) _
  obtain ⟨q0, q1, q2, q3, -, -, -, -⟩ := vbox4 hbx
  have e : x.val = .agg #[.int .u8 x.k, .string x.t, .slice x.la x.l.length x.l.length, .slice x.ka x.ks.length x.ks.length] := by show Value.agg _ = _; rw [hlc, hkc]
  rw [e]
  have HW2 := Lib.hid hW2
  have HBX := Lib.hid hbx
  have HS2 := Lib.hid hs2
  have HB2 := Lib.hid hb2
  have HI := Lib.hid ih
  have HK := Lib.hid hk
  have HL := Lib.hid hl
  have HCH := Lib.hid hch
  have HF := Lib.hid (show ∀ i j, i ≤ j → f i ≤ f j from fun i j h => hf h)
  have HH := Lib.hid hh
  clear hB0 hW2 hbx hs2 hb2 ih hk hl hch hkc hlc e hf
  go_enter Tryz.func29, Tryz.ntmps29
  go_wp2_with fail
  rw [HW2.out]
  go_loopw [3] (fun s3 wr => ∃ m : Nat, m ≤ x.ks.length ∧ s3 = .int .i64 m ∧ Below lo W2 wr ∧ wr.heap.size = W2.heap.size ∧ (∀ q, f 0 ≤ q → q < W2.heap.size → wr.heap[q]? = W2.heap[q]?) ∧ (0 < x.ks.length → ∃ k cs, x.ka = some ⟨k, 0, none⟩ ∧ lo ≤ k ∧ k < f 0 ∧ wr.heap[k]? = some (.cells cs 9 (0, 0)) ∧ x.ks.length ≤ cs.size) ∧ (0 < x.l.length → ∃ b, x.la = some ⟨b, 0, none⟩ ∧ lo ≤ b ∧ b < f 0 ∧ RowV wr b x.l)) (fun s3 _ => x.ks.length - (intOf s3).toNat)
  case atStart =>
    refine ⟨0, Nat.zero_le _, rfl, Below.refl _ _, rfl, fun _ _ _ => rfl, fun hp => ?_, fun hp => ?_⟩
    · obtain ⟨k, cs, e, a1, a2, a3, a4⟩ := HK.out hp
      exact ⟨k, cs, e, a1, a2, (HB2.out.block k (by omega)).trans a3, a4⟩
    · obtain ⟨b, e, a1, a2, a3⟩ := HL.out hp
      exact ⟨b, e, a1, a2, (HB2.out.block b (by omega)).trans a3⟩
  case round =>
    obtain ⟨m, hmn, rfl, hbr, hsz, hsame, hkr, hlr⟩ := hrel
    clear q0 q1 q2 q3
    by_cases hlt : m < x.ks.length
    · obtain ⟨k, cs, e, a1, a2, a3, a4⟩ := hkr (by omega)
      have hc : wr.cell? ⟨k, m, none⟩ = some cs[m] := by simp [World.cell?, a3]
      have hfz := frozen_of_row wr k m cs _ a3
      have hkl := lt_of_blk a3
      have hlt' : (m : Int) < (x.ks.length : Int) := by omega
      have hm0 : (0 : Int) ≤ (m : Int) := by omega
      have hwm : IntKind.i64.wrap ((m : Int) + 1) = ((m + 1 : Nat) : Int) := by rw [IntWalk.i64_in _ (by omega)]; omega
      have hnew := set_blk a3 m (.string spS)
      have HNEW := Lib.hid hnew
      have HBR := Lib.hid hbr
      have HSZ := Lib.hid hsz
      have HSM := Lib.hid hsame
      have HLR := Lib.hid hlr
      have HA3 := Lib.hid a3
      have HE := Lib.hid e
      clear hnew hbr hsz hsame hlr a3 hkr e
      rw [HE.out]
      go_wp2_with fail
      refine ⟨⟨m + 1, by omega, by go_num, HBR.out.setCell (p := ⟨k, m, none⟩) a1 _, ?_, fun q g1 g2 => ?_, fun _ => ⟨k, _, rfl, a1, a2, HNEW.out, by simpa using a4⟩, fun hp => ?_⟩, by simp [intOf]; omega⟩
      · exact (show (wr.setCell ⟨k, m, none⟩ (.string spS)).heap.size = wr.heap.size by simp).trans HSZ.out
      · exact (Below.heap_setCell wr _ _ q (by show q ≠ k; omega)).trans (HSM.out q g1 g2)
      · obtain ⟨b, e, c1, c2, c3⟩ := HLR.out hp
        refine ⟨b, e, c1, c2, (Below.heap_setCell wr _ _ b ?_).trans c3⟩
        show b ≠ k
        intro hbk
        subst hbk
        rw [RowV, HA3.out] at c3
        injection c3 with c3
        injection c3 with _ c3 _
        revert c3
        decide
    · have hge : ¬ (m : Int) < (x.ks.length : Int) := by omega
      obtain ⟨q0, q1, q2, q3, -, -, -, -⟩ := vbox4 ((hsame w.heap.size (by omega) (by have := HS2.out; omega)).trans HBX.out)
      have hlw : w.heap.size < wr.heap.size := by have := HS2.out; omega
      obtain ⟨W3, hW3⟩ : ∃ W3, W3 = wr := ⟨_, rfl⟩
      subst hW3
      have HBR := Lib.hid hbr
      have HSZ := Lib.hid hsz
      have HSM := Lib.hid hsame
      have HLR := Lib.hid hlr
      clear hbr hsz hsame hlr hkr
      go_wp2_with fail
      go_loopw [5] (fun s5 wr => ∃ m : Nat, m ≤ x.l.length ∧ s5 = .int .i64 m ∧ Below lo W2 wr ∧ (∀ q, hi ≤ q → q < W2.heap.size → wr.heap[q]? = W2.heap[q]?) ∧ (∀ (i : Nat) (y : AV), m ≤ i → x.l[i]? = some y → y.Mn wr (f i) (f (i + 1))) ∧ (0 < x.l.length → ∃ b, x.la = some ⟨b, 0, none⟩ ∧ lo ≤ b ∧ b < f 0 ∧ RowV wr b (List.replicate m spAV ++ x.l.drop m))) (fun s5 _ => x.l.length - (intOf s5).toNat)
      case atStart =>
        refine ⟨0, Nat.zero_le _, rfl, HBR.out, fun q g1 g2 => HSM.out q (by omega) g2, fun i y _ hy => (HCH.out i y hy).kept fun q g1 g2 => ?_, fun hp => ?_⟩
        · have b1 := HF.out 0 i (Nat.zero_le _)
          have b2 := HF.out (i + 1) x.l.length (Nat.succ_le_of_lt (List.getElem?_eq_some_iff.1 hy).1)
          have b3 := HH.out
          have b4 := HS2.out
          exact (HSM.out q (by omega) (by omega)).trans (HB2.out.block q (by omega))
        · obtain ⟨b, e, c1, c2, c3⟩ := HLR.out hp
          exact ⟨b, e, c1, c2, by simpa using c3⟩
      case round =>
        obtain ⟨m, hmn, rfl, hbr, hsame, hmch, hlr⟩ := hrel
        have hsr := hbr.size
        by_cases hlt : m < x.l.length
        · obtain ⟨b, e, c1, c2, c3⟩ := hlr (by omega)
          have hy : x.l[m]? = some x.l[m] := List.getElem?_eq_getElem hlt
          have hym : x.l[m] ∈ x.l := List.getElem_mem hlt
          generalize x.l[m] = y at hy hym
          have hrl : (List.replicate m spAV ++ x.l.drop m).length = x.l.length := by rw [List.length_append, List.length_replicate, List.length_drop]; omega
          have hry : (List.replicate m spAV ++ x.l.drop m)[m]? = some y := by
            rw [List.getElem?_append_right (by simp), List.length_replicate, Nat.sub_self, List.getElem?_drop, Nat.add_zero]; exact hy
          obtain ⟨b', o', eb, -, -, gb, d0, d1, d2, d3⟩ := vals_at c3.sl hry
          injection eb with eb
          injection eb with eb1 eb2
          subst eb1 eb2
          simp only [Nat.zero_add] at d0 d1 d2 d3
          have f1 := HF.out (m + 1) x.l.length (Nat.succ_le_of_lt hlt)
          have f2 := HF.out 0 m (Nat.zero_le _)
          have f5 := HF.out m (m + 1) (Nat.le_succ _)
          have f3 := HH.out
          have f4 := HS2.out
          have hyw := AV.w_kid hym
          have HC := Lib.hid (HI.out y hym (f m) (f (m + 1)) wr (hmch m y (Nat.le_refl _) hy) (by omega) (by omega))
          have hlt' : (m : Int) < (x.l.length : Int) := by omega
          have hm0 : (0 : Int) ≤ (m : Int) := by omega
          have hwm : IntKind.i64.wrap ((m : Int) + 1) = ((m + 1 : Nat) : Int) := by rw [IntWalk.i64_in _ (by omega)]; omega
          have HBR3 := Lib.hid hbr
          have HSM3 := Lib.hid hsame
          have HMC := Lib.hid hmch
          have HC3 := Lib.hid c3
          have HE := Lib.hid e
          have HRL := Lib.hid hrl
          clear hbr hsame hmch c3 e hlr hrl hry hy q0 q1 q2 q3
          rw [HE.out]
          go_wp2_with fail
          refine HC.out.mono ?_
          rintro e1 w1 ⟨rfl, hb1, hq1⟩
          have hs1 := hb1.size
          have hrow : RowV w1 b (List.replicate m spAV ++ x.l.drop m) := (hb1.block b (by omega)).trans HC3.out
          obtain ⟨⟨v0, g0⟩, z0⟩ := hrow.cell (m := m) (by rw [HRL.out]; exact hlt) (j := 0) (by omega)
          obtain ⟨⟨v1, g1⟩, z1⟩ := hrow.cell (m := m) (by rw [HRL.out]; exact hlt) (j := 1) (by omega)
          obtain ⟨⟨v2, g2⟩, z2⟩ := hrow.cell (m := m) (by rw [HRL.out]; exact hlt) (j := 2) (by omega)
          obtain ⟨⟨v3, g3⟩, z3⟩ := hrow.cell (m := m) (by rw [HRL.out]; exact hlt) (j := 3) (by omega)
          rw [Nat.add_zero] at g0 z0
          have HROW := Lib.hid hrow
          have HB1 := Lib.hid hb1
          have HQ1 := Lib.hid hq1
          have hbl : b < w1.heap.size := by omega
          clear hrow hb1 hq1
          go_wp2_with fail
          have hput := HROW.out.put (m := m) (by rw [HRL.out]; exact hlt) spAV
          have hset : (List.replicate m spAV ++ x.l.drop m).set m spAV = List.replicate (m + 1) spAV ++ x.l.drop (m + 1) := by
            rw [List.set_append, if_neg (by simp), List.length_replicate, Nat.sub_self, List.drop_eq_getElem_cons hlt, List.set_cons_zero, List.replicate_succ', List.append_assoc]; rfl
          rw [hset] at hput
          have hput' : RowV (put4 w1 b (m * 4) (.int .u8 0) (.string ⟨#[115, 112, 111, 105, 108, 116]⟩) (.slice none 0 0) (.slice none 0 0)) b (List.replicate (m + 1) spAV ++ x.l.drop (m + 1)) := by
            generalize List.replicate (m + 1) spAV ++ x.l.drop (m + 1) = R at hput ⊢
            exact hput
          have HPUT := Lib.hid hput'
          clear hput hput'
          refine ⟨⟨m + 1, by omega, by go_num, ?_, ?_, ?_, ?_⟩, by simp [intOf]; omega⟩
          · show Below lo W2 (put4 w1 b (m * 4) _ _ _ _)
            exact ((((HBR3.out.trans (HB1.out.mono (by omega))).setCell (p := ⟨b, m * 4, none⟩) c1 _).setCell (p := ⟨b, m * 4 + 1, none⟩) c1 _).setCell (p := ⟨b, m * 4 + 2, none⟩) c1 _).setCell (p := ⟨b, m * 4 + 3, none⟩) c1 _
          · intro q u1 u2
            show (put4 w1 b (m * 4) _ _ _ _).heap[q]? = _
            rw [put4_old (by omega)]
            exact (HQ1.out q (by omega) (by omega)).trans (HSM3.out q u1 u2)
          · intro i y' u1 u2
            have t1 := HF.out (m + 1) i u1
            have t2 := HF.out (i + 1) x.l.length (Nat.succ_le_of_lt (List.getElem?_eq_some_iff.1 u2).1)
            show AV.Mn (put4 w1 b (m * 4) _ _ _ _) _ _ _
            exact (HMC.out i y' (by omega) u2).kept fun q u3 u4 => (put4_old (by omega)).trans (HQ1.out q (by omega) (by omega))
          · intro _
            refine ⟨b, rfl, c1, c2, ?_⟩
            show RowV (put4 w1 b (m * 4) _ _ _ _) _ _
            exact HPUT.out
        · have hge : ¬ (m : Int) < (x.l.length : Int) := by omega
          have HFIN := Lib.hid (show Below lo w wr from (HB2.out.mono (by omega)).trans hbr)
          have HFQ := Lib.hid (show ∀ q, hi ≤ q → q < w.heap.size → wr.heap[q]? = w.heap[q]? from fun q u1 u2 => (hsame q u1 (by have := HS2.out; omega)).trans (HB2.out.block q u2))
          clear hbr hsame hmch hlr q0 q1 q2 q3
          go_wp2_with fail
          refine bodyPost_ret (v := .tuple #[]) (by simp [results, Tryz.results29, go_sem]) rfl ⟨rfl, HFIN.out, HFQ.out⟩) x
end Go.Proofs.YtjihepdjcbpgoaaGreatDoor
