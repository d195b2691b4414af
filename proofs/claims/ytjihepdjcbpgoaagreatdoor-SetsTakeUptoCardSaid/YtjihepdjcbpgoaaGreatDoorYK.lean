/-
  sets.own: a copy whose rows are the caller's own, each in a block of its own. Conditions: the tree lies in memory, its weight is bounded.
  sets.Take: copies of what is picked. Conditions: the lists and the picks lie in memory, lengths and weights are bounded.
-/
import Derived.Test.YtjihepdjcbpgoaaGreatDoorSO
import Derived.Test.YtjihepdjcbpgoaaGreatDoorYJ
namespace Go.Proofs.YtjihepdjcbpgoaaGreatDoor
open Go.RowKit Go.Sort

set_option maxRecDepth 100000 in
set_option maxHeartbeats 3200000 in
theorem sown2_c : ∀ (x : AV) (w : World), Rd w x → x.w ≤ 1048576 → Calls Tryz.prog 75 #[x.val] w (OwnPost2 x.v w) := AV.ind fun x ih w hx hw => by
  have hll := x.w_l
  have hlk := x.w_ks
  have hkd := hx.kind
  have hlb : x.l.length ≤ 1048576 := by omega
  have hlkb : x.ks.length ≤ 1048576 := by omega
  obtain ⟨i0, hi, hz0, hz1, hz2⟩ := info_parts info_val
  have hmk := fun W => run_make (P := Tryz.prog) W 23 26 i0 _ Tryz.underlying23 hi hz0 .i64 .i64 x.l.length x.l.length (by omega) (Int.le_refl _) (by rw [hz2]; omega) (by omega)
  rw [hz1, Int.toNat_natCast] at hmk
  rw [zcells] at hmk
  obtain ⟨mc, hmc⟩ : ∃ mc, mc = ((List.replicate x.l.length zAV).flatMap AV.enc).toArray := ⟨_, rfl⟩
  rw [← hmc] at hmk
  clear hi hz0 hz1 hz2
  have HMC := Lib.hid hmc
  clear hmc
  have HX := Lib.hid hx
  have HI := fun (y : AV) (hy : y ∈ x.l) (W : World) (hb : Below w.heap.size w W) => Lib.hid (ih y hy W (hx.kid_at hb hy) (Nat.le_trans (Nat.le_of_lt (AV.w_kid hy)) hw))
  have HC := fun W (hb : Below w.heap.size w W) => Lib.hid (clone2_c W x.ka x.kc x.ks 0 W.heap.size (hx.keys.up hb) hlkb)
  have HL := fun W a c h => Lib.hid (clip_c W a c x.ks.length h)
  clear ih hx
  go_enter Tryz.func75, Tryz.ntmps75
  go_upto_region 2 with (first
    | (go_at_call 107; refine (HC _ (by repeat (first | exact Below.refl _ _ | refine Below.drew ?_ | refine below_drewN ?_ _ | refine Below.alloc ?_ (by first | omega | (simp; done) | (simp; omega)) _))).out.mono ?_; rintro e w1 ⟨A', c', rfl, hc', hsl, hwr, hb⟩
       have hs1 := hb.size
       try simp only [World.size_alloc] at hs1
       have hbx := (hb.block w.heap.size (by simp; omega)).trans ((heap_alloc_old _ _ _ (by simp)).trans (heap_alloc_new w (.cells #[.int .u8 x.k, .string x.t, .slice x.la x.l.length x.lc, .slice x.ka x.ks.length x.kc] 26)))
       obtain ⟨q0, q1, q2, q3, y0, y1, y2, y3⟩ := vbox4 hbx)
    | (go_at_call 106; refine (HL _ _ _ hc').out.mono ?_; rintro e w2 ⟨rfl, rfl⟩))
  go_name_world W1 hW1
  have hsz1 : W1.heap.size = w1.heap.size := by rw [← hW1]; simp
  have hsl1 : SlE strE 1 W1 (w.heap.size + 1 + 1) w1.heap.size A' x.ks := by
    have h := hsl
    simp only [World.size_alloc] at h
    rw [← hW1]
    exact h.keep (by simp) fun q h1 _ _ => Below.heap_setCell w1 _ _ q (by show q ≠ w.heap.size; omega)
  have hbx1 : W1.heap[w.heap.size]? = some (.cells #[.int .u8 x.k, .string x.t, .slice x.la x.l.length x.lc, .slice A' x.ks.length x.ks.length] 26 (0, 0)) := by
    rw [← hW1, set_blk hbx]; rfl
  have hrb1 : W1.heap[w.heap.size + 1]? = some (.cells #[.int .u8 0, .string ⟨#[]⟩, .slice none 0 0, .slice none 0 0] 26 (0, 0)) := by
    rw [← hW1]
    refine (Below.heap_setCell w1 _ _ (w.heap.size + 1) (by show w.heap.size + 1 ≠ w.heap.size; omega)).trans ((hb.block (w.heap.size + 1) (by simp)).trans ?_)
    have := heap_alloc_new (w.alloc (.cells #[.int .u8 x.k, .string x.t, .slice x.la x.l.length x.lc, .slice x.ka x.ks.length x.kc] 26)) (.cells #[.int .u8 0, .string ⟨#[]⟩, .slice none 0 0, .slice none 0 0] 26)
    rwa [World.size_alloc] at this
  have hbw1 : Below w.heap.size w W1 := by
    rw [← hW1]
    refine Below.setCell (p := ⟨w.heap.size, 3, none⟩) ?_ (Nat.le_refl _) _
    exact (((Below.refl _ _).alloc (Nat.le_refl _) _).alloc (by simp) _).trans (hb.mono (by simp; omega))
  have hrow0 : RowV (W1.alloc (.cells mc 26)) W1.heap.size (List.replicate x.l.length zAV) := by
    rw [RowV, heap_alloc_new, HMC.out]
  have hwr1 : Wr W1 (w.heap.size + 1 + 1) w1.heap.size A' x.ks.length := by
    have h := hwr
    simp only [World.size_alloc] at h
    rw [← hW1]
    exact h.keep fun q h1 _ => Below.heap_setCell w1 _ _ q (by show q ≠ w.heap.size; omega)
  rw [← hsz1] at hsl1 hwr1
  have hs2 : w.heap.size + 1 + 1 ≤ W1.heap.size := by omega
  clear hwr hsl hb hbx q0 q1 q2 q3 y0 y1 y2 y3 HC HL HMC hc' hs1
  clear hW1 hsz1
  obtain ⟨q0, q1, q2, q3, y0, y1, y2, y3⟩ := vbox4 hbx1
  have hl1 : w.heap.size < W1.heap.size := by omega
  have HR0 := Lib.hid hrow0
  have HS1 := Lib.hid hsl1
  have HWW := Lib.hid hwr1
  have HB1 := Lib.hid hbx1
  have HRB := Lib.hid hrb1
  have HBW := Lib.hid hbw1
  clear hwr1 hsl1 hbx1 hrb1 hbw1 hrow0
  go_wp2_with fail
  clear hmk q0 q1 q2 q3 y0 y1 y2 y3
  go_loopw [4, 5, 18] (fun _ _ i wr => ∃ (m : Nat) (ys : List AV), m ≤ x.l.length ∧ i = .int .i64 m ∧ ys.length = m ∧ ys.map AV.v = (x.l.map AV.v).take m ∧ RowV wr W1.heap.size (ys ++ List.replicate (x.l.length - m) zAV) ∧ (∀ y ∈ ys, y.In wr (W1.heap.size + 1) wr.heap.size) ∧ Chn wr (W1.heap.size + 1) wr.heap.size ys ∧ Below W1.heap.size W1 wr ∧ W1.heap.size < wr.heap.size) (fun _ _ i _ => x.l.length - (intOf i).toNat)
  case atStart => exact ⟨0, [], Nat.zero_le _, rfl, rfl, rfl, HR0.out, fun y hy => absurd hy List.not_mem_nil, Chn.nil (by simp), (Below.refl _ _).alloc (Nat.le_refl _) _, by rw [World.size_alloc]; omega⟩
  case round =>
    obtain ⟨m, ys, hml, rfl, hyl, hyv, hrow, hyi, hych, hbr, hsr⟩ := hrel
    have hwr : Below w.heap.size w wr := HBW.out.trans (hbr.mono (by omega))
    obtain ⟨q0, q1, q2, q3, u0, u1, u2, u3⟩ := vbox4 ((hbr.block w.heap.size (by omega)).trans HB1.out)
    obtain ⟨s0, s1, s2, s3, y0, y1, y2, y3⟩ := vbox4 ((hbr.block (w.heap.size + 1) (by omega)).trans HRB.out)
    have HYL := Lib.hid hyl
    have HYV := Lib.hid hyv
    have HYI := Lib.hid hyi
    have HCH := Lib.hid hych
    have HROW := Lib.hid hrow
    have HBR := Lib.hid hbr
    have HWR := Lib.hid hwr
    clear hych hyl hyv hyi hrow hbr hwr HR0
    by_cases hlt : m < x.l.length
    · have hk : x.l[m]? = some x.l[m] := List.getElem?_eq_getElem hlt
      have hmem : x.l[m] ∈ x.l := List.getElem_mem hlt
      generalize x.l[m] = y at *
      obtain ⟨b, off, hla, -, hb1, hb2, h0, h1, h2, h3⟩ := vals_at HX.out.sl hk
      rw [← HWR.out.cell (p := ⟨_, _, none⟩) hb2] at h0 h1 h2 h3
      have hbb : b < wr.heap.size := Nat.lt_of_lt_of_le hb2 HWR.out.size
      have hlt' : (m : Int) < (x.l.length : Int) := by omega
      have HC := fun W h => HI y hmem W h
      rw [hla] at q2
      have hix := Nat.lt_of_lt_of_le hlt (Nat.le_refl x.l.length)
      have HK := Lib.hid hk
      rw [hla]
      clear hk hmem HI s0 s1 s2 s3
      go_wp2_with fail
      have hba := (Below.refl wr.heap.size wr).alloc (Nat.le_refl _) (.cells #[.int .u8 y.k, .string y.t, .slice y.la y.l.length y.lc, .slice y.ka y.ks.length y.kc] 26)
      refine (HC _ (HWR.out.trans (hba.mono HWR.out.size))).out.mono ?_
      rintro e w2 ⟨z, rfl, hzv, hzi, hzm, hb2'⟩
      have hbz : Below wr.heap.size wr w2 := hba.trans (hb2'.mono (by simp))
      have hrz := HROW.out.below hbz
      have hrl : (ys ++ List.replicate (x.l.length - m) zAV).length = x.l.length := by rw [List.length_append, List.length_replicate, HYL.out]; omega
      have hsz := hbz.size
      obtain ⟨⟨v0, c0⟩, f0⟩ := hrz.cell (m := m) (by omega) (j := 0) (by omega)
      obtain ⟨⟨v1, c1⟩, f1⟩ := hrz.cell (m := m) (by omega) (j := 1) (by omega)
      obtain ⟨⟨v2, c2⟩, f2⟩ := hrz.cell (m := m) (by omega) (j := 2) (by omega)
      obtain ⟨⟨v3, c3⟩, f3⟩ := hrz.cell (m := m) (by omega) (j := 3) (by omega)
      rw [Nat.add_zero] at c0 f0
      have HZI := Lib.hid hzi
      have HZM := Lib.hid hzm
      have HZV := Lib.hid hzv
      have HBZ := Lib.hid hbz
      have HRZ := Lib.hid hrz
      have HRL := Lib.hid hrl
      have hsr2 : W1.heap.size < w2.heap.size := by omega
      clear hzm hzi hzv hbz hrz hrl hba hb2' HC
      go_wp2_with fail
      have hput := HRZ.out.put (m := m) (by rw [HRL.out]; exact hlt) z
      have hset : (ys ++ List.replicate (x.l.length - m) zAV).set m z = (ys ++ [z]) ++ List.replicate (x.l.length - (m + 1)) zAV := by
        rw [List.set_append, if_neg (by rw [HYL.out]; omega), HYL.out, Nat.sub_self, List.append_assoc, show x.l.length - m = x.l.length - (m + 1) + 1 by omega, List.replicate_succ]
        rfl
      rw [hset] at hput
      have hbp : Below W1.heap.size W1 (put4 w2 W1.heap.size (m * 4) (.int .u8 z.k) (.string z.t) (.slice z.la z.l.length z.lc) (.slice z.ka z.ks.length z.kc)) :=
        ((((HBR.out.trans (HBZ.out.mono (by omega))).setCell (p := ⟨W1.heap.size, m * 4, none⟩) (Nat.le_refl _) _).setCell (p := ⟨W1.heap.size, m * 4 + 1, none⟩) (Nat.le_refl _) _).setCell (p := ⟨W1.heap.size, m * 4 + 2, none⟩) (Nat.le_refl _) _).setCell (p := ⟨W1.heap.size, m * 4 + 3, none⟩) (Nat.le_refl _) _
      refine ⟨⟨m + 1, ys ++ [z], by omega, by go_num, by simp [HYL.out], ?_, hput, ?_, ?_, hbp, by show W1.heap.size < (put4 _ _ _ _ _ _ _).heap.size; rw [put4_size]; omega⟩, by simp [intOf]; omega⟩
      · rw [List.map_append, HYV.out, List.take_add_one, List.getElem?_map, HK.out, List.map_singleton, HZV.out]; rfl
      · intro u hu
        have key : ∀ {lo hi : Nat}, W1.heap.size + 1 ≤ lo → hi ≤ w2.heap.size → u.In w2 lo hi → u.In (put4 w2 W1.heap.size (m * 4) (.int .u8 z.k) (.string z.t) (.slice z.la z.l.length z.lc) (.slice z.ka z.ks.length z.kc)) (W1.heap.size + 1) (put4 w2 W1.heap.size (m * 4) (.int .u8 z.k) (.string z.t) (.slice z.la z.l.length z.lc) (.slice z.ka z.ks.length z.kc)).heap.size := fun h1 h2 h =>
          (h.kept (Nat.le_of_eq put4_size.symm) fun q hq _ _ => put4_old (by omega)).widen h1 (by rw [put4_size]; exact h2)
        rcases List.mem_append.1 hu with hu | hu
        · exact key (Nat.le_refl _) hsz ((HYI.out u hu).blw' HBZ.out)
        · simp at hu; subst hu
          exact key (by rw [World.size_alloc]; omega) (Nat.le_refl _) HZI.out
      · refine Chn.snoc (mid := wr.heap.size) ((HCH.out.kept (w' := put4 w2 W1.heap.size (m * 4) (.int .u8 z.k) (.string z.t) (.slice z.la z.l.length z.lc) (.slice z.ka z.ks.length z.kc)) fun q h1 h2 => (put4_old (by omega)).trans (HBZ.out.block q h2))) ?_ (Nat.le_trans hsz (Nat.le_of_eq put4_size.symm))
        have h := HZM.out
        rw [World.size_alloc] at h
        exact (h.kept (w' := put4 w2 W1.heap.size (m * 4) (.int .u8 z.k) (.string z.t) (.slice z.la z.l.length z.lc) (.slice z.ka z.ks.length z.kc)) fun q h1 h2 => put4_old (by omega)).widen (by omega) (Nat.le_of_eq put4_size.symm)
    · obtain rfl : m = x.l.length := by omega
      have hge : ¬ (x.l.length : Int) < (x.l.length : Int) := by omega
      have hle : w.heap.size < wr.heap.size := by have := HBR.out.size; omega
      have hrow := HROW.out
      rw [Nat.sub_self, List.replicate_zero, List.append_nil] at hrow
      have hys : ys.map AV.v = x.l.map AV.v := by rw [HYV.out]; exact List.take_of_length_le (by simp)
      have HRW := Lib.hid hrow
      have HYS := Lib.hid hys
      have hsz := HBR.out.size
      clear hrow hys HI
      go_wp2_with fail
      have hq : ∀ q, W1.heap.size ≤ q ∨ w.heap.size + 1 + 1 ≤ q → (set4 (wr.setCell ⟨w.heap.size, 2, none⟩ (.slice (some ⟨W1.heap.size, 0, none⟩) x.l.length x.l.length)) (w.heap.size + 1) (.int .u8 x.k) (.string x.t) (.slice (some ⟨W1.heap.size, 0, none⟩) x.l.length x.l.length) (.slice A' x.ks.length x.ks.length)).heap[q]? = wr.heap[q]? := fun q hq => by
        rw [old4 (by omega)]
        exact Below.heap_setCell wr _ _ q (by show q ≠ w.heap.size; omega)
      have hqs : (set4 (wr.setCell ⟨w.heap.size, 2, none⟩ (.slice (some ⟨W1.heap.size, 0, none⟩) x.l.length x.l.length)) (w.heap.size + 1) (.int .u8 x.k) (.string x.t) (.slice (some ⟨W1.heap.size, 0, none⟩) x.l.length x.l.length) (.slice A' x.ks.length x.ks.length)).heap.size = wr.heap.size := by rw [size4]; simp
      have hin : AV.In (set4 (wr.setCell ⟨w.heap.size, 2, none⟩ (.slice (some ⟨W1.heap.size, 0, none⟩) x.l.length x.l.length)) (w.heap.size + 1) (.int .u8 x.k) (.string x.t) (.slice (some ⟨W1.heap.size, 0, none⟩) x.l.length x.l.length) (.slice A' x.ks.length x.ks.length)) w.heap.size (set4 (wr.setCell ⟨w.heap.size, 2, none⟩ (.slice (some ⟨W1.heap.size, 0, none⟩) x.l.length x.l.length)) (w.heap.size + 1) (.int .u8 x.k) (.string x.t) (.slice (some ⟨W1.heap.size, 0, none⟩) x.l.length x.l.length) (.slice A' x.ks.length x.ks.length)).heap.size ⟨x.k, x.t, some ⟨W1.heap.size, 0, none⟩, x.l.length, ys, A', x.ks.length, x.ks⟩ := by
        have e1 := HRW.out.sl.keep (w' := (set4 (wr.setCell ⟨w.heap.size, 2, none⟩ (.slice (some ⟨W1.heap.size, 0, none⟩) x.l.length x.l.length)) (w.heap.size + 1) (.int .u8 x.k) (.string x.t) (.slice (some ⟨W1.heap.size, 0, none⟩) x.l.length x.l.length) (.slice A' x.ks.length x.ks.length))) (Nat.le_of_eq hqs.symm) fun q h1 _ _ => hq q (.inl h1)
        have e2 := (HS1.out.below HBR.out (Nat.le_refl _)).keep (w' := (set4 (wr.setCell ⟨w.heap.size, 2, none⟩ (.slice (some ⟨W1.heap.size, 0, none⟩) x.l.length x.l.length)) (w.heap.size + 1) (.int .u8 x.k) (.string x.t) (.slice (some ⟨W1.heap.size, 0, none⟩) x.l.length x.l.length) (.slice A' x.ks.length x.ks.length))) (Nat.le_of_eq hqs.symm) fun q h1 _ _ => hq q (.inr h1)
        have e3 := fun u hu => (HYI.out u hu).kept (w' := (set4 (wr.setCell ⟨w.heap.size, 2, none⟩ (.slice (some ⟨W1.heap.size, 0, none⟩) x.l.length x.l.length)) (w.heap.size + 1) (.int .u8 x.k) (.string x.t) (.slice (some ⟨W1.heap.size, 0, none⟩) x.l.length x.l.length) (.slice A' x.ks.length x.ks.length))) (Nat.le_of_eq hqs.symm) fun q h1 _ _ => hq q (.inl (by omega))
        rw [hqs]
        exact ⟨e1.widen (by omega) (by omega), e2.widen (by omega) (by omega), hkd, fun u hu => (e3 u hu).widen (by omega) (Nat.le_refl _)⟩
      have hmn : AV.Mn (set4 (wr.setCell ⟨w.heap.size, 2, none⟩ (.slice (some ⟨W1.heap.size, 0, none⟩) x.l.length x.l.length)) (w.heap.size + 1) (.int .u8 x.k) (.string x.t) (.slice (some ⟨W1.heap.size, 0, none⟩) x.l.length x.l.length) (.slice A' x.ks.length x.ks.length)) w.heap.size (set4 (wr.setCell ⟨w.heap.size, 2, none⟩ (.slice (some ⟨W1.heap.size, 0, none⟩) x.l.length x.l.length)) (w.heap.size + 1) (.int .u8 x.k) (.string x.t) (.slice (some ⟨W1.heap.size, 0, none⟩) x.l.length x.l.length) (.slice A' x.ks.length x.ks.length)).heap.size ⟨x.k, x.t, some ⟨W1.heap.size, 0, none⟩, x.l.length, ys, A', x.ks.length, x.ks⟩ := by
        obtain ⟨f, g0, g1, g2, g3⟩ := HCH.out
        refine AV.Mn.mk f (by omega) g1 (by rw [hqs]; exact g2) (fun hpos => ?_) (fun _ => ⟨W1.heap.size, rfl, by omega, by omega, ?_⟩) rfl HYL.out.symm hkd fun i y hy => (g3 i y hy).kept fun q h1 h2 => hq q (.inl (by have := chn_le g1 i; omega))
        · obtain ⟨k, cs, e, h1, h2, h3, h4⟩ := HWW.out hpos
          exact ⟨k, cs, e, by omega, by omega, (hq k (.inr (by omega))).trans ((HBR.out.block k h2).trans h3), h4⟩
        · exact (hq _ (.inl (Nat.le_refl _))).trans HRW.out
      refine bodyPost_ret (v := .agg #[.int .u8 x.k, .string x.t, .slice (some ⟨W1.heap.size, 0, none⟩) x.l.length x.l.length, .slice A' x.ks.length x.ks.length]) (by simp [results, Tryz.results75, go_sem, s0, s1, s2, s3]) rfl ⟨⟨x.k, x.t, some ⟨W1.heap.size, 0, none⟩, x.l.length, ys, A', x.ks.length, x.ks⟩, ?_, ?_, ?_, ?_, ?_⟩
      · show _ = Ending.returned (.agg #[.int .u8 x.k, .string x.t, .slice (some ⟨W1.heap.size, 0, none⟩) ys.length x.l.length, .slice A' x.ks.length x.ks.length])
        rw [HYL.out]
      · rw [AV.v_eq, AV.v_eq x, HYS.out]
      · exact hin
      · exact hmn
      · show Below _ _ (set4 (wr.setCell ⟨w.heap.size, 2, none⟩ _) (w.heap.size + 1) _ _ _ _)
        exact below4 (HWR.out.setCell (p := ⟨w.heap.size, 2, none⟩) (Nat.le_refl _) _) (by omega)

end Go.Proofs.YtjihepdjcbpgoaaGreatDoor

namespace Go.Proofs.YtjihepdjcbpgoaaGreatDoor
open Go.RowKit Go.Sort

/-- Trees of the call's own, each in blocks of its own, behind each other; the row's block is none of these. -/
def IvS (w : World) (base : Nat) (blk : Option Nat) (ys : List AV) : Prop :=
  ∃ iv : List (Nat × Nat), iv.length = ys.length ∧ (∀ (i : Nat) (y : AV) (se : Nat × Nat), ys[i]? = some y → iv[i]? = some se → base ≤ se.1 ∧ se.2 ≤ w.heap.size ∧ y.In w se.1 se.2 ∧ y.Mn w se.1 se.2 ∧ ∀ g, blk = some g → ¬ (se.1 ≤ g ∧ g < se.2)) ∧ iv.Pairwise fun p q => p.2 ≤ q.1
theorem IvS.nil (w : World) (base : Nat) (blk : Option Nat) : IvS w base blk [] := ⟨[], rfl, fun i y se h => by simp at h, List.Pairwise.nil⟩
/-- One tree more, in new blocks; the row has grown. -/
theorem IvS.snoc {w w2 w3 : World} {base : Nat} {blk blk' : Option Nat} {ys : List AV} {y : AV} (h : IvS w base blk ys) (hb : Below w.heap.size w w2) (hin : y.In w2 w.heap.size w2.heap.size) (hmn : y.Mn w2 w.heap.size w2.heap.size) (hbase : base ≤ w.heap.size) (hblk : ∀ g, blk = some g → g < w.heap.size)
    (hs : w2.heap.size ≤ w3.heap.size) (hk : ∀ k, k < w2.heap.size → blk ≠ some k → w3.heap[k]? = w2.heap[k]?) (hb' : blk' = blk ∨ ∃ g, blk' = some g ∧ w2.heap.size ≤ g) : IvS w3 base blk' (ys ++ [y]) := by
  obtain ⟨iv, h1, h2, h3⟩ := h
  have hz := hb.size
  refine ⟨iv ++ [(w.heap.size, w2.heap.size)], by simp [h1], fun i u se hu hse => ?_, ?_⟩
  · rcases Nat.lt_or_ge i ys.length with hi | hi
    · rw [List.getElem?_append_left hi] at hu
      rw [List.getElem?_append_left (by omega)] at hse
      obtain ⟨g1, g2, g3, g4, g5⟩ := h2 i u se hu hse
      have hkk : ∀ k, se.1 ≤ k → k < se.2 → w3.heap[k]? = w.heap[k]? := fun k k1 k2 => (hk k (by omega) (fun e => g5 k e ⟨k1, k2⟩)).trans (hb.block k (by omega))
      refine ⟨g1, by omega, g3.kept (by omega) fun k k1 k2 _ => hkk k k1 k2, g4.kept hkk, fun g hg => ?_⟩
      rcases hb' with e | ⟨g', e, hg'⟩
      · exact g5 g (by rw [← e]; exact hg)
      · rw [e] at hg; cases hg; omega
    · rw [List.getElem?_append_right hi] at hu
      rw [List.getElem?_append_right (by omega), h1] at hse
      have h0 : i - ys.length = 0 := by
        have := (List.getElem?_eq_some_iff.1 hu).1
        simp at this; omega
      rw [h0] at hu hse
      cases hu
      cases hse
      have hkk : ∀ k, w.heap.size ≤ k → k < w2.heap.size → w3.heap[k]? = w2.heap[k]? := fun k k1 k2 => hk k k2 (fun e => by have := hblk k e; omega)
      refine ⟨hbase, hs, hin.kept hs fun k k1 k2 _ => hkk k k1 k2, hmn.kept hkk, fun g hg => ?_⟩
      rcases hb' with e | ⟨g', e, hg'⟩
      · have := hblk g (by rw [← e]; exact hg)
        show ¬ (w.heap.size ≤ g ∧ g < w2.heap.size)
        omega
      · rw [e] at hg; cases hg
        show ¬ (w.heap.size ≤ g ∧ g < w2.heap.size)
        omega
  · refine List.pairwise_append.2 ⟨h3, List.pairwise_singleton _ _, fun p hp q hq => ?_⟩
    rw [List.mem_singleton] at hq
    subst hq
    obtain ⟨i, hi, e⟩ := List.mem_iff_getElem.1 hp
    have := h2 i (ys[i]'(by omega)) p (List.getElem?_eq_getElem _) (by rw [List.getElem?_eq_getElem hi, e])
    exact this.2.1
theorem IvS.keep {w w' : World} {base : Nat} {blk : Option Nat} {ys : List AV} (h : IvS w base blk ys) (hb : Below w.heap.size w w') : IvS w' base blk ys := by
  obtain ⟨iv, h1, h2, h3⟩ := h
  refine ⟨iv, h1, fun i u se hu hse => ?_, h3⟩
  obtain ⟨g1, g2, g3, g4, g5⟩ := h2 i u se hu hse
  exact ⟨g1, Nat.le_trans g2 hb.size, g3.kept hb.size fun k _ _ hk => hb.block k hk, g4.kept fun k _ hk => hb.block k (by omega), g5⟩
def TakePost (b l r : List Val) (P : List Pk) (w : World) (e : Ending) (w' : World) : Prop :=
  ∃ (ys : List AV) (a : Option Addr), e = .returned (.slice a ys.length ys.length) ∧ ys.map AV.v = takeP b l r P ∧ OwnC w' w.heap.size 26 4 a ys.length ys.length (ys.flatMap AV.enc) ∧ IvS w' w.heap.size (Value.slice a ys.length ys.length).ownBlock ys ∧ Below w.heap.size w w'
theorem takeP_snoc {b l r : List Val} {P : List Pk} {p : Pk} : takeP b l r (P ++ [p]) = takeP b l r P ++ (pickV b l r p).toList := by
  rw [take_app]
  congr 1
theorem pk_at {w : World} {lo hi : Nat} {a : Option Addr} {l : List Pk} (h : SlE Pk.enc 2 w lo hi a l) {k : Nat} {y : Pk} (hk : l[k]? = some y) :
    ∃ b off, a = some ⟨b, off, none⟩ ∧ lo ≤ b ∧ b < hi ∧ b < w.heap.size ∧ w.cell? ⟨b, off + k * 2, none⟩ = some (.int .u8 y.side) ∧ w.cell? ⟨b, off + k * 2 + 1, none⟩ = some (.int .i64 y.at_) := by
  have hl : k < l.length := (List.getElem?_eq_some_iff.1 hk).1
  obtain ⟨b, off, e, g1, g2, g3, g4⟩ := h (by omega)
  have c := g4 k y hk
  exact ⟨b, off, e, g1, g2, g3, by simpa using c 0 _ rfl, c 1 _ rfl⟩
theorem clip_v (w : World) (a : Option Addr) (cap n : Nat) (hn : n ≤ cap) :
    Calls Tryz.prog 76 #[.slice a n cap] w fun e w' => e = .returned (.slice a n n) ∧ w = w' := by
  go_enter Tryz.func76, Tryz.ntmps76
  go_wp2_with fail
  go_ret
  exact ⟨rfl, rfl⟩
theorem pick_none {α : Type} {b l r : List α} {p : Pk} (h : p.side < 0 ∨ 3 ≤ p.side ∨ p.at_ < 0) : pickV b l r p = none := by
  unfold pickV sideL
  split
  · rfl
  · rw [if_neg (by omega), if_neg (by omega), if_neg (by omega)]; simp

set_option maxRecDepth 100000 in
set_option maxHeartbeats 3200000 in
theorem take27_c (w : World) (x y z : LA) (A : Option Addr) (cP : Nat) (P : List Pk) (hx : x.Rd w) (hy : y.Rd w) (hz : z.Rd w) (hPs : SlE Pk.enc 2 w 0 w.heap.size A P) (hPl : P.length ≤ 4194304) (hPk : ∀ p ∈ P, 0 ≤ p.side ∧ p.side ≤ 255) :
    Calls Tryz.prog 37 #[.slice x.a x.l.length x.c, .slice y.a y.l.length y.c, .slice z.a z.l.length z.c, .slice A P.length cP] w (TakePost x.v y.v z.v P w) := by
  have HX := Lib.hid hx
  have HY := Lib.hid hy
  have HZ := Lib.hid hz
  have HPS := Lib.hid hPs
  have HPK := Lib.hid hPk
  have hxl := hx.len
  have hyl := hy.len
  have hzl := hz.len
  clear hx hy hz hPs hPk
  go_enter Tryz.func37, Tryz.ntmps37
  go_upto_region 2 with fail
  go_name_world W1 hW1
  have hb1 : Below w.heap.size w W1 := by rw [← hW1]; exact (Below.refl _ _).alloc (Nat.le_refl _) _
  have hz1 : W1.heap.size = w.heap.size + 1 := by rw [← hW1]; simp
  have h9 : W1.heap[w.heap.size]? = some (.cells #[.slice x.a x.l.length x.c, .slice y.a y.l.length y.c, .slice z.a z.l.length z.c] 38 (0, 0)) := by rw [← hW1]; exact heap_alloc_new w _
  obtain ⟨k0, k1, k2, kl⟩ := has_cell h9
  have HB1 := Lib.hid hb1
  have HZ1 := Lib.hid hz1
  have HK := Lib.hid (And.intro k0 (And.intro k1 k2))
  clear hW1 hb1 hz1 h9 k0 k1 k2
  go_wp2_with fail
  go_loopw [8, 18] (fun s8 s18 wr => ∃ (m : Nat) (ys : List AV) (a : Option Addr) (c : Nat), m ≤ P.length ∧ s18 = .int .i64 m ∧ s8 = .slice a ys.length c ∧ OwnV wr W1.heap.size (.slice a ys.length c) ys ∧ ys.map AV.v = takeP x.v y.v z.v (P.take m) ∧ ys.length ≤ m ∧ IvS wr W1.heap.size (Value.slice a ys.length c).ownBlock ys ∧ Below W1.heap.size W1 wr) (fun _ s18 _ => P.length - (intOf s18).toNat)
  case atStart => exact ⟨0, [], none, 0, Nat.zero_le _, by go_num, rfl, ⟨rfl, .inl ⟨rfl, rfl⟩⟩, rfl, Nat.le_refl _, IvS.nil _ _ _, Below.refl _ _⟩
  case round =>
    obtain ⟨m, ys, a, c, hm, rfl, rfl, hown, hyv, hyl', hiv, hbr⟩ := hrel
    have HOW := Lib.hid hown
    have HYV := Lib.hid hyv
    have HIV := Lib.hid hiv
    have HBR := Lib.hid hbr
    have hsr := hbr.size
    clear hown hyv hiv hbr
    by_cases hlt : m < P.length
    · have hk : P[m]? = some P[m] := List.getElem?_eq_getElem hlt
      have hpk := HPK.out P[m] (List.getElem_mem hlt)
      have htk : P.take (m + 1) = P.take m ++ [P[m]] := by rw [List.take_add_one, hk]; rfl
      have htp : takeP x.v y.v z.v (P.take (m + 1)) = takeP x.v y.v z.v (P.take m) ++ (pickV x.v y.v z.v P[m]).toList := by rw [htk, takeP_snoc]
      generalize P[m] = p at *
      have hbw : Below w.heap.size w wr := below_via HB1.out HBR.out
      obtain ⟨b, off, hla, -, -, hb2, c0, c1⟩ := pk_at HPS.out hk
      rw [← hbw.cell (p := ⟨_, _, none⟩) hb2] at c0 c1
      have hbb := Nat.lt_of_lt_of_le hb2 hbw.size
      have hlt' : (m : Int) < (P.length : Int) := by omega
      have hm0 : (0 : Int) ≤ (m : Int) := by omega
      have hwm : IntKind.i64.wrap ((m : Int) + 1) = ((m + 1 : Nat) : Int) := by rw [IntWalk.i64_in _ (by omega)]; omega
      have HTP := Lib.hid htp
      have HBW := Lib.hid hbw
      clear hk htk htp hbw
      subst hla
      obtain ⟨ps, pa⟩ := p
      simp only at hpk c0 c1
      have hcv : IntKind.i64.wrap ps = ps := IntWalk.i64_in _ (by omega)
      go_upto_region 5 with fail
      clear c0 c1
      go_name_world W2 hW2
      have hb2' : Below wr.heap.size wr W2 := by rw [← hW2]; exact (Below.refl _ _).alloc (Nat.le_refl _) _
      have hbx : W2.heap[wr.heap.size]? = some (.cells #[.int .u8 ps, .int .i64 pa] 50 (0, 0)) := by rw [← hW2]; exact heap_alloc_new wr _
      have hb12 : Below W1.heap.size W1 W2 := HBR.out.trans (hb2'.mono hsr)
      have LD := Lib.hid (fun W (h : Below W2.heap.size W2 W) => And.intro (pkbox_up h hbx) (And.intro (((hb12.trans (h.mono hb12.size)).cell (p := ⟨_, _, none⟩) kl).trans HK.out.1) (And.intro (((hb12.trans (h.mono hb12.size)).cell (p := ⟨_, _, none⟩) kl).trans HK.out.2.1) (((hb12.trans (h.mono hb12.size)).cell (p := ⟨_, _, none⟩) kl).trans HK.out.2.2))))
      have HB2 := Lib.hid hb2'
      clear hW2 hb2' hbx
      have fin : ∀ wz, Below W2.heap.size W2 wz → pickV x.v y.v z.v ⟨ps, pa⟩ = none → OwnV wz W1.heap.size (.slice a ys.length c) ys ∧ ys.map AV.v = takeP x.v y.v z.v (P.take (m + 1)) ∧ IvS wz W1.heap.size (Value.slice a ys.length c).ownBlock ys ∧ Below W1.heap.size W1 wz := fun wz hbz hn =>
        have hbz' := below_via HB2.out hbz
        ⟨own_below HOW.out hbz', by rw [HTP.out, hn, HYV.out]; simp, HIV.out.keep hbz', HBR.out.trans (hbz'.mono hsr)⟩
      have FIN := Lib.hid fin
      clear fin hb12
      rcases (show 3 ≤ ps ∨ ps < 3 by omega) with h3 | h3
      · have g1 : decide (ps < 3) = false := decide_eq_false (by omega)
        have g2 : ¬ ps < 3 := by omega
        refine wp_region_bl (by kernel_rfl) (by kernel_rfl) ?_
        repeat (first | go_big_quiet_skip | (go_big_quiet_want; go_big_quiet_op; first | go_big_quiet_on | (refine ⟨_, fun _ _ => (by with_reducible rfl), ?_⟩; go_big_quiet_on) | (apply Exists.intro; refine ⟨fun w' hC => (by simp only [LD.out w' hC, Result.andThen]; exact ⟨trivial, rfl⟩), ?_⟩; go_big_quiet_on)))
        refine wpQuiet_nil ?_; intro wz hbz
        go_wp2_with fail
        obtain ⟨f1, f2, f3, f4⟩ := FIN.out wz hbz (pick_none (.inr (.inl h3)))
        exact ⟨⟨m + 1, ys, a, c, by omega, by go_num, rfl, f1, f2, by omega, f3, f4⟩, by simp [intOf]; omega⟩
      · obtain ⟨sd, rfl⟩ : ∃ sd : Nat, ps = sd := ⟨ps.toNat, by omega⟩
        have hs3 : sd < 3 := by omega
        have hs0 : (0 : Int) ≤ (sd : Int) := by omega
        have g1 : decide ((sd : Int) < 3) = true := decide_eq_true h3
        have g2 : decide (sd < 3) = true := decide_eq_true hs3
        rcases (show pa < 0 ∨ 0 ≤ pa by omega) with h0 | h0
        · have g3 : decide (0 ≤ pa) = false := decide_eq_false (by omega)
          have g4 : ¬ 0 ≤ pa := by omega
          refine wp_region_bl (by kernel_rfl) (by kernel_rfl) ?_
          repeat (first | go_big_quiet_skip | (go_big_quiet_want; go_big_quiet_op; first | go_big_quiet_on | (refine ⟨_, fun _ _ => (by with_reducible rfl), ?_⟩; go_big_quiet_on) | (apply Exists.intro; refine ⟨fun w' hC => (by simp only [LD.out w' hC, Result.andThen]; exact ⟨trivial, rfl⟩), ?_⟩; go_big_quiet_on)))
          refine wpQuiet_nil ?_; intro wz hbz
          go_wp2_with fail
          obtain ⟨f1, f2, f3, f4⟩ := FIN.out wz hbz (pick_none (.inr (.inr h0)))
          exact ⟨⟨m + 1, ys, a, c, by omega, by go_num, rfl, f1, f2, by omega, f3, f4⟩, by simp [intOf]; omega⟩
        · obtain ⟨at_, rfl⟩ : ∃ n : Nat, pa = n := ⟨pa.toNat, by omega⟩
          have hbw2 : Below w.heap.size w W2 := below_via HBW.out HB2.out
          obtain ⟨q, hq, hcell, hpq⟩ : ∃ q : LA, q.Rd w ∧ (∀ W, Below W2.heap.size W2 W → W.cell? ⟨w.heap.size, sd, none⟩ = some (.slice q.a q.l.length q.c)) ∧ pickV x.v y.v z.v ⟨(sd : Int), (at_ : Int)⟩ = q.v[at_]? := by
            rcases (show sd = 0 ∨ sd = 1 ∨ sd = 2 by omega) with rfl | rfl | rfl
            · exact ⟨x, HX.out, fun W h => (LD.out W h).2.1, by simp [pickV, sideL]; intro h; omega⟩
            · exact ⟨y, HY.out, fun W h => (LD.out W h).2.2.1, by simp [pickV, sideL]; intro h; omega⟩
            · exact ⟨z, HZ.out, fun W h => (LD.out W h).2.2.2, by simp [pickV, sideL]; intro h; omega⟩
          have hql := hq.len
          have g3 : decide ((0 : Int) ≤ (at_ : Int)) = true := decide_eq_true h0
          have LD2 := Lib.hid (fun W (h : Below W2.heap.size W2 W) => And.intro (LD.out W h).1 (hcell W h))
          have HQ := Lib.hid hq
          have HPQ := Lib.hid hpq
          have kl2 : w.heap.size < W2.heap.size := by have := HB2.out.size; omega
          clear hq hcell hpq LD
          by_cases hal : at_ < q.l.length
          · have g5 : decide ((at_ : Int) < (q.l.length : Int)) = true := decide_eq_true (by omega)
            have g6 : decide (at_ < q.l.length) = true := decide_eq_true hal
            have LD := LD2
            refine wp_region_bl (by kernel_rfl) (by kernel_rfl) ?_
            repeat (first | go_big_quiet_skip | (go_big_quiet_want; go_big_quiet_op; first | go_big_quiet_on | (refine ⟨_, fun _ _ => (by with_reducible rfl), ?_⟩; go_big_quiet_on) | (apply Exists.intro; refine ⟨fun w' hC => (by simp only [LD.out w' hC, Result.andThen]; exact ⟨trivial, rfl⟩), ?_⟩; go_big_quiet_on)))
            refine wpQuiet_nil ?_; intro wz hbz
            have hk2 : q.l[at_]? = some q.l[at_] := List.getElem?_eq_getElem hal
            have hmem : q.l[at_] ∈ q.l := List.getElem_mem hal
            generalize q.l[at_] = u at *
            have hwz : Below w.heap.size w wz := below_via hbw2 hbz
            obtain ⟨b3, o3, hla3, -, -, hb3, v0, v1, v2, v3⟩ := vals_at HQ.out.sl hk2
            rw [← hwz.cell (p := ⟨_, _, none⟩) hb3] at v0 v1 v2 v3
            have hb3z := Nat.lt_of_lt_of_le hb3 hwz.size
            obtain ⟨x0, x1⟩ := (LD2.out wz hbz).1
            have x9 := (LD2.out wz hbz).2
            have hkz : w.heap.size < wz.heap.size := Nat.lt_of_lt_of_le kl2 hbz.size
            have hrz : wr.heap.size < wz.heap.size := by
              have h1 := World.block_lt_of_cell? wz _ x0
              exact h1
            have hal' : (at_ : Int) < (q.l.length : Int) := by omega
            have HOWN := fun W (h : Below w.heap.size w W) => Lib.hid (sown2_c u W ((HQ.out.kids u hmem).1.up h) (HQ.out.kids u hmem).2)
            have hbz1 : Below wr.heap.size wr wz := below_via HB2.out hbz
            have HUV := Lib.hid (show pickV x.v y.v z.v ⟨(sd : Int), (at_ : Int)⟩ = some u.v by rw [HPQ.out, LA.v, List.getElem?_map, hk2]; rfl)
            have HWZ := Lib.hid hwz
            have HBZ1 := Lib.hid hbz1
            have HLA3 := Lib.hid hla3
            clear hk2 hmem hwz hbz1 hla3 LD LD2 FIN
            rw [HLA3.out] at x9
            go_upto_region 6 with fail
            go_region_law (first
              | (refine st_append (s := .tmp 41) (x := .tmp 51) rfl rfl (hrun _) ?_; clear hrun)
              | (go_simp; go_at_call 75; refine (HOWN _ HWZ.out.drew).out.mono ?_; rintro e w3 ⟨zt, rfl, hzv, hzi, hzm, hb4⟩
                 have hs4 : wz.heap.size ≤ w3.heap.size := hb4.size
                 have hs5 : W1.heap.size ≤ w3.heap.size := by have := HBZ1.out.size; omega
                 have hown4 : OwnV w3 W1.heap.size (.slice a ys.length c) ys := own_below (own_below HOW.out HBZ1.out.drew) hb4
                 have hlit : SlE AV.enc 4 (w3.alloc (.cells #[.int .u8 zt.k, .string zt.t, .slice zt.la zt.l.length zt.lc, .slice zt.ka zt.ks.length zt.kc] 26)) w3.heap.size (w3.heap.size + 1) (some ⟨w3.heap.size, 0, none⟩) [zt] := lit_sl (enc := AV.enc) (size := 4) (l := [zt]) (t := 26) (fr := (0, 0)) AV.enc_len (heap_alloc_new _ _)
                 obtain ⟨v', W', hrun, hown', hgr, hat⟩ := app_val (c := 1) (own_below hown4 ((Below.refl _ _).alloc (Nat.le_refl _) _)) hlit (by simp; omega) (by simp; omega)
                 obtain ⟨ys', hys'⟩ : ∃ ys', ys' = ys ++ [zt] := ⟨_, rfl⟩
                 rw [← hys'] at hown'
                 have HYS' := Lib.hid hys'
                 clear hys'
                 obtain ⟨a', c', rfl⟩ := own_formV hown'))
            all_goals
              have hys' := HYS'.out
              have hv2 : ys'.map AV.v = takeP x.v y.v z.v (P.take (m + 1)) := by rw [hys', List.map_append, HTP.out, HYV.out, HUV.out]; simp [hzv]
              have hg3 : ∀ k, k < w3.heap.size → (Value.slice a ys.length c).ownBlock ≠ some k → W'.heap[k]? = w3.heap[k]? := fun k k1 k2 => (hgr.block k (by simp; omega) (Ne.symm k2)).trans (heap_alloc_old _ _ _ k1)
              have hiv' : IvS W' W1.heap.size (Value.slice a' ys'.length c').ownBlock ys' := by
                rw [hys']
                refine IvS.snoc (HIV.out.keep HBZ1.out.drew) hb4 hzi hzm (by show W1.heap.size ≤ wz.heap.size; have := HBZ1.out.size; omega) (fun g hg => ?_) (by have := hgr.size; simp at this; omega) hg3 ?_
                · have h1 := (World.ownsRow.lt HOW.out g hg).2
                  have h2 := HBZ1.out.size
                  show g < wz.heap.size
                  omega
                · rw [← hys']
                  rcases hat with e | e
                  · exact .inl e
                  · exact .inr ⟨_, e, by simp⟩
              have hbW : Below W1.heap.size W1 W' := by
                refine Below.grown ?_ hgr (by simp; omega) (fun g hg => (World.ownsRow.lt HOW.out g hg).1)
                exact ((HBR.out.trans (HBZ1.out.mono hsr)).drew.trans (hb4.mono (by show W1.heap.size ≤ wz.heap.size; have := HBZ1.out.size; omega))).alloc hs5 _
              have hlen : ys'.length ≤ m + 1 := by rw [hys']; simp; omega
              have HE := Lib.hid (And.intro hv2 (And.intro hiv' (And.intro hbW hown')))
              clear hv2 hg3 hiv' hbW hown' hgr hat hown4 hlit hb4 hzi hzm hzv hys'
              go_wp2_with fail
              exact ⟨⟨m + 1, ys', a', c', by omega, by go_num, rfl, HE.out.2.2.2, HE.out.1, hlen, HE.out.2.1, HE.out.2.2.1⟩, by simp [intOf]; omega⟩
          · have g5 : decide ((at_ : Int) < (q.l.length : Int)) = false := decide_eq_false (by omega)
            have g6 : decide (at_ < q.l.length) = false := decide_eq_false hal
            have LD := LD2
            refine wp_region_bl (by kernel_rfl) (by kernel_rfl) ?_
            repeat (first | go_big_quiet_skip | (go_big_quiet_want; go_big_quiet_op; first | go_big_quiet_on | (refine ⟨_, fun _ _ => (by with_reducible rfl), ?_⟩; go_big_quiet_on) | (apply Exists.intro; refine ⟨fun w' hC => (by simp only [LD.out w' hC, Result.andThen]; exact ⟨trivial, rfl⟩), ?_⟩; go_big_quiet_on)))
            refine wpQuiet_nil ?_; intro wz hbz
            go_wp2_with fail
            obtain ⟨f1, f2, f3, f4⟩ := FIN.out wz hbz (by rw [HPQ.out]; exact List.getElem?_eq_none (by rw [LA.v, List.length_map]; omega))
            exact ⟨⟨m + 1, ys, a, c, by omega, by go_num, rfl, f1, f2, by omega, f3, f4⟩, by simp [intOf]; omega⟩
    · obtain rfl : m = P.length := by omega
      have hge : ¬ (P.length : Int) < (P.length : Int) := by omega
      have hcap := own_cap HOW.out rfl
      go_wp2_with (go_at_call 76; refine (clip_v _ _ _ _ hcap).mono ?_; rintro e w6 ⟨rfl, rfl⟩)
      go_ret
      refine ⟨ys, a, rfl, ?_, own_clip (World.ownsRow.mono (show wr.ownsRow W1.heap.size 26 4 (.slice a ys.length c) ys.length (ys.flatMap AV.enc) from HOW.out) HB1.out.size) (Nat.le_refl _) hcap, ?_, below_via HB1.out HBR.out⟩
      · have := HYV.out; rwa [List.take_length] at this
      · obtain ⟨iv, h1, h2, h3⟩ := HIV.out
        refine ⟨iv, h1, fun i u se hu hse => ?_, h3⟩
        obtain ⟨g1, g2, g3, g4, g5⟩ := h2 i u se hu hse
        exact ⟨Nat.le_trans HB1.out.size g1, g2, g3, g4, fun g hg => g5 g (by cases a <;> exact hg)⟩
end Go.Proofs.YtjihepdjcbpgoaaGreatDoor
