/-
  values.own: a value in new memory. Conditions: the tree lies in memory, its weight is bounded.
-/
import Derived.Test.YtdapimjhjnbfdaaDoorVR
namespace Go.Proofs.YtdapimjhjnbfdaaDoor
open Go.RowKit Go.Sort

set_option maxRecDepth 100000 in
set_option maxHeartbeats 3200000 in
theorem own_c : ∀ (x : AV) (w : World), Rd w x → x.w ≤ 1048576 → Calls Tryd.prog 80 #[x.val] w (OwnPost x.v w) := AV.ind fun x ih w hx hw => by
  have hll := x.w_l
  have hlk := x.w_ks
  have hkd := hx.kind
  have hlb : x.l.length ≤ 1048576 := by omega
  have hlkb : x.ks.length ≤ 1048576 := by omega
  obtain ⟨i0, hi, hz0, hz1, hz2⟩ := info_parts info_val
  have hmk := fun W => run_make (P := Tryd.prog) W 38 41 i0 _ Tryd.underlying38 hi hz0 .i64 .i64 x.l.length x.l.length (by omega) (Int.le_refl _) (by rw [hz2]; omega) (by omega)
  rw [hz1, Int.toNat_natCast] at hmk
  rw [zcells] at hmk
  obtain ⟨mc, hmc⟩ : ∃ mc, mc = ((List.replicate x.l.length zAV).flatMap AV.enc).toArray := ⟨_, rfl⟩
  rw [← hmc] at hmk
  clear hi hz0 hz1 hz2
  have HMC := Lib.hid hmc
  clear hmc
  have HX := Lib.hid hx
  have HI := fun (y : AV) (hy : y ∈ x.l) (W : World) (hb : Below w.heap.size w W) => Lib.hid (ih y hy W (hx.kid_at hb hy) (Nat.le_trans (Nat.le_of_lt (AV.w_kid hy)) hw))
  have HC := fun W (hb : Below w.heap.size w W) => Lib.hid (clone_c W x.ka x.kc x.ks 0 W.heap.size (hx.keys.up hb) hlkb)
  have HL := fun W a c h => Lib.hid (clip_c W a c x.ks.length h)
  clear ih hx
  go_enter Tryd.func80, Tryd.ntmps80
  go_upto_region 2 with (first
    | (go_at_call 118; refine (HC _ (by repeat (first | exact Below.refl _ _ | refine Below.drew ?_ | refine below_drewN ?_ _ | refine Below.alloc ?_ (by first | omega | (simp; done) | (simp; omega)) _))).out.mono ?_; rintro e w1 ⟨A', c', rfl, hc', hsl, hb⟩
       have hs1 := hb.size
       try simp only [World.size_alloc] at hs1
       have hbx := (hb.block w.heap.size (by simp; omega)).trans ((heap_alloc_old _ _ _ (by simp)).trans (heap_alloc_new w (.cells #[.int .u8 x.k, .string x.t, .slice x.la x.l.length x.lc, .slice x.ka x.ks.length x.kc] 41)))
       obtain ⟨q0, q1, q2, q3, y0, y1, y2, y3⟩ := vbox4 hbx)
    | (go_at_call 112; refine (HL _ _ _ hc').out.mono ?_; rintro e w2 ⟨rfl, rfl⟩))
  go_name_world W1 hW1
  have hsz1 : W1.heap.size = w1.heap.size := by rw [← hW1]; simp
  have hsl1 : SlE strE 1 W1 (w.heap.size + 1 + 1) w1.heap.size A' x.ks := by
    have h := hsl
    simp only [World.size_alloc] at h
    rw [← hW1]
    exact h.keep (by simp) fun q h1 _ _ => Below.heap_setCell w1 _ _ q (by show q ≠ w.heap.size; omega)
  have hbx1 : W1.heap[w.heap.size]? = some (.cells #[.int .u8 x.k, .string x.t, .slice x.la x.l.length x.lc, .slice A' x.ks.length x.ks.length] 41 (0, 0)) := by
    rw [← hW1, set_blk hbx]; rfl
  have hrb1 : W1.heap[w.heap.size + 1]? = some (.cells #[.int .u8 0, .string ⟨#[]⟩, .slice none 0 0, .slice none 0 0] 41 (0, 0)) := by
    rw [← hW1]
    refine (Below.heap_setCell w1 _ _ (w.heap.size + 1) (by show w.heap.size + 1 ≠ w.heap.size; omega)).trans ((hb.block (w.heap.size + 1) (by simp)).trans ?_)
    have := heap_alloc_new (w.alloc (.cells #[.int .u8 x.k, .string x.t, .slice x.la x.l.length x.lc, .slice x.ka x.ks.length x.kc] 41)) (.cells #[.int .u8 0, .string ⟨#[]⟩, .slice none 0 0, .slice none 0 0] 41)
    rwa [World.size_alloc] at this
  have hbw1 : Below w.heap.size w W1 := by
    rw [← hW1]
    refine Below.setCell (p := ⟨w.heap.size, 3, none⟩) ?_ (Nat.le_refl _) _
    exact (((Below.refl _ _).alloc (Nat.le_refl _) _).alloc (by simp) _).trans (hb.mono (by simp; omega))
  have hrow0 : RowV (W1.alloc (.cells mc 41)) W1.heap.size (List.replicate x.l.length zAV) := by
    rw [RowV, heap_alloc_new, HMC.out]
  rw [← hsz1] at hsl1
  have hs2 : w.heap.size + 1 + 1 ≤ W1.heap.size := by omega
  clear hsl hb hbx q0 q1 q2 q3 y0 y1 y2 y3 HC HL HMC hc' hs1
  clear hW1 hsz1
  obtain ⟨q0, q1, q2, q3, y0, y1, y2, y3⟩ := vbox4 hbx1
  have hl1 : w.heap.size < W1.heap.size := by omega
  have HR0 := Lib.hid hrow0
  have HS1 := Lib.hid hsl1
  have HB1 := Lib.hid hbx1
  have HRB := Lib.hid hrb1
  have HBW := Lib.hid hbw1
  clear hsl1 hbx1 hrb1 hbw1 hrow0
  go_wp2_with fail
  clear hmk q0 q1 q2 q3 y0 y1 y2 y3
  go_loopw [4, 5, 18] (fun _ _ i wr => ∃ (m : Nat) (ys : List AV), m ≤ x.l.length ∧ i = .int .i64 m ∧ ys.length = m ∧ ys.map AV.v = (x.l.map AV.v).take m ∧ RowV wr W1.heap.size (ys ++ List.replicate (x.l.length - m) zAV) ∧ (∀ y ∈ ys, y.In wr (W1.heap.size + 1) wr.heap.size) ∧ Below W1.heap.size W1 wr ∧ W1.heap.size < wr.heap.size) (fun _ _ i _ => x.l.length - (intOf i).toNat)
  case atStart => exact ⟨0, [], Nat.zero_le _, rfl, rfl, rfl, HR0.out, fun y hy => absurd hy List.not_mem_nil, (Below.refl _ _).alloc (Nat.le_refl _) _, by rw [World.size_alloc]; omega⟩
  case round =>
    obtain ⟨m, ys, hml, rfl, hyl, hyv, hrow, hyi, hbr, hsr⟩ := hrel
    have hwr : Below w.heap.size w wr := HBW.out.trans (hbr.mono (by omega))
    obtain ⟨q0, q1, q2, q3, u0, u1, u2, u3⟩ := vbox4 ((hbr.block w.heap.size (by omega)).trans HB1.out)
    obtain ⟨s0, s1, s2, s3, y0, y1, y2, y3⟩ := vbox4 ((hbr.block (w.heap.size + 1) (by omega)).trans HRB.out)
    have HYL := Lib.hid hyl
    have HYV := Lib.hid hyv
    have HYI := Lib.hid hyi
    have HROW := Lib.hid hrow
    have HBR := Lib.hid hbr
    have HWR := Lib.hid hwr
    clear hyl hyv hyi hrow hbr hwr HR0
    by_cases hlt : m < x.l.length
    · have hk : x.l[m]? = some x.l[m] := List.getElem?_eq_getElem hlt
      have hmem : x.l[m] ∈ x.l := List.getElem_mem hlt
      generalize x.l[m] = y at *
      obtain ⟨b, off, hla, -, hb1, hb2, h0, h1, h2, h3⟩ := vals_at HX.out.sl hk
      rw [← HWR.out.cell (p := ⟨_, _, none⟩) hb2] at h0 h1 h2 h3
      have hbb : b < wr.heap.size := Nat.lt_of_lt_of_le hb2 HWR.out.size
      have hlt' : (m : Int) < (x.l.length : Int) := by omega
      have HC := fun W h => HI y hmem W h
      rw [hla] at q2
      have hix := Nat.lt_of_lt_of_le hlt (Nat.le_refl x.l.length)
      have HK := Lib.hid hk
      rw [hla]
      clear hk hmem HI s0 s1 s2 s3
      go_wp2_with fail
      have hba := (Below.refl wr.heap.size wr).alloc (Nat.le_refl _) (.cells #[.int .u8 y.k, .string y.t, .slice y.la y.l.length y.lc, .slice y.ka y.ks.length y.kc] 41)
      refine (HC _ (HWR.out.trans (hba.mono HWR.out.size))).out.mono ?_
      rintro e w2 ⟨z, rfl, hzv, hzi, hb2'⟩
      have hbz : Below wr.heap.size wr w2 := hba.trans (hb2'.mono (by simp))
      have hrz := HROW.out.below hbz
      have hrl : (ys ++ List.replicate (x.l.length - m) zAV).length = x.l.length := by rw [List.length_append, List.length_replicate, HYL.out]; omega
      have hsz := hbz.size
      obtain ⟨⟨v0, c0⟩, f0⟩ := hrz.cell (m := m) (by omega) (j := 0) (by omega)
      obtain ⟨⟨v1, c1⟩, f1⟩ := hrz.cell (m := m) (by omega) (j := 1) (by omega)
      obtain ⟨⟨v2, c2⟩, f2⟩ := hrz.cell (m := m) (by omega) (j := 2) (by omega)
      obtain ⟨⟨v3, c3⟩, f3⟩ := hrz.cell (m := m) (by omega) (j := 3) (by omega)
      rw [Nat.add_zero] at c0 f0
      have HZI := Lib.hid hzi
      have HZV := Lib.hid hzv
      have HBZ := Lib.hid hbz
      have HRZ := Lib.hid hrz
      have HRL := Lib.hid hrl
      have hsr2 : W1.heap.size < w2.heap.size := by omega
      clear hzi hzv hbz hrz hrl hba hb2' HC
      go_wp2_with fail
      have hput := HRZ.out.put (m := m) (by rw [HRL.out]; exact hlt) z
      have hset : (ys ++ List.replicate (x.l.length - m) zAV).set m z = (ys ++ [z]) ++ List.replicate (x.l.length - (m + 1)) zAV := by
        rw [List.set_append, if_neg (by rw [HYL.out]; omega), HYL.out, Nat.sub_self, List.append_assoc, show x.l.length - m = x.l.length - (m + 1) + 1 by omega, List.replicate_succ]
        rfl
      rw [hset] at hput
      have hbp : Below W1.heap.size W1 (put4 w2 W1.heap.size (m * 4) (.int .u8 z.k) (.string z.t) (.slice z.la z.l.length z.lc) (.slice z.ka z.ks.length z.kc)) :=
        ((((HBR.out.trans (HBZ.out.mono (by omega))).setCell (p := ⟨W1.heap.size, m * 4, none⟩) (Nat.le_refl _) _).setCell (p := ⟨W1.heap.size, m * 4 + 1, none⟩) (Nat.le_refl _) _).setCell (p := ⟨W1.heap.size, m * 4 + 2, none⟩) (Nat.le_refl _) _).setCell (p := ⟨W1.heap.size, m * 4 + 3, none⟩) (Nat.le_refl _) _
      refine ⟨⟨m + 1, ys ++ [z], by omega, by go_num, by simp [HYL.out], ?_, hput, ?_, hbp, by show W1.heap.size < (put4 _ _ _ _ _ _ _).heap.size; rw [put4_size]; omega⟩, by simp [intOf]; omega⟩
      · rw [List.map_append, HYV.out, List.take_add_one, List.getElem?_map, HK.out, List.map_singleton, HZV.out]; rfl
      · intro u hu
        have key : ∀ {lo hi : Nat}, W1.heap.size + 1 ≤ lo → hi ≤ w2.heap.size → u.In w2 lo hi → u.In (put4 w2 W1.heap.size (m * 4) (.int .u8 z.k) (.string z.t) (.slice z.la z.l.length z.lc) (.slice z.ka z.ks.length z.kc)) (W1.heap.size + 1) (put4 w2 W1.heap.size (m * 4) (.int .u8 z.k) (.string z.t) (.slice z.la z.l.length z.lc) (.slice z.ka z.ks.length z.kc)).heap.size := fun h1 h2 h =>
          (h.kept (Nat.le_of_eq put4_size.symm) fun q hq _ _ => put4_old (by omega)).widen h1 (by rw [put4_size]; exact h2)
        rcases List.mem_append.1 hu with hu | hu
        · exact key (Nat.le_refl _) hsz ((HYI.out u hu).blw' HBZ.out)
        · simp at hu; subst hu
          exact key (by rw [World.size_alloc]; omega) (Nat.le_refl _) HZI.out
    · obtain rfl : m = x.l.length := by omega
      have hge : ¬ (x.l.length : Int) < (x.l.length : Int) := by omega
      have hle : w.heap.size < wr.heap.size := by have := HBR.out.size; omega
      have hrow := HROW.out
      rw [Nat.sub_self, List.replicate_zero, List.append_nil] at hrow
      have hys : ys.map AV.v = x.l.map AV.v := by rw [HYV.out]; exact List.take_of_length_le (by simp)
      have HRW := Lib.hid hrow
      have HYS := Lib.hid hys
      have hsz := HBR.out.size
      clear hrow hys HI
      go_wp2_with fail
      have hq : ∀ q, W1.heap.size ≤ q ∨ w.heap.size + 1 + 1 ≤ q → (set4 (wr.setCell ⟨w.heap.size, 2, none⟩ (.slice (some ⟨W1.heap.size, 0, none⟩) x.l.length x.l.length)) (w.heap.size + 1) (.int .u8 x.k) (.string x.t) (.slice (some ⟨W1.heap.size, 0, none⟩) x.l.length x.l.length) (.slice A' x.ks.length x.ks.length)).heap[q]? = wr.heap[q]? := fun q hq => by
        rw [old4 (by omega)]
        exact Below.heap_setCell wr _ _ q (by show q ≠ w.heap.size; omega)
      have hqs : (set4 (wr.setCell ⟨w.heap.size, 2, none⟩ (.slice (some ⟨W1.heap.size, 0, none⟩) x.l.length x.l.length)) (w.heap.size + 1) (.int .u8 x.k) (.string x.t) (.slice (some ⟨W1.heap.size, 0, none⟩) x.l.length x.l.length) (.slice A' x.ks.length x.ks.length)).heap.size = wr.heap.size := by rw [size4]; simp
      have hin : AV.In (set4 (wr.setCell ⟨w.heap.size, 2, none⟩ (.slice (some ⟨W1.heap.size, 0, none⟩) x.l.length x.l.length)) (w.heap.size + 1) (.int .u8 x.k) (.string x.t) (.slice (some ⟨W1.heap.size, 0, none⟩) x.l.length x.l.length) (.slice A' x.ks.length x.ks.length)) w.heap.size (set4 (wr.setCell ⟨w.heap.size, 2, none⟩ (.slice (some ⟨W1.heap.size, 0, none⟩) x.l.length x.l.length)) (w.heap.size + 1) (.int .u8 x.k) (.string x.t) (.slice (some ⟨W1.heap.size, 0, none⟩) x.l.length x.l.length) (.slice A' x.ks.length x.ks.length)).heap.size ⟨x.k, x.t, some ⟨W1.heap.size, 0, none⟩, x.l.length, ys, A', x.ks.length, x.ks⟩ := by
        have e1 := HRW.out.sl.keep (w' := (set4 (wr.setCell ⟨w.heap.size, 2, none⟩ (.slice (some ⟨W1.heap.size, 0, none⟩) x.l.length x.l.length)) (w.heap.size + 1) (.int .u8 x.k) (.string x.t) (.slice (some ⟨W1.heap.size, 0, none⟩) x.l.length x.l.length) (.slice A' x.ks.length x.ks.length))) (Nat.le_of_eq hqs.symm) fun q h1 _ _ => hq q (.inl h1)
        have e2 := (HS1.out.below HBR.out (Nat.le_refl _)).keep (w' := (set4 (wr.setCell ⟨w.heap.size, 2, none⟩ (.slice (some ⟨W1.heap.size, 0, none⟩) x.l.length x.l.length)) (w.heap.size + 1) (.int .u8 x.k) (.string x.t) (.slice (some ⟨W1.heap.size, 0, none⟩) x.l.length x.l.length) (.slice A' x.ks.length x.ks.length))) (Nat.le_of_eq hqs.symm) fun q h1 _ _ => hq q (.inr h1)
        have e3 := fun u hu => (HYI.out u hu).kept (w' := (set4 (wr.setCell ⟨w.heap.size, 2, none⟩ (.slice (some ⟨W1.heap.size, 0, none⟩) x.l.length x.l.length)) (w.heap.size + 1) (.int .u8 x.k) (.string x.t) (.slice (some ⟨W1.heap.size, 0, none⟩) x.l.length x.l.length) (.slice A' x.ks.length x.ks.length))) (Nat.le_of_eq hqs.symm) fun q h1 _ _ => hq q (.inl (by omega))
        rw [hqs]
        exact ⟨e1.widen (by omega) (by omega), e2.widen (by omega) (by omega), hkd, fun u hu => (e3 u hu).widen (by omega) (Nat.le_refl _)⟩
      refine bodyPost_ret (v := .agg #[.int .u8 x.k, .string x.t, .slice (some ⟨W1.heap.size, 0, none⟩) x.l.length x.l.length, .slice A' x.ks.length x.ks.length]) (by simp [results, Tryd.results80, go_sem, s0, s1, s2, s3]) rfl ⟨⟨x.k, x.t, some ⟨W1.heap.size, 0, none⟩, x.l.length, ys, A', x.ks.length, x.ks⟩, ?_, ?_, ?_, ?_⟩
      · show _ = Ending.returned (.agg #[.int .u8 x.k, .string x.t, .slice (some ⟨W1.heap.size, 0, none⟩) ys.length x.l.length, .slice A' x.ks.length x.ks.length])
        rw [HYL.out]
      · rw [AV.v_eq, AV.v_eq x, HYS.out]
      · exact hin
      · show Below _ _ (set4 (wr.setCell ⟨w.heap.size, 2, none⟩ _) (w.heap.size + 1) _ _ _ _)
        exact below4 (HWR.out.setCell (p := ⟨w.heap.size, 2, none⟩) (Nat.le_refl _) _) (by omega)
end Go.Proofs.YtdapimjhjnbfdaaDoor
