/-
  paths.own, step and Walk: as plain functions. Conditions: the tree and the steps lie in memory, their weights are bounded; the table of short escapes holds what its initialiser lays.
-/
import Derived.Test.YtcpdogjcofkpcaaGreatDoorVS
import Derived.Test.YtcpdogjcofkpcaaGreatDoorVU
import Derived.Test.YtcpdogjcofkpcaaGreatDoorVN
import Derived.Test.YtcpdogjcofkpcaaGreatDoorNK
import Derived.Test.YtcpdogjcofkpcaaGreatDoorRB
import Derived.Test.YtcpdogjcofkpcaaGreatDoorVJ
import Derived.Test.YtcpdogjcofkpcaaGreatDoorP10
namespace Go.Proofs.YtcpdogjcofkpcaaGreatDoor
open Go.RowKit Go.Sort

set_option maxRecDepth 100000 in
set_option maxHeartbeats 3200000 in
theorem pown_c : ∀ (x : AV) (w : World), Rd w x → x.w ≤ 1048576 → Calls Tryz.prog 109 #[x.val] w (OwnPost x.v w) := AV.ind fun x ih w hx hw => by
  have hll := x.w_l
  have hlk := x.w_ks
  have hkd := hx.kind
  have hlb : x.l.length ≤ 1048576 := by omega
  have hlkb : x.ks.length ≤ 1048576 := by omega
  obtain ⟨i0, hi, hz0, hz1, hz2⟩ := info_parts info_val
  have hmk := fun W => run_make (P := Tryz.prog) W 22 48 i0 _ Tryz.underlying22 hi hz0 .i64 .i64 x.l.length x.l.length (by omega) (Int.le_refl _) (by rw [hz2]; omega) (by omega)
  rw [hz1, Int.toNat_natCast] at hmk
  rw [zcells] at hmk
  obtain ⟨mc, hmc⟩ : ∃ mc, mc = ((List.replicate x.l.length zAV).flatMap AV.enc).toArray := ⟨_, rfl⟩
  rw [← hmc] at hmk
  clear hi hz0 hz1 hz2
  have HMC := Lib.hid hmc
  clear hmc
  have HX := Lib.hid hx
  have HI := fun (y : AV) (hy : y ∈ x.l) (W : World) (hb : Below w.heap.size w W) => Lib.hid (ih y hy W (hx.kid_at hb hy) (Nat.le_trans (Nat.le_of_lt (AV.w_kid hy)) hw))
  have HC := fun W (hb : Below w.heap.size w W) => Lib.hid (clone_c W x.ka x.kc x.ks 0 W.heap.size (hx.keys.up hb) hlkb)
  have HL := fun W a c h => Lib.hid (clip_c W a c x.ks.length h)
  clear ih hx
  go_enter Tryz.func109, Tryz.ntmps109
  go_upto_region 2 with (first
    | (go_at_call 139; refine (HC _ (by repeat (first | exact Below.refl _ _ | refine Below.drew ?_ | refine below_drewN ?_ _ | refine Below.alloc ?_ (by first | omega | (simp; done) | (simp; omega)) _))).out.mono ?_; rintro e w1 ⟨A', c', rfl, hc', hsl, hb⟩
       have hs1 := hb.size
       try simp only [World.size_alloc] at hs1
       have hbx := (hb.block w.heap.size (by simp; omega)).trans ((heap_alloc_old _ _ _ (by simp)).trans (heap_alloc_new w (.cells #[.int .u8 x.k, .string x.t, .slice x.la x.l.length x.lc, .slice x.ka x.ks.length x.kc] 48)))
       obtain ⟨q0, q1, q2, q3, y0, y1, y2, y3⟩ := vbox4 hbx)
    | (go_at_call 74; refine (HL _ _ _ hc').out.mono ?_; rintro e w2 ⟨rfl, rfl⟩))
  go_name_world W1 hW1
  have hsz1 : W1.heap.size = w1.heap.size := by rw [← hW1]; simp
  have hsl1 : SlE strE 1 W1 (w.heap.size + 1 + 1) w1.heap.size A' x.ks := by
    have h := hsl
    simp only [World.size_alloc] at h
    rw [← hW1]
    exact h.keep (by simp) fun q h1 _ _ => Below.heap_setCell w1 _ _ q (by show q ≠ w.heap.size; omega)
  have hbx1 : W1.heap[w.heap.size]? = some (.cells #[.int .u8 x.k, .string x.t, .slice x.la x.l.length x.lc, .slice A' x.ks.length x.ks.length] 48 (0, 0)) := by
    rw [← hW1, set_blk hbx]; rfl
  have hrb1 : W1.heap[w.heap.size + 1]? = some (.cells #[.int .u8 0, .string ⟨#[]⟩, .slice none 0 0, .slice none 0 0] 48 (0, 0)) := by
    rw [← hW1]
    refine (Below.heap_setCell w1 _ _ (w.heap.size + 1) (by show w.heap.size + 1 ≠ w.heap.size; omega)).trans ((hb.block (w.heap.size + 1) (by simp)).trans ?_)
    have := heap_alloc_new (w.alloc (.cells #[.int .u8 x.k, .string x.t, .slice x.la x.l.length x.lc, .slice x.ka x.ks.length x.kc] 48)) (.cells #[.int .u8 0, .string ⟨#[]⟩, .slice none 0 0, .slice none 0 0] 48)
    rwa [World.size_alloc] at this
  have hbw1 : Below w.heap.size w W1 := by
    rw [← hW1]
    refine Below.setCell (p := ⟨w.heap.size, 3, none⟩) ?_ (Nat.le_refl _) _
    exact (((Below.refl _ _).alloc (Nat.le_refl _) _).alloc (by simp) _).trans (hb.mono (by simp; omega))
  have hrow0 : RowV (W1.alloc (.cells mc 48)) W1.heap.size (List.replicate x.l.length zAV) := by
    rw [RowV, heap_alloc_new, HMC.out]
  rw [← hsz1] at hsl1
  have hs2 : w.heap.size + 1 + 1 ≤ W1.heap.size := by omega
  clear hsl hb hbx q0 q1 q2 q3 y0 y1 y2 y3 HC HL HMC hc' hs1
  clear hW1 hsz1
  obtain ⟨q0, q1, q2, q3, y0, y1, y2, y3⟩ := vbox4 hbx1
  have hl1 : w.heap.size < W1.heap.size := by omega
  have HR0 := Lib.hid hrow0
  have HS1 := Lib.hid hsl1
  have HB1 := Lib.hid hbx1
  have HRB := Lib.hid hrb1
  have HBW := Lib.hid hbw1
  clear hsl1 hbx1 hrb1 hbw1 hrow0
  go_wp2_with fail
  clear hmk q0 q1 q2 q3 y0 y1 y2 y3
  go_loopw [4, 5, 18] (fun _ _ i wr => ∃ (m : Nat) (ys : List AV), m ≤ x.l.length ∧ i = .int .i64 m ∧ ys.length = m ∧ ys.map AV.v = (x.l.map AV.v).take m ∧ RowV wr W1.heap.size (ys ++ List.replicate (x.l.length - m) zAV) ∧ (∀ y ∈ ys, y.In wr (W1.heap.size + 1) wr.heap.size) ∧ Below W1.heap.size W1 wr ∧ W1.heap.size < wr.heap.size) (fun _ _ i _ => x.l.length - (intOf i).toNat)
  case atStart => exact ⟨0, [], Nat.zero_le _, rfl, rfl, rfl, HR0.out, fun y hy => absurd hy List.not_mem_nil, (Below.refl _ _).alloc (Nat.le_refl _) _, by rw [World.size_alloc]; omega⟩
  case round =>
    obtain ⟨m, ys, hml, rfl, hyl, hyv, hrow, hyi, hbr, hsr⟩ := hrel
    have hwr : Below w.heap.size w wr := HBW.out.trans (hbr.mono (by omega))
    obtain ⟨q0, q1, q2, q3, u0, u1, u2, u3⟩ := vbox4 ((hbr.block w.heap.size (by omega)).trans HB1.out)
    obtain ⟨s0, s1, s2, s3, y0, y1, y2, y3⟩ := vbox4 ((hbr.block (w.heap.size + 1) (by omega)).trans HRB.out)
    have HYL := Lib.hid hyl
    have HYV := Lib.hid hyv
    have HYI := Lib.hid hyi
    have HROW := Lib.hid hrow
    have HBR := Lib.hid hbr
    have HWR := Lib.hid hwr
    clear hyl hyv hyi hrow hbr hwr HR0
    by_cases hlt : m < x.l.length
    · have hk : x.l[m]? = some x.l[m] := List.getElem?_eq_getElem hlt
      have hmem : x.l[m] ∈ x.l := List.getElem_mem hlt
      generalize x.l[m] = y at *
      obtain ⟨b, off, hla, -, hb1, hb2, h0, h1, h2, h3⟩ := vals_at HX.out.sl hk
      rw [← HWR.out.cell (p := ⟨_, _, none⟩) hb2] at h0 h1 h2 h3
      have hbb : b < wr.heap.size := Nat.lt_of_lt_of_le hb2 HWR.out.size
      have hlt' : (m : Int) < (x.l.length : Int) := by omega
      have HC := fun W h => HI y hmem W h
      rw [hla] at q2
      have hix := Nat.lt_of_lt_of_le hlt (Nat.le_refl x.l.length)
      have HK := Lib.hid hk
      rw [hla]
      clear hk hmem HI s0 s1 s2 s3
      go_wp2_with fail
      have hba := (Below.refl wr.heap.size wr).alloc (Nat.le_refl _) (.cells #[.int .u8 y.k, .string y.t, .slice y.la y.l.length y.lc, .slice y.ka y.ks.length y.kc] 48)
      refine (HC _ (HWR.out.trans (hba.mono HWR.out.size))).out.mono ?_
      rintro e w2 ⟨z, rfl, hzv, hzi, hb2'⟩
      have hbz : Below wr.heap.size wr w2 := hba.trans (hb2'.mono (by simp))
      have hrz := HROW.out.below hbz
      have hrl : (ys ++ List.replicate (x.l.length - m) zAV).length = x.l.length := by rw [List.length_append, List.length_replicate, HYL.out]; omega
      have hsz := hbz.size
      obtain ⟨⟨v0, c0⟩, f0⟩ := hrz.cell (m := m) (by omega) (j := 0) (by omega)
      obtain ⟨⟨v1, c1⟩, f1⟩ := hrz.cell (m := m) (by omega) (j := 1) (by omega)
      obtain ⟨⟨v2, c2⟩, f2⟩ := hrz.cell (m := m) (by omega) (j := 2) (by omega)
      obtain ⟨⟨v3, c3⟩, f3⟩ := hrz.cell (m := m) (by omega) (j := 3) (by omega)
      rw [Nat.add_zero] at c0 f0
      have HZI := Lib.hid hzi
      have HZV := Lib.hid hzv
      have HBZ := Lib.hid hbz
      have HRZ := Lib.hid hrz
      have HRL := Lib.hid hrl
      have hsr2 : W1.heap.size < w2.heap.size := by omega
      clear hzi hzv hbz hrz hrl hba hb2' HC
      go_wp2_with fail
      have hput := HRZ.out.put (m := m) (by rw [HRL.out]; exact hlt) z
      have hset : (ys ++ List.replicate (x.l.length - m) zAV).set m z = (ys ++ [z]) ++ List.replicate (x.l.length - (m + 1)) zAV := by
        rw [List.set_append, if_neg (by rw [HYL.out]; omega), HYL.out, Nat.sub_self, List.append_assoc, show x.l.length - m = x.l.length - (m + 1) + 1 by omega, List.replicate_succ]
        rfl
      rw [hset] at hput
      have hbp : Below W1.heap.size W1 (put4 w2 W1.heap.size (m * 4) (.int .u8 z.k) (.string z.t) (.slice z.la z.l.length z.lc) (.slice z.ka z.ks.length z.kc)) :=
        ((((HBR.out.trans (HBZ.out.mono (by omega))).setCell (p := ⟨W1.heap.size, m * 4, none⟩) (Nat.le_refl _) _).setCell (p := ⟨W1.heap.size, m * 4 + 1, none⟩) (Nat.le_refl _) _).setCell (p := ⟨W1.heap.size, m * 4 + 2, none⟩) (Nat.le_refl _) _).setCell (p := ⟨W1.heap.size, m * 4 + 3, none⟩) (Nat.le_refl _) _
      refine ⟨⟨m + 1, ys ++ [z], by omega, by go_num, by simp [HYL.out], ?_, hput, ?_, hbp, by show W1.heap.size < (put4 _ _ _ _ _ _ _).heap.size; rw [put4_size]; omega⟩, by simp [intOf]; omega⟩
      · rw [List.map_append, HYV.out, List.take_add_one, List.getElem?_map, HK.out, List.map_singleton, HZV.out]; rfl
      · intro u hu
        have key : ∀ {lo hi : Nat}, W1.heap.size + 1 ≤ lo → hi ≤ w2.heap.size → u.In w2 lo hi → u.In (put4 w2 W1.heap.size (m * 4) (.int .u8 z.k) (.string z.t) (.slice z.la z.l.length z.lc) (.slice z.ka z.ks.length z.kc)) (W1.heap.size + 1) (put4 w2 W1.heap.size (m * 4) (.int .u8 z.k) (.string z.t) (.slice z.la z.l.length z.lc) (.slice z.ka z.ks.length z.kc)).heap.size := fun h1 h2 h =>
          (h.kept (Nat.le_of_eq put4_size.symm) fun q hq _ _ => put4_old (by omega)).widen h1 (by rw [put4_size]; exact h2)
        rcases List.mem_append.1 hu with hu | hu
        · exact key (Nat.le_refl _) hsz ((HYI.out u hu).blw' HBZ.out)
        · simp at hu; subst hu
          exact key (by rw [World.size_alloc]; omega) (Nat.le_refl _) HZI.out
    · obtain rfl : m = x.l.length := by omega
      have hge : ¬ (x.l.length : Int) < (x.l.length : Int) := by omega
      have hle : w.heap.size < wr.heap.size := by have := HBR.out.size; omega
      have hrow := HROW.out
      rw [Nat.sub_self, List.replicate_zero, List.append_nil] at hrow
      have hys : ys.map AV.v = x.l.map AV.v := by rw [HYV.out]; exact List.take_of_length_le (by simp)
      have HRW := Lib.hid hrow
      have HYS := Lib.hid hys
      have hsz := HBR.out.size
      clear hrow hys HI
      go_wp2_with fail
      have hq : ∀ q, W1.heap.size ≤ q ∨ w.heap.size + 1 + 1 ≤ q → (set4 (wr.setCell ⟨w.heap.size, 2, none⟩ (.slice (some ⟨W1.heap.size, 0, none⟩) x.l.length x.l.length)) (w.heap.size + 1) (.int .u8 x.k) (.string x.t) (.slice (some ⟨W1.heap.size, 0, none⟩) x.l.length x.l.length) (.slice A' x.ks.length x.ks.length)).heap[q]? = wr.heap[q]? := fun q hq => by
        rw [old4 (by omega)]
        exact Below.heap_setCell wr _ _ q (by show q ≠ w.heap.size; omega)
      have hqs : (set4 (wr.setCell ⟨w.heap.size, 2, none⟩ (.slice (some ⟨W1.heap.size, 0, none⟩) x.l.length x.l.length)) (w.heap.size + 1) (.int .u8 x.k) (.string x.t) (.slice (some ⟨W1.heap.size, 0, none⟩) x.l.length x.l.length) (.slice A' x.ks.length x.ks.length)).heap.size = wr.heap.size := by rw [size4]; simp
      have hin : AV.In (set4 (wr.setCell ⟨w.heap.size, 2, none⟩ (.slice (some ⟨W1.heap.size, 0, none⟩) x.l.length x.l.length)) (w.heap.size + 1) (.int .u8 x.k) (.string x.t) (.slice (some ⟨W1.heap.size, 0, none⟩) x.l.length x.l.length) (.slice A' x.ks.length x.ks.length)) w.heap.size (set4 (wr.setCell ⟨w.heap.size, 2, none⟩ (.slice (some ⟨W1.heap.size, 0, none⟩) x.l.length x.l.length)) (w.heap.size + 1) (.int .u8 x.k) (.string x.t) (.slice (some ⟨W1.heap.size, 0, none⟩) x.l.length x.l.length) (.slice A' x.ks.length x.ks.length)).heap.size ⟨x.k, x.t, some ⟨W1.heap.size, 0, none⟩, x.l.length, ys, A', x.ks.length, x.ks⟩ := by
        have e1 := HRW.out.sl.keep (w' := (set4 (wr.setCell ⟨w.heap.size, 2, none⟩ (.slice (some ⟨W1.heap.size, 0, none⟩) x.l.length x.l.length)) (w.heap.size + 1) (.int .u8 x.k) (.string x.t) (.slice (some ⟨W1.heap.size, 0, none⟩) x.l.length x.l.length) (.slice A' x.ks.length x.ks.length))) (Nat.le_of_eq hqs.symm) fun q h1 _ _ => hq q (.inl h1)
        have e2 := (HS1.out.below HBR.out (Nat.le_refl _)).keep (w' := (set4 (wr.setCell ⟨w.heap.size, 2, none⟩ (.slice (some ⟨W1.heap.size, 0, none⟩) x.l.length x.l.length)) (w.heap.size + 1) (.int .u8 x.k) (.string x.t) (.slice (some ⟨W1.heap.size, 0, none⟩) x.l.length x.l.length) (.slice A' x.ks.length x.ks.length))) (Nat.le_of_eq hqs.symm) fun q h1 _ _ => hq q (.inr h1)
        have e3 := fun u hu => (HYI.out u hu).kept (w' := (set4 (wr.setCell ⟨w.heap.size, 2, none⟩ (.slice (some ⟨W1.heap.size, 0, none⟩) x.l.length x.l.length)) (w.heap.size + 1) (.int .u8 x.k) (.string x.t) (.slice (some ⟨W1.heap.size, 0, none⟩) x.l.length x.l.length) (.slice A' x.ks.length x.ks.length))) (Nat.le_of_eq hqs.symm) fun q h1 _ _ => hq q (.inl (by omega))
        rw [hqs]
        exact ⟨e1.widen (by omega) (by omega), e2.widen (by omega) (by omega), hkd, fun u hu => (e3 u hu).widen (by omega) (Nat.le_refl _)⟩
      refine bodyPost_ret (v := .agg #[.int .u8 x.k, .string x.t, .slice (some ⟨W1.heap.size, 0, none⟩) x.l.length x.l.length, .slice A' x.ks.length x.ks.length]) (by simp [results, Tryz.results109, go_sem, s0, s1, s2, s3]) rfl ⟨⟨x.k, x.t, some ⟨W1.heap.size, 0, none⟩, x.l.length, ys, A', x.ks.length, x.ks⟩, ?_, ?_, ?_, ?_⟩
      · show _ = Ending.returned (.agg #[.int .u8 x.k, .string x.t, .slice (some ⟨W1.heap.size, 0, none⟩) ys.length x.l.length, .slice A' x.ks.length x.ks.length])
        rw [HYL.out]
      · rw [AV.v_eq, AV.v_eq x, HYS.out]
      · exact hin
      · show Below _ _ (set4 (wr.setCell ⟨w.heap.size, 2, none⟩ _) (w.heap.size + 1) _ _ _ _)
        exact below4 (HWR.out.setCell (p := ⟨w.heap.size, 2, none⟩) (Nat.le_refl _) _) (by omega)

/-- Is an element of a name? -/
def named1 (s : St) (v : Val) : Bool := match v.get s.t with | some y => decide ((⟨(textR y).toArray⟩ : ByteArray) = s.i) | none => false
/-- A step from a value on. -/
def Val.stp (v : Val) (s : St) : Option Val := if s.k = 0 then v.get s.t else if v.k = 7 then (if s.k = 1 then v.l[s.a.toNat]? else v.l.find? (named1 s)) else none
/-- Steps, one behind the other. -/
def walkL (v : Val) : List St → Option Val
  | [] => some v
  | s :: l => (v.stp s).bind fun u => walkL u l
theorem walkL_app (l m : List St) : ∀ v : Val, walkL v (l ++ m) = (walkL v l).bind fun u => walkL u m := by
  induction l with
  | nil => intro v; rfl
  | cons s l ih =>
    intro v
    simp only [List.cons_append, walkL]
    cases v.stp s with
    | none => rfl
    | some u => exact ih u
theorem walkL_one (v : Val) (s : St) : walkL v [s] = v.stp s := by
  simp only [walkL]
  cases v.stp s <;> rfl
theorem stp_mem {v u : Val} {s : St} (h : v.stp s = some u) : u ∈ v.l := by
  unfold Val.stp at h
  split at h
  · exact (get_mem h).1
  · split at h
    · split at h
      · exact List.mem_of_getElem? h
      · exact List.mem_of_find?_eq_some h
    · cases h
theorem stp_may {v u : Val} {s : St} (hm : v.may = true) (h : v.stp s = some u) : u.may = true := (may_kid hm (stp_mem h)).2
theorem stp_w {v u : Val} {s : St} (h : v.stp s = some u) : u.w < v.w := Val.w_kid (stp_mem h)
/-- What a path leads to. -/
def walkV (v : Val) (p : List St) : Option Val := if mayL p && v.may then walkL v p else none

theorem st_box {w : World} {b : Nat} {s : St} (h : w.heap[b]? = some (.cells #[.int .u8 s.k, .string s.t, .string s.i, .int .i64 s.a] 90 (0, 0))) : w.cell? ⟨b, 0, none⟩ = some (.int .u8 s.k) ∧ w.cell? ⟨b, 1, none⟩ = some (.string s.t) ∧ w.cell? ⟨b, 2, none⟩ = some (.string s.i) ∧ w.cell? ⟨b, 3, none⟩ = some (.int .i64 s.a) := by
  refine ⟨?_, ?_, ?_, ?_⟩ <;> simp [World.cell?, h]
set_option maxRecDepth 100000 in
set_option maxHeartbeats 3200000 in
theorem step1_c (x : AV) (s : St) (p : Nat) (w : World) (hx : Rd w x) (hw : x.w ≤ 1048576) (hS : Shorts w) (hp : w.heap[p]? = some (.cells #[.int .u8 s.k, .string s.t, .string s.i, .int .i64 s.a] 90 (0, 0))) :
    Calls Tryz.prog 153 #[x.val, .pointer (some ⟨p, 0, none⟩)] w (Ret (.bool (named1 s x.v)) w) := by
  have hpl := lt_of_blk hp
  have hb0 : Below w.heap.size w (w.alloc (.cells #[.int .u8 x.k, .string x.t, .slice x.la x.l.length x.lc, .slice x.ka x.ks.length x.kc] 48)) := (Below.refl w.heap.size w).alloc (Nat.le_refl _) _
  obtain ⟨t0, t1, t2, t3⟩ := st_box (blk_up hb0 hp)
  have HP := Lib.hid hp
  have HX := Lib.hid hx
  have HSH := Lib.hid hS
  clear hp hx hS
  cases hg : x.v.get s.t with
  | none =>
    have HF := Lib.hid (show named1 s x.v = false by unfold named1; rw [hg])
    have HG := fun W (h : Below w.heap.size w W) => Lib.hid (got_n hg W (HX.out.up h) hw)
    clear hg
    go_enter Tryz.func153, Tryz.ntmps153
    go_wp2_with (go_at_call 44; refine (HG _ hb0).out.mono ?_; rintro e w1 ⟨rfl, hb1⟩)
    go_name_world W2 hW2
    have hb2 : Below w1.heap.size w1 W2 := by rw [← hW2]; exact (by repeat (first | exact Below.refl _ _ | refine Below.drew ?_ | refine below_drewN ?_ _ | refine Below.setCell ?_ (by first | omega | (simp; done) | (simp; omega)) _ | refine Below.alloc ?_ (by first | omega | (simp; done) | (simp; omega)) _))
    have hbw := below_via hb0 (below_via hb1 hb2)
    clear hW2 t0 t1 t2 t3
    refine wp_region_bl (by kernel_rfl) (by kernel_rfl) ?_
    repeat (first | go_big_quiet_skip | (go_big_quiet_want; go_big_quiet_op; first | go_big_quiet_on | (refine ⟨_, fun _ _ => (by with_reducible rfl), ?_⟩; go_big_quiet_on)))
    refine wpQuiet_nil ?_; intro wz hbz
    go_wp2_with fail
    go_ret
    exact ⟨by rw [HF.out]; rfl, below_via hbw hbz⟩
  | some y =>
    have HF := Lib.hid (show named1 s x.v = decide ((⟨(textR y).toArray⟩ : ByteArray) = s.i) by unfold named1; rw [hg])
    have hyw := got_w hg
    have HG := fun W (h : Below w.heap.size w W) => Lib.hid (got_s hg W (HX.out.up h) hw)
    clear hg
    go_enter Tryz.func153, Tryz.ntmps153
    go_wp2_with (go_at_call 44; refine (HG _ hb0).out.mono ?_; rintro e w1 ⟨z, rfl, hzv, hzi, hb1⟩)
    go_name_world W2 hW2
    have hW2' : W2 = w1.alloc (.cells #[.int .u8 z.k, .string z.t, .slice z.la z.l.length z.lc, .slice z.ka z.ks.length z.kc] 48) := hW2.symm
    have hb2 : Below w1.heap.size w1 W2 := by rw [hW2']; exact (by repeat (first | exact Below.refl _ _ | refine Below.drew ?_ | refine below_drewN ?_ _ | refine Below.setCell ?_ (by first | omega | (simp; done) | (simp; omega)) _ | refine Below.alloc ?_ (by first | omega | (simp; done) | (simp; omega)) _))
    have hbw := below_via hb0 (below_via hb1 hb2)
    have hzb : W2.heap[w1.heap.size]? = some (.cells #[.int .u8 z.k, .string z.t, .slice z.la z.l.length z.lc, .slice z.ka z.ks.length z.kc] 48 (0, 0)) := by rw [hW2']; exact heap_alloc_new w1 _
    have hzr : Rd W2 z := Rd.up (hzi.widen (Nat.zero_le _) (Nat.le_refl _)) hb2
    have hzw : z.w ≤ 1048576 := by show z.v.w ≤ _; rw [hzv]; show _ ≤ 1048576; have : x.v.w ≤ 1048576 := hw; omega
    have HT := fun W (h : Below W2.heap.size W2 W) => Lib.hid (show Calls Tryz.prog 41 #[z.val] W (Ret (.string ⟨(textR y).toArray⟩) W) by
      have h2 := text_c z W (hzr.up h) hzw (HSH.out.below (below_via hbw h))
      rw [hzv] at h2
      exact h2)
    have LD := Lib.hid (show ∀ W, Below W2.heap.size W2 W → _ from fun W (h : Below W2.heap.size W2 W) => And.intro (vbox4 (blk_up h hzb)) (st_box (blk_up (below_via hbw h) HP.out)))
    clear hW2 hW2' t0 t1 t2 t3 hzb hzr hzv hzi hb1 hb2
    generalize (⟨(textR y).toArray⟩ : ByteArray) = ty at HT HF
    cases hd : decide (ty = s.i) with
    | false =>
      have e1 : (ty.toList == s.i.toList) = false := by rw [str_beq]; exact hd
      rw [hd] at HF
      clear hd
      refine wp_region_bl (by kernel_rfl) (by kernel_rfl) ?_
      repeat (first | go_big_quiet_skip | (go_big_quiet_want; go_big_quiet_op; first | go_big_quiet_on | (refine ⟨_, fun _ _ => (by with_reducible rfl), ?_⟩; go_big_quiet_on) | (apply Exists.intro; refine ⟨fun w' hC => (by simp only [LD.out w' hC, Result.andThen]; exact ⟨trivial, rfl⟩), ?_⟩; go_big_quiet_on) | (apply Exists.intro; refine ⟨fun w' hC => (by (with_reducible refine (HT w' hC).out.mono ?_); exact fun e w2 ⟨he, hb⟩ => ⟨he, hC.trans (hb.mono hC.size)⟩), ?_⟩; go_big_quiet_on)))
      refine wpQuiet_nil ?_; intro wz hbz
      go_wp2_with fail
      go_ret
      exact ⟨by rw [HF.out]; rfl, below_via hbw hbz⟩
    | true =>
      have e1 : (ty.toList == s.i.toList) = true := by rw [str_beq]; exact hd
      rw [hd] at HF
      clear hd
      refine wp_region_bl (by kernel_rfl) (by kernel_rfl) ?_
      repeat (first | go_big_quiet_skip | (go_big_quiet_want; go_big_quiet_op; first | go_big_quiet_on | (refine ⟨_, fun _ _ => (by with_reducible rfl), ?_⟩; go_big_quiet_on) | (apply Exists.intro; refine ⟨fun w' hC => (by simp only [LD.out w' hC, Result.andThen]; exact ⟨trivial, rfl⟩), ?_⟩; go_big_quiet_on) | (apply Exists.intro; refine ⟨fun w' hC => (by (with_reducible refine (HT w' hC).out.mono ?_); exact fun e w2 ⟨he, hb⟩ => ⟨he, hC.trans (hb.mono hC.size)⟩), ?_⟩; go_big_quiet_on)))
      refine wpQuiet_nil ?_; intro wz hbz
      go_wp2_with fail
      go_ret
      exact ⟨by rw [HF.out]; rfl, below_via hbw hbz⟩

/-- Where an element is that is asked for; -1: there is none. -/
def idxF (F : AV → Bool) (l : List AV) : Int := match l.findIdx? F with | some i => ((i : Nat) : Int) | none => -1
theorem idxF_at {F : AV → Bool} {l : List AV} {k : Nat} {y : AV} (h : ∀ j x, j < k → l[j]? = some x → F x = false) (hk : l[k]? = some y) (hy : F y = true) : idxF F l = k := by
  have : l.findIdx? F = some k := by
    rw [List.findIdx?_eq_some_iff_getElem]
    obtain ⟨hl, e⟩ := List.getElem?_eq_some_iff.1 hk
    refine ⟨hl, by rw [e]; exact hy, fun j hj => ?_⟩
    have := h j l[j] hj (List.getElem?_eq_getElem (by omega))
    simp [this]
  rw [idxF, this]
theorem idxF_none {F : AV → Bool} {l : List AV} (h : ∀ (j : Nat) (x : AV), l[j]? = some x → F x = false) : idxF F l = -1 := by
  have : l.findIdx? F = none := by
    rw [List.findIdx?_eq_none_iff]
    intro x hx
    obtain ⟨j, hj⟩ := List.getElem?_of_mem hx
    exact h j x hj
  rw [idxF, this]
set_option maxRecDepth 100000 in
set_option maxHeartbeats 3200000 in
theorem indexv_c (w : World) (a : Option Addr) (cap : Nat) (l : List AV) (h : SlE AV.enc 4 w 0 w.heap.size a l) (hl : l.length ≤ 1048576) (p : Addr) (F : AV → Bool) (hcl : ∀ y ∈ l, ∀ W, Below w.heap.size w W → Calls Tryz.prog 153 #[y.val, .pointer (some p)] W (Ret (.bool (F y)) W)) :
    Calls Tryz.prog 152 #[.slice a l.length cap, .func (.func 153) #[] #[.pointer (some p)]] w (Ret (.int .i64 (idxF F l)) w) := by
  have HCL := Lib.hid hcl
  have HSL := Lib.hid h
  clear h hcl
  go_enter Tryz.func152, Tryz.ntmps152
  go_wp2_with fail
  go_loopw [5, 8] (fun _ i wr => ∃ k : Nat, k ≤ l.length ∧ i = .int .i64 k ∧ (∀ j x, j < k → l[j]? = some x → F x = false) ∧ Below w.heap.size w wr) (fun _ i _ => l.length - (intOf i).toNat)
  case atStart => exact ⟨0, Nat.zero_le _, rfl, fun j x hj => absurd hj (by omega), Below.refl _ _⟩
  case round =>
    obtain ⟨k, hk, rfl, hz, hbw⟩ := hrel
    have hsz := hbw.size
    have HZ := Lib.hid hz
    clear hz
    by_cases hlt : k < l.length
    · have hks : l[k]? = some l[k] := List.getElem?_eq_getElem hlt
      have hmem : l[k] ∈ l := List.getElem_mem hlt
      generalize l[k] = s at *
      obtain ⟨b, off, hla, -, hb1, hb2, h0, h1, h2, h3⟩ := vals_at HSL.out hks
      rw [← hbw.cell (p := ⟨_, _, none⟩) hb2] at h0 h1 h2 h3
      have hbb : b < wr.heap.size := Nat.lt_of_lt_of_le hb2 hbw.size
      have hlt' : (k : Int) < (l.length : Int) := by omega
      have hk0 : (0 : Int) ≤ (k : Int) := by omega
      have HK := Lib.hid hks
      have HC := fun W (h : Below w.heap.size w W) => Lib.hid (HCL.out s hmem W h)
      subst hla
      clear hks hmem
      cases hF : F s with
      | true =>
        have hfin := Lib.hid (idxF_at HZ.out HK.out hF)
        rw [hF] at HC
        clear hF
        go_wp2_with (go_at_call 153; refine (HC _ hbw).out.mono ?_; rintro e w2 ⟨rfl, hb⟩)
        go_ret
        exact ⟨by rw [hfin.out]; rfl, hbw.trans (hb.mono hsz)⟩
      | false =>
        have HFF := Lib.hid hF
        rw [hF] at HC
        clear hF
        go_wp2_with (go_at_call 153; refine (HC _ hbw).out.mono ?_; rintro e w2 ⟨rfl, hb⟩)
        refine ⟨⟨k + 1, by omega, by go_num, fun j x hj hx => ?_, hbw.trans (hb.mono hsz)⟩, by simp [intOf]; omega⟩
        rcases Nat.lt_or_ge j k with hj2 | hj2
        · exact HZ.out j x hj2 hx
        · obtain rfl : j = k := by omega
          rw [HK.out] at hx; injection hx with hx; rw [← hx]; exact HFF.out
    · have hfin := Lib.hid (show idxF F l = -1 from idxF_none fun j x hx => HZ.out j x (by have := (List.getElem?_eq_some_iff.1 hx).1; omega) hx)
      have hge : ¬ (k : Int) < (l.length : Int) := by omega
      go_wp2_with fail
      go_ret
      exact ⟨by rw [hfin.out]; rfl, hbw⟩
theorem idxF_find {s : St} {l : List AV} : (match idxF (fun y => named1 s y.v) l with | .ofNat i => (l[i]?).map AV.v | .negSucc _ => none) = (l.map AV.v).find? (named1 s) := by
  unfold idxF
  cases h : l.findIdx? fun y => named1 s y.v with
  | none =>
    have : (l.map AV.v).find? (named1 s) = none := by
      rw [List.find?_eq_none]
      intro v hv
      obtain ⟨y, hy, rfl⟩ := List.mem_map.1 hv
      have := List.findIdx?_eq_none_iff.1 h y hy
      simp [this]
    rw [this]; rfl
  | some i =>
    rw [List.findIdx?_eq_some_iff_getElem] at h
    obtain ⟨hl, h1, h2⟩ := h
    have : (l.map AV.v).find? (named1 s) = some l[i].v := by
      rw [List.find?_eq_some_iff_getElem]
      refine ⟨h1, i, by simpa using hl, by simp, fun j hj => ?_⟩
      have := h2 j hj
      simpa using this
    rw [this]
    show (l[i]?).map AV.v = _
    rw [List.getElem?_eq_getElem hl]; rfl
end Go.Proofs.YtcpdogjcofkpcaaGreatDoor
