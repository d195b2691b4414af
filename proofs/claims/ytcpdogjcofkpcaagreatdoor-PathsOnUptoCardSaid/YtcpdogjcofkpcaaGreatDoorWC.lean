/-
  inarchlaw16.PathsOn answers true. Conditions: the value, the numbers and the steps lie in memory, their weights are bounded; the tables hold what their initialisers lay.
-/
import Derived.Test.YtcpdogjcofkpcaaGreatDoorWB
import Derived.Test.YtcpdogjcofkpcaaGreatDoorVF
namespace Go.Proofs.YtcpdogjcofkpcaaGreatDoor
open Go.RowKit Go.Sort

abbrev u8E (n : Int) : List Value := [.int .u8 n]
theorem u8_at {w : World} {lo hi : Nat} {a : Option Addr} {l : List Int} (h : SlE u8E 1 w lo hi a l) {k : Nat} {y : Int} (hk : l[k]? = some y) :
    ∃ b off, a = some ⟨b, off, none⟩ ∧ b < w.heap.size ∧ w.cell? ⟨b, off + k, none⟩ = some (.int .u8 y) := by
  obtain ⟨b, off, e, -, -, g3, g4⟩ := h (by have := (List.getElem?_eq_some_iff.1 hk).1; omega)
  have c := g4 k y hk 0 _ rfl
  exact ⟨b, off, e, g3, by simpa using c⟩
theorem walkV_some {v u : Val} {p : List St} (hm : v.may = true) (hl : p.length ≤ 512) (hs : ∀ s ∈ p, mayS s = true) (h : walkL v p = some u) : walkV v p = some u := by
  unfold walkV mayL
  rw [decide_eq_true hl, hm, List.all_eq_true.2 hs]
  exact h
theorem walkL_may {v : Val} : ∀ {p : List St} {u : Val}, v.may = true → walkL v p = some u → u.may = true := by
  intro p
  induction p generalizing v with
  | nil => intro u hm h; cases h; exact hm
  | cons s l ih =>
    intro u hm h
    simp only [walkL] at h
    cases hs : v.stp s with
    | none => rw [hs] at h; cases h
    | some y => rw [hs] at h; exact ih (stp_may hm hs) h
theorem walkL_w {v : Val} : ∀ {p : List St} {u : Val}, walkL v p = some u → u.w ≤ v.w := by
  intro p
  induction p generalizing v with
  | nil => intro u h; cases h; exact Nat.le_refl _
  | cons s l ih =>
    intro u h
    simp only [walkL] at h
    cases hs : v.stp s with
    | none => rw [hs] at h; cases h
    | some y => rw [hs] at h; exact Nat.le_trans (ih h) (Nat.le_of_lt (stp_w hs))
theorem walkV_w {v u : Val} {p : List St} (h : walkV v p = some u) : u.w ≤ v.w := by
  unfold walkV at h
  split at h
  · exact walkL_w h
  · cases h
/-- What is walked to on from a part. -/
theorem walk_on {v u : Val} {p on : List St} (hm : v.may = true) (hs : ∀ s ∈ p, mayS s = true) (h : walkL v p = some u) :
    (walkV u on = none ∧ walkV v (p ++ on) = none) ∨ (512 < (p ++ on).length ∧ walkV v (p ++ on) = none) ∨ ∃ y, y.may = true ∧ walkV u on = some y ∧ walkV v (p ++ on) = some y := by
  have hu := walkL_may hm h
  by_cases hl : 512 < (p ++ on).length
  · right; left
    refine ⟨hl, ?_⟩
    unfold walkV mayL
    rw [decide_eq_false (by omega)]; rfl
  · have h2 : walkV v (p ++ on) = walkV u on := by
      unfold walkV mayL
      rw [hm, hu, walkL_app, h, List.all_append, List.all_eq_true.2 hs, decide_eq_true (by omega), decide_eq_true (by rw [List.length_append] at hl; omega), Bool.true_and]
      rfl
    cases ho : walkV u on with
    | none => left; exact ⟨rfl, by rw [h2, ho]⟩
    | some y =>
      right; right
      refine ⟨y, ?_, rfl, by rw [h2, ho]⟩
      unfold walkV at ho
      split at ho
      · exact walkL_may hu ho
      · cases ho

theorem ownC_sts2 {w : World} {e base : Nat} {a : Option Addr} {l : List St} (h : OwnC w base e 4 a l.length l.length (l.flatMap St.enc)) : Sts w base w.heap.size a l := fun hl => by
  obtain ⟨g, cur, rfl, hg, hb, hc, ht⟩ := h.2.2 hl
  have hgl := lt_of_blk hb
  refine ⟨g, 0, rfl, hg, hgl, hgl, fun i y hy j u hu => ?_⟩
  have hj : j < 4 := by have := (List.getElem?_eq_some_iff.1 hu).1; rwa [St.enc_len] at this
  have hi := (List.getElem?_eq_some_iff.1 hy).1
  have hf := flat_get St.enc_len l i j y hy hj
  rw [hu, ← ht, List.getElem?_take_of_lt (by omega)] at hf
  rw [Nat.zero_add]
  simpa [World.cell?, hb] using hf
set_option maxRecDepth 100000 in
set_option maxHeartbeats 3200000 in
theorem pon_out0 (w : World) (x : AV) (A : Option Addr) (cA : Nat) (zs : List Int) (B : Option Addr) (cB : Nat) (on : List St) (hx : Rd w x) (hwx : x.w ≤ 1048576) (hP : Pow w) (h0 : 1500 < x.v.w) :
    Calls Tryz.prog 10 #[x.val, .slice A zs.length cA, .slice B on.length cB] w (Ret (.bool true) w) := by
  have HL := fun W (h : Below w.heap.size w W) => Lib.hid (lives16 W (hP.below h))
  have hB0 : Below (w.heap.size + 1) (w.alloc (.cells #[.int .u8 x.k, .string x.t, .slice x.la x.l.length x.lc, .slice x.ka x.ks.length x.kc] 48)) (w.alloc (.cells #[.int .u8 x.k, .string x.t, .slice x.la x.l.length x.lc, .slice x.ka x.ks.length x.kc] 48)) := Below.refl _ _
  have hb0 : Below w.heap.size w (w.alloc (.cells #[.int .u8 x.k, .string x.t, .slice x.la x.l.length x.lc, .slice x.ka x.ks.length x.kc] 48)) := (Below.refl _ _).alloc (Nat.le_refl _) _
  have HGX := fun W (h : Below w.heap.size w W) => Lib.hid (great14_c x W (hx.up h) hwx)
  rw [decide_eq_true h0] at HGX
  clear h0
  go_enter Tryz.func10, Tryz.ntmps10
  go_wp2_with (first
       | (go_at_call 54; refine (HL _ k1).out.mono ?_; rintro e w9 ⟨rfl, hb9⟩)
       | (go_at_call 21; refine (HGX _ hb0).out.mono ?_; rintro e w1 ⟨rfl, hb1⟩
          have hB1 := tri_step (N := w.heap.size + 1) hB0 hb1 (by simp)
          obtain ⟨q0, q1, q2, q3⟩ := bx hB1
          have k1 := bx_w hB1))
  go_ret
  exact ⟨rfl, below_via k1 hb9⟩
set_option maxRecDepth 100000 in
set_option maxHeartbeats 3200000 in
theorem pon_out1 (w : World) (x : AV) (A : Option Addr) (cA : Nat) (zs : List Int) (B : Option Addr) (cB : Nat) (on : List St) (hx : Rd w x) (hwx : x.w ≤ 1048576) (hP : Pow w) (h0 : ¬ 1500 < x.v.w) (h1 : x.v.may = false) :
    Calls Tryz.prog 10 #[x.val, .slice A zs.length cA, .slice B on.length cB] w (Ret (.bool true) w) := by
  have HL := fun W (h : Below w.heap.size w W) => Lib.hid (lives16 W (hP.below h))
  have hB0 : Below (w.heap.size + 1) (w.alloc (.cells #[.int .u8 x.k, .string x.t, .slice x.la x.l.length x.lc, .slice x.ka x.ks.length x.kc] 48)) (w.alloc (.cells #[.int .u8 x.k, .string x.t, .slice x.la x.l.length x.lc, .slice x.ka x.ks.length x.kc] 48)) := Below.refl _ _
  have hb0 : Below w.heap.size w (w.alloc (.cells #[.int .u8 x.k, .string x.t, .slice x.la x.l.length x.lc, .slice x.ka x.ks.length x.kc] 48)) := (Below.refl _ _).alloc (Nat.le_refl _) _
  have HGX := fun W (h : Below w.heap.size w W) => Lib.hid (great14_c x W (hx.up h) hwx)
  have HM := fun W (h : Below w.heap.size w W) => Lib.hid (may_c W x (hx.up h) hwx)
  rw [decide_eq_false h0] at HGX
  rw [h1] at HM
  clear h0 h1
  go_enter Tryz.func10, Tryz.ntmps10
  go_wp2_with (first
       | (go_at_call 54; refine (HL _ k2).out.mono ?_; rintro e w9 ⟨rfl, hb9⟩)
       | (go_at_call 21; refine (HGX _ hb0).out.mono ?_; rintro e w1 ⟨rfl, hb1⟩
          have hB1 := tri_step (N := w.heap.size + 1) hB0 hb1 (by simp)
          obtain ⟨q0, q1, q2, q3⟩ := bx hB1
          have k1 := bx_w hB1)
       | (go_at_call 31; refine (HM _ k1).out.mono ?_; rintro e w2 ⟨rfl, hb2⟩
          have k2 := below_via k1 hb2))
  go_ret
  exact ⟨rfl, below_via k2 hb9⟩
set_option maxRecDepth 100000 in
set_option maxHeartbeats 3200000 in
theorem pon_out2 (w : World) (x : AV) (A : Option Addr) (cA : Nat) (zs : List Int) (B : Option Addr) (cB : Nat) (on : List St) (hx : Rd w x) (hwx : x.w ≤ 1048576) (hP : Pow w) (h0 : ¬ 1500 < x.v.w) (h1 : x.v.may = true) (h2 : 100 < zs.length) :
    Calls Tryz.prog 10 #[x.val, .slice A zs.length cA, .slice B on.length cB] w (Ret (.bool true) w) := by
  have HL := fun W (h : Below w.heap.size w W) => Lib.hid (lives16 W (hP.below h))
  have hB0 : Below (w.heap.size + 1) (w.alloc (.cells #[.int .u8 x.k, .string x.t, .slice x.la x.l.length x.lc, .slice x.ka x.ks.length x.kc] 48)) (w.alloc (.cells #[.int .u8 x.k, .string x.t, .slice x.la x.l.length x.lc, .slice x.ka x.ks.length x.kc] 48)) := Below.refl _ _
  have hb0 : Below w.heap.size w (w.alloc (.cells #[.int .u8 x.k, .string x.t, .slice x.la x.l.length x.lc, .slice x.ka x.ks.length x.kc] 48)) := (Below.refl _ _).alloc (Nat.le_refl _) _
  have HGX := fun W (h : Below w.heap.size w W) => Lib.hid (great14_c x W (hx.up h) hwx)
  have HM := fun W (h : Below w.heap.size w W) => Lib.hid (may_c W x (hx.up h) hwx)
  rw [decide_eq_false h0] at HGX
  rw [h1] at HM
  have e9 : (100 : Int) < (zs.length : Int) := by omega
  clear h0 h1 h2
  go_enter Tryz.func10, Tryz.ntmps10
  go_wp2_with (first
       | (go_at_call 54; refine (HL _ k2).out.mono ?_; rintro e w9 ⟨rfl, hb9⟩)
       | (go_at_call 21; refine (HGX _ hb0).out.mono ?_; rintro e w1 ⟨rfl, hb1⟩
          have hB1 := tri_step (N := w.heap.size + 1) hB0 hb1 (by simp)
          obtain ⟨q0, q1, q2, q3⟩ := bx hB1
          have k1 := bx_w hB1)
       | (go_at_call 31; refine (HM _ k1).out.mono ?_; rintro e w2 ⟨rfl, hb2⟩
          have k2 := below_via k1 hb2))
  go_ret
  exact ⟨rfl, below_via k2 hb9⟩
set_option maxRecDepth 100000 in
set_option maxHeartbeats 25600000 in
theorem pon_in (w : World) (x : AV) (A : Option Addr) (cA : Nat) (zs : List Int) (B : Option Addr) (cB : Nat) (on : List St) (hx : Rd w x) (hwx : x.w ≤ 1048576) (hzs : SlE u8E 1 w 0 w.heap.size A zs) (hzr : ∀ n ∈ zs, 0 ≤ n ∧ n ≤ 255) (hon : Sts w 0 w.heap.size B on) (hf : Fit on) (hol : on.length ≤ 1000000) (hS : Shorts w) (hP : Pow w) (h0 : ¬ 1500 < x.v.w) (h1 : x.v.may = true) (h2 : ¬ 100 < zs.length) :
    Calls Tryz.prog 10 #[x.val, .slice A zs.length cA, .slice B on.length cB] w (Ret (.bool true) w) := by
  have HL := fun W (h : Below w.heap.size w W) => Lib.hid (lives16 W (hP.below h))
  have hB0 : Below (w.heap.size + 1) (w.alloc (.cells #[.int .u8 x.k, .string x.t, .slice x.la x.l.length x.lc, .slice x.ka x.ks.length x.kc] 48)) (w.alloc (.cells #[.int .u8 x.k, .string x.t, .slice x.la x.l.length x.lc, .slice x.ka x.ks.length x.kc] 48)) := Below.refl _ _
  have hb0 : Below w.heap.size w (w.alloc (.cells #[.int .u8 x.k, .string x.t, .slice x.la x.l.length x.lc, .slice x.ka x.ks.length x.kc] 48)) := (Below.refl _ _).alloc (Nat.le_refl _) _
  have HGX := fun W (h : Below w.heap.size w W) => Lib.hid (great14_c x W (hx.up h) hwx)
  have HM := fun W (h : Below w.heap.size w W) => Lib.hid (may_c W x (hx.up h) hwx)
  have HG16 := fun W (h : Below w.heap.size w W) => Lib.hid (great16 W B cB on (hon.up h) hf)
  rw [decide_eq_false h0] at HGX
  rw [h1] at HM
  have e9' : ¬ (100 : Int) < (zs.length : Int) := by omega
  have HX := Lib.hid hx
  have HZS := Lib.hid hzs
  have HON := Lib.hid hon
  have HZR := Lib.hid hzr
  have HMAY := Lib.hid h1
  have HFL := hf.1
  have HSH := Lib.hid hS
  have hzl : zs.length ≤ 100 := by omega
  clear h0 h1 h2 hx hzs hzr hon hf hS
  go_enter Tryz.func10, Tryz.ntmps10
  go_wp2_with (first
    | (go_at_call 21; refine (HGX _ hb0).out.mono ?_; rintro e w1 ⟨rfl, hb1⟩
       have hB1 := tri_step (N := w.heap.size + 1) hB0 hb1 (by simp)
       obtain ⟨q0, q1, q2, q3⟩ := bx hB1
       have k1 := bx_w hB1)
    | (go_at_call 31; refine (HM _ k1).out.mono ?_; rintro e w2 ⟨rfl, hb2⟩
       have hB2 := tri_step (N := w.heap.size + 1) hB1 hb2 (by simp)
       have k2 := bx_w hB2))
  refine (HG16 _ k2).out.mono ?_
  rintro e w3 ⟨r, rfl, hb3⟩
  have hB3 := tri_step (N := w.heap.size + 1) hB2 hb3 (by simp)
  have k3 := bx_w hB3
  clear q0 q1 q2 q3 k1 k2
  cases r with
  | true =>
    go_wp2_with (go_at_call 54; refine (HL _ k3).out.mono ?_; rintro e w9 ⟨rfl, hb9⟩)
    go_ret
    exact ⟨rfl, below_via k3 hb9⟩
  | false =>
    obtain ⟨q0, q1, q2, q3⟩ := bx hB3
    have hw3 := hB3.size
    rw [World.size_alloc] at hw3
    have l0 : w.heap.size < w3.heap.size := by omega
    have K3 := Lib.hid k3
    have HB3 := Lib.hid hB3
    clear hB0 hb0 hB1 hB2 hB3 hb1 hb2 hb3 k3 HGX HM HG16 e9'
    go_wp2_with fail
    go_loopw [8, 9] (fun s8 s9 wr => ∃ (i : Nat) (z : AV) (a : Option Addr) (c : Nat) (P : List St), i ≤ zs.length ∧ s9 = .int .i64 i ∧ s8 = .slice a P.length c ∧ P.length ≤ c ∧ P.length = i ∧ Sts wr (w3.heap.size + 1) wr.heap.size a P ∧ (∀ s ∈ P, mayS s = true) ∧ walkL x.v P = some z.v ∧ z.In w 0 w.heap.size ∧ z.v.may = true ∧ z.w ≤ x.w ∧ wr.heap[w3.heap.size]? = some (.cells #[.int .u8 z.k, .string z.t, .slice z.la z.l.length z.lc, .slice z.ka z.ks.length z.kc] 48 (0, 0)) ∧ Below w3.heap.size w3 wr ∧ w3.heap.size < wr.heap.size) (fun _ s9 _ => zs.length - (intOf s9).toNat)
    case atStart => exact ⟨0, x, none, 0, [], Nat.zero_le _, rfl, rfl, Nat.zero_le _, rfl, SlE.nil, fun s hs => absurd hs List.not_mem_nil, rfl, HX.out, HMAY.out, Nat.le_refl _, heap_alloc_new w3 _, (Below.refl _ _).alloc (Nat.le_refl _) _, by simp⟩
    case round =>
      obtain ⟨i, z, a, c, P, hi, rfl, rfl, hcap, hPl, hsp, hsm, hwk, hzi, hzm, hzw, hbz, hbr, hsz⟩ := hrel
      clear q0 q1 q2 q3
      have HPL := Lib.hid hPl
      have HSP := Lib.hid hsp
      have HSM := Lib.hid hsm
      have HWK := Lib.hid hwk
      have HZI := Lib.hid hzi
      have HZM := Lib.hid hzm
      have HBZ := Lib.hid hbz
      have HBR := Lib.hid hbr
      have HBW := Lib.hid (below_via K3.out hbr)
      have hPc : P.length ≤ 100 := by omega
      have LD := Lib.hid (show ∀ W, Below w3.heap.size w3 W → _ from fun W (h : Below w3.heap.size w3 W) => bx (HB3.out.trans (h.mono hw3)))
      obtain ⟨q0, q1, q2, q3⟩ := LD.out wr hbr
      obtain ⟨r0, r1, r2, r3, f0, f1, f2, f3⟩ := vbox4 hbz
      have hll := z.w_l
      have l1 : w.heap.size < wr.heap.size := by omega
      clear hPl hsp hsm hwk hzi hzm hbz hbr
      by_cases hgo : i < zs.length ∧ 0 < z.l.length
      · obtain ⟨hlt, hzl0⟩ := hgo
        have hk : zs[i]? = some zs[i] := List.getElem?_eq_getElem hlt
        have hnm : zs[i] ∈ zs := List.getElem_mem hlt
        generalize zs[i] = n at hk hnm
        obtain ⟨hn0, hn255⟩ := HZR.out n hnm
        obtain ⟨nn, rfl⟩ := Int.eq_ofNat_of_zero_le hn0
        obtain ⟨bz, oz, hza, gz, cz'⟩ := u8_at HZS.out hk
        have cz := (HBW.out.cell (p := ⟨_, _, none⟩) gz).trans cz'
        obtain ⟨kk, hkk⟩ : ∃ kk, kk = nn % z.l.length := ⟨_, rfl⟩
        have hkl : kk < z.l.length := by rw [hkk]; exact Nat.mod_lt _ hzl0
        have hy : z.l[kk]? = some z.l[kk] := List.getElem?_eq_getElem hkl
        have hym : z.l[kk] ∈ z.l := List.getElem_mem hkl
        generalize z.l[kk] = y at hy hym
        obtain ⟨by_, oy, hla, -, -, gy, y0', y1', y2', y3'⟩ := vals_at (Rd.up (HZI.out.widen (Nat.le_refl _) (Nat.le_refl _)) HBW.out).sl hy
        have hyv : z.v.l[kk]? = some y.v := by rw [AV.v_l, List.getElem?_map, hy]; rfl
        have hymay : y.v.may = true := (may_kid HZM.out (List.mem_of_getElem? hyv)).2
        have hyw := AV.w_kid hym
        have hyin : y.In w 0 w.heap.size := HZI.out.kid hym
        have hsh := within_sh (n := 256) (v := z.v) (by rw [Val.may_eq]; exact HZM.out)
        have hkind : z.k = 7 ∨ z.k = 8 := by
          rcases shape_range hsh with h | h | h
          · have := shape_leaf hsh h
            rw [AV.v_l] at this
            have h2 : z.l = [] := List.map_eq_nil_iff.1 this
            rw [h2] at hzl0; cases hzl0
          · left; rw [← AV.v_k]; exact h
          · right; rw [← AV.v_k]; exact h
        have hbyne : by_ ≠ w3.heap.size := fun e => by
          obtain ⟨b', o', hla', -, -, g', -⟩ := vals_at HZI.out.sl hy
          rw [hla'] at hla
          injection hla with hla; injection hla with hla1 _
          omega
        have hbyl : by_ < wr.heap.size := gy
        have ez0 : ¬ ((z.l.length : Int) = 0) := by omega
        have ez1 : ¬ z.l.length = 0 := by omega
        have ez2 : ¬ z.l = [] := fun e => ez1 (by rw [e]; rfl)
        have em : (nn : Int).tmod (z.l.length : Int) = (kk : Int) := by rw [Int.tmod_eq_emod_of_nonneg (by omega), hkk]; omega
        have ew : IntKind.i64.wrap (nn : Int) = (nn : Int) := IntWalk.i64_in _ (by omega)
        have hlt' : (i : Int) < (zs.length : Int) := by omega
        have hzl0' : (0 : Int) < (z.l.length : Int) := by omega
        have hkl' : (kk : Int) < (z.l.length : Int) := by omega
        have hkk0 : (0 : Int) ≤ (kk : Int) := by omega
        have hi0 : (0 : Int) ≤ (i : Int) := by omega
        have hd1 : decide ((i : Int) < (zs.length : Int)) = true := decide_eq_true hlt'
        have hd2 : decide ((z.l.length : Int) > 0) = true := decide_eq_true hzl0'
        have hbz2 : bz < wr.heap.size := Nat.lt_of_lt_of_le gz HBW.out.size
        have HYV := Lib.hid hyv
        have HY := Lib.hid hy
        rw [hla] at r2
        have HLA := Lib.hid hla
        subst hza
        clear hk hnm hn0 hn255 cz' hkk hy hym hyv hsh hla HZR
        rcases hkind with h7 | h8
        · have e8 : (z.k == 8) = false := by simp [h7]
          obtain ⟨s, hs⟩ : ∃ s : St, s = ⟨1, ⟨#[]⟩, ⟨#[]⟩, (kk : Int)⟩ := ⟨_, rfl⟩
          have hst : z.v.stp s = some y.v := by
            rw [hs]
            unfold Val.stp
            rw [if_neg (show ¬ (1 : Int) = 0 by decide), AV.v_k, if_pos h7, if_pos rfl]
            simpa using HYV.out
          have hsm : mayS s = true := by
            rw [hs]
            unfold mayS
            rw [if_neg (show ¬ (1 : Int) = 0 by decide), if_pos rfl]
            simp
          have HS1 := Lib.hid hs
          have hsv : s.val = .agg #[.int .u8 1, .string ⟨#[]⟩, .string ⟨#[]⟩, .int .i64 (kk : Int)] := by rw [hs]
          go_wp2_with fail
          go_cut [10] (fun t10 wx => t10 = .int .i64 (kk : Int) ∧ Below wr.heap.size wr wx)
          case first =>
            go_quiet (fail)
            go_wp2_with fail
            go_meet
            exact ⟨rfl, below_drewN (Below.refl _ _) _⟩
          case rest =>
            obtain ⟨rfl, hbc⟩ := hcut
            obtain ⟨W4, hW4⟩ : ∃ W4, W4 = wc := ⟨_, rfl⟩
            subst hW4
            have hs4 := hbc.size
            have B4 := Lib.hid hbc
            have HB74 := Lib.hid (blk_up hbc HBZ.out)
            clear q0 q1 q2 q3 r0 r1 r2 r3 f0 f1 f2 f3 cz hbc
            obtain ⟨r0, r1, r2, r3, f0, f1, f2, f3⟩ := vbox4 HB74.out
            rw [HLA.out] at r2
            have y0 := (B4.out.cell (p := ⟨_, _, none⟩) gy).trans y0'
            have y1 := (B4.out.cell (p := ⟨_, _, none⟩) gy).trans y1'
            have y2 := (B4.out.cell (p := ⟨_, _, none⟩) gy).trans y2'
            have y3 := (B4.out.cell (p := ⟨_, _, none⟩) gy).trans y3'
            have l4 : w3.heap.size < W4.heap.size := by omega
            have l5 : by_ < W4.heap.size := by omega
            clear y0' y1' y2' y3'
            go_upto_region 13 with fail
            go_name_world W5 hW5
            have hp5 : W5 = (put4 W4 w3.heap.size 0 (.int .u8 y.k) (.string y.t) (.slice y.la y.l.length y.lc) (.slice y.ka y.ks.length y.kc)).alloc (.cells #[.int .u8 1, .string ⟨#[]⟩, .string ⟨#[]⟩, .int .i64 (kk : Int)] 90) := hW5.symm
            clear hW5
            have hs5 : W5.heap.size = W4.heap.size + 1 := by rw [hp5, World.size_alloc, put4_size]
            have ho5 : ∀ q, q ≠ w3.heap.size → q < W4.heap.size → W5.heap[q]? = W4.heap[q]? := fun q hq hlt => by
              rw [hp5, heap_alloc_old _ _ _ (by rw [put4_size]; exact hlt)]
              exact put4_old hq
            have hs11 : W5.heap[W4.heap.size]? = some (.cells #[.int .u8 1, .string ⟨#[]⟩, .string ⟨#[]⟩, .int .i64 (kk : Int)] 90 (0, 0)) := by
              rw [hp5, show W4.heap.size = (put4 W4 w3.heap.size 0 (.int .u8 y.k) (.string y.t) (.slice y.la y.l.length y.lc) (.slice y.ka y.ks.length y.kc)).heap.size from put4_size.symm]
              exact heap_alloc_new _ _
            have hb75 : W5.heap[w3.heap.size]? = some (.cells #[.int .u8 y.k, .string y.t, .slice y.la y.l.length y.lc, .slice y.ka y.ks.length y.kc] 48 (0, 0)) := by
              rw [hp5, heap_alloc_old _ _ _ (by rw [put4_size]; exact l4)]
              exact put4_box HB74.out
            have hb35 : Below w3.heap.size w3 W5 := by
              rw [hp5]
              exact (below4 (HBR.out.trans (B4.out.mono HBR.out.size)) (Nat.le_refl _)).alloc (by show _ ≤ (put4 W4 w3.heap.size 0 _ _ _ _).heap.size; rw [put4_size]; omega) _
            have hsp5 : Sts W5 (w3.heap.size + 1) W5.heap.size a P := ((HSP.out.below' B4.out).keep (by omega) fun q g1 g2 g3 => ho5 q (by omega) g3).widen (Nat.le_refl _) (by omega)
            have hto := Lib.hid (to16 W5 a c P s (hsp5.widen (Nat.zero_le _) (Nat.le_refl _)) (by omega) hcap)
            obtain ⟨c0, c1, c2, c3⟩ := st_box (s := ⟨1, ⟨#[]⟩, ⟨#[]⟩, (kk : Int)⟩) hs11
            have l7 : W4.heap.size < W5.heap.size := by omega
            have H75 := Lib.hid hb75
            have H35 := Lib.hid hb35
            have hl5 : w3.heap.size < W5.heap.size := by omega
            clear hp5 ho5 hs11 hb75 hb35 hsp5 r0 r1 r2 r3 f0 f1 f2 f3 y0 y1 y2 y3
            rw [HS1.out] at hto
            go_upto_region 14 with (go_at_call 59; refine hto.out.mono ?_; rintro e w6 ⟨g, n6, hn6', rfl, hg6, hown6, hb6⟩; have HN6 := Lib.hid hn6'; clear hn6')
            have hn6 := HN6.out
            clear HN6
            rw [← HS1.out] at hn6 hown6
            have hlen6 : (P ++ [s]).length = P.length + 1 := by simp
            have hst6 : Sts w6 W5.heap.size w6.heap.size (some ⟨g, 0, none⟩) (P ++ [s]) := ownC_sts2 hown6
            obtain ⟨P', hP'⟩ : ∃ P', P' = P ++ [s] := ⟨_, rfl⟩
            rw [← hP'] at hn6 hst6 hlen6
            subst hn6
            have hmay' : ∀ t ∈ P', mayS t = true := fun t ht => by
              rw [hP'] at ht
              rcases List.mem_append.1 ht with h | h
              · exact HSM.out t h
              · rw [List.mem_singleton] at h; rw [h]; exact hsm
            have hwk' : walkL x.v P' = some y.v := by rw [hP', walkL_app, HWK.out]; exact (walkL_one _ _).trans hst
            have hwv := walkV_some HMAY.out (by omega) hmay' hwk'
            have hb36 := Lib.hid (H35.out.trans (hb6.mono (by omega)))
            have HW := Lib.hid (show Calls Tryz.prog 56 #[x.val, .slice (some ⟨g, 0, none⟩) P'.length P'.length] w6 (WalkPost (some y.v) w6) by
              have h := pwalk_c x (some ⟨g, 0, none⟩) P'.length P' w6 (HX.out.up (below_via K3.out hb36.out)) hwx (HSH.out.below (below_via K3.out hb36.out)) (hst6.widen (Nat.zero_le _) (Nat.le_refl _)) (by omega)
              rw [hwv] at h
              exact h)
            have HM2 := Lib.hid hmay'
            have HW2 := Lib.hid hwk'
            have HB6 := Lib.hid hb6
            have H6 := Lib.hid hst6
            have HLEN := Lib.hid hlen6
            have hs6 := hb6.size
            obtain ⟨q0, q1, q2, q3⟩ := LD.out w6 hb36.out
            have m1 : w.heap.size < w6.heap.size := by omega
            clear hlen6 hP' hown6 hb6 hst6 hmay' hwk' hwv hst hsm hto c0 c1 c2 c3
            go_wp2_with (first
              | (go_at_call 56; refine HW.out.mono ?_; rintro e w7 ⟨yc, rfl, hy1, -, hyi, hb7⟩
                 have hycv := hy1 y.v rfl
                 have hs7 := hb7.size
                 obtain ⟨r0, r1, r2, r3, -, -, -, -⟩ := vbox4 (blk_up hb7 (blk_up HB6.out H75.out))
                 have m2 : w3.heap.size < w7.heap.size := by omega
                 have hb78 := (Below.refl w7.heap.size w7).alloc (Nat.le_refl _) (.cells #[.int .u8 yc.k, .string yc.t, .slice yc.la yc.l.length yc.lc, .slice yc.ka yc.ks.length yc.kc] 48)
                 have hycw : yc.w ≤ 1048576 := by show yc.v.w ≤ _; rw [hycv]; have e : y.w = y.v.w := rfl; omega
                 have HSM2 := Lib.hid (show Calls Tryz.prog 33 #[yc.val, y.val] (w7.alloc (.cells #[.int .u8 yc.k, .string yc.t, .slice yc.la yc.l.length yc.lc, .slice yc.ka yc.ks.length yc.kc] 48)) (Ret (.bool true) (w7.alloc (.cells #[.int .u8 yc.k, .string yc.t, .slice yc.la yc.l.length yc.lc, .slice yc.ka yc.ks.length yc.kc] 48))) by
                   have h := same_c yc y (w7.alloc (.cells #[.int .u8 yc.k, .string yc.t, .slice yc.la yc.l.length yc.lc, .slice yc.ka yc.ks.length yc.kc] 48)) (Rd.up (hyi.widen (Nat.zero_le _) (Nat.le_refl _)) hb78) (Rd.up (Rd.up (Rd.up hyin (below_via K3.out hb36.out)) hb7) hb78) hycw (by omega)
                   rwa [hycv, same_refl hymay] at h)
                 clear hy1 hyi hycv)
              | (go_at_call 33; refine HSM2.out.mono ?_; rintro e w8 ⟨rfl, hb8⟩))
            have hb68 := below_via hb7 (below_via hb78 hb8)
            refine ⟨⟨i + 1, y, some ⟨g, 0, none⟩, P'.length, P', by omega, by go_num, rfl, Nat.le_refl _, by rw [HLEN.out, HPL.out], ?_, HM2.out, HW2.out, hyin, hymay, by omega, blk_up hb68 (blk_up HB6.out H75.out), hb36.out.trans (hb68.mono hb36.out.size), by have := hb68.size; omega⟩, by simp [intOf]; omega⟩
            exact (H6.out.below' hb68).widen (by omega) hb68.size
        · have e8 : (z.k == 8) = true := by simp [h8]
          obtain ⟨-, hlk, hnd⟩ := shape_map (within_sh (n := 256) (v := z.v) (by rw [Val.may_eq]; exact HZM.out)) (by rw [AV.v_k]; exact h8)
          rw [AV.v_ks, AV.v_l, List.length_map] at hlk
          have hkk2 : kk < z.ks.length := by omega
          have hkey : z.ks[kk]? = some z.ks[kk] := List.getElem?_eq_getElem hkk2
          generalize z.ks[kk] = key at hkey
          obtain ⟨bk, ok, hka, -, -, gk, ck'⟩ := key_at (Rd.up (HZI.out.widen (Nat.le_refl _) (Nat.le_refl _)) HBW.out).keys hkey
          have HKA := Lib.hid hka
          have hkk2' : (kk : Int) < (z.ks.length : Int) := by omega
          obtain ⟨s, hs⟩ : ∃ s : St, s = ⟨0, key, ⟨#[]⟩, 0⟩ := ⟨_, rfl⟩
          have hst : z.v.stp s = some y.v := by
            rw [hs]
            unfold Val.stp
            rw [if_pos rfl]
            exact get_at HZM.out (by rw [AV.v_ks]; exact hkey) HYV.out
          have hsm : mayS s = true := by
            rw [hs]
            unfold mayS
            rw [if_pos rfl]
            simp
          have HS1 := Lib.hid hs
          have hsv : s.val = .agg #[.int .u8 0, .string key, .string ⟨#[]⟩, .int .i64 0] := by rw [hs]
          clear hlk hnd hkey hka
          go_wp2_with fail
          go_cut [10] (fun t10 wx => t10 = .int .i64 (kk : Int) ∧ Below wr.heap.size wr wx)
          case first =>
            go_quiet (fail)
            go_wp2_with fail
            go_meet
            exact ⟨rfl, below_drewN (Below.refl _ _) _⟩
          case rest =>
            obtain ⟨rfl, hbc⟩ := hcut
            obtain ⟨W4, hW4⟩ : ∃ W4, W4 = wc := ⟨_, rfl⟩
            subst hW4
            have hs4 := hbc.size
            have B4 := Lib.hid hbc
            have HB74 := Lib.hid (blk_up hbc HBZ.out)
            clear q0 q1 q2 q3 r0 r1 r2 r3 f0 f1 f2 f3 cz hbc
            obtain ⟨r0, r1, r2, r3, f0, f1, f2, f3⟩ := vbox4 HB74.out
            rw [HLA.out] at r2
            have y0 := (B4.out.cell (p := ⟨_, _, none⟩) gy).trans y0'
            have y1 := (B4.out.cell (p := ⟨_, _, none⟩) gy).trans y1'
            have y2 := (B4.out.cell (p := ⟨_, _, none⟩) gy).trans y2'
            have y3 := (B4.out.cell (p := ⟨_, _, none⟩) gy).trans y3'
            have l4 : w3.heap.size < W4.heap.size := by omega
            have l5 : by_ < W4.heap.size := by omega
            have ck := (B4.out.cell (p := ⟨_, _, none⟩) gk).trans ck'
            have l6 : bk < W4.heap.size := by omega
            rw [HKA.out] at r3
            clear y0' y1' y2' y3' ck'
            go_upto_region 13 with fail
            go_name_world W5 hW5
            have hp5 : W5 = (put4 W4 w3.heap.size 0 (.int .u8 y.k) (.string y.t) (.slice y.la y.l.length y.lc) (.slice y.ka y.ks.length y.kc)).alloc (.cells #[.int .u8 0, .string key, .string ⟨#[]⟩, .int .i64 0] 90) := hW5.symm
            clear hW5
            have hs5 : W5.heap.size = W4.heap.size + 1 := by rw [hp5, World.size_alloc, put4_size]
            have ho5 : ∀ q, q ≠ w3.heap.size → q < W4.heap.size → W5.heap[q]? = W4.heap[q]? := fun q hq hlt => by
              rw [hp5, heap_alloc_old _ _ _ (by rw [put4_size]; exact hlt)]
              exact put4_old hq
            have hs11 : W5.heap[W4.heap.size]? = some (.cells #[.int .u8 0, .string key, .string ⟨#[]⟩, .int .i64 0] 90 (0, 0)) := by
              rw [hp5, show W4.heap.size = (put4 W4 w3.heap.size 0 (.int .u8 y.k) (.string y.t) (.slice y.la y.l.length y.lc) (.slice y.ka y.ks.length y.kc)).heap.size from put4_size.symm]
              exact heap_alloc_new _ _
            have hb75 : W5.heap[w3.heap.size]? = some (.cells #[.int .u8 y.k, .string y.t, .slice y.la y.l.length y.lc, .slice y.ka y.ks.length y.kc] 48 (0, 0)) := by
              rw [hp5, heap_alloc_old _ _ _ (by rw [put4_size]; exact l4)]
              exact put4_box HB74.out
            have hb35 : Below w3.heap.size w3 W5 := by
              rw [hp5]
              exact (below4 (HBR.out.trans (B4.out.mono HBR.out.size)) (Nat.le_refl _)).alloc (by show _ ≤ (put4 W4 w3.heap.size 0 _ _ _ _).heap.size; rw [put4_size]; omega) _
            have hsp5 : Sts W5 (w3.heap.size + 1) W5.heap.size a P := ((HSP.out.below' B4.out).keep (by omega) fun q g1 g2 g3 => ho5 q (by omega) g3).widen (Nat.le_refl _) (by omega)
            have hto := Lib.hid (to16 W5 a c P s (hsp5.widen (Nat.zero_le _) (Nat.le_refl _)) (by omega) hcap)
            obtain ⟨c0, c1, c2, c3⟩ := st_box (s := ⟨0, key, ⟨#[]⟩, 0⟩) hs11
            have l7 : W4.heap.size < W5.heap.size := by omega
            have H75 := Lib.hid hb75
            have H35 := Lib.hid hb35
            have hl5 : w3.heap.size < W5.heap.size := by omega
            clear hp5 ho5 hs11 hb75 hb35 hsp5 r0 r1 r2 r3 f0 f1 f2 f3 y0 y1 y2 y3 ck
            rw [HS1.out] at hto
            go_upto_region 14 with (go_at_call 59; refine hto.out.mono ?_; rintro e w6 ⟨g, n6, hn6', rfl, hg6, hown6, hb6⟩; have HN6 := Lib.hid hn6'; clear hn6')
            have hn6 := HN6.out
            clear HN6
            rw [← HS1.out] at hn6 hown6
            have hlen6 : (P ++ [s]).length = P.length + 1 := by simp
            have hst6 : Sts w6 W5.heap.size w6.heap.size (some ⟨g, 0, none⟩) (P ++ [s]) := ownC_sts2 hown6
            obtain ⟨P', hP'⟩ : ∃ P', P' = P ++ [s] := ⟨_, rfl⟩
            rw [← hP'] at hn6 hst6 hlen6
            subst hn6
            have hmay' : ∀ t ∈ P', mayS t = true := fun t ht => by
              rw [hP'] at ht
              rcases List.mem_append.1 ht with h | h
              · exact HSM.out t h
              · rw [List.mem_singleton] at h; rw [h]; exact hsm
            have hwk' : walkL x.v P' = some y.v := by rw [hP', walkL_app, HWK.out]; exact (walkL_one _ _).trans hst
            have hwv := walkV_some HMAY.out (by omega) hmay' hwk'
            have hb36 := Lib.hid (H35.out.trans (hb6.mono (by omega)))
            have HW := Lib.hid (show Calls Tryz.prog 56 #[x.val, .slice (some ⟨g, 0, none⟩) P'.length P'.length] w6 (WalkPost (some y.v) w6) by
              have h := pwalk_c x (some ⟨g, 0, none⟩) P'.length P' w6 (HX.out.up (below_via K3.out hb36.out)) hwx (HSH.out.below (below_via K3.out hb36.out)) (hst6.widen (Nat.zero_le _) (Nat.le_refl _)) (by omega)
              rw [hwv] at h
              exact h)
            have HM2 := Lib.hid hmay'
            have HW2 := Lib.hid hwk'
            have HB6 := Lib.hid hb6
            have H6 := Lib.hid hst6
            have HLEN := Lib.hid hlen6
            have hs6 := hb6.size
            obtain ⟨q0, q1, q2, q3⟩ := LD.out w6 hb36.out
            have m1 : w.heap.size < w6.heap.size := by omega
            clear hlen6 hP' hown6 hb6 hst6 hmay' hwk' hwv hst hsm hto c0 c1 c2 c3
            go_wp2_with (first
              | (go_at_call 56; refine HW.out.mono ?_; rintro e w7 ⟨yc, rfl, hy1, -, hyi, hb7⟩
                 have hycv := hy1 y.v rfl
                 have hs7 := hb7.size
                 obtain ⟨r0, r1, r2, r3, -, -, -, -⟩ := vbox4 (blk_up hb7 (blk_up HB6.out H75.out))
                 have m2 : w3.heap.size < w7.heap.size := by omega
                 have hb78 := (Below.refl w7.heap.size w7).alloc (Nat.le_refl _) (.cells #[.int .u8 yc.k, .string yc.t, .slice yc.la yc.l.length yc.lc, .slice yc.ka yc.ks.length yc.kc] 48)
                 have hycw : yc.w ≤ 1048576 := by show yc.v.w ≤ _; rw [hycv]; have e : y.w = y.v.w := rfl; omega
                 have HSM2 := Lib.hid (show Calls Tryz.prog 33 #[yc.val, y.val] (w7.alloc (.cells #[.int .u8 yc.k, .string yc.t, .slice yc.la yc.l.length yc.lc, .slice yc.ka yc.ks.length yc.kc] 48)) (Ret (.bool true) (w7.alloc (.cells #[.int .u8 yc.k, .string yc.t, .slice yc.la yc.l.length yc.lc, .slice yc.ka yc.ks.length yc.kc] 48))) by
                   have h := same_c yc y (w7.alloc (.cells #[.int .u8 yc.k, .string yc.t, .slice yc.la yc.l.length yc.lc, .slice yc.ka yc.ks.length yc.kc] 48)) (Rd.up (hyi.widen (Nat.zero_le _) (Nat.le_refl _)) hb78) (Rd.up (Rd.up (Rd.up hyin (below_via K3.out hb36.out)) hb7) hb78) hycw (by omega)
                   rwa [hycv, same_refl hymay] at h)
                 clear hy1 hyi hycv)
              | (go_at_call 33; refine HSM2.out.mono ?_; rintro e w8 ⟨rfl, hb8⟩))
            have hb68 := below_via hb7 (below_via hb78 hb8)
            refine ⟨⟨i + 1, y, some ⟨g, 0, none⟩, P'.length, P', by omega, by go_num, rfl, Nat.le_refl _, by rw [HLEN.out, HPL.out], ?_, HM2.out, HW2.out, hyin, hymay, by omega, blk_up hb68 (blk_up HB6.out H75.out), hb36.out.trans (hb68.mono hb36.out.size), by have := hb68.size; omega⟩, by simp [intOf]; omega⟩
            exact (H6.out.below' hb68).widen (by omega) hb68.size
      · by_cases hlt : i < zs.length
        · have hz0 : ¬ 0 < z.l.length := fun h => hgo ⟨hlt, h⟩
          have hlt' : (i : Int) < (zs.length : Int) := by omega
          have hd2 : decide ((z.l.length : Int) > 0) = false := by rw [decide_eq_false_iff_not]; omega
          have hd3 : ¬ (0 : Int) < (z.l.length : Int) := by omega
          clear hz0 hgo
          go_upto_region 17 with fail
          have hwo := walk_on (on := on) HMAY.out HSM.out HWK.out
          obtain ⟨v1, W4, hrun1, hown1, hg1, -⟩ := app_st (base := wr.heap.size) (v := .slice none 0 0) (xs := []) (l := P) (c := c) (World.ownsRow_nil _ _ _ _) HSP.out (by simp; omega) (Nat.le_refl _)
          rw [List.nil_append] at hown1
          obtain ⟨a1, c1, rfl⟩ : ∃ a1 c1, v1 = .slice a1 P.length c1 := by
            rcases hown1.2 with ⟨e, h0⟩ | ⟨g, cap, cur, e, _⟩
            · exact ⟨none, 0, by rw [e, h0]⟩
            · exact ⟨_, _, e⟩
          have hbr4 : Below wr.heap.size wr W4 := (Below.refl _ _).grown hg1 (Nat.le_refl _) (fun g hg => by simp [Value.ownBlock] at hg)
          obtain ⟨v2, W5, hrun2, hown2, hg2, -⟩ := app_st (l := on) (c := cB) hown1 (HON.out.up (below_via HBW.out hbr4)) (by omega) hbr4.size
          obtain ⟨Q, hQ⟩ : ∃ Q, Q = P ++ on := ⟨_, rfl⟩
          rw [← hQ] at hown2 hwo
          have hQl : Q.length ≤ 1048576 := by rw [hQ, List.length_append]; omega
          obtain ⟨a2, c2, rfl⟩ : ∃ a2 c2, v2 = .slice a2 Q.length c2 := by
            rcases hown2.2 with ⟨e, h0⟩ | ⟨g, cap, cur, e, _⟩
            · exact ⟨none, 0, by rw [e, h0]⟩
            · exact ⟨_, _, e⟩
          have hbr5 : Below wr.heap.size wr W5 := hbr4.grown hg2 hbr4.size (fun q hq => (World.ownsRow.lt hown1 q hq).1)
          have hsq := (own_sl St.enc_len hown2).widen (Nat.zero_le _) (Nat.le_refl _)
          have hb5 := below_via HBW.out hbr5
          have HW1 := Lib.hid (pwalk_c z B cB on W5 (Rd.up (w := w) HZI.out hb5) (by omega) (HSH.out.below hb5) (HON.out.up hb5) HFL)
          obtain ⟨q0, q1, q2, q3⟩ := LD.out W5 (HBR.out.trans (hbr5.mono (by omega)))
          obtain ⟨r0, r1, r2, r3, -, -, -, -⟩ := vbox4 (blk_up hbr5 HBZ.out)
          have HB5 := Lib.hid hb5
          have HBR5 := Lib.hid hbr5
          have HSQ := Lib.hid hsq
          have m1 : w.heap.size < W5.heap.size := by have := hbr5.size; omega
          have m2 : w3.heap.size < W5.heap.size := by have := hbr5.size; omega
          have HQ := Lib.hid hQ
          clear hown1 hown2 hg1 hg2 hbr4 hbr5 hsq hb5 hQ
          rcases hwo with ⟨ho1, ho2⟩ | ⟨hlen, ho2⟩ | ⟨u, hUM, ho1, ho2⟩
          · rw [ho1] at HW1
            go_wp2_with (first
              | (at_builtin; first
                  | (refine wl_append (s := .const (.slice none 0 0)) (x := .tmp 91) rfl rfl (hrun1 _) ?_; clear hrun1)
                  | (refine wl_append (s := .tmp 92) (x := .tmp 93) rfl rfl (hrun2 _) ?_; clear hrun2))
              | (go_at_call 56; first
                  | ((with_reducible refine HW1.out.mono ?_); rintro e w6 ⟨ya, rfl, ha1, -, hai, hb6⟩
                     have hb56 := hb6.alloc hb6.size (.cells #[.int .u8 ya.k, .string ya.t, .slice ya.la ya.l.length ya.lc, .slice ya.ka ya.ks.length ya.kc] 48)
                     have HW2 := Lib.hid (pwalk_c x a2 c2 Q (w6.alloc (.cells #[.int .u8 ya.k, .string ya.t, .slice ya.la ya.l.length ya.lc, .slice ya.ka ya.ks.length ya.kc] 48)) (HX.out.up (below_via HB5.out hb56)) hwx (HSH.out.below (below_via HB5.out hb56)) (HSQ.out.up hb56) (by omega))
                     rw [ho2] at HW2
                     obtain ⟨q0, q1, q2, q3⟩ := LD.out w6 (HBR.out.trans ((HBR5.out.mono (by omega)).trans (hb6.mono (by omega))))
                     have m3 : w.heap.size < w6.heap.size := by have := hb6.size; omega
                     have hya := heap_alloc_new w6 (.cells #[.int .u8 ya.k, .string ya.t, .slice ya.la ya.l.length ya.lc, .slice ya.ka ya.ks.length ya.kc] 48))
                  | ((with_reducible refine HW2.out.mono ?_); rintro e w7 ⟨yb, rfl, hb1, -, hbi, hb7⟩
                     have hs7 := hb7.size
                     rw [World.size_alloc] at hs7
                     obtain ⟨s0, s1, s2, s3, -, -, -, -⟩ := vbox4 (blk_up hb7 hya)
                     have m4 : w6.heap.size < w7.heap.size := by omega
                     have hb78 := (Below.refl w7.heap.size w7).alloc (Nat.le_refl _) (.cells #[.int .u8 yb.k, .string yb.t, .slice yb.la yb.l.length yb.lc, .slice yb.ka yb.ks.length yb.kc] 48)
                     have hb58 := below_via hb56 (below_via hb7 hb78)
                     clear ha1 hb1))
              | (go_at_call 54; refine (HL _ (below_via HB5.out hb58)).out.mono ?_; rintro e w9 ⟨rfl, hb9⟩))
            go_ret
            exact ⟨rfl, below_via (below_via HB5.out hb58) hb9⟩
          · have e5 : decide ((Q.length : Int) > 512) = true := by rw [decide_eq_true_iff]; omega
            have e5' : (512 : Int) < (Q.length : Int) := by omega
            cases ho1 : walkV z.v on with
            | none =>
              rw [ho1] at HW1
              go_wp2_with (first
                | (at_builtin; first
                    | (refine wl_append (s := .const (.slice none 0 0)) (x := .tmp 91) rfl rfl (hrun1 _) ?_; clear hrun1)
                    | (refine wl_append (s := .tmp 92) (x := .tmp 93) rfl rfl (hrun2 _) ?_; clear hrun2))
                | (go_at_call 56; first
                    | ((with_reducible refine HW1.out.mono ?_); rintro e w6 ⟨ya, rfl, ha1, -, hai, hb6⟩
                       have hb56 := hb6.alloc hb6.size (.cells #[.int .u8 ya.k, .string ya.t, .slice ya.la ya.l.length ya.lc, .slice ya.ka ya.ks.length ya.kc] 48)
                       have HW2 := Lib.hid (pwalk_c x a2 c2 Q (w6.alloc (.cells #[.int .u8 ya.k, .string ya.t, .slice ya.la ya.l.length ya.lc, .slice ya.ka ya.ks.length ya.kc] 48)) (HX.out.up (below_via HB5.out hb56)) hwx (HSH.out.below (below_via HB5.out hb56)) (HSQ.out.up hb56) (by omega))
                       rw [ho2] at HW2
                       obtain ⟨q0, q1, q2, q3⟩ := LD.out w6 (HBR.out.trans ((HBR5.out.mono (by omega)).trans (hb6.mono (by omega))))
                       have m3 : w.heap.size < w6.heap.size := by have := hb6.size; omega
                       have hya := heap_alloc_new w6 (.cells #[.int .u8 ya.k, .string ya.t, .slice ya.la ya.l.length ya.lc, .slice ya.ka ya.ks.length ya.kc] 48))
                    | ((with_reducible refine HW2.out.mono ?_); rintro e w7 ⟨yb, rfl, hb1, -, hbi, hb7⟩
                       have hs7 := hb7.size
                       rw [World.size_alloc] at hs7
                       obtain ⟨s0, s1, s2, s3, -, -, -, -⟩ := vbox4 (blk_up hb7 hya)
                       have m4 : w6.heap.size < w7.heap.size := by omega
                       have hb78 := (Below.refl w7.heap.size w7).alloc (Nat.le_refl _) (.cells #[.int .u8 yb.k, .string yb.t, .slice yb.la yb.l.length yb.lc, .slice yb.ka yb.ks.length yb.kc] 48)
                       have hb58 := below_via hb56 (below_via hb7 hb78)
                       clear ha1 hb1))
                | (go_at_call 54; refine (HL _ (below_via HB5.out hb58)).out.mono ?_; rintro e w9 ⟨rfl, hb9⟩))
              go_ret
              exact ⟨rfl, below_via (below_via HB5.out hb58) hb9⟩
            | some u =>
              rw [ho1] at HW1
              go_wp2_with (first
                | (at_builtin; first
                    | (refine wl_append (s := .const (.slice none 0 0)) (x := .tmp 91) rfl rfl (hrun1 _) ?_; clear hrun1)
                    | (refine wl_append (s := .tmp 92) (x := .tmp 93) rfl rfl (hrun2 _) ?_; clear hrun2))
                | (go_at_call 56; first
                    | ((with_reducible refine HW1.out.mono ?_); rintro e w6 ⟨ya, rfl, ha1, -, hai, hb6⟩
                       have hb56 := hb6.alloc hb6.size (.cells #[.int .u8 ya.k, .string ya.t, .slice ya.la ya.l.length ya.lc, .slice ya.ka ya.ks.length ya.kc] 48)
                       have HW2 := Lib.hid (pwalk_c x a2 c2 Q (w6.alloc (.cells #[.int .u8 ya.k, .string ya.t, .slice ya.la ya.l.length ya.lc, .slice ya.ka ya.ks.length ya.kc] 48)) (HX.out.up (below_via HB5.out hb56)) hwx (HSH.out.below (below_via HB5.out hb56)) (HSQ.out.up hb56) (by omega))
                       rw [ho2] at HW2
                       obtain ⟨q0, q1, q2, q3⟩ := LD.out w6 (HBR.out.trans ((HBR5.out.mono (by omega)).trans (hb6.mono (by omega))))
                       have m3 : w.heap.size < w6.heap.size := by have := hb6.size; omega
                       have hya := heap_alloc_new w6 (.cells #[.int .u8 ya.k, .string ya.t, .slice ya.la ya.l.length ya.lc, .slice ya.ka ya.ks.length ya.kc] 48))
                    | ((with_reducible refine HW2.out.mono ?_); rintro e w7 ⟨yb, rfl, hb1, -, hbi, hb7⟩
                       have hs7 := hb7.size
                       rw [World.size_alloc] at hs7
                       obtain ⟨s0, s1, s2, s3, -, -, -, -⟩ := vbox4 (blk_up hb7 hya)
                       have m4 : w6.heap.size < w7.heap.size := by omega
                       have hb78 := (Below.refl w7.heap.size w7).alloc (Nat.le_refl _) (.cells #[.int .u8 yb.k, .string yb.t, .slice yb.la yb.l.length yb.lc, .slice yb.ka yb.ks.length yb.kc] 48)
                       have hb58 := below_via hb56 (below_via hb7 hb78)
                       clear ha1 hb1))
                | (go_at_call 54; refine (HL _ (below_via HB5.out hb58)).out.mono ?_; rintro e w9 ⟨rfl, hb9⟩))
              go_ret
              exact ⟨rfl, below_via (below_via HB5.out hb58) hb9⟩
          · have hUW : u.w ≤ 1048576 := by
              have h := walkV_w ho1
              have e : z.w = z.v.w := rfl
              omega
            rw [ho1] at HW1
            go_wp2_with (first
              | (at_builtin; first
                  | (refine wl_append (s := .const (.slice none 0 0)) (x := .tmp 91) rfl rfl (hrun1 _) ?_; clear hrun1)
                  | (refine wl_append (s := .tmp 92) (x := .tmp 93) rfl rfl (hrun2 _) ?_; clear hrun2))
              | (go_at_call 56; first
                  | ((with_reducible refine HW1.out.mono ?_); rintro e w6 ⟨ya, rfl, ha1, -, hai, hb6⟩
                     have hb56 := hb6.alloc hb6.size (.cells #[.int .u8 ya.k, .string ya.t, .slice ya.la ya.l.length ya.lc, .slice ya.ka ya.ks.length ya.kc] 48)
                     have HW2 := Lib.hid (pwalk_c x a2 c2 Q (w6.alloc (.cells #[.int .u8 ya.k, .string ya.t, .slice ya.la ya.l.length ya.lc, .slice ya.ka ya.ks.length ya.kc] 48)) (HX.out.up (below_via HB5.out hb56)) hwx (HSH.out.below (below_via HB5.out hb56)) (HSQ.out.up hb56) (by omega))
                     rw [ho2] at HW2
                     obtain ⟨q0, q1, q2, q3⟩ := LD.out w6 (HBR.out.trans ((HBR5.out.mono (by omega)).trans (hb6.mono (by omega))))
                     have m3 : w.heap.size < w6.heap.size := by have := hb6.size; omega
                     have hya := heap_alloc_new w6 (.cells #[.int .u8 ya.k, .string ya.t, .slice ya.la ya.l.length ya.lc, .slice ya.ka ya.ks.length ya.kc] 48))
                  | ((with_reducible refine HW2.out.mono ?_); rintro e w7 ⟨yb, rfl, hb1, -, hbi, hb7⟩
                     have hs7 := hb7.size
                     rw [World.size_alloc] at hs7
                     obtain ⟨s0, s1, s2, s3, -, -, -, -⟩ := vbox4 (blk_up hb7 hya)
                     have m4 : w6.heap.size < w7.heap.size := by omega
                     have hb78 := (Below.refl w7.heap.size w7).alloc (Nat.le_refl _) (.cells #[.int .u8 yb.k, .string yb.t, .slice yb.la yb.l.length yb.lc, .slice yb.ka yb.ks.length yb.kc] 48)
                     have hb58 := below_via hb56 (below_via hb7 hb78)
                     have e1 := ha1 u rfl
                     have e2 := hb1 u rfl
                     have huw : u.w ≤ 1048576 := hUW
                     have h61 : Below w6.heap.size w6 (w6.alloc (.cells #[.int .u8 ya.k, .string ya.t, .slice ya.la ya.l.length ya.lc, .slice ya.ka ya.ks.length ya.kc] 48)) := (Below.refl _ _).alloc (Nat.le_refl _) _
                     have HSM2 := Lib.hid (show Calls Tryz.prog 33 #[ya.val, yb.val] (w7.alloc (.cells #[.int .u8 yb.k, .string yb.t, .slice yb.la yb.l.length yb.lc, .slice yb.ka yb.ks.length yb.kc] 48)) (Ret (.bool true) (w7.alloc (.cells #[.int .u8 yb.k, .string yb.t, .slice yb.la yb.l.length yb.lc, .slice yb.ka yb.ks.length yb.kc] 48))) by
                       have h := same_c ya yb (w7.alloc (.cells #[.int .u8 yb.k, .string yb.t, .slice yb.la yb.l.length yb.lc, .slice yb.ka yb.ks.length yb.kc] 48)) (Rd.up (Rd.up (Rd.up (hai.widen (Nat.zero_le _) (Nat.le_refl _)) h61) hb7) hb78) (Rd.up (hbi.widen (Nat.zero_le _) (Nat.le_refl _)) hb78) (by show ya.v.w ≤ _; rw [e1]; exact huw) (by show yb.v.w ≤ _; rw [e2]; exact huw)
                       rwa [e1, e2, same_refl hUM] at h)
                     clear ha1 hb1 e1 e2))
              | (go_at_call 33; refine HSM2.out.mono ?_; rintro e w8 ⟨rfl, hb8⟩)
              | (go_at_call 54; refine (HL _ (below_via HB5.out (below_via hb58 hb8))).out.mono ?_; rintro e w9 ⟨rfl, hb9⟩))
            go_ret
            exact ⟨rfl, below_via (below_via HB5.out (below_via hb58 hb8)) hb9⟩
        · have hge : ¬ (i : Int) < (zs.length : Int) := by omega
          clear hgo
          go_upto_region 17 with fail
          have hwo := walk_on (on := on) HMAY.out HSM.out HWK.out
          obtain ⟨v1, W4, hrun1, hown1, hg1, -⟩ := app_st (base := wr.heap.size) (v := .slice none 0 0) (xs := []) (l := P) (c := c) (World.ownsRow_nil _ _ _ _) HSP.out (by simp; omega) (Nat.le_refl _)
          rw [List.nil_append] at hown1
          obtain ⟨a1, c1, rfl⟩ : ∃ a1 c1, v1 = .slice a1 P.length c1 := by
            rcases hown1.2 with ⟨e, h0⟩ | ⟨g, cap, cur, e, _⟩
            · exact ⟨none, 0, by rw [e, h0]⟩
            · exact ⟨_, _, e⟩
          have hbr4 : Below wr.heap.size wr W4 := (Below.refl _ _).grown hg1 (Nat.le_refl _) (fun g hg => by simp [Value.ownBlock] at hg)
          obtain ⟨v2, W5, hrun2, hown2, hg2, -⟩ := app_st (l := on) (c := cB) hown1 (HON.out.up (below_via HBW.out hbr4)) (by omega) hbr4.size
          obtain ⟨Q, hQ⟩ : ∃ Q, Q = P ++ on := ⟨_, rfl⟩
          rw [← hQ] at hown2 hwo
          have hQl : Q.length ≤ 1048576 := by rw [hQ, List.length_append]; omega
          obtain ⟨a2, c2, rfl⟩ : ∃ a2 c2, v2 = .slice a2 Q.length c2 := by
            rcases hown2.2 with ⟨e, h0⟩ | ⟨g, cap, cur, e, _⟩
            · exact ⟨none, 0, by rw [e, h0]⟩
            · exact ⟨_, _, e⟩
          have hbr5 : Below wr.heap.size wr W5 := hbr4.grown hg2 hbr4.size (fun q hq => (World.ownsRow.lt hown1 q hq).1)
          have hsq := (own_sl St.enc_len hown2).widen (Nat.zero_le _) (Nat.le_refl _)
          have hb5 := below_via HBW.out hbr5
          have HW1 := Lib.hid (pwalk_c z B cB on W5 (Rd.up (w := w) HZI.out hb5) (by omega) (HSH.out.below hb5) (HON.out.up hb5) HFL)
          obtain ⟨q0, q1, q2, q3⟩ := LD.out W5 (HBR.out.trans (hbr5.mono (by omega)))
          obtain ⟨r0, r1, r2, r3, -, -, -, -⟩ := vbox4 (blk_up hbr5 HBZ.out)
          have HB5 := Lib.hid hb5
          have HBR5 := Lib.hid hbr5
          have HSQ := Lib.hid hsq
          have m1 : w.heap.size < W5.heap.size := by have := hbr5.size; omega
          have m2 : w3.heap.size < W5.heap.size := by have := hbr5.size; omega
          have HQ := Lib.hid hQ
          clear hown1 hown2 hg1 hg2 hbr4 hbr5 hsq hb5 hQ
          rcases hwo with ⟨ho1, ho2⟩ | ⟨hlen, ho2⟩ | ⟨u, hUM, ho1, ho2⟩
          · rw [ho1] at HW1
            go_wp2_with (first
              | (at_builtin; first
                  | (refine wl_append (s := .const (.slice none 0 0)) (x := .tmp 91) rfl rfl (hrun1 _) ?_; clear hrun1)
                  | (refine wl_append (s := .tmp 92) (x := .tmp 93) rfl rfl (hrun2 _) ?_; clear hrun2))
              | (go_at_call 56; first
                  | ((with_reducible refine HW1.out.mono ?_); rintro e w6 ⟨ya, rfl, ha1, -, hai, hb6⟩
                     have hb56 := hb6.alloc hb6.size (.cells #[.int .u8 ya.k, .string ya.t, .slice ya.la ya.l.length ya.lc, .slice ya.ka ya.ks.length ya.kc] 48)
                     have HW2 := Lib.hid (pwalk_c x a2 c2 Q (w6.alloc (.cells #[.int .u8 ya.k, .string ya.t, .slice ya.la ya.l.length ya.lc, .slice ya.ka ya.ks.length ya.kc] 48)) (HX.out.up (below_via HB5.out hb56)) hwx (HSH.out.below (below_via HB5.out hb56)) (HSQ.out.up hb56) (by omega))
                     rw [ho2] at HW2
                     obtain ⟨q0, q1, q2, q3⟩ := LD.out w6 (HBR.out.trans ((HBR5.out.mono (by omega)).trans (hb6.mono (by omega))))
                     have m3 : w.heap.size < w6.heap.size := by have := hb6.size; omega
                     have hya := heap_alloc_new w6 (.cells #[.int .u8 ya.k, .string ya.t, .slice ya.la ya.l.length ya.lc, .slice ya.ka ya.ks.length ya.kc] 48))
                  | ((with_reducible refine HW2.out.mono ?_); rintro e w7 ⟨yb, rfl, hb1, -, hbi, hb7⟩
                     have hs7 := hb7.size
                     rw [World.size_alloc] at hs7
                     obtain ⟨s0, s1, s2, s3, -, -, -, -⟩ := vbox4 (blk_up hb7 hya)
                     have m4 : w6.heap.size < w7.heap.size := by omega
                     have hb78 := (Below.refl w7.heap.size w7).alloc (Nat.le_refl _) (.cells #[.int .u8 yb.k, .string yb.t, .slice yb.la yb.l.length yb.lc, .slice yb.ka yb.ks.length yb.kc] 48)
                     have hb58 := below_via hb56 (below_via hb7 hb78)
                     clear ha1 hb1))
              | (go_at_call 54; refine (HL _ (below_via HB5.out hb58)).out.mono ?_; rintro e w9 ⟨rfl, hb9⟩))
            go_ret
            exact ⟨rfl, below_via (below_via HB5.out hb58) hb9⟩
          · have e5 : decide ((Q.length : Int) > 512) = true := by rw [decide_eq_true_iff]; omega
            have e5' : (512 : Int) < (Q.length : Int) := by omega
            cases ho1 : walkV z.v on with
            | none =>
              rw [ho1] at HW1
              go_wp2_with (first
                | (at_builtin; first
                    | (refine wl_append (s := .const (.slice none 0 0)) (x := .tmp 91) rfl rfl (hrun1 _) ?_; clear hrun1)
                    | (refine wl_append (s := .tmp 92) (x := .tmp 93) rfl rfl (hrun2 _) ?_; clear hrun2))
                | (go_at_call 56; first
                    | ((with_reducible refine HW1.out.mono ?_); rintro e w6 ⟨ya, rfl, ha1, -, hai, hb6⟩
                       have hb56 := hb6.alloc hb6.size (.cells #[.int .u8 ya.k, .string ya.t, .slice ya.la ya.l.length ya.lc, .slice ya.ka ya.ks.length ya.kc] 48)
                       have HW2 := Lib.hid (pwalk_c x a2 c2 Q (w6.alloc (.cells #[.int .u8 ya.k, .string ya.t, .slice ya.la ya.l.length ya.lc, .slice ya.ka ya.ks.length ya.kc] 48)) (HX.out.up (below_via HB5.out hb56)) hwx (HSH.out.below (below_via HB5.out hb56)) (HSQ.out.up hb56) (by omega))
                       rw [ho2] at HW2
                       obtain ⟨q0, q1, q2, q3⟩ := LD.out w6 (HBR.out.trans ((HBR5.out.mono (by omega)).trans (hb6.mono (by omega))))
                       have m3 : w.heap.size < w6.heap.size := by have := hb6.size; omega
                       have hya := heap_alloc_new w6 (.cells #[.int .u8 ya.k, .string ya.t, .slice ya.la ya.l.length ya.lc, .slice ya.ka ya.ks.length ya.kc] 48))
                    | ((with_reducible refine HW2.out.mono ?_); rintro e w7 ⟨yb, rfl, hb1, -, hbi, hb7⟩
                       have hs7 := hb7.size
                       rw [World.size_alloc] at hs7
                       obtain ⟨s0, s1, s2, s3, -, -, -, -⟩ := vbox4 (blk_up hb7 hya)
                       have m4 : w6.heap.size < w7.heap.size := by omega
                       have hb78 := (Below.refl w7.heap.size w7).alloc (Nat.le_refl _) (.cells #[.int .u8 yb.k, .string yb.t, .slice yb.la yb.l.length yb.lc, .slice yb.ka yb.ks.length yb.kc] 48)
                       have hb58 := below_via hb56 (below_via hb7 hb78)
                       clear ha1 hb1))
                | (go_at_call 54; refine (HL _ (below_via HB5.out hb58)).out.mono ?_; rintro e w9 ⟨rfl, hb9⟩))
              go_ret
              exact ⟨rfl, below_via (below_via HB5.out hb58) hb9⟩
            | some u =>
              rw [ho1] at HW1
              go_wp2_with (first
                | (at_builtin; first
                    | (refine wl_append (s := .const (.slice none 0 0)) (x := .tmp 91) rfl rfl (hrun1 _) ?_; clear hrun1)
                    | (refine wl_append (s := .tmp 92) (x := .tmp 93) rfl rfl (hrun2 _) ?_; clear hrun2))
                | (go_at_call 56; first
                    | ((with_reducible refine HW1.out.mono ?_); rintro e w6 ⟨ya, rfl, ha1, -, hai, hb6⟩
                       have hb56 := hb6.alloc hb6.size (.cells #[.int .u8 ya.k, .string ya.t, .slice ya.la ya.l.length ya.lc, .slice ya.ka ya.ks.length ya.kc] 48)
                       have HW2 := Lib.hid (pwalk_c x a2 c2 Q (w6.alloc (.cells #[.int .u8 ya.k, .string ya.t, .slice ya.la ya.l.length ya.lc, .slice ya.ka ya.ks.length ya.kc] 48)) (HX.out.up (below_via HB5.out hb56)) hwx (HSH.out.below (below_via HB5.out hb56)) (HSQ.out.up hb56) (by omega))
                       rw [ho2] at HW2
                       obtain ⟨q0, q1, q2, q3⟩ := LD.out w6 (HBR.out.trans ((HBR5.out.mono (by omega)).trans (hb6.mono (by omega))))
                       have m3 : w.heap.size < w6.heap.size := by have := hb6.size; omega
                       have hya := heap_alloc_new w6 (.cells #[.int .u8 ya.k, .string ya.t, .slice ya.la ya.l.length ya.lc, .slice ya.ka ya.ks.length ya.kc] 48))
                    | ((with_reducible refine HW2.out.mono ?_); rintro e w7 ⟨yb, rfl, hb1, -, hbi, hb7⟩
                       have hs7 := hb7.size
                       rw [World.size_alloc] at hs7
                       obtain ⟨s0, s1, s2, s3, -, -, -, -⟩ := vbox4 (blk_up hb7 hya)
                       have m4 : w6.heap.size < w7.heap.size := by omega
                       have hb78 := (Below.refl w7.heap.size w7).alloc (Nat.le_refl _) (.cells #[.int .u8 yb.k, .string yb.t, .slice yb.la yb.l.length yb.lc, .slice yb.ka yb.ks.length yb.kc] 48)
                       have hb58 := below_via hb56 (below_via hb7 hb78)
                       clear ha1 hb1))
                | (go_at_call 54; refine (HL _ (below_via HB5.out hb58)).out.mono ?_; rintro e w9 ⟨rfl, hb9⟩))
              go_ret
              exact ⟨rfl, below_via (below_via HB5.out hb58) hb9⟩
          · have hUW : u.w ≤ 1048576 := by
              have h := walkV_w ho1
              have e : z.w = z.v.w := rfl
              omega
            rw [ho1] at HW1
            go_wp2_with (first
              | (at_builtin; first
                  | (refine wl_append (s := .const (.slice none 0 0)) (x := .tmp 91) rfl rfl (hrun1 _) ?_; clear hrun1)
                  | (refine wl_append (s := .tmp 92) (x := .tmp 93) rfl rfl (hrun2 _) ?_; clear hrun2))
              | (go_at_call 56; first
                  | ((with_reducible refine HW1.out.mono ?_); rintro e w6 ⟨ya, rfl, ha1, -, hai, hb6⟩
                     have hb56 := hb6.alloc hb6.size (.cells #[.int .u8 ya.k, .string ya.t, .slice ya.la ya.l.length ya.lc, .slice ya.ka ya.ks.length ya.kc] 48)
                     have HW2 := Lib.hid (pwalk_c x a2 c2 Q (w6.alloc (.cells #[.int .u8 ya.k, .string ya.t, .slice ya.la ya.l.length ya.lc, .slice ya.ka ya.ks.length ya.kc] 48)) (HX.out.up (below_via HB5.out hb56)) hwx (HSH.out.below (below_via HB5.out hb56)) (HSQ.out.up hb56) (by omega))
                     rw [ho2] at HW2
                     obtain ⟨q0, q1, q2, q3⟩ := LD.out w6 (HBR.out.trans ((HBR5.out.mono (by omega)).trans (hb6.mono (by omega))))
                     have m3 : w.heap.size < w6.heap.size := by have := hb6.size; omega
                     have hya := heap_alloc_new w6 (.cells #[.int .u8 ya.k, .string ya.t, .slice ya.la ya.l.length ya.lc, .slice ya.ka ya.ks.length ya.kc] 48))
                  | ((with_reducible refine HW2.out.mono ?_); rintro e w7 ⟨yb, rfl, hb1, -, hbi, hb7⟩
                     have hs7 := hb7.size
                     rw [World.size_alloc] at hs7
                     obtain ⟨s0, s1, s2, s3, -, -, -, -⟩ := vbox4 (blk_up hb7 hya)
                     have m4 : w6.heap.size < w7.heap.size := by omega
                     have hb78 := (Below.refl w7.heap.size w7).alloc (Nat.le_refl _) (.cells #[.int .u8 yb.k, .string yb.t, .slice yb.la yb.l.length yb.lc, .slice yb.ka yb.ks.length yb.kc] 48)
                     have hb58 := below_via hb56 (below_via hb7 hb78)
                     have e1 := ha1 u rfl
                     have e2 := hb1 u rfl
                     have huw : u.w ≤ 1048576 := hUW
                     have h61 : Below w6.heap.size w6 (w6.alloc (.cells #[.int .u8 ya.k, .string ya.t, .slice ya.la ya.l.length ya.lc, .slice ya.ka ya.ks.length ya.kc] 48)) := (Below.refl _ _).alloc (Nat.le_refl _) _
                     have HSM2 := Lib.hid (show Calls Tryz.prog 33 #[ya.val, yb.val] (w7.alloc (.cells #[.int .u8 yb.k, .string yb.t, .slice yb.la yb.l.length yb.lc, .slice yb.ka yb.ks.length yb.kc] 48)) (Ret (.bool true) (w7.alloc (.cells #[.int .u8 yb.k, .string yb.t, .slice yb.la yb.l.length yb.lc, .slice yb.ka yb.ks.length yb.kc] 48))) by
                       have h := same_c ya yb (w7.alloc (.cells #[.int .u8 yb.k, .string yb.t, .slice yb.la yb.l.length yb.lc, .slice yb.ka yb.ks.length yb.kc] 48)) (Rd.up (Rd.up (Rd.up (hai.widen (Nat.zero_le _) (Nat.le_refl _)) h61) hb7) hb78) (Rd.up (hbi.widen (Nat.zero_le _) (Nat.le_refl _)) hb78) (by show ya.v.w ≤ _; rw [e1]; exact huw) (by show yb.v.w ≤ _; rw [e2]; exact huw)
                       rwa [e1, e2, same_refl hUM] at h)
                     clear ha1 hb1 e1 e2))
              | (go_at_call 33; refine HSM2.out.mono ?_; rintro e w8 ⟨rfl, hb8⟩)
              | (go_at_call 54; refine (HL _ (below_via HB5.out (below_via hb58 hb8))).out.mono ?_; rintro e w9 ⟨rfl, hb9⟩))
            go_ret
            exact ⟨rfl, below_via (below_via HB5.out (below_via hb58 hb8)) hb9⟩
end Go.Proofs.YtcpdogjcofkpcaaGreatDoor
