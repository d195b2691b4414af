/-
  EditsApart's walk. Conditions: the three values lie in memory, their weights are bounded. (Printed by gen_ej.py.)
-/
import Derived.Test.YtmhkacafilpliaaEJ
namespace Go.Proofs.Ytmhkacafilpliaa
open Go.RowKit Go.Sort Go.Shelf Go.BigFrame

def at3 (x y z : AV) (i : Nat) : AV := if i = 0 then x else if i = 1 then y else z
theorem at3_cells {W : World} {g : Nat} {x y z : AV} {t : TypeId} (h : W.heap[g]? = some (.cells #[.int .u8 x.k, .string x.t, .slice x.la x.l.length x.lc, .slice x.ka x.ks.length x.kc, .int .u8 y.k, .string y.t, .slice y.la y.l.length y.lc, .slice y.ka y.ks.length y.kc, .int .u8 z.k, .string z.t, .slice z.la z.l.length z.lc, .slice z.ka z.ks.length z.kc] t (0, 0))) {i : Nat} (hi : i < 3) :
    W.cell? ⟨g, i * 4, none⟩ = some (.int .u8 (at3 x y z i).k) ∧ W.cell? ⟨g, i * 4 + 1, none⟩ = some (.string (at3 x y z i).t) ∧ W.cell? ⟨g, i * 4 + 2, none⟩ = some (.slice (at3 x y z i).la (at3 x y z i).l.length (at3 x y z i).lc) ∧ W.cell? ⟨g, i * 4 + 3, none⟩ = some (.slice (at3 x y z i).ka (at3 x y z i).ks.length (at3 x y z i).kc) := by
  match i, hi with
  | 0, _ => refine ⟨?_, ?_, ?_, ?_⟩ <;> simp [World.cell?, h, at3]
  | 1, _ => refine ⟨?_, ?_, ?_, ?_⟩ <;> simp [World.cell?, h, at3]
  | 2, _ => refine ⟨?_, ?_, ?_, ?_⟩ <;> simp [World.cell?, h, at3]
theorem at3_all {x y z : AV} {P : AV → Prop} (hx : P x) (hy : P y) (hz : P z) (i : Nat) : P (at3 x y z i) := by
  unfold at3
  split
  · exact hx
  · split
    · exact hy
    · exact hz
theorem turned_wV (by_ : Nat) : ∀ v : Val, (v.turned by_).w = v.w := Val.ind fun v ih => by
  have h1 := ((turned_l by_ v).map Val.w).sum_nat
  have h2 := ((turned_ks by_ v).map (·.size)).sum_nat
  have h3 := (turned_ks by_ v).length_eq
  have h4 : (v.l.map (Val.turned by_)).map Val.w = v.l.map Val.w := by
    rw [List.map_map]; exact List.map_congr_left fun y hy => ih y hy
  rw [Val.w_eq, Val.w_eq v, turned_t, h1, h2, h3, h4]
/-- One pair of the three was gone through. -/
def Apt (x y z : AV) (i : Nat) : Prop := greatB (at3 x y z i).v (at3 x y z ((i + 1) % 3)).v = false ∧ (at3 x y z i).v.may = true ∧ (at3 x y z ((i + 1) % 3)).v.may = true
def farJ (x y z : AV) (i : Nat) : Int := farI (at3 x y z i).v (at3 x y z ((i + 1) % 3)).v
set_option maxRecDepth 100000 in
set_option maxHeartbeats 12800000 in
theorem eapart (w : World) (x y z : AV) (by_ : Nat) (hby : by_ < 256) (hx : Rd w x) (hy : Rd w y) (hz : Rd w z) (hwx : x.w ≤ 1048576) (hwy : y.w ≤ 1048576) (hwz : z.w ≤ 1048576) :
    Calls Try.prog 8 #[.agg #[.int .u8 x.k, .string x.t, .slice x.la x.l.length x.lc, .slice x.ka x.ks.length x.kc, .int .u8 y.k, .string y.t, .slice y.la y.l.length y.lc, .slice y.ka y.ks.length y.kc, .int .u8 z.k, .string z.t, .slice z.la z.l.length z.lc, .slice z.ka z.ks.length z.kc], .int .u8 by_] w (Ret (.bool true) w) := by
  have HRD := Lib.hid (show ∀ W, Below w.heap.size w W → ∀ i, Rd W (at3 x y z i) from fun W h i => at3_all (P := fun v => Rd W v) (hx.up h) (hy.up h) (hz.up h) i)
  have HWT := Lib.hid (show ∀ i, (at3 x y z i).w ≤ 1048576 from fun i => at3_all (P := fun v => v.w ≤ 1048576) hwx hwy hwz i)
  have HLI := fun W => Lib.hid (lives20_c W)
  clear hx hy hz hwx hwy hwz
  go_enter Try.func8, Try.ntmps8
  go_wp2_with fail
  go_loopw [6] (fun s6 wr => ∃ i : Nat, i ≤ 3 ∧ s6 = .int .i64 (i : Int) ∧ Hid (wr.heap[w.heap.size]? = some (.cells #[.int .u8 x.k, .string x.t, .slice x.la x.l.length x.lc, .slice x.ka x.ks.length x.kc, .int .u8 y.k, .string y.t, .slice y.la y.l.length y.lc, .slice y.ka y.ks.length y.kc, .int .u8 z.k, .string z.t, .slice z.la z.l.length z.lc, .slice z.ka z.ks.length z.kc] 62 (0, 0))) ∧ Hid (RowI wr (w.heap.size + 1) 3 63 (fun j => .int .i64 (if j < i then farJ x y z j else 0))) ∧ Hid (∀ j, j < i → Apt x y z j) ∧ Hid (Below w.heap.size w wr)) (fun s6 _ => 3 - (intOf s6).toNat)
  case atStart =>
    obtain ⟨h1, h2, -, h4⟩ := two_at (Below.refl ((w.alloc (.cells #[.int .u8 x.k, .string x.t, .slice x.la x.l.length x.lc, .slice x.ka x.ks.length x.kc, .int .u8 y.k, .string y.t, .slice y.la y.l.length y.lc, .slice y.ka y.ks.length y.kc, .int .u8 z.k, .string z.t, .slice z.la z.l.length z.lc, .slice z.ka z.ks.length z.kc] 62)).alloc (.cells #[.int .i64 0, .int .i64 0, .int .i64 0] 63)).heap.size _)
    exact ⟨0, by omega, rfl, Lib.hid h1, Lib.hid h2, Lib.hid (fun j h => by omega), Lib.hid h4⟩
  case round =>
    obtain ⟨i, hi, rfl, HL, HR, HO, HB⟩ := hrel
    by_cases hlt : i < 3
    · have hlt' : (i : Int) < 3 := by omega
      have hi0 : (0 : Int) ≤ (i : Int) := by omega
      obtain ⟨j, hj⟩ : ∃ j, j = (i + 1) % 3 := ⟨_, rfl⟩
      have hj3 : j < 3 := by omega
      have hmod : Int.tmod ((i : Int) + 1) 3 = (j : Int) := by
        rw [hj]
        match i, hlt with
        | 0, _ => rfl
        | 1, _ => rfl
        | 2, _ => rfl
      have hj3' : (j : Int) < 3 := by omega
      have hj0 : (0 : Int) ≤ (j : Int) := by omega
      obtain ⟨a0, a1, a2, a3⟩ := at3_cells HL.out hlt
      obtain ⟨b0, b1, b2, b3⟩ := at3_cells HL.out hj3
      obtain ⟨a, ha⟩ : ∃ a, a = at3 x y z i := ⟨_, rfl⟩
      obtain ⟨b, hb⟩ : ∃ b, b = at3 x y z j := ⟨_, rfl⟩
      rw [← ha] at a0 a1 a2 a3
      rw [← hb] at b0 b1 b2 b3
      have l0 : w.heap.size < wr.heap.size := (Array.getElem?_eq_some_iff.1 HL.out).1
      have n0 : ¬ w.heap.size = wr.heap.size := by omega
      have b0' : (wr.alloc (.cells #[.int .u8 a.k, .string a.t, .slice a.la a.l.length a.lc, .slice a.ka a.ks.length a.kc] 26)).cell? ⟨w.heap.size, j * 4, none⟩ = some (.int .u8 b.k) := blkv (below_al (Below.refl _ _)) b0
      have b1' : (wr.alloc (.cells #[.int .u8 a.k, .string a.t, .slice a.la a.l.length a.lc, .slice a.ka a.ks.length a.kc] 26)).cell? ⟨w.heap.size, j * 4 + 1, none⟩ = some (.string b.t) := blkv (below_al (Below.refl _ _)) b1
      have b2' : (wr.alloc (.cells #[.int .u8 a.k, .string a.t, .slice a.la a.l.length a.lc, .slice a.ka a.ks.length a.kc] 26)).cell? ⟨w.heap.size, j * 4 + 2, none⟩ = some (.slice b.la b.l.length b.lc) := blkv (below_al (Below.refl _ _)) b2
      have b3' : (wr.alloc (.cells #[.int .u8 a.k, .string a.t, .slice a.la a.l.length a.lc, .slice a.ka a.ks.length a.kc] 26)).cell? ⟨w.heap.size, j * 4 + 3, none⟩ = some (.slice b.ka b.ks.length b.kc) := blkv (below_al (Below.refl _ _)) b3
      have HAB := Lib.hid (And.intro ha (And.intro hb hj))
      obtain ⟨W1, hW1⟩ : ∃ W1, W1 = wr := ⟨_, rfl⟩
      subst hW1
      clear ha hb hj b0 b1 b2 b3
      go_upto_region 7 with fail
      go_name_world W3 hW3
      obtain ⟨ha3, hb3, hz3, hw3⟩ := two_at (show Below ((W1.alloc (.cells #[.int .u8 a.k, .string a.t, .slice a.la a.l.length a.lc, .slice a.ka a.ks.length a.kc] 26)).alloc (.cells #[.int .u8 b.k, .string b.t, .slice b.la b.l.length b.lc, .slice b.ka b.ks.length b.kc] 26)).heap.size ((W1.alloc (.cells #[.int .u8 a.k, .string a.t, .slice a.la a.l.length a.lc, .slice a.ka a.ks.length a.kc] 26)).alloc (.cells #[.int .u8 b.k, .string b.t, .slice b.la b.l.length b.lc, .slice b.ka b.ks.length b.kc] 26)) W3 by rw [← hW3]; exact Below.refl _ _)
      have hz3' : W3.heap.size = W1.heap.size + 1 + 1 := by rw [← hW3]; simp
      have HA3 := Lib.hid ha3
      have HB3 := Lib.hid hb3
      have HW13 := Lib.hid hw3
      have HZ3 := Lib.hid hz3'
      have HW3 := Lib.hid (below_via HB.out hw3)
      have hra := fun W h => HRD.out W h i
      have hrb := fun W h => HRD.out W h j
      have hwa := HWT.out i
      have hwb := HWT.out j
      rw [← HAB.out.1] at hra hwa
      rw [← HAB.out.2.1] at hrb hwb
      obtain ⟨p0, p1, p2, p3⟩ := vb4 ha3
      obtain ⟨q0, q1, q2, q3⟩ := vb4 hb3
      have HRA := Lib.hid hra
      have HRB := Lib.hid hrb
      obtain ⟨g, hg⟩ : ∃ g, g = greatB a.v b.v := ⟨_, rfl⟩
      obtain ⟨ma, hma⟩ : ∃ ma, ma = a.v.may := ⟨_, rfl⟩
      obtain ⟨mb, hmb⟩ : ∃ mb, mb = b.v.may := ⟨_, rfl⟩
      have HGR := fun W (h : Below w.heap.size w W) => Lib.hid (show Calls Try.prog 29 #[a.val, b.val] W (Ret (.bool g) W) by rw [hg]; exact great20_c W a b (HRA.out W h) (HRB.out W h) hwa hwb)
      have HMA := fun W (h : Below w.heap.size w W) => Lib.hid (show Calls Try.prog 30 #[a.val] W (Ret (.bool ma) W) by rw [hma]; exact may_c W a (HRA.out W h) hwa)
      have HMB := fun W (h : Below w.heap.size w W) => Lib.hid (show Calls Try.prog 30 #[b.val] W (Ret (.bool mb) W) by rw [hmb]; exact may_c W b (HRB.out W h) hwb)
      have HGM := Lib.hid (And.intro hg (And.intro hma hmb))
      clear ha3 hb3 hw3 hW3 hz3 hz3' hra hrb hg hma hmb a0 a1 a2 a3 b0' b1' b2' b3'
      cases g with
      | true =>
        go_wp2_with (first
        | (go_at_call 24; (with_reducible refine (HLI _).out.mono ?_); rintro e w9 ⟨rfl, hb9⟩)
        | (go_at_call 29; (with_reducible refine (HGR W3 HW3.out).out.mono ?_); rintro e w4 ⟨rfl, h4⟩; clear p0 p1 p2 p3 q0 q1 q2 q3; obtain ⟨p0, p1, p2, p3⟩ := vb4 (blk_via h4 HA3.out); obtain ⟨q0, q1, q2, q3⟩ := vb4 (blk_via h4 HB3.out); have H4 := Lib.hid h4; clear h4))
        go_ret
        exact ⟨rfl, below_via (below_via HW3.out H4.out) hb9⟩
      | false =>
        cases ma with
        | false =>
          go_wp2_with (first
          | (go_at_call 24; (with_reducible refine (HLI _).out.mono ?_); rintro e w9 ⟨rfl, hb9⟩)
          | (go_at_call 30; (with_reducible refine (HMA w4 (below_via HW3.out H4.out)).out.mono ?_); rintro e w5 ⟨rfl, h5⟩; have h35 := below_via H4.out h5; clear p0 p1 p2 p3 q0 q1 q2 q3; obtain ⟨p0, p1, p2, p3⟩ := vb4 (blk_via h35 HA3.out); obtain ⟨q0, q1, q2, q3⟩ := vb4 (blk_via h35 HB3.out); have H5 := Lib.hid h35; clear h5 h35)
          | (go_at_call 29; (with_reducible refine (HGR W3 HW3.out).out.mono ?_); rintro e w4 ⟨rfl, h4⟩; clear p0 p1 p2 p3 q0 q1 q2 q3; obtain ⟨p0, p1, p2, p3⟩ := vb4 (blk_via h4 HA3.out); obtain ⟨q0, q1, q2, q3⟩ := vb4 (blk_via h4 HB3.out); have H4 := Lib.hid h4; clear h4))
          go_ret
          exact ⟨rfl, below_via (below_via HW3.out H5.out) hb9⟩
        | true =>
          cases mb with
          | false =>
            go_wp2_with (first
            | (go_at_call 24; (with_reducible refine (HLI _).out.mono ?_); rintro e w9 ⟨rfl, hb9⟩)
            | (have kk := H5; go_at_call 30; (with_reducible refine (HMB w5 (below_via HW3.out H5.out)).out.mono ?_); rintro e w6 ⟨rfl, h6⟩; have h36 := below_via H5.out h6; clear p0 p1 p2 p3 q0 q1 q2 q3; obtain ⟨p0, p1, p2, p3⟩ := vb4 (blk_via h36 HA3.out); obtain ⟨q0, q1, q2, q3⟩ := vb4 (blk_via h36 HB3.out); have H6 := Lib.hid h36; clear h6 h36)
            | (go_at_call 30; (with_reducible refine (HMA w4 (below_via HW3.out H4.out)).out.mono ?_); rintro e w5 ⟨rfl, h5⟩; have h35 := below_via H4.out h5; clear p0 p1 p2 p3 q0 q1 q2 q3; obtain ⟨p0, p1, p2, p3⟩ := vb4 (blk_via h35 HA3.out); obtain ⟨q0, q1, q2, q3⟩ := vb4 (blk_via h35 HB3.out); have H5 := Lib.hid h35; clear h5 h35)
            | (go_at_call 29; (with_reducible refine (HGR W3 HW3.out).out.mono ?_); rintro e w4 ⟨rfl, h4⟩; clear p0 p1 p2 p3 q0 q1 q2 q3; obtain ⟨p0, p1, p2, p3⟩ := vb4 (blk_via h4 HA3.out); obtain ⟨q0, q1, q2, q3⟩ := vb4 (blk_via h4 HB3.out); have H4 := Lib.hid h4; clear h4))
            go_ret
            exact ⟨rfl, below_via (below_via HW3.out H6.out) hb9⟩
          | true =>
            have hfacts := apart_facts HGM.out.1.symm HGM.out.2.1.symm HGM.out.2.2.symm
            obtain ⟨k, hk⟩ : ∃ k, k = farV a.v b.v := ⟨_, rfl⟩
            rw [← hk] at hfacts
            obtain ⟨f1, f2, f3, f4, f5⟩ := hfacts
            have HF1 := fun W (h : Below w.heap.size w W) => Lib.hid (show Calls Try.prog 26 #[a.val, b.val] W (Ret (.int .i64 (k : Nat)) W) by rw [← f1]; exact far_c W a b (HRA.out W h) (HRB.out W h) hwa hwb)
            have HF2 := fun W (h : Below w.heap.size w W) => Lib.hid (show Calls Try.prog 26 #[b.val, a.val] W (Ret (.int .i64 (k : Nat)) W) by rw [← f2]; exact far_c W b a (HRB.out W h) (HRA.out W h) hwb hwa)
            have HSA := fun W (h : Below w.heap.size w W) => Lib.hid (show Calls Try.prog 36 #[a.val, b.val] W (Ret (.bool ((k : Int) == 0)) W) by
              have := same_c a b W (HRA.out W h) (HRB.out W h) hwa hwb
              rw [f4] at this
              rwa [show ((k : Int) == 0) = (k == 0) by cases k <;> rfl])
            have HTU := fun W (h : Below w.heap.size w W) => Lib.hid (turned_c by_ hby 256 a W (HRA.out W h) hwa (may_in HGM.out.2.1.symm))
            have HF3 := Lib.hid (show ∀ (W : World) (y' : AV), Below w.heap.size w W → y'.v = a.v.turned by_ → Rd W y' → Calls Try.prog 26 #[y'.val, b.val] W (Ret (.int .i64 (k : Nat)) W) from fun W y' h e hr => by
              have := far_c W y' b hr (HRB.out W h) (by show y'.v.w ≤ _; rw [e, turned_wV]; exact hwa) hwb
              rwa [e, f3 by_] at this)
            have HWI1 := fun W (h : Below w.heap.size w W) => Lib.hid (show Calls Try.prog 28 #[a.val, b.val, .int .i64 (k : Nat)] W (Ret (.bool true) W) by
              have := within20_c W a b (k : Nat) (HRA.out W h) (HRB.out W h) hwa hwb
              rwa [withinI, f1, show (((k : Nat) : Int) != -1 && decide (((k : Nat) : Int) ≤ ((k : Nat) : Int))) = true by first | (simp; done) | (simp; omega)] at this)
            have HWI2 := fun W (h : Below w.heap.size w W) => Lib.hid (show Calls Try.prog 28 #[a.val, b.val, .int .i64 ((k : Int) - 1)] W (Ret (.bool false) W) by
              have := within20_c W a b ((k : Int) - 1) (HRA.out W h) (HRB.out W h) hwa hwb
              rwa [withinI, f1, show (((k : Nat) : Int) != -1 && decide (((k : Nat) : Int) ≤ ((k : Nat) : Int) - 1)) = false by first | (simp; done) | (simp; omega)] at this)
            have HK := Lib.hid (And.intro hk f1)
            clear hk f1 f2 f3 f4
            go_upto_region 9 with (first
              | (have kk := H5; go_at_call 30; (with_reducible refine (HMB w5 (below_via HW3.out H5.out)).out.mono ?_); rintro e w6 ⟨rfl, h6⟩; have h36 := below_via H5.out h6; clear p0 p1 p2 p3 q0 q1 q2 q3; obtain ⟨p0, p1, p2, p3⟩ := vb4 (blk_via h36 HA3.out); obtain ⟨q0, q1, q2, q3⟩ := vb4 (blk_via h36 HB3.out); have H6 := Lib.hid h36; clear h6 h36)
              | (go_at_call 30; (with_reducible refine (HMA w4 (below_via HW3.out H4.out)).out.mono ?_); rintro e w5 ⟨rfl, h5⟩; have h35 := below_via H4.out h5; clear p0 p1 p2 p3 q0 q1 q2 q3; obtain ⟨p0, p1, p2, p3⟩ := vb4 (blk_via h35 HA3.out); obtain ⟨q0, q1, q2, q3⟩ := vb4 (blk_via h35 HB3.out); have H5 := Lib.hid h35; clear h5 h35)
              | (go_at_call 29; (with_reducible refine (HGR W3 HW3.out).out.mono ?_); rintro e w4 ⟨rfl, h4⟩; clear p0 p1 p2 p3 q0 q1 q2 q3; obtain ⟨p0, p1, p2, p3⟩ := vb4 (blk_via h4 HA3.out); obtain ⟨q0, q1, q2, q3⟩ := vb4 (blk_via h4 HB3.out); have H4 := Lib.hid h4; clear h4))
            have HR6 := Lib.hid (HR.out.keep (w' := w6) ((H6.out.block _ (by have := HZ3.out; have := HR.out.lt; omega)).trans (HW13.out.block _ HR.out.lt)))
            clear HGR HMA HMB
            go_upto_region 10 with (first
              | (go_at_call 26; (with_reducible refine (HF1 w6 (below_via HW3.out H6.out)).out.mono ?_); rintro e w7 ⟨rfl, h7⟩; have hr7 := HR6.out.up h7; have e1 := hr7.cell hlt; have e2 := hr7.froz i; have HR7 := Lib.hid hr7; have H7 := Lib.hid h7; clear h7 hr7 p0 p1 p2 p3 q0 q1 q2 q3))
            go_name_world W8 hW8
            have hr8 : RowI W8 (w.heap.size + 1) 3 63 (fun q => if q = i then .int .i64 (k : Nat) else .int .i64 (if q < i then farJ x y z q else 0)) := by rw [← hW8]; exact HR7.out.set i _
            have hb8 : Below w.heap.size w W8 := by rw [← hW8]; exact (below_via (below_via HW3.out H6.out) H7.out).setCell (p := ⟨w.heap.size + 1, i, none⟩) (by show w.heap.size ≤ w.heap.size + 1; omega) _
            have hl3 : w.heap.size + 1 < W1.heap.size := HR.out.lt
            have hk8 : ∀ q, q ≠ w.heap.size + 1 → q < W3.heap.size → W8.heap[q]? = W3.heap[q]? := fun q h1 h2 => by
              rw [← hW8, Below.heap_setCell _ _ _ q h1]
              exact ((below_via H6.out H7.out).block q h2)
            have hz3 := HZ3.out
            have ha8 := (hk8 W1.heap.size (by omega) (by omega)).trans HA3.out
            have hb8' := (hk8 (W1.heap.size + 1) (by omega) (by omega)).trans HB3.out
            have hl8 := (hk8 w.heap.size (by omega) (by omega)).trans (HW13.out.block _ l0 |>.trans HL.out)
            have e1 := hr8.cell hlt
            simp only [if_true] at e1
            obtain ⟨p0, p1, p2, p3⟩ := vb4 ha8
            obtain ⟨q0, q1, q2, q3⟩ := vb4 hb8'
            have z1 : W1.heap.size < W8.heap.size := (Array.getElem?_eq_some_iff.1 ha8).1
            have z2 : W1.heap.size + 1 < W8.heap.size := (Array.getElem?_eq_some_iff.1 hb8').1
            have z3 : w.heap.size + 1 < W8.heap.size := hr8.lt
            have kk1 : ¬ (k : Int) < 0 := by omega
            have kk2 : IntKind.i64.wrap ((k : Int) - 1) = (k : Int) - 1 := IntWalk.i64_in _ (by omega)
            have HR8 := Lib.hid hr8
            have HB8 := Lib.hid hb8
            have HL8 := Lib.hid hl8
            clear hW8 hr8 hb8 hl3 hk8 hz3 ha8 hb8' hl8 HF1
            go_region_held3 (fun w' => (∀ b o, b < W8.heap.size → w'.cell? ⟨b, o, none⟩ = W8.cell? ⟨b, o, none⟩) ∧ Below W8.heap.size W8 w')
              (exact sx_of (by repeat (first | (with_reducible exact Below.refl _ _) | (with_reducible refine below_via ?_ h13) | (with_reducible refine below_via ?_ h12) | (with_reducible refine below_via ?_ h11) | (with_reducible refine below_via ?_ h10) | (with_reducible refine below_via ?_ h9) | (with_reducible refine below_via ?_ h8) | (with_reducible refine Below.drew ?_) | (with_reducible refine below_al ?_))))
              (first
                | (have kq := h12; go_at_call 28; (with_reducible refine (HWI2 _ (below_via HB8.out (by repeat (first | (with_reducible exact Below.refl _ _) | (with_reducible refine below_via ?_ h13) | (with_reducible refine below_via ?_ h12) | (with_reducible refine below_via ?_ h11) | (with_reducible refine below_via ?_ h10) | (with_reducible refine below_via ?_ h9) | (with_reducible refine below_via ?_ h8) | (with_reducible refine Below.drew ?_) | (with_reducible refine below_al ?_))))).out.mono ?_); rintro e w13 ⟨rfl, h13⟩)
                | (have kq := h11; go_at_call 28; (with_reducible refine (HWI1 _ (below_via HB8.out (by repeat (first | (with_reducible exact Below.refl _ _) | (with_reducible refine below_via ?_ h13) | (with_reducible refine below_via ?_ h12) | (with_reducible refine below_via ?_ h11) | (with_reducible refine below_via ?_ h10) | (with_reducible refine below_via ?_ h9) | (with_reducible refine below_via ?_ h8) | (with_reducible refine Below.drew ?_) | (with_reducible refine below_al ?_))))).out.mono ?_); rintro e w12 ⟨rfl, h12⟩)
                | (have kq := h10; go_at_call 26; (with_reducible refine (HF3.out _ y' (below_via HB8.out (by repeat (first | (with_reducible exact Below.refl _ _) | (with_reducible refine below_via ?_ h13) | (with_reducible refine below_via ?_ h12) | (with_reducible refine below_via ?_ h11) | (with_reducible refine below_via ?_ h10) | (with_reducible refine below_via ?_ h9) | (with_reducible refine below_via ?_ h8) | (with_reducible refine Below.drew ?_) | (with_reducible refine below_al ?_)))) hyv (Rd.up (w := w10) (AV.In.widen hyr (Nat.zero_le _) (Nat.le_refl _)) (by repeat (first | (with_reducible exact Below.refl _ _) | (with_reducible refine below_via ?_ h13) | (with_reducible refine below_via ?_ h12) | (with_reducible refine below_via ?_ h11) | (with_reducible refine below_via ?_ h10) | (with_reducible refine below_via ?_ h9) | (with_reducible refine below_via ?_ h8) | (with_reducible refine Below.drew ?_) | (with_reducible refine below_al ?_))))).mono ?_); rintro e w11 ⟨rfl, h11⟩)
                | (have kq := h9; go_at_call 35; (with_reducible refine (HTU _ (below_via HB8.out (by repeat (first | (with_reducible exact Below.refl _ _) | (with_reducible refine below_via ?_ h13) | (with_reducible refine below_via ?_ h12) | (with_reducible refine below_via ?_ h11) | (with_reducible refine below_via ?_ h10) | (with_reducible refine below_via ?_ h9) | (with_reducible refine below_via ?_ h8) | (with_reducible refine Below.drew ?_) | (with_reducible refine below_al ?_))))).out.mono ?_); rintro e w10 ⟨y', rfl, hyv, hyr, h10⟩)
                | (have kq := h8; go_at_call 36; (with_reducible refine (HSA _ (below_via HB8.out (by repeat (first | (with_reducible exact Below.refl _ _) | (with_reducible refine below_via ?_ h13) | (with_reducible refine below_via ?_ h12) | (with_reducible refine below_via ?_ h11) | (with_reducible refine below_via ?_ h10) | (with_reducible refine below_via ?_ h9) | (with_reducible refine below_via ?_ h8) | (with_reducible refine Below.drew ?_) | (with_reducible refine below_al ?_))))).out.mono ?_); rintro e w9 ⟨rfl, h9⟩)
                | (go_at_call 26; (with_reducible refine (HF2 _ (below_via HB8.out (by repeat (first | (with_reducible exact Below.refl _ _) | (with_reducible refine below_via ?_ h13) | (with_reducible refine below_via ?_ h12) | (with_reducible refine below_via ?_ h11) | (with_reducible refine below_via ?_ h10) | (with_reducible refine below_via ?_ h9) | (with_reducible refine below_via ?_ h8) | (with_reducible refine Below.drew ?_) | (with_reducible refine below_al ?_))))).out.mono ?_); rintro e w8 ⟨rfl, h8⟩))
            have hend : Below W8.heap.size W8 w13 := (by repeat (first | (with_reducible exact Below.refl _ _) | (with_reducible refine below_via ?_ h13) | (with_reducible refine below_via ?_ h12) | (with_reducible refine below_via ?_ h11) | (with_reducible refine below_via ?_ h10) | (with_reducible refine below_via ?_ h9) | (with_reducible refine below_via ?_ h8) | (with_reducible refine Below.drew ?_) | (with_reducible refine below_al ?_)))
            have HEN := Lib.hid hend
            clear h8 h9 h10 h11 h12 h13 hyv hyr hend p0 p1 p2 p3 q0 q1 q2 q3 e1
            go_wp2_with fail
            refine ⟨⟨i + 1, by omega, by go_num, Lib.hid ((HEN.out.block _ (Array.getElem?_eq_some_iff.1 HL8.out).1).trans HL8.out), Lib.hid ((HR8.out.keep (HEN.out.block _ z3)).cong fun q hq => ?_), Lib.hid fun q hq => ?_, Lib.hid (HB8.out.trans (HEN.out.mono HB8.out.size))⟩, by simp [intOf]; omega⟩
            · by_cases e : q = i
              · subst e
                rw [if_pos rfl, if_pos (Nat.lt_succ_self _), farJ, ← HAB.out.1, ← HAB.out.2.2, ← HAB.out.2.1, HK.out.2]
              · rw [if_neg e]
                by_cases e2 : q < i
                · rw [if_pos e2, if_pos (by omega)]
                · rw [if_neg e2, if_neg (by omega)]
            · rcases Nat.lt_or_ge q i with h | h
              · exact HO.out q h
              · obtain rfl : q = i := by omega
                rw [Apt, ← HAB.out.1, ← HAB.out.2.2, ← HAB.out.2.1]
                exact ⟨HGM.out.1.symm, HGM.out.2.1.symm, HGM.out.2.2.symm⟩
    · obtain rfl : i = 3 := by omega
      rw [show ((3 : Nat) : Int) = 3 from rfl]
      obtain ⟨g0, m0, n0⟩ := HO.out 0 (by omega)
      obtain ⟨g1, m1, n1⟩ := HO.out 1 (by omega)
      obtain ⟨g2, m2, n2⟩ := HO.out 2 (by omega)
      have k0 := (apart_facts g0 m0 n0).1
      have k1 := (apart_facts g1 m1 n1).1
      have k2 := (apart_facts g2 m2 n2).1
      have u0 := (apart_facts g0 m0 n0).2.2.2.2
      have u1 := (apart_facts g1 m1 n1).2.2.2.2
      have u2 := (apart_facts g2 m2 n2).2.2.2.2
      simp only [show at3 x y z 0 = x from rfl, show at3 x y z ((0 + 1) % 3) = y from rfl, show at3 x y z ((1 + 1) % 3) = z from rfl] at k0 k1 k2 u0 u1 u2
      have c0 := HR.out.cell (j := 0) (by omega)
      have c1 := HR.out.cell (j := 1) (by omega)
      have c2 := HR.out.cell (j := 2) (by omega)
      simp only [show (0 : Nat) < 3 from by decide, show (1 : Nat) < 3 from by decide, show (2 : Nat) < 3 from by decide, if_true] at c0 c1 c2
      rw [show farJ x y z 0 = (farV x.v y.v : Nat) from k0] at c0
      rw [show farJ x y z 1 = (farV y.v z.v : Nat) from k1] at c1
      rw [show farJ x y z 2 = (farV z.v x.v : Nat) from k2] at c2
      have t0 : farV x.v y.v ≤ farV y.v z.v + farV z.v x.v := by have := farV_tri x.v z.v y.v; rw [farV_symm x.v z.v, farV_symm z.v y.v] at this; omega
      have t1 : farV y.v z.v ≤ farV z.v x.v + farV x.v y.v := by have := farV_tri y.v x.v z.v; rw [farV_symm y.v x.v, farV_symm x.v z.v] at this; omega
      have t2 : farV z.v x.v ≤ farV x.v y.v + farV y.v z.v := by have := farV_tri z.v y.v x.v; rw [farV_symm z.v y.v, farV_symm y.v x.v] at this; omega
      generalize farV x.v y.v = d0 at *
      generalize farV y.v z.v = d1 at *
      generalize farV z.v x.v = d2 at *
      have v0 : IntKind.i64.wrap ((d1 : Int) + (d2 : Int)) = (d1 : Int) + (d2 : Int) := IntWalk.i64_in _ (by omega)
      have v1 : IntKind.i64.wrap ((d2 : Int) + (d0 : Int)) = (d2 : Int) + (d0 : Int) := IntWalk.i64_in _ (by omega)
      have v2 : IntKind.i64.wrap ((d0 : Int) + (d1 : Int)) = (d0 : Int) + (d1 : Int) := IntWalk.i64_in _ (by omega)
      have w0' : (d0 : Int) ≤ (d1 : Int) + (d2 : Int) := by omega
      have w1' : (d1 : Int) ≤ (d2 : Int) + (d0 : Int) := by omega
      have w2' : (d2 : Int) ≤ (d0 : Int) + (d1 : Int) := by omega
      clear g0 m0 n0 g1 m1 n1 g2 m2 n2 k0 k1 k2 HR HO HL HRD HWT
      go_wp2_with (go_at_call 24; (with_reducible refine (HLI _).out.mono ?_); rintro e w9 ⟨rfl, hb9⟩)
      go_ret
      exact ⟨rfl, below_via HB.out hb9⟩
end Go.Proofs.Ytmhkacafilpliaa
