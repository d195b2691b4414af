/-
  EditsApart's walk. Conditions: the three values lie in memory, their weights are bounded.
-/
import Derived.Test.YtmhkacafilpliaaEN
import Derived.Test.YtmhkacafilpliaaVF
import Derived.Test.YtmhkacafilpliaaVM
namespace Go.Proofs.Ytmhkacafilpliaa
open Go.RowKit Go.Sort Go.Shelf Go.BigFrame

/-- More than is gone through? -/
def greatB (a b : Val) : Bool := decide (1500 < a.w) || decide (1500 < b.w) || decide (4096 < szV a * szV b)
set_option maxRecDepth 100000 in
set_option maxHeartbeats 3200000 in
theorem great20_c (w : World) (x y : AV) (hx : Rd w x) (hy : Rd w y) (hwx : x.w ≤ 1048576) (hwy : y.w ≤ 1048576) : Calls Try.prog 29 #[x.val, y.val] w (Ret (.bool (greatB x.v y.v)) w) := by
  have bN := szV_le x.v
  have bM := szV_le y.v
  have hxw : x.v.w = x.w := rfl
  have hyw : y.v.w = y.w := rfl
  have HGX := fun W (h : Below w.heap.size w W) => Lib.hid (great14_c x W (hx.up h) hwx)
  have HGY := fun W (h : Below w.heap.size w W) => Lib.hid (great14_c y W (hy.up h) hwy)
  have HSX := fun W (h : Below w.heap.size w W) => Lib.hid (show Calls Try.prog 31 #[x.val] W (Ret (.int .i64 (szV x.v : Nat)) W) by
    have := size_c W x (hx.up h) hwx
    rwa [show (if x.v.may then (x.v.size : Int) else 0) = ((szV x.v : Nat) : Int) by unfold szV; split <;> rfl] at this)
  have HSY := fun W (h : Below w.heap.size w W) => Lib.hid (show Calls Try.prog 31 #[y.val] W (Ret (.int .i64 (szV y.v : Nat)) W) by
    have := size_c W y (hy.up h) hwy
    rwa [show (if y.v.may then (y.v.size : Int) else 0) = ((szV y.v : Nat) : Int) by unfold szV; split <;> rfl] at this)
  have hgr : greatB x.v y.v = (decide (1500 < x.v.w) || decide (1500 < y.v.w) || decide (4096 < szV x.v * szV y.v)) := rfl
  obtain ⟨N, hN⟩ : ∃ N, N = szV x.v := ⟨_, rfl⟩
  obtain ⟨M, hM⟩ : ∃ M, M = szV y.v := ⟨_, rfl⟩
  rw [← hN] at bN HSX hgr
  rw [← hM] at bM HSY hgr
  clear hx hy hN hM
  go_enter Try.func29, Try.ntmps29
  go_upto_region 1 with fail
  go_name_world W0 hW0
  obtain ⟨hx0, hy0, hs0, hb0⟩ := two_at (show Below ((w.alloc (.cells #[.int .u8 x.k, .string x.t, .slice x.la x.l.length x.lc, .slice x.ka x.ks.length x.kc] 26)).alloc (.cells #[.int .u8 y.k, .string y.t, .slice y.la y.l.length y.lc, .slice y.ka y.ks.length y.kc] 26)).heap.size ((w.alloc (.cells #[.int .u8 x.k, .string x.t, .slice x.la x.l.length x.lc, .slice x.ka x.ks.length x.kc] 26)).alloc (.cells #[.int .u8 y.k, .string y.t, .slice y.la y.l.length y.lc, .slice y.ka y.ks.length y.kc] 26)) W0 by rw [← hW0]; exact Below.refl _ _)
  obtain ⟨p0, p1, p2, p3⟩ := vb4 hx0
  obtain ⟨q0, q1, q2, q3⟩ := vb4 hy0
  have LD := Lib.hid (fun W (h : Below W0.heap.size W0 W) => And.intro (blkv h p0) (And.intro (blkv h p1) (And.intro (blkv h p2) (And.intro (blkv h p3) (And.intro (blkv h q0) (And.intro (blkv h q1) (And.intro (blkv h q2) (blkv h q3))))))))
  have HB0 := Lib.hid hb0
  by_cases c1 : 1500 < x.v.w
  · have HH1 := fun W (h : Below W0.heap.size W0 W) => Lib.hid (show Calls Try.prog 12 #[x.val] W (Ret (.bool true) W) by have := (HGX W (below_via hb0 h)).out; rwa [decide_eq_true c1] at this)
    have HGR := Lib.hid (show greatB x.v y.v = true by rw [hgr, decide_eq_true c1]; rfl)
    clear p0 p1 p2 p3 q0 q1 q2 q3 hx0 hy0 hb0 hW0 HGX HGY HSX HSY c1 hgr
    refine wp_region_bl (by kernel_rfl) (by kernel_rfl) ?_
    repeat (first | go_big_quiet_skip | (go_big_quiet_want; go_big_quiet_op; first | go_big_quiet_on | (refine ⟨_, fun _ _ => (by with_reducible rfl), ?_⟩; go_big_quiet_on) | (apply Exists.intro; refine ⟨fun w' hC => (by simp only [LD.out w' hC, Result.andThen]; exact ⟨trivial, rfl⟩), ?_⟩; go_big_quiet_on) | (apply Exists.intro; refine ⟨fun w' hC => (by (with_reducible refine (HH1 w' hC).out.mono ?_); exact fun e w2 ⟨he, hb⟩ => ⟨he, hC.trans (hb.mono hC.size)⟩), ?_⟩; go_big_quiet_on)))
    refine wpQuiet_nil ?_; intro wz hbz
    go_wp2_with fail
    go_ret
    exact ⟨by rw [HGR.out]; rfl, below_via HB0.out hbz⟩
  have HH1 := fun W (h : Below W0.heap.size W0 W) => Lib.hid (show Calls Try.prog 12 #[x.val] W (Ret (.bool false) W) by have := (HGX W (below_via hb0 h)).out; rwa [decide_eq_false c1] at this)
  by_cases c2 : 1500 < y.v.w
  · have HH2 := fun W (h : Below W0.heap.size W0 W) => Lib.hid (show Calls Try.prog 12 #[y.val] W (Ret (.bool true) W) by have := (HGY W (below_via hb0 h)).out; rwa [decide_eq_true c2] at this)
    have HGR := Lib.hid (show greatB x.v y.v = true by rw [hgr, decide_eq_false c1, decide_eq_true c2]; rfl)
    clear p0 p1 p2 p3 q0 q1 q2 q3 hx0 hy0 hb0 hW0 HGX HGY HSX HSY c1 c2 hgr
    refine wp_region_bl (by kernel_rfl) (by kernel_rfl) ?_
    repeat (first | go_big_quiet_skip | (go_big_quiet_want; go_big_quiet_op; first | go_big_quiet_on | (refine ⟨_, fun _ _ => (by with_reducible rfl), ?_⟩; go_big_quiet_on) | (apply Exists.intro; refine ⟨fun w' hC => (by simp only [LD.out w' hC, Result.andThen]; exact ⟨trivial, rfl⟩), ?_⟩; go_big_quiet_on) | (apply Exists.intro; refine ⟨fun w' hC => (by (with_reducible refine (HH1 w' hC).out.mono ?_); exact fun e w2 ⟨he, hb⟩ => ⟨he, hC.trans (hb.mono hC.size)⟩), ?_⟩; go_big_quiet_on) | (apply Exists.intro; refine ⟨fun w' hC => (by (with_reducible refine (HH2 w' hC).out.mono ?_); exact fun e w2 ⟨he, hb⟩ => ⟨he, hC.trans (hb.mono hC.size)⟩), ?_⟩; go_big_quiet_on)))
    refine wpQuiet_nil ?_; intro wz hbz
    go_wp2_with fail
    go_ret
    exact ⟨by rw [HGR.out]; rfl, below_via HB0.out hbz⟩
  have HH2 := fun W (h : Below W0.heap.size W0 W) => Lib.hid (show Calls Try.prog 12 #[y.val] W (Ret (.bool false) W) by have := (HGY W (below_via hb0 h)).out; rwa [decide_eq_false c2] at this)
  have HH3 := fun W (h : Below W0.heap.size W0 W) => Lib.hid ((HSX W (below_via hb0 h)).out)
  have HH4 := fun W (h : Below W0.heap.size W0 W) => Lib.hid ((HSY W (below_via hb0 h)).out)
  have hNM : N * M ≤ 1500 * 1500 := Nat.mul_le_mul (by omega) (by omega)
  have hNM2 : (N : Int) * (M : Int) = ((N * M : Nat) : Int) := by simp
  have hw1 : IntKind.i64.wrap ((N : Int) * (M : Int)) = (N : Int) * (M : Int) := IntWalk.i64_in _ (by rw [hNM2]; omega)
  have hdec : decide (4096 < N * M) = decide ((4096 : Int) < (N : Int) * (M : Int)) := decide_eq_decide.2 (by rw [hNM2]; omega)
  have HGR := Lib.hid (show greatB x.v y.v = decide ((4096 : Int) < (N : Int) * (M : Int)) by rw [hgr, decide_eq_false c1, decide_eq_false c2, hdec]; rfl)
  clear p0 p1 p2 p3 q0 q1 q2 q3 hx0 hy0 hb0 hW0 HGX HGY HSX HSY c1 c2 hgr hdec hNM2
  refine wp_region_bl (by kernel_rfl) (by kernel_rfl) ?_
  repeat (first | go_big_quiet_skip | (go_big_quiet_want; go_big_quiet_op; first | go_big_quiet_on | (refine ⟨_, fun _ _ => (by with_reducible rfl), ?_⟩; go_big_quiet_on) | (apply Exists.intro; refine ⟨fun w' hC => (by simp only [LD.out w' hC, Result.andThen]; exact ⟨trivial, rfl⟩), ?_⟩; go_big_quiet_on) | (apply Exists.intro; refine ⟨fun w' hC => (by (with_reducible refine (HH1 w' hC).out.mono ?_); exact fun e w2 ⟨he, hb⟩ => ⟨he, hC.trans (hb.mono hC.size)⟩), ?_⟩; go_big_quiet_on) | (apply Exists.intro; refine ⟨fun w' hC => (by (with_reducible refine (HH2 w' hC).out.mono ?_); exact fun e w2 ⟨he, hb⟩ => ⟨he, hC.trans (hb.mono hC.size)⟩), ?_⟩; go_big_quiet_on) | (apply Exists.intro; refine ⟨fun w' hC => (by (with_reducible refine (HH3 w' hC).out.mono ?_); exact fun e w2 ⟨he, hb⟩ => ⟨he, hC.trans (hb.mono hC.size)⟩), ?_⟩; go_big_quiet_on) | (apply Exists.intro; refine ⟨fun w' hC => (by (with_reducible refine (HH4 w' hC).out.mono ?_); exact fun e w2 ⟨he, hb⟩ => ⟨he, hC.trans (hb.mono hC.size)⟩), ?_⟩; go_big_quiet_on)))
  refine wpQuiet_nil ?_; intro wz hbz
  go_wp2_with fail
  go_ret
  exact ⟨by rw [HGR.out]; rfl, below_via HB0.out hbz⟩
/-- What the distance tells of two values that may be, and are not too big. -/
theorem turnedm (n : Nat) {v : Val} (h : v.may = true) : (v.turned n).may = true := by rw [← Val.may_eq]; exact turned_within n 256 v (may_in h)
theorem apart_facts {a b : Val} (hg : greatB a b = false) (ha : a.may = true) (hb : b.may = true) : farI a b = (farV a b : Nat) ∧ farI b a = (farV a b : Nat) ∧ (∀ n, farI (a.turned n) b = (farV a b : Nat)) ∧ sameV a b = ((farV a b : Nat) == 0) ∧ farV a b ≤ 3000 := by
  simp only [greatB, Bool.or_eq_false_iff, decide_eq_false_iff_not] at hg
  obtain ⟨⟨g1, g2⟩, g3⟩ := hg
  have e1 : szV a = a.size := by rw [szV, ha]; rfl
  have e2 : szV b = b.size := by rw [szV, hb]; rfl
  have s1 := size_pos a
  have s2 := size_pos b
  have t1 := a.size_le
  have t2 := b.size_le
  rw [e1, e2] at g3
  have g4 : ¬ 4096 < b.size * a.size := by rw [Nat.mul_comm]; exact g3
  have f1 := farI_yes (a := a) (b := b) (by omega) (by omega) (by omega) (by rw [e1, e2]; exact g3)
  have f2 := farI_yes (a := b) (b := a) (by omega) (by omega) (by omega) (by rw [e1, e2]; exact g4)
  refine ⟨f1, by rw [f2, farV_symm], fun n => ?_, ?_, ?_⟩
  · have ht := turnedm n ha
    have es : (a.turned n).size = a.size := by
      rw [← Val.fo_size ht, ← Val.fo_size ha, (Val.fo_inj ht ha).2 (canon_turned n 256 a (may_in ha))]
    have e3 : szV (a.turned n) = a.size := by rw [szV, ht, es]; rfl
    rw [farI_yes (by omega) (by omega) (by omega) (by rw [e3, e2]; exact g3), farV_turned n b ha ht]
  · have := farV_zero ha hb
    cases h : sameV a b with
    | true => rw [this.2 h]; rfl
    | false =>
      cases h2 : (farV a b == 0) with
      | true => have := this.1 (by simpa using h2); rw [h] at this; cases this
      | false => rfl
  · have := farV_lt ha hb
    omega
end Go.Proofs.Ytmhkacafilpliaa
