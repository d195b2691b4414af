/-
  The law's Same of chapter 19: a postorder and the document's of the same labels, leaves and roots, with no room behind. Conditions: both lie in memory, of at most 2^20 nodes.
-/
import Derived.Test.YtmhkacafilpliaaJW
namespace Go.Proofs.Ytmhkacafilpliaa
open Go.RowKit Go.Sort Go.Shelf

theorem four19 {w : World} {g : Nat} {a b c d : Value} {t : TypeId} (h : w.heap[g]? = some (.cells #[a, b, c, d] t (0, 0))) :
    w.cell? ⟨g, 0, none⟩ = some a ∧ w.cell? ⟨g, 1, none⟩ = some b ∧ w.cell? ⟨g, 2, none⟩ = some c ∧ w.cell? ⟨g, 3, none⟩ = some d := by
  refine ⟨?_, ?_, ?_, ?_⟩ <;> simp [World.cell?, h]
set_option maxRecDepth 100000 in
set_option maxHeartbeats 6400000 in
theorem psame19_c (w : World) (al af ar al' af' ar' : Option Addr) (cl cf cr cl' cf' cr' : Nat) (L : List Lab) (F R : List Int) (hp : PA.Rd ⟨al, cl, af, cf, ar, cr, L, F, R⟩ w) (hq : PA.Rd ⟨al', cl', af', cf', ar', cr', L, F, R⟩ w) (h1 : cl ≤ L.length) (h2 : cf ≤ F.length) (h3 : cr ≤ R.length) :
    Calls Try.prog 17 #[.agg (pBox al L.length cl af F.length cf ar R.length cr), .agg (pBox al' L.length cl' af' F.length cf' ar' R.length cr')] w (Ret (.bool true) w) := by
  have SF := fun W (h : Below w.heap.size w W) => Lib.hid (show Calls Try.prog 38 #[.slice af F.length cf, .slice af' F.length cf'] W (Ret (.bool true) W) by
    have := samenums_c W af af' cf cf' F F (hp.up h).f (hq.up h).f (by have := hp.n; simp only at this; omega)
    rwa [decide_eq_true rfl] at this)
  have SR := fun W (h : Below w.heap.size w W) => Lib.hid (show Calls Try.prog 38 #[.slice ar R.length cr, .slice ar' R.length cr'] W (Ret (.bool true) W) by
    have := samenums_c W ar ar' cr cr' R R (hp.up h).r (hq.up h).r (by have := hp.n; simp only at this; omega)
    rwa [decide_eq_true rfl] at this)
  have HPL := Lib.hid hp.l
  have HQL := Lib.hid hq.l
  have hn : L.length ≤ 2097152 := hp.n.1
  clear hp hq
  have hb0 := fun (o1 o2 : Obj) => ((Below.refl w.heap.size w).alloc (Nat.le_refl _) o1).alloc (by simp) o2
  have g1 : ¬ (L.length : Int) < (cl : Int) := by omega
  have g2 : ¬ (F.length : Int) < (cf : Int) := by omega
  have g3 : ¬ (R.length : Int) < (cr : Int) := by omega
  go_enter Try.func17, Try.ntmps17
  go_wp2_with (first | (go_at_call 38; refine (SR w1 HBW.out).out.mono ?_; rintro e w2 ⟨rfl, hb2⟩; have hbx := (hb2.block _ hsx).trans HBX.out; have hby := (hb2.block _ hsy).trans HBY.out; have hsx2 : w.heap.size < w2.heap.size := (by have := hb2.size; omega); have hsy2 : w.heap.size + 1 < w2.heap.size := (by have := hb2.size; omega); clear p0 p1 p2 q0 q1 q2; obtain ⟨p0, p1, p2, -, -, -⟩ := box3 hbx; obtain ⟨q0, q1, q2, -, -, -⟩ := box3 hby; have HBX2 := Lib.hid hbx; have HBY2 := Lib.hid hby; have HBW2 := Lib.hid (below_via HBW.out hb2); clear hbx hby hb2) | (go_at_call 38; refine (SF _ (hb0 _ _)).out.mono ?_; rintro e w1 ⟨rfl, hb1⟩; obtain ⟨hbx, hby, hsz, hbw⟩ := two_at hb1; obtain ⟨p0, p1, p2, -, -, -⟩ := box3 hbx; obtain ⟨q0, q1, q2, -, -, -⟩ := box3 hby; have HBX := Lib.hid hbx; have HBY := Lib.hid hby; have HBW := Lib.hid hbw; have hsx : w.heap.size < w1.heap.size := (by omega); have hsy : w.heap.size + 1 < w1.heap.size := (by omega); clear hbx hby hbw hb1))
  clear p0 p1 p2 q0 q1 q2
  go_loopw [5, 6] (fun s5 _ wr => ∃ i : Nat, i ≤ L.length ∧ s5 = .int .i64 i ∧ Hid (Below w2.heap.size w2 wr)) (fun s5 _ _ => L.length - (intOf s5).toNat)
  case atStart => exact ⟨0, Nat.zero_le _, rfl, Lib.hid (Below.refl _ _)⟩
  case round =>
    obtain ⟨i, hi, rfl, HB⟩ := hrel
    have hbx := (HB.out.block _ hsx2).trans HBX2.out
    have hby := (HB.out.block _ hsy2).trans HBY2.out
    obtain ⟨p0, p1, p2, -, -, -⟩ := box3 hbx
    obtain ⟨q0, q1, q2, -, -, -⟩ := box3 hby
    have hsx3 : w.heap.size < wr.heap.size := by have := HB.out.size; omega
    have hsy3 : w.heap.size + 1 < wr.heap.size := by have := HB.out.size; omega
    clear hbx hby
    by_cases hlt : i < L.length
    · have e1 : L[i]? = some L[i] := List.getElem?_eq_getElem hlt
      have hlt1 : (i : Int) < (L.length : Int) := by omega
      have hi0 : (0 : Int) ≤ (i : Int) := by omega
      generalize L[i] = x at e1
      have hb20 := HBW2.out.trans (HB.out.mono HBW2.out.size)
      obtain ⟨b1, o1, ea, -, hb1, -, c0, c1, c2, c3⟩ := lab_at (HPL.out.up hb20) e1
      obtain ⟨b2, o2, eb, -, hb2, -, d0, d1, d2, d3⟩ := lab_at (HQL.out.up hb20) e1
      rw [ea] at p0
      rw [eb] at q0
      have HEA := Lib.hid (And.intro ea eb)
      clear e1 ea eb hb20
      obtain ⟨kd, key, kk, tt⟩ := x
      simp only at c0 c1 c2 c3 d0 d1 d2 d3
      go_upto_region 7 with fail
      go_name_world WX hWX
      have hX := (show WX.heap[wr.heap.size]? = some (.cells #[.bool kd, .string key, .int .u8 kk, .string tt] 46 (0, 0)) by rw [← hWX]; exact heap_alloc_new wr _)
      have hbX : Below wr.heap.size wr WX := by rw [← hWX]; exact (Below.refl _ _).alloc (Nat.le_refl _) _
      clear hWX
      obtain ⟨x0, x1, x2, x3⟩ := four19 hX
      have LD := Lib.hid (fun W (h : Below WX.heap.size WX W) => And.intro (blk_v h x0) (And.intro (blk_v h x1) (And.intro (blk_v h x2) (And.intro (blk_v h x3) (And.intro (blk_v h (blk_v hbX q0)) (And.intro (blk_v h (blk_v hbX d0)) (And.intro (blk_v h (blk_v hbX d1)) (And.intro (blk_v h (blk_v hbX d2)) (blk_v h (blk_v hbX d3))))))))))
      have HBX3 := Lib.hid hbX
      clear p0 p1 p2 q0 q1 q2 c0 c1 c2 c3 d0 d1 d2 d3 x0 x1 x2 x3 hX hbX
      refine wp_region_bl (by kernel_rfl) (by kernel_rfl) ?_
      repeat (first | go_big_quiet_skip | (go_big_quiet_want; go_big_quiet_op; first | go_big_quiet_on | (refine ⟨_, fun _ _ => (by with_reducible rfl), ?_⟩; go_big_quiet_on) | (apply Exists.intro; refine ⟨fun w' hC => (by simp only [LD.out w' hC, Result.andThen]; exact ⟨trivial, rfl⟩), ?_⟩; go_big_quiet_on)))
      refine wpQuiet_nil ?_; intro wz hbz
      go_wp2_with fail
      exact ⟨⟨i + 1, by omega, by go_num, Lib.hid (HB.out.trans ((below_via HBX3.out hbz).mono HB.out.size))⟩, by simp [intOf]; omega⟩
    · obtain rfl : i = L.length := by omega
      go_wp2_with fail
      go_ret
      exact ⟨rfl, below_via HBW2.out HB.out⟩
end Go.Proofs.Ytmhkacafilpliaa
