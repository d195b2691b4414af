/-
  edits: the table is filled for two roots. Conditions: it lies in memory, its rows apart from what is read; the trees that stand below the two roots, but not leftmost in both, are known.
-/
import Derived.Test.YtmhkacafilpliaaGreatEE
import Derived.Test.YtmhkacafilpliaaGreatRB
import Derived.Lib.ItoaWalk
namespace Go.Proofs.YtmhkacafilpliaaGreat
open Go.RowKit Go.Sort Go.Shelf Go.BigFrame

theorem blkv {w W : World} {a : Addr} {v : Value} (h : Below w.heap.size w W) (hc : w.cell? a = some v) : W.cell? a = some v := (h.cell (World.block_lt_of_cell? w a hc)).trans hc
theorem sx_of {N : Nat} {W2 w' : World} (hb : Below N W2 w') : (∀ b o, b < N → w'.cell? ⟨b, o, none⟩ = W2.cell? ⟨b, o, none⟩) ∧ Below N W2 w' := ⟨fun b o hlt => hb.cell (p := ⟨b, o, none⟩) hlt, hb⟩
theorem cell1_new (w : World) (v : Value) (t : TypeId) : ((w.alloc (.cells #[v] t)).drew).cell? ⟨w.heap.size, 0, none⟩ = some v := by
  have h : (w.alloc (.cells #[v] t)).heap[w.heap.size]? = some (.cells #[v] t (0, 0)) := heap_alloc_new w (.cells #[v] t)
  show (w.alloc (.cells #[v] t)).cell? ⟨w.heap.size, 0, none⟩ = some v
  simp only [World.cell?, h]
  rfl
theorem cell1_new' (w : World) (v : Value) (t : TypeId) : (w.alloc (.cells #[v] t)).cell? ⟨w.heap.size, 0, none⟩ = some v := cell1_new w v t
theorem sk_of {RB : Nat} {W2 w' : World} (h : KpM RB (RB + 1) W2 w') : (∀ b o, ¬ b = RB → b < W2.heap.size → w'.cell? ⟨b, o, none⟩ = W2.cell? ⟨b, o, none⟩) ∧ KpM RB (RB + 1) W2 w' := ⟨fun b o h1 h2 => h.cell h2 (by omega), h⟩
theorem eight {w : World} {g : Nat} {v0 v1 v2 v3 v4 v5 v6 v7 : Value} {t : TypeId} (h : w.heap[g]? = some (.cells #[v0, v1, v2, v3, v4, v5, v6, v7] t (0, 0))) :
    w.cell? ⟨g, 0, none⟩ = some v0 ∧ w.cell? ⟨g, 1, none⟩ = some v1 ∧ w.cell? ⟨g, 2, none⟩ = some v2 ∧ w.cell? ⟨g, 3, none⟩ = some v3 ∧ w.cell? ⟨g, 4, none⟩ = some v4 ∧ w.cell? ⟨g, 5, none⟩ = some v5 ∧ w.cell? ⟨g, 6, none⟩ = some v6 ∧ w.cell? ⟨g, 7, none⟩ = some v7 := by
  refine ⟨?_, ?_, ?_, ?_, ?_, ?_, ?_, ?_⟩ <;> simp [World.cell?, h]
def FillPost (T : Two) (TB FB lo N1 M1 x y : Nat) (M : Nat → Nat → Int) (w : World) (e : Ending) (w' : World) : Prop := e = .returned (.tuple #[]) ∧ ∃ M' f', Mat w' TB T.n T.m M' ∧ Mat w' FB N1 M1 f' ∧ T.Filled M M' x y ∧ KpM TB lo w w'
set_option maxRecDepth 100000 in
set_option maxHeartbeats 6400000 in
theorem fill_c (w : World) (T : Two) (tb TB FB lo N1 M1 : Nat) (ba oa bb ob ca cb : Nat) (v0 v2 v3 v5 : Value) (x y : Nat) (M f0 : Nat → Nat → Int)
    (hbx : w.heap[tb]? = some (.cells #[v0, .slice (some ⟨ba, oa, none⟩) T.n ca, v2, v3, .slice (some ⟨bb, ob, none⟩) T.m cb, v5, .slice (some ⟨TB, 0, none⟩) T.n T.n, .slice (some ⟨FB, 0, none⟩) N1 N1] 90 (0, 0)))
    (hn : T.n ≤ 4096) (hm : T.m ≤ 4096) (hN1 : N1 = T.n + 1) (hM1 : M1 = T.m + 1) (hTF : TB + T.n < FB) (hFl : FB + N1 < lo) (htb : lo ≤ tb)
    (hba : lo ≤ ba) (hba2 : ba < w.heap.size) (hbb : lo ≤ bb) (hbb2 : bb < w.heap.size)
    (hfa : ∀ i, i < T.n → w.cell? ⟨ba, oa + i, none⟩ = some (.int .i64 (T.fa i : Nat))) (hfb : ∀ k, k < T.m → w.cell? ⟨bb, ob + k, none⟩ = some (.int .i64 (T.fb k : Nat)))
    (hrl : ∀ W i k, KpM TB lo w W → i < T.n → k < T.m → Calls Tryz.prog 88 #[.pointer (some ⟨tb, 0, none⟩), .int .i64 (i : Int), .int .i64 (k : Int)] W (Ret (.int .i64 (rel (T.la i) (T.lb k) : Nat)) W))
    (hMT : Mat w TB T.n T.m M) (hMF : Mat w FB N1 M1 f0) (hx : x < T.n) (hy : y < T.m)
    (hknown : ∀ i k, T.fa x ≤ i → i ≤ x → T.fb y ≤ k → k ≤ y → ¬ (T.fa i = T.fa x ∧ T.fb k = T.fb y) → M i k = (T.tree i k : Nat)) :
    Calls Tryz.prog 72 #[.pointer (some ⟨tb, 0, none⟩), .int .i64 (x : Int), .int .i64 (y : Int)] w (FillPost T TB FB lo N1 M1 x y M w) := by
  have htl : tb < w.heap.size := (Array.getElem?_eq_some_iff.1 hbx).1
  have HBX := fun W (h : KpM TB lo w W) => Lib.hid (eight ((h.2.2.2.2 tb htl (.inr htb)).trans hbx))
  have HFA := fun W (h : KpM TB lo w W) i (hi : i < T.n) => Lib.hid ((h.cell hba2 (.inr hba)).trans (hfa i hi))
  have HFB := fun W (h : KpM TB lo w W) k (hk : k < T.m) => Lib.hid ((h.cell hbb2 (.inr hbb)).trans (hfb k hk))
  have HRL := fun W i k (h : KpM TB lo w W) (hi : i < T.n) (hk : k < T.m) => Lib.hid (hrl W i k h hi hk)
  have HMT := Lib.hid hMT
  have HMF := Lib.hid hMF
  have HKN := Lib.hid hknown
  have hNa : T.n < N1 := by omega
  have hNb : N1 ≤ T.n + 1 := by omega
  have hMa : T.m < M1 := by omega
  have hMb : M1 ≤ T.m + 1 := by omega
  clear hN1 hM1
  obtain ⟨fr, hfr⟩ : ∃ fr, fr = T.fa x := ⟨_, rfl⟩
  obtain ⟨at_, hat⟩ : ∃ at_, at_ = T.fb y := ⟨_, rfl⟩
  have hfrx : fr ≤ x := by rw [hfr]; exact T.ha.le x hx
  have haty : at_ ≤ y := by rw [hat]; exact T.hb.le y hy
  have HFR := Lib.hid hfr
  have HAT := Lib.hid hat
  have hx' : (x : Int) < (T.n : Int) := by omega
  have hy' : (y : Int) < (T.m : Int) := by omega
  have hx0 : (0 : Int) ≤ (x : Int) := by omega
  have hy0 : (0 : Int) ≤ (y : Int) := by omega
  obtain ⟨p0, p1, p2, p3, p4, p5, p6, p7⟩ := (HBX w KpM.refl).out
  have gx := (HFA w KpM.refl x hx).out
  have gy := (HFB w KpM.refl y hy).out
  rw [← hfr] at gx
  rw [← hat] at gy
  have LD := Lib.hid (fun W (h : Below w.heap.size w W) => And.intro (blkv h p1) (And.intro (blkv h p4) (And.intro (blkv h gx) (blkv h gy))))
  clear hfr hat hbx hfa hfb hrl hMT hMF hknown p0 p1 p2 p3 p4 p5 p6 p7 gx gy
  go_enter Tryz.func72, Tryz.ntmps72
  go_upto_region 0 with fail
  refine wp_region_bl (by kernel_rfl) (by kernel_rfl) ?_
  repeat (first | go_big_quiet_skip | (go_big_quiet_want; go_big_quiet_op; first | go_big_quiet_on | (refine ⟨_, fun _ _ => (by with_reducible rfl), ?_⟩; go_big_quiet_on) | (apply Exists.intro; refine ⟨fun w' hC => (by simp only [LD.out w' hC, Result.andThen]; exact ⟨trivial, rfl⟩), ?_⟩; go_big_quiet_on)))
  refine wpQuiet_nil ?_; intro wz hbz
  have hkz := KpM.of_below (a := TB) (b := lo) hbz
  obtain ⟨-, -, -, -, -, -, -, p7⟩ := (HBX wz hkz).out
  have hsz := hbz.size
  have HTZ := Lib.hid (HMT.out.keep (w' := wz) fun k h1 h2 => hbz.block k (by have := HMF.out.top.lt; omega))
  have HFZ := Lib.hid (HMF.out.keep (w' := wz) fun k h1 h2 => hbz.block k (by have := HMF.out.lt (p := N1 - 1) (by omega); omega))
  have HKZ := Lib.hid hkz
  clear hkz hbz hsz LD
  go_wp2_with fail
  clear p7
  go_loopw [9] (fun s9 wr => ∃ (i : Nat) (f : Nat → Nat → Int), fr ≤ i ∧ i ≤ x + 2 ∧ s9 = .int .i64 (i : Int) ∧ Hid (Mat wr FB N1 M1 f) ∧ Hid (∀ j, fr + j < i → f j 0 = (j : Int)) ∧ Hid (Mat wr TB T.n T.m M) ∧ Hid (KpM TB lo w wr)) (fun s9 _ => x + 2 - (intOf s9).toNat)
  case atStart => exact ⟨fr, f0, Nat.le_refl _, by omega, rfl, HFZ, Lib.hid (fun j hj => by omega), HTZ, HKZ⟩
  case round =>
    obtain ⟨i, f, hi1, hi2, rfl, HF, HJ, HT, HK⟩ := hrel
    by_cases hlt : i ≤ x + 1
    · obtain ⟨p, hp⟩ : ∃ p, i = fr + p := ⟨i - fr, by omega⟩
      have hsub : (i : Int) - (fr : Int) = (p : Int) := by omega
      have hpN : p < N1 := by omega
      have hM0 : 0 < M1 := by omega
      have c0 := HF.out.top.cell hpN
      have z0 := (HF.out.row p hpN).froz 0
      have e0 := (HF.out.row p hpN).cell hM0
      have hlt' : (i : Int) ≤ (x : Int) + 1 := by omega
      have HP := Lib.hid hp
      have HF2 := Lib.hid (HF.out.set hpN 0 (p : Int))
      have HT2 := Lib.hid (HT.out.keep (w' := wr.setCell ⟨FB + 1 + p, 0, none⟩ (.int .i64 (p : Int))) fun k h1 h2 => Below.heap_setCell _ _ _ k (by show k ≠ FB + 1 + p; omega))
      have HK2 := Lib.hid (HK.out.set ⟨FB + 1 + p, 0, none⟩ (.int .i64 (p : Int)) (by show TB ≤ FB + 1 + p; omega) (by show FB + 1 + p < lo; omega))
      clear hp
      go_wp2_with fail
      refine ⟨⟨i + 1, _, by omega, by omega, by go_num, HF2, Lib.hid (fun j hj => ?_), HT2, HK2⟩, by simp [intOf]; omega⟩
      have := HP.out
      show (if j = p ∧ (0 : Nat) = 0 then (p : Int) else f j 0) = (j : Int)
      by_cases e : j = p
      · rw [if_pos ⟨e, rfl⟩, e]
      · rw [if_neg (fun h => e h.1)]; exact HJ.out j (by omega)
    · have hge : ¬ (i : Int) ≤ (x : Int) + 1 := by omega
      go_wp2_with fail
      have HJ1 := Lib.hid (show ∀ j, fr + j ≤ x + 1 → f j 0 = (j : Int) from fun j hj => HJ.out j (by omega))
      clear HJ hge hlt hi1 hi2
      obtain ⟨W1, hW1⟩ : ∃ W1, W1 = wr := ⟨_, rfl⟩
      subst hW1
      go_loopw [10] (fun s10 wr => ∃ (k : Nat) (f : Nat → Nat → Int), at_ ≤ k ∧ k ≤ y + 2 ∧ s10 = .int .i64 (k : Int) ∧ Hid (Mat wr FB N1 M1 f) ∧ Hid (∀ j, fr + j ≤ x + 1 → f j 0 = (j : Int)) ∧ Hid (∀ q, at_ + q < k → f 0 q = (q : Int)) ∧ Hid (Mat wr TB T.n T.m M) ∧ Hid (KpM TB lo w wr)) (fun s10 _ => y + 2 - (intOf s10).toNat)
      case atStart => exact ⟨at_, f, Nat.le_refl _, by omega, rfl, HF, HJ1, Lib.hid (fun j hj => by omega), HT, HK⟩
      case round =>
        clear HF HJ1 HT HK
        obtain ⟨k, f, hk1, hk2, rfl, HF, HJ, HQ, HT, HK⟩ := hrel
        by_cases hlt : k ≤ y + 1
        · obtain ⟨q, hq⟩ : ∃ q, k = at_ + q := ⟨k - at_, by omega⟩
          have hsub : (k : Int) - (at_ : Int) = (q : Int) := by omega
          have hqM : q < M1 := by omega
          have hN0 : 0 < N1 := by omega
          have c0 := HF.out.top.cell hN0
          have z0 := (HF.out.row 0 hN0).froz q
          have e0 := (HF.out.row 0 hN0).cell hqM
          have hlt' : (k : Int) ≤ (y : Int) + 1 := by omega
          have HP := Lib.hid hq
          have HF2 := Lib.hid (HF.out.set hN0 q (q : Int))
          have HT2 := Lib.hid (HT.out.keep (w' := wr.setCell ⟨FB + 1 + 0, q, none⟩ (.int .i64 (q : Int))) fun k h1 h2 => Below.heap_setCell _ _ _ k (by show k ≠ FB + 1 + 0; omega))
          have HK2 := Lib.hid (HK.out.set ⟨FB + 1 + 0, q, none⟩ (.int .i64 (q : Int)) (by show TB ≤ FB + 1 + 0; omega) (by show FB + 1 + 0 < lo; omega))
          clear hq
          go_wp2_with fail
          refine ⟨⟨k + 1, _, by omega, by omega, by go_num, HF2, Lib.hid (fun j hj => ?_), Lib.hid (fun r hr => ?_), HT2, HK2⟩, by simp [intOf]; omega⟩
          · show (if j = 0 ∧ (0 : Nat) = q then (q : Int) else f j 0) = (j : Int)
            by_cases e : j = 0 ∧ 0 = q
            · rw [if_pos e]; have := e.1; have := e.2; omega
            · rw [if_neg e]; exact HJ.out j hj
          · have := HP.out
            show (if (0 : Nat) = 0 ∧ r = q then (q : Int) else f 0 r) = (r : Int)
            by_cases e : r = q
            · rw [if_pos ⟨rfl, e⟩, e]
            · rw [if_neg (fun h => e h.2)]; exact HQ.out r (by omega)
        · have hge : ¬ (k : Int) ≤ (y : Int) + 1 := by omega
          go_wp2_with fail
          have HQ1 := Lib.hid (show ∀ q, at_ + q ≤ y + 1 → f 0 q = (q : Int) from fun q hq => HQ.out q (by omega))
          clear HQ hge hlt hk1 hk2
          obtain ⟨W2, hW2⟩ : ∃ W2, W2 = wr := ⟨_, rfl⟩
          subst hW2
          have HFS := Lib.hid (Two.FR.start (T := T) HFR.out HAT.out hx hy HQ1.out)
          clear HQ1
          go_loopw [11] (fun s11 wr => ∃ (i : Nat) (f M' : Nat → Nat → Int), fr ≤ i ∧ i ≤ x + 1 ∧ s11 = .int .i64 (i : Int) ∧ Hid (Mat wr FB N1 M1 f) ∧ Hid (Two.F0 fr x f) ∧ Hid (T.FR fr at_ y i f) ∧ Hid (Mat wr TB T.n T.m M') ∧ Hid (T.MK fr at_ y i at_ M M') ∧ Hid (KpM TB lo w wr)) (fun s11 _ => x + 1 - (intOf s11).toNat)
          case atStart => exact ⟨fr, f, M, Nat.le_refl _, by omega, rfl, HF, HJ, HFS, HT, Lib.hid Two.MK.start, HK⟩
          case round =>
            clear HF HJ HFS HT HK
            obtain ⟨i, f, M', hi1, hi2, rfl, HF, HJ, HR, HT, HM, HK⟩ := hrel
            by_cases hlt : i ≤ x
            · obtain ⟨p, hp⟩ : ∃ p, i = fr + p := ⟨i - fr, by omega⟩
              have hlt' : (i : Int) ≤ (x : Int) := by omega
              have hpN : p + 1 < N1 := by omega
              have hpx : fr + p ≤ x := by omega
              have HFK := Lib.hid (Two.FK.start (T := T) (at_ := at_) (p := p) HFR.out hx hlt hp HJ.out)
              have HP := Lib.hid hp
              clear hp
              obtain ⟨W3, hW3⟩ : ∃ W3, W3 = wr := ⟨_, rfl⟩
              subst hW3
              go_wp2_with fail
              go_loopw [12] (fun s12 wr => ∃ (k : Nat) (f M' : Nat → Nat → Int), at_ ≤ k ∧ k ≤ y + 1 ∧ s12 = .int .i64 (k : Int) ∧ Hid (Mat wr FB N1 M1 f) ∧ Hid (Two.F0 fr x f) ∧ Hid (T.FR fr at_ y i f) ∧ Hid (T.FK fr at_ i k (p + 1) f) ∧ Hid (Mat wr TB T.n T.m M') ∧ Hid (T.MK fr at_ y i k M M') ∧ Hid (KpM TB lo w wr)) (fun s12 _ => y + 1 - (intOf s12).toNat)
              case atStart => exact ⟨at_, f, M', Nat.le_refl _, by omega, rfl, HF, HJ, HR, HFK, HT, HM, HK⟩
              case round =>
                clear HF HJ HR HFK HT HM HK
                obtain ⟨k, f, M', hk1, hk2, rfl, HF, HJ, HR, HFK, HT, HM, HK⟩ := hrel
                by_cases hky : k ≤ y
                · obtain ⟨q, hq⟩ : ∃ q, k = at_ + q := ⟨k - at_, by omega⟩
                  have hky' : (k : Int) ≤ (y : Int) := by omega
                  have hqM : q + 1 < M1 := by omega
                  have hp := HP.out
                  have hw1 : (i : Int) - (fr : Int) = (p : Int) := by omega
                  have hw2 : (k : Int) - (at_ : Int) = (q : Int) := by omega
                  have HQ := Lib.hid hq
                  obtain ⟨A1, hA1⟩ : ∃ A1, A1 = f p (q + 1) := ⟨_, rfl⟩
                  obtain ⟨A2, hA2⟩ : ∃ A2, A2 = f (p + 1) q := ⟨_, rfl⟩
                  have b1 := HR.out.bnd HFR.out HAT.out hx hy (by omega) (j := p) (q := q + 1) (by omega) (by omega)
                  have b2 := HFK.out.bnd HFR.out HAT.out hx hy (by omega) (by omega) (by omega) (q := q) (by omega)
                  have c1 := HF.out.top.cell (j := p) (by omega)
                  have c2 := HF.out.top.cell (j := p + 1) (by omega)
                  have d1 := (HF.out.row p (by omega)).cell (j := q + 1) (by omega)
                  have d2 := (HF.out.row (p + 1) (by omega)).cell (j := q) (by omega)
                  rw [← hA1] at b1 d1
                  rw [← hA2] at b2 d2
                  have HA1 := Lib.hid hA1
                  have HA2 := Lib.hid hA2
                  have l0 := HF.out.top.lt
                  have l1 := HF.out.lt (p := p) (by omega)
                  have l2 := HF.out.lt (p := p + 1) (by omega)
                  obtain ⟨W4, hW4⟩ : ∃ W4, W4 = wr := ⟨_, rfl⟩
                  subst hW4
                  have i1 : (p : Int) < (N1 : Int) := by omega
                  have i2 : (p : Int) + 1 < (N1 : Int) := by omega
                  have i3 : (q : Int) < (M1 : Int) := by omega
                  have i4 : (q : Int) + 1 < (M1 : Int) := by omega
                  have j1 : (0 : Int) ≤ (p : Int) := by omega
                  have j2 : (0 : Int) ≤ (p : Int) + 1 := by omega
                  have j3 : (0 : Int) ≤ (q : Int) := by omega
                  have j4 : (0 : Int) ≤ (q : Int) + 1 := by omega
                  have i4n : q + 1 < M1 := by omega
                  have v1 : IntKind.i64.wrap (p : Int) = (p : Int) := IntWalk.i64_in _ (by omega)
                  have v2 : IntKind.i64.wrap (q : Int) = (q : Int) := IntWalk.i64_in _ (by omega)
                  have v3 : IntKind.i64.wrap (A1 + 1) = A1 + 1 := IntWalk.i64_in _ (by omega)
                  have v4 : IntKind.i64.wrap (A2 + 1) = A2 + 1 := IntWalk.i64_in _ (by omega)
                  clear hq hp hA1 hA2
                  go_upto_region 17 with fail
                  obtain ⟨one, hone⟩ : ∃ one, one = min (A1 + 1) (A2 + 1) := ⟨_, rfl⟩
                  have HL1 := Lib.hid (show Calls Tryz.prog 87 #[.int .i64 (A1 + 1), .slice (some ⟨W4.heap.size, 0, none⟩) 1 1] ((W4.alloc (.cells #[.int .i64 (A2 + 1)] 3)).drew) (Ret (.int .i64 one) ((W4.alloc (.cells #[.int .i64 (A2 + 1)] 3)).drew)) by rw [hone]; exact least_c ((W4.alloc (.cells #[.int .i64 (A2 + 1)] 3)).drew) (A1 + 1) (A2 + 1) W4.heap.size (cell1_new W4 _ _))
                  have HONE := Lib.hid hone
                  clear hone
                  go_region_held3 (fun w' => (∀ b o, b < W4.heap.size → w'.cell? ⟨b, o, none⟩ = W4.cell? ⟨b, o, none⟩) ∧ Below W4.heap.size W4 w')
                    (first | (with_reducible exact Q1.out) | exact sx_of (Below.refl _ _).drew | exact sx_of ((Below.refl _ _).alloc (Nat.le_refl _) _).drew)
                    (first
                      | (go_at_call 87; (with_reducible refine (HL1.out).mono ?_); rintro e w5 ⟨rfl, hb5⟩
                         have Q1 := Lib.hid (sx_of (below_via ((Below.refl W4.heap.size W4).alloc (Nat.le_refl _) _).drew hb5))))
                  obtain ⟨hq5, hb5⟩ := Q1.out
                  have hk5 := KpM.of_below (a := TB) (b := lo) hb5
                  have HB5 := Lib.hid hb5
                  have HK5 := Lib.hid (HK.out.trans hk5)
                  obtain ⟨g0, g1, g2, g3, g4, g5, g6, g7⟩ := (HBX w5 HK5.out).out
                  have e1 := (HFA w5 HK5.out i (by omega)).out
                  have e2 := (HFB w5 HK5.out k (by omega)).out
                  have LD := Lib.hid (fun W (h : Below w5.heap.size w5 W) => And.intro (blkv h g1) (And.intro (blkv h g4) (And.intro (blkv h e1) (blkv h e2))))
                  have x1 : (i : Int) < (T.n : Int) := by omega
                  have x2 : (k : Int) < (T.m : Int) := by omega
                  have x3 : (0 : Int) ≤ (i : Int) := by omega
                  have x4 : (0 : Int) ≤ (k : Int) := by omega
                  obtain ⟨l, hl⟩ : ∃ l, l = T.fa i := ⟨_, rfl⟩
                  obtain ⟨m, hm⟩ : ∃ m, m = T.fb k := ⟨_, rfl⟩
                  rw [← hl, ← hm] at LD
                  have HL := Lib.hid hl
                  have HM2 := Lib.hid hm
                  clear g0 g1 g2 g3 g4 g5 g6 g7 e1 e2 hq5 hb5 hk5 c1 c2 d1 d2 HL1 hl hm
                  go_upto_region 18 with fail
                  refine wp_region_bl (by kernel_rfl) (by kernel_rfl) ?_
                  repeat (first | go_big_quiet_skip | (go_big_quiet_want; go_big_quiet_op; first | go_big_quiet_on | (refine ⟨_, fun _ _ => (by with_reducible rfl), ?_⟩; go_big_quiet_on) | (apply Exists.intro; refine ⟨fun w' hC => (by simp only [LD.out w' hC, Result.andThen]; exact ⟨trivial, rfl⟩), ?_⟩; go_big_quiet_on)))
                  refine wpQuiet_nil ?_; intro wz hbz
                  have HBZ := Lib.hid hbz
                  have HK6 := Lib.hid (HK5.out.trans (KpM.of_below hbz))
                  have HB6 := Lib.hid (below_via HB5.out hbz)
                  have hs6 : W4.heap.size ≤ wz.heap.size := HB6.out.size
                  have HF6 := Lib.hid (HF.out.keep (w' := wz) fun k h1 h2 => HB6.out.block k (by have := HF.out.lt (p := N1 - 1) (by omega); omega))
                  have HT6 := Lib.hid (HT.out.keep (w' := wz) fun k h1 h2 => HB6.out.block k (by omega))
                  obtain ⟨W6, hW6⟩ : ∃ W6, W6 = wz := ⟨_, rfl⟩
                  subst hW6
                  obtain ⟨RA, hRA⟩ : ∃ RA, RA = FB + 1 + p := ⟨_, rfl⟩
                  obtain ⟨RB, hRB⟩ : ∃ RB, RB = FB + 1 + (p + 1) := ⟨_, rfl⟩
                  have c1 := HF6.out.top.cell (j := p) (by omega)
                  have c2 := HF6.out.top.cell (j := p + 1) (by omega)
                  rw [← hRA] at c1
                  rw [← hRB] at c2
                  have n1 : ¬ FB = RB := by omega
                  have n2 : ¬ RA = RB := by omega
                  have l1 : FB < W6.heap.size := by omega
                  have l2 : RA < W6.heap.size := by omega
                  have l3 : RB < W6.heap.size := by omega
                  have l4 : TB ≤ RB := by omega
                  have l5 : RB < lo := by omega
                  have hrowB : RowI W6 RB M1 3 (fun q => .int .i64 (f (p + 1) q)) := by rw [hRB]; exact HF6.out.row (p + 1) (by omega)
                  by_cases hlm : l = fr ∧ m = at_
                  · have t1 : (l : Int) = (fr : Int) := by omega
                    have t2 : ((m : Int) == (at_ : Int)) = true := by simp; omega
                    obtain ⟨A3, hA3⟩ : ∃ A3, A3 = f p q := ⟨_, rfl⟩
                    obtain ⟨r, hr⟩ : ∃ r, r = rel (T.la i) (T.lb k) := ⟨_, rfl⟩
                    have b3 := HR.out.bnd HFR.out HAT.out hx hy (by omega) (j := p) (q := q) (by have := HP.out; omega) (by have := HQ.out; omega)
                    have br : r ≤ 1 := by rw [hr]; exact rel_le _ _
                    have d3 := (HF6.out.row p (by omega)).cell (j := q) (by omega)
                    rw [← hA3] at b3 d3
                    rw [← hRA] at d3
                    have v5 : IntKind.i64.wrap (A3 + (r : Int)) = A3 + (r : Int) := IntWalk.i64_in _ (by omega)
                    have HCR := Lib.hid (show Calls Tryz.prog 88 #[.pointer (some ⟨tb, 0, none⟩), .int .i64 (i : Int), .int .i64 (k : Int)] W6.drew (Ret (.int .i64 (r : Int)) W6.drew) by rw [hr]; exact (HRL W6.drew i k (HK6.out.trans (KpM.of_below (Below.refl _ _).drew)) (by omega) (by omega)).out)
                    have HRW := Lib.hid hrowB
                    have HA3 := Lib.hid hA3
                    have HR3 := Lib.hid hr
                    have HRB := Lib.hid hRB
                    have HRA := Lib.hid hRA
                    have HLM := Lib.hid hlm
                    clear hrowB hA3 hr hRB hRA hlm LD
                    go_upto_region 20 with fail
                    go_region_held3 (fun w' => (∀ b o, ¬ b = RB → b < W6.heap.size → w'.cell? ⟨b, o, none⟩ = W6.cell? ⟨b, o, none⟩) ∧ KpM RB (RB + 1) W6 w')
                      (first | (with_reducible exact Q2.out) | (with_reducible exact Q1.out) | (with_reducible exact Q3.out) | exact sk_of (KpM.of_below (Below.refl _ _).drew))
                      (first
                        | (go_at_call 88; (with_reducible refine HCR.out.mono ?_); rintro e w7 ⟨rfl, hb7⟩
                           have Q1 := Lib.hid (sk_of (RB := RB) (KpM.of_below (below_of_drew hb7 : Below W6.heap.size W6 w7)))
                           have Q3 := Lib.hid (sk_of (RB := RB) (KpM.of_below (below_via (below_of_drew hb7 : Below W6.heap.size W6 w7) ((Below.refl w7.heap.size w7).alloc (Nat.le_refl _) (.cells #[.int .i64 (A3 + (r : Int))] 3)))))
                           have HL2 := Lib.hid (least_c (w7.alloc (.cells #[.int .i64 (A3 + (r : Int))] 3)) one (A3 + (r : Int)) w7.heap.size (cell1_new' w7 _ _))
                           have HB7 := Lib.hid (below_of_drew hb7 : Below W6.heap.size W6 w7)
                           clear hb7)
                        | (go_at_call 87; (with_reducible refine HL2.out.mono ?_); rintro e w8 ⟨rfl, hb8⟩
                           have hb68 := below_via HB7.out (below_via ((Below.refl w7.heap.size w7).alloc (Nat.le_refl _) _) hb8)
                           have hr8 := HRW.out.up hb68
                           have e1 := hr8.cell (j := q + 1) i4n
                           have e2 := hr8.froz (q + 1)
                           have Q1 := Lib.hid (sk_of (RB := RB) (KpM.of_below hb68))
                           have Q2 := Lib.hid (sk_of (RB := RB) ((KpM.of_below hb68).set ⟨RB, q + 1, none⟩ (.int .i64 (min one (A3 + (r : Int)))) (Nat.le_refl _) (Nat.lt_succ_self _)))
                           have HB8 := Lib.hid hb68
                           clear hb68 hr8 hb8))
                    obtain ⟨v, hv⟩ : ∃ v, v = min one (A3 + (r : Int)) := ⟨_, rfl⟩
                    rw [← hv]
                    have hval : v = (T.far fr (i + 1) at_ (k + 1) : Nat) := by
                      have hc := Two.cell_left (T := T) (f := f) (p := p) (q := q) HFR.out HAT.out hx hy hlt hky HP.out HQ.out HR.out HFK.out (by rw [← HL.out]; exact HLM.out.1) (by rw [← HM2.out]; exact HLM.out.2)
                      rw [← hc, hv, HONE.out, HA1.out, HA2.out, HA3.out, HR3.out]
                    have htree : v = (T.tree i k : Nat) := by
                      rw [hval, Two.tree, ← HL.out, ← HM2.out, HLM.out.1, HLM.out.2]
                    go_upto_region 21 with fail
                    go_name_world W9 hW9
                    have mf9 : Mat W9 FB N1 M1 (fun a b => if a = p + 1 ∧ b = q + 1 then v else f a b) := by
                      rw [← hW9, HRB.out]
                      exact (HF6.out.keep fun k h1 h2 => HB8.out.block k (by have := HF6.out.lt (p := N1 - 1) (by omega); omega)).set (by omega) (q + 1) v
                    have mt9 : Mat W9 TB T.n T.m M' := by
                      rw [← hW9]
                      exact (HT6.out.keep fun k h1 h2 => HB8.out.block k (by omega)).keep fun k h1 h2 => Below.heap_setCell _ _ _ k (by show k ≠ RB; have := HRB.out; omega)
                    have mk9 : KpM TB lo w W9 := by
                      rw [← hW9]
                      exact (HK6.out.trans (KpM.of_below HB8.out)).set ⟨RB, q + 1, none⟩ (.int .i64 v) l4 l5
                    clear hW9 HL2 Q1 Q2 Q3 hv
                    obtain ⟨RT, hRT⟩ : ∃ RT, RT = TB + 1 + i := ⟨_, rfl⟩
                    obtain ⟨g0, g1, g2, g3, g4, g5, g6, g7⟩ := (HBX W9 mk9).out
                    have c5 := mf9.top.cell (j := p + 1) (by omega)
                    have c6 := mt9.top.cell (j := i) (by omega)
                    have d5 := (mf9.row (p + 1) (by omega)).cell (j := q + 1) i4n
                    simp only [and_self, if_true] at d5
                    rw [← HRB.out] at c5 d5
                    have hrt : RowI W9 RT T.m 3 (fun q => .int .i64 (M' i q)) := by rw [hRT]; exact mt9.row i (by omega)
                    rw [← hRT] at c6
                    have e5 := hrt.cell (j := k) (by omega)
                    have e6 := hrt.froz k
                    have n3 : ¬ FB = RT := by omega
                    have n4 : ¬ TB = RT := by omega
                    have n5 : ¬ RB = RT := by have := HRB.out; omega
                    have n6 : ¬ tb = RT := by omega
                    have k1 : FB < W9.heap.size := mf9.top.lt
                    have k2 : TB < W9.heap.size := mt9.top.lt
                    have k3 : RB < W9.heap.size := by rw [HRB.out]; exact mf9.lt (by omega)
                    have k4 : tb < W9.heap.size := by have := mk9.2.2.2.1; omega
                    have Q1 := Lib.hid (sk_of (RB := RT) ((KpM.refl (W := W9)).set ⟨RT, k, none⟩ (.int .i64 v) (Nat.le_refl _) (Nat.lt_succ_self _)))
                    have MF9 := Lib.hid mf9
                    have MT9 := Lib.hid mt9
                    have MK9 := Lib.hid mk9
                    have HRT := Lib.hid hRT
                    have HVAL := Lib.hid hval
                    have HTREE := Lib.hid htree
                    clear mf9 mt9 mk9 hRT hval htree hrt g0 g1 g2 g3 g4 g5
                    go_region_held3 (fun w' => (∀ b o, ¬ b = RT → b < W9.heap.size → w'.cell? ⟨b, o, none⟩ = W9.cell? ⟨b, o, none⟩) ∧ KpM RT (RT + 1) W9 w')
                      (first | (with_reducible exact Q1.out) | exact Q1.out | exact sk_of (KpM.of_below (Below.refl _ _).drew))
                      (fail)
                    go_wp2_with fail
                    have hri : RT < lo := by have := HRT.out; omega
                    have htr : TB ≤ RT := by have := HRT.out; omega
                    refine ⟨⟨k + 1, _, _, by omega, by omega, by go_num, Lib.hid (MF9.out.keep fun a h1 h2 => Below.heap_setCell _ _ _ a (by show a ≠ RT; have := HRT.out; omega)), Lib.hid (HJ.out.put (p + 1) q v), Lib.hid (HR.out.put HP.out (q + 1) v), Lib.hid (HFK.out.next HQ.out HVAL.out), Lib.hid ?_, Lib.hid (HM.out.put hky (by rw [← HL.out]; exact HLM.out.1) (by rw [← HM2.out]; exact HLM.out.2) HTREE.out), Lib.hid (MK9.out.set ⟨RT, k, none⟩ (.int .i64 v) htr hri)⟩, by simp [intOf]; omega⟩
                    have hset := MT9.out.set (p := i) (by omega) k v
                    rw [← HRT.out] at hset
                    exact hset.keep fun _ _ _ => rfl
                  · by_cases h1 : l = fr
                    · have h1s := h1.symm
                      subst h1s
                      have t2 : ((m : Int) == (at_ : Int)) = false := by simp; intro e; exact hlm ⟨rfl, by omega⟩
                      obtain ⟨m', hm'⟩ : ∃ m', m = at_ + m' := ⟨m - at_, by have := (T.hb.inn y hy k (by rw [← HAT.out]; exact hk1) hky); rw [← HAT.out, ← HM2.out] at this; omega⟩
                      have hlp : 0 ≤ p := by have := T.ha.le i (by omega); rw [← HL.out] at this; have := HP.out; omega
                      have hmq : m' ≤ q := by have := T.hb.le k (by omega); rw [← HM2.out] at this; have := HQ.out; omega
                      have w3 : (m : Int) - (at_ : Int) = (m' : Int) := by omega
                      have v6 : IntKind.i64.wrap (m' : Int) = (m' : Int) := IntWalk.i64_in _ (by omega)
                      obtain ⟨A4, hA4⟩ : ∃ A4, A4 = f 0 m' := ⟨_, rfl⟩
                      obtain ⟨A5, hA5⟩ : ∃ A5, A5 = M' i k := ⟨_, rfl⟩
                      have hA6 : A5 = (T.tree i k : Nat) := by
                        rw [hA5]
                        exact HM.out.known HFR.out HAT.out hx hy hi1 hlt hk1 hky (by rw [← HL.out, ← HM2.out]; exact hlm) HKN.out
                      have b4 := HR.out.bnd HFR.out HAT.out hx hy (by omega) (j := 0) (q := m') (by have := HP.out; omega) (by have := HQ.out; omega)
                      have b5 := T.tree_bnd (i := i) (k := k) (by omega) (by omega)
                      obtain ⟨RC, hRC⟩ : ∃ RC, RC = FB + 1 + 0 := ⟨_, rfl⟩
                      obtain ⟨RT, hRT⟩ : ∃ RT, RT = TB + 1 + i := ⟨_, rfl⟩
                      have c3 := HF6.out.top.cell (j := 0) (by omega)
                      have c4 := HT6.out.top.cell (j := i) (by omega)
                      have d3 := (HF6.out.row 0 (by omega)).cell (j := m') (by omega)
                      have d4 := (HT6.out.row i (by omega)).cell (j := k) (by omega)
                      rw [← hA4] at b4 d3
                      rw [← hA5] at d4
                      rw [← hRC] at c3 d3
                      rw [← hRT] at c4 d4
                      obtain ⟨g0, g1, g2, g3, g4, g5, g6, g7⟩ := (HBX W6 HK6.out).out
                      have i5 : (0 : Int) < (N1 : Int) := by omega
                      have i6 : (m' : Int) < (M1 : Int) := by omega
                      have i7 : (0 : Int) ≤ (m' : Int) := by omega
                      have i8 : 0 < N1 := by omega
                      have v7 : IntKind.i64.wrap 0 = 0 := by decide
                      have v5 : IntKind.i64.wrap (A4 + A5) = A4 + A5 := IntWalk.i64_in _ (by omega)
                      have n3 : ¬ RC = RB := by omega
                      have n4 : ¬ RT = RB := by omega
                      have n5 : ¬ tb = RB := by omega
                      have n6 : ¬ TB = RB := by omega
                      have k1 : RC < W6.heap.size := by have := HF6.out.lt (p := 0) (by omega); omega
                      have k2 : RT < W6.heap.size := by have := HT6.out.lt (p := i) (by omega); omega
                      have k3 : TB < W6.heap.size := HT6.out.top.lt
                      have k4 : tb < W6.heap.size := by have := HK6.out.2.2.2.1; omega
                      have HRW := Lib.hid hrowB
                      have HA4 := Lib.hid hA4
                      have HA6 := Lib.hid hA6
                      have HRB := Lib.hid hRB
                      have HMP := Lib.hid hm'
                      have HLM := Lib.hid hlm
                      obtain ⟨v, hv⟩ : ∃ v, v = min one (A4 + A5) := ⟨_, rfl⟩
                      have HL2 := Lib.hid (show ∀ w7 : World, Calls Tryz.prog 87 #[.int .i64 one, .slice (some ⟨w7.heap.size, 0, none⟩) 1 1] ((w7.alloc (.cells #[.int .i64 (A4 + A5)] 3)).drew) (Ret (.int .i64 v) ((w7.alloc (.cells #[.int .i64 (A4 + A5)] 3)).drew)) from fun w7 => by rw [hv]; exact least_c ((w7.alloc (.cells #[.int .i64 (A4 + A5)] 3)).drew) one (A4 + A5) w7.heap.size (cell1_new w7 _ _))
                      have hval : v = (T.far fr (i + 1) at_ (k + 1) : Nat) := by
                        have hc := Two.cell_tree (T := T) (f := f) (p := p) (q := q) (l := 0) (m := m') HFR.out HAT.out hx hy hlt hky HP.out HQ.out HR.out HFK.out (by rw [← HL.out]; rfl) (by rw [← HM2.out]; exact HMP.out) HA6.out
                        rw [← hc, hv, HONE.out, HA1.out, HA2.out, HA4.out]
                      have HVAL := Lib.hid hval
                      have Q3 := Lib.hid (sk_of (RB := RB) (KpM.of_below (((Below.refl W6.heap.size W6).alloc (Nat.le_refl _) (.cells #[.int .i64 (A4 + A5)] 3)).drew)))
                      clear hrowB hA4 hA5 hA6 hRB hRC hRT hRA hm' hlm LD hv hval g0 g1 g2 g3 g4 g5 g7
                      go_upto_region 22 with fail
                      go_region_held3 (fun w' => (∀ b o, ¬ b = RB → b < W6.heap.size → w'.cell? ⟨b, o, none⟩ = W6.cell? ⟨b, o, none⟩) ∧ KpM RB (RB + 1) W6 w')
                        (first | (with_reducible exact Q2.out) | (with_reducible exact Q1.out) | (with_reducible exact Q3.out) | exact sk_of (KpM.of_below (Below.refl _ _).drew))
                        (first
                          | (go_at_call 87; (with_reducible refine (HL2.out W6).mono ?_); rintro e w8 ⟨rfl, hb8⟩
                             have hb68 : Below W6.heap.size W6 w8 := below_via (((Below.refl W6.heap.size W6).alloc (Nat.le_refl _) (.cells #[.int .i64 (A4 + A5)] 3)).drew) hb8
                             have hr8 := HRW.out.up hb68
                             have e1 := hr8.cell (j := q + 1) i4n
                             have e2 := hr8.froz (q + 1)
                             have Q1 := Lib.hid (sk_of (RB := RB) (KpM.of_below hb68))
                             have Q2 := Lib.hid (sk_of (RB := RB) ((KpM.of_below hb68).set ⟨RB, q + 1, none⟩ (.int .i64 v) (Nat.le_refl _) (Nat.lt_succ_self _)))
                             have HB8 := Lib.hid hb68
                             clear hb68 hr8 hb8))
                      go_wp2_with fail
                      refine ⟨⟨k + 1, _, _, by omega, by omega, by go_num, Lib.hid ?_, Lib.hid (HJ.out.put (p + 1) q v), Lib.hid (HR.out.put HP.out (q + 1) v), Lib.hid (HFK.out.next HQ.out HVAL.out), Lib.hid (HT6.out.keep fun a h1 h2 => (Below.heap_setCell _ _ _ a (by show a ≠ RB; have := HRB.out; omega)).trans (HB8.out.block a (by omega))), Lib.hid (HM.out.skip (by rw [← HL.out, ← HM2.out]; exact fun e => HLM.out ⟨by first | exact e.1 | trivial, e.2⟩)), Lib.hid ((HK6.out.trans (KpM.of_below HB8.out)).set ⟨RB, q + 1, none⟩ (.int .i64 v) l4 l5)⟩, by simp [intOf]; omega⟩
                      rw [HRB.out]
                      exact (HF6.out.keep fun k h1 h2 => HB8.out.block k (by have := HF6.out.lt (p := N1 - 1) (by omega); omega)).set (by omega) (q + 1) v
                    · have t1 : ¬ (l : Int) = (fr : Int) := by omega
                      obtain ⟨l', hl'⟩ : ∃ l', l = fr + l' := ⟨l - fr, by have := (T.ha.inn x hx i (by rw [← HFR.out]; exact hi1) hlt); rw [← HFR.out, ← HL.out] at this; omega⟩
                      have w4 : (l : Int) - (fr : Int) = (l' : Int) := by omega
                      have v7 : IntKind.i64.wrap (l' : Int) = (l' : Int) := IntWalk.i64_in _ (by have := T.ha.le i (by omega); rw [← HL.out] at this; omega)
                      have HLP := Lib.hid hl'
                      obtain ⟨m', hm'⟩ : ∃ m', m = at_ + m' := ⟨m - at_, by have := (T.hb.inn y hy k (by rw [← HAT.out]; exact hk1) hky); rw [← HAT.out, ← HM2.out] at this; omega⟩
                      have hlp : l' ≤ p := by have := T.ha.le i (by omega); rw [← HL.out] at this; have := HP.out; omega
                      have hmq : m' ≤ q := by have := T.hb.le k (by omega); rw [← HM2.out] at this; have := HQ.out; omega
                      have w3 : (m : Int) - (at_ : Int) = (m' : Int) := by omega
                      have v6 : IntKind.i64.wrap (m' : Int) = (m' : Int) := IntWalk.i64_in _ (by omega)
                      obtain ⟨A4, hA4⟩ : ∃ A4, A4 = f l' m' := ⟨_, rfl⟩
                      obtain ⟨A5, hA5⟩ : ∃ A5, A5 = M' i k := ⟨_, rfl⟩
                      have hA6 : A5 = (T.tree i k : Nat) := by
                        rw [hA5]
                        exact HM.out.known HFR.out HAT.out hx hy hi1 hlt hk1 hky (by rw [← HL.out, ← HM2.out]; exact hlm) HKN.out
                      have b4 := HR.out.bnd HFR.out HAT.out hx hy (by omega) (j := l') (q := m') (by have := HP.out; omega) (by have := HQ.out; omega)
                      have b5 := T.tree_bnd (i := i) (k := k) (by omega) (by omega)
                      obtain ⟨RC, hRC⟩ : ∃ RC, RC = FB + 1 + l' := ⟨_, rfl⟩
                      obtain ⟨RT, hRT⟩ : ∃ RT, RT = TB + 1 + i := ⟨_, rfl⟩
                      have c3 := HF6.out.top.cell (j := l') (by omega)
                      have c4 := HT6.out.top.cell (j := i) (by omega)
                      have d3 := (HF6.out.row l' (by omega)).cell (j := m') (by omega)
                      have d4 := (HT6.out.row i (by omega)).cell (j := k) (by omega)
                      rw [← hA4] at b4 d3
                      rw [← hA5] at d4
                      rw [← hRC] at c3 d3
                      rw [← hRT] at c4 d4
                      obtain ⟨g0, g1, g2, g3, g4, g5, g6, g7⟩ := (HBX W6 HK6.out).out
                      have i5 : (l' : Int) < (N1 : Int) := by omega
                      have i6 : (m' : Int) < (M1 : Int) := by omega
                      have i7 : (0 : Int) ≤ (m' : Int) := by omega
                      have i8 : (0 : Int) ≤ (l' : Int) := by omega
                      have v5 : IntKind.i64.wrap (A4 + A5) = A4 + A5 := IntWalk.i64_in _ (by omega)
                      have n3 : ¬ RC = RB := by omega
                      have n4 : ¬ RT = RB := by omega
                      have n5 : ¬ tb = RB := by omega
                      have n6 : ¬ TB = RB := by omega
                      have k1 : RC < W6.heap.size := by have := HF6.out.lt (p := l') (by omega); omega
                      have k2 : RT < W6.heap.size := by have := HT6.out.lt (p := i) (by omega); omega
                      have k3 : TB < W6.heap.size := HT6.out.top.lt
                      have k4 : tb < W6.heap.size := by have := HK6.out.2.2.2.1; omega
                      have HRW := Lib.hid hrowB
                      have HA4 := Lib.hid hA4
                      have HA6 := Lib.hid hA6
                      have HRB := Lib.hid hRB
                      have HMP := Lib.hid hm'
                      have HLM := Lib.hid hlm
                      obtain ⟨v, hv⟩ : ∃ v, v = min one (A4 + A5) := ⟨_, rfl⟩
                      have HL2 := Lib.hid (show ∀ w7 : World, Calls Tryz.prog 87 #[.int .i64 one, .slice (some ⟨w7.heap.size, 0, none⟩) 1 1] ((w7.alloc (.cells #[.int .i64 (A4 + A5)] 3)).drew) (Ret (.int .i64 v) ((w7.alloc (.cells #[.int .i64 (A4 + A5)] 3)).drew)) from fun w7 => by rw [hv]; exact least_c ((w7.alloc (.cells #[.int .i64 (A4 + A5)] 3)).drew) one (A4 + A5) w7.heap.size (cell1_new w7 _ _))
                      have hval : v = (T.far fr (i + 1) at_ (k + 1) : Nat) := by
                        have hc := Two.cell_tree (T := T) (f := f) (p := p) (q := q) (l := l') (m := m') HFR.out HAT.out hx hy hlt hky HP.out HQ.out HR.out HFK.out (by rw [← HL.out]; exact HLP.out) (by rw [← HM2.out]; exact HMP.out) HA6.out
                        rw [← hc, hv, HONE.out, HA1.out, HA2.out, HA4.out]
                      have HVAL := Lib.hid hval
                      have Q3 := Lib.hid (sk_of (RB := RB) (KpM.of_below (((Below.refl W6.heap.size W6).alloc (Nat.le_refl _) (.cells #[.int .i64 (A4 + A5)] 3)).drew)))
                      clear hl' hrowB hA4 hA5 hA6 hRB hRC hRT hRA hm' hlm LD hv hval g0 g1 g2 g3 g4 g5 g7
                      go_upto_region 22 with fail
                      go_region_held3 (fun w' => (∀ b o, ¬ b = RB → b < W6.heap.size → w'.cell? ⟨b, o, none⟩ = W6.cell? ⟨b, o, none⟩) ∧ KpM RB (RB + 1) W6 w')
                        (first | (with_reducible exact Q2.out) | (with_reducible exact Q1.out) | (with_reducible exact Q3.out) | exact sk_of (KpM.of_below (Below.refl _ _).drew))
                        (first
                          | (go_at_call 87; (with_reducible refine (HL2.out W6).mono ?_); rintro e w8 ⟨rfl, hb8⟩
                             have hb68 : Below W6.heap.size W6 w8 := below_via (((Below.refl W6.heap.size W6).alloc (Nat.le_refl _) (.cells #[.int .i64 (A4 + A5)] 3)).drew) hb8
                             have hr8 := HRW.out.up hb68
                             have e1 := hr8.cell (j := q + 1) i4n
                             have e2 := hr8.froz (q + 1)
                             have Q1 := Lib.hid (sk_of (RB := RB) (KpM.of_below hb68))
                             have Q2 := Lib.hid (sk_of (RB := RB) ((KpM.of_below hb68).set ⟨RB, q + 1, none⟩ (.int .i64 v) (Nat.le_refl _) (Nat.lt_succ_self _)))
                             have HB8 := Lib.hid hb68
                             clear hb68 hr8 hb8))
                      go_wp2_with fail
                      refine ⟨⟨k + 1, _, _, by omega, by omega, by go_num, Lib.hid ?_, Lib.hid (HJ.out.put (p + 1) q v), Lib.hid (HR.out.put HP.out (q + 1) v), Lib.hid (HFK.out.next HQ.out HVAL.out), Lib.hid (HT6.out.keep fun a h1 h2 => (Below.heap_setCell _ _ _ a (by show a ≠ RB; have := HRB.out; omega)).trans (HB8.out.block a (by omega))), Lib.hid (HM.out.skip (by rw [← HL.out, ← HM2.out]; exact fun e => HLM.out ⟨by first | exact e.1 | trivial, e.2⟩)), Lib.hid ((HK6.out.trans (KpM.of_below HB8.out)).set ⟨RB, q + 1, none⟩ (.int .i64 v) l4 l5)⟩, by simp [intOf]; omega⟩
                      rw [HRB.out]
                      exact (HF6.out.keep fun k h1 h2 => HB8.out.block k (by have := HF6.out.lt (p := N1 - 1) (by omega); omega)).set (by omega) (q + 1) v
                · have hge : ¬ (k : Int) ≤ (y : Int) := by omega
                  obtain rfl : k = y + 1 := by omega
                  have HRN := Lib.hid (HR.out.next HFK.out HP.out)
                  go_wp2_with fail
                  exact ⟨⟨i + 1, f, M', by omega, by omega, by go_num, HF, HJ, HRN, HT, Lib.hid HM.out.row, HK⟩, by simp [intOf]; omega⟩
            · have hge : ¬ (i : Int) ≤ (x : Int) := by omega
              obtain rfl : i = x + 1 := by omega
              have HFD := Lib.hid (Two.MK.done HFR.out HAT.out HM.out)
              go_wp2_with fail
              go_end0
              exact ⟨rfl, M', f, HT.out, HF.out, HFD.out, HK.out⟩
end Go.Proofs.YtmhkacafilpliaaGreat
