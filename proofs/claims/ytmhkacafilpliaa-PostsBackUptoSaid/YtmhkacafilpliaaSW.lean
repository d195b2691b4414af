/-
  slices.SortStableFunc and what it stands on, at rows of structs: each function from a world of the sort's to a world of the sort's. Conditions: how the row lies; what the comparing function hands back, of whatever two elements; fewer than 2^61 elements.
-/
import Derived.Test.YtmhkacafilpliaaProg
import Derived.Test.YtmhkacafilpliaaST
import Derived.Shelf.SlSortCmp.KitK
import Derived.Deep.LoopGhost
import Derived.Lib.Hide
import Derived.Ground.SlsfProg
import Derived.Shelf.Lay
import Derived.Shelf.LaySoft
import Derived.Shelf.RegionOpenPlain
import Derived.Sort.Statements
import Derived.Deep.DeepCutAuto
namespace Go.Proofs.Ytmhkacafilpliaa
open Go.Shelf Go.RowKit Go.Lib Go.Sort

/-- What the walks ask of the program: its types, and that it has these functions. -/
structure StT (P : Program) (k : Nat) : Prop where
  mixed : P.follows .mixedOrders = true
  t0 : P.underlying 0 = some (TypeDesc.tuple #[])
  a0 : ∀ w, (isAgg 0).run P w = .ok false w
  z0 : ∀ w, (Go.sizeOf 0).run P w = .ok 1 w
  v0 : ∀ w, (zeroValue 0).run P w = .ok (Value.tuple #[]) w
  t3 : P.underlying 3 = some (TypeDesc.int IntKind.i64)
  a3 : ∀ w, (isAgg 3).run P w = .ok false w
  z3 : ∀ w, (Go.sizeOf 3).run P w = .ok 1 w
  v3 : ∀ w, (zeroValue 3).run P w = .ok (Value.int IntKind.i64 0) w
  t4 : P.underlying 4 = some (TypeDesc.bool)
  a4 : ∀ w, (isAgg 4).run P w = .ok false w
  z4 : ∀ w, (Go.sizeOf 4).run P w = .ok 1 w
  v4 : ∀ w, (zeroValue 4).run P w = .ok (Value.bool false) w
  tu : P.underlying 132 = some (TypeDesc.int IntKind.u64)
  au : ∀ w, (isAgg 132).run P w = .ok false w
  zu : ∀ w, (Go.sizeOf 132).run P w = .ok 1 w
  ts : P.underlying 117 = some (TypeDesc.slice 75)
  asl : ∀ w, (isAgg 117).run P w = .ok false w
  zs : ∀ w, (Go.sizeOf 117).run P w = .ok 1 w
  vs : ∀ w, (zeroValue 117).run P w = .ok (Value.slice none 0 0) w
  tc : P.underlying 128 = some (TypeDesc.func #[75, 75] #[3] false)
  ac : ∀ w, (isAgg 128).run P w = .ok false w
  zc : ∀ w, (Go.sizeOf 128).run P w = .ok 1 w
  vc : ∀ w, (zeroValue 128).run P w = .ok (Value.nilFunc) w
  aE : ∀ w, (isAgg 75).run P w = .ok true w
  zE : ∀ w, (Go.sizeOf 75).run P w = .ok k w
  fsw : P.funcs[132]? = some Try.f132
  frt : P.funcs[127]? = some Try.f127
  fsy : P.funcs[112]? = some Try.f112
  fst : P.funcs[98]? = some Try.f98

theorem stT : StT Try.prog 6 where
  mixed := by kernel_rfl
  t0 := Try.underlying0
  a0 := Try.isAgg0
  z0 := Try.sizeOf0
  v0 := Try.zeroValue0
  t3 := Try.underlying3
  a3 := Try.isAgg3
  z3 := Try.sizeOf3
  v3 := Try.zeroValue3
  t4 := Try.underlying4
  a4 := Try.isAgg4
  z4 := Try.sizeOf4
  v4 := Try.zeroValue4
  tu := Try.underlying132
  au := Try.isAgg132
  zu := Try.sizeOf132
  ts := Try.underlying117
  asl := Try.isAgg117
  zs := Try.sizeOf117
  vs := Try.zeroValue117
  tc := Try.underlying128
  ac := Try.isAgg128
  zc := Try.sizeOf128
  vc := Try.zeroValue128
  aE := Try.isAgg75
  zE := Try.sizeOf75
  fsw := Try.func132
  frt := Try.func127
  fsy := Try.func112
  fst := Try.func98

section
variable {P : Program} {α : Type} [Inhabited α]

set_option maxHeartbeats 4000000 in
set_option maxRecDepth 1000000 in
theorem swapRange_w {k : Nat} (L : StT P k) (enc : α → List Value) (g : Nat) (cb : Array Value) (blk off cap a b n : Nat) (d0 d : Array α) (w0 w : World)
    (R : RowK enc k w0 blk off d0) (hs : d0.size = d.size) (S : SWK enc k w0 blk off d w) (hab : a + n ≤ b) (hb : b + n ≤ d.size) (hsz : d.size < 2305843009213693952) :
    Calls P 132 #[.slice (some ⟨blk, off, none⟩) d.size cap, .int .i64 a, .int .i64 b, .int .i64 n, .func (.func g) #[] cb] w fun e w' => e = .returned (.tuple #[]) ∧ ∃ d', SWK enc k w0 blk off d' w' ∧ SwR d a b n d' := by
  obtain ⟨mixed, t0, a0, z0, v0, t3, a3, z3, v3, t4, a4, z4, v4, tu, au, zu, ts, asl, zs, vs, tc, ac, zc, vc, aE, zE, FG, -, -, -⟩ := L
  have S0 : Aside (SWK enc k w0 blk off d w) := S
  clear S
  go_enter FG, Try.ntmps132
  go_wp2
  go_loopg [10] n (fun kx s10 wr => ∃ (i : Nat) (dk : Array α), s10 = .int .i64 i ∧ i ≤ n ∧ n - i ≤ kx ∧ dk.size = d.size ∧ Aside (SWK enc k w0 blk off dk wr) ∧ Aside (SwR d a b i dk))
  case atStart => exact ⟨0, d, rfl, by omega, by omega, rfl, S0, SwR.zero d a b⟩
  case round =>
    clear S0
    obtain ⟨i, dk, rfl, hi, hkx, hds, S1, R1⟩ := hrel
    by_cases hlt : (i : Int) < (n : Int)
    · go_wp2_with fail
      have wa : IntKind.i64.wrap ((a : Int) + (i : Int)) = (a : Int) + (i : Int) := by rw [IntKind.wrap_i64]; omega
      have wb : IntKind.i64.wrap ((b : Int) + (i : Int)) = (b : Int) + (i : Int) := by rw [IntKind.wrap_i64]; omega
      have ea : ((a : Int) + (i : Int)).toNat = a + i := by omega
      have pa : (0 : Int) ≤ (a : Int) + (i : Int) := by omega
      have ba : (a : Int) + (i : Int) < (d.size : Int) := by omega
      have eb : ((b : Int) + (i : Int)).toNat = b + i := by omega
      have pb : (0 : Int) ≤ (b : Int) + (i : Int) := by omega
      have bb : (b : Int) + (i : Int) < (d.size : Int) := by omega
      have S2 : Aside (SWK enc k w0 blk off (swp dk (a + i) (b + i)) ((wr.drew.setCells blk (off + (a + i) * k) (enc dk[b + i]!)).setCells blk (off + (b + i) * k) (enc dk[a + i]!))) := S1.out.swapped R (a + i) (b + i) (by omega) (by omega)
      have la := S1.out.ld1 R (by omega) P (a + i) (by omega)
      have lb := S1.out.ld1 R (by omega) P (b + i) (by omega)
      have sa := S1.out.st1 R (by omega) P (a + i) (by omega) dk[b + i]!
      have sb := S1.out.st2 R (by omega) P (a + i) (b + i) (by omega) (by omega) dk[b + i]! dk[a + i]!
      have na : (enc dk[a + i]!).length = k := R.hk _
      have nb : (enc dk[b + i]!).length = k := R.hk _
      generalize enc dk[a + i]! = cI at S2 la sb na
      generalize enc dk[b + i]! = cJ at S2 lb sa sb nb
      clear S1
      go_wp2_with fail
      go_big_region_o
      clear la lb sa sb
      generalize (wr.drew.setCells blk (off + (a + i) * k) cJ).setCells blk (off + (b + i) * k) cI = w2 at S2 ⊢
      go_wp2
      go_roundg (n - (i + 1))
      case measure => omega
      case rel => exact ⟨i + 1, swp dk (a + i) (b + i), by go_num, by omega, Nat.le_refl _, by rw [size_swp]; exact hds, S2, R1.out.succ (by omega) (by omega)⟩
    · obtain rfl : i = n := by omega
      go_wp2
      go_end0
      exact ⟨rfl, dk, S1.out, R1.out⟩

set_option maxHeartbeats 4000000 in
set_option maxRecDepth 1000000 in
theorem rotate_w {k : Nat} (L : StT P k) (enc : α → List Value) (g : Nat) (cb : Array Value) (blk off cap a m b : Nat) (d0 d : Array α) (w0 w : World)
    (R : RowK enc k w0 blk off d0) (hs : d0.size = d.size) (S : SWK enc k w0 blk off d w) (ham : a < m) (hmb : m < b) (hb : b ≤ d.size) (hsz : d.size < 2305843009213693952) :
    Calls P 127 #[.slice (some ⟨blk, off, none⟩) d.size cap, .int .i64 a, .int .i64 m, .int .i64 b, .func (.func g) #[] cb] w fun e w' => e = .returned (.tuple #[]) ∧ ∃ d', SWK enc k w0 blk off d' w' ∧ Out a b d d' ∧ seg d' a b = seg d m b ++ seg d a m := by
  have L' : Aside (StT P k) := L
  obtain ⟨mixed, t0, a0, z0, v0, t3, a3, z3, v3, t4, a4, z4, v4, tu, au, zu, ts, asl, zs, vs, tc, ac, zc, vc, aE, zE, fsw, frt, fsy, fst⟩ := L
  have S0 : Aside (SWK enc k w0 blk off d w) := S
  have e1 : ∀ args w, (callFunc 132 args).run P w = .ok (.enter 132 args) w := enters_of fsw (by kernel_rfl) rfl
  clear S
  go_enter frt, Try.ntmps127
  go_wp2
  go_loopg [10, 11] (m - a + (b - m)) (fun kx s10 s11 wr => ∃ (i j : Nat) (dk : Array α), s10 = .int .i64 i ∧ s11 = .int .i64 j ∧ 0 < i ∧ 0 < j ∧ i ≤ m - a ∧ j ≤ b - m ∧ i + j ≤ kx ∧ dk.size = d.size ∧ Aside (SWK enc k w0 blk off dk wr) ∧ Aside (RotS d a m b i j dk))
  case atStart => exact ⟨m - a, b - m, d, by go_num, by go_num, by omega, by omega, by omega, by omega, Nat.le_refl _, rfl, S0, RotS.start (by omega) (by omega)⟩
  case round =>
    clear S0
    obtain ⟨i, j, dk, rfl, rfl, hi, hj, hia, hjb, hkx, hds, S1, R1⟩ := hrel
    rcases Nat.lt_trichotomy i j with h | h | h
    · have h1 : (i : Int) ≠ (j : Int) := by omega
      have h2 : ¬ (j : Int) < (i : Int) := by omega
      have hc := swapRange_w L'.out enc g cb blk off cap (m - i) (m + j - i) i d0 dk w0 wr R (by omega) S1.out (by omega) (by omega) (by omega)
      rw [hds, show ((m - i : Nat) : Int) = (m : Int) - (i : Int) by omega, show ((m + j - i : Nat) : Int) = (m : Int) + (j : Int) - (i : Int) by omega] at hc
      go_wp2_with (go_at_fn 132; refine hc.mono ?_; rintro e w1 ⟨rfl, d1, S2, R2⟩; have S2 := Lib.hid S2; have R2 := Lib.hid R2)
      go_roundg (i + (j - i))
      case measure => omega
      case rel => exact ⟨i, j - i, d1, rfl, by go_num, hi, by omega, hia, by omega, Nat.le_refl _, by rw [R2.out.size]; exact hds, S2.out, R1.out.right hia hjb h (by omega) (by omega) (by omega) R2.out⟩
    · subst h
      have hc := swapRange_w L'.out enc g cb blk off cap (m - i) m i d0 dk w0 wr R (by omega) S1.out (by omega) (by omega) (by omega)
      rw [hds, show ((m - i : Nat) : Int) = (m : Int) - (i : Int) by omega] at hc
      go_wp2_with (go_at_fn 132; refine hc.mono ?_; rintro e w1 ⟨rfl, d1, S2, R2⟩; have S2 := Lib.hid S2; have R2 := Lib.hid R2)
      go_end0
      obtain ⟨g1, g2⟩ := R1.out.last hia hjb (by omega) (by omega) (by omega) R2.out
      exact ⟨rfl, d1, S2.out, g1, g2⟩
    · have h1 : (i : Int) ≠ (j : Int) := by omega
      have h2 : (j : Int) < (i : Int) := by omega
      have hc := swapRange_w L'.out enc g cb blk off cap (m - i) m j d0 dk w0 wr R (by omega) S1.out (by omega) (by omega) (by omega)
      rw [hds, show ((m - i : Nat) : Int) = (m : Int) - (i : Int) by omega] at hc
      go_wp2_with (go_at_fn 132; refine hc.mono ?_; rintro e w1 ⟨rfl, d1, S2, R2⟩; have S2 := Lib.hid S2; have R2 := Lib.hid R2)
      go_roundg (i - j + j)
      case measure => omega
      case rel => exact ⟨i - j, j, d1, by go_num, rfl, by omega, hj, by omega, hjb, Nat.le_refl _, by rw [R2.out.size]; exact hds, S2.out, R1.out.left hia hjb h (by omega) (by omega) R2.out⟩

/-! ### symMerge, stable (printed by gen_sw.py) -/

set_option maxHeartbeats 4000000 in
set_option maxRecDepth 1000000 in
theorem sym_l {k : Nat} (L : StT P k) (enc : α → List Value) (cf : α → α → Int) (hO : SWO (ltOf cf)) (g : Nat) (cb : Array Value) (blk off cap a m b : Nat) (d0 d : Array α) (w0 w : World)
    (eg : ∀ args w, (callFunc g args).run P w = .ok (.enter g args) w) (hcmp : CmpLays P g cb enc k cf blk off d0.size w0) (R : RowK enc k w0 blk off d0) (hs : d0.size = d.size) (S : SWK enc k w0 blk off d w) (ham : a < m) (hmb : m < b) (hb : b ≤ d.size) (hsz : d.size < 2305843009213693952)
    (hU : AscL (ltOf cf) (seg d a m)) (hV : AscL (ltOf cf) (seg d m b)) (hm : m = a + 1) :
    Calls P 112 #[.slice (some ⟨blk, off, none⟩) d.size cap, .int .i64 a, .int .i64 m, .int .i64 b, .func (.func g) #[] cb] w fun e w' => e = .returned (.tuple #[]) ∧ ∃ d', SWK enc k w0 blk off d' w' ∧ Out a b d d' ∧ seg d' a b = mergeL (ltOf cf) (seg d a m) (seg d m b) := by
  obtain ⟨mixed, t0, a0, z0, v0, t3, a3, z3, v3, t4, a4, z4, v4, tu, au, zu, ts, asl, zs, vs, tc, ac, zc, vc, aE, zE, fsw, frt, fsy, fst⟩ := L
  have u3 := run_underlying t3
  have uu := run_underlying tu
  have S0 : Aside (SWK enc k w0 blk off d w) := S
  have HC : Aside _ := hcmp
  have HU : Aside _ := hU
  have HV : Aside _ := hV
  have hm1 : (m : Int) - (a : Int) = 1 := by omega
  have HM := Lib.hid hm
  clear S hcmp hU hV hm
  go_enter fsy, Try.ntmps112
  go_wp2
  clear hm1
  go_loopg [10, 11] (b - m) (fun kx s10 s11 wr => ∃ (i j : Nat), s10 = .int .i64 i ∧ s11 = .int .i64 j ∧ m ≤ i ∧ i ≤ j ∧ j ≤ b ∧ j - i ≤ kx ∧ Aside (SWK enc k w0 blk off d wr) ∧ Aside ((i = m ∨ ltOf cf d[i - 1]! d[a]! = true) ∧ (j = b ∨ ltOf cf d[j]! d[a]! = false)))
  case atStart => exact ⟨m, b, rfl, rfl, Nat.le_refl _, by omega, Nat.le_refl _, Nat.le_refl _, S0, Lib.hid ⟨.inl rfl, .inl rfl⟩⟩
  case round =>
    clear S0
    obtain ⟨i, j, rfl, rfl, hi, hij, hj, hkx, S1, I⟩ := hrel
    by_cases hlt : i < j
    · obtain ⟨c, hcd⟩ : ∃ c, c = (i + j) / 2 := ⟨_, rfl⟩
      have hci : ((i : Int) + (j : Int)) / 2 = (c : Int) := by omega
      have hic : i ≤ c := by omega
      have hcj : c < j := by omega
      clear hcd
      cases hL : ltOf cf d[c]! d[a]! with
      | true =>
        have ea1 : ((c : Int)).toNat = c := by omega
        have pa1 : (0 : Int) ≤ (c : Int) := by omega
        have ba1 : (c : Int) < (d.size : Int) := by omega
        have ra1 : IntKind.i64.wrap ((c : Int)) = (c : Int) := by rw [IntKind.wrap_i64]; omega
        have ec1 : ((a : Int)).toNat = a := by omega
        have pc1 : (0 : Int) ≤ (a : Int) := by omega
        have bc1 : (a : Int) < (d.size : Int) := by omega
        have rc1 : IntKind.i64.wrap ((a : Int)) = (a : Int) := by rw [IntKind.wrap_i64]; omega
        obtain ⟨x1, hx1⟩ : ∃ x, x = d[c]! := ⟨_, rfl⟩
        obtain ⟨y1, hy1⟩ : ∃ x, x = d[a]! := ⟨_, rfl⟩
        have l1a := S1.out.ld R (by omega) P (c) (by omega)
        have l1b := S1.out.ld R (by omega) P (a) (by omega)
        rw [← hx1] at l1a
        rw [← hy1] at l1b
        have hc1 := S1.out.cmp HC.out (by omega) x1 y1
        have hv1 : cf x1 y1 < 0 := by rw [hx1, hy1]; exact of_decide_eq_true hL
        have hd1 : decide (cf x1 y1 < 0) = true := decide_eq_true hv1
        clear hx1 hy1
        go_wp2_with fail
        go_quiet_grown (first | (go_at_fn g; refine Calls.grown_of (hc1 _ _)))
        have S2 : Aside (SWK enc k w0 blk off d (grow (wr.drewN nq) osq)) := S1.out.grown nq osq
        clear l1a l1b hc1 S1
        generalize grow (wr.drewN nq) osq = w2 at S2 ⊢
        clear nq osq
        go_wp2_with fail

        go_roundg (j - (c + 1))
        case measure => omega
        case rel => exact ⟨c + 1, j, by go_num, rfl, by omega, by omega, hj, Nat.le_refl _, S2, Lib.hid ⟨.inr hL, I.out.2⟩⟩
      | false =>
        have ea1 : ((c : Int)).toNat = c := by omega
        have pa1 : (0 : Int) ≤ (c : Int) := by omega
        have ba1 : (c : Int) < (d.size : Int) := by omega
        have ra1 : IntKind.i64.wrap ((c : Int)) = (c : Int) := by rw [IntKind.wrap_i64]; omega
        have ec1 : ((a : Int)).toNat = a := by omega
        have pc1 : (0 : Int) ≤ (a : Int) := by omega
        have bc1 : (a : Int) < (d.size : Int) := by omega
        have rc1 : IntKind.i64.wrap ((a : Int)) = (a : Int) := by rw [IntKind.wrap_i64]; omega
        obtain ⟨x1, hx1⟩ : ∃ x, x = d[c]! := ⟨_, rfl⟩
        obtain ⟨y1, hy1⟩ : ∃ x, x = d[a]! := ⟨_, rfl⟩
        have l1a := S1.out.ld R (by omega) P (c) (by omega)
        have l1b := S1.out.ld R (by omega) P (a) (by omega)
        rw [← hx1] at l1a
        rw [← hy1] at l1b
        have hc1 := S1.out.cmp HC.out (by omega) x1 y1
        have hv1 : ¬ cf x1 y1 < 0 := by rw [hx1, hy1]; exact of_decide_eq_false hL
        have hd1 : decide (cf x1 y1 < 0) = false := decide_eq_false hv1
        clear hx1 hy1
        go_wp2_with fail
        go_quiet_grown (first | (go_at_fn g; refine Calls.grown_of (hc1 _ _)))
        have S2 : Aside (SWK enc k w0 blk off d (grow (wr.drewN nq) osq)) := S1.out.grown nq osq
        clear l1a l1b hc1 S1
        generalize grow (wr.drewN nq) osq = w2 at S2 ⊢
        clear nq osq
        go_wp2_with fail

        go_roundg (c - i)
        case measure => omega
        case rel => exact ⟨i, c, rfl, rfl, hi, by omega, by omega, Nat.le_refl _, S2, Lib.hid ⟨I.out.1, .inr hL⟩⟩
    · obtain rfl : i = j := by omega
      go_wp2
      go_loopg [13] (i - a) (fun kx s13 wr => ∃ (q : Nat) (dk : Array α), s13 = .int .i64 q ∧ a ≤ q ∧ q ≤ i - 1 ∧ i - 1 - q ≤ kx ∧ dk.size = d.size ∧ Aside (SWK enc k w0 blk off dk wr) ∧ Aside (CarR d a q dk))
      case atStart => exact ⟨a, d, rfl, Nat.le_refl _, by omega, by omega, rfl, S1, CarR.zero (by omega)⟩
      case round =>
        clear S1
        obtain ⟨q, dk, rfl, haq, hqi, hkx2, hds, S1, C⟩ := hrel
        by_cases hlq : (q : Int) < (i : Int) - 1
        · have hq1 : IntKind.i64.wrap ((q : Int) + 1) = (q : Int) + 1 := by rw [IntKind.wrap_i64]; omega
          go_wp2_with fail
          have ea2 : ((q : Int)).toNat = q := by omega
          have pa2 : (0 : Int) ≤ (q : Int) := by omega
          have ba2 : (q : Int) < (d.size : Int) := by omega
          have ra2 : IntKind.i64.wrap ((q : Int)) = (q : Int) := by rw [IntKind.wrap_i64]; omega
          have ec2 : ((q : Int) + 1).toNat = q + 1 := by omega
          have pc2 : (0 : Int) ≤ (q : Int) + 1 := by omega
          have bc2 : (q : Int) + 1 < (d.size : Int) := by omega
          have rc2 : IntKind.i64.wrap ((q : Int) + 1) = (q : Int) + 1 := by rw [IntKind.wrap_i64]; omega
          have S2 : Aside (SWK enc k w0 blk off (swp dk (q) (q + 1)) ((wr.drew.setCells blk (off + (q) * k) (enc dk[q + 1]!)).setCells blk (off + (q + 1) * k) (enc dk[q]!))) := S1.out.swapped R (q) (q + 1) (by omega) (by omega)
          have l2a := S1.out.ld1 R (by omega) P (q) (by omega)
          have l2b := S1.out.ld1 R (by omega) P (q + 1) (by omega)
          have s2a := S1.out.st1 R (by omega) P (q) (by omega) dk[q + 1]!
          have s2b := S1.out.st2 R (by omega) P (q) (q + 1) (by omega) (by omega) dk[q + 1]! dk[q]!
          have n2a : (enc dk[q]!).length = k := R.hk _
          have n2b : (enc dk[q + 1]!).length = k := R.hk _
          generalize enc dk[q]! = cI2 at S2 l2a s2b n2a
          generalize enc dk[q + 1]! = cJ2 at S2 l2b s2a s2b n2b
          clear S1
          go_wp2_with fail
          go_big_region_o
          clear l2a l2b s2a s2b
          generalize (wr.drew.setCells blk (off + (q) * k) cJ2).setCells blk (off + (q + 1) * k) cI2 = w3 at S2 ⊢
          go_wp2

          go_roundg (i - 1 - (q + 1))
          case measure => omega
          case rel => exact ⟨q + 1, swp dk q (q + 1), by go_num, by omega, by omega, Nat.le_refl _, by rw [size_swp]; exact hds, S2, C.out.succ (by omega) haq⟩
        · obtain rfl : q = i - 1 := by omega
          go_wp2
          (try simp only [Exit.inBlock, Exit.then]); refine bodyPost_ret (results_none rfl _ _ _) rfl ?_
          refine ⟨rfl, dk, S1.out, ?_⟩
          have hV' := HV.out
          have hI := I.out
          have hm := HM.out
          subst hm
          exact merge_car hO C.out (by omega) hj hb hV' hI.1 hI.2

set_option maxHeartbeats 4000000 in
set_option maxRecDepth 1000000 in
theorem sym_r {k : Nat} (L : StT P k) (enc : α → List Value) (cf : α → α → Int) (hO : SWO (ltOf cf)) (g : Nat) (cb : Array Value) (blk off cap a m b : Nat) (d0 d : Array α) (w0 w : World)
    (eg : ∀ args w, (callFunc g args).run P w = .ok (.enter g args) w) (hcmp : CmpLays P g cb enc k cf blk off d0.size w0) (R : RowK enc k w0 blk off d0) (hs : d0.size = d.size) (S : SWK enc k w0 blk off d w) (ham : a < m) (hmb : m < b) (hb : b ≤ d.size) (hsz : d.size < 2305843009213693952)
    (hU : AscL (ltOf cf) (seg d a m)) (hV : AscL (ltOf cf) (seg d m b)) (hm : m ≠ a + 1) (hbm : b = m + 1) :
    Calls P 112 #[.slice (some ⟨blk, off, none⟩) d.size cap, .int .i64 a, .int .i64 m, .int .i64 b, .func (.func g) #[] cb] w fun e w' => e = .returned (.tuple #[]) ∧ ∃ d', SWK enc k w0 blk off d' w' ∧ Out a b d d' ∧ seg d' a b = mergeL (ltOf cf) (seg d a m) (seg d m b) := by
  obtain ⟨mixed, t0, a0, z0, v0, t3, a3, z3, v3, t4, a4, z4, v4, tu, au, zu, ts, asl, zs, vs, tc, ac, zc, vc, aE, zE, fsw, frt, fsy, fst⟩ := L
  have u3 := run_underlying t3
  have uu := run_underlying tu
  have S0 : Aside (SWK enc k w0 blk off d w) := S
  have HC : Aside _ := hcmp
  have HU : Aside _ := hU
  have HV : Aside _ := hV
  have hm1 : ((m : Int) - (a : Int) == 1) = false := by simp; omega
  have hb1 : ((b : Int) - (m : Int) == 1) = true := by simp; omega
  have HM := Lib.hid hbm
  clear S hcmp hU hV hbm hm
  go_enter fsy, Try.ntmps112
  go_wp2
  clear hm1 hb1
  go_loopg [14, 15] (m - a) (fun kx s14 s15 wr => ∃ (i j : Nat), s14 = .int .i64 i ∧ s15 = .int .i64 j ∧ a ≤ i ∧ i ≤ j ∧ j ≤ m ∧ j - i ≤ kx ∧ Aside (SWK enc k w0 blk off d wr) ∧ Aside ((i = a ∨ ltOf cf d[m]! d[i - 1]! = false) ∧ (j = m ∨ ltOf cf d[m]! d[j]! = true)))
  case atStart => exact ⟨a, m, rfl, rfl, Nat.le_refl _, by omega, Nat.le_refl _, Nat.le_refl _, S0, Lib.hid ⟨.inl rfl, .inl rfl⟩⟩
  case round =>
    clear S0
    obtain ⟨i, j, rfl, rfl, hi, hij, hj, hkx, S1, I⟩ := hrel
    by_cases hlt : i < j
    · obtain ⟨c, hcd⟩ : ∃ c, c = (i + j) / 2 := ⟨_, rfl⟩
      have hci : ((i : Int) + (j : Int)) / 2 = (c : Int) := by omega
      have hic : i ≤ c := by omega
      have hcj : c < j := by omega
      clear hcd
      cases hL : ltOf cf d[m]! d[c]! with
      | true =>
        have ea1 : ((m : Int)).toNat = m := by omega
        have pa1 : (0 : Int) ≤ (m : Int) := by omega
        have ba1 : (m : Int) < (d.size : Int) := by omega
        have ra1 : IntKind.i64.wrap ((m : Int)) = (m : Int) := by rw [IntKind.wrap_i64]; omega
        have ec1 : ((c : Int)).toNat = c := by omega
        have pc1 : (0 : Int) ≤ (c : Int) := by omega
        have bc1 : (c : Int) < (d.size : Int) := by omega
        have rc1 : IntKind.i64.wrap ((c : Int)) = (c : Int) := by rw [IntKind.wrap_i64]; omega
        obtain ⟨x1, hx1⟩ : ∃ x, x = d[m]! := ⟨_, rfl⟩
        obtain ⟨y1, hy1⟩ : ∃ x, x = d[c]! := ⟨_, rfl⟩
        have l1a := S1.out.ld R (by omega) P (m) (by omega)
        have l1b := S1.out.ld R (by omega) P (c) (by omega)
        rw [← hx1] at l1a
        rw [← hy1] at l1b
        have hc1 := S1.out.cmp HC.out (by omega) x1 y1
        have hv1 : cf x1 y1 < 0 := by rw [hx1, hy1]; exact of_decide_eq_true hL
        have hd1 : decide (cf x1 y1 < 0) = true := decide_eq_true hv1
        clear hx1 hy1
        go_wp2_with fail
        go_quiet_grown (first | (go_at_fn g; refine Calls.grown_of (hc1 _ _)))
        have S2 : Aside (SWK enc k w0 blk off d (grow (wr.drewN nq) osq)) := S1.out.grown nq osq
        clear l1a l1b hc1 S1
        generalize grow (wr.drewN nq) osq = w2 at S2 ⊢
        clear nq osq
        go_wp2_with fail

        go_roundg (c - i)
        case measure => omega
        case rel => exact ⟨i, c, rfl, rfl, hi, by omega, by omega, Nat.le_refl _, S2, Lib.hid ⟨I.out.1, .inr hL⟩⟩
      | false =>
        have ea1 : ((m : Int)).toNat = m := by omega
        have pa1 : (0 : Int) ≤ (m : Int) := by omega
        have ba1 : (m : Int) < (d.size : Int) := by omega
        have ra1 : IntKind.i64.wrap ((m : Int)) = (m : Int) := by rw [IntKind.wrap_i64]; omega
        have ec1 : ((c : Int)).toNat = c := by omega
        have pc1 : (0 : Int) ≤ (c : Int) := by omega
        have bc1 : (c : Int) < (d.size : Int) := by omega
        have rc1 : IntKind.i64.wrap ((c : Int)) = (c : Int) := by rw [IntKind.wrap_i64]; omega
        obtain ⟨x1, hx1⟩ : ∃ x, x = d[m]! := ⟨_, rfl⟩
        obtain ⟨y1, hy1⟩ : ∃ x, x = d[c]! := ⟨_, rfl⟩
        have l1a := S1.out.ld R (by omega) P (m) (by omega)
        have l1b := S1.out.ld R (by omega) P (c) (by omega)
        rw [← hx1] at l1a
        rw [← hy1] at l1b
        have hc1 := S1.out.cmp HC.out (by omega) x1 y1
        have hv1 : ¬ cf x1 y1 < 0 := by rw [hx1, hy1]; exact of_decide_eq_false hL
        have hd1 : decide (cf x1 y1 < 0) = false := decide_eq_false hv1
        clear hx1 hy1
        go_wp2_with fail
        go_quiet_grown (first | (go_at_fn g; refine Calls.grown_of (hc1 _ _)))
        have S2 : Aside (SWK enc k w0 blk off d (grow (wr.drewN nq) osq)) := S1.out.grown nq osq
        clear l1a l1b hc1 S1
        generalize grow (wr.drewN nq) osq = w2 at S2 ⊢
        clear nq osq
        go_wp2_with fail

        go_roundg (j - (c + 1))
        case measure => omega
        case rel => exact ⟨c + 1, j, by go_num, rfl, by omega, by omega, hj, Nat.le_refl _, S2, Lib.hid ⟨.inr hL, I.out.2⟩⟩
    · obtain rfl : i = j := by omega
      go_wp2
      go_loopg [17] (m - i) (fun kx s17 wr => ∃ (q : Nat) (dk : Array α), s17 = .int .i64 q ∧ i ≤ q ∧ q ≤ m ∧ q - i ≤ kx ∧ dk.size = d.size ∧ Aside (SWK enc k w0 blk off dk wr) ∧ Aside (BackR d q m dk))
      case atStart => exact ⟨m, d, rfl, by omega, Nat.le_refl _, Nat.le_refl _, rfl, S1, BackR.zero (by omega)⟩
      case round =>
        clear S1
        obtain ⟨q, dk, rfl, haq, hqi, hkx2, hds, S1, C⟩ := hrel
        by_cases hlq : (i : Int) < (q : Int)
        · obtain ⟨q, rfl⟩ : ∃ q', q = q' + 1 := ⟨q - 1, by omega⟩
          have hlq' : (i : Int) < (q : Int) + 1 := by omega
          go_wp2_with fail
          have ea2 : ((q : Int) + 1).toNat = q + 1 := by omega
          have pa2 : (0 : Int) ≤ (q : Int) + 1 := by omega
          have ba2 : (q : Int) + 1 < (d.size : Int) := by omega
          have ra2 : IntKind.i64.wrap ((q : Int) + 1) = (q : Int) + 1 := by rw [IntKind.wrap_i64]; omega
          have ec2 : ((q : Int)).toNat = q := by omega
          have pc2 : (0 : Int) ≤ (q : Int) := by omega
          have bc2 : (q : Int) < (d.size : Int) := by omega
          have rc2 : IntKind.i64.wrap ((q : Int)) = (q : Int) := by rw [IntKind.wrap_i64]; omega
          have S2 : Aside (SWK enc k w0 blk off (swp dk (q + 1) (q)) ((wr.drew.setCells blk (off + (q + 1) * k) (enc dk[q]!)).setCells blk (off + (q) * k) (enc dk[q + 1]!))) := S1.out.swapped R (q + 1) (q) (by omega) (by omega)
          have l2a := S1.out.ld1 R (by omega) P (q + 1) (by omega)
          have l2b := S1.out.ld1 R (by omega) P (q) (by omega)
          have s2a := S1.out.st1 R (by omega) P (q + 1) (by omega) dk[q]!
          have s2b := S1.out.st2 R (by omega) P (q + 1) (q) (by omega) (by omega) dk[q]! dk[q + 1]!
          have n2a : (enc dk[q + 1]!).length = k := R.hk _
          have n2b : (enc dk[q]!).length = k := R.hk _
          generalize enc dk[q + 1]! = cI2 at S2 l2a s2b n2a
          generalize enc dk[q]! = cJ2 at S2 l2b s2a s2b n2b
          clear S1
          go_wp2_with fail
          go_big_region_o
          clear l2a l2b s2a s2b
          generalize (wr.drew.setCells blk (off + (q + 1) * k) cJ2).setCells blk (off + (q) * k) cI2 = w3 at S2 ⊢
          go_wp2

          go_roundg (q - i)
          case measure => omega
          case rel => exact ⟨q, swp dk (q + 1) q, by go_num, by omega, by omega, Nat.le_refl _, by rw [size_swp]; exact hds, S2, C.out.succ (by omega) (by omega)⟩
        · obtain rfl : q = i := by omega
          go_wp2
          (try simp only [Exit.inBlock, Exit.then]); refine bodyPost_ret (results_none rfl _ _ _) rfl ?_
          refine ⟨rfl, dk, S1.out, ?_⟩
          have hU' := HU.out
          have hI := I.out
          have hbm := HM.out
          subst hbm
          exact merge_back hO C.out hi hqi (by omega) hU' hI.1 hI.2

set_option maxHeartbeats 8000000 in
set_option maxRecDepth 1000000 in
theorem symMerge_w {k : Nat} (L : StT P k) (enc : α → List Value) (cf : α → α → Int) (hO : SWO (ltOf cf)) (g : Nat) (cb : Array Value) (blk off cap : Nat) (d0 : Array α) (w0 : World)
    (eg : ∀ args w, (callFunc g args).run P w = .ok (.enter g args) w) (hcmp : CmpLays P g cb enc k cf blk off d0.size w0) (R : RowK enc k w0 blk off d0) :
    ∀ (N a m b : Nat) (d : Array α) (w : World), b - a < N → d0.size = d.size → SWK enc k w0 blk off d w → a < m → m < b → b ≤ d.size → d.size < 2305843009213693952 → AscL (ltOf cf) (seg d a m) → AscL (ltOf cf) (seg d m b) →
    Calls P 112 #[.slice (some ⟨blk, off, none⟩) d.size cap, .int .i64 a, .int .i64 m, .int .i64 b, .func (.func g) #[] cb] w fun e w' => e = .returned (.tuple #[]) ∧ ∃ d', SWK enc k w0 blk off d' w' ∧ Out a b d d' ∧ seg d' a b = mergeL (ltOf cf) (seg d a m) (seg d m b) := by
  intro N
  induction N with
  | zero => intro a m b d w h; exact absurd h (Nat.not_lt_zero _)
  | succ N ih =>
    intro a m b d w hN hs S ham hmb hb hsz hU hV
    by_cases hm : m = a + 1
    · exact sym_l L enc cf hO g cb blk off cap a m b d0 d w0 w eg hcmp R hs S ham hmb hb hsz hU hV hm
    by_cases hbm : b = m + 1
    · exact sym_r L enc cf hO g cb blk off cap a m b d0 d w0 w eg hcmp R hs S ham hmb hb hsz hU hV hm hbm
    have L' : Aside (StT P k) := L
    obtain ⟨mixed, t0, a0, z0, v0, t3, a3, z3, v3, t4, a4, z4, v4, tu, au, zu, ts, asl, zs, vs, tc, ac, zc, vc, aE, zE, fsw, frt, fsy, fst⟩ := L
    have u3 := run_underlying t3
    have uu := run_underlying tu
    have e4 : ∀ args w, (callFunc 127 args).run P w = .ok (.enter 127 args) w := enters_of frt (by kernel_rfl) rfl
    have e5 : ∀ args w, (callFunc 112 args).run P w = .ok (.enter 112 args) w := enters_of fsy (by kernel_rfl) rfl
    have S0 : Aside (SWK enc k w0 blk off d w) := S
    have HC : Aside _ := hcmp
    have HU : Aside (AscL (ltOf cf) (seg d a m)) := hU
    have HV : Aside (AscL (ltOf cf) (seg d m b)) := hV
    have IH : Aside _ := ih
    have HS : Aside (d0.size = d.size) := hs
    obtain ⟨mid, hmd⟩ : ∃ c, c = (a + b) / 2 := ⟨_, rfl⟩
    have hmi : ((a : Int) + (b : Int)) / 2 = (mid : Int) := by omega
    have hm2 : 2 * mid ≤ a + b := by omega
    have hm3 : a + b < 2 * mid + 2 := by omega
    have hm1 : ((m : Int) - (a : Int) == 1) = false := by simp; omega
    have hb1 : ((b : Int) - (m : Int) == 1) = false := by simp; omega
    have hamid : a < mid := by omega
    have hmidb : mid < b := by omega
    obtain ⟨lo, hi, hlh⟩ : ∃ lo hi : Nat, (mid < m ∧ lo + b = mid + m ∧ hi = mid) ∨ (m ≤ mid ∧ lo = a ∧ hi = m) := by
      by_cases h : mid < m
      · exact ⟨mid + m - b, mid, .inl ⟨h, by omega, rfl⟩⟩
      · exact ⟨a, m, .inr ⟨by omega, rfl, rfl⟩⟩
    have HLH : Aside _ := hlh
    have q1 : a ≤ lo := by omega
    have q2 : lo ≤ hi := by omega
    have q3 : hi ≤ mid := by omega
    have q4 : hi ≤ m := by omega
    have q5 : mid + m ≤ lo + b := by omega
    clear S hcmp hU hV ih hm hbm hmd hlh
    go_enter fsy, Try.ntmps112
    go_upto_if 140 with fail
    go_cut [20, 21] (fun s20 s21 wc => s20 = .int .i64 lo ∧ s21 = .int .i64 hi ∧ wc = w)
    case first =>
      as_aux_lemma =>
        rcases HLH.out with ⟨h1, h2, h3⟩ | ⟨h1, h2, h3⟩
        · have h1i : (mid : Int) < (m : Int) := by omega
          have h2 := Lib.hid h2
          have h3 := Lib.hid h3
          go_wp2_with fail
          go_meet
          case rel => exact ⟨by have := h2.out; congr 1; omega, by rw [h3.out], rfl⟩
        · have h1i : ¬ (mid : Int) < (m : Int) := by omega
          have h2 := Lib.hid h2
          have h3 := Lib.hid h3
          go_wp2_with fail
          go_meet
          case rel => exact ⟨by rw [h2.out], by rw [h3.out], rfl⟩
    case rest =>
    obtain ⟨rfl, rfl, rfl⟩ := hcut
    go_wp2
    clear hm1 hb1 hmi
    go_loopg [20, 21] (hi - lo) (fun kx s20 s21 wr => ∃ (i j : Nat), s20 = .int .i64 i ∧ s21 = .int .i64 j ∧ lo ≤ i ∧ i ≤ j ∧ j ≤ hi ∧ j - i ≤ kx ∧ Aside (SWK enc k w0 blk off d wr) ∧ Aside ((i = lo ∨ ltOf cf d[mid + m - i]! d[i - 1]! = false) ∧ (j = hi ∨ ltOf cf d[mid + m - 1 - j]! d[j]! = true)))
    case atStart => exact ⟨lo, hi, rfl, rfl, Nat.le_refl _, q2, Nat.le_refl _, Nat.le_refl _, S0, Lib.hid ⟨.inl rfl, .inl rfl⟩⟩
    case round =>
      clear S0
      obtain ⟨i, j, rfl, rfl, hi1, hij, hj, hkx, S1, I⟩ := hrel
      by_cases hlt : i < j
      · obtain ⟨c, hcd⟩ : ∃ c, c = (i + j) / 2 := ⟨_, rfl⟩
        have hci : ((i : Int) + (j : Int)) / 2 = (c : Int) := by omega
        have hic : i ≤ c := by omega
        have hcj : c < j := by omega
        clear hcd
        obtain ⟨u, hx⟩ : ∃ u, u + 1 + c = mid + m := ⟨mid + m - 1 - c, by omega⟩
        have hxi : (mid : Int) + (m : Int) - 1 - (c : Int) = (u : Int) := by omega
        have hxb : u < b := by omega
        have hx1 : mid + m - 1 - c = u := by omega
        have hx2 : mid + m - (c + 1) = u := by omega
        have HX := Lib.hid (And.intro hx1 hx2)
        clear hx hx1 hx2
        cases hL : ltOf cf d[u]! d[c]! with
        | true =>
          as_aux_lemma =>
            have ea1 : ((u : Int)).toNat = u := by omega
            have pa1 : (0 : Int) ≤ (u : Int) := by omega
            have ba1 : (u : Int) < (d.size : Int) := by omega
            have ra1 : IntKind.i64.wrap ((u : Int)) = (u : Int) := by rw [IntKind.wrap_i64]; omega
            have ec1 : ((c : Int)).toNat = c := by omega
            have pc1 : (0 : Int) ≤ (c : Int) := by omega
            have bc1 : (c : Int) < (d.size : Int) := by omega
            have rc1 : IntKind.i64.wrap ((c : Int)) = (c : Int) := by rw [IntKind.wrap_i64]; omega
            obtain ⟨x1, hx1⟩ : ∃ x, x = d[u]! := ⟨_, rfl⟩
            obtain ⟨y1, hy1⟩ : ∃ x, x = d[c]! := ⟨_, rfl⟩
            have l1a := S1.out.ld R (by omega) P (u) (by omega)
            have l1b := S1.out.ld R (by omega) P (c) (by omega)
            rw [← hx1] at l1a
            rw [← hy1] at l1b
            have hc1 := S1.out.cmp HC.out (by omega) x1 y1
            have hv1 : cf x1 y1 < 0 := by rw [hx1, hy1]; exact of_decide_eq_true hL
            have hd1 : decide (cf x1 y1 < 0) = true := decide_eq_true hv1
            clear hx1 hy1
            go_wp2_with fail
            go_quiet_grown (first | (go_at_fn g; refine Calls.grown_of (hc1 _ _)))
            have S2 : Aside (SWK enc k w0 blk off d (grow (wr.drewN nq) osq)) := S1.out.grown nq osq
            clear l1a l1b hc1 S1
            generalize grow (wr.drewN nq) osq = w2 at S2 ⊢
            clear nq osq
            go_wp2_with fail
            go_roundg (c - i)
            case measure => omega
            case rel => exact ⟨i, c, rfl, rfl, hi1, by omega, by omega, Nat.le_refl _, S2, Lib.hid ⟨I.out.1, .inr (by rw [HX.out.1]; exact hL)⟩⟩
        | false =>
          as_aux_lemma =>
            have ea1 : ((u : Int)).toNat = u := by omega
            have pa1 : (0 : Int) ≤ (u : Int) := by omega
            have ba1 : (u : Int) < (d.size : Int) := by omega
            have ra1 : IntKind.i64.wrap ((u : Int)) = (u : Int) := by rw [IntKind.wrap_i64]; omega
            have ec1 : ((c : Int)).toNat = c := by omega
            have pc1 : (0 : Int) ≤ (c : Int) := by omega
            have bc1 : (c : Int) < (d.size : Int) := by omega
            have rc1 : IntKind.i64.wrap ((c : Int)) = (c : Int) := by rw [IntKind.wrap_i64]; omega
            obtain ⟨x1, hx1⟩ : ∃ x, x = d[u]! := ⟨_, rfl⟩
            obtain ⟨y1, hy1⟩ : ∃ x, x = d[c]! := ⟨_, rfl⟩
            have l1a := S1.out.ld R (by omega) P (u) (by omega)
            have l1b := S1.out.ld R (by omega) P (c) (by omega)
            rw [← hx1] at l1a
            rw [← hy1] at l1b
            have hc1 := S1.out.cmp HC.out (by omega) x1 y1
            have hv1 : ¬ cf x1 y1 < 0 := by rw [hx1, hy1]; exact of_decide_eq_false hL
            have hd1 : decide (cf x1 y1 < 0) = false := decide_eq_false hv1
            clear hx1 hy1
            go_wp2_with fail
            go_quiet_grown (first | (go_at_fn g; refine Calls.grown_of (hc1 _ _)))
            have S2 : Aside (SWK enc k w0 blk off d (grow (wr.drewN nq) osq)) := S1.out.grown nq osq
            clear l1a l1b hc1 S1
            generalize grow (wr.drewN nq) osq = w2 at S2 ⊢
            clear nq osq
            go_wp2_with fail
            go_roundg (j - (c + 1))
            case measure => omega
            case rel => exact ⟨c + 1, j, by go_num, rfl, by omega, by omega, hj, Nat.le_refl _, S2, Lib.hid ⟨.inr (by rw [HX.out.2]; exact hL), I.out.2⟩⟩
      · obtain rfl : i = j := by omega
        obtain ⟨e, hse⟩ : ∃ e, i + e = mid + m := ⟨mid + m - i, by omega⟩
        have he1 : (mid : Int) + (m : Int) - (i : Int) = (e : Int) := by omega
        have hL : Aside (i = a ∨ e = b ∨ ltOf cf d[e]! d[i - 1]! = false) := by
          show _ ∨ _
          have h1 := I.out.1
          have h2 := HLH.out
          rw [show mid + m - i = e by omega] at h1
          rcases h1 with h1 | h1
          · rcases h2 with h2 | h2
            · right; left; omega
            · left; omega
          · exact .inr (.inr h1)
        have hR : Aside (i = m ∨ e = m ∨ ltOf cf d[e - 1]! d[i]! = true) := by
          show _ ∨ _
          have h1 := I.out.2
          have h2 := HLH.out
          rw [show mid + m - 1 - i = e - 1 by omega] at h1
          rcases h1 with h1 | h1
          · rcases h2 with h2 | h2
            · right; left; omega
            · left; omega
          · exact .inr (.inr h1)
        have p1 : a ≤ i := by omega
        have p2 : i ≤ m := by omega
        have p3 : m ≤ e := by omega
        have p4 : e ≤ b := by omega
        have p5 : i ≤ mid := by omega
        have p6 : mid ≤ e := by omega
        have HSE : Aside (i + e = mid + m) := hse
        clear I HLH hi1 hij hj hkx hlt q1 q2 q3 q4 q5 hse
        obtain ⟨W39, hW⟩ : ∃ W, W = wr := ⟨_, rfl⟩
        subst hW
        go_upto_region 39 with fail
        go_cut [185] (fun s wx => s = .bool (decide (i < m) && decide (m < e)) ∧ wx = W39)
        case first =>
          as_aux_lemma =>
            by_cases h1 : i < m
            · have h1i : (i : Int) < (m : Int) := by omega
              by_cases h2 : m < e
              · have h2i : (m : Int) < (e : Int) := by omega
                go_wp2_with fail
                go_meet
                case rel => exact ⟨by simp [h1, h2], rfl⟩
              · have h2i : ¬ (m : Int) < (e : Int) := by omega
                go_wp2_with fail
                go_meet
                case rel => exact ⟨by simp [h1, h2], rfl⟩
            · have h1i : ¬ (i : Int) < (m : Int) := by omega
              go_wp2_with fail
              go_meet
              case rel => exact ⟨by simp [h1], rfl⟩
        case rest =>
        obtain ⟨rfl, rfl⟩ := hcut
        generalize hbb : (decide (i < m) && decide (m < e)) = bb
        have HBB := Lib.hid hbb
        clear hbb
        go_upto_if 185 with fail
        go_cut [] (fun wc => ∃ d1 : Array α, Aside (SWK enc k w0 blk off d1 wc) ∧ Aside (Out i e d d1 ∧ seg d1 i e = seg d m e ++ seg d i m))
        case first =>
          as_aux_lemma =>
            cases bb with
            | true =>
              have h : i < m ∧ m < e := by simpa using HBB.out
              have hc := rotate_w L'.out enc g cb blk off cap i m e d0 d w0 wc R HS.out S1.out h.1 h.2 (by omega) hsz
              go_wp2_with (go_at_fn 127; refine hc.mono ?_; rintro e w1 ⟨rfl, d1, S2, R2⟩; have S2 := Lib.hid S2; have R2 := Lib.hid R2)
              go_meet
              case rel => exact ⟨d1, S2, R2⟩
            | false =>
              have hno := Lib.hid (sym_rot_none (d := d) (s := i) (m := m) (e := e) (by omega) p2 p3 (by simpa using HBB.out))
              go_wp2_with fail
              go_meet
              case rel => exact ⟨d, S1, hno⟩
        case rest =>
        obtain ⟨d1, S2, R1⟩ := hcut
        obtain ⟨W41, hW⟩ : ∃ W, W = wc := ⟨_, rfl⟩
        subst hW
        clear HBB
        clear S1 he1
        have HA1 : Aside (AscL (ltOf cf) (seg d1 a i) ∧ AscL (ltOf cf) (seg d1 i mid) ∧ ∀ d2, Out a mid d1 d2 → AscL (ltOf cf) (seg d2 mid e) ∧ AscL (ltOf cf) (seg d2 e b)) := sym_ascs p1 p2 p3 p4 (by omega) HSE.out HU.out HV.out R1.out.1 R1.out.2
        have z1 : d1.size = d.size := R1.out.1.1
        have Z1 : Aside (d1.size = d.size) := z1
        clear z1
        go_upto_region 41 with fail
        go_cut [199] (fun s wx => s = .bool (decide (a < i) && decide (i < mid)) ∧ wx = W41)
        case first =>
          as_aux_lemma =>
            by_cases h1 : a < i
            · have h1i : (a : Int) < (i : Int) := by omega
              by_cases h2 : i < mid
              · have h2i : (i : Int) < (mid : Int) := by omega
                go_wp2_with fail
                go_meet
                case rel => exact ⟨by simp [h1, h2], rfl⟩
              · have h2i : ¬ (i : Int) < (mid : Int) := by omega
                go_wp2_with fail
                go_meet
                case rel => exact ⟨by simp [h1, h2], rfl⟩
            · have h1i : ¬ (a : Int) < (i : Int) := by omega
              go_wp2_with fail
              go_meet
              case rel => exact ⟨by simp [h1], rfl⟩
        case rest =>
        obtain ⟨rfl, rfl⟩ := hcut
        generalize hbb : (decide (a < i) && decide (i < mid)) = bb
        have HBB := Lib.hid hbb
        clear hbb
        go_upto_if 199 with fail
        go_cut [] (fun wc => ∃ d2 : Array α, Aside (SWK enc k w0 blk off d2 wc) ∧ Aside (Out a mid d1 d2 ∧ seg d2 a mid = mergeL (ltOf cf) (seg d1 a i) (seg d1 i mid)))
        case first =>
          as_aux_lemma =>
            cases bb with
            | true =>
              have h : a < i ∧ i < mid := by simpa using HBB.out
              have hc := IH.out a i mid d1 wc (by omega) (by rw [Z1.out]; exact HS.out) S2.out h.1 h.2 (by rw [Z1.out]; omega) (by rw [Z1.out]; exact hsz) HA1.out.1 HA1.out.2.1
              rw [Z1.out] at hc
              go_wp2_with (go_at_fn 112; refine hc.mono ?_; rintro e w1 ⟨rfl, d2, S3, R2⟩; have S3 := Lib.hid S3; have R2 := Lib.hid R2)
              go_meet
              case rel => exact ⟨d2, S3, R2⟩
            | false =>
              have hno := Lib.hid (sym_mrg_none (lt := ltOf cf) (d := d1) (a := a) (s := i) (mid := mid) p1 p5 (by simpa using HBB.out))
              go_wp2_with fail
              go_meet
              case rel => exact ⟨d1, S2, hno⟩
        case rest =>
        obtain ⟨d2, S3, R2⟩ := hcut
        obtain ⟨W43, hW⟩ : ∃ W, W = wc := ⟨_, rfl⟩
        subst hW
        clear HBB
        clear S2
        have HA2 := Lib.hid (HA1.out.2.2 d2 R2.out.1)
        have Z2 : Aside (d2.size = d.size) := R2.out.1.1.trans Z1.out
        by_cases h : mid < e ∧ e < b
        · have h1 : (mid : Int) < (e : Int) := by omega
          have h2 : (e : Int) < (b : Int) := by omega
          have hc := IH.out mid e b d2 W43 (by omega) (by rw [Z2.out]; exact HS.out) S3.out h.1 h.2 (by rw [Z2.out]; omega) (by rw [Z2.out]; exact hsz) HA2.out.1 HA2.out.2
          rw [Z2.out] at hc
          go_wp2_with (go_at_fn 112; refine hc.mono ?_; rintro e w1 ⟨rfl, d3, S4, R3⟩; have S4 := Lib.hid S4; have R3 := Lib.hid R3)
          go_end0
          exact ⟨rfl, d3, S4.out, merge_sym hO p1 p2 p3 p4 hb HSE.out HU.out HV.out hL.out hR.out R1.out.1 R1.out.2 R2.out.1 R2.out.2 R3.out.1 R3.out.2⟩
        · have hno := Lib.hid (sym_mrg_none (lt := ltOf cf) (d := d2) (a := mid) (s := e) (mid := b) p6 p4 h)
          by_cases h1 : mid < e
          · have h1i : (mid : Int) < (e : Int) := by omega
            have h2 : ¬ (e : Int) < (b : Int) := by omega
            go_wp2_with fail
            go_end0
            exact ⟨rfl, d2, S3.out, merge_sym hO p1 p2 p3 p4 hb HSE.out HU.out HV.out hL.out hR.out R1.out.1 R1.out.2 R2.out.1 R2.out.2 hno.out.1 hno.out.2⟩
          · have h1i : ¬ (mid : Int) < (e : Int) := by omega
            go_wp2_with fail
            go_end0
            exact ⟨rfl, d2, S3.out, merge_sym hO p1 p2 p3 p4 hb HSE.out HU.out HV.out hL.out hR.out R1.out.1 R1.out.2 R2.out.1 R2.out.2 hno.out.1 hno.out.2⟩
end
end Go.Proofs.Ytmhkacafilpliaa
