/-
  slices.SortStableFunc, whole, at rows of structs: the row sorted, equals as they stood. Conditions: how the row lies; what the comparing function hands back, of whatever two elements, a strict weak order; fewer than 2^60 elements.
-/
import Derived.Test.YtmhkacafilpliaaSW
import Derived.Shelf.SlSortCmp.PdqK
import Derived.Ground.SlsfProg
namespace Go.Proofs.Ytmhkacafilpliaa
open Go.Shelf Go.RowKit Go.Lib Go.Sort

def insP_ren : Go.Shelf.Ren := ⟨fun | 20 => 111 | n => n, fun | 22 => 117 | 24 => 75 | 25 => 128 | 0 => 0 | 3 => 3 | 4 => 4 | n => n, fun n => n⟩
theorem insP : SlLaysF0.n20 Try.prog insP_ren where
  mixed := by kernel_rfl
  f20 := ⟨Try.f111.name, by decide, Try.func111.trans (congrArg some (by kernel_rfl))⟩
  t0 := Try.underlying0
  a0 := Try.isAgg0
  z0 := Try.sizeOf0
  v0 := Try.zeroValue0
  t3 := Try.underlying3
  a3 := Try.isAgg3
  z3 := Try.sizeOf3
  v3 := Try.zeroValue3
  t4 := Try.underlying4
  a4 := Try.isAgg4
  z4 := Try.sizeOf4
  v4 := Try.zeroValue4
  t22 := Try.underlying117
  a22 := Try.isAgg117
  z22 := Try.sizeOf117
  v22 := Try.zeroValue117
  t25 := Try.underlying128
  a25 := Try.isAgg128
  z25 := Try.sizeOf128
  v25 := Try.zeroValue128

section
variable {α : Type} [Inhabited α]

theorem insert_w (enc : α → List Value) (cf : α → α → Int) (hO : SWO (ltOf cf)) (g : Nat) (cb : Array Value) (blk off cap a b : Nat) (d0 d : Array α) (w0 w : World)
    (eg : ∀ args w, (callFunc g args).run Try.prog w = .ok (.enter g args) w) (hcmp : CmpLays Try.prog g cb enc 6 cf blk off d0.size w0) (R : RowK enc 6 w0 blk off d0) (hs : d0.size = d.size) (S : SWK enc 6 w0 blk off d w) (hab : a ≤ b) (hb : b ≤ d.size) (hsz : d.size < 1152921504606846976) :
    Calls Try.prog 111 #[.slice (some ⟨blk, off, none⟩) d.size cap, .int .i64 a, .int .i64 b, .func (.func g) #[] cb] w fun e w' => e = .returned (.tuple #[]) ∧ ∃ d', SWK enc 6 w0 blk off d' w' ∧ Out a b d d' ∧ seg d' a b = stab (ltOf cf) (seg d a b) := by
  refine (AnyQ.insertionSortCmpFunc_w insP 6 Try.isAgg75 Try.sizeOf75 enc cf g cb blk off cap a b d0 d w0 w eg hcmp R hs S hO hab hb (by omega)).mono ?_
  rintro e w' ⟨rfl, hw⟩
  rcases Nat.lt_or_ge a b with h | h
  · obtain ⟨h1, h2⟩ := ins_stab hO (d := d) h hb
    exact ⟨rfl, _, hw, h1, h2⟩
  · obtain rfl : a = b := by omega
    rw [ins_none (Nat.le_refl _)] at hw
    exact ⟨rfl, d, hw, .refl _ _ _, by rw [seg_nil]; rfl⟩

set_option maxHeartbeats 4000000 in
set_option maxRecDepth 1000000 in
theorem stable_w (enc : α → List Value) (cf : α → α → Int) (hO : SWO (ltOf cf)) (g : Nat) (cb : Array Value) (blk off cap n : Nat) (d : Array α) (w : World)
    (eg : ∀ args w, (callFunc g args).run Try.prog w = .ok (.enter g args) w) (hcmp : CmpLays Try.prog g cb enc 6 cf blk off d.size w) (R : RowK enc 6 w blk off d) (hn : d.size = n) (hsz : n < 1152921504606846976) :
    Calls Try.prog 98 #[.slice (some ⟨blk, off, none⟩) n cap, .int .i64 n, .func (.func g) #[] cb] w fun e w' => e = .returned (.tuple #[]) ∧ ∃ d', SWK enc 6 w blk off d' w' ∧ d'.size = n ∧ d'.toList = stab (ltOf cf) d.toList := by
  have S0 : Aside (SWK enc 6 w blk off d w) := SWK.start R.hH
  have HC : Aside _ := hcmp
  have HN : Aside (d.size = n) := hn
  have hdn : d.size < 1152921504606846976 := by omega
  have INS := Lib.hid (insert_w enc cf hO g cb blk off cap (d0 := d) (w0 := w) (eg := eg) (hcmp := hcmp) (R := R))
  have SYM := Lib.hid (symMerge_w stT enc cf hO g cb blk off cap d w eg hcmp R)
  clear hcmp hn
  go_enter Try.func98, Try.ntmps98
  go_wp2
  go_loopg [7, 8] n (fun kx s7 s8 wr => ∃ (x : Nat) (dk : Array α), s7 = .int .i64 x ∧ s8 = .int .i64 ((x : Int) + 20) ∧ x ≤ n ∧ n - x ≤ kx ∧ Aside (dk.size = n) ∧ Aside (SWK enc 6 w blk off dk wr) ∧ Aside (∃ i, x = i * 20 ∧ Dun (ltOf cf) d dk 20 x ∧ Out 0 x d dk))
  case atStart => exact ⟨0, d, rfl, by go_num, Nat.zero_le _, Nat.le_refl _, HN, S0, Lib.hid ⟨0, by omega, Dun.zero (by omega), .refl _ _ _⟩⟩
  case round =>
    clear S0
    obtain ⟨x, dk, rfl, rfl, hx, hkx, Z, S1, I⟩ := hrel
    by_cases hlt : x + 20 ≤ n
    · have hlt' : (x : Int) + 20 ≤ (n : Int) := by omega
      have hc := INS.out x (x + 20) dk wr (by rw [Z.out]; exact HN.out) S1.out (by omega) (by rw [Z.out]; exact hlt) (by rw [Z.out]; exact hsz)
      rw [Z.out, show ((x + 20 : Nat) : Int) = (x : Int) + 20 by omega] at hc
      go_wp2_with (go_at_call 111; refine hc.mono ?_; rintro e w1 ⟨rfl, d1, S2, R2⟩; have S2 := Lib.hid S2; have R2 := Lib.hid R2)
      go_roundg (n - (x + 20))
      case measure => omega
      case rel =>
        refine ⟨x + 20, d1, by go_num, by go_num, hlt, Nat.le_refl _, R2.out.1.1.trans Z.out, S2, ?_⟩
        obtain ⟨i, rfl, h1, h2⟩ := I.out
        refine Lib.hid ⟨i + 1, by omega, h1.step (by omega) R2.out.1 ?_ (by rw [Z.out]; exact hlt), (h2.widen (Nat.le_refl _) (by omega)).trans (R2.out.1.widen (by omega) (Nat.le_refl _))⟩
        show seg d1 _ _ = _
        rw [R2.out.2, h2.seg (by rw [HN.out]; exact hlt) (.inr (Nat.le_refl _))]
    · have hlt' : ¬ (x : Int) + 20 ≤ (n : Int) := by omega
      have hc := INS.out x n dk wr (by rw [Z.out]; exact HN.out) S1.out hx (by rw [Z.out]; exact Nat.le_refl _) (by rw [Z.out]; exact hsz)
      rw [Z.out] at hc
      go_wp2_with (go_at_call 111; refine hc.mono ?_; rintro e w1 ⟨rfl, d1, S2, R2⟩; have S2 := Lib.hid S2; have R2 := Lib.hid R2)
      have B0 : Aside (d1.size = n ∧ Bks (ltOf cf) d d1 n 20 0) := by
        obtain ⟨i, rfl, h1, h2⟩ := I.out
        refine ⟨R2.out.1.1.trans Z.out, Bks.all (i := i) (fun j hj => (h1 j hj).out R2.out.1 (by rw [Z.out]; omega) (.inl hj)) hx (by omega) fun _ => ?_⟩
        show seg d1 _ _ = _
        rw [R2.out.2, h2.seg (by rw [HN.out]; exact Nat.le_refl _) (.inr (Nat.le_refl _))]
      clear I S1 Z hc R2 hkx hlt hlt' hx INS
      go_loopg [6] n (fun kx s6 wr => ∃ (B : Nat) (dk : Array α), s6 = .int .i64 B ∧ 0 < B ∧ B < 2305843009213693952 ∧ n - B ≤ kx ∧ Aside (SWK enc 6 w blk off dk wr) ∧ Aside (dk.size = n ∧ Bks (ltOf cf) d dk n B 0))
      case atStart => exact ⟨20, d1, rfl, by omega, by omega, by omega, S2, B0⟩
      case round =>
        clear S2 B0
        obtain ⟨B, dk, rfl, hB, hB2, hkx, S1, Z⟩ := hrel
        by_cases hBn : B < n
        · have hBn' : (B : Int) < (n : Int) := by omega
          go_wp2
          go_loopg [7, 8] n (fun kx s7 s8 wr => ∃ (x : Nat) (dk : Array α), s7 = .int .i64 x ∧ s8 = .int .i64 ((x : Int) + 2 * (B : Int)) ∧ x ≤ n ∧ n - x ≤ kx ∧ Aside (SWK enc 6 w blk off dk wr) ∧ Aside (dk.size = n ∧ ∃ i, x = i * (2 * B) ∧ Dun (ltOf cf) d dk (2 * B) x ∧ Bks (ltOf cf) d dk n B x))
          case atStart => exact ⟨0, dk, rfl, by simp, Nat.zero_le _, Nat.le_refl _, S1, Lib.hid ⟨Z.out.1, 0, by omega, Dun.zero (by omega), Z.out.2⟩⟩
          case round =>
            clear S1 Z
            obtain ⟨x, d1, rfl, rfl, hx, hkx2, S2, Z⟩ := hrel
            by_cases hlt : x + 2 * B ≤ n
            · have hlt' : (x : Int) + 2 * (B : Int) ≤ (n : Int) := by omega
              have hbs : Aside (Sd (ltOf cf) d d1 x (x + B) ∧ Sd (ltOf cf) d d1 (x + B) (x + 2 * B)) := by
                obtain ⟨z, i, rfl, h1, h2⟩ := Z.out
                have e1 : i * (2 * B) = (2 * i) * B := by rw [Nat.mul_comm 2 i, Nat.mul_assoc]
                have e2 : (2 * i) * B + B = (2 * i + 1) * B := by rw [Nat.add_mul, Nat.one_mul]
                have g1 := h2 (2 * i) (by omega) (by omega)
                have g2 := h2 (2 * i + 1) (by omega) (by omega)
                rw [Nat.min_eq_left (by omega)] at g1 g2
                rw [← e2, ← e1] at g2
                rw [← e1] at g1
                exact ⟨g1, by rw [show i * (2 * B) + 2 * B = i * (2 * B) + B + B by omega]; exact g2⟩
              have hc := SYM.out (2 * B + 1) x (x + B) (x + 2 * B) d1 wr (by omega) (by rw [Z.out.1]; exact HN.out) S2.out (by omega) (by omega) (by rw [Z.out.1]; exact hlt) (by rw [Z.out.1]; omega) (hbs.out.1.asc hO) (hbs.out.2.asc hO)
              rw [Z.out.1, show ((x + B : Nat) : Int) = (x : Int) + (B : Int) by omega, show ((x + 2 * B : Nat) : Int) = (x : Int) + 2 * (B : Int) by omega] at hc
              go_wp2_with (go_at_call 112; refine hc.mono ?_; rintro e w1 ⟨rfl, d2, S3, R3⟩; have S3 := Lib.hid S3; have R3 := Lib.hid R3)
              go_roundg (n - (x + 2 * B))
              case measure => omega
              case rel =>
                refine ⟨x + 2 * B, d2, by go_num, by go_num, hlt, Nat.le_refl _, S3, ?_⟩
                obtain ⟨z, i, rfl, h1, h2⟩ := Z.out
                refine Lib.hid ⟨R3.out.1.1.trans z, i + 1, by rw [Nat.add_mul, Nat.one_mul], h1.step (by omega) R3.out.1 (hbs.out.1.merge hO hbs.out.2 (by omega) (by omega) (by rw [HN.out]; exact hlt) R3.out.2) (by rw [z]; exact hlt), h2.step R3.out.1 (by omega) (by rw [z]; exact Nat.le_refl _)⟩
            · have hlt' : ¬ (x : Int) + 2 * (B : Int) ≤ (n : Int) := by omega
              go_upto_if 54 with fail
              go_cut [] (fun wc => ∃ d2 : Array α, Aside (SWK enc 6 w blk off d2 wc) ∧ Aside (d2.size = n ∧ Bks (ltOf cf) d d2 n (2 * B) 0))
              case first =>
                by_cases hm : x + B < n
                · have hm' : (x : Int) + (B : Int) < (n : Int) := by omega
                  have hbs : Aside (Sd (ltOf cf) d d1 x (x + B) ∧ Sd (ltOf cf) d d1 (x + B) n) := by
                    obtain ⟨z, i, rfl, h1, h2⟩ := Z.out
                    have e1 : i * (2 * B) = (2 * i) * B := by rw [Nat.mul_comm 2 i, Nat.mul_assoc]
                    have e2 : (2 * i) * B + B = (2 * i + 1) * B := by rw [Nat.add_mul, Nat.one_mul]
                    have g1 := h2 (2 * i) (by omega) (by omega)
                    have g2 := h2 (2 * i + 1) (by omega) (by omega)
                    rw [Nat.min_eq_left (by omega)] at g1
                    rw [Nat.min_eq_right (by omega)] at g2
                    rw [← e2, ← e1] at g2
                    rw [← e1] at g1
                    exact ⟨g1, g2⟩
                  have hc := SYM.out (2 * B + 1) x (x + B) n d1 wr (by omega) (by rw [Z.out.1]; exact HN.out) S2.out (by omega) hm (by rw [Z.out.1]; exact Nat.le_refl _) (by rw [Z.out.1]; omega) (hbs.out.1.asc hO) (hbs.out.2.asc hO)
                  rw [Z.out.1, show ((x + B : Nat) : Int) = (x : Int) + (B : Int) by omega] at hc
                  go_wp2_with (go_at_call 112; refine hc.mono ?_; rintro e w1 ⟨rfl, d2, S3, R3⟩; have S3 := Lib.hid S3; have R3 := Lib.hid R3)
                  go_meet
                  case rel =>
                    refine ⟨d2, S3, ?_⟩
                    obtain ⟨z, i, rfl, h1, h2⟩ := Z.out
                    refine Lib.hid ⟨R3.out.1.1.trans z, Bks.all (i := i) (fun j hj => (h1 j hj).out R3.out.1 (by rw [z]; omega) (.inl hj)) hx (by omega) fun _ => hbs.out.1.merge hO hbs.out.2 (by omega) (by omega) (by rw [HN.out]; exact Nat.le_refl _) R3.out.2⟩
                · have hm' : ¬ (x : Int) + (B : Int) < (n : Int) := by omega
                  go_wp2_with fail
                  go_meet
                  case rel =>
                    refine ⟨d1, S2, ?_⟩
                    obtain ⟨z, i, rfl, h1, h2⟩ := Z.out
                    refine Lib.hid ⟨z, Bks.all (i := i) h1 hx (by omega) fun hl => ?_⟩
                    have e1 : i * (2 * B) = (2 * i) * B := by rw [Nat.mul_comm 2 i, Nat.mul_assoc]
                    have g1 := h2 (2 * i) (by omega) (by omega)
                    rw [Nat.min_eq_right (by omega)] at g1
                    rw [← e1] at g1
                    exact g1
              case rest =>
              obtain ⟨d2, S3, Z3⟩ := hcut
              go_wp2
              go_roundg (n - 2 * B)
              case measure => omega
              case rel => exact ⟨2 * B, d2, by rw [show ((2 * B : Nat) : Int) = (B : Int) * 2 by omega], by omega, by omega, Nat.le_refl _, S3, Z3⟩
        · have hBn' : ¬ (B : Int) < (n : Int) := by omega
          go_wp2
          go_end0
          exact ⟨rfl, dk, S1.out, Z.out.1, Z.out.2.done (by omega) Z.out.1 HN.out⟩

set_option maxHeartbeats 2000000 in
set_option maxRecDepth 100000 in
theorem sortStable_w (enc : α → List Value) (cf : α → α → Int) (hO : SWO (ltOf cf)) (g : Nat) (cb : Array Value) (blk off cap n : Nat) (d : Array α) (w : World)
    (eg : ∀ args w, (callFunc g args).run Try.prog w = .ok (.enter g args) w) (hcmp : CmpLays Try.prog g cb enc 6 cf blk off d.size w) (R : RowK enc 6 w blk off d) (hn : d.size = n) (hsz : n < 1152921504606846976) :
    Calls Try.prog 91 #[.slice (some ⟨blk, off, none⟩) n cap, .func (.func g) #[] cb] w fun e w' => e = .returned (.tuple #[]) ∧ ∃ d', SWK enc 6 w blk off d' w' ∧ d'.size = n ∧ d'.toList = stab (ltOf cf) d.toList := by
  have hc := stable_w enc cf hO g cb blk off cap n d w eg hcmp R hn hsz
  clear hcmp R hn
  go_enter Try.func91, Try.ntmps91
  go_wp2_with (go_at_call 98; refine hc.mono ?_; rintro e w1 ⟨rfl, hd⟩)
  go_end0
  exact ⟨rfl, hd⟩
end
end Go.Proofs.Ytmhkacafilpliaa
