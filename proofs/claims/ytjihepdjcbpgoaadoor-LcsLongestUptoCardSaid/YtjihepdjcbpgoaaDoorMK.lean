/-
  inarchlaw22.LcsLongest answers true. Conditions: the lists lie in memory, lengths and weights are bounded; strconv's table of powers holds what its initialiser lays.
-/
import Derived.Test.YtjihepdjcbpgoaaDoorMJ
import Derived.Test.YtjihepdjcbpgoaaDoorO5
import Derived.Test.YtjihepdjcbpgoaaDoorNB
import Derived.Test.YtjihepdjcbpgoaaDoorRB
namespace Go.Proofs.YtjihepdjcbpgoaaDoor
open Go.RowKit Go.Sort

abbrev boolE (b : Bool) : List Value := [.bool b]
theorem bool_at {w : World} {lo hi : Nat} {a : Option Addr} {l : List Bool} (h : SlE boolE 1 w lo hi a l) {k : Nat} {y : Bool} (hk : l[k]? = some y) :
    ∃ b off, a = some ⟨b, off, none⟩ ∧ lo ≤ b ∧ b < hi ∧ b < w.heap.size ∧ w.cell? ⟨b, off + k, none⟩ = some (.bool y) := by
  have hl : k < l.length := (List.getElem?_eq_some_iff.1 hk).1
  obtain ⟨b, off, e, g1, g2, g3, g4⟩ := h (by omega)
  have := g4 k y hk 0 _ rfl
  rw [Nat.mul_one, Nat.add_zero] at this
  exact ⟨b, off, e, g1, g2, g3, this⟩
theorem labs_turn (a b : List Val) : SameM (labs 0 b) (labs 1 a) (labs 1 b) (labs 0 a) := by
  refine ⟨by rw [labs_len, labs_len], by rw [labs_len, labs_len], fun i k x y x' y' h1 h2 h3 h4 => ?_⟩
  have hi : i < b.length := by have := (List.getElem?_eq_some_iff.1 h1).1; rwa [labs_len] at this
  have hk : k < a.length := by have := (List.getElem?_eq_some_iff.1 h2).1; rwa [labs_len] at this
  have eb := List.getElem?_eq_getElem hi
  have ea := List.getElem?_eq_getElem hk
  have s1 := labs_same eb ea
  have s2 := labs_same ea eb
  rw [h1, h2, Option.some.injEq] at s1
  rw [h3, h4, Option.some.injEq] at s2
  rw [s1, sameV_symm, ← s2]
  exact eq_comm
theorem long_turn (a b : List Val) : lcsL (labs 0 b) (labs 1 a) = lcsL (labs 0 a) (labs 1 b) := by
  have h : lcsL (labs 0 b) (labs 1 a) = lcsL (labs 1 b) (labs 0 a) := (labs_turn a b).T 0 0
  rw [h, lcs_comm]
theorem early_fine {a : List Val} (h : allMay a = true) {P : List (Nat × Nat)} (he : Early (labs 0 a) (labs 1 a) 0 0 P) : P = diag a.length := by
  have hf := allMay_iff.1 h
  have := early_self (labs 0 a)
  rw [labs_len] at this
  rw [labs_fine 0 hf] at this he
  rw [labs_fine 1 hf] at he
  exact early_one he this

/-- A common part of the first i and the first f. -/
def Got (X Y : List (Nat × ByteArray)) (i f m : Nat) : Prop := ∃ zs : List (Nat × ByteArray), zs.length = m ∧ zs.Sublist (X.take i) ∧ zs.Sublist (Y.take f)
theorem take_pre {α : Type} (l : List α) {i k : Nat} (h : i ≤ k) : (l.take i).Sublist (l.take k) := by
  have e : l.take i = (l.take k).take i := by rw [List.take_take, Nat.min_eq_left h]
  rw [e]
  exact List.take_sublist _ _
theorem Got.none (X Y : List (Nat × ByteArray)) : Got X Y 0 0 0 := ⟨[], rfl, List.nil_sublist _, List.nil_sublist _⟩
theorem Got.skip {X Y : List (Nat × ByteArray)} {i f m : Nat} (h : Got X Y i f m) : Got X Y (i + 1) f m := by
  obtain ⟨zs, e, h1, h2⟩ := h
  exact ⟨zs, e, h1.trans (take_pre X (Nat.le_succ i)), h2⟩
theorem Got.more {X Y : List (Nat × ByteArray)} {i f m k : Nat} (h : Got X Y i f m) (hk : f ≤ k) (hm : Mt X Y i k) : Got X Y (i + 1) (k + 1) (m + 1) := by
  obtain ⟨zs, e, h1, h2⟩ := h
  obtain ⟨x, hx, hy⟩ := hm
  refine ⟨zs ++ [x], by simp [e], ?_, ?_⟩
  · rw [List.take_add_one, hx]
    exact h1.append (List.Sublist.refl _)
  · rw [List.take_add_one, hy]
    exact (h2.trans (take_pre Y hk)).append (List.Sublist.refl _)
theorem Got.le {X Y : List (Nat × ByteArray)} {i f m : Nat} (h : Got X Y i f m) : m ≤ lcsL X Y := by
  obtain ⟨zs, e, h1, h2⟩ := h
  rw [← e]
  exact lcs_max (h1.trans (List.take_sublist _ _)) (h2.trans (List.take_sublist _ _))
theorem diag_at {n m : Nat} (h : m < n) : (diag n)[m]? = some (m, m) := by simp [diag, h]
theorem mt_same {a b : List Val} {i k : Nat} {v u : Val} (h1 : a[i]? = some v) (h2 : b[k]? = some u) (h : sameV v u = true) : Mt (labs 0 a) (labs 1 b) i k := by
  have e := (labs_same h1 h2).2 h
  have h3 := labs_at (side := 0) h1
  exact ⟨_, h3, e ▸ h3⟩
theorem same_mt {a b : List Val} {i k : Nat} (h : Mt (labs 0 a) (labs 1 b) i k) : ∃ v u, a[i]? = some v ∧ b[k]? = some u ∧ sameV v u = true := by
  have hl := h.lt
  rw [labs_len, labs_len] at hl
  obtain ⟨x, hx, hy⟩ := h
  have h1 := List.getElem?_eq_getElem hl.1
  have h2 := List.getElem?_eq_getElem hl.2
  exact ⟨_, _, h1, h2, (labs_same h1 h2).1 (hx.trans hy.symm)⟩
theorem lv_at {x : LA} {i : Nat} {v : Val} (h : x.v[i]? = some v) : ∃ u : AV, x.l[i]? = some u ∧ u.v = v := by
  rw [LA.v, List.getElem?_map] at h
  cases e : x.l[i]? with
  | none => rw [e] at h; cases h
  | some u => rw [e] at h; exact ⟨u, rfl, Option.some.inj h⟩
theorem at_lv {x : LA} {i : Nat} {u : AV} (h : x.l[i]? = some u) : x.v[i]? = some u.v := by
  rw [LA.v, List.getElem?_map, h]; rfl
/-- What loop 1 asks of a match. -/
theorem match_at {x y : LA} {P : List (Nat × Nat)} (he : Early (labs 0 x.v) (labs 1 y.v) 0 0 P) {i : Nat} {p : Nat × Nat} (h : P[i]? = some p) : ∃ u v : AV, x.l[p.1]? = some u ∧ y.l[p.2]? = some v ∧ sameV u.v v.v = true := by
  obtain ⟨-, -, hm⟩ := he.at_.1 p (List.mem_of_getElem? h)
  obtain ⟨v, u, h1, h2, h3⟩ := same_mt hm
  obtain ⟨u', g1, rfl⟩ := lv_at h1
  obtain ⟨v', g2, rfl⟩ := lv_at h2
  exact ⟨u', v', g1, g2, h3⟩
theorem match_rise {X Y : List (Nat × ByteArray)} {P : List (Nat × Nat)} (he : Early X Y 0 0 P) {i j : Nat} {p q : Nat × Nat} (hj : P[j]? = some q) (hi : P[i]? = some p) (h : j < i) : q.1 < p.1 ∧ q.2 < p.2 := by
  have hp := List.pairwise_iff_getElem.1 he.at_.2
  obtain ⟨h1, e1⟩ := List.getElem?_eq_some_iff.1 hj
  obtain ⟨h2, e2⟩ := List.getElem?_eq_some_iff.1 hi
  have := hp j i h1 h2 h
  rwa [e1, e2] at this
theorem pbox {w : World} {g : Nat} {a b : Value} {t : TypeId} (h : w.heap[g]? = some (.cells #[a, b] t (0, 0))) : w.cell? ⟨g, 0, none⟩ = some a ∧ w.cell? ⟨g, 1, none⟩ = some b := by
  refine ⟨?_, ?_⟩ <;> simp [World.cell?, h]
theorem pbox_up {w W : World} {g : Nat} {a b : Value} {t : TypeId} (hb : Below w.heap.size w W) (h : w.heap[g]? = some (.cells #[a, b] t (0, 0))) : W.cell? ⟨g, 0, none⟩ = some a ∧ W.cell? ⟨g, 1, none⟩ = some b := by
  have hg : g < w.heap.size := by
    rcases Nat.lt_or_ge g w.heap.size with h1 | h1
    · exact h1
    · rw [Array.getElem?_eq_none h1] at h; cases h
  exact pbox ((hb.block g hg).trans h)
theorem pr_at2 {w : World} {lo hi b off : Nat} {l : List (Nat × Nat)} (h : SlE prE 2 w lo hi (some ⟨b, off, none⟩) l) {k : Nat} {y : Nat × Nat} (hk : l[k]? = some y) :
    w.cell? ⟨b, off + k * 2, none⟩ = some (.int .i64 y.1) ∧ w.cell? ⟨b, off + k * 2 + 1, none⟩ = some (.int .i64 y.2) := by
  obtain ⟨b2, o2, e, -, -, -, h1, h2⟩ := pr_at h hk
  cases e
  exact ⟨h1, h2⟩

set_option maxRecDepth 100000 in
set_option maxHeartbeats 3200000 in
theorem longest (w : World) (x y : LA) (A : Option Addr) (cT : Nat) (tk : List Bool) (hx : x.Rd w) (hy : y.Rd w) (hT : SlE boolE 1 w 0 w.heap.size A tk) (hP : Pow w) :
    Calls Tryd.prog 5 #[.slice x.a x.l.length x.c, .slice y.a y.l.length y.c, .slice A tk.length cT] w (Ret (.bool true) w) := by
  have HG1 := fun W (h : Below w.heap.size w W) => Lib.hid (great22_c W x (hx.up h))
  have HG2 := fun W (h : Below w.heap.size w W) => Lib.hid (great22_c W y (hy.up h))
  have HLV := fun W (h : Below w.heap.size w W) => Lib.hid (lives22_c W (hP.below h))
  have HPXY := fun W (h : Below w.heap.size w W) => Lib.hid (pairs_c W x y (hx.up h) (hy.up h) (hP.below h))
  have HPXX := fun W (h : Below w.heap.size w W) => Lib.hid (pairs_c W x x (hx.up h) (hx.up h) (hP.below h))
  have HL1 := fun W (h : Below w.heap.size w W) => Lib.hid (long_c W x y (hx.up h) (hy.up h) (hP.below h))
  have HL2 := fun W (h : Below w.heap.size w W) => Lib.hid (long_c W y x (hy.up h) (hx.up h) (hP.below h))
  have HF := fun W (h : Below w.heap.size w W) => Lib.hid (fine22_c W x (hx.up h))
  have HS := fun (u v : AV) (hu : u ∈ x.l) (hv : v ∈ y.l) W (h : Below w.heap.size w W) => Lib.hid (same_c u v W ((hx.kids u hu).1.up h) ((hy.kids v hv).1.up h) (hx.kids u hu).2 (hy.kids v hv).2)
  have hxl := hx.len
  have hyl := hy.len
  have htx : lcsL (labs 0 x.v) (labs 1 y.v) ≤ x.l.length := Nat.le_trans (lcs_le_l _ _) (Nat.le_of_eq ((labs_len 0 x.v).trans (List.length_map _)))
  have hty : lcsL (labs 0 x.v) (labs 1 y.v) ≤ y.l.length := Nat.le_trans (lcs_le_r _ _) (Nat.le_of_eq ((labs_len 1 y.v).trans (List.length_map _)))
  obtain ⟨T, hTe⟩ : ∃ T, T = lcsL (labs 0 x.v) (labs 1 y.v) := ⟨_, rfl⟩
  rw [← hTe] at htx hty
  rw [← hTe] at HL1
  rw [long_turn, ← hTe] at HL2
  have hi1 : ¬ (x.l.length : Int) < (T : Int) := by omega
  have hi2 : ¬ (y.l.length : Int) < (T : Int) := by omega
  have HTE := Lib.hid hTe
  have HX := Lib.hid hx
  have HY := Lib.hid hy
  have HTK := Lib.hid hT
  clear hx hy hT hTe hP
  go_enter Tryd.func5, Tryd.ntmps5
  go_upto_region 1 with fail
  go_cut [22] (fun s22 wx => ∃ r : Bool, s22 = .bool r ∧ Below w.heap.size w wx)
  case first =>
    go_wp2_with (go_at_call 8; first
      | ((with_reducible refine (HG1 _ (Below.refl _ _)).out.mono ?_); rintro e w1 ⟨r, rfl, hb1⟩
         cases r)
      | ((with_reducible refine (HG2 _ hb1).out.mono ?_); rintro e w2 ⟨r, rfl, hb2⟩
         have hb12 := below_via hb1 hb2))
    all_goals go_meet
    all_goals first | exact ⟨_, rfl, hb12⟩ | exact ⟨_, rfl, hb1⟩
  case rest =>
    obtain ⟨r, rfl, hb0⟩ := hcut
    cases r with
    | true =>
      go_wp2_with (go_at_call 9; refine (HLV _ hb0).out.mono ?_; rintro e w5 ⟨rfl, hb5⟩)
      go_ret
      exact ⟨rfl, below_via hb0 hb5⟩
    | false =>
      go_wp2_with (first
        | (go_at_call 11; refine (HPXY _ hb0).out.mono ?_; rintro e w1 ⟨G, P, rfl, he, ho, hb1⟩
           have hbw1 := below_via hb0 hb1
           have hsp := pr_sl ho
           obtain ⟨PA, hPA⟩ : ∃ PA : Option Addr, PA = some ⟨G, 0, none⟩ := ⟨_, rfl⟩
           rw [← hPA] at hsp ⊢
           have hpl : P.length = T := by rw [he.len, HTE.out]; rfl
           have hne1 : ((P.length : Int) != (T : Int)) = false := by simp [hpl]
           have hne2 : (P.length != T) = false := by simp [hpl]
           have HE := Lib.hid he
           have HSP := Lib.hid hsp
           have HPL := Lib.hid hpl
           clear he ho hpl hsp hPA)
        | (go_at_call 13; first
            | ((with_reducible refine (HL1 _ hbw1).out.mono ?_); rintro e w2 ⟨rfl, hb2⟩
               have hbw2 := below_via hbw1 hb2)
            | ((with_reducible refine (HL2 _ hbw2).out.mono ?_); rintro e w3 ⟨rfl, hb3⟩
               have hbw3 := below_via hbw2 hb3)))
      have hb13 : Below w1.heap.size w1 w3 := below_via hb2 hb3
      go_loopw [9] (fun s9 wr => ∃ i : Nat, i ≤ P.length ∧ s9 = .int .i64 i ∧ Below w1.heap.size w1 wr) (fun s9 _ => P.length - (intOf s9).toNat)
      case atStart => exact ⟨0, Nat.zero_le _, by go_num, hb13⟩
      case round =>
        obtain ⟨i, hi, rfl, hbr⟩ := hrel
        have HBR := Lib.hid hbr
        have hplx : P.length ≤ 1048576 := by have := HPL.out; omega
        by_cases hlt : i < P.length
        · have hp : P[i]? = some P[i] := List.getElem?_eq_getElem hlt
          generalize P[i] = p at hp
          obtain ⟨u, v, hu, hv, hsv⟩ := match_at HE.out hp
          have hpx : p.1 < x.l.length := (List.getElem?_eq_some_iff.1 hu).1
          have hpy : p.2 < y.l.length := (List.getElem?_eq_some_iff.1 hv).1
          obtain ⟨b1, o1, e1, -, -, g1, c1, d1⟩ := pr_at HSP.out hp
          rw [← hbr.cell (p := ⟨_, _, none⟩) g1] at c1 d1
          have HO1 := Lib.hid g1
          have f1 : b1 < wr.heap.size := Nat.lt_of_lt_of_le g1 hbr.size
          have hlt' : (i : Int) < (P.length : Int) := by omega
          have hi0 : (0 : Int) ≤ (i : Int) := by omega
          have hwi : IntKind.i64.wrap ((i : Int) + 1) = ((i + 1 : Nat) : Int) := by rw [IntWalk.i64_in _ (by omega)]; omega
          have HP := Lib.hid hp
          have HU := Lib.hid hu
          have HV := Lib.hid hv
          have HSV := Lib.hid hsv
          have HE1 := Lib.hid e1
          clear hbr hp hu hv hsv e1
          rw [HE1.out]
          have hq1 : (0 : Int) ≤ (p.1 : Int) := by omega
          have hq2 : (0 : Int) ≤ (p.2 : Int) := by omega
          have hpx' : (p.1 : Int) < (x.l.length : Int) := by omega
          have hpy' : (p.2 : Int) < (y.l.length : Int) := by omega
          have hwr : Below w.heap.size w wr := below_via hbw1 HBR.out
          obtain ⟨bu, ou, eu, -, -, gu, u0, u1, u2, u3⟩ := vals_at (HX.out.up hwr).sl HU.out
          obtain ⟨bv, ov, ev, -, -, gv, v0, v1, v2, v3⟩ := vals_at (HY.out.up hwr).sl HV.out
          have HWR := Lib.hid hwr
          go_wp2_with fail
          go_name_world WN hWN
          have hbn : Below wr.heap.size wr WN := by rw [← hWN]; exact (Below.refl _ _).alloc (Nat.le_refl _) _
          have hbx : WN.heap[wr.heap.size]? = some (.cells #[.int .i64 p.1, .int .i64 p.2] 35 (0, 0)) := by rw [← hWN]; exact heap_alloc_new wr _
          clear hWN hwr
          have hwn : Below w.heap.size w WN := below_via HWR.out hbn
          have hun := List.mem_of_getElem? HU.out
          have hvn := List.mem_of_getElem? HV.out
          have HH := fun W (h : Below WN.heap.size WN W) => Lib.hid (show Calls Tryd.prog 20 #[u.val, v.val] W (Ret (.bool true) W) by
            have h2 := (HS u v hun hvn W (below_via hwn h)).out
            rwa [HSV.out] at h2)
          have hbr2 : Below w1.heap.size w1 WN := below_via HBR.out hbn
          have HB2 := Lib.hid hbr2
          have hcl : ∀ W, Below WN.heap.size WN W → Below wr.heap.size wr W := fun W h => below_via hbn h
          have hcn : ∀ W, Below WN.heap.size WN W → ∀ (b o : Nat), b < wr.heap.size → W.cell? ⟨b, o, none⟩ = wr.cell? ⟨b, o, none⟩ := fun W h b o g => (hcl W h).cell (p := ⟨_, _, none⟩) g
          have HBX := Lib.hid hbx
          have hpz : ¬ ((p.1 : Int) < 0) := by omega
          have hpz2 : ¬ ((p.2 : Int) < 0) := by omega
          have hpxn : ¬ (x.l.length : Int) ≤ (p.1 : Int) := by omega
          have hpyn : ¬ (y.l.length : Int) ≤ (p.2 : Int) := by omega
          rcases Nat.eq_zero_or_pos i with hz | hpos
          · have hgz : ¬ (0 : Int) < (i : Int) := by omega
            have hgz2 : ¬ 0 < i := by omega
            have hgz3 : decide (0 < i) = false := decide_eq_false hgz2
            have hgz4 : decide ((0 : Int) < (i : Int)) = false := decide_eq_false hgz
            have LD := Lib.hid (show ∀ W, Below WN.heap.size WN W → _ from fun W (h : Below WN.heap.size WN W) => And.intro (pbox_up h HBX.out) (And.intro ((hcn W h _ _ gu).trans u0) (And.intro ((hcn W h _ _ gu).trans u1) (And.intro ((hcn W h _ _ gu).trans u2) (And.intro ((hcn W h _ _ gu).trans u3) (And.intro ((hcn W h _ _ gv).trans v0) (And.intro ((hcn W h _ _ gv).trans v1) (And.intro ((hcn W h _ _ gv).trans v2) ((hcn W h _ _ gv).trans v3)))))))))
            try rw [eu]
            try rw [ev]
            have HEUV := Lib.hid (And.intro eu ev)
            clear u0 u1 u2 u3 v0 v1 v2 v3 c1 d1 hbn hbx hwn hun hvn hbr2 hcl hcn eu ev hz
            refine wp_region_bl (by kernel_rfl) (by kernel_rfl) ?_
            repeat (first | go_big_quiet_skip | (go_big_quiet_want; go_big_quiet_op; first | go_big_quiet_on | (refine ⟨_, fun _ _ => (by with_reducible rfl), ?_⟩; go_big_quiet_on) | (apply Exists.intro; refine ⟨fun w' hC => (by simp only [LD.out w' hC, Result.andThen]; exact ⟨trivial, rfl⟩), ?_⟩; go_big_quiet_on) | (apply Exists.intro; refine ⟨fun w' hC => (by (with_reducible refine (HH w' hC).out.mono ?_); exact fun e w2 ⟨he, hb⟩ => ⟨he, hC.trans (hb.mono hC.size)⟩), ?_⟩; go_big_quiet_on)))
            refine wpQuiet_nil ?_; intro wz hbz
            rw [← HEUV.out.1, ← HEUV.out.2]
            go_wp2_with fail
            exact ⟨⟨i + 1, by omega, by go_num, below_via HB2.out hbz⟩, by simp [intOf]; omega⟩
          · obtain ⟨j, hj⟩ : ∃ j, j + 1 = i := ⟨i - 1, by omega⟩
            have hgp : (0 : Int) < (i : Int) := by omega
            have hgp2 : 0 < i := by omega
            have hgp3 : decide (0 < i) = true := decide_eq_true hgp2
            have hgp4 : decide ((0 : Int) < (i : Int)) = true := decide_eq_true hgp
            have hwd : IntKind.i64.wrap ((i : Int) - 1) = (j : Int) := by rw [IntWalk.i64_in _ (by omega)]; omega
            have hj0 : (0 : Int) ≤ (j : Int) := by omega
            have hjl : (j : Int) < (P.length : Int) := by omega
            have hq : P[j]? = some (P[j]'(by omega)) := List.getElem?_eq_getElem _
            generalize P[j]'(by omega) = q at hq
            obtain ⟨r1, r2⟩ := match_rise HE.out hq HP.out (by omega)
            have hr1 : ¬ (p.1 : Int) ≤ (q.1 : Int) := by omega
            have hr2 : ¬ (p.2 : Int) ≤ (q.2 : Int) := by omega
            have hr3 : decide (p.1 ≤ q.1) = false := decide_eq_false (by omega)
            have hr4 : decide (p.2 ≤ q.2) = false := decide_eq_false (by omega)
            have hsp2 := HSP.out
            rw [HE1.out] at hsp2
            obtain ⟨d3, d4⟩ := pr_at2 hsp2 hq
            rw [← HBR.out.cell (p := ⟨_, _, none⟩) (by have := HO1.out; omega)] at d3 d4
            have LD := Lib.hid (show ∀ W, Below WN.heap.size WN W → _ from fun W (h : Below WN.heap.size WN W) => And.intro (pbox_up h HBX.out) (And.intro ((hcn W h _ _ f1).trans d3) (And.intro ((hcn W h _ _ f1).trans d4) (And.intro ((hcn W h _ _ gu).trans u0) (And.intro ((hcn W h _ _ gu).trans u1) (And.intro ((hcn W h _ _ gu).trans u2) (And.intro ((hcn W h _ _ gu).trans u3) (And.intro ((hcn W h _ _ gv).trans v0) (And.intro ((hcn W h _ _ gv).trans v1) (And.intro ((hcn W h _ _ gv).trans v2) ((hcn W h _ _ gv).trans v3)))))))))))
            have HJ := Lib.hid hj
            try rw [eu]
            try rw [ev]
            have HEUV := Lib.hid (And.intro eu ev)
            clear u0 u1 u2 u3 v0 v1 v2 v3 c1 d1 hbn hbx hwn hun hvn hbr2 hcl hcn eu ev hq d3 d4 hsp2 r1 r2 hj
            refine wp_region_bl (by kernel_rfl) (by kernel_rfl) ?_
            repeat (first | go_big_quiet_skip | (go_big_quiet_want; go_big_quiet_op; first | go_big_quiet_on | (refine ⟨_, fun _ _ => (by with_reducible rfl), ?_⟩; go_big_quiet_on) | (apply Exists.intro; refine ⟨fun w' hC => (by simp only [LD.out w' hC, Result.andThen]; exact ⟨trivial, rfl⟩), ?_⟩; go_big_quiet_on) | (apply Exists.intro; refine ⟨fun w' hC => (by (with_reducible refine (HH w' hC).out.mono ?_); exact fun e w2 ⟨he, hb⟩ => ⟨he, hC.trans (hb.mono hC.size)⟩), ?_⟩; go_big_quiet_on)))
            refine wpQuiet_nil ?_; intro wz hbz
            rw [← HEUV.out.1, ← HEUV.out.2]
            go_wp2_with fail
            exact ⟨⟨i + 1, by omega, by go_num, below_via HB2.out hbz⟩, by simp [intOf]; omega⟩
        · have hge : ¬ (i : Int) < (P.length : Int) := by omega
          have hwr0 : Below w.heap.size w wr := below_via hbw1 hbr
          clear hbr
          go_wp2_with fail
          go_loopw [11, 12, 13] (fun s11 s12 s13 wl => ∃ a m f : Nat, a ≤ x.l.length ∧ m ≤ a ∧ f ≤ y.l.length ∧ s13 = .int .i64 a ∧ s11 = .int .i64 m ∧ s12 = .int .i64 f ∧ Got (labs 0 x.v) (labs 1 y.v) a f m ∧ Below w.heap.size w wl) (fun _ _ s13 _ => x.l.length - (intOf s13).toNat)
          case atStart => exact ⟨0, 0, 0, Nat.zero_le _, Nat.le_refl _, Nat.zero_le _, by go_num, by go_num, by go_num, Got.none _ _, hwr0⟩
          case round =>
            clear hwr0 hge hlt hi
            obtain ⟨a, m, f, ha, hma, hf, rfl, rfl, rfl, hgot, hbl⟩ := hrel
            have HBL := Lib.hid hbl
            have HG := Lib.hid hgot
            clear hbl hgot
            have ha0 : (0 : Int) ≤ (a : Int) := by omega
            by_cases hlt : a < x.l.length
            · have hu : x.l[a]? = some x.l[a] := List.getElem?_eq_getElem hlt
              generalize x.l[a] = u at hu
              have HU := Lib.hid hu
              have hlt' : (a : Int) < (x.l.length : Int) := by omega
              have hwa : IntKind.i64.wrap ((a : Int) + 1) = ((a + 1 : Nat) : Int) := by rw [IntWalk.i64_in _ (by omega)]; omega
              have hwm : IntKind.i64.wrap ((m : Int) + 1) = ((m + 1 : Nat) : Int) := by rw [IntWalk.i64_in _ (by omega)]; omega
              clear hu
              go_upto_region 18 with fail
              go_cut [11, 12, 141] (fun s11 s12 s141 wx => s11 = .int .i64 m ∧ s12 = .int .i64 f ∧ (∃ c : Bool, s141 = .bool c) ∧ Below w.heap.size w wx)
              case first =>
                by_cases htk : a < tk.length
                · have ht : tk[a]? = some tk[a] := List.getElem?_eq_getElem htk
                  generalize tk[a] = b at ht
                  obtain ⟨bt, ot, et, -, -, gt, ct⟩ := bool_at HTK.out ht
                  rw [← HBL.out.cell (p := ⟨_, _, none⟩) gt] at ct
                  have gt2 : bt < wr.heap.size := Nat.lt_of_lt_of_le gt HBL.out.size
                  have htk' : (a : Int) < (tk.length : Int) := by omega
                  cases b with
                  | true =>
                    go_wp2_with fail
                    go_meet
                    exact ⟨rfl, rfl, ⟨_, rfl⟩, HBL.out⟩
                  | false =>
                    go_wp2_with fail
                    go_meet
                    exact ⟨rfl, rfl, ⟨_, rfl⟩, HBL.out⟩
                · have htk' : ¬ (a : Int) < (tk.length : Int) := by omega
                  go_wp2_with fail
                  go_meet
                  exact ⟨rfl, rfl, ⟨_, rfl⟩, HBL.out⟩
              case rest =>
                obtain ⟨rfl, rfl, ⟨c, rfl⟩, hbc⟩ := hcut
                have HBC := Lib.hid hbc
                cases c with
                | true =>
                  clear hbc
                  go_wp2_with fail
                  exact ⟨⟨a + 1, m, f, by omega, by omega, hf, by go_num, rfl, rfl, HG.out.skip, HBC.out⟩, by simp [intOf]; omega⟩
                | false =>
                  go_wp2_with fail
                  go_loopw [11, 12, 14] (fun s11 s12 s14 wi => ∃ k : Nat, f ≤ k ∧ k ≤ y.l.length ∧ s14 = .int .i64 k ∧ s11 = .int .i64 m ∧ s12 = .int .i64 f ∧ Below w.heap.size w wi) (fun _ _ s14 _ => y.l.length - (intOf s14).toNat)
                  case atStart => exact ⟨f, Nat.le_refl _, hf, by go_num, rfl, rfl, hbc⟩
                  case round =>
                    clear hbc
                    obtain ⟨k, hfk, hk, rfl, rfl, rfl, hbi⟩ := hrel
                    have HBI := Lib.hid hbi
                    by_cases hky : k < y.l.length
                    · have hv : y.l[k]? = some y.l[k] := List.getElem?_eq_getElem hky
                      generalize y.l[k] = v at hv
                      have HV := Lib.hid hv
                      obtain ⟨bu, ou, eu, -, -, gu, u0, u1, u2, u3⟩ := vals_at (HX.out.up hbi).sl HU.out
                      obtain ⟨bv, ov, ev, -, -, gv, v0, v1, v2, v3⟩ := vals_at (HY.out.up hbi).sl hv
                      have hky' : (k : Int) < (y.l.length : Int) := by omega
                      have hk0 : (0 : Int) ≤ (k : Int) := by omega
                      have hwk : IntKind.i64.wrap ((k : Int) + 1) = ((k + 1 : Nat) : Int) := by rw [IntWalk.i64_in _ (by omega)]; omega
                      obtain ⟨c, hc⟩ : ∃ c, sameV u.v v.v = c := ⟨_, rfl⟩
                      have hun := List.mem_of_getElem? HU.out
                      have hvn := List.mem_of_getElem? hv
                      have HH := fun W (h : Below wr.heap.size wr W) => Lib.hid (show Calls Tryd.prog 20 #[u.val, v.val] W (Ret (.bool c) W) by
                        have h2 := (HS u v hun hvn W (below_via HBI.out h)).out
                        rwa [hc] at h2)
                      have hcn : ∀ W, Below wr.heap.size wr W → ∀ (b o : Nat), b < wr.heap.size → W.cell? ⟨b, o, none⟩ = wr.cell? ⟨b, o, none⟩ := fun W h b o g => h.cell (p := ⟨_, _, none⟩) g
                      have LD := Lib.hid (show ∀ W, Below wr.heap.size wr W → _ from fun W (h : Below wr.heap.size wr W) => And.intro ((hcn W h _ _ gu).trans u0) (And.intro ((hcn W h _ _ gu).trans u1) (And.intro ((hcn W h _ _ gu).trans u2) (And.intro ((hcn W h _ _ gu).trans u3) (And.intro ((hcn W h _ _ gv).trans v0) (And.intro ((hcn W h _ _ gv).trans v1) (And.intro ((hcn W h _ _ gv).trans v2) ((hcn W h _ _ gv).trans v3))))))))
                      have HC := Lib.hid hc
                      clear hbi hv hc hun hvn hcn u0 u1 u2 u3 v0 v1 v2 v3
                      go_upto_region 22 with fail
                      try rw [eu]
                      try rw [ev]
                      have HEUV := Lib.hid (And.intro eu ev)
                      clear eu ev
                      refine wp_region_bl (by kernel_rfl) (by kernel_rfl) ?_
                      repeat (first | go_big_quiet_skip | (go_big_quiet_want; go_big_quiet_op; first | go_big_quiet_on | (refine ⟨_, fun _ _ => (by with_reducible rfl), ?_⟩; go_big_quiet_on) | (apply Exists.intro; refine ⟨fun w' hC => (by simp only [LD.out w' hC, Result.andThen]; exact ⟨trivial, rfl⟩), ?_⟩; go_big_quiet_on) | (apply Exists.intro; refine ⟨fun w' hC => (by (with_reducible refine (HH w' hC).out.mono ?_); exact fun e w2 ⟨he, hb⟩ => ⟨he, hC.trans (hb.mono hC.size)⟩), ?_⟩; go_big_quiet_on)))
                      refine wpQuiet_nil ?_; intro wz hbz
                      rw [← HEUV.out.1, ← HEUV.out.2]
                      cases c with
                      | true =>
                        go_wp2_with fail
                        exact ⟨⟨a + 1, m + 1, k + 1, by omega, by omega, by omega, by go_num, by go_num, by go_num, HG.out.more hfk (mt_same (at_lv HU.out) (at_lv HV.out) HC.out), below_via HBI.out hbz⟩, by simp [intOf]; omega⟩
                      | false =>
                        go_wp2_with fail
                        exact ⟨⟨k + 1, by omega, by omega, by go_num, rfl, rfl, below_via HBI.out hbz⟩, by simp [intOf]; omega⟩
                    · have hge : ¬ (k : Int) < (y.l.length : Int) := by omega
                      clear hbi
                      go_wp2_with fail
                      exact ⟨⟨a + 1, m, f, by omega, by omega, hf, by go_num, rfl, rfl, HG.out.skip, HBI.out⟩, by simp [intOf]; omega⟩
            · have hge : ¬ (a : Int) < (x.l.length : Int) := by omega
              have hmt : ¬ (T : Int) < (m : Int) := by have := HG.out.le; rw [← HTE.out] at this; omega
              have hmt2 : ¬ T < m := by omega
              obtain ⟨c, hc⟩ : ∃ c, allMay x.v = c := ⟨_, rfl⟩
              rw [hc] at HF
              have HC := Lib.hid hc
              clear hc
              cases c with
              | false =>
                go_wp2_with (first
                  | (go_at_call 11; refine (HPXX _ HBL.out).out.mono ?_; rintro e w5 ⟨G2, P2, rfl, he2, ho2, hb5⟩
                     have hbw5 := below_via HBL.out hb5
                     have hpl2 : P2.length ≤ 1048576 := by rw [he2.len]; exact Nat.le_trans (lcs_le_l _ _) (Nat.le_trans (Nat.le_of_eq ((labs_len 0 x.v).trans (List.length_map _))) hxl)
                     clear he2 ho2)
                  | (go_at_call 17; refine (HF _ hbw5).out.mono ?_; rintro e w6 ⟨rfl, hb6⟩
                     have hbw6 := below_via hbw5 hb6))
                go_loopw [16] (fun s16 wl => ∃ k : Nat, k ≤ P2.length ∧ s16 = .int .i64 k ∧ Below w.heap.size w wl) (fun s16 _ => P2.length - (intOf s16).toNat)
                case atStart => exact ⟨0, Nat.zero_le _, by go_num, hbw6⟩
                case round =>
                  obtain ⟨k, hk, rfl, hbk⟩ := hrel
                  have HBK := Lib.hid hbk
                  clear hbk
                  by_cases hkl : k < P2.length
                  · have hkl' : (k : Int) < (P2.length : Int) := by omega
                    have hwk : IntKind.i64.wrap ((k : Int) + 1) = ((k + 1 : Nat) : Int) := by rw [IntWalk.i64_in _ (by omega)]; omega
                    go_wp2_with (go_at_call 17; refine (HF _ HBK.out).out.mono ?_; rintro e w7 ⟨rfl, hb7⟩)
                    exact ⟨⟨k + 1, by omega, by go_num, below_via HBK.out hb7⟩, by simp [intOf]; omega⟩
                  · have hkl' : ¬ (k : Int) < (P2.length : Int) := by omega
                    go_wp2_with (go_at_call 9; refine (HLV _ HBK.out).out.mono ?_; rintro e w7 ⟨rfl, hb7⟩)
                    go_ret
                    exact ⟨rfl, below_via HBK.out hb7⟩
              | true =>
                go_wp2_with (first
                  | (go_at_call 11; refine (HPXX _ HBL.out).out.mono ?_; rintro e w5 ⟨G2, P2, rfl, he2, ho2, hb5⟩
                     have hbw5 := below_via HBL.out hb5
                     have hpd := early_fine HC.out he2
                     have hpl2 : P2.length = x.l.length := by rw [hpd, diag_len]; exact List.length_map _
                     have hsp2 := pr_sl ho2
                     obtain ⟨PB, hPB⟩ : ∃ PB : Option Addr, PB = some ⟨G2, 0, none⟩ := ⟨_, rfl⟩
                     rw [← hPB] at hsp2 ⊢
                     have hne1 : ((P2.length : Int) != (x.l.length : Int)) = false := by simp [hpl2]
                     have hne2 : (P2.length != x.l.length) = false := by simp [hpl2]
                     have HPD := Lib.hid hpd
                     have HPL2 := Lib.hid hpl2
                     have HSP2 := Lib.hid hsp2
                     have HB5 := Lib.hid hb5
                     clear he2 ho2 hpd hpl2 hsp2 hPB hb5)
                  | (go_at_call 17; refine (HF _ hbw5).out.mono ?_; rintro e w6 ⟨rfl, hb6⟩
                     have hbw6 := below_via hbw5 hb6))
                go_loopw [16] (fun s16 wl => ∃ k : Nat, k ≤ P2.length ∧ s16 = .int .i64 k ∧ Below w5.heap.size w5 wl) (fun s16 _ => P2.length - (intOf s16).toNat)
                case atStart => exact ⟨0, Nat.zero_le _, by go_num, hb6⟩
                case round =>
                  clear hb6 hbw6
                  obtain ⟨k, hk, rfl, hbk⟩ := hrel
                  have HBK := Lib.hid hbk
                  have HBW := Lib.hid (below_via hbw5 hbk)
                  clear hbk
                  by_cases hkl : k < P2.length
                  · have hkl' : (k : Int) < (P2.length : Int) := by omega
                    have hk0 : (0 : Int) ≤ (k : Int) := by omega
                    have hkb : k < 1048577 := by have := HPL2.out; omega
                    have hwk : IntKind.i64.wrap ((k : Int) + 1) = ((k + 1 : Nat) : Int) := by rw [IntWalk.i64_in _ (by omega)]; omega
                    have hkd : P2[k]? = some (k, k) := by
                      have h1 := hkl
                      rw [HPD.out] at h1 ⊢
                      rw [diag_len] at h1
                      exact diag_at h1
                    obtain ⟨b1, o1, e1, -, -, g1, c1, d1⟩ := pr_at HSP2.out hkd
                    have c2 : w5.cell? ⟨b1, o1 + k * 2, none⟩ = some (.int .i64 (k : Int)) := c1
                    have d2 : w5.cell? ⟨b1, o1 + k * 2 + 1, none⟩ = some (.int .i64 (k : Int)) := d1
                    rw [← HBK.out.cell (p := ⟨_, _, none⟩) g1] at c2 d2
                    have f1 : b1 < wr.heap.size := Nat.lt_of_lt_of_le g1 HBK.out.size
                    have hneq : ∀ W, (binOp .neq 35 (.agg #[.int .i64 k, .int .i64 k]) (.agg #[.int .i64 k, .int .i64 k])).run Tryd.prog W = .ok (.bool false) W := fun W => (neq_pr (k, k) (k, k) W).trans (by rw [decide_eq_true rfl]; rfl)
                    clear c1 d1 hkd
                    have HE1 := Lib.hid e1
                    clear e1
                    rw [HE1.out]
                    go_wp2_with (go_at_call 17; refine (HF _ HBW.out).out.mono ?_; rintro e w7 ⟨rfl, hb7⟩
                                 have c3 := (hb7.cell (p := ⟨_, _, none⟩) f1).trans c2
                                 have d3 := (hb7.cell (p := ⟨_, _, none⟩) f1).trans d2)
                    exact ⟨⟨k + 1, by omega, by go_num, below_via HBK.out hb7⟩, by simp [intOf]; omega⟩
                  · have hkl' : ¬ (k : Int) < (P2.length : Int) := by omega
                    go_wp2_with (go_at_call 9; refine (HLV _ HBW.out).out.mono ?_; rintro e w7 ⟨rfl, hb7⟩)
                    go_ret
                    exact ⟨rfl, below_via HBW.out hb7⟩
end Go.Proofs.YtjihepdjcbpgoaaDoor
