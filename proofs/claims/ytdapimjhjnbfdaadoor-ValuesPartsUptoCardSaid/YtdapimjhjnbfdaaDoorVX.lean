/-
  inarchlaw14.ValuesParts answers true. Conditions: the values lie in memory, their weight is bounded; the table of short escapes holds what its initialiser lays.
-/
import Derived.Test.YtdapimjhjnbfdaaDoorVW
import Derived.Deep.DeepCutAuto
namespace Go.Proofs.YtdapimjhjnbfdaaDoor
open Go.RowKit Go.Sort

theorem S.bel {N : Nat} {W2 w' : World} (h : (∀ b o, b < N → w'.cell? ⟨b, o, none⟩ = W2.cell? ⟨b, o, none⟩) ∧ Below N W2 w') : Below N W2 w' := h.2
def GetS (v : Val) (w : World) (e : Ending) (w' : World) : Prop := ∃ z : AV, e = .returned (.tuple #[z.val, .bool true]) ∧ z.v = v ∧ z.In w' w.heap.size w'.heap.size ∧ Below w.heap.size w w'
def GetN (w : World) (e : Ending) (w' : World) : Prop := e = .returned (.tuple #[zAV.val, .bool false]) ∧ Below w.heap.size w w'
theorem get_s {x : AV} {s : ByteArray} {v : Val} (h : x.v.get s = some v) (w : World) (hx : Rd w x) (hw : x.w ≤ 1048576) : Calls Tryd.prog 40 #[x.val, .string s] w (GetS v w) := by
  refine (get_c x s w hx hw).mono ?_
  rintro e w' ⟨z, rfl, h1, h2, h3, h4⟩
  exact ⟨z, by rw [h]; rfl, h1 v h, h3, h4⟩
theorem get_n {x : AV} {s : ByteArray} (h : x.v.get s = none) (w : World) (hx : Rd w x) (hw : x.w ≤ 1048576) : Calls Tryd.prog 40 #[x.val, .string s] w (GetN w) := by
  refine (get_c x s w hx hw).mono ?_
  rintro e w' ⟨z, rfl, h1, h2, h3, h4⟩
  exact ⟨by rw [h, h2 h]; rfl, h4⟩

theorem four_new {w W : World} {o1 o2 o3 o4 : Obj} (hW : (((w.alloc o1).alloc o2).alloc o3).alloc o4 = W) : W.heap[w.heap.size]? = some o1 ∧ W.heap[w.heap.size + 1]? = some o2 ∧ W.heap[w.heap.size + 1 + 1]? = some o3 ∧ W.heap[w.heap.size + 1 + 1 + 1]? = some o4 ∧ W.heap.size = w.heap.size + 4 ∧ Below w.heap.size w W := by
  subst hW
  have h2 := heap_alloc_new (w.alloc o1) o2
  have h3 := heap_alloc_new ((w.alloc o1).alloc o2) o3
  have h4 := heap_alloc_new (((w.alloc o1).alloc o2).alloc o3) o4
  simp only [World.size_alloc] at h2 h3 h4
  refine ⟨?_, ?_, ?_, h4, by simp, ((((Below.refl _ _).alloc (Nat.le_refl _) _).alloc (by simp) _).alloc (by first | (simp; done) | (simp; omega)) _).alloc (by first | (simp; done) | (simp; omega)) _⟩
  · rw [heap_alloc_old _ _ _ (by first | (simp; done) | (simp; omega)), heap_alloc_old _ _ _ (by first | (simp; done) | (simp; omega)), heap_alloc_old _ _ _ (by first | (simp; done) | (simp; omega))]; exact heap_alloc_new w o1
  · rw [heap_alloc_old _ _ _ (by first | (simp; done) | (simp; omega)), heap_alloc_old _ _ _ (by first | (simp; done) | (simp; omega))]; exact h2
  · rw [heap_alloc_old _ _ _ (by first | (simp; done) | (simp; omega))]; exact h3
theorem SlE.drop' {α : Type} {enc : α → List Value} {size : Nat} {w : World} {lo hi b off : Nat} {l : List α} (h : SlE enc size w lo hi (some ⟨b, off, none⟩) l) (n : Nat) : SlE enc size w lo hi (some ⟨b, off + n * size, none⟩) (l.drop n) := fun hl => by
  obtain ⟨b', off', e, g1, g2, g3, g4⟩ := h (by simp at hl; omega)
  injection e with e
  injection e with e1 e2
  subst e1; subst e2
  refine ⟨b, _, rfl, g1, g2, g3, fun i x hx => ?_⟩
  have := g4 (n + i) x (by rw [List.getElem?_drop] at hx; exact hx)
  rw [Nat.add_mul, ← Nat.add_assoc] at this
  exact this

set_option maxRecDepth 100000 in
set_option maxHeartbeats 40000000 in
theorem parts_in (w : World) (x y : AV) (hx : Rd w x) (hy : Rd w y) (hwx : x.w ≤ 1048576) (hwy : y.w ≤ 1048576) (hS : Shorts w) (hgx : ¬ 1500 < x.v.w) (hgy : ¬ 1500 < y.v.w) (hmx : x.v.may = true) (hmy : y.v.may = true) (hck : x.ks.length ≤ x.kc) (hcl : x.l.length ≤ x.lc) :
    Calls Tryd.prog 8 #[x.val, y.val] w (Ret (.bool true) w) := by
  have HGX := fun W h => Lib.hid (great14_c x W h hwx)
  have HGY := fun W h => Lib.hid (great14_c y W h hwy)
  have HMX := fun W h => Lib.hid (may_c W x h hwx)
  have HMY := fun W h => Lib.hid (may_c W y h hwy)
  rw [decide_eq_false hgx] at HGX
  rw [decide_eq_false hgy] at HGY
  rw [hmx] at HMX
  rw [hmy] at HMY
  have HMM := Lib.hid hmx
  have HMN := Lib.hid hmy
  have hB0 := two_0 (w := w) (o1 := .cells #[.int .u8 x.k, .string x.t, .slice x.la x.l.length x.lc, .slice x.ka x.ks.length x.kc] 41) (o2 := .cells #[.int .u8 y.k, .string y.t, .slice y.la y.l.length y.lc, .slice y.ka y.ks.length y.kc] 41)
  have hb0 : Below w.heap.size w ((w.alloc (.cells #[.int .u8 x.k, .string x.t, .slice x.la x.l.length x.lc, .slice x.ka x.ks.length x.kc] 41)).alloc (.cells #[.int .u8 y.k, .string y.t, .slice y.la y.l.length y.lc, .slice y.ka y.ks.length y.kc] 41)) := ((Below.refl _ _).alloc (Nat.le_refl _) _).alloc (by simp) _
  have hlk : x.ks.length ≤ 1048576 := by have := x.w_ks; omega
  have hll : x.l.length ≤ 1048576 := by have := x.w_l; omega
  have hg1 : x.v.w ≤ 1500 := by omega
  have hg2 : y.v.w ≤ 1500 := by omega
  clear hmx hmy hgx hgy
  go_enter Tryd.func8, Tryd.ntmps8
  go_wp2_with (first
      | (go_at_call 25; first
          | ((with_reducible refine (HGX _ (hx.up (by assumption))).out.mono ?_); rintro e w1 ⟨rfl, hb1⟩
             have hB1 := two_step (N := w.heap.size + 1 + 1) (by assumption) hb1 (by simp)
             obtain ⟨k1, k2, k3, k4, k5⟩ := two_at hB1
             obtain ⟨q0, q1, q2, q3, -, -, -, -⟩ := vbox4 k1
             obtain ⟨p0, p1, p2, p3, -, -, -, -⟩ := vbox4 k2)
          | ((with_reducible refine (HGY _ (hy.up (by assumption))).out.mono ?_); rintro e w2 ⟨rfl, hb2⟩
             have hB2 := two_step (N := w.heap.size + 1 + 1) (by assumption) hb2 (by simp)
             obtain ⟨k1, k2, k3, k4, k5⟩ := two_at hB2
             obtain ⟨q0, q1, q2, q3, -, -, -, -⟩ := vbox4 k1
             obtain ⟨p0, p1, p2, p3, -, -, -, -⟩ := vbox4 k2))
      | (go_at_call 39; first
          | ((with_reducible refine (HMX _ (hx.up (by assumption))).out.mono ?_); rintro e w3 ⟨rfl, hb3⟩
             have hB3 := two_step (N := w.heap.size + 1 + 1) (by assumption) hb3 (by simp)
             obtain ⟨k1, k2, k3, k4, k5⟩ := two_at hB3
             obtain ⟨q0, q1, q2, q3, -, -, -, -⟩ := vbox4 k1
             obtain ⟨p0, p1, p2, p3, -, -, -, -⟩ := vbox4 k2)
          | ((with_reducible refine (HMY _ (hy.up (by assumption))).out.mono ?_); rintro e w4 ⟨rfl, hb4⟩
             have hB4 := two_step (N := w.heap.size + 1 + 1) (by assumption) hb4 (by simp))))
  obtain ⟨k1, k2, k3, k4, k5⟩ := two_at hB4
  have K1 := Lib.hid k1
  have K2 := Lib.hid k2
  clear k1 k2 q0 q1 q2 q3 p0 p1 p2 p3 hb1 hb2 hb3 hb4 hB0 hB1 hB2 hB3 hB4 hb0 HGX HGY HMX HMY
  go_loopw [5, 6, 7, 8, 9, 10] (fun i _ _ _ _ _ wr => ∃ m : Nat, m ≤ x.ks.length ∧ i = .int .i64 m ∧ Below w4.heap.size w4 wr) (fun i _ _ _ _ _ _ => x.ks.length - (intOf i).toNat)
  case atStart => exact ⟨0, Nat.zero_le _, rfl, Below.refl _ _⟩
  case round =>
    obtain ⟨m, hml, rfl, hbr⟩ := hrel
    have hs4 := hbr.size
    have kr1 := (hbr.block w.heap.size k4).trans K1.out
    have kr2 := (hbr.block (w.heap.size + 1) k3).trans K2.out
    obtain ⟨q0, q1, q2, q3, -, -, -, -⟩ := vbox4 kr1
    have hwr : Below w.heap.size w wr := below_via k5 hbr
    have KR1 := Lib.hid kr1
    have KR2 := Lib.hid kr2
    have HWR := Lib.hid hwr
    have HBR := Lib.hid hbr
    clear kr1 kr2 hwr hbr
    have hn1 : w.heap.size < wr.heap.size := by omega
    have hn2 : w.heap.size + 1 < wr.heap.size := by omega
    by_cases hlt : m < x.ks.length
    · --F9
      have hlt' : (m : Int) < (x.ks.length : Int) := by omega
      have hks : x.ks[m]? = some x.ks[m] := List.getElem?_eq_getElem hlt
      have hkm := keys_map (v := x.v) HMM.out (by rw [AV.v_ks]; omega)
      have hlen : x.ks.length = x.l.length := by have := hkm.2.2.1; rw [AV.v_ks, AV.v_l, List.length_map] at this; exact this
      have hml2 : m < x.l.length := by omega
      have hls : x.l[m]? = some x.l[m] := List.getElem?_eq_getElem hml2
      have hmem : x.l[m] ∈ x.l := List.getElem_mem hml2
      generalize x.ks[m] = s at *
      generalize x.l[m] = v at *
      have hvk : x.v.ks[m]? = some s := by rw [AV.v_ks]; exact hks
      have hvl : x.v.l[m]? = some v.v := by rw [AV.v_l, List.getElem?_map, hls]; rfl
      have hvm : v.v ∈ x.v.l := List.mem_of_getElem? hvl
      obtain ⟨b, off, hka, -, hb1, hb2, h0⟩ := key_at hx.keys hks
      obtain ⟨c, off', hla, -, hc1, hc2, g0, g1, g2, g3⟩ := vals_at hx.sl hls
      rw [← HWR.out.cell (p := ⟨_, _, none⟩) hb2] at h0
      rw [← HWR.out.cell (p := ⟨_, _, none⟩) hc2] at g0 g1 g2 g3
      have hbb : b < wr.heap.size := Nat.lt_of_lt_of_le hb2 HWR.out.size
      have hcc : c < wr.heap.size := Nat.lt_of_lt_of_le hc2 HWR.out.size
      rw [hka] at q3
      rw [hla] at q2
      have hml2' : (m : Int) < (x.l.length : Int) := by omega
      have HXR := Lib.hid (hx.up HWR.out)
      have hN : wr.heap.size ≤ wr.heap.size := Nat.le_refl _
      have HGET := fun W (hb : Below wr.heap.size wr W) => Lib.hid (show Calls Tryd.prog 40 #[.agg #[.int .u8 x.k, .string x.t, .slice x.la x.l.length x.lc, .slice x.ka x.ks.length x.kc], .string s] W (GetS v.v W) from get_s (get_at HMM.out hvk hvl) W (HXR.out.up hb) hwx)
      rw [hka, hla] at HGET
      have HKA := Lib.hid hka
      have HLA := Lib.hid hla
      have HVK := Lib.hid hvk
      have HVL := Lib.hid hvl
      have HVM := Lib.hid hvm
      have HMEM := Lib.hid hmem
      have HLEN := Lib.hid hlen
      clear hka hla hvk hvl hvm hmem hlen hkm hks hls
      go_wp2_with fail
      go_cut [6, 7] (fun s6 s7 wx => ∃ g z, s6 = .pointer (some ⟨g, 0, none⟩) ∧ s7 = .bool true ∧ wx.heap[g]? = some (.cells #[.int .u8 z.k, .string z.t, .slice z.la z.l.length z.lc, .slice z.ka z.ks.length z.kc] 41 (0, 0)) ∧ Rd wx z ∧ z.v = v.v ∧ Below wr.heap.size wr wx)
      case first =>
        --F1
        go_region_held3 (fun w' => (∀ b o, b < wr.heap.size → w'.cell? ⟨b, o, none⟩ = wr.cell? ⟨b, o, none⟩) ∧ Below wr.heap.size wr w')
          (first
            | (with_reducible exact Q1.out)
            | (with_reducible exact s_alloc hN Q1.out _)
            | (with_reducible exact s_put4 hN Q1.out (by omega))
            | (with_reducible exact s_alloc0 hN _)
            | (with_reducible refine s_alloc hN (by assumption) _)
            | exact ⟨fun _ _ _ => rfl, (Below.refl _ _).drew⟩)
          (first
            | (go_at_call 40; refine (HGET _ (S.bel (by assumption))).out.mono ?_; rintro e w6 ⟨z, rfl, hzv, hzi, hb6⟩; have Q1 := Lib.hid (s_step hN (by assumption) hb6)
               obtain ⟨bs1, bs2⟩ := bcell hb6
               have hss := hb6.size
               try simp only [World.size_drew, World.size_alloc] at hss
               first | (have l1 : wr.heap.size < w6.heap.size := by omega) | skip))
        all_goals go_wp2_with fail
        all_goals go_meet
        · have hba := (Below.refl w6.heap.size w6).alloc (Nat.le_refl _) (.cells #[.int .u8 z.k, .string z.t, .slice z.la z.l.length z.lc, .slice z.ka z.ks.length z.kc] 41)
          exact ⟨w6.heap.size, z, rfl, rfl, heap_alloc_new w6 _, Rd.up (hzi.widen (Nat.zero_le _) (Nat.le_refl _)) hba, hzv, (s_alloc hN Q1.out _).2⟩
        · simp only [World.size_drew, World.size_alloc] at hzi
          have hbk := heap_alloc_new wr (.cells #[.int .u8 0, .string ⟨#[]⟩, .slice none 0 0, .slice none 0 0] 41)
          exact ⟨wr.heap.size, z, rfl, rfl, put4_box ((hb6.block wr.heap.size (by simp)).trans hbk), (hzi.kept (Nat.le_of_eq put4_size.symm) fun q h1 _ _ => put4_old (by omega)).widen (Nat.zero_le _) (Nat.le_of_eq put4_size.symm), hzv, (s_put4 hN Q1.out (by omega)).2⟩
        --E1
      case rest =>
        obtain ⟨g, z, rfl, rfl, hgb, hz, hzv, hbc⟩ := hcut
        obtain ⟨W6, hW6⟩ : ∃ W6, W6 = wc := ⟨_, rfl⟩
        subst hW6
        have hsc := hbc.size
        have hgl : g < W6.heap.size := by
          rcases Nat.lt_or_ge g W6.heap.size with h | h
          · exact h
          · rw [Array.getElem?_eq_none h] at hgb; cases hgb
        have kc1 := (hbc.block w.heap.size hn1).trans KR1.out
        obtain ⟨r0, r1, r2, r3, -, -, -, -⟩ := vbox4 kc1
        obtain ⟨z0, z1, z2, z3, -, -, -, -⟩ := vbox4 hgb
        rw [HKA.out] at r3
        rw [HLA.out] at r2
        have hxc : Rd W6 x := HXR.out.up hbc
        rw [← hbc.cell (p := ⟨_, _, none⟩) hbb] at h0
        rw [← hbc.cell (p := ⟨_, _, none⟩) hcc] at g0 g1 g2 g3
        have hn1c : w.heap.size < W6.heap.size := by omega
        have hbb' : b < W6.heap.size := by omega
        have hcc' : c < W6.heap.size := by omega
        have hwz : z.w ≤ 1048576 := by
          have := Val.w_kid HVM.out
          show z.v.w ≤ _; rw [hzv]; omega
        have hwv : v.w ≤ 1048576 := by
          have := Val.w_kid HVM.out
          show v.v.w ≤ _; omega
        have hvmay := (may_kid HMM.out HVM.out).2
        have HSAM := fun W (hb : Below W6.heap.size W6 W) => Lib.hid (show Calls Tryd.prog 29 #[z.val, v.val] W (Ret (.bool true) W) by
          have := same_c z v W (hz.up hb) ((hxc.up hb).kid HMEM.out) hwz hwv; rwa [hzv, same_refl hvmay] at this)
        have HSZZ := fun W (hb : Below W6.heap.size W6 W) => Lib.hid (show Calls Tryd.prog 32 #[z.val] W (Ret (.int .i64 v.v.size) W) by
          have := size_c W z (hz.up hb) hwz; rwa [hzv, hvmay, if_pos rfl] at this)
        have HDEZ := fun W (hb : Below W6.heap.size W6 W) => Lib.hid (show Calls Tryd.prog 33 #[z.val] W (Ret (.int .i64 v.v.deep) W) by
          have := deep_c W z (hz.up hb) hwz; rwa [hzv, hvmay, if_pos rfl] at this)
        have HSZX := fun W (hb : Below W6.heap.size W6 W) => Lib.hid (show Calls Tryd.prog 32 #[.agg #[.int .u8 x.k, .string x.t, .slice x.la x.l.length x.lc, .slice x.ka x.ks.length x.kc]] W (Ret (.int .i64 x.v.size) W) by
          have := size_c W x (hxc.up hb) hwx; rwa [HMM.out, if_pos rfl] at this)
        have HDEX := fun W (hb : Below W6.heap.size W6 W) => Lib.hid (show Calls Tryd.prog 33 #[.agg #[.int .u8 x.k, .string x.t, .slice x.la x.l.length x.lc, .slice x.ka x.ks.length x.kc]] W (Ret (.int .i64 x.v.deep) W) by
          have := deep_c W x (hxc.up hb) hwx; rwa [HMM.out, if_pos rfl] at this)
        rw [HKA.out, HLA.out] at HSZX HDEX
        have hsn : decide (x.v.size ≤ v.v.size) = false := by have := size_kid HVM.out; simp; omega
        have hdn : decide (x.v.deep ≤ v.v.deep) = false := by have := deep_kid HMM.out HVM.out; simp; omega
        generalize x.v.size = sx at *
        generalize v.v.size = sv at *
        generalize x.v.deep = dx at *
        generalize v.v.deep = dv at *
        have HGB := Lib.hid hgb
        have HZR := Lib.hid hz
        have HZV := Lib.hid hzv
        have HBC := Lib.hid hbc
        have HKC := Lib.hid kc1
        have HXC := Lib.hid hxc
        have hNc : W6.heap.size ≤ W6.heap.size := Nat.le_refl _
        clear hgb hz hzv hbc kc1 hxc HGET q0 q1 q2 q3 hvmay
        go_wp2_with fail
        go_cut [72] (fun s72 wx => s72 = .bool false ∧ Below W6.heap.size W6 wx)
        case first =>
          --F2
          go_region_held3 (fun w' => (∀ b o, b < W6.heap.size → w'.cell? ⟨b, o, none⟩ = W6.cell? ⟨b, o, none⟩) ∧ Below W6.heap.size W6 w')
            (first | (with_reducible exact Q5.out) | (with_reducible exact Q4.out) | (with_reducible exact Q3.out) | (with_reducible exact Q2.out) | (with_reducible exact Q1.out) | exact ⟨fun _ _ _ => rfl, (Below.refl _ _).drew⟩)
            (first
              | (go_at_call 29; refine (HSAM _ (S.bel (by assumption))).out.mono ?_; rintro e wa ⟨rfl, hba⟩; have Q1 := Lib.hid (s_step hNc (by assumption) hba))
              | (go_at_call 32; first
                  | ((with_reducible refine (HSZZ _ (S.bel (by assumption))).out.mono ?_); rintro e wb ⟨rfl, hbb⟩; have Q2 := Lib.hid (s_step hNc (by assumption) hbb))
                  | ((with_reducible refine (HSZX _ (S.bel (by assumption))).out.mono ?_); rintro e wd ⟨rfl, hbd⟩; have Q3 := Lib.hid (s_step hNc (by assumption) hbd)))
              | (go_at_call 33; first
                  | ((with_reducible refine (HDEZ _ (S.bel (by assumption))).out.mono ?_); rintro e we ⟨rfl, hbe⟩; have Q4 := Lib.hid (s_step hNc (by assumption) hbe))
                  | ((with_reducible refine (HDEX _ (S.bel (by assumption))).out.mono ?_); rintro e wf ⟨rfl, hbf⟩; have Q5 := Lib.hid (s_step hNc (by assumption) hbf))))
          all_goals go_wp2_with fail
          all_goals go_meet
          all_goals exact ⟨rfl, Q5.out.2⟩
          --E2
        case rest =>
          obtain ⟨rfl, hbd⟩ := hcut
          obtain ⟨W7, hW7⟩ : ∃ W7, W7 = wc := ⟨_, rfl⟩
          subst hW7
          have hsd := hbd.size
          have hw7 : Below w.heap.size w W7 := below_via (below_via HWR.out HBC.out) hbd
          have hb47 : Below w4.heap.size w4 W7 := below_via (below_via HBR.out HBC.out) hbd
          have hx7 := HXC.out.up hbd
          have hz7 := HZR.out.up hbd
          have kd1 := (hbd.block w.heap.size hn1c).trans HKC.out
          have kg1 := (hbd.block g hgl).trans HGB.out
          rw [← hbd.cell (p := ⟨_, _, none⟩) hbb'] at h0
          have hn1d : w.heap.size < W7.heap.size := by omega
          have hbd' : b < W7.heap.size := by omega
          have hcd' : c < W7.heap.size := by omega
          have hgd' : g < W7.heap.size := by omega
          obtain ⟨q0, q1, q2, q3, -, -, -, -⟩ := vbox4 kd1
          rw [HKA.out] at q3
          rw [HLA.out] at q2
          have hks7 : SlE strE 1 W7 0 W7.heap.size (some ⟨b, off, none⟩) x.ks := by have := hx7.keys; rwa [HKA.out] at this
          have hls7 : SlE AV.enc 4 W7 0 W7.heap.size (some ⟨c, off', none⟩) x.l := by have := hx7.sl; rwa [HLA.out] at this
          have hks8 : SlE strE 1 W7 0 W7.heap.size (if x.kc = m + 1 then some ⟨b, off, none⟩ else some ⟨b, off + (m + 1), none⟩) (x.ks.drop (m + 1)) := by
            split
            · rw [List.drop_eq_nil_of_le (by omega)]; exact SlE.nil
            · have := hks7.drop' (m + 1); rwa [Nat.mul_one] at this
          have hls8 : SlE AV.enc 4 W7 0 W7.heap.size (if x.lc = m + 1 then some ⟨c, off', none⟩ else some ⟨c, off' + (m + 1) * 4, none⟩) (x.l.drop (m + 1)) := by
            split
            · rw [List.drop_eq_nil_of_le (by omega)]; exact SlE.nil
            · exact hls7.drop' (m + 1)
          have hks9 := hks7.take m
          have hls9 := hls7.take m
          obtain ⟨k1, hk1⟩ : ∃ k1, k1 = x.ks.take m := ⟨_, rfl⟩
          obtain ⟨k2, hk2⟩ : ∃ k2, k2 = x.ks.drop (m + 1) := ⟨_, rfl⟩
          obtain ⟨l1, hl1⟩ : ∃ l1, l1 = x.l.take m := ⟨_, rfl⟩
          obtain ⟨l2, hl2⟩ : ∃ l2, l2 = x.l.drop (m + 1) := ⟨_, rfl⟩
          rw [← hk1] at hks9
          rw [← hk2] at hks8
          rw [← hl1] at hls9
          rw [← hl2] at hls8
          have HT1 := Lib.hid (show k1.length = m by rw [hk1, List.length_take]; omega)
          have HT2 := Lib.hid (show l1.length = m by rw [hl1, List.length_take]; omega)
          have HT3 := Lib.hid (show k2.length = x.ks.length - (m + 1) by rw [hk2, List.length_drop])
          have HT4 := Lib.hid (show l2.length = x.l.length - (m + 1) by rw [hl2, List.length_drop])
          obtain ⟨k3, hk3⟩ : ∃ k3, k3 = k1 ++ k2 := ⟨_, rfl⟩
          obtain ⟨l3, hl3⟩ : ∃ l3, l3 = l1 ++ l2 := ⟨_, rfl⟩
          have HK3 := Lib.hid hk3
          have HL3 := Lib.hid hl3
          have HE1 := Lib.hid (show k3 = x.ks.take m ++ x.ks.drop (m + 1) by rw [hk3, hk1, hk2])
          have HE2 := Lib.hid (show l3 = x.l.take m ++ x.l.drop (m + 1) by rw [hl3, hl1, hl2])
          have HK7 := Lib.hid hks9
          have HL7 := Lib.hid hls9
          have HK8 := Lib.hid hks8
          have HL8 := Lib.hid hls8
          have HW7 := Lib.hid hw7
          have HB7 := Lib.hid hb47
          have HX7 := Lib.hid hx7
          have HZ7 := Lib.hid hz7
          have HKD := Lib.hid kd1
          have HKD7 := Lib.hid kd1
          have HKG := Lib.hid kg1
          have hN7 : W7.heap.size ≤ W7.heap.size := Nat.le_refl _
          have i0 : (0 : Int) ≤ (m : Int) := by omega
          have i1 : (m : Int) ≤ (x.kc : Int) := by omega
          have i2 : (m : Int) ≤ (x.lc : Int) := by omega
          have i3 : (0 : Int) ≤ ((m + 1 : Nat) : Int) := by omega
          have i4 : ((m + 1 : Nat) : Int) ≤ (x.ks.length : Int) := by omega
          have i5 : ((m + 1 : Nat) : Int) ≤ (x.l.length : Int) := by omega
          have j3 : (0 : Int) ≤ (m : Int) + 1 := by omega
          have j4 : (m : Int) + 1 ≤ (x.ks.length : Int) := by omega
          have j5 : (m : Int) + 1 ≤ (x.l.length : Int) := by omega
          have i6 : IntKind.i64.wrap ((m : Int) + 1) = ((m + 1 : Nat) : Int) := by rw [IntWalk.i64_in _ (by omega)]; omega
          clear hk1 hk2 hl1 hl2 hk3 hl3
          clear hbd hw7 hb47 hx7 hz7 kd1 kg1 hks7 hls7 hks8 hls8 hks9 hls9 r0 r1 r2 r3 z0 z1 z2 z3 g0 g1 g2 g3 HBC HGB HZR HXC HKC hsn hdn HSAM HSZZ HDEZ HSZX HDEX HBR HWR KR1 KR2
          go_wp2_with fail
          go_cut [8, 13, 20] (fun s8 s13 s20 wx => ∃ g2 a1 c1 a2 c2, s8 = .pointer (some ⟨g2, 0, none⟩) ∧ s13 = .agg #[.int .u8 x.k, .string x.t, .slice x.la x.l.length x.lc, .slice x.ka x.ks.length x.kc] ∧ s20 = .agg #[.int .u8 x.k, .string x.t, .slice x.la x.l.length x.lc, .slice x.ka x.ks.length x.kc] ∧ Cop wx W7.heap.size g2 8 ⟨#[]⟩ a1 c1 l3 a2 c2 k3 ∧ Below W7.heap.size W7 wx)
          case first =>
            --F3
            go_region_held3 (fun w' => (∀ b o, b < W7.heap.size → w'.cell? ⟨b, o, none⟩ = W7.cell? ⟨b, o, none⟩) ∧ Below W7.heap.size W7 w')
              (first
                | (with_reducible exact Q4.out)
                | (with_reducible exact Q3.out)
                | (with_reducible exact Q2.out)
                | (with_reducible exact Q1.out)
                | (with_reducible exact s_alloc hN7 Q4.out _)
                | (with_reducible exact s_alloc hN7 Q3.out _)
                | (with_reducible exact s_alloc hN7 Q2.out _)
                | (with_reducible exact s_alloc hN7 Q1.out _)
                | (with_reducible exact s_put4 hN7 Q4.out (by first | assumption | exact Nat.le_refl _))
                | (with_reducible exact s_alloc0 hN7 _)
                | (with_reducible refine s_alloc hN7 (by assumption) _)
                | exact ⟨fun _ _ _ => rfl, (Below.refl _ _).drew⟩)
              (first
                | (refine st_first_str (x := .tmp 76) hN7 (by assumption) HK7.out (Nat.le_refl _) (by rw [HT1.out]; omega) rfl rfl (by rw [HT1.out]; rfl) ?_; intro a2 c2 Ws hn1' hos hbs
                   have Q1 := Lib.hid (s_step hN7 (by assumption) hbs)
                   have hp1 : W7.heap.size ≤ Ws.heap.size := Nat.le_trans hn1' hbs.size)
                | (refine st_more_str (s := .tmp 77) (x := .tmp 82) hos (by repeat (first | exact Below.refl _ _ | refine Below.drew ?_ | refine below_drewN ?_ _ | refine Below.alloc ?_ (by first | omega | (simp; done) | (simp; omega)) _)) hbs.size (by assumption) HK8.out (Nat.le_refl _) k3 HK3.out (by rw [HT1.out, HT3.out]; omega) rfl rfl rfl (by rw [HT3.out]; rfl) ?_; intro a3 c3 Ws2 hj2 hos2 hgs2 hes2
                   have Q2 := Lib.hid (s_grow hN7 (by assumption) hgs2 (fun q hq => Nat.le_trans hn1' (World.ownsRow.lt hos q hq).1))
                   have hp2 : W7.heap.size ≤ Ws2.heap.size := Nat.le_trans hp1 (Nat.le_trans hj2.size hgs2.size))
                | (refine st_first_val (Wp := Ws2) (x := .tmp 87) hN7 (by repeat (first | exact Below.refl _ _ | refine Below.drew ?_ | refine below_drewN ?_ _ | refine Below.alloc ?_ (by first | omega | (simp; done) | (simp; omega)) _)) (by assumption) HL7.out (Nat.le_refl _) (by rw [HT2.out]; omega) rfl rfl (by rw [HT2.out]; rfl) ?_; intro a4 c4 Wv hn3' hj3 hov hbv
                   have Q3 := Lib.hid (s_step hN7 (by assumption) hbv)
                   have hp3 : W7.heap.size ≤ Wv.heap.size := Nat.le_trans hn3' hbv.size)
                | (refine st_more_val (s := .tmp 88) (x := .tmp 93) hov (by repeat (first | exact Below.refl _ _ | refine Below.drew ?_ | refine below_drewN ?_ _ | refine Below.alloc ?_ (by first | omega | (simp; done) | (simp; omega)) _)) hbv.size (by assumption) HL8.out (Nat.le_refl _) l3 HL3.out (by rw [HT2.out, HT4.out]; omega) rfl rfl rfl (by rw [HT4.out]; rfl) ?_; intro a5 c5 Wv2 hj4 hov2 hgv2 hev2
                   have Q4 := Lib.hid (s_grow hN7 (by assumption) hgv2 (fun q hq => Nat.le_trans hn3' (World.ownsRow.lt hov q hq).1))
                   obtain ⟨G1, G2, G3, G4⟩ := keep_g hos hbs hj2 hgs2 hj3 hov hbv hj4 hgv2
                   first
                     | (have kg := (G1 W7.heap.size (by simp)).trans (heap_alloc_new W7 _); obtain ⟨zc0, zc1, zc2, zc3, zf0, zf1, zf2, zf3⟩ := vbox4 kg; have HC := Lib.hid (Cop.joined (k := 8) (t := ⟨#[]⟩) hn1' hos hbs.size hj2.size hos2 hgs2 hes2 hj3 hov hbv hj4 hov2 hgv2 hev2 (.inl ⟨Nat.le_refl _, by simp⟩) put4_grown (put4_box (a := .int .u8 8) (b := .string ⟨#[]⟩) (c := .slice a5 l3.length c5) (d := .slice a3 k3.length c3) kg)); have HBf := Lib.hid (s_put4 (a := .int .u8 8) (b := .string ⟨#[]⟩) (c := .slice a5 l3.length c5) (d := .slice a3 k3.length c3) hN7 Q4.out (Nat.le_refl _)).2)
                     | (have kg := (G2 Ws.heap.size (Nat.le_refl _) (by simp)).trans (heap_alloc_new Ws _); obtain ⟨zc0, zc1, zc2, zc3, zf0, zf1, zf2, zf3⟩ := vbox4 kg; have HC := Lib.hid (Cop.joined (k := 8) (t := ⟨#[]⟩) hn1' hos hbs.size hj2.size hos2 hgs2 hes2 hj3 hov hbv hj4 hov2 hgv2 hev2 (.inr (.inl ⟨Nat.le_refl _, by simp⟩)) put4_grown (put4_box (a := .int .u8 8) (b := .string ⟨#[]⟩) (c := .slice a5 l3.length c5) (d := .slice a3 k3.length c3) kg)); have HBf := Lib.hid (s_put4 (a := .int .u8 8) (b := .string ⟨#[]⟩) (c := .slice a5 l3.length c5) (d := .slice a3 k3.length c3) hN7 Q4.out hp1).2)
                     | (have kg := (G3 Ws2.heap.size (by simp)).trans (heap_alloc_new Ws2 _); obtain ⟨zc0, zc1, zc2, zc3, zf0, zf1, zf2, zf3⟩ := vbox4 kg; have HC := Lib.hid (Cop.joined (k := 8) (t := ⟨#[]⟩) hn1' hos hbs.size hj2.size hos2 hgs2 hes2 hj3 hov hbv hj4 hov2 hgv2 hev2 (.inr (.inr (.inl ⟨Nat.le_refl _, by simp⟩))) put4_grown (put4_box (a := .int .u8 8) (b := .string ⟨#[]⟩) (c := .slice a5 l3.length c5) (d := .slice a3 k3.length c3) kg)); have HBf := Lib.hid (s_put4 (a := .int .u8 8) (b := .string ⟨#[]⟩) (c := .slice a5 l3.length c5) (d := .slice a3 k3.length c3) hN7 Q4.out hp2).2)
                     | (have kg := (G4 Wv.heap.size (Nat.le_refl _) (by simp)).trans (heap_alloc_new Wv _); obtain ⟨zc0, zc1, zc2, zc3, zf0, zf1, zf2, zf3⟩ := vbox4 kg; have HC := Lib.hid (Cop.joined (k := 8) (t := ⟨#[]⟩) hn1' hos hbs.size hj2.size hos2 hgs2 hes2 hj3 hov hbv hj4 hov2 hgv2 hev2 (.inr (.inr (.inr (.inl ⟨Nat.le_refl _, by simp⟩)))) put4_grown (put4_box (a := .int .u8 8) (b := .string ⟨#[]⟩) (c := .slice a5 l3.length c5) (d := .slice a3 k3.length c3) kg)); have HBf := Lib.hid (s_put4 (a := .int .u8 8) (b := .string ⟨#[]⟩) (c := .slice a5 l3.length c5) (d := .slice a3 k3.length c3) hN7 Q4.out hp3).2)
                     | (have HC := Lib.hid (Cop.joined (k := 8) (t := ⟨#[]⟩) hn1' hos hbs.size hj2.size hos2 hgs2 hes2 hj3 hov hbv hj4 hov2 hgv2 hev2 (.inr (.inr (.inr (.inr (Nat.le_refl _))))) (grown_below ((Below.refl _ _).alloc (Nat.le_refl _) (.cells #[.int .u8 8, .string ⟨#[]⟩, .slice a5 l3.length c5, .slice a3 k3.length c3] 41))) (heap_alloc_new Wv2 _)); have HBf := Lib.hid (s_alloc hN7 Q4.out (.cells #[.int .u8 8, .string ⟨#[]⟩, .slice a5 l3.length c5, .slice a3 k3.length c3] 41)).2)
                   clear G1 G2 G3 G4))
            all_goals go_wp2_with fail
            all_goals go_meet
            all_goals exact ⟨_, a5, c5, a3, c3, rfl, (by first | rfl | (simp; omega)), (by first | rfl | (simp; omega)), HC.out, HBf.out⟩
            --E3
          case rest =>
            obtain ⟨g2, a1, c1, a2, c2, rfl, rfl, rfl, hcop, hb9⟩ := hcut
            obtain ⟨W9, hW9⟩ : ∃ W9, W9 = wc := ⟨_, rfl⟩
            subst hW9
            have hs9 := hb9.size
            have hx9 := HX7.out.up hb9
            have hlv : ∀ u ∈ l3, u ∈ x.l := fun u hu => by
              rw [HE2.out] at hu
              rcases List.mem_append.1 hu with hu | hu
              · exact List.mem_of_mem_take hu
              · exact List.mem_of_mem_drop hu
            have hw0 : Rd W9 ⟨8, ⟨#[]⟩, a1, c1, l3, a2, c2, k3⟩ := hcop.rd (by decide) fun u hu => hx9.kid (hlv u hu)
            have hv0 : AV.v ⟨8, ⟨#[]⟩, a1, c1, l3, a2, c2, k3⟩ = x.v.less m := by
              rw [AV.v_eq, Val.less, AV.v_l, AV.v_ks]
              simp only [HE1.out, HE2.out, List.map_append, List.map_take, List.map_drop]
            have hwt : AV.w ⟨8, ⟨#[]⟩, a1, c1, l3, a2, c2, k3⟩ ≤ 1048576 := by
              show (AV.v _).w ≤ _
              rw [hv0]
              have := less_w HVK.out HVL.out; omega
            have HGN := fun W (hb : Below W9.heap.size W9 W) => Lib.hid (show Calls Tryd.prog 40 #[.agg #[.int .u8 8, .string ⟨#[]⟩, .slice a1 l3.length c1, .slice a2 k3.length c2], .string s] W (GetN W) from get_n (x := ⟨8, ⟨#[]⟩, a1, c1, l3, a2, c2, k3⟩) (by rw [hv0]; exact get_none (less_may HMM.out HVK.out).2) W (hw0.up hb) hwt)
            have HCP := Lib.hid hcop
            have HLV := Lib.hid hlv
            have kd9 := (hb9.block w.heap.size hn1d).trans HKD.out
            have kg9 := (hb9.block g hgd').trans HKG.out
            have hz9 := HZ7.out.up hb9
            rw [← hb9.cell (p := ⟨_, _, none⟩) hbd'] at h0
            have hg2l := hcop.lt
            have hg2b := hcop.big
            obtain ⟨v0, v1, v2, v3, -, -⟩ := hcop.cells
            have hn1e : w.heap.size < W9.heap.size := by omega
            have hbe : b < W9.heap.size := by omega
            have hge9 : g < W9.heap.size := by omega
            clear q0 q1 q2 q3
            obtain ⟨q0, q1, q2, q3, -, -, -, -⟩ := vbox4 kd9
            rw [HKA.out] at q3
            have HB9 := Lib.hid hb9
            have HX9 := Lib.hid hx9
            have HZ9 := Lib.hid hz9
            have HKD9 := Lib.hid kd9
            have HKG9 := Lib.hid kg9
            have hN9 : W9.heap.size ≤ W9.heap.size := Nat.le_refl _
            clear hcop hlv kd9 kg9 hz9 hx9 hb9 hw0 hv0 hwt i0 i1 i2 i3 i4 i5 i6 j3 j4 j5 HKD HKG HK7 HK8 HL7 HL8 HT1 HT2 HT3 HT4 HK3 HL3
            go_wp2_with fail
            go_cut [10] (fun s10 wx => s10 = .bool false ∧ Below W9.heap.size W9 wx)
            case first =>
              --F4
              go_region_held3 (fun w' => (∀ b o, b < W9.heap.size → w'.cell? ⟨b, o, none⟩ = W9.cell? ⟨b, o, none⟩) ∧ Below W9.heap.size W9 w')
                (first
                  | (with_reducible exact Q1.out)
                  | (with_reducible exact s_alloc hN9 Q1.out _)
                  | (with_reducible exact s_put4 hN9 Q1.out (by omega))
                  | (with_reducible exact s_alloc0 hN9 _)
                  | (with_reducible refine s_alloc hN9 (by assumption) _)
                  | exact ⟨fun _ _ _ => rfl, (Below.refl _ _).drew⟩)
                (first
                  | (go_at_call 40; refine (HGN _ (S.bel (by assumption))).out.mono ?_; rintro e w6 ⟨rfl, hb6⟩; have Q1 := Lib.hid (s_step hN9 (by assumption) hb6)
                     obtain ⟨bs1, bs2⟩ := bcell hb6
                     have hss := hb6.size
                     try simp only [World.size_drew, World.size_alloc] at hss
                     first | (have l1 : W9.heap.size < w6.heap.size := by omega) | skip))
              all_goals go_wp2_with fail
              all_goals go_meet
              · exact ⟨rfl, (s_alloc hN9 Q1.out _).2⟩
              · exact ⟨rfl, (s_put4 hN9 Q1.out (by omega)).2⟩
              --E4
            case rest =>
              obtain ⟨rfl, hb10⟩ := hcut
              obtain ⟨W10, hW10⟩ : ∃ W10, W10 = wc := ⟨_, rfl⟩
              subst hW10
              have hs10 := hb10.size
              have hcop10 := HCP.out.below hb10
              have kd10 := (hb10.block w.heap.size hn1e).trans HKD9.out
              have kg10 := (hb10.block g hge9).trans HKG9.out
              rw [← hb10.cell (p := ⟨_, _, none⟩) hbe] at h0
              have hl10 : w.heap.size < W10.heap.size := by omega
              have hbf : b < W10.heap.size := by omega
              have hgf : g < W10.heap.size := by omega
              have hg2f : g2 < W10.heap.size := by omega
              have hn79 : W7.heap.size ≤ W10.heap.size := by omega
              clear q0 q1 q2 q3 v0 v1 v2 v3
              obtain ⟨q0, q1, q2, q3, -, -, -, -⟩ := vbox4 kd10
              rw [HKA.out] at q3
              obtain ⟨v0, v1, v2, v3, v4, v5⟩ := hcop10.cells
              have hk3l : k3.length < 16777216 := by rw [HE1.out]; simp; omega
              have hl3l : l3.length < 16777216 := by rw [HE2.out]; simp; omega
              obtain ⟨k4, hk4⟩ : ∃ k4, k4 = k3 ++ [s] := ⟨_, rfl⟩
              obtain ⟨l4, hl4⟩ : ∃ l4, l4 = l3 ++ [z] := ⟨_, rfl⟩
              have HK4 := Lib.hid hk4
              have HL4 := Lib.hid hl4
              have HC10 := Lib.hid hcop10
              have HB10 := Lib.hid hb10
              have HKD10 := Lib.hid kd10
              have HKG10 := Lib.hid kg10
              clear hk4 hl4 hcop10 hb10 kd10 kg10 HGN HKD9 HKG9 HCP
              go_wp2_with fail
              go_cut [] (fun wx => ∃ a' c', Cop wx W7.heap.size g2 8 ⟨#[]⟩ a1 c1 l3 a' c' k4 ∧ Below W7.heap.size W10 wx)
              case first =>
                --F5
                go_region_law (first
                  | (obtain ⟨a3, c3, W', hrun, p3, p5, hcop2, hbW, hsW⟩ := (HC10.out.below ((Below.refl _ _).drew)).key s k4 HK4.out hk3l hn79 _ rfl
                     refine st_append (s := .tmp 107) (x := .tmp 113) rfl rfl (hrun _) ?_
                     clear hrun))
                all_goals
                  go_wp2_with fail
                  go_meet
                  exact ⟨a3, c3, hcop2, (below_of_drew hbW).setCell (p := ⟨g2, 3, none⟩) hg2b _⟩
                --E5
              case rest =>
                obtain ⟨a', c', hcop11, hb11⟩ := hcut
                obtain ⟨W11, hW11⟩ : ∃ W11, W11 = wc := ⟨_, rfl⟩
                subst hW11
                have hs11 := hb11.size
                have hbB := hb11.block
                have kd11 : W11.heap[w.heap.size]? = _ := (hb11.block w.heap.size (by omega)).trans HKD10.out
                have kg11 : W11.heap[g]? = _ := (hb11.block g (by omega)).trans HKG10.out
                have hn7b : W7.heap.size ≤ W11.heap.size := by omega
                clear q0 q1 q2 q3 v0 v1 v2 v3 v4 v5
                obtain ⟨q0, q1, q2, q3, -, -, -, -⟩ := vbox4 kd11
                obtain ⟨z0, z1, z2, z3, -, -, -, -⟩ := vbox4 kg11
                obtain ⟨v0, v1, v2, v3, v4, v5⟩ := hcop11.cells
                obtain ⟨a3, c3, W', hrun, p3, p5, hcop12, hbW, hsW⟩ := hcop11.push z l4 HL4.out hl3l hn7b _ rfl
                have HC12 := Lib.hid hcop12
                have HBW := Lib.hid hbW
                have HB11 := Lib.hid hb11
                have HKD11 := Lib.hid kd11
                clear hcop12 hbW hb11 hbB kd11 kg11 hcop11 HC10
                have hg2W : g2 < W11.heap.size := by omega
                have hg2W' : g2 < W'.heap.size := by omega
                go_upto_region 13 with (first | (at_builtin; refine wl_append (s := .tmp 117) (x := .tmp 119) rfl rfl (hrun _) ?_; clear hrun))
                go_name_world W12 hW12
                have hcop12 : Cop W12 W7.heap.size g2 8 ⟨#[]⟩ a3 c3 l4 a' c' k4 := by rw [← hW12]; exact HC12.out
                have hb12 : Below W7.heap.size W7 W12 := by
                  rw [← hW12]
                  exact (((HB9.out.trans (HB10.out.mono (by omega))).trans HB11.out).trans HBW.out).setCell (p := ⟨g2, 2, none⟩) hg2b _
                clear hW12
                have hs12 := hb12.size
                have hx12 := HX7.out.up hb12
                have hz12 := HZ7.out.up hb12
                have hw12 : Rd W12 ⟨8, ⟨#[]⟩, a3, c3, l4, a', c', k4⟩ := hcop12.rd (by decide) fun u hu => by
                  rw [HL4.out] at hu
                  rcases List.mem_append.1 hu with hu | hu
                  · exact hx12.kid (HLV.out u hu)
                  · simp at hu; subst hu; exact hz12
                have hv12 : AV.v ⟨8, ⟨#[]⟩, a3, c3, l4, a', c', k4⟩ = x.v.again m s v.v := by
                  rw [AV.v_eq, Val.again, AV.v_l, AV.v_ks]
                  simp only [HL4.out, HK4.out, HE1.out, HE2.out, List.map_append, List.map_take, List.map_drop, List.map_singleton, HZV.out]
                have hwt : AV.w ⟨8, ⟨#[]⟩, a3, c3, l4, a', c', k4⟩ ≤ 1048576 := by
                  show (AV.v _).w ≤ _
                  rw [hv12]
                  have := again_w HVK.out HVL.out; omega
                have HSM := Lib.hid (show Calls Tryd.prog 29 #[.agg #[.int .u8 8, .string ⟨#[]⟩, .slice a3 l4.length c3, .slice a' k4.length c'], .agg #[.int .u8 x.k, .string x.t, .slice x.la x.l.length x.lc, .slice x.ka x.ks.length x.kc]] W12 (Ret (.bool true) W12) by
                  have := same_c ⟨8, ⟨#[]⟩, a3, c3, l4, a', c', k4⟩ x W12 hw12 hx12 hwt hwx
                  rwa [hv12, (again_same HMM.out HVK.out HVL.out).2] at this)
                have kd12 : W12.heap[w.heap.size]? = some (.cells #[.int .u8 x.k, .string x.t, .slice x.la x.l.length x.lc, .slice x.ka x.ks.length x.kc] 41 (0, 0)) := (hb12.block w.heap.size hn1d).trans HKD7.out
                clear q0 q1 q2 q3 z0 z1 z2 z3 v0 v1 v2 v3 v4 v5
                obtain ⟨q0, q1, q2, q3, -, -, -, -⟩ := vbox4 kd12
                obtain ⟨v0, v1, v2, v3, v4, v5⟩ := hcop12.cells
                have hg12 := hcop12.lt
                have hw1212 : w.heap.size < W12.heap.size := by omega
                have HB12 := Lib.hid hb12
                clear hcop12 hb12 hx12 hz12 hw12 hv12 hwt kd12
                go_wp2_with (first | (go_at_call 29; refine HSM.out.mono ?_; rintro e w13 ⟨rfl, hb13⟩))
                exact ⟨⟨m + 1, by omega, by go_num, below_via HB7.out (HB12.out.trans (hb13.mono (by omega)))⟩, by simp [intOf]; omega⟩
      --E9
    · obtain rfl : m = x.ks.length := by omega
      have hge : ¬ (x.ks.length : Int) < (x.ks.length : Int) := by omega
      have hxr := hx.up HWR.out
      have hyr := hy.up HWR.out
      obtain ⟨p0, p1, p2, p3, -, -, -, -⟩ := vbox4 KR2.out
      have HDX := fun W (hb : Below wr.heap.size wr W) => Lib.hid (show Calls Tryd.prog 33 #[x.val] W (Ret (.int .i64 x.v.deep) W) by
        have := deep_c W x (hxr.up hb) hwx; rwa [HMM.out, if_pos rfl] at this)
      have HDY := fun W (hb : Below wr.heap.size wr W) => Lib.hid (show Calls Tryd.prog 33 #[y.val] W (Ret (.int .i64 y.v.deep) W) by
        have := deep_c W y (hyr.up hb) hwy; rwa [HMN.out, if_pos rfl] at this)
      have hSr := hS.below HWR.out
      have HL := fun W (hb : Below wr.heap.size wr W) => Lib.hid (lives14_c W (hSr.below hb))
      by_cases hd1 : 250 < x.v.deep
      · have hd1' : (250 : Int) < (x.v.deep : Int) := by omega
        generalize x.v.deep = dx at *
        clear hd1
        go_wp2_with (first
          | (go_at_call 33; refine (HDX _ (Below.refl _ _)).out.mono ?_; rintro e w5 ⟨rfl, hb5⟩)
          | (go_at_call 27; refine (HL _ (by assumption)).out.mono ?_; rintro e w7 ⟨rfl, hb7⟩))
        go_ret
        exact ⟨rfl, below_via HWR.out (below_via hb5 hb7)⟩
      · have hd1' : ¬ (250 : Int) < (x.v.deep : Int) := by omega
        by_cases hd2 : 250 < y.v.deep
        · have hd2' : (250 : Int) < (y.v.deep : Int) := by omega
          generalize y.v.deep = dy at *
          generalize x.v.deep = dx at *
          clear hd1 hd2
          go_wp2_with (first
            | (go_at_call 33; first
                | ((with_reducible refine (HDX _ (Below.refl _ _)).out.mono ?_); rintro e w5 ⟨rfl, hb5⟩
                   obtain ⟨p0, p1, p2, p3, -, -, -, -⟩ := vbox4 ((hb5.block (w.heap.size + 1) hn2).trans KR2.out))
                | ((with_reducible refine (HDY _ hb5).out.mono ?_); rintro e w6 ⟨rfl, hb6⟩
                   have hb56 := below_via hb5 hb6))
            | (go_at_call 27; refine (HL _ hb56).out.mono ?_; rintro e w7 ⟨rfl, hb7⟩))
          go_ret
          exact ⟨rfl, below_via HWR.out (below_via hb56 hb7)⟩
        · have hd2' : ¬ (250 : Int) < (y.v.deep : Int) := by omega
          have HM1 := Lib.hid (two_may HMM.out HMN.out hd1 hd2)
          have HM2 := Lib.hid (two_may HMN.out HMM.out hd2 hd1)
          have HTC := Lib.hid (two_cmp HMM.out HMN.out hd1 hd2)
          generalize y.v.deep = dy at *
          generalize x.v.deep = dx at *
          clear hd1 hd2
          go_upto_region 19 with (first
            | (go_at_call 33; first
                | ((with_reducible refine (HDX _ (Below.refl _ _)).out.mono ?_); rintro e w5 ⟨rfl, hb5⟩
                   obtain ⟨p0, p1, p2, p3, -, -, -, -⟩ := vbox4 ((hb5.block (w.heap.size + 1) hn2).trans KR2.out))
                | ((with_reducible refine (HDY _ hb5).out.mono ?_); rintro e w6 ⟨rfl, hb6⟩
                   have hb56 := below_via hb5 hb6
                   have hs56 := hb56.size
                   have hl6 : w.heap.size < w6.heap.size := by omega
                   have hl7 : w.heap.size + 1 < w6.heap.size := by omega
                   obtain ⟨q0, q1, q2, q3, -, -, -, -⟩ := vbox4 ((hb56.block w.heap.size hn1).trans KR1.out)
                   obtain ⟨p0, p1, p2, p3, -, -, -, -⟩ := vbox4 ((hb56.block (w.heap.size + 1) hn2).trans KR2.out))))
          go_name_world W8 hW8
          obtain ⟨e1, e2, e3, e4, hs8, hb8⟩ := four_new hW8
          clear hW8
          have hx8 : Rd W8 x := (hxr.up hb56).up hb8
          have hy8 : Rd W8 y := (hyr.up hb56).up hb8
          have hS8 := (hSr.below hb56).below hb8
          have hA : Rd W8 ⟨7, ⟨#[]⟩, some ⟨w6.heap.size, 0, none⟩, 2, [x, y], none, 0, []⟩ := ⟨(lit_sl (l := [x, y]) AV.enc_len e1).widen (Nat.zero_le _) (by omega), SlE.nil, by simp, fun u hu => by
            rcases List.mem_cons.1 hu with rfl | hu
            · exact hx8
            · simp at hu; subst hu; exact hy8⟩
          have hB : Rd W8 ⟨7, ⟨#[]⟩, some ⟨w6.heap.size + 1 + 1, 0, none⟩, 2, [y, x], none, 0, []⟩ := ⟨(lit_sl (l := [y, x]) AV.enc_len e3).widen (Nat.zero_le _) (by omega), SlE.nil, by simp, fun u hu => by
            rcases List.mem_cons.1 hu with rfl | hu
            · exact hy8
            · simp at hu; subst hu; exact hx8⟩
          have hvA : AV.v ⟨7, ⟨#[]⟩, some ⟨w6.heap.size, 0, none⟩, 2, [x, y], none, 0, []⟩ = two x.v y.v := by rw [AV.v_eq]; rfl
          have hvB : AV.v ⟨7, ⟨#[]⟩, some ⟨w6.heap.size + 1 + 1, 0, none⟩, 2, [y, x], none, 0, []⟩ = two y.v x.v := by rw [AV.v_eq]; rfl
          have hwA : AV.w ⟨7, ⟨#[]⟩, some ⟨w6.heap.size, 0, none⟩, 2, [x, y], none, 0, []⟩ ≤ 1048576 := by show (AV.v _).w ≤ _; rw [hvA, two_w]; omega
          have hwB : AV.w ⟨7, ⟨#[]⟩, some ⟨w6.heap.size + 1 + 1, 0, none⟩, 2, [y, x], none, 0, []⟩ ≤ 1048576 := by show (AV.v _).w ≤ _; rw [hvB, two_w]; omega
          have HCX := fun W (hb : Below W8.heap.size W8 W) => Lib.hid (show Calls Tryd.prog 30 #[.agg #[.int .u8 7, .string ⟨#[]⟩, .slice (some ⟨w6.heap.size, 0, none⟩) 2 2, .slice none 0 0], .agg #[.int .u8 7, .string ⟨#[]⟩, .slice (some ⟨w6.heap.size + 1 + 1, 0, none⟩) 2 2, .slice none 0 0]] W (Ret (.int .i64 (cmpR x.v y.v)) W) by
            have := cmp_c ⟨7, ⟨#[]⟩, some ⟨w6.heap.size, 0, none⟩, 2, [x, y], none, 0, []⟩ ⟨7, ⟨#[]⟩, some ⟨w6.heap.size + 1 + 1, 0, none⟩, 2, [y, x], none, 0, []⟩ W (hA.up hb) (hB.up hb) hwA hwB; rwa [hvA, hvB, HTC.out] at this)
          have HCV := fun W (hb : Below W8.heap.size W8 W) => Lib.hid (show Calls Tryd.prog 30 #[.agg #[.int .u8 x.k, .string x.t, .slice x.la x.l.length x.lc, .slice x.ka x.ks.length x.kc], .agg #[.int .u8 y.k, .string y.t, .slice y.la y.l.length y.lc, .slice y.ka y.ks.length y.kc]] W (Ret (.int .i64 (cmpR x.v y.v)) W) from cmp_c x y W (hx8.up hb) (hy8.up hb) hwx hwy)
          have HSA := fun W (hb : Below W8.heap.size W8 W) => Lib.hid (show Calls Tryd.prog 32 #[.agg #[.int .u8 7, .string ⟨#[]⟩, .slice (some ⟨w6.heap.size, 0, none⟩) 2 2, .slice none 0 0]] W (Ret (.int .i64 ((x.v.size : Int) + (y.v.size : Int) + 1)) W) by
            have := size_c W ⟨7, ⟨#[]⟩, some ⟨w6.heap.size, 0, none⟩, 2, [x, y], none, 0, []⟩ (hA.up hb) hwA
            rw [hvA, HM1.out, if_pos rfl, two_size] at this
            have e : ((x.v.size + y.v.size + 1 : Nat) : Int) = (x.v.size : Int) + (y.v.size : Int) + 1 := by omega
            rwa [e] at this)
          have HSX := fun W (hb : Below W8.heap.size W8 W) => Lib.hid (show Calls Tryd.prog 32 #[.agg #[.int .u8 x.k, .string x.t, .slice x.la x.l.length x.lc, .slice x.ka x.ks.length x.kc]] W (Ret (.int .i64 x.v.size) W) by
            have := size_c W x (hx8.up hb) hwx; rwa [HMM.out, if_pos rfl] at this)
          have HSY := fun W (hb : Below W8.heap.size W8 W) => Lib.hid (show Calls Tryd.prog 32 #[.agg #[.int .u8 y.k, .string y.t, .slice y.la y.l.length y.lc, .slice y.ka y.ks.length y.kc]] W (Ret (.int .i64 y.v.size) W) by
            have := size_c W y (hy8.up hb) hwy; rwa [HMN.out, if_pos rfl] at this)
          have HLV := fun W (hb : Below W8.heap.size W8 W) => Lib.hid (lives14_c W (hS8.below hb))
          have b1 : x.v.size ≤ 1500 := Nat.le_trans x.v.size_le hg1
          have b2 : y.v.size ≤ 1500 := Nat.le_trans y.v.size_le hg2
          generalize cmpR x.v y.v = r at *
          generalize x.v.size = sx at *
          generalize y.v.size = sy at *
          have hwr1 : IntKind.i64.wrap ((sx : Int) + (sy : Int)) = (sx : Int) + (sy : Int) := IntWalk.i64_in _ (by omega)
          have hwr2 : IntKind.i64.wrap ((sx : Int) + (sy : Int) + 1) = (sx : Int) + (sy : Int) + 1 := IntWalk.i64_in _ (by omega)
          have hw8 := below_via (below_via HWR.out hb56) hb8
          clear q0 q1 q2 q3 p0 p1 p2 p3
          obtain ⟨q0, q1, q2, q3, -, -, -, -⟩ := vbox4 ((hb8.block w.heap.size hl6).trans ((hb56.block w.heap.size hn1).trans KR1.out))
          obtain ⟨p0, p1, p2, p3, -, -, -, -⟩ := vbox4 ((hb8.block (w.heap.size + 1) hl7).trans ((hb56.block (w.heap.size + 1) hn2).trans KR2.out))
          obtain ⟨r0, r1, r2, r3, -, -, -, -⟩ := vbox4 e2
          obtain ⟨t0, t1, t2, t3, -, -, -, -⟩ := vbox4 e4
          have hl8 : w.heap.size < W8.heap.size := by omega
          have hl9 : w.heap.size + 1 < W8.heap.size := by omega
          have hl10 : w6.heap.size + 1 < W8.heap.size := by omega
          have hl11 : w6.heap.size + 1 + 1 + 1 < W8.heap.size := by omega
          have hN8 : W8.heap.size ≤ W8.heap.size := Nat.le_refl _
          have HW8 := Lib.hid hw8
          clear e1 e2 e3 e4 hs8 hb8 hx8 hy8 hS8 hA hB hvA hvB hwA hwB hw8 HL HDX HDY hb5 hb56 hxr hyr hSr b1 b2
          go_region_held3 (fun w' => (∀ b o, b < W8.heap.size → w'.cell? ⟨b, o, none⟩ = W8.cell? ⟨b, o, none⟩) ∧ Below W8.heap.size W8 w')
            (first | (with_reducible exact Q6.out) | (with_reducible exact Q5.out) | (with_reducible exact Q4.out) | (with_reducible exact Q3.out) | (with_reducible exact Q2.out) | (with_reducible exact Q1.out) | exact ⟨fun _ _ _ => rfl, (Below.refl _ _).drew⟩)
            (first
              | (go_at_call 30; first
                  | ((with_reducible refine (HCX _ (S.bel (by assumption))).out.mono ?_); rintro e wa ⟨rfl, hba⟩; have Q1 := Lib.hid (s_step hN8 (by assumption) hba))
                  | ((with_reducible refine (HCV _ (S.bel (by assumption))).out.mono ?_); rintro e wb ⟨rfl, hbb⟩; have Q2 := Lib.hid (s_step hN8 (by assumption) hbb)))
              | (go_at_call 32; first
                  | ((with_reducible refine (HSA _ (S.bel (by assumption))).out.mono ?_); rintro e wd ⟨rfl, hbd⟩; have Q3 := Lib.hid (s_step hN8 (by assumption) hbd))
                  | ((with_reducible refine (HSX _ (S.bel (by assumption))).out.mono ?_); rintro e we ⟨rfl, hbe⟩; have Q4 := Lib.hid (s_step hN8 (by assumption) hbe))
                  | ((with_reducible refine (HSY _ (S.bel (by assumption))).out.mono ?_); rintro e wf ⟨rfl, hbf⟩; have Q5 := Lib.hid (s_step hN8 (by assumption) hbf)))
              | (go_at_call 27; refine (HLV _ (S.bel (by assumption))).out.mono ?_; rintro e wg ⟨rfl, hbg⟩; have Q6 := Lib.hid (s_step hN8 (by assumption) hbg)))
          all_goals
            go_wp2_with fail
            go_ret
            exact ⟨rfl, below_via HW8.out Q6.out.2⟩
end Go.Proofs.YtdapimjhjnbfdaaDoor
