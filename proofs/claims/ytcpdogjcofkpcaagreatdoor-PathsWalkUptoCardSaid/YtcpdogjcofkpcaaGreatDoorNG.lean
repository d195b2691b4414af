/-
  renames.used, renames.Used: contracts. Conditions: the trees lie in memory, their weights are bounded; strconv's table of powers holds what its initialiser lays.
  renames.Used: contract. Conditions: the trees lie in memory, their weights are bounded; strconv's table of powers holds what its initialiser lays.
-/
import Derived.Test.YtcpdogjcofkpcaaGreatDoorNE
namespace Go.Proofs.YtcpdogjcofkpcaaGreatDoor
open Go.RowKit Go.Sort

theorem usedP_snoc (b o : Val) (l : List (ByteArray × ByteArray)) (r : ByteArray × ByteArray) : usedP (l ++ [r]) b o = usedP l b o ++ usedP [r] b o := by
  unfold usedP; rw [List.filter_append]
theorem usedP_len (l : List (ByteArray × ByteArray)) (b o : Val) : (usedP l b o).length ≤ l.length := List.length_filter_le _ _
def GotS (v : Val) (w : World) (e : Ending) (w' : World) : Prop := ∃ z : AV, e = .returned (.tuple #[z.val, .bool true]) ∧ z.v = v ∧ z.In w' w.heap.size w'.heap.size ∧ Below w.heap.size w w'
def GotN (w : World) (e : Ending) (w' : World) : Prop := e = .returned (.tuple #[zAV.val, .bool false]) ∧ Below w.heap.size w w'
theorem got_s {x : AV} {s : ByteArray} {v : Val} (h : x.v.get s = some v) (w : World) (hx : Rd w x) (hw : x.w ≤ 1048576) : Calls Tryz.prog 44 #[x.val, .string s] w (GotS v w) := by
  refine (get_c x s w hx hw).mono ?_
  rintro e w' ⟨z, rfl, h1, h2, h3, h4⟩
  exact ⟨z, by rw [h]; rfl, h1 v h, h3, h4⟩
theorem got_n {x : AV} {s : ByteArray} (h : x.v.get s = none) (w : World) (hx : Rd w x) (hw : x.w ≤ 1048576) : Calls Tryz.prog 44 #[x.val, .string s] w (GotN w) := by
  refine (get_c x s w hx hw).mono ?_
  rintro e w' ⟨z, rfl, h1, h2, h3, h4⟩
  exact ⟨by rw [h, h2 h]; rfl, h4⟩
theorem got_w {x : AV} {s : ByteArray} {v : Val} (h : x.v.get s = some v) : v.w < x.w := Val.w_kid (x := x.v) (get_mem h).1
theorem box2 {w : World} {b : Nat} {u v : Value} {t : TypeId} (h : w.heap[b]? = some (.cells #[u, v] t (0, 0))) : w.cell? ⟨b, 0, none⟩ = some u ∧ w.cell? ⟨b, 1, none⟩ = some v := by
  refine ⟨?_, ?_⟩ <;> simp [World.cell?, h]
set_option maxRecDepth 100000 in
set_option maxHeartbeats 12800000 in
theorem used_c (w : World) (A : Option Addr) (cl : Nat) (L : List (ByteArray × ByteArray)) (hL : SlE renE 2 w 0 w.heap.size A L) (hLl : L.length ≤ 1048576) (x y : AV) (hx : Rd w x) (hy : Rd w y) (hwx : x.w ≤ 1048576) (hwy : y.w ≤ 1048576) (hgx : ∀ r ∈ L, ∃ v, x.v.get r.1 = some v) :
    Calls Tryz.prog 80 #[.slice A L.length cl, x.val, y.val] w (RensPost (usedP L x.v y.v) w) := by
  have hlk2 := y.w_ks
  have HSL := Lib.hid hL
  have hb0 : Below w.heap.size w ((w.alloc (.cells #[.int .u8 x.k, .string x.t, .slice x.la x.l.length x.lc, .slice x.ka x.ks.length x.kc] 48)).alloc (.cells #[.int .u8 y.k, .string y.t, .slice y.la y.l.length y.lc, .slice y.ka y.ks.length y.kc] 48)) := ((Below.refl _ _).alloc (Nat.le_refl _) _).alloc (by simp) _
  have hn1 : ((w.alloc (.cells #[.int .u8 x.k, .string x.t, .slice x.la x.l.length x.lc, .slice x.ka x.ks.length x.kc] 48)).alloc (.cells #[.int .u8 y.k, .string y.t, .slice y.la y.l.length y.lc, .slice y.ka y.ks.length y.kc] 48)).heap[w.heap.size]? = some (.cells #[.int .u8 x.k, .string x.t, .slice x.la x.l.length x.lc, .slice x.ka x.ks.length x.kc] 48 (0, 0)) := (Below.block ((Below.refl _ _).alloc (Nat.le_refl _) _) w.heap.size (by simp)).trans (heap_alloc_new _ _)
  have hn2 := heap_alloc_new (w.alloc (.cells #[.int .u8 x.k, .string x.t, .slice x.la x.l.length x.lc, .slice x.ka x.ks.length x.kc] 48)) (.cells #[.int .u8 y.k, .string y.t, .slice y.la y.l.length y.lc, .slice y.ka y.ks.length y.kc] 48)
  rw [World.size_alloc] at hn2
  have hs2 : ((w.alloc (.cells #[.int .u8 x.k, .string x.t, .slice x.la x.l.length x.lc, .slice x.ka x.ks.length x.kc] 48)).alloc (.cells #[.int .u8 y.k, .string y.t, .slice y.la y.l.length y.lc, .slice y.ka y.ks.length y.kc] 48)).heap.size = w.heap.size + 2 := by simp
  obtain ⟨W2, hW2⟩ : ∃ W2, (w.alloc (.cells #[.int .u8 x.k, .string x.t, .slice x.la x.l.length x.lc, .slice x.ka x.ks.length x.kc] 48)).alloc (.cells #[.int .u8 y.k, .string y.t, .slice y.la y.l.length y.lc, .slice y.ka y.ks.length y.kc] 48) = W2 := ⟨_, rfl⟩
  rw [hW2] at hb0 hn1 hn2 hs2
  have HW2 := Lib.hid hW2
  have HB0 := Lib.hid hb0
  have HN1 := Lib.hid hn1
  have HN2 := Lib.hid hn2
  have HS2 := Lib.hid hs2
  have HCN := fun (s : ByteArray) W (h : Below w.heap.size w W) => Lib.hid (contains_c W y.ka y.kc y.ks 0 W.heap.size (hy.keys.up h) (by omega) s)
  clear hW2 hb0 hn1 hn2 hs2 hL
  go_enter Tryz.func80, Tryz.ntmps80
  go_wp2_with fail
  rw [HW2.out]
  go_loopw [6, 15] (fun s6 s15 wr => ∃ (m : Nat) (a : Option Addr) (c : Nat) (R : List (ByteArray × ByteArray)), m ≤ L.length ∧ s15 = .int .i64 m ∧ R = usedP (L.take m) x.v y.v ∧ s6 = .slice a R.length c ∧ OwnRn wr W2.heap.size (.slice a R.length c) R ∧ Below W2.heap.size W2 wr) (fun _ s15 _ => L.length - (intOf s15).toNat)
  case atStart => exact ⟨0, none, 0, [], Nat.zero_le _, rfl, rfl, rfl, ⟨rfl, .inl ⟨rfl, rfl⟩⟩, Below.refl _ _⟩
  case round =>
    obtain ⟨m, a, c, R, hm, rfl, hR, rfl, hown, hbr⟩ := hrel
    have hsr := hbr.size
    have hbw : Below w.heap.size w wr := HB0.out.trans (hbr.mono HB0.out.size)
    have hRl := usedP_len (L.take m) x.v y.v
    rw [← hR, List.length_take] at hRl
    have hcap := own_cap hown rfl
    have kx := (hbr.block w.heap.size (by rw [HS2.out]; omega)).trans HN1.out
    have ky := (hbr.block (w.heap.size + 1) (by rw [HS2.out]; omega)).trans HN2.out
    have hs20 := HS2.out
    have l1 : w.heap.size < wr.heap.size := by omega
    have l2 : w.heap.size + 1 < wr.heap.size := by omega
    obtain ⟨q0, q1, q2, q3, -, -, -, -⟩ := vbox4 kx
    have HKX := Lib.hid kx
    have HKY := Lib.hid ky
    have HOW := Lib.hid hown
    have HBR := Lib.hid hbr
    have HBW := Lib.hid hbw
    have HRR := Lib.hid hR
    clear hown hbr hbw hR kx ky hs20
    by_cases hlt : m < L.length
    · have hk : L[m]? = some L[m] := List.getElem?_eq_getElem hlt
      have hmem : L[m] ∈ L := List.getElem_mem hlt
      generalize L[m] = r at hk hmem
      obtain ⟨v, hv⟩ := hgx r hmem
      have hsn : usedP (L.take (m + 1)) x.v y.v = R ++ usedP [r] x.v y.v := by
        rw [List.take_add_one, hk, HRR.out]
        exact usedP_snoc x.v y.v (L.take m) r
      obtain ⟨b, off, hka, -, -, g1, c1, c2⟩ := ren_at HSL.out hk
      rw [← HBW.out.cell (p := ⟨_, _, none⟩) g1] at c1 c2
      have g1' : b < wr.heap.size := Nat.lt_of_lt_of_le g1 HBW.out.size
      have hlt' : (m : Int) < (L.length : Int) := by omega
      have hm0 : (0 : Int) ≤ (m : Int) := by omega
      have hwm : IntKind.i64.wrap ((m : Int) + 1) = ((m + 1 : Nat) : Int) := by rw [IntWalk.i64_in _ (by omega)]; omega
      have HKA := Lib.hid hka
      have HSN := Lib.hid hsn
      have hvw := got_w hv
      have HGX := fun W (h : Below w.heap.size w W) => Lib.hid (got_s hv W (hx.up h) hwx)
      have hbox := heap_alloc_new wr (.cells #[.string r.1, .string r.2] 62)
      have hwb : Below w.heap.size w (wr.alloc (.cells #[.string r.1, .string r.2] 62)) := HBW.out.alloc HBW.out.size _
      have hrb : Below wr.heap.size wr (wr.alloc (.cells #[.string r.1, .string r.2] 62)) := (Below.refl _ _).alloc (Nat.le_refl _) _
      have HBOX := Lib.hid hbox
      have HWB := Lib.hid hwb
      have HRB := Lib.hid hrb
      have HCk := HCN r.2
      clear hbox hwb hrb hk hmem hka hsn hgx
      obtain ⟨f, t⟩ := r
      rw [HKA.out]
      cases hg : y.v.get f with
      | none =>
        have HS := Lib.hid (show usedP (L.take (m + 1)) x.v y.v = R by rw [HSN.out]; simp [usedP, hv, hg])
        have HGY := fun W (h : Below w.heap.size w W) => Lib.hid (got_n hg W (hy.up h) hwy)
        clear hg hv
        go_wp2_with (first
          | (go_at_call 44; first
              | ((with_reducible refine (HGX _ HWB.out).out.mono ?_); rintro e w1 ⟨z, rfl, hzv, hzi, hb1⟩
                 have hbw1 := below_via HWB.out hb1
                 have hs1 := hb1.size
                 simp only [World.size_alloc] at hs1
                 have hbr1 := below_via HRB.out hb1
                 obtain ⟨p0, p1, p2, p3, -, -, -, -⟩ := vbox4 ((hbr1.block (w.heap.size + 1) l2).trans HKY.out)
                 obtain ⟨d0, d1⟩ := box2 ((hb1.block wr.heap.size (by simp)).trans HBOX.out)
                 have l3 : w.heap.size + 1 < w1.heap.size := by omega
                 have l4 : wr.heap.size < w1.heap.size := by omega
                 have hbw1' : Below w.heap.size w (w1.alloc (.cells #[.int .u8 z.k, .string z.t, .slice z.la z.l.length z.lc, .slice z.ka z.ks.length z.kc] 48)) := hbw1.alloc hbw1.size _)
              | ((with_reducible refine (HGY _ hbw1').out.mono ?_); rintro e w2 ⟨rfl, hb2⟩
                 have hs2' := hb2.size
                 simp only [World.size_alloc] at hs2'
                 have hbr2 : Below wr.heap.size wr w2 := (hbr1.alloc hbr1.size _).trans (hb2.mono (by simp; omega)))))
        exact ⟨⟨m + 1, a, c, R, by omega, by go_num, by rw [HS.out], rfl, own_below HOW.out (hbr2.alloc hbr2.size _), HBR.out.trans ((hbr2.alloc hbr2.size _).mono hsr)⟩, by simp [intOf]; omega⟩
      | some now =>
        have hnw := got_w hg
        have HGY := fun W (h : Below w.heap.size w W) => Lib.hid (got_s hg W (hy.up h) hwy)
        have hone : usedP [(f, t)] x.v y.v = if sameV v now = false ∧ t ∉ y.ks then [(f, t)] else [] := by
          unfold usedP
          rw [List.filter_cons, hv, hg, AV.v_ks]
          by_cases h : sameV v now = false ∧ t ∉ y.ks
          · rw [if_pos h]; simp [h.1, h.2]
          · rw [if_neg h]
            by_cases h1 : sameV v now = false
            · have : t ∈ y.ks := Classical.byContradiction fun h2 => h ⟨h1, h2⟩
              simp [this]
            · simp at h1; simp [h1]
        rw [hone] at HSN
        clear hg hv hone
        cases hsm : sameV v now with
        | true =>
          have HS := Lib.hid (show usedP (L.take (m + 1)) x.v y.v = R by rw [HSN.out, hsm]; simp)
          go_wp2_with (first
            | (go_at_call 44; first
                | ((with_reducible refine (HGX _ HWB.out).out.mono ?_); rintro e w1 ⟨z, rfl, hzv, hzi, hb1⟩
                   have hbw1 := below_via HWB.out hb1
                   have hs1 := hb1.size
                   simp only [World.size_alloc] at hs1
                   have hbr1 := below_via HRB.out hb1
                   obtain ⟨p0, p1, p2, p3, -, -, -, -⟩ := vbox4 ((hbr1.block (w.heap.size + 1) l2).trans HKY.out)
                   have e1 := (hb1.block wr.heap.size (by simp)).trans HBOX.out
                   obtain ⟨d0, d1⟩ := box2 e1
                   have l3 : w.heap.size + 1 < w1.heap.size := by omega
                   have l4 : wr.heap.size < w1.heap.size := by omega
                   have hbz1 : Below w1.heap.size w1 (w1.alloc (.cells #[.int .u8 z.k, .string z.t, .slice z.la z.l.length z.lc, .slice z.ka z.ks.length z.kc] 48)) := (Below.refl _ _).alloc (Nat.le_refl _) _
                   have hnz1 := heap_alloc_new w1 (.cells #[.int .u8 z.k, .string z.t, .slice z.la z.l.length z.lc, .slice z.ka z.ks.length z.kc] 48)
                   have hbw1' : Below w.heap.size w (w1.alloc (.cells #[.int .u8 z.k, .string z.t, .slice z.la z.l.length z.lc, .slice z.ka z.ks.length z.kc] 48)) := hbw1.alloc hbw1.size _)
                | ((with_reducible refine (HGY _ hbw1').out.mono ?_); rintro e w2 ⟨z2, rfl, hzv2, hzi2, hb2⟩
                   have hs2' := hb2.size
                   simp only [World.size_alloc] at hs2'
                   have hb12 : Below w1.heap.size w1 w2 := hbz1.trans (hb2.mono (by simp))
                   have hbr2 : Below wr.heap.size wr w2 := hbr1.trans (hb12.mono hbr1.size)
                   have e2 := (hb12.block wr.heap.size l4).trans e1
                   have e3 := (hb2.block w1.heap.size (by simp)).trans hnz1
                   have ey := (hbr2.block (w.heap.size + 1) l2).trans HKY.out
                   have hnz2 := heap_alloc_new w2 (.cells #[.int .u8 z2.k, .string z2.t, .slice z2.la z2.l.length z2.lc, .slice z2.ka z2.ks.length z2.kc] 48)
                   have hbz2 : Below w2.heap.size w2 (w2.alloc (.cells #[.int .u8 z2.k, .string z2.t, .slice z2.la z2.l.length z2.lc, .slice z2.ka z2.ks.length z2.kc] 48)) := (Below.refl _ _).alloc (Nat.le_refl _) _
                   have hbw2 := below_via HBW.out hbr2
                   have hbw3 : Below w.heap.size w (w2.alloc (.cells #[.int .u8 z2.k, .string z2.t, .slice z2.la z2.l.length z2.lc, .slice z2.ka z2.ks.length z2.kc] 48)) := hbw2.alloc hbw2.size _
                   have l5 : w.heap.size + 1 < w2.heap.size := by omega
                   have l6 : wr.heap.size < w2.heap.size := by omega
                   have l7 : w1.heap.size < w2.heap.size := by omega
                   obtain ⟨s0, s1, s2, s3, -, -, -, -⟩ := vbox4 e3
                   obtain ⟨p0, p1, p2, p3, -, -, -, -⟩ := vbox4 ey
                   obtain ⟨d0, d1⟩ := box2 e2
                   have hzw : z.w ≤ 1048576 := by show z.v.w ≤ _; rw [hzv]; omega
                   have hzw2 : z2.w ≤ 1048576 := by show z2.v.w ≤ _; rw [hzv2]; omega
                   have hz1 : Rd (w2.alloc (.cells #[.int .u8 z2.k, .string z2.t, .slice z2.la z2.l.length z2.lc, .slice z2.ka z2.ks.length z2.kc] 48)) z := Rd.up (Rd.up (hzi.widen (Nat.zero_le _) (Nat.le_refl _)) hb12) hbz2
                   have hz2 : Rd (w2.alloc (.cells #[.int .u8 z2.k, .string z2.t, .slice z2.la z2.l.length z2.lc, .slice z2.ka z2.ks.length z2.kc] 48)) z2 := Rd.up (hzi2.widen (Nat.zero_le _) (Nat.le_refl _)) hbz2
                   have HSM := Lib.hid (same_c z z2 _ hz1 hz2 hzw hzw2)
                   rw [hzv, hzv2, hsm] at HSM))
            | (go_at_call 33; refine HSM.out.mono ?_; rintro e w3 ⟨rfl, hb3⟩
               have hbr3 : Below wr.heap.size wr w3 := (hbr2.alloc hbr2.size _).trans (hb3.mono (by simp; omega))
               have hs3 := hbr3.size
               have hbw3' := below_via HBW.out hbr3
               have l8 : w.heap.size + 1 < w3.heap.size := by omega
               have hs3' := hb3.size
               simp only [World.size_alloc] at hs3'
               have l9 : wr.heap.size < w3.heap.size := by omega
               have e4 := (hb3.block wr.heap.size (by simp; omega)).trans ((hbz2.block wr.heap.size l6).trans e2)
               obtain ⟨p0, p1, p2, p3, -, -, -, -⟩ := vbox4 ((hbr3.block (w.heap.size + 1) l2).trans HKY.out)
               obtain ⟨d0, d1⟩ := box2 e4))
          exact ⟨⟨m + 1, a, c, R, by omega, by go_num, by rw [HS.out], rfl, own_below HOW.out hbr3, HBR.out.trans (hbr3.mono hsr)⟩, by simp [intOf]; omega⟩
        | false =>
          by_cases hin : t ∈ y.ks
          · have HS := Lib.hid (show usedP (L.take (m + 1)) x.v y.v = R by rw [HSN.out, if_neg (fun h => h.2 hin)]; simp)
            rw [decide_eq_true hin] at HCk
            clear hin
            go_wp2_with (first
              | (go_at_call 44; first
                  | ((with_reducible refine (HGX _ HWB.out).out.mono ?_); rintro e w1 ⟨z, rfl, hzv, hzi, hb1⟩
                     have hbw1 := below_via HWB.out hb1
                     have hs1 := hb1.size
                     simp only [World.size_alloc] at hs1
                     have hbr1 := below_via HRB.out hb1
                     obtain ⟨p0, p1, p2, p3, -, -, -, -⟩ := vbox4 ((hbr1.block (w.heap.size + 1) l2).trans HKY.out)
                     have e1 := (hb1.block wr.heap.size (by simp)).trans HBOX.out
                     obtain ⟨d0, d1⟩ := box2 e1
                     have l3 : w.heap.size + 1 < w1.heap.size := by omega
                     have l4 : wr.heap.size < w1.heap.size := by omega
                     have hbz1 : Below w1.heap.size w1 (w1.alloc (.cells #[.int .u8 z.k, .string z.t, .slice z.la z.l.length z.lc, .slice z.ka z.ks.length z.kc] 48)) := (Below.refl _ _).alloc (Nat.le_refl _) _
                     have hnz1 := heap_alloc_new w1 (.cells #[.int .u8 z.k, .string z.t, .slice z.la z.l.length z.lc, .slice z.ka z.ks.length z.kc] 48)
                     have hbw1' : Below w.heap.size w (w1.alloc (.cells #[.int .u8 z.k, .string z.t, .slice z.la z.l.length z.lc, .slice z.ka z.ks.length z.kc] 48)) := hbw1.alloc hbw1.size _)
                  | ((with_reducible refine (HGY _ hbw1').out.mono ?_); rintro e w2 ⟨z2, rfl, hzv2, hzi2, hb2⟩
                     have hs2' := hb2.size
                     simp only [World.size_alloc] at hs2'
                     have hb12 : Below w1.heap.size w1 w2 := hbz1.trans (hb2.mono (by simp))
                     have hbr2 : Below wr.heap.size wr w2 := hbr1.trans (hb12.mono hbr1.size)
                     have e2 := (hb12.block wr.heap.size l4).trans e1
                     have e3 := (hb2.block w1.heap.size (by simp)).trans hnz1
                     have ey := (hbr2.block (w.heap.size + 1) l2).trans HKY.out
                     have hnz2 := heap_alloc_new w2 (.cells #[.int .u8 z2.k, .string z2.t, .slice z2.la z2.l.length z2.lc, .slice z2.ka z2.ks.length z2.kc] 48)
                     have hbz2 : Below w2.heap.size w2 (w2.alloc (.cells #[.int .u8 z2.k, .string z2.t, .slice z2.la z2.l.length z2.lc, .slice z2.ka z2.ks.length z2.kc] 48)) := (Below.refl _ _).alloc (Nat.le_refl _) _
                     have hbw2 := below_via HBW.out hbr2
                     have hbw3 : Below w.heap.size w (w2.alloc (.cells #[.int .u8 z2.k, .string z2.t, .slice z2.la z2.l.length z2.lc, .slice z2.ka z2.ks.length z2.kc] 48)) := hbw2.alloc hbw2.size _
                     have l5 : w.heap.size + 1 < w2.heap.size := by omega
                     have l6 : wr.heap.size < w2.heap.size := by omega
                     have l7 : w1.heap.size < w2.heap.size := by omega
                     obtain ⟨s0, s1, s2, s3, -, -, -, -⟩ := vbox4 e3
                     obtain ⟨p0, p1, p2, p3, -, -, -, -⟩ := vbox4 ey
                     obtain ⟨d0, d1⟩ := box2 e2
                     have hzw : z.w ≤ 1048576 := by show z.v.w ≤ _; rw [hzv]; omega
                     have hzw2 : z2.w ≤ 1048576 := by show z2.v.w ≤ _; rw [hzv2]; omega
                     have hz1 : Rd (w2.alloc (.cells #[.int .u8 z2.k, .string z2.t, .slice z2.la z2.l.length z2.lc, .slice z2.ka z2.ks.length z2.kc] 48)) z := Rd.up (Rd.up (hzi.widen (Nat.zero_le _) (Nat.le_refl _)) hb12) hbz2
                     have hz2 : Rd (w2.alloc (.cells #[.int .u8 z2.k, .string z2.t, .slice z2.la z2.l.length z2.lc, .slice z2.ka z2.ks.length z2.kc] 48)) z2 := Rd.up (hzi2.widen (Nat.zero_le _) (Nat.le_refl _)) hbz2
                     have HSM := Lib.hid (same_c z z2 _ hz1 hz2 hzw hzw2)
                     rw [hzv, hzv2, hsm] at HSM))
              | (go_at_call 33; refine HSM.out.mono ?_; rintro e w3 ⟨rfl, hb3⟩
                 have hbr3 : Below wr.heap.size wr w3 := (hbr2.alloc hbr2.size _).trans (hb3.mono (by simp; omega))
                 have hs3 := hbr3.size
                 have hbw3' := below_via HBW.out hbr3
                 have l8 : w.heap.size + 1 < w3.heap.size := by omega
                 have hs3' := hb3.size
                 simp only [World.size_alloc] at hs3'
                 have l9 : wr.heap.size < w3.heap.size := by omega
                 have e4 := (hb3.block wr.heap.size (by simp; omega)).trans ((hbz2.block wr.heap.size l6).trans e2)
                 obtain ⟨p0, p1, p2, p3, -, -, -, -⟩ := vbox4 ((hbr3.block (w.heap.size + 1) l2).trans HKY.out)
                 obtain ⟨d0, d1⟩ := box2 e4)
              | (go_at_call 118; refine (HCk _ hbw3').out.mono ?_; rintro e w4 ⟨rfl, hb4⟩
                 have hbr4 := below_via hbr3 hb4
                 have hs4 := hb4.size
                 have l10 : wr.heap.size < w4.heap.size := by omega
                 have e5 := (hb4.block wr.heap.size l9).trans e4
                 obtain ⟨d0, d1⟩ := box2 e5)
            )
            exact ⟨⟨m + 1, a, c, R, by omega, by go_num, by rw [HS.out], rfl, own_below HOW.out hbr4, HBR.out.trans (hbr4.mono hsr)⟩, by simp [intOf]; omega⟩
          · have HS := Lib.hid (show usedP (L.take (m + 1)) x.v y.v = R ++ [(f, t)] by rw [HSN.out, if_pos ⟨hsm, hin⟩])
            rw [decide_eq_false hin] at HCk
            clear hin
            go_wp2_with (first
              | (go_at_call 44; first
                  | ((with_reducible refine (HGX _ HWB.out).out.mono ?_); rintro e w1 ⟨z, rfl, hzv, hzi, hb1⟩
                     have hbw1 := below_via HWB.out hb1
                     have hs1 := hb1.size
                     simp only [World.size_alloc] at hs1
                     have hbr1 := below_via HRB.out hb1
                     obtain ⟨p0, p1, p2, p3, -, -, -, -⟩ := vbox4 ((hbr1.block (w.heap.size + 1) l2).trans HKY.out)
                     have e1 := (hb1.block wr.heap.size (by simp)).trans HBOX.out
                     obtain ⟨d0, d1⟩ := box2 e1
                     have l3 : w.heap.size + 1 < w1.heap.size := by omega
                     have l4 : wr.heap.size < w1.heap.size := by omega
                     have hbz1 : Below w1.heap.size w1 (w1.alloc (.cells #[.int .u8 z.k, .string z.t, .slice z.la z.l.length z.lc, .slice z.ka z.ks.length z.kc] 48)) := (Below.refl _ _).alloc (Nat.le_refl _) _
                     have hnz1 := heap_alloc_new w1 (.cells #[.int .u8 z.k, .string z.t, .slice z.la z.l.length z.lc, .slice z.ka z.ks.length z.kc] 48)
                     have hbw1' : Below w.heap.size w (w1.alloc (.cells #[.int .u8 z.k, .string z.t, .slice z.la z.l.length z.lc, .slice z.ka z.ks.length z.kc] 48)) := hbw1.alloc hbw1.size _)
                  | ((with_reducible refine (HGY _ hbw1').out.mono ?_); rintro e w2 ⟨z2, rfl, hzv2, hzi2, hb2⟩
                     have hs2' := hb2.size
                     simp only [World.size_alloc] at hs2'
                     have hb12 : Below w1.heap.size w1 w2 := hbz1.trans (hb2.mono (by simp))
                     have hbr2 : Below wr.heap.size wr w2 := hbr1.trans (hb12.mono hbr1.size)
                     have e2 := (hb12.block wr.heap.size l4).trans e1
                     have e3 := (hb2.block w1.heap.size (by simp)).trans hnz1
                     have ey := (hbr2.block (w.heap.size + 1) l2).trans HKY.out
                     have hnz2 := heap_alloc_new w2 (.cells #[.int .u8 z2.k, .string z2.t, .slice z2.la z2.l.length z2.lc, .slice z2.ka z2.ks.length z2.kc] 48)
                     have hbz2 : Below w2.heap.size w2 (w2.alloc (.cells #[.int .u8 z2.k, .string z2.t, .slice z2.la z2.l.length z2.lc, .slice z2.ka z2.ks.length z2.kc] 48)) := (Below.refl _ _).alloc (Nat.le_refl _) _
                     have hbw2 := below_via HBW.out hbr2
                     have hbw3 : Below w.heap.size w (w2.alloc (.cells #[.int .u8 z2.k, .string z2.t, .slice z2.la z2.l.length z2.lc, .slice z2.ka z2.ks.length z2.kc] 48)) := hbw2.alloc hbw2.size _
                     have l5 : w.heap.size + 1 < w2.heap.size := by omega
                     have l6 : wr.heap.size < w2.heap.size := by omega
                     have l7 : w1.heap.size < w2.heap.size := by omega
                     obtain ⟨s0, s1, s2, s3, -, -, -, -⟩ := vbox4 e3
                     obtain ⟨p0, p1, p2, p3, -, -, -, -⟩ := vbox4 ey
                     obtain ⟨d0, d1⟩ := box2 e2
                     have hzw : z.w ≤ 1048576 := by show z.v.w ≤ _; rw [hzv]; omega
                     have hzw2 : z2.w ≤ 1048576 := by show z2.v.w ≤ _; rw [hzv2]; omega
                     have hz1 : Rd (w2.alloc (.cells #[.int .u8 z2.k, .string z2.t, .slice z2.la z2.l.length z2.lc, .slice z2.ka z2.ks.length z2.kc] 48)) z := Rd.up (Rd.up (hzi.widen (Nat.zero_le _) (Nat.le_refl _)) hb12) hbz2
                     have hz2 : Rd (w2.alloc (.cells #[.int .u8 z2.k, .string z2.t, .slice z2.la z2.l.length z2.lc, .slice z2.ka z2.ks.length z2.kc] 48)) z2 := Rd.up (hzi2.widen (Nat.zero_le _) (Nat.le_refl _)) hbz2
                     have HSM := Lib.hid (same_c z z2 _ hz1 hz2 hzw hzw2)
                     rw [hzv, hzv2, hsm] at HSM))
              | (go_at_call 33; refine HSM.out.mono ?_; rintro e w3 ⟨rfl, hb3⟩
                 have hbr3 : Below wr.heap.size wr w3 := (hbr2.alloc hbr2.size _).trans (hb3.mono (by simp; omega))
                 have hs3 := hbr3.size
                 have hbw3' := below_via HBW.out hbr3
                 have l8 : w.heap.size + 1 < w3.heap.size := by omega
                 have hs3' := hb3.size
                 simp only [World.size_alloc] at hs3'
                 have l9 : wr.heap.size < w3.heap.size := by omega
                 have e4 := (hb3.block wr.heap.size (by simp; omega)).trans ((hbz2.block wr.heap.size l6).trans e2)
                 obtain ⟨p0, p1, p2, p3, -, -, -, -⟩ := vbox4 ((hbr3.block (w.heap.size + 1) l2).trans HKY.out)
                 obtain ⟨d0, d1⟩ := box2 e4)
              | (go_at_call 118; refine (HCk _ hbw3').out.mono ?_; rintro e w4 ⟨rfl, hb4⟩
                 have hbr4 := below_via hbr3 hb4
                 have hs4 := hb4.size
                 have l10 : wr.heap.size < w4.heap.size := by omega
                 have e5 := (hb4.block wr.heap.size l9).trans e4
                 obtain ⟨d0, d1⟩ := box2 e5
                 have hlit : SlE renE 2 (w4.alloc (.cells #[.string f, .string t] 62)) w4.heap.size (w4.heap.size + 1) (some ⟨w4.heap.size, 0, none⟩) [(f, t)] := lit_sl (enc := renE) (size := 2) (l := [(f, t)]) (t := 62) (fr := (0, 0)) (fun _ => rfl) (heap_alloc_new _ _)
                 obtain ⟨v', W', hrun, hown', hgr, -⟩ := app_ren (c := 1) (own_below (own_below HOW.out hbr4) ((Below.refl _ _).alloc (Nat.le_refl _) _)) hlit (by simp; omega) (by simp; omega)
                 obtain ⟨R', hR'⟩ : ∃ R', R' = R ++ [(f, t)] := ⟨_, rfl⟩
                 rw [← hR'] at hown'
                 have HR' := Lib.hid hR'
                 clear hR'
                 obtain ⟨a', c', rfl⟩ := own_formRn hown'
                 have HOW' := Lib.hid hown'
                 have HGR := Lib.hid hgr
                 have HBR4 := Lib.hid hbr4
                 clear hown' hlit hgr hbr4)
              | (at_builtin; refine wl_append (s := .tmp 48) (x := .tmp 50) rfl rfl (hrun _) ?_; clear hrun)
            )
            have hs45 := HBR4.out.size
            exact ⟨⟨m + 1, a', c', R', by omega, by go_num, by rw [HR'.out, HS.out], rfl, HOW'.out, (HBR.out.trans ((HBR4.out.mono hsr).alloc (by omega) _)).grown HGR.out (by simp; omega) (fun q hq => (World.ownsRow.lt HOW.out q hq).1)⟩, by simp [intOf]; omega⟩
    · obtain rfl : m = L.length := by omega
      have hge : ¬ (L.length : Int) < (L.length : Int) := by omega
      have hLF : R = usedP L x.v y.v := by rw [HRR.out, List.take_length]
      have HLF := Lib.hid hLF
      have HSF := Lib.hid (show SlE renE 2 wr w.heap.size wr.heap.size a R from (own_sl (enc := renE) (size := 2) (fun _ => rfl) HOW.out).widen HB0.out.size (Nat.le_refl _))
      clear hLF
      go_wp2_with (go_at_call 79; refine (clip_ren _ _ _ _ hcap).mono ?_; rintro e w6 ⟨rfl, rfl⟩)
      go_ret
      exact ⟨a, R.length, by rw [HLF.out]; rfl, by rw [← HLF.out]; exact HSF.out, HBW.out, own_unfz HOW.out⟩
end Go.Proofs.YtcpdogjcofkpcaaGreatDoor

namespace Go.Proofs.YtcpdogjcofkpcaaGreatDoor
open Go.RowKit Go.Sort

theorem tri_at {w W : World} {o1 o2 o3 : Obj} (hb : Below (w.heap.size + 1 + 1 + 1) (((w.alloc o1).alloc o2).alloc o3) W) : W.heap[w.heap.size]? = some o1 ∧ W.heap[w.heap.size + 1]? = some o2 ∧ W.heap[w.heap.size + 1 + 1]? = some o3 ∧ w.heap.size + 1 + 1 < W.heap.size ∧ Below w.heap.size w W := by
  have hs := hb.size
  simp only [World.size_alloc] at hs
  have h2 := heap_alloc_new (w.alloc o1) o2
  have h3 := heap_alloc_new ((w.alloc o1).alloc o2) o3
  simp only [World.size_alloc] at h2 h3
  refine ⟨(hb.block _ (by omega)).trans ?_, (hb.block _ (by omega)).trans ?_, (hb.block _ (by omega)).trans h3, by omega, ?_⟩
  · rw [heap_alloc_old _ _ _ (by simp; omega), heap_alloc_old _ _ _ (by simp)]; exact heap_alloc_new w o1
  · rw [heap_alloc_old _ _ _ (by simp)]; exact h2
  · exact (((((Below.refl _ _).alloc (Nat.le_refl _) _).alloc (by simp) _).alloc (by simp; omega) _)).trans (hb.mono (by omega))
theorem tri_0 {w : World} {o1 o2 o3 : Obj} : Below (w.heap.size + 1 + 1 + 1) (((w.alloc o1).alloc o2).alloc o3) (((w.alloc o1).alloc o2).alloc o3) := Below.refl _ _
theorem tri_b {w : World} {o1 o2 o3 : Obj} : Below w.heap.size w (((w.alloc o1).alloc o2).alloc o3) := (((Below.refl _ _).alloc (Nat.le_refl _) _).alloc (by simp) _).alloc (by simp; omega) _
theorem tri_step {N : Nat} {A W W' : World} (h : Below N A W) (hb : Below W.heap.size W W') (hN : N ≤ A.heap.size) : Below N A W' := h.trans (hb.mono (Nat.le_trans hN h.size))
theorem ofV_le (x y : AV) (hw : x.w ≤ 1048576 := by assumption) : (ofV x.v y.v).length ≤ 1048576 := by
  unfold ofV
  split
  · have h1 := ofL_len x.v y.v (x.v.ks.zip x.v.l)
    have h2 := x.w_ks
    rw [List.length_zip] at h1
    have e : x.v.ks.length = x.ks.length := by rw [AV.v_ks]
    show (ofL x.v y.v (x.v.ks.zip x.v.l)).length ≤ _
    omega
  · simp
/-- What Used hands back. -/
def UsedPost (P : List (ByteArray × ByteArray) × List (ByteArray × ByteArray)) (w : World) (e : Ending) (w' : World) : Prop :=
  ∃ A c B d, e = .returned (.tuple #[.slice A P.1.length c, .slice B P.2.length d]) ∧ SlE renE 2 w' w.heap.size w'.heap.size A P.1 ∧ SlE renE 2 w' w.heap.size w'.heap.size B P.2 ∧ Below w.heap.size w w'
set_option maxRecDepth 100000 in
set_option maxHeartbeats 3200000 in
theorem ren_used_out0 (w : World) (x y z : AV) (hx : Rd w x) (hy : Rd w y) (hz : Rd w z) (hwx : x.w ≤ 1048576) (hwy : y.w ≤ 1048576) (hwz : z.w ≤ 1048576) (h0 : x.v.isMap = false) :
    Calls Tryz.prog 25 #[x.val, y.val, z.val] w (UsedPost (usedV x.v y.v z.v) w) := by
  have HF := Lib.hid (show usedV x.v y.v z.v = ([], []) by unfold usedV; rw [h0]; simp)
  have HMX := fun W (h : Below w.heap.size w W) => Lib.hid (ismap_c W x (hx.up h) hwx)
  have HMY := fun W (h : Below w.heap.size w W) => Lib.hid (ismap_c W y (hy.up h) hwy)
  have HMZ := fun W (h : Below w.heap.size w W) => Lib.hid (ismap_c W z (hz.up h) hwz)
  have hB0 := tri_0 (w := w) (o1 := .cells #[.int .u8 x.k, .string x.t, .slice x.la x.l.length x.lc, .slice x.ka x.ks.length x.kc] 48) (o2 := .cells #[.int .u8 y.k, .string y.t, .slice y.la y.l.length y.lc, .slice y.ka y.ks.length y.kc] 48) (o3 := .cells #[.int .u8 z.k, .string z.t, .slice z.la z.l.length z.lc, .slice z.ka z.ks.length z.kc] 48)
  have hb0 := tri_b (w := w) (o1 := .cells #[.int .u8 x.k, .string x.t, .slice x.la x.l.length x.lc, .slice x.ka x.ks.length x.kc] 48) (o2 := .cells #[.int .u8 y.k, .string y.t, .slice y.la y.l.length y.lc, .slice y.ka y.ks.length y.kc] 48) (o3 := .cells #[.int .u8 z.k, .string z.t, .slice z.la z.l.length z.lc, .slice z.ka z.ks.length z.kc] 48)
  rw [h0] at HMX
  clear h0
  go_enter Tryz.func25, Tryz.ntmps25
  go_wp2_with (go_at_call 77; first
          | ((with_reducible refine (HMX _ (by assumption)).out.mono ?_); rintro e w1 ⟨rfl, hb1⟩
             have hB1 := tri_step (N := w.heap.size + 1 + 1 + 1) (by assumption) hb1 (by simp)
             obtain ⟨k1, k2, k3, k4, k5⟩ := tri_at hB1
             obtain ⟨q0, q1, q2, q3, -, -, -, -⟩ := vbox4 k1
             obtain ⟨p0, p1, p2, p3, -, -, -, -⟩ := vbox4 k2
             obtain ⟨r0, r1, r2, r3, -, -, -, -⟩ := vbox4 k3))
  refine bodyPost_ret (v := .tuple #[.slice none 0 0, .slice none 0 0]) (by simp [results, Tryz.results25, go_sem]) rfl ⟨none, 0, none, 0, by rw [HF.out]; rfl, by rw [HF.out]; exact .nil, by rw [HF.out]; exact .nil, k5⟩

set_option maxRecDepth 100000 in
set_option maxHeartbeats 3200000 in
theorem ren_used_out1 (w : World) (x y z : AV) (hx : Rd w x) (hy : Rd w y) (hz : Rd w z) (hwx : x.w ≤ 1048576) (hwy : y.w ≤ 1048576) (hwz : z.w ≤ 1048576) (h0 : x.v.isMap = true) (h1 : y.v.isMap = false) :
    Calls Tryz.prog 25 #[x.val, y.val, z.val] w (UsedPost (usedV x.v y.v z.v) w) := by
  have HF := Lib.hid (show usedV x.v y.v z.v = ([], []) by unfold usedV; rw [h0, h1]; simp)
  have HMX := fun W (h : Below w.heap.size w W) => Lib.hid (ismap_c W x (hx.up h) hwx)
  have HMY := fun W (h : Below w.heap.size w W) => Lib.hid (ismap_c W y (hy.up h) hwy)
  have HMZ := fun W (h : Below w.heap.size w W) => Lib.hid (ismap_c W z (hz.up h) hwz)
  have hB0 := tri_0 (w := w) (o1 := .cells #[.int .u8 x.k, .string x.t, .slice x.la x.l.length x.lc, .slice x.ka x.ks.length x.kc] 48) (o2 := .cells #[.int .u8 y.k, .string y.t, .slice y.la y.l.length y.lc, .slice y.ka y.ks.length y.kc] 48) (o3 := .cells #[.int .u8 z.k, .string z.t, .slice z.la z.l.length z.lc, .slice z.ka z.ks.length z.kc] 48)
  have hb0 := tri_b (w := w) (o1 := .cells #[.int .u8 x.k, .string x.t, .slice x.la x.l.length x.lc, .slice x.ka x.ks.length x.kc] 48) (o2 := .cells #[.int .u8 y.k, .string y.t, .slice y.la y.l.length y.lc, .slice y.ka y.ks.length y.kc] 48) (o3 := .cells #[.int .u8 z.k, .string z.t, .slice z.la z.l.length z.lc, .slice z.ka z.ks.length z.kc] 48)
  rw [h0] at HMX
  rw [h1] at HMY
  clear h0 h1
  go_enter Tryz.func25, Tryz.ntmps25
  go_wp2_with (go_at_call 77; first
          | ((with_reducible refine (HMX _ (by assumption)).out.mono ?_); rintro e w1 ⟨rfl, hb1⟩
             have hB1 := tri_step (N := w.heap.size + 1 + 1 + 1) (by assumption) hb1 (by simp)
             obtain ⟨k1, k2, k3, k4, k5⟩ := tri_at hB1
             obtain ⟨q0, q1, q2, q3, -, -, -, -⟩ := vbox4 k1
             obtain ⟨p0, p1, p2, p3, -, -, -, -⟩ := vbox4 k2
             obtain ⟨r0, r1, r2, r3, -, -, -, -⟩ := vbox4 k3)
          | ((with_reducible refine (HMY _ (by assumption)).out.mono ?_); rintro e w2 ⟨rfl, hb2⟩
             have hB2 := tri_step (N := w.heap.size + 1 + 1 + 1) (by assumption) hb2 (by simp)
             obtain ⟨k1, k2, k3, k4, k5⟩ := tri_at hB2
             obtain ⟨q0, q1, q2, q3, -, -, -, -⟩ := vbox4 k1
             obtain ⟨p0, p1, p2, p3, -, -, -, -⟩ := vbox4 k2
             obtain ⟨r0, r1, r2, r3, -, -, -, -⟩ := vbox4 k3))
  refine bodyPost_ret (v := .tuple #[.slice none 0 0, .slice none 0 0]) (by simp [results, Tryz.results25, go_sem]) rfl ⟨none, 0, none, 0, by rw [HF.out]; rfl, by rw [HF.out]; exact .nil, by rw [HF.out]; exact .nil, k5⟩

set_option maxRecDepth 100000 in
set_option maxHeartbeats 3200000 in
theorem ren_used_out2 (w : World) (x y z : AV) (hx : Rd w x) (hy : Rd w y) (hz : Rd w z) (hwx : x.w ≤ 1048576) (hwy : y.w ≤ 1048576) (hwz : z.w ≤ 1048576) (h0 : x.v.isMap = true) (h1 : y.v.isMap = true) (h2 : z.v.isMap = false) :
    Calls Tryz.prog 25 #[x.val, y.val, z.val] w (UsedPost (usedV x.v y.v z.v) w) := by
  have HF := Lib.hid (show usedV x.v y.v z.v = ([], []) by unfold usedV; rw [h0, h1, h2]; simp)
  have HMX := fun W (h : Below w.heap.size w W) => Lib.hid (ismap_c W x (hx.up h) hwx)
  have HMY := fun W (h : Below w.heap.size w W) => Lib.hid (ismap_c W y (hy.up h) hwy)
  have HMZ := fun W (h : Below w.heap.size w W) => Lib.hid (ismap_c W z (hz.up h) hwz)
  have hB0 := tri_0 (w := w) (o1 := .cells #[.int .u8 x.k, .string x.t, .slice x.la x.l.length x.lc, .slice x.ka x.ks.length x.kc] 48) (o2 := .cells #[.int .u8 y.k, .string y.t, .slice y.la y.l.length y.lc, .slice y.ka y.ks.length y.kc] 48) (o3 := .cells #[.int .u8 z.k, .string z.t, .slice z.la z.l.length z.lc, .slice z.ka z.ks.length z.kc] 48)
  have hb0 := tri_b (w := w) (o1 := .cells #[.int .u8 x.k, .string x.t, .slice x.la x.l.length x.lc, .slice x.ka x.ks.length x.kc] 48) (o2 := .cells #[.int .u8 y.k, .string y.t, .slice y.la y.l.length y.lc, .slice y.ka y.ks.length y.kc] 48) (o3 := .cells #[.int .u8 z.k, .string z.t, .slice z.la z.l.length z.lc, .slice z.ka z.ks.length z.kc] 48)
  rw [h0] at HMX
  rw [h1] at HMY
  rw [h2] at HMZ
  clear h0 h1 h2
  go_enter Tryz.func25, Tryz.ntmps25
  go_wp2_with (go_at_call 77; first
          | ((with_reducible refine (HMX _ (by assumption)).out.mono ?_); rintro e w1 ⟨rfl, hb1⟩
             have hB1 := tri_step (N := w.heap.size + 1 + 1 + 1) (by assumption) hb1 (by simp)
             obtain ⟨k1, k2, k3, k4, k5⟩ := tri_at hB1
             obtain ⟨q0, q1, q2, q3, -, -, -, -⟩ := vbox4 k1
             obtain ⟨p0, p1, p2, p3, -, -, -, -⟩ := vbox4 k2
             obtain ⟨r0, r1, r2, r3, -, -, -, -⟩ := vbox4 k3)
          | ((with_reducible refine (HMY _ (by assumption)).out.mono ?_); rintro e w2 ⟨rfl, hb2⟩
             have hB2 := tri_step (N := w.heap.size + 1 + 1 + 1) (by assumption) hb2 (by simp)
             obtain ⟨k1, k2, k3, k4, k5⟩ := tri_at hB2
             obtain ⟨q0, q1, q2, q3, -, -, -, -⟩ := vbox4 k1
             obtain ⟨p0, p1, p2, p3, -, -, -, -⟩ := vbox4 k2
             obtain ⟨r0, r1, r2, r3, -, -, -, -⟩ := vbox4 k3)
          | ((with_reducible refine (HMZ _ (by assumption)).out.mono ?_); rintro e w3 ⟨rfl, hb3⟩
             have hB3 := tri_step (N := w.heap.size + 1 + 1 + 1) (by assumption) hb3 (by simp)
             obtain ⟨k1, k2, k3, k4, k5⟩ := tri_at hB3
             obtain ⟨q0, q1, q2, q3, -, -, -, -⟩ := vbox4 k1
             obtain ⟨p0, p1, p2, p3, -, -, -, -⟩ := vbox4 k2
             obtain ⟨r0, r1, r2, r3, -, -, -, -⟩ := vbox4 k3))
  refine bodyPost_ret (v := .tuple #[.slice none 0 0, .slice none 0 0]) (by simp [results, Tryz.results25, go_sem]) rfl ⟨none, 0, none, 0, by rw [HF.out]; rfl, by rw [HF.out]; exact .nil, by rw [HF.out]; exact .nil, k5⟩

set_option maxRecDepth 100000 in
set_option maxHeartbeats 6400000 in
theorem ren_used_in (w : World) (x y z : AV) (hx : Rd w x) (hy : Rd w y) (hz : Rd w z) (hwx : x.w ≤ 1048576) (hwy : y.w ≤ 1048576) (hwz : z.w ≤ 1048576) (hP : Pow w) (h0 : x.v.isMap = true) (h1 : y.v.isMap = true) (h2 : z.v.isMap = true) :
    Calls Tryz.prog 25 #[x.val, y.val, z.val] w (UsedPost (usedV x.v y.v z.v) w) := by
  have HF := Lib.hid (show usedV x.v y.v z.v = (usedP (ofV x.v y.v) x.v z.v, usedP (ofV x.v z.v) x.v y.v) by unfold usedV; rw [h0, h1, h2]; rfl)
  have HMX := fun W (h : Below w.heap.size w W) => Lib.hid (ismap_c W x (hx.up h) hwx)
  have HMY := fun W (h : Below w.heap.size w W) => Lib.hid (ismap_c W y (hy.up h) hwy)
  have HMZ := fun W (h : Below w.heap.size w W) => Lib.hid (ismap_c W z (hz.up h) hwz)
  have hB0 := tri_0 (w := w) (o1 := .cells #[.int .u8 x.k, .string x.t, .slice x.la x.l.length x.lc, .slice x.ka x.ks.length x.kc] 48) (o2 := .cells #[.int .u8 y.k, .string y.t, .slice y.la y.l.length y.lc, .slice y.ka y.ks.length y.kc] 48) (o3 := .cells #[.int .u8 z.k, .string z.t, .slice z.la z.l.length z.lc, .slice z.ka z.ks.length z.kc] 48)
  have hb0 := tri_b (w := w) (o1 := .cells #[.int .u8 x.k, .string x.t, .slice x.la x.l.length x.lc, .slice x.ka x.ks.length x.kc] 48) (o2 := .cells #[.int .u8 y.k, .string y.t, .slice y.la y.l.length y.lc, .slice y.ka y.ks.length y.kc] 48) (o3 := .cells #[.int .u8 z.k, .string z.t, .slice z.la z.l.length z.lc, .slice z.ka z.ks.length z.kc] 48)
  have HO1 := fun W (h : Below w.heap.size w W) => Lib.hid (of_c W x y (hx.up h) (hy.up h) hwx hwy (hP.below h))
  have HO2 := fun W (h : Below w.heap.size w W) => Lib.hid (of_c W x z (hx.up h) (hz.up h) hwx hwz (hP.below h))
  have HU1 := fun W (h : Below w.heap.size w W) A c (hs : SlE renE 2 W 0 W.heap.size A (ofV x.v y.v)) => Lib.hid (used_c W A c (ofV x.v y.v) hs (ofV_le x y) x z (hx.up h) (hz.up h) hwx hwz (fun r hr => by obtain ⟨v, _, h, _⟩ := ofV_ren hr; exact ⟨v, h⟩))
  have HU2 := fun W (h : Below w.heap.size w W) A c (hs : SlE renE 2 W 0 W.heap.size A (ofV x.v z.v)) => Lib.hid (used_c W A c (ofV x.v z.v) hs (ofV_le x z) x y (hx.up h) (hy.up h) hwx hwy (fun r hr => by obtain ⟨v, _, h, _⟩ := ofV_ren hr; exact ⟨v, h⟩))
  rw [h0] at HMX
  rw [h1] at HMY
  rw [h2] at HMZ
  clear h0 h1 h2
  go_enter Tryz.func25, Tryz.ntmps25
  go_wp2_with (go_at_call 77; first
          | ((with_reducible refine (HMX _ (by assumption)).out.mono ?_); rintro e w1 ⟨rfl, hb1⟩
             have hB1 := tri_step (N := w.heap.size + 1 + 1 + 1) (by assumption) hb1 (by simp)
             obtain ⟨k1, k2, k3, k4, k5⟩ := tri_at hB1
             obtain ⟨q0, q1, q2, q3, -, -, -, -⟩ := vbox4 k1
             obtain ⟨p0, p1, p2, p3, -, -, -, -⟩ := vbox4 k2
             obtain ⟨r0, r1, r2, r3, -, -, -, -⟩ := vbox4 k3)
          | ((with_reducible refine (HMY _ (by assumption)).out.mono ?_); rintro e w2 ⟨rfl, hb2⟩
             have hB2 := tri_step (N := w.heap.size + 1 + 1 + 1) (by assumption) hb2 (by simp)
             obtain ⟨k1, k2, k3, k4, k5⟩ := tri_at hB2
             obtain ⟨q0, q1, q2, q3, -, -, -, -⟩ := vbox4 k1
             obtain ⟨p0, p1, p2, p3, -, -, -, -⟩ := vbox4 k2
             obtain ⟨r0, r1, r2, r3, -, -, -, -⟩ := vbox4 k3)
          | ((with_reducible refine (HMZ _ (by assumption)).out.mono ?_); rintro e w3 ⟨rfl, hb3⟩
             have hB3 := tri_step (N := w.heap.size + 1 + 1 + 1) (by assumption) hb3 (by simp)
             obtain ⟨k1, k2, k3, k4, k5⟩ := tri_at hB3
             obtain ⟨q0, q1, q2, q3, -, -, -, -⟩ := vbox4 k1
             obtain ⟨p0, p1, p2, p3, -, -, -, -⟩ := vbox4 k2
             obtain ⟨r0, r1, r2, r3, -, -, -, -⟩ := vbox4 k3))
  have hN : w3.heap.size ≤ w3.heap.size := Nat.le_refl _
  have l1 : w.heap.size < w3.heap.size := by omega
  have l2 : w.heap.size + 1 < w3.heap.size := by omega
  have HK5 := Lib.hid k5
  clear k1 k2 k3 hB0 hb0 hB1 hB2 hB3 hb1 hb2 hb3 HMX HMY HMZ
  go_region_held3 (fun w' => (∀ b o, b < w3.heap.size → w'.cell? ⟨b, o, none⟩ = w3.cell? ⟨b, o, none⟩) ∧ Below w3.heap.size w3 w')
    (first | (with_reducible exact Q4.out) | (with_reducible exact Q3.out) | (with_reducible exact Q2.out) | (with_reducible exact Q1.out) | exact ⟨fun _ _ _ => rfl, (Below.refl _ _).drew⟩)
    (first
      | (go_at_call 24; first
          | ((with_reducible refine (HO1 _ (below_via HK5.out (And.right (by assumption)))).out.mono ?_); rintro e w4 ⟨A1, c1, rfl, hs4, hb4, -⟩
             have Q1 := Lib.hid (s_step hN (by assumption) hb4)
             have hs4' := hs4.widen (Nat.zero_le _) (Nat.le_refl _))
          | ((with_reducible refine (HO2 _ (below_via HK5.out (And.right (by assumption)))).out.mono ?_); rintro e w6 ⟨A3, c3, rfl, hs6, hb6, -⟩
             have Q3 := Lib.hid (s_step hN (by assumption) hb6)
             have hs5' := hs5.below' hb6
             have hs6' := hs6.widen (Nat.zero_le _) (Nat.le_refl _)))
      | (go_at_call 80; first
          | ((with_reducible refine (HU1 _ (below_via HK5.out (And.right (by assumption))) A1 c1 hs4').out.mono ?_); rintro e w5 ⟨A2, c2, rfl, hs5, hb5, -⟩
             have hz5 := (And.right (by assumption) : Below w3.heap.size w3 w4).size
             have Q2 := Lib.hid (s_step hN (by assumption) hb5))
          | ((with_reducible refine (HU2 _ (below_via HK5.out (And.right (by assumption))) A3 c3 hs6').out.mono ?_); rintro e w7 ⟨A4, c4, rfl, hs7, hb7, -⟩
             have hz7 := (And.right (by assumption) : Below w3.heap.size w3 w6).size
             have hs5'' := hs5'.below' hb7
             have Q4 := Lib.hid (s_step hN (by assumption) hb7))))
  have hz := HK5.out.size
  have hz2 := Q4.out.2.size
  have hz6 := hb6.size
  have hz7' := hb7.size
  go_wp2_with fail
  refine bodyPost_ret (v := .tuple #[.slice A2 (usedP (ofV x.v y.v) x.v z.v).length c2, .slice A4 (usedP (ofV x.v z.v) x.v y.v).length c4]) (by simp [results, Tryz.results25, go_sem]) rfl ⟨A2, c2, A4, c4, by rw [HF.out], ?_, ?_, below_via HK5.out Q4.out.2⟩
  · rw [HF.out]; exact hs5''.widen (by omega) (by omega)
  · rw [HF.out]; exact hs7.widen (by omega) (by omega)
theorem ren_used_c (w : World) (x y z : AV) (hx : Rd w x) (hy : Rd w y) (hz : Rd w z) (hwx : x.w ≤ 1048576) (hwy : y.w ≤ 1048576) (hwz : z.w ≤ 1048576) (hP : Pow w) :
    Calls Tryz.prog 25 #[x.val, y.val, z.val] w (UsedPost (usedV x.v y.v z.v) w) := by
  cases h0 : x.v.isMap with
  | false => exact ren_used_out0 w x y z hx hy hz hwx hwy hwz h0
  | true =>
    cases h1 : y.v.isMap with
    | false => exact ren_used_out1 w x y z hx hy hz hwx hwy hwz h0 h1
    | true =>
      cases h2 : z.v.isMap with
      | false => exact ren_used_out2 w x y z hx hy hz hwx hwy hwz h0 h1 h2
      | true => exact ren_used_in w x y z hx hy hz hwx hwy hwz hP h0 h1 h2
end Go.Proofs.YtcpdogjcofkpcaaGreatDoor
