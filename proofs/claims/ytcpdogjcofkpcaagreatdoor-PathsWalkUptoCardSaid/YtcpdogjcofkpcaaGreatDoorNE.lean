/-
  renames.Of: contract. Conditions: the trees lie in memory, their weights are bounded; strconv's table of powers holds what its initialiser lays.
-/
import Derived.Test.YtcpdogjcofkpcaaGreatDoorND
import Derived.Test.YtcpdogjcofkpcaaGreatDoorP3
namespace Go.Proofs.YtcpdogjcofkpcaaGreatDoor
open Go.RowKit Go.Sort

theorem eql_hold (w : World) (p q : ByteArray × Nat) : (binOp .eql 120 (holdV p) (holdV q)).run Tryz.prog w = .ok (.bool (decide (p = q))) w := by
  rw [run_eql_struct]
  simp [go_sem, str_beq]
  obtain ⟨a, n⟩ := p
  obtain ⟨b, m⟩ := q
  simp only [Prod.mk.injEq]
  repeat' split
  all_goals (try simp_all) <;> omega
theorem eql_ren (w : World) (p q : ByteArray × ByteArray) : (binOp .eql 62 (renV p) (renV q)).run Tryz.prog w = .ok (.bool (decide (p = q))) w := by
  rw [run_eql_struct]
  simp [go_sem, str_beq]
  obtain ⟨a, n⟩ := p
  obtain ⟨b, m⟩ := q
  simp only [Prod.mk.injEq]
  repeat' split
  all_goals simp_all
/-- The block that a slice begins in is there, none of its cells is frozen. -/
def Unfz (w : World) (A : Option Addr) : Prop := ∀ b off, A = some ⟨b, off, none⟩ → b < w.heap.size ∧ ∀ o, w.frozen? ⟨b, o, none⟩ = false
theorem own_unfz {w : World} {base e size n m cap : Nat} {A : Option Addr} {xs : List Value} (h : w.ownsRow base e size (.slice A m cap) n xs) : Unfz w A := by
  intro b off e1
  rcases h.2 with ⟨e2, -⟩ | ⟨g, cap', cur, e2, -, hg, -⟩
  · injection e2 with e3; rw [e1] at e3; cases e3
  · injection e2 with e3
    rw [e1] at e3
    injection e3 with e3
    injection e3 with e4 e5
    subst e4
    exact ⟨lt_of_block hg, fun o => frozen_of_row w b o cur _ hg⟩
theorem Unfz.none (w : World) : Unfz w none := fun _ _ h => by cases h
/-- The renames of some entries. -/
def ofL (b x : Val) (l : List (ByteArray × Val)) : List (ByteArray × ByteArray) := l.filterMap fun e : ByteArray × Val => if hold (cand b x) e.2.key = (e.1, 1) ∧ (hold (cand x b) e.2.key).2 = 1 then some (e.1, (hold (cand x b) e.2.key).1) else none
theorem ofL_snoc (b x : Val) (l : List (ByteArray × Val)) (e : ByteArray × Val) : ofL b x (l ++ [e]) = if hold (cand b x) e.2.key = (e.1, 1) ∧ (hold (cand x b) e.2.key).2 = 1 then ofL b x l ++ [(e.1, (hold (cand x b) e.2.key).1)] else ofL b x l := by
  unfold ofL
  rw [List.filterMap_append]
  by_cases h : hold (cand b x) e.2.key = (e.1, 1) ∧ (hold (cand x b) e.2.key).2 = 1
  · rw [if_pos h]; simp [h]
  · rw [if_neg h]; simp [h]
theorem ofL_len (b x : Val) (l : List (ByteArray × Val)) : (ofL b x l).length ≤ l.length := List.length_filterMap_le _ _
/-- What Of hands back: these renames, the caller's to write into. -/
def RensPost (L : List (ByteArray × ByteArray)) (w : World) (e : Ending) (w' : World) : Prop := ∃ A c, e = .returned (.slice A L.length c) ∧ SlE renE 2 w' w.heap.size w'.heap.size A L ∧ Below w.heap.size w w' ∧ Unfz w' A

set_option maxRecDepth 100000 in
set_option maxHeartbeats 6400000 in
theorem of_c (w : World) (x y : AV) (hx : Rd w x) (hy : Rd w y) (hwx : x.w ≤ 1048576) (hwy : y.w ≤ 1048576) (hP : Pow w) :
    Calls Tryz.prog 24 #[x.val, y.val] w (RensPost (ofV x.v y.v) w) := by
  have hlk := x.w_ks
  have hlk2 := y.w_ks
  have HMX := fun W (h : Below w.heap.size w W) => Lib.hid (ismap_c W x (hx.up h) hwx)
  have HMY := fun W (h : Below w.heap.size w W) => Lib.hid (ismap_c W y (hy.up h) hwy)
  have hb0 : Below w.heap.size w ((w.alloc (.cells #[.int .u8 x.k, .string x.t, .slice x.la x.l.length x.lc, .slice x.ka x.ks.length x.kc] 48)).alloc (.cells #[.int .u8 y.k, .string y.t, .slice y.la y.l.length y.lc, .slice y.ka y.ks.length y.kc] 48)) := ((Below.refl _ _).alloc (Nat.le_refl _) _).alloc (by simp) _
  have hn1 : ((w.alloc (.cells #[.int .u8 x.k, .string x.t, .slice x.la x.l.length x.lc, .slice x.ka x.ks.length x.kc] 48)).alloc (.cells #[.int .u8 y.k, .string y.t, .slice y.la y.l.length y.lc, .slice y.ka y.ks.length y.kc] 48)).heap[w.heap.size]? = some (.cells #[.int .u8 x.k, .string x.t, .slice x.la x.l.length x.lc, .slice x.ka x.ks.length x.kc] 48 (0, 0)) := (Below.block ((Below.refl _ _).alloc (Nat.le_refl _) _) w.heap.size (by simp)).trans (heap_alloc_new _ _)
  have hn2 := heap_alloc_new (w.alloc (.cells #[.int .u8 x.k, .string x.t, .slice x.la x.l.length x.lc, .slice x.ka x.ks.length x.kc] 48)) (.cells #[.int .u8 y.k, .string y.t, .slice y.la y.l.length y.lc, .slice y.ka y.ks.length y.kc] 48)
  rw [World.size_alloc] at hn2
  have hs2 : ((w.alloc (.cells #[.int .u8 x.k, .string x.t, .slice x.la x.l.length x.lc, .slice x.ka x.ks.length x.kc] 48)).alloc (.cells #[.int .u8 y.k, .string y.t, .slice y.la y.l.length y.lc, .slice y.ka y.ks.length y.kc] 48)).heap.size = w.heap.size + 2 := by simp
  have HB0 := Lib.hid hb0
  have HN1 := Lib.hid hn1
  have HN2 := Lib.hid hn2
  have HS2 := Lib.hid hs2
  clear hb0 hn1 hn2 hs2
  cases hm1 : x.v.isMap with
  | false =>
    have HF := Lib.hid (show ofV x.v y.v = [] by unfold ofV; rw [hm1]; rfl)
    rw [hm1] at HMX
    clear hm1
    go_enter Tryz.func24, Tryz.ntmps24
    go_wp2_with (go_at_call 77; (with_reducible refine (HMX _ HB0.out).out.mono ?_); rintro e w1 ⟨rfl, hb1⟩)
    go_ret
    exact ⟨none, 0, by rw [HF.out]; rfl, by rw [HF.out]; exact .nil, below_via HB0.out hb1, Unfz.none _⟩
  | true =>
    cases hm2 : y.v.isMap with
    | false =>
      have HF := Lib.hid (show ofV x.v y.v = [] by unfold ofV; rw [hm2]; simp)
      rw [hm1] at HMX
      rw [hm2] at HMY
      clear hm1 hm2
      go_enter Tryz.func24, Tryz.ntmps24
      go_wp2_with (first
        | (go_at_call 77; first
            | ((with_reducible refine (HMX _ HB0.out).out.mono ?_); rintro e w1 ⟨rfl, hb1⟩
               have hbw1 := below_via HB0.out hb1
               have hs1 := hb1.size
               rw [HS2.out] at hs1
               have l2 : w.heap.size + 1 < w1.heap.size := by omega
               obtain ⟨p0, p1, p2, p3, -, -, -, -⟩ := vbox4 ((hb1.block (w.heap.size + 1) (by rw [HS2.out]; omega)).trans HN2.out))
            | ((with_reducible refine (HMY _ hbw1).out.mono ?_); rintro e w2 ⟨rfl, hb2⟩)))
      go_ret
      exact ⟨none, 0, by rw [HF.out]; rfl, by rw [HF.out]; exact .nil, below_via hbw1 hb2, Unfz.none _⟩
    | true =>
      have HF := Lib.hid (show ofV x.v y.v = ofL x.v y.v (x.v.ks.zip x.v.l) by unfold ofV; rw [hm1, hm2]; rfl)
      have hlx : x.ks.length = x.l.length := by have := (isMap_len hm1).1; rwa [AV.v_ks, AV.v_l, List.length_map] at this
      have hly : y.ks.length = y.l.length := by have := (isMap_len hm2).1; rwa [AV.v_ks, AV.v_l, List.length_map] at this
      have HLX := Lib.hid hlx
      have HX := fun W (h : Below w.heap.size w W) => Lib.hid (holders_c W x y (hx.up h) (hy.up h) hwx hwy hlx (hP.below h))
      have HY := fun W (h : Below w.heap.size w W) => Lib.hid (holders_c W y x (hy.up h) (hx.up h) hwy hwx hly (hP.below h))
      have HK := fun (v : AV) (hv : v ∈ x.l) W (h : Below w.heap.size w W) => Lib.hid (key_c v W (Rd.up (hx.kid hv) h) (by have := AV.w_kid hv; omega) (hP.below h))
      rw [hm1] at HMX
      rw [hm2] at HMY
      clear hm1 hm2 hlx hly
      go_enter Tryz.func24, Tryz.ntmps24
      go_wp2_with (first
        | (go_at_call 77; first
            | ((with_reducible refine (HMX _ HB0.out).out.mono ?_); rintro e w1 ⟨rfl, hb1⟩
               have hbw1 := below_via HB0.out hb1
               have hs1 := hb1.size
               rw [HS2.out] at hs1
               have l1 : w.heap.size < w1.heap.size := by omega
               have l2 : w.heap.size + 1 < w1.heap.size := by omega
               have k1 := (hb1.block w.heap.size (by rw [HS2.out]; omega)).trans HN1.out
               have k2 := (hb1.block (w.heap.size + 1) (by rw [HS2.out]; omega)).trans HN2.out
               obtain ⟨p0, p1, p2, p3, -, -, -, -⟩ := vbox4 k2)
            | ((with_reducible refine (HMY _ hbw1).out.mono ?_); rintro e w2 ⟨rfl, hb2⟩
               have hbw2 := below_via hbw1 hb2
               have hs2 := hb2.size
               have l3 : w.heap.size < w2.heap.size := by omega
               have l4 : w.heap.size + 1 < w2.heap.size := by omega
               have k3 := (hb2.block w.heap.size l1).trans k1
               have k4 := (hb2.block (w.heap.size + 1) l2).trans k2
               obtain ⟨p0, p1, p2, p3, -, -, -, -⟩ := vbox4 k4
               obtain ⟨q0, q1, q2, q3, -, -, -, -⟩ := vbox4 k3)))
      have hN : w2.heap.size ≤ w2.heap.size := Nat.le_refl _
      have K3 := Lib.hid k3
      have HBW2 := Lib.hid hbw2
      clear k1 k2 k3 k4 hb1 hb2 hbw1 hbw2 HN1 HN2
      go_region_held3 (fun w' => (∀ b o, b < w2.heap.size → w'.cell? ⟨b, o, none⟩ = w2.cell? ⟨b, o, none⟩) ∧ Below w2.heap.size w2 w')
        (first | (with_reducible exact Q2.out) | (with_reducible exact Q1.out) | exact ⟨fun _ _ _ => rfl, (Below.refl _ _).drew⟩)
        (first
          | (go_at_call 78; first
              | ((with_reducible refine (HX _ (below_via HBW2.out (And.right (by assumption)))).out.mono ?_); rintro e w3 ⟨B, rfl, hB, hmB, hb3⟩
                 have Q1 := Lib.hid (s_step hN (by assumption) hb3))
              | ((with_reducible refine (HY _ (below_via HBW2.out (And.right (by assumption)))).out.mono ?_); rintro e w4 ⟨C, rfl, hC, hmC, hb4⟩
                 have Q2 := Lib.hid (s_step hN (by assumption) hb4)
                 have hmB4 := hmB.up hb4)))
      go_wp2_with fail
      have HQ2 := Lib.hid Q2.out.2
      have HBW4 := Lib.hid (below_via HBW2.out Q2.out.2)
      have HMB := Lib.hid hmB4
      have HMC := Lib.hid hmC
      clear Q1 Q2 hmB hmB4 hmC hb3 hb4 HX HY HMX HMY hB hC
      go_loopw [4, 28] (fun s4 s28 wr => ∃ (m : Nat) (a : Option Addr) (c : Nat) (L : List (ByteArray × ByteArray)), m ≤ x.ks.length ∧ s28 = .int .i64 m ∧ L = ofL x.v y.v ((x.ks.zip x.v.l).take m) ∧ s4 = .slice a L.length c ∧ OwnRn wr w4.heap.size (.slice a L.length c) L ∧ Below w4.heap.size w4 wr) (fun _ s28 _ => x.ks.length - (intOf s28).toNat)
      case atStart => exact ⟨0, none, 0, [], Nat.zero_le _, rfl, rfl, rfl, ⟨rfl, .inl ⟨rfl, rfl⟩⟩, Below.refl _ _⟩
      case round =>
        obtain ⟨m, a, c, L, hm, rfl, hL, rfl, hown, hbr⟩ := hrel
        have hsr := hbr.size
        have hbw := below_via HBW4.out hbr
        have hll := ofL_len x.v y.v ((x.ks.zip x.v.l).take m)
        rw [← hL, List.length_take] at hll
        have hcap := own_cap hown rfl
        have kx := (hbr.block w.heap.size (by have := HQ2.out.size; omega)).trans ((HQ2.out.block w.heap.size l3).trans K3.out)
        obtain ⟨z0, z1, z2, z3, -, -, -, -⟩ := vbox4 kx
        have HOW := Lib.hid hown
        have HBR := Lib.hid hbr
        have HBW := Lib.hid hbw
        have HLL := Lib.hid hL
        have lx : w.heap.size < wr.heap.size := by have := HQ2.out.size; omega
        clear hown hbr hbw hL kx
        by_cases hlt : m < x.ks.length
        · have hml : m < x.l.length := by have := HLX.out; omega
          have hk : x.ks[m]? = some x.ks[m] := List.getElem?_eq_getElem hlt
          have hv : x.l[m]? = some x.l[m] := List.getElem?_eq_getElem hml
          have hvm : x.l[m] ∈ x.l := List.getElem_mem hml
          generalize x.ks[m] = k at hk
          generalize x.l[m] = v at hv hvm
          have hsn : ofL x.v y.v ((x.ks.zip x.v.l).take (m + 1)) = if hold (cand x.v y.v) v.v.key = (k, 1) ∧ (hold (cand y.v x.v) v.v.key).2 = 1 then L ++ [(k, (hold (cand y.v x.v) v.v.key).1)] else L := by
            have hz : (x.ks.zip x.v.l)[m]? = some (k, v.v) := List.getElem?_zip_eq_some.2 ⟨hk, by rw [AV.v_l, List.getElem?_map, hv]; rfl⟩
            rw [List.take_add_one, hz, HLL.out]
            exact ofL_snoc x.v y.v ((x.ks.zip x.v.l).take m) (k, v.v)
          have HSN := Lib.hid hsn
          obtain ⟨b, off, hka, -, -, g1, c1⟩ := key_at hx.keys hk
          obtain ⟨b', off', hla, -, -, g2, c2, c3, c4, c5⟩ := vals_at hx.sl hv
          rw [← HBW.out.cell (p := ⟨_, _, none⟩) g1] at c1
          rw [← HBW.out.cell (p := ⟨_, _, none⟩) g2] at c2 c3 c4 c5
          have g1' : b < wr.heap.size := Nat.lt_of_lt_of_le g1 HBW.out.size
          have g2' : b' < wr.heap.size := Nat.lt_of_lt_of_le g2 HBW.out.size
          have hlt' : (m : Int) < (x.ks.length : Int) := by omega
          have hlt2 : (m : Int) < (x.l.length : Int) := by omega
          have hm0 : (0 : Int) ≤ (m : Int) := by omega
          have hxl : x.l.length < x.w := x.w_l
          have hwm : IntKind.i64.wrap ((m : Int) + 1) = ((m + 1 : Nat) : Int) := by rw [IntWalk.i64_in _ (by omega)]; omega
          have HKA := Lib.hid hka
          have HLA := Lib.hid hla
          have HKv := HK v hvm
          have hks := key_size (hx.kid hvm) (by have := AV.w_kid hvm; omega)
          have hks' : v.v.key.size ≤ Go.maxLen := by unfold Go.maxLen; omega
          rw [hka] at z3
          rw [hla] at z2
          have HLB := fun W (h : Below w4.heap.size w4 W) => Lib.hid ((HMB.out.up h).look v.v.key hks')
          have HLC := fun W (h : Below w4.heap.size w4 W) => Lib.hid ((HMC.out.up h).look v.v.key hks')
          clear hka hla hk hv hvm hsn HK
          generalize v.v.key = s at *
          generalize hold (cand x.v y.v) s = p1 at *
          generalize hold (cand y.v x.v) s = p2 at *
          obtain ⟨k1, n1⟩ := p1
          obtain ⟨k2, n2⟩ := p2
          rw [HKA.out]
          have heq : ∀ W, (binOp .eql 120 (.agg #[.string k1, .int .i64 (n1 : Int)]) (.agg #[.string k, .int .i64 1])).run Tryz.prog W = .ok (.bool (decide ((k1, n1) = (k, 1)))) W := fun W => eql_hold W (k1, n1) (k, 1)
          by_cases h1 : (k1, n1) = (k, 1)
          · rw [decide_eq_true h1] at heq
            by_cases h2 : n2 = 1
            · have HS := Lib.hid (show ofL x.v y.v ((x.ks.zip x.v.l).take (m + 1)) = L ++ [(k, k2)] by rw [HSN.out, if_pos ⟨h1, h2⟩])
              have h2' : ((n2 : Int) == 1) = true := by simp [h2]
              clear h1 h2
              go_wp2_with (first
                | (go_at_call 43; refine (HKv _ HBW.out).out.mono ?_; rintro e w5 ⟨rfl, hb5⟩
                   have hs5 := hb5.size
                   have hb45 := HBR.out.trans (hb5.mono hsr)
                   have hlc : (Instr.lookup 117 (.map (some C)) (.string s) false).run Tryz.prog w5 = .ok (.agg #[.string k2, .int .i64 (n2 : Int)]) w5 := (HLC _ hb45).out
                   have hlb : (Instr.lookup 117 (.map (some B)) (.string s) false).run Tryz.prog (w5.alloc (.cells #[.string k2, .int .i64 (n2 : Int)] 120)) = .ok (.agg #[.string k1, .int .i64 (n1 : Int)]) (w5.alloc (.cells #[.string k2, .int .i64 (n2 : Int)] 120)) := (HLB _ (hb45.alloc hb45.size _)).out
                   have hlit : SlE renE 2 ((w5.alloc (.cells #[.string k2, .int .i64 (n2 : Int)] 120)).alloc (.cells #[.string k, .string k2] 62)) (w5.heap.size + 1) (w5.heap.size + 1 + 1) (some ⟨w5.heap.size + 1, 0, none⟩) [(k, k2)] := by
                     have := lit_sl (enc := renE) (size := 2) (l := [(k, k2)]) (t := 62) (fr := (0, 0)) (fun _ => rfl) (heap_alloc_new (w5.alloc (.cells #[.string k2, .int .i64 (n2 : Int)] 120)) (.cells #[.string k, .string k2] 62))
                     rwa [World.size_alloc] at this
                   obtain ⟨v', W', hrun, hown', hgr, -⟩ := app_ren (c := 1) (own_below (own_below HOW.out hb5) (((Below.refl _ _).alloc (Nat.le_refl _) _).alloc (by simp) _)) hlit (by simp; omega) (by simp; omega)
                   obtain ⟨L', hL'⟩ : ∃ L', L' = L ++ [(k, k2)] := ⟨_, rfl⟩
                   rw [← hL'] at hown'
                   have HL' := Lib.hid hL'
                   clear hL'
                   obtain ⟨a', c', rfl⟩ := own_formRn hown'
                   have HOW' := Lib.hid hown'
                   have HGR := Lib.hid hgr
                   have HB45 := Lib.hid hb45
                   clear hown' hlit hgr hb45)
                | (at_builtin; refine wl_append (s := .tmp 53) (x := .tmp 58) rfl rfl (hrun _) ?_; clear hrun))
              have hs45 := HB45.out.size
              exact ⟨⟨m + 1, a', c', L', by omega, by go_num, by rw [HL'.out, HS.out], rfl, HOW'.out, ((HB45.out.alloc hs45 _).alloc (by simp; omega) _).grown HGR.out (by simp; omega) (fun q hq => (World.ownsRow.lt HOW.out q hq).1)⟩, by simp [intOf]; omega⟩
            · have HS := Lib.hid (show ofL x.v y.v ((x.ks.zip x.v.l).take (m + 1)) = L by rw [HSN.out, if_neg (fun h => h2 h.2)])
              have h2' : ((n2 : Int) == 1) = false := by rw [beq_eq_false_iff_ne]; omega
              clear h1 h2
              go_wp2_with (first
                | (go_at_call 43; refine (HKv _ HBW.out).out.mono ?_; rintro e w5 ⟨rfl, hb5⟩
                   have hs5 := hb5.size
                   have hb45 := HBR.out.trans (hb5.mono hsr)
                   have hlc : (Instr.lookup 117 (.map (some C)) (.string s) false).run Tryz.prog w5 = .ok (.agg #[.string k2, .int .i64 (n2 : Int)]) w5 := (HLC _ hb45).out
                   have hlb : (Instr.lookup 117 (.map (some B)) (.string s) false).run Tryz.prog (w5.alloc (.cells #[.string k2, .int .i64 (n2 : Int)] 120)) = .ok (.agg #[.string k1, .int .i64 (n1 : Int)]) (w5.alloc (.cells #[.string k2, .int .i64 (n2 : Int)] 120)) := (HLB _ (hb45.alloc hb45.size _)).out))
              exact ⟨⟨m + 1, a, c, L, by omega, by go_num, by rw [HS.out], rfl, own_below (own_below HOW.out hb5) ((Below.refl _ _).alloc (Nat.le_refl _) _), hb45.alloc hb45.size _⟩, by simp [intOf]; omega⟩
          · rw [decide_eq_false h1] at heq
            have HS := Lib.hid (show ofL x.v y.v ((x.ks.zip x.v.l).take (m + 1)) = L by rw [HSN.out, if_neg (fun h => h1 h.1)])
            clear h1
            go_wp2_with (first
              | (go_at_call 43; refine (HKv _ HBW.out).out.mono ?_; rintro e w5 ⟨rfl, hb5⟩
                 have hs5 := hb5.size
                 have hb45 := HBR.out.trans (hb5.mono hsr)
                 have hlc : (Instr.lookup 117 (.map (some C)) (.string s) false).run Tryz.prog w5 = .ok (.agg #[.string k2, .int .i64 (n2 : Int)]) w5 := (HLC _ hb45).out
                 have hlb : (Instr.lookup 117 (.map (some B)) (.string s) false).run Tryz.prog (w5.alloc (.cells #[.string k2, .int .i64 (n2 : Int)] 120)) = .ok (.agg #[.string k1, .int .i64 (n1 : Int)]) (w5.alloc (.cells #[.string k2, .int .i64 (n2 : Int)] 120)) := (HLB _ (hb45.alloc hb45.size _)).out))
            exact ⟨⟨m + 1, a, c, L, by omega, by go_num, by rw [HS.out], rfl, own_below (own_below HOW.out hb5) ((Below.refl _ _).alloc (Nat.le_refl _) _), hb45.alloc hb45.size _⟩, by simp [intOf]; omega⟩
        · obtain rfl : m = x.ks.length := by omega
          have hge : ¬ (x.ks.length : Int) < (x.ks.length : Int) := by omega
          have hLF : L = ofV x.v y.v := by
            rw [HF.out, HLL.out, AV.v_ks, List.take_of_length_le (by rw [List.length_zip]; exact Nat.min_le_left _ _)]
          have HLF := Lib.hid hLF
          have HSF := Lib.hid (show SlE renE 2 wr w.heap.size wr.heap.size a L from (own_sl (enc := renE) (size := 2) (fun _ => rfl) HOW.out).widen HBW4.out.size (Nat.le_refl _))
          clear hLF
          go_wp2_with (go_at_call 79; refine (clip_ren _ _ _ _ hcap).mono ?_; rintro e w6 ⟨rfl, rfl⟩)
          go_ret
          exact ⟨a, L.length, by rw [HLF.out]; rfl, by rw [← HLF.out]; exact HSF.out, HBW.out, own_unfz HOW.out⟩
end Go.Proofs.YtcpdogjcofkpcaaGreatDoor
