/-
  renames.isMap, slices.Contains at texts, renames.holders: contracts. Conditions: the trees lie in memory, their weights are bounded; strconv's table of powers holds what its initialiser lays.
-/
import Derived.Test.YtcpdogjcofkpcaaGreatDoorNB
import Derived.Test.YtcpdogjcofkpcaaGreatDoorSE
import Derived.Test.YtcpdogjcofkpcaaGreatDoorVU
namespace Go.Proofs.YtcpdogjcofkpcaaGreatDoor
open Go.RowKit Go.Sort

theorem contains_c (w : World) (A : Option Addr) (c : Nat) (ks : List ByteArray) (lo hi : Nat) (h : SlE strE 1 w lo hi A ks) (hn : ks.length ≤ 1048576) (s : ByteArray) :
    Calls Tryz.prog 118 #[.slice A ks.length c, .string s] w (Ret (.bool (decide (s ∈ ks))) w) := by
  have HI := fun W (hb : Below w.heap.size w W) => Lib.hid (index_c W A c ks lo (max hi W.heap.size) (((h.keep hb.size fun k _ _ h3 => hb.block k h3)).widen (Nat.le_refl _) (by omega)) hn s)
  have hin : s ∈ ks ↔ (idxB ks s).isSome = true := by
    cases hi : idxB ks s with
    | none => simp [idxB_none.1 hi]
    | some i => simp [List.mem_of_getElem? (idxB_some hi)]
  have HD := Lib.hid (show decide (s ∈ ks) = (idxB ks s).isSome by
    cases h : (idxB ks s).isSome with
    | true => exact decide_eq_true (hin.2 h)
    | false => exact decide_eq_false (fun hm => by rw [hin.1 hm] at h; cases h))
  clear h hin
  cases hi : idxB ks s with
  | none =>
    rw [hi] at HI HD
    clear hi
    go_enter Tryz.func118, Tryz.ntmps118
    go_wp2_with (go_at_call 99; refine (HI _ (by first | exact Below.refl _ _ | exact (Below.refl _ _).drew)).out.mono ?_; rintro e w1 ⟨rfl, rfl⟩)
    go_ret
    exact ⟨by rw [HD.out]; rfl, by first | exact Below.refl _ _ | exact (Below.refl _ _).drew⟩
  | some i =>
    rw [hi] at HI HD
    have h0 : (0 : Int) ≤ (i : Int) := by omega
    clear hi
    go_enter Tryz.func118, Tryz.ntmps118
    go_wp2_with (go_at_call 99; refine (HI _ (by first | exact Below.refl _ _ | exact (Below.refl _ _).drew)).out.mono ?_; rintro e w1 ⟨rfl, rfl⟩)
    go_ret
    exact ⟨by rw [HD.out]; rfl, by first | exact Below.refl _ _ | exact (Below.refl _ _).drew⟩
theorem ismap_c (w : World) (x : AV) (hx : Rd w x) (hw : x.w ≤ 1048576) : Calls Tryz.prog 77 #[x.val] w (Ret (.bool x.v.isMap) w) := by
  have hb0 := fun o => (Below.refl w.heap.size w).alloc (Nat.le_refl _) o
  have HM := fun W h => Lib.hid (may_c W x h hw)
  have hv : x.v.isMap = (decide (x.k = 8) && x.v.may) := by rw [Val.isMap, AV.v_k]
  have HV := Lib.hid hv
  clear hv
  by_cases h8 : x.k = 8
  · have e8 : (x.k == 8) = true := by simp [h8]
    have HE := Lib.hid (show (decide (x.k = 8) && x.v.may) = x.v.may by simp [h8])
    clear h8
    go_enter Tryz.func77, Tryz.ntmps77
    go_wp2_with (go_at_call 31; refine (HM _ (hx.up (by first | exact hb0 _ | exact (hb0 _).drew))).out.mono ?_; rintro e w2 ⟨rfl, hb⟩)
    go_ret
    exact ⟨by rw [HV.out, HE.out]; rfl, by first | exact below_via (hb0 _) hb | exact below_via (hb0 _).drew hb⟩
  · have e8 : (x.k == 8) = false := by simp [h8]
    have HE := Lib.hid (show (decide (x.k = 8) && x.v.may) = false by simp [h8])
    clear h8
    go_enter Tryz.func77, Tryz.ntmps77
    go_wp2_with fail
    go_ret
    exact ⟨by rw [HV.out, HE.out]; rfl, hb0 _⟩

/-- The candidates of some entries. -/
def candL (o : Val) (l : List (ByteArray × Val)) : List (ByteArray × ByteArray) := (l.filter fun e : ByteArray × Val => decide (e.1 ∉ o.ks ∧ 2 ≤ e.2.sz)).map fun e => (e.1, e.2.key)
theorem cand_L (v o : Val) : cand v o = candL o (v.ks.zip v.l) := rfl
theorem candL_snoc (o : Val) (l : List (ByteArray × Val)) (e : ByteArray × Val) : candL o (l ++ [e]) = if e.1 ∉ o.ks ∧ 2 ≤ e.2.sz then candL o l ++ [(e.1, e.2.key)] else candL o l := by
  unfold candL
  rw [List.filter_append]
  by_cases h : e.1 ∉ o.ks ∧ 2 ≤ e.2.sz
  · rw [if_pos h, List.filter_cons_of_pos (by simpa using h)]; simp
  · rw [if_neg h, List.filter_cons_of_neg (by simpa using h)]; simp
theorem candL_len (o : Val) (l : List (ByteArray × Val)) : (candL o l).length ≤ l.length := by
  unfold candL
  rw [List.length_map]
  exact List.length_filter_le _ _
theorem key_size {w : World} {lo hi : Nat} {x : AV} (hx : x.In w lo hi) (hw : x.w ≤ 1048576) : x.v.key.size ≤ 104857600 := by
  unfold Val.key
  split
  · have := sign_len 256 x hx hw
    have e : (⟨(signV 256 x.v).toArray⟩ : ByteArray).size = (signV 256 x.v).length := by simp [ByteArray.size]
    rw [e]; omega
  · show (0 : Nat) ≤ _; omega
theorem sz_size {x : AV} : (if x.v.may then (x.v.size : Int) else 0) = (x.v.sz : Int) := by unfold Val.sz; split <;> rfl

set_option maxRecDepth 100000 in
theorem field_h0 (a b : Value) (w : World) : (Instr.field 120 (.agg #[a, b]) 0).run Tryz.prog w = .ok a w := by rfl
set_option maxRecDepth 100000 in
theorem field_h1 (a b : Value) (w : World) : (Instr.field 120 (.agg #[a, b]) 1).run Tryz.prog w = .ok b w := by rfl
def HoldPost (C : List (ByteArray × ByteArray)) (w : World) (e : Ending) (w' : World) : Prop := ∃ B, e = .returned (.map (some B)) ∧ w.heap.size ≤ B ∧ MapH w' B C ∧ Below w.heap.size w w'
set_option maxRecDepth 100000 in
set_option maxHeartbeats 6400000 in
theorem holders_c (w : World) (x y : AV) (hx : Rd w x) (hy : Rd w y) (hwx : x.w ≤ 1048576) (hwy : y.w ≤ 1048576) (hl : x.ks.length = x.l.length) (hP : Pow w) :
    Calls Tryz.prog 78 #[x.val, y.val] w (HoldPost (cand x.v y.v) w) := by
  have hlk := x.w_ks
  have hlk2 := y.w_ks
  have hb2 : Below w.heap.size w ((w.alloc (.cells #[.int .u8 x.k, .string x.t, .slice x.la x.l.length x.lc, .slice x.ka x.ks.length x.kc] 48)).alloc (.cells #[.int .u8 y.k, .string y.t, .slice y.la y.l.length y.lc, .slice y.ka y.ks.length y.kc] 48)) := ((Below.refl _ _).alloc (Nat.le_refl _) _).alloc (by simp) _
  have hn1 : ((w.alloc (.cells #[.int .u8 x.k, .string x.t, .slice x.la x.l.length x.lc, .slice x.ka x.ks.length x.kc] 48)).alloc (.cells #[.int .u8 y.k, .string y.t, .slice y.la y.l.length y.lc, .slice y.ka y.ks.length y.kc] 48)).heap[w.heap.size]? = some (.cells #[.int .u8 x.k, .string x.t, .slice x.la x.l.length x.lc, .slice x.ka x.ks.length x.kc] 48 (0, 0)) := (Below.block ((Below.refl _ _).alloc (Nat.le_refl _) _) w.heap.size (by simp)).trans (heap_alloc_new _ _)
  have hn2 := heap_alloc_new (w.alloc (.cells #[.int .u8 x.k, .string x.t, .slice x.la x.l.length x.lc, .slice x.ka x.ks.length x.kc] 48)) (.cells #[.int .u8 y.k, .string y.t, .slice y.la y.l.length y.lc, .slice y.ka y.ks.length y.kc] 48)
  rw [World.size_alloc] at hn2
  have hs2 : ((w.alloc (.cells #[.int .u8 x.k, .string x.t, .slice x.la x.l.length x.lc, .slice x.ka x.ks.length x.kc] 48)).alloc (.cells #[.int .u8 y.k, .string y.t, .slice y.la y.l.length y.lc, .slice y.ka y.ks.length y.kc] 48)).heap.size = w.heap.size + 2 := by simp
  have hmp := MapH.made ((w.alloc (.cells #[.int .u8 x.k, .string x.t, .slice x.la x.l.length x.lc, .slice x.ka x.ks.length x.kc] 48)).alloc (.cells #[.int .u8 y.k, .string y.t, .slice y.la y.l.length y.lc, .slice y.ka y.ks.length y.kc] 48))
  rw [hs2] at hmp
  have hbm : Below (w.heap.size + 2) ((w.alloc (.cells #[.int .u8 x.k, .string x.t, .slice x.la x.l.length x.lc, .slice x.ka x.ks.length x.kc] 48)).alloc (.cells #[.int .u8 y.k, .string y.t, .slice y.la y.l.length y.lc, .slice y.ka y.ks.length y.kc] 48)) (((w.alloc (.cells #[.int .u8 x.k, .string x.t, .slice x.la x.l.length x.lc, .slice x.ka x.ks.length x.kc] 48)).alloc (.cells #[.int .u8 y.k, .string y.t, .slice y.la y.l.length y.lc, .slice y.ka y.ks.length y.kc] 48)).alloc (.map #[] 0)) := (Below.refl _ _).alloc (by omega) _
  obtain ⟨W2, hW2⟩ : ∃ W2, (w.alloc (.cells #[.int .u8 x.k, .string x.t, .slice x.la x.l.length x.lc, .slice x.ka x.ks.length x.kc] 48)).alloc (.cells #[.int .u8 y.k, .string y.t, .slice y.la y.l.length y.lc, .slice y.ka y.ks.length y.kc] 48) = W2 := ⟨_, rfl⟩
  rw [hW2] at hb2 hn1 hn2 hs2 hmp hbm
  have HW2 := Lib.hid hW2
  have HB2 := Lib.hid hb2
  have HN1 := Lib.hid hn1
  have HN2 := Lib.hid hn2
  have HS2 := Lib.hid hs2
  have HMP := Lib.hid hmp
  have HBM := Lib.hid hbm
  have HL := Lib.hid hl
  have HZ := fun (v : AV) (hv : v ∈ x.l) W (h : Below w.heap.size w W) => Lib.hid (show Calls Tryz.prog 37 #[v.val] W (Ret (.int .i64 (v.v.sz : Int)) W) by
    have := size_c W v (Rd.up (hx.kid hv) h) (by have := AV.w_kid hv; omega)
    rw [sz_size] at this
    exact this)
  have HK := fun (v : AV) (hv : v ∈ x.l) W (h : Below w.heap.size w W) => Lib.hid (key_c v W (Rd.up (hx.kid hv) h) (by have := AV.w_kid hv; omega) (hP.below h))
  have HCN := fun (s : ByteArray) W (h : Below w.heap.size w W) => Lib.hid (contains_c W y.ka y.kc y.ks 0 W.heap.size (hy.keys.up h) (by omega) s)
  have hmm := @run_makeMap Tryz.prog
  clear hW2 hb2 hn1 hn2 hs2 hmp hbm hl
  go_enter Tryz.func78, Tryz.ntmps78
  go_wp2_with fail
  clear hmm
  rw [HW2.out]
  go_loopw [13] (fun i wr => ∃ m : Nat, m ≤ x.ks.length ∧ i = .int .i64 m ∧ MapH wr (w.heap.size + 1 + 1) (candL y.v ((x.ks.zip x.v.l).take m)) ∧ Below (w.heap.size + 2) W2 wr) (fun i _ => x.ks.length - (intOf i).toNat)
  case atStart => exact ⟨0, Nat.zero_le _, rfl, HMP.out, HBM.out⟩
  case round =>
    obtain ⟨m, hm, rfl, hmap, hbr⟩ := hrel
    have hsr := hbr.size
    rw [HS2.out] at hsr
    have hbw : Below w.heap.size w wr := HB2.out.trans (hbr.mono (by omega))
    obtain ⟨q0, q1, q2, q3, -, -, -, -⟩ := vbox4 ((hbr.block w.heap.size (by omega)).trans HN1.out)
    obtain ⟨p0, p1, p2, p3, -, -, -, -⟩ := vbox4 ((hbr.block (w.heap.size + 1) (by omega)).trans HN2.out)
    have HMA := Lib.hid hmap
    have HBR := Lib.hid hbr
    have HBW := Lib.hid hbw
    have l1 : w.heap.size < wr.heap.size := by omega
    have l2 : w.heap.size + 1 < wr.heap.size := by omega
    clear hmap hbr hbw
    by_cases hlt : m < x.ks.length
    · have hml : m < x.l.length := by have := HL.out; omega
      have hk : x.ks[m]? = some x.ks[m] := List.getElem?_eq_getElem hlt
      have hv : x.l[m]? = some x.l[m] := List.getElem?_eq_getElem hml
      have hvm : x.l[m] ∈ x.l := List.getElem_mem hml
      generalize x.ks[m] = k at hk
      generalize x.l[m] = v at hv hvm
      have hsn : candL y.v ((x.ks.zip x.v.l).take (m + 1)) = if k ∉ y.ks ∧ 2 ≤ v.v.sz then candL y.v ((x.ks.zip x.v.l).take m) ++ [(k, v.v.key)] else candL y.v ((x.ks.zip x.v.l).take m) := by
        have hz : (x.ks.zip x.v.l)[m]? = some (k, v.v) := List.getElem?_zip_eq_some.2 ⟨hk, by rw [AV.v_l, List.getElem?_map, hv]; rfl⟩
        rw [List.take_add_one, hz]
        have := candL_snoc y.v ((x.ks.zip x.v.l).take m) (k, v.v)
        rw [AV.v_ks] at this
        exact this
      have hcl := candL_len y.v ((x.ks.zip x.v.l).take m)
      rw [List.length_take] at hcl
      generalize candL y.v ((x.ks.zip x.v.l).take m) = C at *
      have HSN := Lib.hid hsn
      obtain ⟨b, off, hka, -, -, g1, c1⟩ := key_at hx.keys hk
      obtain ⟨b', off', hla, -, -, g2, c2, c3, c4, c5⟩ := vals_at hx.sl hv
      rw [← HBW.out.cell (p := ⟨_, _, none⟩) g1] at c1
      rw [← HBW.out.cell (p := ⟨_, _, none⟩) g2] at c2 c3 c4 c5
      have g1' : b < wr.heap.size := Nat.lt_of_lt_of_le g1 HBW.out.size
      have g2' : b' < wr.heap.size := Nat.lt_of_lt_of_le g2 HBW.out.size
      have hlt' : (m : Int) < (x.ks.length : Int) := by omega
      have hlt2 : (m : Int) < (x.l.length : Int) := by omega
      have hm0 : (0 : Int) ≤ (m : Int) := by omega
      have hwm : IntKind.i64.wrap ((m : Int) + 1) = ((m + 1 : Nat) : Int) := by rw [IntWalk.i64_in _ (by have := x.w_l; omega)]; omega
      have HKA := Lib.hid hka
      have HLA := Lib.hid hla
      have HZv := HZ v hvm
      have HKv := HK v hvm
      have HCk := HCN k
      have hks := key_size (hx.kid hvm) (by have := AV.w_kid hvm; omega)
      rw [hka] at q3
      rw [hla] at q2
      clear hka hla hk hv hvm hsn HZ HK HCN
      rw [HKA.out]
      by_cases hin : k ∈ y.ks
      · have HS := Lib.hid (show candL y.v ((x.ks.zip x.v.l).take (m + 1)) = C by rw [HSN.out, if_neg (fun h => h.1 hin)])
        rw [decide_eq_true hin] at HCk
        clear hin
        go_wp2_with (go_at_call 118; refine (HCk _ HBW.out).out.mono ?_; rintro e w1 ⟨rfl, hb1⟩)
        exact ⟨⟨m + 1, by omega, by go_num, by rw [HS.out]; exact HMA.out.up hb1, HBR.out.trans (hb1.mono hsr)⟩, by simp [intOf]; omega⟩
      · rw [decide_eq_false hin] at HCk
        by_cases h2 : 2 ≤ v.v.sz
        · have HS := Lib.hid (show candL y.v ((x.ks.zip x.v.l).take (m + 1)) = C ++ [(k, v.v.key)] by rw [HSN.out, if_pos ⟨hin, h2⟩])
          have h2' : ¬ (v.v.sz : Int) < 2 := by omega
          have hlm : x.l.length < x.w := x.w_l
          clear hin h2
          generalize v.v.sz = z at *
          generalize v.v.key = s at *
          go_wp2_with (first
            | (go_at_call 118; refine (HCk _ HBW.out).out.mono ?_; rintro e w1 ⟨rfl, hb1⟩
               have hbw1 := below_via HBW.out hb1
               have hs1 := hb1.size
               have d1 := (hb1.cell (p := ⟨w.heap.size, 0, none⟩) l1).trans q0
               have d2 := (hb1.cell (p := ⟨w.heap.size, 2, none⟩) l1).trans q2
               have f2 := (hb1.cell (p := ⟨b', _, none⟩) g2').trans c2
               have f3 := (hb1.cell (p := ⟨b', _, none⟩) g2').trans c3
               have f4 := (hb1.cell (p := ⟨b', _, none⟩) g2').trans c4
               have f5 := (hb1.cell (p := ⟨b', _, none⟩) g2').trans c5
               have l3 : w.heap.size < w1.heap.size := Nat.lt_of_lt_of_le l1 hs1
               have l4 : b' < w1.heap.size := Nat.lt_of_lt_of_le g2' hs1)
            | (go_at_call 37; refine (HZv _ hbw1).out.mono ?_; rintro e w2 ⟨rfl, hb2⟩
               have hbw2 := below_via hbw1 hb2
               have hs2 := hb2.size
               have e2 := (hb2.cell (p := ⟨w.heap.size, 2, none⟩) l3).trans d2
               have i2 := (hb2.cell (p := ⟨b', _, none⟩) l4).trans f2
               have i3 := (hb2.cell (p := ⟨b', _, none⟩) l4).trans f3
               have i4 := (hb2.cell (p := ⟨b', _, none⟩) l4).trans f4
               have i5 := (hb2.cell (p := ⟨b', _, none⟩) l4).trans f5
               have l5 : w.heap.size < w2.heap.size := Nat.lt_of_lt_of_le l3 hs2
               have l6 : b' < w2.heap.size := Nat.lt_of_lt_of_le l4 hs2)
            | (go_at_call 43; refine (HKv _ hbw2).out.mono ?_; rintro e w3 ⟨rfl, hb3⟩
               have hm3 := ((HMA.out.up hb1).up hb2).up hb3
               have hks' : s.size ≤ Go.maxLen := by unfold Go.maxLen; omega
               have hlook := hm3.look s hks'
               obtain ⟨w4, hput, hm4, hg4⟩ := hm3.put k s hks' (by omega)
               have hhl : (hold C s).2 ≤ C.length := List.length_filter_le _ _
               have hb123 := below_via (below_via hb1 hb2) hb3
               generalize hold C s = hh at *
               obtain ⟨hk0, hn0⟩ := hh
               have hput' : (Instr.mapUpdate 117 (.map (some (w.heap.size + 1 + 1))) (.string s) (.agg #[.string k, .int .i64 ((hn0 : Int) + 1)])).run Tryz.prog w3 = .ok () w4 := hput
               have hlook' : (Instr.lookup 117 (.map (some (w.heap.size + 1 + 1))) (.string s) false).run Tryz.prog w3 = .ok (.agg #[.string hk0, .int .i64 (hn0 : Int)]) w3 := hlook
               have hwn : IntKind.i64.wrap ((hn0 : Int) + 1) = (hn0 : Int) + 1 := IntWalk.i64_in _ (by omega)
               have hfld := field_h1 (.string hk0) (.int .i64 (hn0 : Int)) w3
               have HM4 := Lib.hid hm4
               have HG4 := Lib.hid hg4
               have HB3 := Lib.hid hb123
               clear hput hlook hm4 hg4 hb123))
          exact ⟨⟨m + 1, by omega, by go_num, by rw [HS.out]; exact HM4.out, ((HBR.out.trans (HB3.out.mono hsr)).grown HG4.out (by have := HB3.out.size; omega) (fun q hq => by cases hq; omega))⟩, by simp [intOf]; omega⟩
        · have HS := Lib.hid (show candL y.v ((x.ks.zip x.v.l).take (m + 1)) = C by rw [HSN.out, if_neg (fun h => h2 h.2)])
          have h2' : (v.v.sz : Int) < 2 := by omega
          clear hin h2
          generalize v.v.sz = z at *
          go_wp2_with (first
            | (go_at_call 118; refine (HCk _ HBW.out).out.mono ?_; rintro e w1 ⟨rfl, hb1⟩
               have hbw1 := below_via HBW.out hb1
               have hs1 := hb1.size
               have d2 := (hb1.cell (p := ⟨w.heap.size, 2, none⟩) l1).trans q2
               have f2 := (hb1.cell (p := ⟨b', _, none⟩) g2').trans c2
               have f3 := (hb1.cell (p := ⟨b', _, none⟩) g2').trans c3
               have f4 := (hb1.cell (p := ⟨b', _, none⟩) g2').trans c4
               have f5 := (hb1.cell (p := ⟨b', _, none⟩) g2').trans c5
               have l3 : w.heap.size < w1.heap.size := Nat.lt_of_lt_of_le l1 hs1
               have l4 : b' < w1.heap.size := Nat.lt_of_lt_of_le g2' hs1)
            | (go_at_call 37; refine (HZv _ hbw1).out.mono ?_; rintro e w2 ⟨rfl, hb2⟩))
          have hb12 := below_via hb1 hb2
          exact ⟨⟨m + 1, by omega, by go_num, by rw [HS.out]; exact HMA.out.up hb12, HBR.out.trans (hb12.mono hsr)⟩, by simp [intOf]; omega⟩
    · obtain rfl : m = x.ks.length := by omega
      have hge : ¬ (x.ks.length : Int) < (x.ks.length : Int) := by omega
      have HF := Lib.hid (show MapH wr (w.heap.size + 1 + 1) (cand x.v y.v) by
        rw [cand_L, AV.v_ks]
        have := HMA.out
        rwa [List.take_of_length_le (by rw [List.length_zip]; exact Nat.min_le_left _ _)] at this)
      go_wp2_with fail
      go_ret
      exact ⟨w.heap.size + 1 + 1, rfl, by omega, HF.out, HBW.out⟩
end Go.Proofs.YtcpdogjcofkpcaaGreatDoor
