/-
  inarchref27.find, fresh, value: where a value stands first, what a side brings, a pick's value. inarchlaw27.same: are two lists of picks one? Conditions: the lists lie in memory, their elements may be, lengths and weights are bounded.
  inarchref27.Plan: the document's merged set. Conditions: the lists lie in memory, lengths and weights are bounded.
-/
import Derived.Test.YtjihepdjcbpgoaaGreatDoorYM
import Derived.Test.YtjihepdjcbpgoaaGreatDoorRC
namespace Go.Proofs.YtjihepdjcbpgoaaGreatDoor
open Go.RowKit Go.Sort

theorem rq_same {a b : Val} (ha : a.may = true) (hb : b.may = true) : sameV a b = decide (a.key = b.key) := by
  rw [sameV, ha, hb, Bool.true_and, Bool.true_and, decide_eq_decide]; exact (key_same ha hb).symm
theorem idx_first {K : List ByteArray} {s : ByteArray} {m : Nat} (h : K[m]? = some s) (hn : s ∉ K.take m) : idxI K s = (m : Int) := by rw [idxI, idxB_first h hn]
theorem idx_seen {K : List ByteArray} {s : ByteArray} {m : Nat} (hn : s ∈ K.take m) : ∃ i : Nat, idxI K s = (i : Int) ∧ i < m := by
  obtain ⟨i, hi⟩ := List.getElem?_of_mem hn
  rw [List.getElem?_take] at hi
  by_cases him : i < m
  · rw [if_pos him] at hi
    induction i using Nat.strongRecOn with
    | _ i ih =>
      by_cases hs : s ∈ K.take i
      · obtain ⟨j, hj⟩ := List.getElem?_of_mem hs
        rw [List.getElem?_take] at hj
        by_cases hji : j < i
        · rw [if_pos hji] at hj
          exact ih j hji hj (by omega)
        · rw [if_neg hji] at hj; cases hj
      · exact ⟨i, idx_first hi hs, him⟩
  · rw [if_neg him] at hi; cases hi
theorem vbox_at {w : World} {g : Nat} {v : AV} (h : w.heap[g]? = some (.cells #[.int .u8 v.k, .string v.t, .slice v.la v.l.length v.lc, .slice v.ka v.ks.length v.kc] 26 (0, 0))) : g < w.heap.size ∧ w.cell? ⟨g, 0, none⟩ = some (.int .u8 v.k) ∧ w.cell? ⟨g, 1, none⟩ = some (.string v.t) ∧ w.cell? ⟨g, 2, none⟩ = some (.slice v.la v.l.length v.lc) ∧ w.cell? ⟨g, 3, none⟩ = some (.slice v.ka v.ks.length v.kc) := by
  refine ⟨lt_of_blk h, ?_, ?_, ?_, ?_⟩ <;> simp [World.cell?, h]

set_option maxRecDepth 100000 in
set_option maxHeartbeats 3200000 in
theorem find27_c (w : World) (x : LA) (v : AV) (hx : x.Rd w) (hv : Rd w v) (hvw : v.w ≤ 1048576) (hm : ∀ u ∈ x.v, u.may = true) (hmv : v.v.may = true) :
    Calls Tryz.prog 72 #[.slice x.a x.l.length x.c, v.val] w (Ret (.int .i64 (idxI (keysV x.v) v.v.key)) w) := by
  have hxl := hx.len
  have HX := Lib.hid hx
  have HV := Lib.hid hv
  have HM := Lib.hid hm
  have hb0 : Below w.heap.size w (w.alloc (.cells #[.int .u8 v.k, .string v.t, .slice v.la v.l.length v.lc, .slice v.ka v.ks.length v.kc] 26)) := (Below.refl _ _).alloc (Nat.le_refl _) _
  have hnew : (w.alloc (.cells #[.int .u8 v.k, .string v.t, .slice v.la v.l.length v.lc, .slice v.ka v.ks.length v.kc] 26)).heap[w.heap.size]? = some (.cells #[.int .u8 v.k, .string v.t, .slice v.la v.l.length v.lc, .slice v.ka v.ks.length v.kc] 26 (0, 0)) := heap_alloc_new _ _
  have hsz : (w.alloc (.cells #[.int .u8 v.k, .string v.t, .slice v.la v.l.length v.lc, .slice v.ka v.ks.length v.kc] 26)).heap.size = w.heap.size + 1 := by simp
  have HB0 := Lib.hid hb0
  have HNEW := Lib.hid hnew
  have HSZ := Lib.hid hsz
  clear hx hv hm hb0 hnew hsz
  go_enter Tryz.func72, Tryz.ntmps72
  go_wp2_with fail
  go_loopw [5] (fun s5 wr => ∃ m : Nat, m ≤ x.l.length ∧ s5 = .int .i64 m ∧ v.v.key ∉ (keysV x.v).take m ∧ Below (w.alloc (.cells #[.int .u8 v.k, .string v.t, .slice v.la v.l.length v.lc, .slice v.ka v.ks.length v.kc] 26)).heap.size (w.alloc (.cells #[.int .u8 v.k, .string v.t, .slice v.la v.l.length v.lc, .slice v.ka v.ks.length v.kc] 26)) wr) (fun s5 _ => x.l.length - (intOf s5).toNat)
  case atStart => exact ⟨0, Nat.zero_le _, by go_num, by simp, Below.refl _ _⟩
  case round =>
    obtain ⟨m, hm, rfl, hno, hbr⟩ := hrel
    have HNO := Lib.hid hno
    have hbw : Below w.heap.size w wr := below_via HB0.out hbr
    have HBW := Lib.hid hbw
    have HBR := Lib.hid hbr
    have hsr := hbw.size
    by_cases hlt : m < x.l.length
    · have hk : x.l[m]? = some x.l[m] := List.getElem?_eq_getElem hlt
      have hmem : x.l[m] ∈ x.l := List.getElem_mem hlt
      generalize x.l[m] = q at hk hmem
      obtain ⟨b, o, hla, -, -, gb, c0, c1, c2, c3⟩ := vals_at HX.out.sl hk
      rw [← hbw.cell (p := ⟨_, _, none⟩) gb] at c0 c1 c2 c3
      obtain ⟨gl, p0, p1, p2, p3⟩ := vbox_at (v := v) ((hbr.block w.heap.size (by rw [HSZ.out]; omega)).trans HNEW.out)
      have gb' : b < wr.heap.size := by omega
      have hlt' : (m : Int) < (x.l.length : Int) := by omega
      have hm0 : (0 : Int) ≤ (m : Int) := by omega
      have hwm : IntKind.i64.wrap ((m : Int) + 1) = ((m + 1 : Nat) : Int) := by rw [IntWalk.i64_in _ (by omega)]; omega
      have hkk : (keysV x.v)[m]? = some q.v.key := by rw [keysV, LA.v, List.getElem?_map, List.getElem?_map, hk]; rfl
      have hmq : q.v.may = true := HM.out _ (by rw [LA.v]; exact List.mem_map_of_mem hmem)
      have LD := Lib.hid (fun W (h : Below wr.heap.size wr W) => And.intro
        (And.intro ((h.cell (p := ⟨b, o + m * 4, none⟩) gb').trans c0) (And.intro ((h.cell (p := ⟨b, o + m * 4 + 1, none⟩) gb').trans c1) (And.intro ((h.cell (p := ⟨b, o + m * 4 + 2, none⟩) gb').trans c2) ((h.cell (p := ⟨b, o + m * 4 + 3, none⟩) gb').trans c3))))
        (And.intro ((h.cell (p := ⟨w.heap.size, 0, none⟩) gl).trans p0) (And.intro ((h.cell (p := ⟨w.heap.size, 1, none⟩) gl).trans p1) (And.intro ((h.cell (p := ⟨w.heap.size, 2, none⟩) gl).trans p2) ((h.cell (p := ⟨w.heap.size, 3, none⟩) gl).trans p3)))))
      have HS0 := fun W (h : Below wr.heap.size wr W) => rsame_c q v W ((((HX.out.kids q hmem).1).up hbw).up h) ((HV.out.up hbw).up h) (HX.out.kids q hmem).2 hvw
      rw [rq_same hmq hmv] at HS0
      have HKK := Lib.hid hkk
      have HLA := Lib.hid hla
      clear c0 c1 c2 c3 p0 p1 p2 p3 hk hkk hmem hmq hla hbr hbw hno
      by_cases he : q.v.key = v.v.key
      · rw [decide_eq_true he] at HS0
        have HS := fun W (h : Below wr.heap.size wr W) => Lib.hid (HS0 W h)
        have HRES := Lib.hid (idx_first (he ▸ HKK.out) HNO.out)
        clear HS0 he
        rw [HLA.out]
        go_upto_region 4 with fail
        refine wp_region_bl (by kernel_rfl) (by kernel_rfl) ?_
        repeat (first | go_big_quiet_skip | (go_big_quiet_want; go_big_quiet_op; first | go_big_quiet_on | (refine ⟨_, fun _ _ => (by with_reducible rfl), ?_⟩; go_big_quiet_on) | (apply Exists.intro; refine ⟨fun w' hC => (by simp only [LD.out w' hC, Result.andThen]; exact ⟨trivial, rfl⟩), ?_⟩; go_big_quiet_on) | (apply Exists.intro; refine ⟨fun w' hC => (by (with_reducible refine (HS w' hC).out.mono ?_); exact fun e w2 ⟨he, hb⟩ => ⟨he, hC.trans (hb.mono hC.size)⟩), ?_⟩; go_big_quiet_on)))
        refine wpQuiet_nil ?_; intro wz hbz
        go_wp2_with fail
        go_ret
        exact ⟨by rw [HRES.out]; rfl, below_via HBW.out hbz⟩
      · rw [decide_eq_false he] at HS0
        have HS := fun W (h : Below wr.heap.size wr W) => Lib.hid (HS0 W h)
        have HNO2 := Lib.hid (show v.v.key ∉ (keysV x.v).take (m + 1) by
          rw [List.take_add_one, HKK.out, List.mem_append]
          rintro (h | h)
          · exact HNO.out h
          · have h2 : v.v.key = q.v.key := by simpa using h
            exact he h2.symm)
        clear HS0 he
        rw [HLA.out]
        go_upto_region 4 with fail
        refine wp_region_bl (by kernel_rfl) (by kernel_rfl) ?_
        repeat (first | go_big_quiet_skip | (go_big_quiet_want; go_big_quiet_op; first | go_big_quiet_on | (refine ⟨_, fun _ _ => (by with_reducible rfl), ?_⟩; go_big_quiet_on) | (apply Exists.intro; refine ⟨fun w' hC => (by simp only [LD.out w' hC, Result.andThen]; exact ⟨trivial, rfl⟩), ?_⟩; go_big_quiet_on) | (apply Exists.intro; refine ⟨fun w' hC => (by (with_reducible refine (HS w' hC).out.mono ?_); exact fun e w2 ⟨he, hb⟩ => ⟨he, hC.trans (hb.mono hC.size)⟩), ?_⟩; go_big_quiet_on)))
        refine wpQuiet_nil ?_; intro wz hbz
        go_wp2_with fail
        exact ⟨⟨m + 1, by omega, by go_num, HNO2.out, below_via HBR.out hbz⟩, by simp [intOf]; omega⟩
    · obtain rfl : m = x.l.length := by omega
      have hge : ¬ (x.l.length : Int) < (x.l.length : Int) := by omega
      have HRES := Lib.hid (idxI_none (ns := keysV x.v) (s := v.v.key) (by
        have h := HNO.out
        rw [show x.l.length = (keysV x.v).length by rw [keysV, LA.v, List.length_map, List.length_map], List.take_length] at h
        exact h))
      clear hbw hbr hno
      go_wp2_with fail
      go_ret
      exact ⟨by rw [HRES.out]; rfl, HBW.out⟩

/-- The document's picks, as it has them in memory. -/
theorem info_rpk : (Tryz.prog.info? 95).map (fun i => (i.zero, i.size, i.bytes)) = some (some (.agg #[.int .u8 0, .int .i64 0]), 2, 16) := by kernel_rfl
def OwnQ (w : World) (base : Nat) (v : Value) (l : List Pk) : Prop := w.ownsRow base 95 2 v l.length (l.flatMap Pk.enc)
theorem app_rpk {w : World} {base : Nat} {v : Value} {l : List Pk} (hown : OwnQ w base v l) {lo hi : Nat} {A : Option Addr} {m : List Pk} {c : Nat} (hr : SlE Pk.enc 2 w lo hi A m) (hn : l.length + m.length ≤ 16777216) (hbase : base ≤ w.heap.size) :
    ∃ v' w', (∀ ty, (Builtin.append_ #[44, 44] ty #[v, .slice A m.length c]).run Tryz.prog w = .ok v' w') ∧ OwnQ w' base v' (l ++ m) ∧ w.grownBy w' v.ownBlock ∧ (v'.ownBlock = v.ownBlock ∨ v'.ownBlock = some w.heap.size) := by
  obtain ⟨i0, hi0, hz0, hz1, hz2⟩ := info_parts info_rpk
  obtain ⟨v', w', h1, h2, h3, h4⟩ := run_append_sl (P := Tryz.prog) w Pk.enc base 44 0 95 i0 _ 2 16 Tryz.underlying44 hi0 hz0 hz1 hz2 rfl (by omega) (by omega) v l.length _ hown lo hi A m c hr (fun _ => rfl) (fun x u hu => by simp [Pk.enc] at hu; rcases hu with rfl | rfl <;> rfl) hn hbase
  exact ⟨v', w', fun ty => h1, by simp only [OwnQ, List.length_append, List.flatMap_append]; exact h2, h3, h4⟩
theorem own_formQ {w : World} {base : Nat} {v : Value} {l : List Pk} (h : OwnQ w base v l) : ∃ a c, v = .slice a l.length c := by
  rcases h.2 with ⟨e, h0⟩ | ⟨g, cap, cur, e, _⟩
  · exact ⟨none, 0, by rw [e, h0]⟩
  · exact ⟨_, _, e⟩
theorem freshK_snoc (kb K l : List ByteArray) (s : ByteArray) : freshK kb K (l ++ [s]) = if s ∉ l ∧ s ∉ K ∧ s ∉ kb then freshK kb K l ++ [s] else freshK kb K l := by
  unfold freshK
  rw [firsts_snoc]
  by_cases h : s ∈ l
  · rw [if_pos h, if_neg (by simp [h])]
  · rw [if_neg h, List.filter_append]
    by_cases h1 : s ∉ K ∧ s ∉ kb
    · rw [if_pos ⟨h, h1⟩]; simp [h1.1, h1.2]
    · rw [if_neg (fun h2 => h1 h2.2)]
      have : (decide (s ∉ K) && decide (s ∉ kb)) = false := by
        rw [← Bool.decide_and]; exact decide_eq_false h1
      simp only [List.filter_cons, this, List.filter_nil]; simp
theorem freshK_more (kb kx ky : List ByteArray) : freshK kb kx ky = moreK kb kx ky := by
  unfold freshK moreK
  refine List.filter_congr fun s _ => ?_
  rw [← Bool.decide_and]
  exact decide_eq_decide.2 And.comm
def FreshPost (side : Int) (kb K kx : List ByteArray) (w : World) (e : Ending) (w' : World) : Prop :=
  ∃ (F : List Pk) (a : Option Addr) (c : Nat), e = .returned (.slice a F.length c) ∧ F = (freshK kb K kx).map (pkS side kx) ∧ OwnQ w' w.heap.size (.slice a F.length c) F ∧ Below w.heap.size w w'
set_option maxRecDepth 100000 in
set_option maxHeartbeats 3200000 in
theorem fresh27_c (w : World) (side : Nat) (x b o : LA) (hx : x.Rd w) (hb : b.Rd w) (ho : o.Rd w) (hmx : ∀ u ∈ x.v, u.may = true) (hmb : ∀ u ∈ b.v, u.may = true) (hmo : ∀ u ∈ o.v, u.may = true) :
    Calls Tryz.prog 73 #[.int .u8 side, .slice x.a x.l.length x.c, .slice b.a b.l.length b.c, .slice o.a o.l.length o.c] w (FreshPost side (keysV b.v) (keysV o.v) (keysV x.v) w) := by
  have hxl := hx.len
  have HX := Lib.hid hx
  have HB := Lib.hid hb
  have HO := Lib.hid ho
  have HMX := Lib.hid hmx
  have HMB := Lib.hid hmb
  have HMO := Lib.hid hmo
  clear hx hb ho hmx hmb hmo
  go_enter Tryz.func73, Tryz.ntmps73
  go_wp2_with fail
  go_loopw [9, 10] (fun s9 s10 wr => ∃ (m : Nat) (F : List Pk) (a : Option Addr) (c : Nat), m ≤ x.l.length ∧ s10 = .int .i64 m ∧ s9 = .slice a F.length c ∧ F = (freshK (keysV b.v) (keysV o.v) ((keysV x.v).take m)).map (pkS side (keysV x.v)) ∧ OwnQ wr w.heap.size (.slice a F.length c) F ∧ Below w.heap.size w wr) (fun _ s10 _ => x.l.length - (intOf s10).toNat)
  case atStart => exact ⟨0, [], none, 0, Nat.zero_le _, by go_num, rfl, by simp [freshK, firsts], ⟨rfl, .inl ⟨rfl, rfl⟩⟩, Below.refl _ _⟩
  case round =>
    obtain ⟨m, F, a, c, hm, rfl, rfl, hF, hown, hbw⟩ := hrel
    have hFl : F.length ≤ m := by rw [hF, List.length_map]; exact Nat.le_trans (freshK_len _ _ _) (by rw [List.length_take]; omega)
    have HF := Lib.hid hF
    have HOW := Lib.hid hown
    have HBW := Lib.hid hbw
    have hsr := hbw.size
    by_cases hlt : m < x.l.length
    · have hk : x.l[m]? = some x.l[m] := List.getElem?_eq_getElem hlt
      have hmem : x.l[m] ∈ x.l := List.getElem_mem hlt
      generalize x.l[m] = q at hk hmem
      obtain ⟨b0, o0, hla, -, -, gb, c0, c1, c2, c3⟩ := vals_at HX.out.sl hk
      rw [← hbw.cell (p := ⟨_, _, none⟩) gb] at c0 c1 c2 c3
      have gb' : b0 < wr.heap.size := by omega
      have hlt' : (m : Int) < (x.l.length : Int) := by omega
      have hm0 : (0 : Int) ≤ (m : Int) := by omega
      have hwm : IntKind.i64.wrap ((m : Int) + 1) = ((m + 1 : Nat) : Int) := by rw [IntWalk.i64_in _ (by omega)]; omega
      have hkk : (keysV x.v)[m]? = some q.v.key := by rw [keysV, LA.v, List.getElem?_map, List.getElem?_map, hk]; rfl
      have hmq : q.v.may = true := HMX.out _ (by rw [LA.v]; exact List.mem_map_of_mem hmem)
      have LD := Lib.hid (fun W (h : Below wr.heap.size wr W) => And.intro ((h.cell (p := ⟨b0, o0 + m * 4, none⟩) gb').trans c0) (And.intro ((h.cell (p := ⟨b0, o0 + m * 4 + 1, none⟩) gb').trans c1) (And.intro ((h.cell (p := ⟨b0, o0 + m * 4 + 2, none⟩) gb').trans c2) ((h.cell (p := ⟨b0, o0 + m * 4 + 3, none⟩) gb').trans c3))))
      have hq := fun W (h : Below wr.heap.size wr W) => ((HX.out.kids q hmem).1.up hbw).up h
      have FX := fun W (h : Below wr.heap.size wr W) => Lib.hid (find27_c W x q ((HX.out.up hbw).up h) (hq W h) (HX.out.kids q hmem).2 HMX.out hmq)
      rw [hla] at FX
      have FB := fun W (h : Below wr.heap.size wr W) => Lib.hid (find27_c W b q ((HB.out.up hbw).up h) (hq W h) (HX.out.kids q hmem).2 HMB.out hmq)
      have FO := fun W (h : Below wr.heap.size wr W) => Lib.hid (find27_c W o q ((HO.out.up hbw).up h) (hq W h) (HX.out.kids q hmem).2 HMO.out hmq)
      have HS := Lib.hid (freshK_snoc (keysV b.v) (keysV o.v) ((keysV x.v).take m) q.v.key)
      have htk : (keysV x.v).take (m + 1) = (keysV x.v).take m ++ [q.v.key] := by rw [List.take_add_one, hkk]; rfl
      have HTK := Lib.hid htk
      have HKK := Lib.hid hkk
      have HLA := Lib.hid hla
      clear hk hkk hmem hmq hla hbw hq htk hF hown
      have fin : ∀ wz, Below wr.heap.size wr wz → ¬ (q.v.key ∉ (keysV x.v).take m ∧ q.v.key ∉ keysV o.v ∧ q.v.key ∉ keysV b.v) → F = (freshK (keysV b.v) (keysV o.v) ((keysV x.v).take (m + 1))).map (pkS side (keysV x.v)) ∧ OwnQ wz w.heap.size (.slice a F.length c) F ∧ Below w.heap.size w wz := fun wz hbz hn =>
        ⟨by rw [HTK.out, HS.out, if_neg hn, ← HF.out], own_below HOW.out hbz, HBW.out.trans (hbz.mono hsr)⟩
      have FIN := Lib.hid fin
      clear fin
      by_cases h1 : q.v.key ∈ (keysV x.v).take m
      · obtain ⟨i, hi, him⟩ := idx_seen h1
        rw [hi] at FX
        have g1 : ((i : Int) == (m : Int)) = false := by simp; omega
        have g2 : (i == m) = false := by simp; omega
        have FIN2 := fun wz h => FIN.out wz h (fun h => h.1 h1)
        have FX' := fun W h => Lib.hid (FX W h)
        obtain ⟨c0, c1, c2, c3⟩ := LD.out _ (Below.refl _ _)
        clear hi h1 FX
        rw [HLA.out]
        go_wp2_with (go_at_call 72; refine (FX' _ (Below.refl _ _)).out.out.mono ?_; rintro e w1 ⟨rfl, hb1⟩)
        all_goals
          obtain ⟨f1, f2, f3⟩ := FIN2 w1 hb1
          exact ⟨⟨m + 1, F, a, c, by omega, by go_num, rfl, f1, f2, f3⟩, by simp [intOf]; omega⟩
      · rw [idx_first HKK.out h1] at FX
        have FX' := fun W h => Lib.hid (FX W h)
        have hpk : pkS side (keysV x.v) q.v.key = ⟨side, (m : Int)⟩ := by rw [pkS, idx_first HKK.out h1]
        have HPK := Lib.hid hpk
        clear FX hpk
        obtain ⟨c0, c1, c2, c3⟩ := LD.out _ (Below.refl _ _)
        by_cases h2 : q.v.key ∈ keysV b.v
        · obtain ⟨i, hi, hib⟩ := idxI_bound h2
          rw [hi] at FB
          have FB' := fun W h => Lib.hid (FB W h)
          have g1 : ¬ (i : Int) < 0 := by omega
          have g2 : decide ((i : Int) < 0) = false := decide_eq_false g1
          have FIN2 := fun wz h => FIN.out wz h (fun h => h.2.2 h2)
          clear hi h1 h2 FB
          rw [HLA.out]
          go_wp2_with (go_at_call 72; first
            | ((with_reducible refine (FX' _ (Below.refl _ _)).out.out.mono ?_); rintro e w1 ⟨rfl, hb1⟩
               obtain ⟨d0, d1, d2, d3⟩ := LD.out _ hb1)
            | ((with_reducible refine (FB' _ hb1).out.out.mono ?_); rintro e w2 ⟨rfl, hb2⟩))
          all_goals
            obtain ⟨f1, f2, f3⟩ := FIN2 w2 (below_via hb1 hb2)
            exact ⟨⟨m + 1, F, a, c, by omega, by go_num, rfl, f1, f2, f3⟩, by simp [intOf]; omega⟩
        · rw [idxI_none h2] at FB
          have FB' := fun W h => Lib.hid (FB W h)
          clear FB
          by_cases h3 : q.v.key ∈ keysV o.v
          · obtain ⟨i, hi, hib⟩ := idxI_bound h3
            rw [hi] at FO
            have FO' := fun W h => Lib.hid (FO W h)
            have g1 : ¬ (i : Int) < 0 := by omega
            have g2 : decide ((i : Int) < 0) = false := decide_eq_false g1
            have FIN2 := fun wz h => FIN.out wz h (fun h => h.2.1 h3)
            clear hi h1 h2 h3 FO
            rw [HLA.out]
            go_wp2_with (go_at_call 72; first
              | ((with_reducible refine (FX' _ (Below.refl _ _)).out.out.mono ?_); rintro e w1 ⟨rfl, hb1⟩
                 obtain ⟨d0, d1, d2, d3⟩ := LD.out _ hb1)
              | ((with_reducible refine (FB' _ hb1).out.out.mono ?_); rintro e w2 ⟨rfl, hb2⟩
                 have hb12 := below_via hb1 hb2
                 obtain ⟨k0, k1, k2, k3⟩ := LD.out _ hb12)
              | ((with_reducible refine (FO' _ hb12).out.out.mono ?_); rintro e w3 ⟨rfl, hb3⟩))
            all_goals
              obtain ⟨f1, f2, f3⟩ := FIN2 w3 (below_via hb12 hb3)
              exact ⟨⟨m + 1, F, a, c, by omega, by go_num, rfl, f1, f2, f3⟩, by simp [intOf]; omega⟩
          · rw [idxI_none h3] at FO
            have FO' := fun W h => Lib.hid (FO W h)
            have HNEW := Lib.hid (show freshK (keysV b.v) (keysV o.v) ((keysV x.v).take (m + 1)) = freshK (keysV b.v) (keysV o.v) ((keysV x.v).take m) ++ [q.v.key] by rw [HTK.out, HS.out, if_pos ⟨h1, h3, h2⟩])
            clear FO h1 h2 h3 FIN
            rw [HLA.out]
            go_upto_region 6 with (go_at_call 72; first
              | ((with_reducible refine (FX' _ (Below.refl _ _)).out.out.mono ?_); rintro e w1 ⟨rfl, hb1⟩
                 obtain ⟨d0, d1, d2, d3⟩ := LD.out _ hb1)
              | ((with_reducible refine (FB' _ hb1).out.out.mono ?_); rintro e w2 ⟨rfl, hb2⟩
                 have hb12 := below_via hb1 hb2
                 obtain ⟨k0, k1, k2, k3⟩ := LD.out _ hb12)
              | ((with_reducible refine (FO' _ hb12).out.out.mono ?_); rintro e w3 ⟨rfl, hb3⟩))
            have hbz := below_via hb12 hb3
            have hown2 : OwnQ w3 w.heap.size (.slice a F.length c) F := own_below HOW.out hbz
            have hlit : SlE Pk.enc 2 (w3.alloc (.cells #[.int .u8 side, .int .i64 m] 95)) w3.heap.size (w3.heap.size + 1) (some ⟨w3.heap.size, 0, none⟩) [(⟨side, m⟩ : Pk)] := lit_sl (enc := Pk.enc) (size := 2) (l := [(⟨side, m⟩ : Pk)]) (t := 95) (fr := (0, 0)) (fun _ => rfl) (heap_alloc_new _ _)
            have hz3 := hbz.size
            obtain ⟨v', W', hrun, hown', hgr, -⟩ := app_rpk (c := 1) (own_below hown2 ((Below.refl _ _).alloc (Nat.le_refl _) _)) hlit (by simp; omega) (by rw [World.size_alloc]; omega)
            obtain ⟨F', hF'⟩ : ∃ F', F' = F ++ [(⟨side, m⟩ : Pk)] := ⟨_, rfl⟩
            rw [← hF'] at hown'
            obtain ⟨a', c', rfl⟩ := own_formQ hown'
            have HF' := Lib.hid hF'
            have HOW' := Lib.hid hown'
            have HGR := Lib.hid hgr
            have HOW2 := Lib.hid hown2
            have HBZ := Lib.hid hbz
            clear hF' hown' hgr hlit hown2 hbz
            go_wp2_with (at_builtin; refine wl_append (s := .tmp 43) (x := .tmp 47) rfl rfl (hrun _) ?_; clear hrun)
            all_goals
              refine ⟨⟨m + 1, F', a', c', by omega, by go_num, rfl, ?_, HOW'.out, ?_⟩, by simp [intOf]; omega⟩
              · rw [HF'.out, HNEW.out, List.map_append, ← HF.out, List.map_cons, List.map_nil, HPK.out]
              · exact ((HBW.out.trans (HBZ.out.mono hsr)).alloc (by omega) _).grown HGR.out (by rw [World.size_alloc]; omega) (fun g hg => (World.ownsRow.lt HOW2.out g hg).1)
    · obtain rfl : m = x.l.length := by omega
      have hge : ¬ (x.l.length : Int) < (x.l.length : Int) := by omega
      have hF2 := HF.out
      rw [show x.l.length = (keysV x.v).length by rw [keysV, LA.v, List.length_map, List.length_map], List.take_length] at hF2
      have HF2 := Lib.hid hF2
      clear hF hF2 hown hbw
      go_wp2_with fail
      go_ret
      exact ⟨F, a, c, rfl, HF2.out, HOW.out, HBW.out⟩

/-- A pick's value, of left or right. -/
def lrV {α : Type} (l r : List α) (p : Pk) : Option α := if p.at_ < 0 then none else if p.side = 1 then l[p.at_.toNat]? else r[p.at_.toNat]?
set_option maxRecDepth 100000 in
set_option maxHeartbeats 3200000 in
theorem value27_c (w : World) (y z : LA) (hy : y.Rd w) (hz : z.Rd w) (p : Pk) (u : AV) (hp : lrV y.l z.l p = some u) :
    Calls Tryz.prog 74 #[p.val, .slice y.a y.l.length y.c, .slice z.a z.l.length z.c] w (Ret u.val w) := by
  obtain ⟨sd, at_⟩ := p
  have h0 : 0 ≤ at_ := by
    unfold lrV at hp
    by_cases h : at_ < 0
    · rw [if_pos h] at hp; cases hp
    · omega
  obtain ⟨i, rfl⟩ : ∃ i : Nat, at_ = i := ⟨at_.toNat, by omega⟩
  obtain ⟨q, hq, hk, hsd⟩ : ∃ q : LA, q.Rd w ∧ q.l[i]? = some u ∧ ((sd = 1 ∧ q = y) ∨ (sd ≠ 1 ∧ q = z)) := by
    unfold lrV at hp
    rw [if_neg (by simp)] at hp
    by_cases h1 : sd = 1
    · rw [if_pos h1] at hp; exact ⟨y, hy, by simpa using hp, .inl ⟨h1, rfl⟩⟩
    · rw [if_neg h1] at hp; exact ⟨z, hz, by simpa using hp, .inr ⟨h1, rfl⟩⟩
  have hql := hq.len
  have hlt : i < q.l.length := (List.getElem?_eq_some_iff.1 hk).1
  obtain ⟨b, off, hla, -, -, hb2, c0, c1, c2, c3⟩ := vals_at hq.sl hk
  have hlt' : (i : Int) < (q.l.length : Int) := by omega
  have hi0 : (0 : Int) ≤ (i : Int) := by omega
  have HLA := Lib.hid hla
  clear hq hk hp hy hz hla h0
  rcases hsd with ⟨rfl, rfl⟩ | ⟨h1, rfl⟩
  · rw [HLA.out]
    go_enter Tryz.func74, Tryz.ntmps74
    go_wp2_with fail
    refine bodyPost_ret (v := u.val) (by simp [results, Tryz.results74, go_sem]) rfl ⟨rfl, (by repeat (first | exact Below.refl _ _ | refine Below.drew ?_ | refine below_drewN ?_ _ | refine Below.setCell ?_ (by first | omega | (simp; done) | (simp; omega)) _ | refine Below.alloc ?_ (by first | omega | (simp; done) | (simp; omega)) _))⟩
  · have g1 : (sd == 1) = false := by simpa using h1
    rw [HLA.out]
    clear h1
    go_enter Tryz.func74, Tryz.ntmps74
    go_wp2_with fail
    refine bodyPost_ret (v := u.val) (by simp [results, Tryz.results74, go_sem]) rfl ⟨rfl, (by repeat (first | exact Below.refl _ _ | refine Below.drew ?_ | refine below_drewN ?_ _ | refine Below.setCell ?_ (by first | omega | (simp; done) | (simp; omega)) _ | refine Below.alloc ?_ (by first | omega | (simp; done) | (simp; omega)) _))⟩

set_option maxRecDepth 100000 in
set_option maxHeartbeats 3200000 in
theorem same27_c (w : World) (A B : Option Addr) (c1 c2 : Nat) (P : List Pk) (hA : SlE Pk.enc 2 w 0 w.heap.size A P) (hB : SlE Pk.enc 2 w 0 w.heap.size B P) (hl : P.length ≤ 16777216) :
    Calls Tryz.prog 35 #[.slice A P.length c1, .slice B P.length c2] w (Ret (.bool true) w) := by
  have HA := Lib.hid hA
  have HB := Lib.hid hB
  clear hA hB
  go_enter Tryz.func35, Tryz.ntmps35
  go_wp2_with fail
  go_loopw [5] (fun s5 wr => ∃ m : Nat, m ≤ P.length ∧ s5 = .int .i64 m ∧ Below w.heap.size w wr) (fun s5 _ => P.length - (intOf s5).toNat)
  case atStart => exact ⟨0, Nat.zero_le _, by go_num, Below.refl _ _⟩
  case round =>
    obtain ⟨m, hm, rfl, hbw⟩ := hrel
    have HBW := Lib.hid hbw
    have hsr := hbw.size
    by_cases hlt : m < P.length
    · have hk : P[m]? = some P[m] := List.getElem?_eq_getElem hlt
      generalize P[m] = p at hk
      obtain ⟨b, o, hla, -, -, gb, c0, c1⟩ := pk_at HA.out hk
      obtain ⟨b', o', hlb, -, -, gb', d0, d1⟩ := pk_at HB.out hk
      rw [← hbw.cell (p := ⟨_, _, none⟩) gb] at c0 c1
      rw [← hbw.cell (p := ⟨_, _, none⟩) gb'] at d0 d1
      have g1 : b < wr.heap.size := by omega
      have g2 : b' < wr.heap.size := by omega
      have hlt' : (m : Int) < (P.length : Int) := by omega
      have hm0 : (0 : Int) ≤ (m : Int) := by omega
      have hwm : IntKind.i64.wrap ((m : Int) + 1) = ((m + 1 : Nat) : Int) := by rw [IntWalk.i64_in _ (by omega)]; omega
      have LD := Lib.hid (fun W (h : Below wr.heap.size wr W) => And.intro
        (And.intro ((h.cell (p := ⟨b, o + m * 2, none⟩) g1).trans c0) ((h.cell (p := ⟨b, o + m * 2 + 1, none⟩) g1).trans c1))
        (And.intro ((h.cell (p := ⟨b', o' + m * 2, none⟩) g2).trans d0) ((h.cell (p := ⟨b', o' + m * 2 + 1, none⟩) g2).trans d1)))
      clear hk c0 c1 d0 d1 hbw
      subst hla hlb
      go_upto_region 6 with fail
      refine wp_region_bl (by kernel_rfl) (by kernel_rfl) ?_
      repeat (first | go_big_quiet_skip | (go_big_quiet_want; go_big_quiet_op; first | go_big_quiet_on | (refine ⟨_, fun _ _ => (by with_reducible rfl), ?_⟩; go_big_quiet_on) | (apply Exists.intro; refine ⟨fun w' hC => (by simp only [LD.out w' hC, Result.andThen]; exact ⟨trivial, rfl⟩), ?_⟩; go_big_quiet_on)))
      refine wpQuiet_nil ?_; intro wz hbz
      go_wp2_with fail
      exact ⟨⟨m + 1, by omega, by go_num, HBW.out.trans (hbz.mono hsr)⟩, by simp [intOf]; omega⟩
    · have hge : ¬ (m : Int) < (P.length : Int) := by omega
      clear hbw
      go_wp2_with fail
      go_ret
      exact ⟨rfl, HBW.out⟩
end Go.Proofs.YtjihepdjcbpgoaaGreatDoor

namespace Go.Proofs.YtjihepdjcbpgoaaGreatDoor
open Go.RowKit Go.Sort

theorem app3 (W : World) (x y z : LA) (hx : x.Rd W) (hy : y.Rd W) (hz : z.Rd W) :
    ∃ (u1 : LA) (W1 : World) (u2 : LA) (W2 : World) (u : LA) (W3 : World), (∀ ty, (Builtin.append_ #[23, 23] ty #[.slice none 0 0, .slice x.a x.l.length x.c]).run Tryz.prog W = .ok (.slice u1.a u1.l.length u1.c) W1) ∧
      (∀ ty, (Builtin.append_ #[23, 23] ty #[.slice u1.a u1.l.length u1.c, .slice y.a y.l.length y.c]).run Tryz.prog W1 = .ok (.slice u2.a u2.l.length u2.c) W2) ∧
      (∀ ty, (Builtin.append_ #[23, 23] ty #[.slice u2.a u2.l.length u2.c, .slice z.a z.l.length z.c]).run Tryz.prog W2 = .ok (.slice u.a u.l.length u.c) W3) ∧
      u.l = x.l ++ y.l ++ z.l ∧ OwnV W3 W.heap.size (.slice u.a u.l.length u.c) u.l ∧ Below W.heap.size W W3 := by
  have h1 := hx.len
  have h2 := hy.len
  have h3 := hz.len
  obtain ⟨v1, W1, r1, o1, g1, -⟩ := app_val (c := x.c) (l := []) (base := W.heap.size) (v := .slice none 0 0) (World.ownsRow_nil _ _ _ _) hx.sl (by simp; omega) (Nat.le_refl _)
  obtain ⟨a1, c1, rfl⟩ := own_formV o1
  have b1 : Below W.heap.size W W1 := below_of_grown g1 (Nat.le_refl _) fun k hk => by cases hk
  have s1 := b1.size
  obtain ⟨v2, W2, r2, o2, g2, -⟩ := app_val (c := y.c) o1 (hy.up b1).sl (by simp; omega) s1
  obtain ⟨a2, c2, rfl⟩ := own_formV o2
  have b2 : Below W.heap.size W W2 := b1.trans (below_of_grown g2 s1 fun k hk => (World.ownsRow.lt o1 k hk).1)
  have s2 := b2.size
  obtain ⟨v3, W3, r3, o3, g3, -⟩ := app_val (c := z.c) o2 (hz.up b2).sl (by simp; omega) s2
  obtain ⟨a3, c3, rfl⟩ := own_formV o3
  exact ⟨⟨a1, [] ++ x.l, c1⟩, W1, ⟨a2, [] ++ x.l ++ y.l, c2⟩, W2, ⟨a3, [] ++ x.l ++ y.l ++ z.l, c3⟩, W3, r1, r2, r3, by simp, o3, b2.trans (below_of_grown g3 s2 fun k hk => (World.ownsRow.lt o2 k hk).1)⟩

theorem bothK_snoc (kl kr l : List ByteArray) (s : ByteArray) : bothK (l ++ [s]) kl kr = if s ∉ l ∧ s ∈ kl ∧ s ∈ kr then bothK l kl kr ++ [s] else bothK l kl kr := by
  unfold bothK
  rw [firsts_snoc]
  by_cases h : s ∈ l
  · rw [if_pos h, if_neg (by simp [h])]
  · rw [if_neg h, List.filter_append]
    by_cases h1 : s ∈ kl ∧ s ∈ kr
    · rw [if_pos ⟨h, h1⟩]; simp [h1.1, h1.2]
    · rw [if_neg (fun h2 => h1 h2.2)]
      simp only [List.filter_cons, decide_eq_false h1, List.filter_nil]; simp
theorem bothK_len (kb kl kr : List ByteArray) : (bothK kb kl kr).length ≤ kb.length := Nat.le_trans (List.length_filter_le _ _) (firsts_len kb)

def RPlanPost (b l r : List Val) (u : Int) (w : World) (e : Ending) (w' : World) : Prop :=
  ∃ (P : List Pk) (a : Option Addr) (c : Nat), e = .returned (.slice a P.length c) ∧ (anyBad (b ++ l ++ r) = true → P = []) ∧ (anyBad (b ++ l ++ r) = false → PicksAre b l r u P) ∧ P.length ≤ 4194304 ∧
    OwnQ w' w.heap.size (.slice a P.length c) P ∧ Below w.heap.size w w'
theorem app_q {w W w1 : World} {P F : List Pk} {a fa : Option Addr} {c fc base2 : Nat} (ho : OwnQ W w.heap.size (.slice a P.length c) P) (hw : Below w.heap.size w W) (hb : Below W.heap.size W w1) (hf : OwnQ w1 base2 (.slice fa F.length fc) F) (hn : P.length + F.length ≤ 16777216) :
    ∃ (P' : List Pk) (a' : Option Addr) (c' : Nat) (W' : World), (∀ ty, (Builtin.append_ #[44, 44] ty #[.slice a P.length c, .slice fa F.length fc]).run Tryz.prog w1 = .ok (.slice a' P'.length c') W') ∧ P' = P ++ F ∧ OwnQ W' w.heap.size (.slice a' P'.length c') P' ∧ Below w.heap.size w W' := by
  have hs1 := hw.size
  have hs2 := hb.size
  obtain ⟨v', W', r1, o1, gr, -⟩ := app_rpk (c := fc) (own_below ho hb) (own_sl Pk.enc_len hf) hn (by omega)
  obtain ⟨a', c', rfl⟩ := own_formQ o1
  exact ⟨P ++ F, a', c', W', r1, rfl, o1, (hw.trans (hb.mono hs1)).trans (below_of_grown gr (by omega) fun k hk => (World.ownsRow.lt (own_below ho hb) k hk).1)⟩
theorem fresh_len {side : Int} {kb K : List ByteArray} {q : LA} {F : List Pk} (h : F = (freshK kb K (keysV q.v)).map (pkS side (keysV q.v))) : F.length ≤ q.l.length := by
  rw [h, List.length_map]
  exact Nat.le_trans (freshK_len _ _ _) (by rw [keysV, LA.v, List.length_map, List.length_map]; exact Nat.le_refl _)
theorem nil_rd (w : World) : (⟨none, [], 0⟩ : LA).Rd w := ⟨SlE.nil, by simp, by simp⟩

/-- The walk at an append in a drawn region, its two arguments' values laid apart. -/
theorem st_append3 {P : Program} {ops : Array Oper} {o : Oper} {a : Act} {K : Act → World → Prop} {Q : Exit → Act → World → Prop} {E : Prop} {w w' : World} {v' sv xv : Value} (hgd : o.guard = none) {s x : Operand} {t : TypeId}
    (ho : o.op = .call { callee := .builtin .append, args := #[s, x], argTypes := #[t, t] }) (hs : a.eval s = sv) (hx : a.eval x = xv)
    (hrun : ∀ ty, (Builtin.append_ #[t, t] ty #[sv, xv]).run P w = .ok v' w') (h : K (a.put o.dst v') w') : if Region.wanted o (yielded ops a.tmps) = true then Oper.wp P o a w K Q else E := by
  subst hs hx
  exact st_append hgd ho (hrun _) h
/-- One pick stands no later than another. -/
def LeP (b l r : List Val) (p q : Pk) : Prop := ∀ a c, pickV b l r p = some a → pickV b l r q = some c → cmpV 256 a c ≤ 0
/-- A pick's tree, of the sides. -/
def UAt (w : World) (x y z : LA) (p : Pk) (u : AV) : Prop := lrV y.l z.l p = some u ∧ pickV x.v y.v z.v p = some u.v ∧ u.v.may = true ∧ Rd w u ∧ u.w ≤ 1048576 ∧ 0 ≤ p.at_
theorem fresh_u {w : World} {x y z : LA} (hy : y.Rd w) (hz : z.Rd w) (my : ∀ q ∈ y.v, q.may = true) (mz : ∀ q ∈ z.v, q.may = true) {p : Pk} (hp : p ∈ fresh1 (keysV x.v) (keysV y.v) (keysV z.v)) : ∃ u, UAt w x y z p u := by
  unfold fresh1 at hp
  rcases List.mem_append.1 hp with hp | hp
  · obtain ⟨s, hs, rfl⟩ := List.mem_map.1 hp
    obtain ⟨i, v, e, h1, h2⟩ := pkS_at (l := y.v) 1 (newK_mem.1 hs).1
    have h1' := h1
    rw [LA.v, List.getElem?_map] at h1
    cases hu : y.l[i]? with
    | none => rw [hu] at h1; cases h1
    | some u =>
      rw [hu] at h1
      have hv : u.v = v := by simpa using h1
      refine ⟨u, ?_, ?_, by rw [hv]; exact my v (List.mem_of_getElem? h1'), (hy.kids u (List.mem_of_getElem? hu)).1, (hy.kids u (List.mem_of_getElem? hu)).2, by rw [e]; simp⟩
      · rw [e, lrV, if_neg (by simp), if_pos rfl]; simpa using hu
      · rw [e, pickV, if_neg (by simp), sideL, if_neg (by simp), if_pos rfl, hv]; simpa using h1'
  · obtain ⟨s, hs, rfl⟩ := List.mem_map.1 hp
    obtain ⟨i, v, e, h1, h2⟩ := pkS_at (l := z.v) 2 (moreK_mem.1 hs).1
    have h1' := h1
    rw [LA.v, List.getElem?_map] at h1
    cases hu : z.l[i]? with
    | none => rw [hu] at h1; cases h1
    | some u =>
      rw [hu] at h1
      have hv : u.v = v := by simpa using h1
      refine ⟨u, ?_, ?_, by rw [hv]; exact mz v (List.mem_of_getElem? h1'), (hz.kids u (List.mem_of_getElem? hu)).1, (hz.kids u (List.mem_of_getElem? hu)).2, by rw [e]; simp⟩
      · rw [e, lrV, if_neg (by simp), if_neg (by simp)]; simpa using hu
      · rw [e, pickV, if_neg (by simp), sideL, if_neg (by simp), if_neg (by simp), if_pos rfl, hv]; simpa using h1'
theorem leP_iff {w : World} {x y z : LA} {p q : Pk} {u v : AV} (hp : UAt w x y z p u) (hq : UAt w x y z q v) : LeP x.v y.v z.v p q ↔ cmpV 256 u.v v.v ≤ 0 :=
  ⟨fun h => h _ _ hp.2.1 hq.2.1, fun h a c ha hc => by
    rw [hp.2.1] at ha; rw [hq.2.1] at hc
    injection ha with ha; injection hc with hc
    rw [← ha, ← hc]; exact h⟩
theorem sel_perm {S M F : List Pk} {k : Nat} {p : Pk} (hk : M[k]? = some p) (h : (S ++ M).Perm F) : ((S ++ [p]) ++ (M.take k ++ M.drop (k + 1))).Perm F := by
  have hlt := (List.getElem?_eq_some_iff.1 hk).1
  have e : M = M.take k ++ p :: M.drop (k + 1) := by
    have h1 := List.drop_eq_getElem_cons hlt
    rw [(List.getElem?_eq_some_iff.1 hk).2] at h1
    rw [← h1, List.take_append_drop]
  refine List.Perm.trans ?_ h
  conv => rhs; rw [e]
  rw [List.append_assoc]
  exact List.Perm.append_left S (List.perm_middle.symm : (p :: (M.take k ++ M.drop (k + 1))).Perm (M.take k ++ p :: M.drop (k + 1)))
theorem ownQ_cap {w : World} {base : Nat} {a : Option Addr} {c : Nat} {l : List Pk} (h : OwnQ w base (.slice a l.length c) l) : l.length ≤ c := by
  rcases h.2 with ⟨e, h0⟩ | ⟨g, cap, cur, e, _, _, h1, _⟩
  · omega
  · injection e with _ _ e; omega
def lenV : Value → Nat | .slice _ n _ => n | _ => 0
/-- What stays while the least is taken, again and again. -/
def SelR (w wr : World) (x y z : LA) (P : List Pk) (s9 s13 : Value) : Prop :=
  ∃ (S M O : List Pk) (a : Option Addr) (c : Nat) (ma : Option Addr) (mc : Nat), s9 = .slice a O.length c ∧ s13 = .slice ma M.length mc ∧ O = P ++ S ∧ (S ++ M).Perm (fresh1 (keysV x.v) (keysV y.v) (keysV z.v)) ∧ S.Pairwise (LeP x.v y.v z.v) ∧ (∀ s ∈ S, ∀ q ∈ M, LeP x.v y.v z.v s q) ∧
    OwnQ wr w.heap.size (.slice a O.length c) O ∧ M.length ≤ mc ∧ (∃ lo hi, SlE Pk.enc 2 wr lo hi ma M ∧ hi ≤ wr.heap.size ∧ ∀ g, (Value.slice a O.length c).ownBlock = some g → ¬ (lo ≤ g ∧ g < hi)) ∧ Below w.heap.size w wr

set_option maxRecDepth 100000 in
set_option maxHeartbeats 3200000 in
theorem rplan27_c (w : World) (x y z : LA) (u : Nat) (hx : x.Rd w) (hy : y.Rd w) (hz : z.Rd w) :
    Calls Tryz.prog 34 #[.slice x.a x.l.length x.c, .slice y.a y.l.length y.c, .slice z.a z.l.length z.c, .int .u8 u] w (RPlanPost x.v y.v z.v u w) := by
  have hxl := hx.len
  have hyl := hy.len
  have hzl := hz.len
  obtain ⟨g1, V1, g2, V2, al, V3, hr1, hr2, hr3, hal, hao, hab⟩ := app3 w x y z hx hy hz
  have hall : al.l.length ≤ 4194304 := by rw [hal]; simp; omega
  have halk : ∀ q ∈ al.l, Rd V3 q ∧ q.w ≤ 1048576 := fun q hq => by
    rw [hal] at hq
    rcases List.mem_append.1 hq with hq | hq
    · rcases List.mem_append.1 hq with hq | hq
      · exact ⟨(hx.kids q hq).1.up hab, (hx.kids q hq).2⟩
      · exact ⟨(hy.kids q hq).1.up hab, (hy.kids q hq).2⟩
    · exact ⟨(hz.kids q hq).1.up hab, (hz.kids q hq).2⟩
  have halv : al.l.map AV.v = x.v ++ y.v ++ z.v := by rw [hal, List.map_append, List.map_append]; rfl
  have HX := Lib.hid hx
  have HY := Lib.hid hy
  have HZ := Lib.hid hz
  have HAL := Lib.hid halv
  have HAK := Lib.hid halk
  have HAS := Lib.hid (own_sl AV.enc_len hao)
  have HAB := Lib.hid hab
  clear hx hy hz hal hao hab halk halv
  go_enter Tryz.func34, Tryz.ntmps34
  go_wp2_with (at_builtin; first
    | (refine wl_append (s := .const (.slice none 0 0)) (x := .tmp 16) rfl rfl (hr1 _) ?_; clear hr1)
    | (refine wl_append (s := .tmp 17) (x := .tmp 18) rfl rfl (hr2 _) ?_; clear hr2)
    | (refine wl_append (s := .tmp 19) (x := .tmp 20) rfl rfl (hr3 _) ?_; clear hr3))
  go_loopw [11] (fun s11 wr => ∃ m : Nat, m ≤ al.l.length ∧ s11 = .int .i64 m ∧ (∀ q ∈ al.l.take m, q.v.may = true) ∧ Below V3.heap.size V3 wr) (fun s11 _ => al.l.length - (intOf s11).toNat)
  case atStart => exact ⟨0, Nat.zero_le _, by go_num, by simp, Below.refl _ _⟩
  case round =>
    obtain ⟨m, hm, rfl, hmay, hb3⟩ := hrel
    have HMAY := Lib.hid hmay
    have HB3 := Lib.hid hb3
    have hs3 := hb3.size
    clear hmay
    by_cases hlt : m < al.l.length
    · have hk : al.l[m]? = some al.l[m] := List.getElem?_eq_getElem hlt
      have hmem : al.l[m] ∈ al.l := List.getElem_mem hlt
      generalize al.l[m] = q at hk hmem
      obtain ⟨b, o, hla, -, -, gb, c0, c1, c2, c3⟩ := vals_at HAS.out hk
      rw [← hb3.cell (p := ⟨_, _, none⟩) gb] at c0 c1 c2 c3
      have hlt' : (m : Int) < (al.l.length : Int) := by omega
      have hm0 : (0 : Int) ≤ (m : Int) := by omega
      have hwm : IntKind.i64.wrap ((m : Int) + 1) = ((m + 1 : Nat) : Int) := by rw [IntWalk.i64_in _ (by omega)]; omega
      have HM0 := rmay_c q wr ((HAK.out q hmem).1.up hb3) (HAK.out q hmem).2
      have HK := Lib.hid hk
      have HLA := Lib.hid hla
      have HMEM := Lib.hid hmem
      clear hk hla hmem hb3
      rcases hq : q.v.may with _ | _
      · rw [hq] at HM0
        have HM := Lib.hid HM0
        have HBAD := Lib.hid (show anyBad (x.v ++ y.v ++ z.v) = true by
          rw [← HAL.out, anyBad, List.any_eq_true]
          exact ⟨q.v, List.mem_map_of_mem HMEM.out, by rw [hq]; rfl⟩)
        clear hq HM0
        rw [HLA.out]
        go_wp2_with (go_at_call 13; refine HM.out.mono ?_; rintro e w1 ⟨rfl, hb1⟩)
        go_ret
        exact ⟨[], none, 0, rfl, fun _ => rfl, fun h => Bool.noConfusion (HBAD.out.symm.trans h), by simp, ⟨rfl, .inl ⟨rfl, rfl⟩⟩, HAB.out.trans ((HB3.out.trans (hb1.mono hs3)).mono HAB.out.size)⟩
      · rw [hq] at HM0
        have HM := Lib.hid HM0
        have HMAY2 := Lib.hid (show ∀ q ∈ al.l.take (m + 1), q.v.may = true from fun q' h' => by
          rw [List.take_add_one, HK.out, List.mem_append] at h'
          rcases h' with h' | h'
          · exact HMAY.out q' h'
          · have : q' = q := by simpa using h'
            rw [this]; exact hq)
        clear hq HM0
        rw [HLA.out]
        go_wp2_with (go_at_call 13; refine HM.out.mono ?_; rintro e w1 ⟨rfl, hb1⟩)
        exact ⟨⟨m + 1, by omega, by go_num, HMAY2.out, HB3.out.trans (hb1.mono hs3)⟩, by simp [intOf]; omega⟩
    · obtain rfl : m = al.l.length := by omega
      have hge : ¬ (al.l.length : Int) < (al.l.length : Int) := by omega
      have hmay := HMAY.out
      rw [List.take_length] at hmay
      have hm3 : (∀ q ∈ x.v, q.may = true) ∧ (∀ q ∈ y.v, q.may = true) ∧ ∀ q ∈ z.v, q.may = true := by
        have h : ∀ q ∈ x.v ++ y.v ++ z.v, q.may = true := by
          rw [← HAL.out]
          intro q hq
          obtain ⟨q', h1, rfl⟩ := List.mem_map.1 hq
          exact hmay q' h1
        exact ⟨fun q hq => h q (by simp [hq]), fun q hq => h q (by simp [hq]), fun q hq => h q (by simp [hq])⟩
      have HM3 := Lib.hid hm3
      have HGOOD := Lib.hid (show anyBad (x.v ++ y.v ++ z.v) = false from anyBad_not.2 fun q hq => by
        rcases List.mem_append.1 hq with hq | hq
        · rcases List.mem_append.1 hq with hq | hq
          · exact hm3.1 q hq
          · exact hm3.2.1 q hq
        · exact hm3.2.2 q hq)
      have HBW := Lib.hid (show Below w.heap.size w wr from HAB.out.trans (hb3.mono HAB.out.size))
      clear hmay hm3 hb3 HMAY HAK HAS HAL
      obtain ⟨W5, hW5⟩ : ∃ W5, W5 = wr := ⟨_, rfl⟩
      subst hW5
      go_wp2_with fail
      go_loopw [9, 12] (fun s9 s12 wr => ∃ (m : Nat) (P : List Pk) (a : Option Addr) (c : Nat), m ≤ x.l.length ∧ s12 = .int .i64 m ∧ s9 = .slice a P.length c ∧ P = (bothK ((keysV x.v).take m) (keysV y.v) (keysV z.v)).map (pkS 1 (keysV y.v)) ∧ OwnQ wr w.heap.size (.slice a P.length c) P ∧ Below w.heap.size w wr) (fun _ s12 _ => x.l.length - (intOf s12).toNat)
      case atStart => exact ⟨0, [], none, 0, Nat.zero_le _, by go_num, rfl, by simp [bothK, firsts], ⟨rfl, .inl ⟨rfl, rfl⟩⟩, HBW.out⟩
      case round =>
        obtain ⟨m, P, a, c, hm, rfl, rfl, hP, hown, hbw⟩ := hrel
        have hPl : P.length ≤ m := by rw [hP, List.length_map]; exact Nat.le_trans (bothK_len _ _ _) (by rw [List.length_take]; omega)
        have HPP := Lib.hid hP
        have HOW := Lib.hid hown
        have HBW2 := Lib.hid hbw
        have hsr := hbw.size
        by_cases hlt : m < x.l.length
        · have hk : x.l[m]? = some x.l[m] := List.getElem?_eq_getElem hlt
          have hmem : x.l[m] ∈ x.l := List.getElem_mem hlt
          generalize x.l[m] = q at hk hmem
          obtain ⟨b0, o0, hla, -, -, gb, c0, c1, c2, c3⟩ := vals_at HX.out.sl hk
          rw [← hbw.cell (p := ⟨_, _, none⟩) gb] at c0 c1 c2 c3
          have gb' : b0 < wr.heap.size := by omega
          have hlt' : (m : Int) < (x.l.length : Int) := by omega
          have hm0 : (0 : Int) ≤ (m : Int) := by omega
          have hwm : IntKind.i64.wrap ((m : Int) + 1) = ((m + 1 : Nat) : Int) := by rw [IntWalk.i64_in _ (by omega)]; omega
          have hkk : (keysV x.v)[m]? = some q.v.key := by rw [keysV, LA.v, List.getElem?_map, List.getElem?_map, hk]; rfl
          have hmq : q.v.may = true := HM3.out.1 _ (by rw [LA.v]; exact List.mem_map_of_mem hmem)
          have LD := Lib.hid (fun W (h : Below wr.heap.size wr W) => And.intro ((h.cell (p := ⟨b0, o0 + m * 4, none⟩) gb').trans c0) (And.intro ((h.cell (p := ⟨b0, o0 + m * 4 + 1, none⟩) gb').trans c1) (And.intro ((h.cell (p := ⟨b0, o0 + m * 4 + 2, none⟩) gb').trans c2) ((h.cell (p := ⟨b0, o0 + m * 4 + 3, none⟩) gb').trans c3))))
          have hq := fun W (h : Below wr.heap.size wr W) => ((HX.out.kids q hmem).1.up hbw).up h
          have FX := fun W (h : Below wr.heap.size wr W) => Lib.hid (find27_c W x q ((HX.out.up hbw).up h) (hq W h) (HX.out.kids q hmem).2 HM3.out.1 hmq)
          rw [hla] at FX
          have FY := fun W (h : Below wr.heap.size wr W) => Lib.hid (find27_c W y q ((HY.out.up hbw).up h) (hq W h) (HX.out.kids q hmem).2 HM3.out.2.1 hmq)
          have FZ := fun W (h : Below wr.heap.size wr W) => Lib.hid (find27_c W z q ((HZ.out.up hbw).up h) (hq W h) (HX.out.kids q hmem).2 HM3.out.2.2 hmq)
          have HS := Lib.hid (bothK_snoc (keysV y.v) (keysV z.v) ((keysV x.v).take m) q.v.key)
          have htk : (keysV x.v).take (m + 1) = (keysV x.v).take m ++ [q.v.key] := by rw [List.take_add_one, hkk]; rfl
          have HTK := Lib.hid htk
          have HKK := Lib.hid hkk
          have HLA := Lib.hid hla
          clear hk hkk hmem hmq hla hbw hq htk hP hown
          have fin : ∀ wz, Below wr.heap.size wr wz → ¬ (q.v.key ∉ (keysV x.v).take m ∧ q.v.key ∈ keysV y.v ∧ q.v.key ∈ keysV z.v) → P = (bothK ((keysV x.v).take (m + 1)) (keysV y.v) (keysV z.v)).map (pkS 1 (keysV y.v)) ∧ OwnQ wz w.heap.size (.slice a P.length c) P ∧ Below w.heap.size w wz := fun wz hbz hn =>
            ⟨by rw [HTK.out, HS.out, if_neg hn, ← HPP.out], own_below HOW.out hbz, HBW2.out.trans (hbz.mono hsr)⟩
          have FIN := Lib.hid fin
          clear fin c0 c1 c2 c3
          obtain ⟨c0, c1, c2, c3⟩ := LD.out _ (Below.refl _ _)
          by_cases h1 : q.v.key ∈ (keysV x.v).take m
          · obtain ⟨i, hi, him⟩ := idx_seen h1
            rw [hi] at FX
            have g1 : ((i : Int) == (m : Int)) = false := by simp; omega
            have g2 : (i == m) = false := by simp; omega
            have FIN2 := fun wz h => FIN.out wz h (fun h => h.1 h1)
            have FX' := fun W h => Lib.hid (FX W h)
            clear hi h1 FX
            rw [HLA.out]
            go_wp2_with (go_at_call 72; refine (FX' _ (Below.refl _ _)).out.out.mono ?_; rintro e w1 ⟨rfl, hb1⟩)
            all_goals
              obtain ⟨f1, f2, f3⟩ := FIN2 w1 hb1
              exact ⟨⟨m + 1, P, a, c, by omega, by go_num, rfl, f1, f2, f3⟩, by simp [intOf]; omega⟩
          · rw [idx_first HKK.out h1] at FX
            have FX' := fun W h => Lib.hid (FX W h)
            clear FX
            by_cases h2 : q.v.key ∈ keysV y.v
            · obtain ⟨j, hj, hjb⟩ := idxI_bound h2
              have hpk : pkS 1 (keysV y.v) q.v.key = ⟨1, (j : Int)⟩ := by rw [pkS, hj]
              have HPK := Lib.hid hpk
              rw [hj] at FY
              have FY' := fun W h => Lib.hid (FY W h)
              have g1 : (0 : Int) ≤ (j : Int) := by omega
              have g2 : decide ((0 : Int) ≤ (j : Int)) = true := decide_eq_true g1
              clear FY hj hpk
              by_cases h3 : q.v.key ∈ keysV z.v
              · obtain ⟨i, hi, hib⟩ := idxI_bound h3
                rw [hi] at FZ
                have FZ' := fun W h => Lib.hid (FZ W h)
                have g3 : (0 : Int) ≤ (i : Int) := by omega
                have g4 : decide ((0 : Int) ≤ (i : Int)) = true := decide_eq_true g3
                have HNEW := Lib.hid (show bothK ((keysV x.v).take (m + 1)) (keysV y.v) (keysV z.v) = bothK ((keysV x.v).take m) (keysV y.v) (keysV z.v) ++ [q.v.key] by rw [HTK.out, HS.out, if_pos ⟨h1, h2, h3⟩])
                clear FZ hi h1 h2 h3 FIN
                rw [HLA.out]
                go_upto_region 12 with (go_at_call 72; first
                  | ((with_reducible refine (FX' _ (Below.refl _ _)).out.out.mono ?_); rintro e w1 ⟨rfl, hb1⟩
                     obtain ⟨d0, d1, d2, d3⟩ := LD.out _ hb1)
                  | ((with_reducible refine (FY' _ hb1).out.out.mono ?_); rintro e w2 ⟨rfl, hb2⟩
                     have hb12 := below_via hb1 hb2
                     obtain ⟨k0, k1, k2, k3⟩ := LD.out _ hb12)
                  | ((with_reducible refine (FZ' _ hb12).out.out.mono ?_); rintro e w3 ⟨rfl, hb3⟩
                     have hb13 := below_via hb12 hb3
                     clear d0 d1 d2 d3 k0 k1 k2 k3
                     obtain ⟨k0, k1, k2, k3⟩ := LD.out _ hb13))
                go_wp2_with (first
                  | (go_at_call 72; (with_reducible refine (FY' _ hb13).out.out.mono ?_); rintro e w4 ⟨rfl, hb4⟩
                     have hbz := below_via hb13 hb4
                     have hz4 := hbz.size
                     have hown2 : OwnQ w4 w.heap.size (.slice a P.length c) P := own_below HOW.out hbz
                     have hlit : SlE Pk.enc 2 (w4.alloc (.cells #[.int .u8 1, .int .i64 j] 95)) w4.heap.size (w4.heap.size + 1) (some ⟨w4.heap.size, 0, none⟩) [(⟨1, j⟩ : Pk)] := lit_sl (enc := Pk.enc) (size := 2) (l := [(⟨1, j⟩ : Pk)]) (t := 95) (fr := (0, 0)) (fun _ => rfl) (heap_alloc_new _ _)
                     obtain ⟨v', W', hrun, hown', hgr, -⟩ := app_rpk (c := 1) (own_below hown2 ((Below.refl _ _).alloc (Nat.le_refl _) _)) hlit (by simp; omega) (by rw [World.size_alloc]; omega)
                     obtain ⟨F', hF'⟩ : ∃ F', F' = P ++ [(⟨1, j⟩ : Pk)] := ⟨_, rfl⟩
                     rw [← hF'] at hown'
                     obtain ⟨a', c', rfl⟩ := own_formQ hown'
                     have HF' := Lib.hid hF'
                     have HOW' := Lib.hid hown'
                     have HGR := Lib.hid hgr
                     have HOW2 := Lib.hid hown2
                     have HBZ := Lib.hid hbz
                     clear hF' hown' hgr hlit hown2 hbz)
                  | (at_builtin; refine wl_append (s := .tmp 67) (x := .tmp 75) rfl rfl (hrun _) ?_; clear hrun))
                all_goals
                  refine ⟨⟨m + 1, F', a', c', by omega, by go_num, rfl, ?_, HOW'.out, ?_⟩, by simp [intOf]; omega⟩
                  · rw [HF'.out, HNEW.out, List.map_append, ← HPP.out, List.map_cons, List.map_nil, HPK.out]
                  · exact ((HBW2.out.trans (HBZ.out.mono hsr)).alloc (by omega) _).grown HGR.out (by rw [World.size_alloc]; omega) (fun g hg => (World.ownsRow.lt HOW2.out g hg).1)
              · rw [idxI_none h3] at FZ
                have FZ' := fun W h => Lib.hid (FZ W h)
                have FIN2 := fun wz h => FIN.out wz h (fun h => h3 h.2.2)
                clear h1 h2 h3 FZ
                rw [HLA.out]
                go_wp2_with (go_at_call 72; first
                  | ((with_reducible refine (FX' _ (Below.refl _ _)).out.out.mono ?_); rintro e w1 ⟨rfl, hb1⟩
                     obtain ⟨d0, d1, d2, d3⟩ := LD.out _ hb1)
                  | ((with_reducible refine (FY' _ hb1).out.out.mono ?_); rintro e w2 ⟨rfl, hb2⟩
                     have hb12 := below_via hb1 hb2
                     obtain ⟨k0, k1, k2, k3⟩ := LD.out _ hb12)
                  | ((with_reducible refine (FZ' _ hb12).out.out.mono ?_); rintro e w3 ⟨rfl, hb3⟩))
                all_goals
                  obtain ⟨f1, f2, f3⟩ := FIN2 w3 (below_via hb12 hb3)
                  exact ⟨⟨m + 1, P, a, c, by omega, by go_num, rfl, f1, f2, f3⟩, by simp [intOf]; omega⟩
            · rw [idxI_none h2] at FY
              have FY' := fun W h => Lib.hid (FY W h)
              have FIN2 := fun wz h => FIN.out wz h (fun h => h2 h.2.1)
              clear h1 h2 FY
              rw [HLA.out]
              go_wp2_with (go_at_call 72; first
                | ((with_reducible refine (FX' _ (Below.refl _ _)).out.out.mono ?_); rintro e w1 ⟨rfl, hb1⟩
                   obtain ⟨d0, d1, d2, d3⟩ := LD.out _ hb1)
                | ((with_reducible refine (FY' _ hb1).out.out.mono ?_); rintro e w2 ⟨rfl, hb2⟩))
              all_goals
                obtain ⟨f1, f2, f3⟩ := FIN2 w2 (below_via hb1 hb2)
                exact ⟨⟨m + 1, P, a, c, by omega, by go_num, rfl, f1, f2, f3⟩, by simp [intOf]; omega⟩
        · obtain rfl : m = x.l.length := by omega
          have hge : ¬ (x.l.length : Int) < (x.l.length : Int) := by omega
          have hP2 := HPP.out
          rw [show x.l.length = (keysV x.v).length by rw [keysV, LA.v, List.length_map, List.length_map], List.take_length] at hP2
          have HP2 := Lib.hid (show P = bothP (keysV x.v) (keysV y.v) (keysV z.v) from hP2)
          clear hP hP2 hown hbw HPP
          have hPl2 : P.length ≤ 1048576 := by omega
          have FR2N := fun W (h : Below w.heap.size w W) => Lib.hid (show Calls Tryz.prog 73 #[.int .u8 2, .slice z.a z.l.length z.c, .slice x.a x.l.length x.c, .slice none 0 0] W (FreshPost 2 (keysV x.v) [] (keysV z.v) W) from fresh27_c W 2 z x ⟨none, [], 0⟩ (HZ.out.up h) (HX.out.up h) (nil_rd W) HM3.out.2.2 HM3.out.1 (by simp [LA.v]))
          have FR1 := fun W (h : Below w.heap.size w W) => Lib.hid (show Calls Tryz.prog 73 #[.int .u8 1, .slice y.a y.l.length y.c, .slice x.a x.l.length x.c, .slice z.a z.l.length z.c] W (FreshPost 1 (keysV x.v) (keysV z.v) (keysV y.v) W) from fresh27_c W 1 y x z (HY.out.up h) (HX.out.up h) (HZ.out.up h) HM3.out.2.1 HM3.out.1 HM3.out.2.2)
          have FR1N := fun W (h : Below w.heap.size w W) => Lib.hid (show Calls Tryz.prog 73 #[.int .u8 1, .slice y.a y.l.length y.c, .slice x.a x.l.length x.c, .slice none 0 0] W (FreshPost 1 (keysV x.v) [] (keysV y.v) W) from fresh27_c W 1 y x ⟨none, [], 0⟩ (HY.out.up h) (HX.out.up h) (nil_rd W) HM3.out.2.1 HM3.out.1 (by simp [LA.v]))
          have FR2 := fun W (h : Below w.heap.size w W) => Lib.hid (show Calls Tryz.prog 73 #[.int .u8 2, .slice z.a z.l.length z.c, .slice x.a x.l.length x.c, .slice y.a y.l.length y.c] W (FreshPost 2 (keysV x.v) (keysV y.v) (keysV z.v) W) from fresh27_c W 2 z x y (HZ.out.up h) (HX.out.up h) (HY.out.up h) HM3.out.2.2 HM3.out.1 HM3.out.2.1)
          by_cases h2 : u = 2
          · subst h2
            clear FR1N FR2
            go_wp2_with (first
              | (go_at_call 73; first
                | ((with_reducible refine (FR2N _ HBW2.out).out.mono ?_); rintro e w1 ⟨F1, fa, fc, rfl, hF1, ho1, hb1⟩
                   have hl1 := fresh_len hF1
                   obtain ⟨P1, a1, c1, W1, hrun1, hP1, hown1, hbW1⟩ := app_q HOW.out HBW2.out hb1 ho1 (by omega)
                   have hl3 : P1.length = P.length + F1.length := by rw [hP1, List.length_append]
                   have hl3' : P1.length ≤ 2097152 := by omega
                   have HF1 := Lib.hid hF1
                   have HP1 := Lib.hid hP1
                   have HOW1 := Lib.hid hown1
                   clear hF1 hP1 hown1 hl3 ho1)
                | ((with_reducible refine (FR1 _ hbW1).out.mono ?_); rintro e w2 ⟨F2, fa2, fc2, rfl, hF2, ho2, hb2⟩
                   have hl2 := fresh_len hF2
                   obtain ⟨Q1, a2, c2, W2, hrun2, hQ1, hown2, hbW2⟩ := app_q HOW1.out hbW1 hb2 ho2 (by omega)
                   have hl5 : Q1.length = P1.length + F2.length := by rw [hQ1, List.length_append]
                   have hl5' : Q1.length ≤ 4194304 := by omega
                   have HF2 := Lib.hid hF2
                   have HQ1 := Lib.hid hQ1
                   have HOW2 := Lib.hid hown2
                   clear hF2 hQ1 hown2 hl5 ho2))
              | (at_builtin; first
                | (refine wl_append (s := .tmp 79) (x := .tmp 82) rfl rfl (hrun1 _) ?_; clear hrun1)
                | (refine wl_append (s := .tmp 83) (x := .tmp 87) rfl rfl (hrun2 _) ?_; clear hrun2)))
            go_ret
            exact ⟨Q1, a2, c2, rfl, fun h => Bool.noConfusion (HGOOD.out.symm.trans h), fun _ => ⟨F1 ++ F2, by rw [HQ1.out, HP1.out, HP2.out, List.append_assoc], fun h => absurd h (by decide), fun _ => by rw [HF1.out, HF2.out, freshK_nil, freshK_more, fresh2], fun _ h => absurd rfl h⟩, hl5', HOW2.out, hbW2⟩
          · have t2 : ((u : Int) == 2) = false := by simp; omega
            have t2' : (u == 2) = false := by simp; omega
            clear h2
            by_cases h1 : u = 1
            · subst h1
              clear FR2N FR1
              go_wp2_with (first
                | (go_at_call 73; first
                  | ((with_reducible refine (FR1N _ HBW2.out).out.mono ?_); rintro e w1 ⟨F1, fa, fc, rfl, hF1, ho1, hb1⟩
                     have hl1 := fresh_len hF1
                     have hbw1 := below_via HBW2.out hb1
                     have HF1 := Lib.hid hF1
                     have HO1 := Lib.hid ho1
                     clear hF1 ho1)
                  | ((with_reducible refine (FR2 _ hbw1).out.mono ?_); rintro e w2 ⟨F2, fa2, fc2, rfl, hF2, ho2, hb2⟩
                     have hl2 := fresh_len hF2
                     obtain ⟨M, ma, mc, W2, hrun1, hM, hownM, hbM⟩ := app_q HO1.out hb1 hb2 ho2 (by omega)
                     have hl3 : M.length = F1.length + F2.length := by rw [hM, List.length_append]
                     have hl3' : M.length ≤ 2097152 := by omega
                     have hM2 : M = fresh1 (keysV x.v) (keysV y.v) (keysV z.v) := by rw [hM, HF1.out, hF2, freshK_nil, freshK_more, fresh1]
                     have HM := Lib.hid hM2
                     have HOM := Lib.hid hownM
                     clear hF2 hM hM2 hownM hl3 ho2
                     obtain ⟨Q1, a2, c2, W3, hrun2, hQ1, hown2, hbW2⟩ := app_q HOW.out HBW2.out hbM HOM.out (by omega)
                     have hl5 : Q1.length = P.length + M.length := by rw [hQ1, List.length_append]
                     have hl5' : Q1.length ≤ 4194304 := by omega
                     have HQ1 := Lib.hid hQ1
                     have HOW2 := Lib.hid hown2
                     clear hQ1 hown2 hl5))
                | (at_builtin; first
                  | (refine wl_append (s := .tmp 91) (x := .tmp 95) rfl rfl (hrun1 _) ?_; clear hrun1)
                  | (refine wl_append (s := .tmp 99) (x := .tmp 100) rfl rfl (hrun2 _) ?_; clear hrun2)))
              go_ret
              exact ⟨Q1, a2, c2, rfl, fun h => Bool.noConfusion (HGOOD.out.symm.trans h), fun _ => ⟨M, by rw [HQ1.out, HP2.out], fun _ => HM.out, fun h => absurd h (by decide), fun h => absurd rfl h⟩, hl5', HOW2.out, hbW2⟩
            · have t1 : ((u : Int) == 1) = false := by simp; omega
              have t1' : (u == 1) = false := by simp; omega
              clear FR2N FR1 h1
              go_upto_region 18 with (first
                | (go_at_call 73; first
                  | ((with_reducible refine (FR1N _ HBW2.out).out.mono ?_); rintro e w1 ⟨F1, fa, fc, rfl, hF1, ho1, hb1⟩
                     have hl1 := fresh_len hF1
                     have hbw1 := below_via HBW2.out hb1
                     have HF1 := Lib.hid hF1
                     have HO1 := Lib.hid ho1
                     clear hF1 ho1)
                  | ((with_reducible refine (FR2 _ hbw1).out.mono ?_); rintro e w2 ⟨F2, fa2, fc2, rfl, hF2, ho2, hb2⟩
                     have hl2 := fresh_len hF2
                     obtain ⟨M, ma, mc, W2, hrun1, hM, hownM, hbM⟩ := app_q HO1.out hb1 hb2 ho2 (by omega)
                     have hl3 : M.length = F1.length + F2.length := by rw [hM, List.length_append]
                     have hl3' : M.length ≤ 2097152 := by omega
                     have hM2 : M = fresh1 (keysV x.v) (keysV y.v) (keysV z.v) := by rw [hM, HF1.out, hF2, freshK_nil, freshK_more, fresh1]
                     have HM := Lib.hid hM2
                     have HOM := Lib.hid hownM
                     clear hF2 hM hM2 hownM hl3 ho2))
                | (at_builtin; refine wl_append (s := .tmp 91) (x := .tmp 95) rfl rfl (hrun1 _) ?_; clear hrun1))
              have HSEL := Lib.hid (show SelR w W2 x y z P (.slice a P.length c) (.slice ma M.length mc) from
                ⟨[], M, P, a, c, ma, mc, rfl, rfl, by simp, by rw [HM.out]; exact List.Perm.refl _, List.Pairwise.nil, fun s hs => absurd hs List.not_mem_nil, own_below HOW.out hbM, ownQ_cap HOM.out, ⟨wr.heap.size, W2.heap.size, own_sl Pk.enc_len HOM.out, Nat.le_refl _, fun g hg => by have := (World.ownsRow.lt HOW.out g hg).2; omega⟩, below_via HBW2.out hbM⟩)
              have hPlen : P.length + M.length ≤ 4194304 := by omega
              have HPL := Lib.hid hPlen
              have HML := Lib.hid (show (fresh1 (keysV x.v) (keysV y.v) (keysV z.v)).length = M.length by rw [HM.out])
              clear hPlen FR1N FR2 hbM hl3' hl2 hl1 hb2 hb1 hbw1 hsr
              obtain ⟨W6, hW6⟩ : ∃ W6, W6 = W2 := ⟨_, rfl⟩
              subst hW6
              go_wp2_with fail
              go_loopw [9, 13, 14, 15] (fun s9 s13 _ _ wr => SelR w wr x y z P s9 s13) (fun _ s13 _ _ _ => lenV s13)
              case atStart => exact HSEL.out
              case round =>
                obtain ⟨S, M', O, a', c', ma', mc', rfl, rfl, hO, hperm, hpw, hle, hown, hcap, ⟨lo, hi, hsl, hhi, hdis⟩, hbw⟩ := hrel
                have HO := Lib.hid hO
                have HPE := Lib.hid hperm
                have HPW := Lib.hid hpw
                have HLE := Lib.hid hle
                have HOWN := Lib.hid hown
                have HSL := Lib.hid hsl
                have HDIS := Lib.hid hdis
                have HBR := Lib.hid hbw
                have HHI := Lib.hid hhi
                have HCAP := Lib.hid hcap
                have hlen : O.length + M'.length ≤ 4194304 := by
                  have h1 := hperm.length_eq
                  have h2 := HML.out
                  have h3 := HPL.out
                  rw [List.length_append] at h1
                  rw [hO, List.length_append]
                  omega
                have HLEN := Lib.hid hlen
                have hml : M'.length ≤ 4194304 := by omega
                have HU := Lib.hid (fun (q : Pk) (hq : q ∈ M') => fresh_u (x := x) HY.out HZ.out HM3.out.2.1 HM3.out.2.2 (hperm.subset (List.mem_append_right S hq)))
                clear hO hperm hpw hle hown hsl hdis hbw hhi hcap hlen
                by_cases hM0 : 0 < M'.length
                · have hM0' : (0 : Int) < (M'.length : Int) := by omega
                  obtain ⟨W7, hW7⟩ : ∃ W7, W7 = wr := ⟨_, rfl⟩
                  subst hW7
                  go_wp2_with fail
                  go_loopw [14, 15] (fun s14 s15 wr => ∃ k i : Nat, k < M'.length ∧ 1 ≤ i ∧ i ≤ M'.length ∧ s14 = .int .i64 k ∧ s15 = .int .i64 i ∧ (∀ p, M'[k]? = some p → ∀ j q, j < i → M'[j]? = some q → LeP x.v y.v z.v p q) ∧ Below W7.heap.size W7 wr) (fun _ s15 _ => M'.length - (intOf s15).toNat)
                  case atStart =>
                    refine ⟨0, 1, hM0, Nat.le_refl _, hM0, by go_num, by go_num, fun p hp j q hj hq => ?_, Below.refl _ _⟩
                    obtain rfl : j = 0 := by omega
                    rw [hp] at hq
                    injection hq with hq
                    subst hq
                    obtain ⟨u, hu⟩ := HU.out p (List.mem_of_getElem? hp)
                    exact (leP_iff hu hu).2 (by rw [(cmpV_ord 256).refl trivial]; exact Int.le_refl _)
                  case round =>
                    obtain ⟨k, i, hk, hi1, hi2, rfl, rfl, hkl, hb7⟩ := hrel
                    have HKL := Lib.hid hkl
                    have HB7 := Lib.hid hb7
                    have hs7 := hb7.size
                    clear hkl
                    by_cases hlt : i < M'.length
                    · have ei : M'[i]? = some M'[i] := List.getElem?_eq_getElem hlt
                      have ek : M'[k]? = some M'[k] := List.getElem?_eq_getElem hk
                      generalize M'[i] = pi at ei
                      generalize M'[k] = pk at ek
                      obtain ⟨ui, hui⟩ := HU.out pi (List.mem_of_getElem? ei)
                      obtain ⟨uk, huk⟩ := HU.out pk (List.mem_of_getElem? ek)
                      have hwr : Below w.heap.size w wr := below_via HBR.out hb7
                      obtain ⟨b, o, hla, -, -, gb, c0, c1⟩ := pk_at HSL.out ei
                      obtain ⟨b', o', hla', -, -, gb', d0, d1⟩ := pk_at HSL.out ek
                      rw [← hb7.cell (p := ⟨_, _, none⟩) gb] at c0 c1
                      rw [← hb7.cell (p := ⟨_, _, none⟩) gb'] at d0 d1
                      subst hla
                      injection hla' with hla'
                      injection hla' with e1 e2
                      subst e1 e2
                      have gbr : b < wr.heap.size := by omega
                      have hlt' : (i : Int) < (M'.length : Int) := by omega
                      have hk' : (k : Int) < (M'.length : Int) := by omega
                      have hi0 : (0 : Int) ≤ (i : Int) := by omega
                      have hk0 : (0 : Int) ≤ (k : Int) := by omega
                      have hwm : IntKind.i64.wrap ((i : Int) + 1) = ((i + 1 : Nat) : Int) := by rw [IntWalk.i64_in _ (by omega)]; omega
                      have LD := Lib.hid (fun W (h : Below wr.heap.size wr W) => And.intro
                        (And.intro ((h.cell (p := ⟨b, o + i * 2, none⟩) gbr).trans c0) ((h.cell (p := ⟨b, o + i * 2 + 1, none⟩) gbr).trans c1))
                        (And.intro ((h.cell (p := ⟨b, o + k * 2, none⟩) gbr).trans d0) ((h.cell (p := ⟨b, o + k * 2 + 1, none⟩) gbr).trans d1)))
                      have VI := fun W (h : Below wr.heap.size wr W) => Lib.hid (value27_c W y z ((HY.out.up hwr).up h) ((HZ.out.up hwr).up h) pi ui hui.1)
                      have VK := fun W (h : Below wr.heap.size wr W) => Lib.hid (value27_c W y z ((HY.out.up hwr).up h) ((HZ.out.up hwr).up h) pk uk huk.1)
                      have CM0 := fun W (h : Below wr.heap.size wr W) => rCmp_c ui uk W ((hui.2.2.2.1.up hwr).up h) ((huk.2.2.2.1.up hwr).up h) hui.2.2.2.2.1 huk.2.2.2.2.1
                      have hcr : cmpR ui.v uk.v = cmpV 256 ui.v uk.v := by rw [cmpR, if_pos ⟨hui.2.2.1, huk.2.2.1⟩]
                      have HUI := Lib.hid hui
                      have HUK := Lib.hid huk
                      have HEI := Lib.hid ei
                      have HEK := Lib.hid ek
                      have HWR := Lib.hid hwr
                      clear c0 c1 d0 d1 hui huk ei ek hwr hb7
                      have hsg := sgn_cmp 256 ui.v uk.v
                      rw [hcr] at CM0
                      clear hcr
                      have next : ∀ (r : Int), cmpV 256 ui.v uk.v = r → (r < 0 → ∀ p, M'[i]? = some p → ∀ j q, j < i + 1 → M'[j]? = some q → LeP x.v y.v z.v p q) ∧ (0 ≤ r → ∀ p, M'[k]? = some p → ∀ j q, j < i + 1 → M'[j]? = some q → LeP x.v y.v z.v p q) := by
                        intro r hr
                        refine ⟨fun hneg p hp j q hj hq => ?_, fun hpos p hp j q hj hq => ?_⟩
                        · rw [HEI.out] at hp
                          injection hp with hp
                          subst hp
                          obtain ⟨uq, huq⟩ := HU.out q (List.mem_of_getElem? hq)
                          rcases Nat.lt_or_ge j i with hji | hji
                          · have h1 := (leP_iff HUK.out huq).1 (HKL.out pk HEK.out j q hji hq)
                            exact (leP_iff HUI.out huq).2 ((cmpV_ord 256).le trivial trivial trivial (by omega) h1).1
                          · obtain rfl : j = i := by omega
                            rw [HEI.out] at hq
                            injection hq with hq
                            subst hq
                            exact (leP_iff HUI.out HUI.out).2 (by rw [(cmpV_ord 256).refl trivial]; exact Int.le_refl _)
                        · rcases Nat.lt_or_ge j i with hji | hji
                          · exact HKL.out p hp j q hji hq
                          · obtain rfl : j = i := by omega
                            rw [HEI.out] at hq
                            injection hq with hq
                            subst hq
                            rw [HEK.out] at hp
                            injection hp with hp
                            subst hp
                            have h1 := (cmpV_ord 256).anti ui.v uk.v trivial trivial
                            exact (leP_iff HUK.out HUI.out).2 (by omega)
                      rcases hsg with h | h | h
                      · have HNX := Lib.hid ((next _ h).1 (by omega))
                        rw [h] at CM0
                        have CM := fun W h => Lib.hid (CM0 W h)
                        clear h next CM0
                        go_upto_region 23 with fail
                        refine wp_region_bl (by kernel_rfl) (by kernel_rfl) ?_
                        repeat (first | go_big_quiet_skip | (go_big_quiet_want; go_big_quiet_op; first | go_big_quiet_on | (refine ⟨_, fun _ _ => (by with_reducible rfl), ?_⟩; go_big_quiet_on) | (apply Exists.intro; refine ⟨fun w' hC => (by simp only [LD.out w' hC, Result.andThen]; exact ⟨trivial, rfl⟩), ?_⟩; go_big_quiet_on) | (apply Exists.intro; refine ⟨fun w' hC => (by (with_reducible refine (VI w' hC).out.mono ?_); exact fun e w2 ⟨he, hb⟩ => ⟨he, hC.trans (hb.mono hC.size)⟩), ?_⟩; go_big_quiet_on) | (apply Exists.intro; refine ⟨fun w' hC => (by (with_reducible refine (VK w' hC).out.mono ?_); exact fun e w2 ⟨he, hb⟩ => ⟨he, hC.trans (hb.mono hC.size)⟩), ?_⟩; go_big_quiet_on) | (apply Exists.intro; refine ⟨fun w' hC => (by (with_reducible refine (CM w' hC).out.mono ?_); exact fun e w2 ⟨he, hb⟩ => ⟨he, hC.trans (hb.mono hC.size)⟩), ?_⟩; go_big_quiet_on)))
                        refine wpQuiet_nil ?_; intro wz hbz
                        go_wp2_with fail
                        exact ⟨⟨i, i + 1, hlt, by omega, by omega, by go_num, by go_num, HNX.out, HB7.out.trans (hbz.mono hs7)⟩, by simp [intOf]; omega⟩
                      · have HNX := Lib.hid ((next _ h).2 (by omega))
                        rw [h] at CM0
                        have CM := fun W h => Lib.hid (CM0 W h)
                        clear h next CM0
                        go_upto_region 23 with fail
                        refine wp_region_bl (by kernel_rfl) (by kernel_rfl) ?_
                        repeat (first | go_big_quiet_skip | (go_big_quiet_want; go_big_quiet_op; first | go_big_quiet_on | (refine ⟨_, fun _ _ => (by with_reducible rfl), ?_⟩; go_big_quiet_on) | (apply Exists.intro; refine ⟨fun w' hC => (by simp only [LD.out w' hC, Result.andThen]; exact ⟨trivial, rfl⟩), ?_⟩; go_big_quiet_on) | (apply Exists.intro; refine ⟨fun w' hC => (by (with_reducible refine (VI w' hC).out.mono ?_); exact fun e w2 ⟨he, hb⟩ => ⟨he, hC.trans (hb.mono hC.size)⟩), ?_⟩; go_big_quiet_on) | (apply Exists.intro; refine ⟨fun w' hC => (by (with_reducible refine (VK w' hC).out.mono ?_); exact fun e w2 ⟨he, hb⟩ => ⟨he, hC.trans (hb.mono hC.size)⟩), ?_⟩; go_big_quiet_on) | (apply Exists.intro; refine ⟨fun w' hC => (by (with_reducible refine (CM w' hC).out.mono ?_); exact fun e w2 ⟨he, hb⟩ => ⟨he, hC.trans (hb.mono hC.size)⟩), ?_⟩; go_big_quiet_on)))
                        refine wpQuiet_nil ?_; intro wz hbz
                        go_wp2_with fail
                        exact ⟨⟨k, i + 1, hk, by omega, by omega, by go_num, by go_num, HNX.out, HB7.out.trans (hbz.mono hs7)⟩, by simp [intOf]; omega⟩
                      · have HNX := Lib.hid ((next _ h).2 (by omega))
                        rw [h] at CM0
                        have CM := fun W h => Lib.hid (CM0 W h)
                        clear h next CM0
                        go_upto_region 23 with fail
                        refine wp_region_bl (by kernel_rfl) (by kernel_rfl) ?_
                        repeat (first | go_big_quiet_skip | (go_big_quiet_want; go_big_quiet_op; first | go_big_quiet_on | (refine ⟨_, fun _ _ => (by with_reducible rfl), ?_⟩; go_big_quiet_on) | (apply Exists.intro; refine ⟨fun w' hC => (by simp only [LD.out w' hC, Result.andThen]; exact ⟨trivial, rfl⟩), ?_⟩; go_big_quiet_on) | (apply Exists.intro; refine ⟨fun w' hC => (by (with_reducible refine (VI w' hC).out.mono ?_); exact fun e w2 ⟨he, hb⟩ => ⟨he, hC.trans (hb.mono hC.size)⟩), ?_⟩; go_big_quiet_on) | (apply Exists.intro; refine ⟨fun w' hC => (by (with_reducible refine (VK w' hC).out.mono ?_); exact fun e w2 ⟨he, hb⟩ => ⟨he, hC.trans (hb.mono hC.size)⟩), ?_⟩; go_big_quiet_on) | (apply Exists.intro; refine ⟨fun w' hC => (by (with_reducible refine (CM w' hC).out.mono ?_); exact fun e w2 ⟨he, hb⟩ => ⟨he, hC.trans (hb.mono hC.size)⟩), ?_⟩; go_big_quiet_on)))
                        refine wpQuiet_nil ?_; intro wz hbz
                        go_wp2_with fail
                        exact ⟨⟨k, i + 1, hk, by omega, by omega, by go_num, by go_num, HNX.out, HB7.out.trans (hbz.mono hs7)⟩, by simp [intOf]; omega⟩
                    · obtain rfl : i = M'.length := by omega
                      have hge : ¬ (M'.length : Int) < (M'.length : Int) := by omega
                      have ek : M'[k]? = some M'[k] := List.getElem?_eq_getElem hk
                      generalize M'[k] = pk at ek
                      obtain ⟨b', o', hla', -, -, gb', d0, d1⟩ := pk_at HSL.out ek
                      rw [← hb7.cell (p := ⟨_, _, none⟩) gb'] at d0 d1
                      subst hla'
                      have hk' : (k : Int) < (M'.length : Int) := by omega
                      have hk0 : (0 : Int) ≤ (k : Int) := by omega
                      have HEK := Lib.hid ek
                      have hown2 : OwnQ wr w.heap.size (.slice a' O.length c') O := own_below HOWN.out hb7
                      have hw7 : w.heap.size ≤ wr.heap.size := by have := HBR.out.size; omega
                      have hlit : SlE Pk.enc 2 (wr.alloc (.cells #[.int .u8 pk.side, .int .i64 pk.at_] 95)) wr.heap.size (wr.heap.size + 1) (some ⟨wr.heap.size, 0, none⟩) [pk] := lit_sl (enc := Pk.enc) (size := 2) (l := [pk]) (t := 95) (fr := (0, 0)) (fun _ => rfl) (heap_alloc_new _ _)
                      obtain ⟨v2, W8, hrun, hown8, hgr, hat⟩ := app_rpk (c := 1) (own_below hown2 ((Below.refl _ _).alloc (Nat.le_refl _) _)) hlit (by have := HLEN.out; simp; omega) (by rw [World.size_alloc]; omega)
                      obtain ⟨O2, hO2⟩ : ∃ O2, O2 = O ++ [pk] := ⟨_, rfl⟩
                      rw [← hO2] at hown8
                      obtain ⟨a2, c2, rfl⟩ := own_formQ hown8
                      have HO2 := Lib.hid hO2
                      have HOWN8 := Lib.hid hown8
                      have HGR := Lib.hid hgr
                      have HAT := Lib.hid hat
                      have HOWN2 := Lib.hid hown2
                      have HB7E := Lib.hid hb7
                      clear ek hO2 hown8 hgr hat hown2 hb7 hlit
                      go_upto_region 26 with (at_builtin; refine wl_append (s := .tmp 128) (x := .tmp 133) rfl rfl (hrun _) ?_; clear hrun)
                      have hcap := HCAP.out
                      have hkc : (k : Int) ≤ (mc' : Int) := by omega
                      have hkc2 : (k : Int) + 1 ≤ (M'.length : Int) := by omega
                      have hk1 : (0 : Int) ≤ (k : Int) + 1 := by omega
                      have hwk : IntKind.i64.wrap ((k : Int) + 1) = (k : Int) + 1 := IntWalk.i64_in _ (by omega)
                      have hsl8 : SlE Pk.enc 2 W8 lo hi (some ⟨b', o', none⟩) M' := HSL.out.keep (by have := HGR.out.size; rw [World.size_alloc] at this; omega) fun g g1 g2 g3 => by
                        have h1 := HGR.out.block g (by rw [World.size_alloc]; omega) (fun e => HDIS.out g e.symm ⟨g1, g2⟩)
                        exact h1.trans ((((Below.refl wr.heap.size wr).alloc (Nat.le_refl _) _).block g (by omega)).trans (HB7E.out.block g g3))
                      have hs8 : wr.heap.size + 1 ≤ W8.heap.size := by have := HGR.out.size; rw [World.size_alloc] at this; omega
                      have hsd : W8.drew.heap.size = W8.heap.size := rfl
                      have hsl8d : SlE Pk.enc 2 W8.drew lo hi (some ⟨b', o', none⟩) M' := hsl8.below' ((Below.refl _ _).drew)
                      have htl : (M'.take k).length = k := by rw [List.length_take]; omega
                      obtain ⟨v9, W9, hrA, hown9, hgr9, -⟩ := app_rpk (c := mc') (l := []) (v := .slice none 0 0) (base := W8.drew.heap.size) (World.ownsRow_nil _ _ _ _) (hsl8d.take k) (by simp; omega) (Nat.le_refl _)
                      rw [htl] at hrA
                      rw [List.nil_append] at hown9
                      obtain ⟨a9, c9, rfl⟩ := own_formQ hown9
                      rw [htl] at hrA hown9
                      have hrA' : ∀ ty, (Builtin.append_ #[44, 44] ty #[.slice none 0 0, .slice (some ⟨b', o', none⟩) k mc']).run Tryz.prog W8.drew = .ok (.slice a9 k c9) W9 := hrA
                      have HOWN9 := Lib.hid hown9
                      have HGR9 := Lib.hid hgr9
                      have HS8 := Lib.hid hsl8d
                      clear hown9 hgr9 hsl8 hsl8d htl hsd
                      have hsl9 : SlE Pk.enc 2 W9 lo hi (some ⟨b', o', none⟩) M' := HS8.out.keep HGR9.out.size fun g _ _ g3 => HGR9.out.block g g3 (fun e => by cases e)
                      have hdl : (M'.drop (k + 1)).length = M'.length - (k + 1) := List.length_drop
                      have hslB : SlE Pk.enc 2 W9 lo hi (if mc' = k + 1 then some ⟨b', o', none⟩ else some ⟨b', o' + (k + 1) * 2, none⟩) (M'.drop (k + 1)) := by
                        by_cases hmc : mc' = k + 1
                        · intro h0; rw [hdl] at h0; omega
                        · rw [if_neg hmc]
                          intro h0
                          obtain ⟨bb, oo, ee, q1, q2, q3, q4⟩ := hsl9 (by omega)
                          cases ee
                          refine ⟨b', o' + (k + 1) * 2, rfl, q1, q2, q3, fun i y hy j u hu => ?_⟩
                          rw [List.getElem?_drop] at hy
                          have := q4 (k + 1 + i) y hy j u hu
                          rw [show o' + (k + 1) * 2 + i * 2 + j = o' + (k + 1 + i) * 2 + j by omega]
                          exact this
                      obtain ⟨v10, W10, hrB, hown10, hgr10, hat10⟩ := app_rpk (c := mc' - (k + 1)) HOWN9.out hslB (by simp; omega) (by have := HGR9.out.size; omega)
                      rw [hdl] at hrB
                      obtain ⟨M2, hM2⟩ : ∃ M2, M2 = M'.take k ++ M'.drop (k + 1) := ⟨_, rfl⟩
                      rw [← hM2] at hown10
                      obtain ⟨a10, c10, rfl⟩ := own_formQ hown10
                      have HM2 := Lib.hid hM2
                      have HOWN10 := Lib.hid hown10
                      have HGR10 := Lib.hid hgr10
                      clear hM2 hown10 hgr10 hat10 hsl9 hdl hslB
                      go_region_law (first
                        | (refine st_append3 (s := .const (.slice none 0 0)) (x := .tmp 137) (sv := .slice none 0 0) (xv := .slice (some ⟨b', o', none⟩) k mc') rfl rfl (by simp [Act.eval]) (by simp [Act.eval, Act.put]) hrA' ?_; clear hrA hrA')
                        | (refine st_append3 (s := .tmp 138) (x := .tmp 142) (sv := .slice a9 k c9) (xv := .slice (if mc' = k + 1 then some ⟨b', o', none⟩ else some ⟨b', o' + (k + 1) * 2, none⟩) (M'.length - (k + 1)) (mc' - (k + 1))) rfl rfl (by simp [Act.eval]) (by simp [Act.eval]) hrB ?_; clear hrB))
                      all_goals
                        go_wp2_with fail
                        have h89 : Below W8.heap.size W8 W9 := ((Below.refl W8.heap.size W8).drew).trans (below_of_grown HGR9.out (Nat.le_refl _) (fun k hk => by cases hk))
                        have h910 : Below W8.heap.size W9 W10 := below_of_grown HGR10.out h89.size (fun k hk => (World.ownsRow.lt HOWN9.out k hk).1)
                        have h810 := h89.trans h910
                        have hwr := below_via HBR.out HB7E.out
                        have hw8 : Below w.heap.size w W8 := (hwr.alloc hw7 _).grown HGR.out (by rw [World.size_alloc]; omega) (fun g hg => (World.ownsRow.lt HOWN2.out g hg).1)
                        refine ⟨⟨S ++ [pk], M2, O2, a2, c2, a10, c10, rfl, rfl, by rw [HO2.out, HO.out, List.append_assoc], by rw [HM2.out]; exact sel_perm HEK.out HPE.out, ?_, ?_, own_below HOWN8.out h810, ownQ_cap HOWN10.out, ⟨W8.heap.size, W10.heap.size, own_sl Pk.enc_len HOWN10.out, Nat.le_refl _, fun g hg => by have := (World.ownsRow.lt HOWN8.out g hg).2; omega⟩, below_via hw8 h810⟩, ?_⟩
                        · refine List.pairwise_append.2 ⟨HPW.out, List.pairwise_singleton _ _, fun s hs q hq => ?_⟩
                          rw [List.mem_singleton.1 hq]
                          exact HLE.out s hs pk (List.mem_of_getElem? HEK.out)
                        · intro s hs q hq
                          have hqm : q ∈ M' := by
                            rw [HM2.out] at hq
                            rcases List.mem_append.1 hq with hq | hq
                            · exact List.mem_of_mem_take hq
                            · exact List.mem_of_mem_drop hq
                          rcases List.mem_append.1 hs with hs | hs
                          · exact HLE.out s hs q hqm
                          · rw [List.mem_singleton.1 hs]
                            obtain ⟨j, hj⟩ := List.getElem?_of_mem hqm
                            exact HKL.out pk HEK.out j q (List.getElem?_eq_some_iff.1 hj).1 hj
                        · show M2.length < M'.length
                          rw [HM2.out, List.length_append, List.length_take, List.length_drop]
                          omega
                · obtain hM1 : M' = [] := List.length_eq_zero_iff.1 (by omega)
                  have hge : ¬ (0 : Int) < (M'.length : Int) := by omega
                  subst hM1
                  have HFIN := Lib.hid (show S.Perm (fresh1 (keysV x.v) (keysV y.v) (keysV z.v)) by have := HPE.out; rwa [List.append_nil] at this)
                  go_wp2_with fail
                  go_ret
                  exact ⟨O, a', c', rfl, fun h => Bool.noConfusion (HGOOD.out.symm.trans h), fun _ => ⟨S, by rw [HO.out, HP2.out], fun h => absurd h (by simpa using t1), fun h => absurd h (by simpa using t2), fun _ _ => ⟨HFIN.out, HPW.out⟩⟩, by have := HLEN.out; omega, HOWN.out, HBR.out⟩
end Go.Proofs.YtjihepdjcbpgoaaGreatDoor
