/-
  inarchlaw23's Great, words, lives: contracts; what both statements of outright.go ask besides. Conditions: the lists lie in memory, lengths and weights are bounded; strconv's table of powers holds what its initialiser lays.
-/
import Derived.Test.YtjihepdjcbpgoaaDoorCD
import Derived.Test.YtjihepdjcbpgoaaDoorVF
import Derived.Test.YtjihepdjcbpgoaaDoorV4
import Derived.Test.YtjihepdjcbpgoaaDoorVO
import Derived.Test.YtjihepdjcbpgoaaDoorTC
import Derived.Laws.OwnMore
import Derived.Test.YtjihepdjcbpgoaaDoorRB
namespace Go.Proofs.YtjihepdjcbpgoaaDoor
open Go.RowKit Go.Sort

def allMay (l : List Val) : Bool := l.all fun v => v.may
theorem allMay_iff {l : List Val} : allMay l = true ↔ ∀ v ∈ l, v.may = true := by simp [allMay]
def oneV (b : ByteArray) : Val := ⟨3, b, [], []⟩
theorem one_may (b : ByteArray) : (oneV b).may = true := by
  rw [← Val.may_eq, plain_within]
  simp [Val.deepR_eq, Val.plain_eq, oneV, Val.shape]
theorem canon_one (b : ByteArray) : ∀ n, canon n (oneV b) = oneV b
  | 0 => rfl
  | n + 1 => by rw [canon_s, if_neg (by simp [oneV])]; rfl
theorem one_key (b c : ByteArray) : (oneV b).key = (oneV c).key ↔ b = c := by
  rw [key_same (one_may b) (one_may c), cmpV_zero 256 _ _ (by rw [Val.may_eq]; exact one_may b) (by rw [Val.may_eq]; exact one_may c), canon_one, canon_one]
  constructor
  · intro h; exact congrArg Val.t h
  · intro h; rw [h]
theorem one_labs (bs cs : List ByteArray) : SameM bs cs (labs 0 (bs.map oneV)) (labs 1 (cs.map oneV)) := by
  have fine : ∀ l : List ByteArray, ∀ v ∈ l.map oneV, v.may = true := fun l v hv => by
    obtain ⟨b, -, rfl⟩ := List.mem_map.1 hv
    exact one_may b
  rw [labs_fine 0 (fine bs), labs_fine 1 (fine cs)]
  refine ⟨by simp, by simp, fun i k x y x' y' h1 h2 h3 h4 => ?_⟩
  rw [List.getElem?_map, List.getElem?_map, h1] at h3
  rw [List.getElem?_map, List.getElem?_map, h2] at h4
  cases h3; cases h4
  simp [one_key]

def oneA (b : ByteArray) : AV := ⟨3, b, none, 0, [], none, 0, []⟩
theorem one_rd (b : ByteArray) (w : World) (hb : b.size ≤ 1000) : Go.Proofs.YtjihepdjcbpgoaaDoor.Rd w (oneA b) ∧ (oneA b).w ≤ 1048576 := by
  refine ⟨leaf_in _ _ (by simp), ?_⟩
  show (oneA b).v.w ≤ _
  rw [Val.w_eq]
  simp [oneA, AV.v_eq]
  omega
theorem early_fine {a : List Val} (h : allMay a = true) {P : List (Nat × Nat)} (he : Early (labs 0 a) (labs 1 a) 0 0 P) : P = diag a.length := by
  have hf := allMay_iff.1 h
  have := early_self (labs 0 a)
  rw [labs_len] at this
  rw [labs_fine 0 hf] at this he
  rw [labs_fine 1 hf] at he
  exact early_one he this

theorem same_mt {a b : List Val} {i k : Nat} (h : Mt (labs 0 a) (labs 1 b) i k) : ∃ v u, a[i]? = some v ∧ b[k]? = some u ∧ sameV v u = true := by
  have hl := h.lt
  rw [labs_len, labs_len] at hl
  obtain ⟨x, hx, hy⟩ := h
  have h1 := List.getElem?_eq_getElem hl.1
  have h2 := List.getElem?_eq_getElem hl.2
  exact ⟨_, _, h1, h2, (labs_same h1 h2).1 (hx.trans hy.symm)⟩
theorem lv_at {x : LA} {i : Nat} {v : Val} (h : x.v[i]? = some v) : ∃ u : AV, x.l[i]? = some u ∧ u.v = v := by
  rw [LA.v, List.getElem?_map] at h
  cases e : x.l[i]? with
  | none => rw [e] at h; cases h
  | some u => rw [e] at h; exact ⟨u, rfl, Option.some.inj h⟩
theorem pbox {w : World} {g : Nat} {a b : Value} {t : TypeId} (h : w.heap[g]? = some (.cells #[a, b] t (0, 0))) : w.cell? ⟨g, 0, none⟩ = some a ∧ w.cell? ⟨g, 1, none⟩ = some b := by
  refine ⟨?_, ?_⟩ <;> simp [World.cell?, h]
set_option maxRecDepth 100000 in
set_option maxHeartbeats 3200000 in
theorem great23_c (w : World) (A : Option Addr) (c : Nat) (L : List LA) (h : SlE LA.enc 1 w 0 w.heap.size A L) (hL : ∀ q ∈ L, q.Rd w) (hl : L.length ≤ 1048576) : Calls Tryd.prog 21 #[.slice A L.length c] w (RetB w) := by
  have H := Lib.hid h
  have HL := Lib.hid hL
  clear h hL
  go_enter Tryd.func21, Tryd.ntmps21
  go_wp2_with fail
  go_loopw [3, 4, 5] (fun s3 s4 _ wr => ∃ n i : Nat, i ≤ L.length ∧ s3 = .int .i64 n ∧ s4 = .int .i64 i ∧ n ≤ 1050079 ∧ Below w.heap.size w wr) (fun _ s4 _ _ => L.length - (intOf s4).toNat)
  case atStart => exact ⟨0, 0, Nat.zero_le _, rfl, rfl, by omega, Below.refl _ _⟩
  case round =>
    obtain ⟨n, i, hi, rfl, rfl, hn, hb⟩ := hrel
    by_cases hlt : i < L.length
    · have hlt' : (i : Int) < (L.length : Int) := by omega
      have hk : L[i]? = some L[i] := List.getElem?_eq_getElem hlt
      have hmem : L[i] ∈ L := List.getElem_mem hlt
      generalize L[i] = q at *
      obtain ⟨b, off, hla, -, hb1, hb2, h0⟩ := la_at H.out hk
      have hq := HL.out q hmem
      have HQ := Lib.hid hq
      have hqs := hq.sl
      have hql := hq.len
      have HB := Lib.hid hb
      have HQS := Lib.hid hqs
      clear hq hqs hk hmem hb
      rw [hla]
      go_wp2_with fail
      go_loopw [3, 5] (fun s3 s5 wi => ∃ n k : Nat, k ≤ q.l.length ∧ s3 = .int .i64 n ∧ s5 = .int .i64 k ∧ n ≤ 1050079 ∧ Below w.heap.size w wi) (fun _ s5 _ => q.l.length - (intOf s5).toNat)
      case atStart => exact ⟨n, 0, Nat.zero_le _, rfl, rfl, hn, HB.out⟩
      case round =>
        obtain ⟨n, k, hk, rfl, rfl, hn, hb⟩ := hrel
        have h0' := (hb.cell (p := ⟨_, _, none⟩) hb2).trans h0
        have hbb : b < wr.heap.size := Nat.lt_of_lt_of_le hb2 hb.size
        by_cases hkl : k < q.l.length
        · have hkl' : (k : Int) < (q.l.length : Int) := by omega
          by_cases hn15 : n < 1500
          · have hn15' : (n : Int) < 1500 := by omega
            have hk2 : q.l[k]? = some q.l[k] := List.getElem?_eq_getElem hkl
            have hmem : q.l[k] ∈ q.l := List.getElem_mem hkl
            generalize q.l[k] = y at *
            obtain ⟨b2, off2, hla2, -, hc1, hc2, g0, g1, g2, g3⟩ := vals_at HQS.out hk2
            rw [← hb.cell (p := ⟨_, _, none⟩) hc2] at g0 g1 g2 g3
            have hbb2 : b2 < wr.heap.size := Nat.lt_of_lt_of_le hc2 hb.size
            obtain ⟨hyr, hyw⟩ := HQ.out.kids y hmem
            have HWT := Lib.hid (weight_c y wr (hyr.up hb) hyw)
            have hyw2 : y.v.w ≤ 1048576 := hyw
            have HBB := Lib.hid hb
            rw [hla2] at h0'
            clear hb hk2 hmem hla2 hyr hyw
            have hw1 : IntKind.i64.wrap ((n : Int) + 3) = ((n + 3 : Nat) : Int) := by rw [IntWalk.i64_in _ (by omega)]; omega
            have hwk : IntKind.i64.wrap ((k : Int) + 1) = ((k + 1 : Nat) : Int) := by rw [IntWalk.i64_in _ (by omega)]; omega
            go_wp2_with (go_at_call 26; refine HWT.out.mono ?_; rintro e w2 ⟨r, hr, rfl, hb3⟩
                         have hr2 : r ≤ y.v.w := hr.1
                         have hw2 : IntKind.i64.wrap (((n + 3 : Nat) : Int) + (r : Int)) = ((n + 3 + r : Nat) : Int) := by rw [IntWalk.i64_in _ (by omega)]; omega)
            exact ⟨⟨n + 3 + r, k + 1, by omega, by go_num, by go_num, by omega, below_via HBB.out hb3⟩, by simp [intOf]; omega⟩
          · have hn15' : ¬ (n : Int) < 1500 := by omega
            have hwi : IntKind.i64.wrap ((i : Int) + 1) = ((i + 1 : Nat) : Int) := by rw [IntWalk.i64_in _ (by omega)]; omega
            go_wp2_with fail
            exact ⟨⟨n, i + 1, by omega, rfl, by go_num, hn, hb⟩, by simp [intOf]; omega⟩
        · have hkl' : ¬ (k : Int) < (q.l.length : Int) := by omega
          have hwi : IntKind.i64.wrap ((i : Int) + 1) = ((i + 1 : Nat) : Int) := by rw [IntWalk.i64_in _ (by omega)]; omega
          go_wp2_with fail
          exact ⟨⟨n, i + 1, by omega, rfl, by go_num, hn, hb⟩, by simp [intOf]; omega⟩
    · have hge : ¬ (i : Int) < (L.length : Int) := by omega
      go_wp2_with fail
      go_ret
      exact ⟨_, rfl, hb⟩
/-- Texts, as values, in memory. -/
def MadeC (ss : List ByteArray) (w : World) (e : Ending) (w' : World) : Prop := ∃ y : LA, e = .returned (.slice y.a y.l.length y.c) ∧ y.v = ss.map oneV ∧ y.Rd w' ∧ Below w.heap.size w w'
set_option maxRecDepth 100000 in
set_option maxHeartbeats 3200000 in
theorem words23_c (w : World) (A : Option Addr) (c0 : Nat) (ss : List ByteArray) (h : SlE strE 1 w 0 w.heap.size A ss) (hl : ss.length ≤ 1000) (hss : ∀ s ∈ ss, s.size ≤ 1000) : Calls Tryd.prog 35 #[.slice A ss.length c0] w (MadeC ss w) := by
  have H := Lib.hid h
  have HSS := Lib.hid hss
  clear h hss
  go_enter Tryd.func35, Tryd.ntmps35
  go_wp2_with fail
  go_loopw [3, 4] (fun s3 s4 wr => ∃ (i : Nat) (ys : List AV) (a : Option Addr) (c : Nat), i ≤ ss.length ∧ s4 = .int .i64 i ∧ ys = (ss.take i).map oneA ∧ s3 = .slice a ys.length c ∧ OwnV wr w.heap.size (.slice a ys.length c) ys ∧ Below w.heap.size w wr) (fun _ s4 _ => ss.length - (intOf s4).toNat)
  case atStart => exact ⟨0, [], none, 0, Nat.zero_le _, by go_num, rfl, rfl, ⟨rfl, .inl ⟨rfl, rfl⟩⟩, Below.refl _ _⟩
  case round =>
    obtain ⟨i, ys, a, c, hi, rfl, hys, rfl, hown, hb⟩ := hrel
    have hyl : ys.length = i := by rw [hys, List.length_map, List.length_take]; omega
    have HYS := Lib.hid hys
    have HYL := Lib.hid hyl
    have HOW := Lib.hid hown
    have HB := Lib.hid hb
    have hsz := hb.size
    by_cases hlt : i < ss.length
    · have hlt' : (i : Int) < (ss.length : Int) := by omega
      have hi0 : (0 : Int) ≤ (i : Int) := by omega
      have hwi : IntKind.i64.wrap ((i : Int) + 1) = ((i + 1 : Nat) : Int) := by rw [IntWalk.i64_in _ (by omega)]; omega
      have hk : ss[i]? = some ss[i] := List.getElem?_eq_getElem hlt
      have htk : ss.take (i + 1) = ss.take i ++ [ss[i]] := by rw [List.take_add_one, hk]; rfl
      generalize ss[i] = s at *
      obtain ⟨b, off, hla, -, -, hb2, ct⟩ := key_at H.out hk
      rw [← hb.cell (p := ⟨_, _, none⟩) hb2] at ct
      have hbb : b < wr.heap.size := by omega
      obtain ⟨z, hz⟩ : ∃ z, z = oneA s := ⟨_, rfl⟩
      have hba := (Below.refl wr.heap.size wr).alloc (Nat.le_refl _) (.cells #[.int .u8 3, .string s, .slice none 0 0, .slice none 0 0] 28)
      have hlit : SlE AV.enc 4 (wr.alloc (.cells #[.int .u8 3, .string s, .slice none 0 0, .slice none 0 0] 28)) wr.heap.size (wr.heap.size + 1) (some ⟨wr.heap.size, 0, none⟩) [z] := by
        rw [hz]
        exact lit_sl (enc := AV.enc) (size := 4) (l := [oneA s]) (t := 28) (fr := (0, 0)) AV.enc_len (heap_alloc_new _ _)
      obtain ⟨v', W', hrun, hown', hgr, -⟩ := app_val (c := 1) (own_below hown hba) hlit (by simp; omega) (by simp; omega)
      obtain ⟨ys', hys'⟩ : ∃ ys', ys' = ys ++ [z] := ⟨_, rfl⟩
      rw [← hys'] at hown'
      obtain ⟨a', c', rfl⟩ := own_formV hown'
      have HYS' := Lib.hid hys'
      have HZ := Lib.hid hz
      have HOW' := Lib.hid hown'
      have HGR := Lib.hid hgr
      have HBA := Lib.hid hba
      have HTK := Lib.hid htk
      clear hys hyl hown hb hba hlit hys' hz hown' hgr hk htk
      subst hla
      go_wp2_with (at_builtin; refine wl_append (s := .tmp 11) (x := .tmp 17) rfl rfl (hrun _) ?_; clear hrun)
      refine ⟨⟨i + 1, ys', a', c', by omega, by go_num, ?_, rfl, HOW'.out, ?_⟩, by simp [intOf]; omega⟩
      · rw [HYS'.out, HYS.out, HZ.out, HTK.out, List.map_append]; rfl
      · exact (HB.out.trans (HBA.out.mono HB.out.size)).grown HGR.out (by have := HBA.out.size; omega) (fun q hq => (World.ownsRow.lt HOW.out q hq).1)
    · obtain rfl : i = ss.length := by omega
      have hge : ¬ (ss.length : Int) < (ss.length : Int) := by omega
      clear hys hyl hown hb
      go_wp2_with fail
      go_ret
      have hye := HYS.out
      rw [List.take_length] at hye
      refine ⟨⟨a, ys, c⟩, rfl, ?_, ⟨(own_sl AV.enc_len HOW.out).widen (Nat.zero_le _) (Nat.le_refl _), by show ys.length ≤ _; rw [HYL.out]; omega, fun y hy => ?_⟩, HB.out⟩
      · show ys.map AV.v = _
        rw [hye, List.map_map]
        exact List.map_congr_left fun s _ => by simp [oneA, oneV, AV.v_eq]
      · have hy' : y ∈ ys := hy
        rw [hye] at hy'
        obtain ⟨s, hs, rfl⟩ := List.mem_map.1 hy'
        exact one_rd _ _ (HSS.out s hs)
def fW (n : Nat) : ByteArray := ⟨#[UInt8.ofNat n]⟩
theorem word_labs (X Y : List Nat) (hi : ∀ x ∈ X, ∀ y ∈ Y, fW x = fW y → x = y) : SameM X Y (labs 0 ((X.map fW).map oneV)) (labs 1 ((Y.map fW).map oneV)) := by
  obtain ⟨h1, h2, h3⟩ := one_labs (X.map fW) (Y.map fW)
  refine ⟨by rw [← h1]; simp, by rw [← h2]; simp, fun i k x y x' y' g1 g2 g3 g4 => ?_⟩
  rw [← h3 i k (fW x) (fW y) x' y' (by rw [List.getElem?_map, g1]; rfl) (by rw [List.getElem?_map, g2]; rfl) g3 g4]
  exact ⟨fun e => by rw [e], hi x (List.mem_of_getElem? g1) y (List.mem_of_getElem? g2)⟩
theorem exc1 : Early [97, 98, 99] [97, 120, 99] 0 0 [(0, 0), (2, 2)] := by
  refine early_take (j := 0) ⟨97, rfl, rfl⟩ (Nat.le_refl _) rfl (fun q h1 h2 => by omega) ?_
  refine early_skip (fun q h1 hm => ?_) ?_
  · exfalso
    have hl := hm.lt.2
    simp at hl
    obtain rfl | rfl : q = 1 ∨ q = 2 := by omega
    all_goals simp [Mt] at hm
  refine early_take (j := 2) ⟨99, rfl, rfl⟩ (by omega) (by simp [lcsT, lcsL]) (fun q h1 h2 => ?_) ?_
  · obtain rfl : q = 1 := by omega
    simp [Mt]
  exact .done (lcsT_end_l (by simp))
theorem exc2 : Early [97, 98, 99] [97, 98, 99, 100] 0 0 [(0, 0), (1, 1), (2, 2)] := by
  refine early_take (j := 0) ⟨97, rfl, rfl⟩ (Nat.le_refl _) rfl (fun q h1 h2 => by omega) ?_
  refine early_take (j := 1) ⟨98, rfl, rfl⟩ (Nat.le_refl _) rfl (fun q h1 h2 => by omega) ?_
  refine early_take (j := 2) ⟨99, rfl, rfl⟩ (Nat.le_refl _) rfl (fun q h1 h2 => by omega) ?_
  exact .done (lcsT_end_l (by simp))
def exC : List Ck := [⟨true, ⟨0, 0, 0⟩, ⟨1, 1, 1⟩⟩, ⟨false, ⟨1, 1, 1⟩, ⟨2, 2, 2⟩⟩, ⟨true, ⟨2, 2, 2⟩, ⟨3, 3, 3⟩⟩, ⟨false, ⟨3, 3, 3⟩, ⟨3, 3, 4⟩⟩]
theorem ex_chunks : chunksL (anc [(0, 0), (2, 2)] [(0, 0), (1, 1), (2, 2)]) 3 ⟨3, 3, 4⟩ = exC := by decide
theorem ex_of {x y z : LA} (h1 : x.v = [fW 97, fW 98, fW 99].map oneV) (h2 : y.v = [fW 97, fW 120, fW 99].map oneV) (h3 : z.v = [fW 97, fW 98, fW 99, fW 100].map oneV) {P Q : List (Nat × Nat)} (hP : Early (labs 0 x.v) (labs 1 y.v) 0 0 P) (hQ : Early (labs 0 x.v) (labs 1 z.v) 0 0 Q) :
    chunksL (anc P Q) x.l.length ⟨x.l.length, y.l.length, z.l.length⟩ = exC := by
  have l1 : x.l.length = 3 := (List.length_map AV.v).symm.trans (congrArg List.length h1)
  have l2 : y.l.length = 3 := (List.length_map AV.v).symm.trans (congrArg List.length h2)
  have l3 : z.l.length = 4 := (List.length_map AV.v).symm.trans (congrArg List.length h3)
  rw [h1, h2] at hP
  rw [h1, h3] at hQ
  obtain rfl := early_one hP ((word_labs [97, 98, 99] [97, 120, 99] (by decide)).early exc1)
  obtain rfl := early_one hQ ((word_labs [97, 98, 99] [97, 98, 99, 100] (by decide)).early exc2)
  rw [l1, l2, l3]
  exact ex_chunks
theorem ck_dec (c d : Ck) : decide (c = d) = decide (c.st = d.st ∧ (c.f.b : Int) = d.f.b ∧ (c.t.b : Int) = d.t.b ∧ (c.f.l : Int) = d.f.l ∧ (c.t.l : Int) = d.t.l ∧ (c.f.r : Int) = d.f.r ∧ (c.t.r : Int) = d.t.r) := by
  obtain ⟨c0, ⟨c1, c2, c3⟩, ⟨c4, c5, c6⟩⟩ := c
  obtain ⟨d0, ⟨d1, d2, d3⟩, ⟨d4, d5, d6⟩⟩ := d
  simp only [Ck.mk.injEq, T3.mk.injEq, Int.natCast_inj]
  apply decide_eq_decide.2
  constructor
  · rintro ⟨h0, ⟨h1, h2, h3⟩, h4, h5, h6⟩; exact ⟨h0, h1, h4, h2, h5, h3, h6⟩
  · rintro ⟨h0, h1, h4, h2, h5, h3, h6⟩; exact ⟨h0, ⟨h1, h2, h3⟩, h4, h5, h6⟩
set_option maxRecDepth 100000 in
set_option maxHeartbeats 3200000 in
theorem eqi_ck (w : World) (c d : Ck) : (Op.equalIn 10000 49 c.val d.val).run Tryd.prog w = .ok (decide (c = d)) w := by
  rw [ck_dec]
  simp [go_sem]
  repeat' split
  all_goals simp_all
set_option maxRecDepth 100000 in
set_option maxHeartbeats 3200000 in
theorem eql_ck (w : World) (c d : Ck) : (binOp .eql 49 c.val d.val).run Tryd.prog w = .ok (.bool (decide (c = d))) w := by
  rw [run_eql_struct, eqi_ck]
  rfl
set_option maxRecDepth 100000 in
set_option maxHeartbeats 3200000 in
theorem span_c (w : World) (p q : Int) : Calls Tryd.prog 24 #[.int .i64 p, .int .i64 q] w (Ret (.agg #[.int .i64 p, .int .i64 q]) w) := by
  go_enter Tryd.func24, Tryd.ntmps24
  go_wp2_with fail
  refine bodyPost_ret (v := .agg #[.int .i64 p, .int .i64 q]) (by simp [results, Tryd.results24, go_sem]) rfl ⟨rfl, (by repeat (first | exact Below.refl _ _ | refine Below.drew ?_ | refine below_drewN ?_ _ | refine Below.alloc ?_ (by first | omega | (simp; done) | (simp; omega)) _))⟩
theorem ex_at {w : World} {base cap : Nat} {a : Option Addr} (h : OwnCk w base (.slice a exC.length cap) exC) : ∃ g, a = some ⟨g, 0, none⟩ ∧ g < w.heap.size ∧ ∀ W : World, W.heap[g]? = w.heap[g]? → W.cell? ⟨g, 0, none⟩ = some (.bool true) ∧ W.cell? ⟨g, 7, none⟩ = some (.bool false) ∧ W.cell? ⟨g, 8, none⟩ = some (.int .i64 1) ∧ W.cell? ⟨g, 9, none⟩ = some (.int .i64 2) ∧ W.cell? ⟨g, 10, none⟩ = some (.int .i64 1) ∧ W.cell? ⟨g, 11, none⟩ = some (.int .i64 2) ∧ W.cell? ⟨g, 12, none⟩ = some (.int .i64 1) ∧ W.cell? ⟨g, 13, none⟩ = some (.int .i64 2) ∧ W.cell? ⟨g, 14, none⟩ = some (.bool true) ∧ W.cell? ⟨g, 15, none⟩ = some (.int .i64 2) ∧ W.cell? ⟨g, 16, none⟩ = some (.int .i64 3) ∧ W.cell? ⟨g, 17, none⟩ = some (.int .i64 2) ∧ W.cell? ⟨g, 18, none⟩ = some (.int .i64 3) ∧ W.cell? ⟨g, 19, none⟩ = some (.int .i64 2) ∧ W.cell? ⟨g, 20, none⟩ = some (.int .i64 3) ∧ W.cell? ⟨g, 21, none⟩ = some (.bool false) ∧ W.cell? ⟨g, 22, none⟩ = some (.int .i64 3) ∧ W.cell? ⟨g, 23, none⟩ = some (.int .i64 3) ∧ W.cell? ⟨g, 24, none⟩ = some (.int .i64 3) ∧ W.cell? ⟨g, 25, none⟩ = some (.int .i64 3) ∧ W.cell? ⟨g, 26, none⟩ = some (.int .i64 3) ∧ W.cell? ⟨g, 27, none⟩ = some (.int .i64 4) := by
  obtain ⟨g, cap', hv, h1, h2⟩ := h.form (by decide)
  cases hv
  refine ⟨g, rfl, h2, fun W hW => ?_⟩
  have q := fun (j : Nat) (hj : j < 28) => (World.cell?_of_block (a := ⟨g, j, none⟩) hW).trans (World.ownsRow.cellAt h j hj)
  exact ⟨q 0 (by decide), q 7 (by decide), q 8 (by decide), q 9 (by decide), q 10 (by decide), q 11 (by decide), q 12 (by decide), q 13 (by decide), q 14 (by decide), q 15 (by decide), q 16 (by decide), q 17 (by decide), q 18 (by decide), q 19 (by decide), q 20 (by decide), q 21 (by decide), q 22 (by decide), q 23 (by decide), q 24 (by decide), q 25 (by decide), q 26 (by decide), q 27 (by decide)⟩
set_option maxRecDepth 100000 in
set_option maxHeartbeats 3200000 in
theorem lives23_c (w : World) (hP : Pow w) : Calls Tryd.prog 22 #[] w (Ret (.bool true) w) := by
  have HP := Lib.hid hP
  clear hP
  have lit3 : ∀ (W : World) (a b c : ByteArray), SlE strE 1 (W.alloc (.cells #[.string a, .string b, .string c] 9)) 0 (W.alloc (.cells #[.string a, .string b, .string c] 9)).heap.size (some ⟨W.heap.size, 0, none⟩) [a, b, c] := fun W a b c => (lit_sl (enc := strE) (size := 1) (l := [a, b, c]) (t := 9) (fr := (0, 0)) (fun _ => rfl) (heap_alloc_new _ _)).widen (Nat.zero_le _) (by simp)
  have lit4 : ∀ (W : World) (a b c d : ByteArray), SlE strE 1 (W.alloc (.cells #[.string a, .string b, .string c, .string d] 9)) 0 (W.alloc (.cells #[.string a, .string b, .string c, .string d] 9)).heap.size (some ⟨W.heap.size, 0, none⟩) [a, b, c, d] := fun W a b c d => (lit_sl (enc := strE) (size := 1) (l := [a, b, c, d]) (t := 9) (fr := (0, 0)) (fun _ => rfl) (heap_alloc_new _ _)).widen (Nat.zero_le _) (by simp)
  have hsz : ∀ n, (fW n).size ≤ 1000 := fun n => by show 1 ≤ 1000; omega
  have ba := fun (W : World) (o : Obj) => (Below.refl W.heap.size W).alloc (Nat.le_refl _) o
  have hW1 := fun W => Lib.hid (words23_c _ _ 3 [fW 97, fW 98, fW 99] (lit3 W _ _ _) (by simp) (by simp [hsz]))
  have hW2 := fun W => Lib.hid (words23_c _ _ 3 [fW 97, fW 120, fW 99] (lit3 W _ _ _) (by simp) (by simp [hsz]))
  have hW3 := fun W => Lib.hid (words23_c _ _ 4 [fW 97, fW 98, fW 99, fW 100] (lit4 W _ _ _ _) (by simp) (by simp [hsz]))
  clear lit3 lit4 hsz
  go_enter Tryd.func22, Tryd.ntmps22
  go_upto_region 2 with (first
    | (have kq3 := k2; go_at_call 35; refine (hW3 _).out.mono ?_; rintro e w3 ⟨y3, rfl, hv3, hr3, hb3⟩
       have hbb3 := below_via (ba _ _) hb3
       have hM := Lib.hid (of_c w3 y1 y2 y3 ((HR1.out.up HB2.out).up hbb3) (HR2.out.up hbb3) hr3 (HP.out.below (below_via (below_via HB1.out HB2.out) hbb3)))
       have HV3 := Lib.hid hv3
       have HB3 := Lib.hid hbb3
       have k3 := trivial
       clear hv3 hr3 hb3 hbb3)
    | (have kq2 := k1; go_at_call 35; refine (hW2 _).out.mono ?_; rintro e w2 ⟨y2, rfl, hv2, hr2, hb2⟩
       have HB2 := Lib.hid (below_via (ba _ _) hb2)
       have HR2 := Lib.hid hr2
       have HV2 := Lib.hid hv2
       have k2 := trivial
       clear hv2 hr2 hb2)
    | (go_at_call 35; refine (hW1 _).out.mono ?_; rintro e w1 ⟨y1, rfl, hv1, hr1, hb1⟩
       have HB1 := Lib.hid (below_via (ba _ _) hb1)
       have HR1 := Lib.hid hr1
       have HV1 := Lib.hid hv1
       have k1 := trivial
       clear hv1 hr1 hb1)
    | (go_at_call 23; refine hM.out.mono ?_; rintro e w4 ⟨P, Q, C, a, cap, heP, heQ, hC, -, rfl, hown, hb4⟩
       have hCe := hC.trans (ex_of HV1.out HV2.out HV3.out heP heQ)
       subst hCe
       obtain ⟨g, rfl, hg, hcel⟩ := ex_at hown
       rw [show exC.length = 4 from rfl]
       have HB4 := Lib.hid hb4
       have HCEL := Lib.hid hcel
       clear hC heP heQ hown hb4 hcel))
  have heq0 : ∀ W : World, (Op.equalIn 10000 49 (.agg #[.bool false, .int .i64 1, .int .i64 2, .int .i64 1, .int .i64 2, .int .i64 1, .int .i64 2]) (.agg #[.bool false, .int .i64 1, .int .i64 2, .int .i64 1, .int .i64 2, .int .i64 1, .int .i64 2])).run Tryd.prog W = .ok true W := fun W => (eqi_ck W ⟨false, ⟨1, 1, 1⟩, ⟨2, 2, 2⟩⟩ ⟨false, ⟨1, 1, 1⟩, ⟨2, 2, 2⟩⟩).trans (by rw [decide_eq_true rfl])
  have heq1 : ∀ W : World, (Op.equalIn 10000 49 (.agg #[.bool true, .int .i64 2, .int .i64 3, .int .i64 2, .int .i64 3, .int .i64 2, .int .i64 3]) (.agg #[.bool true, .int .i64 2, .int .i64 3, .int .i64 2, .int .i64 3, .int .i64 2, .int .i64 3])).run Tryd.prog W = .ok true W := fun W => (eqi_ck W ⟨true, ⟨2, 2, 2⟩, ⟨3, 3, 3⟩⟩ ⟨true, ⟨2, 2, 2⟩, ⟨3, 3, 3⟩⟩).trans (by rw [decide_eq_true rfl])
  have heq2 : ∀ W : World, (Op.equalIn 10000 49 (.agg #[.bool false, .int .i64 3, .int .i64 3, .int .i64 3, .int .i64 3, .int .i64 3, .int .i64 4]) (.agg #[.bool false, .int .i64 3, .int .i64 3, .int .i64 3, .int .i64 3, .int .i64 3, .int .i64 4])).run Tryd.prog W = .ok true W := fun W => (eqi_ck W ⟨false, ⟨3, 3, 3⟩, ⟨3, 3, 4⟩⟩ ⟨false, ⟨3, 3, 3⟩, ⟨3, 3, 4⟩⟩).trans (by rw [decide_eq_true rfl])
  have LD := Lib.hid (fun W (h : Below w4.heap.size w4 W) => And.intro (HCEL.out W (h.block g hg)) (And.intro (heq0 W) (And.intro (heq1 W) (heq2 W))))
  have S12 := fun W (h : Below w4.heap.size w4 W) => Lib.hid (span_c W 1 2)
  have S23 := fun W (h : Below w4.heap.size w4 W) => Lib.hid (span_c W 2 3)
  have S33 := fun W (h : Below w4.heap.size w4 W) => Lib.hid (span_c W 3 3)
  have S34 := fun W (h : Below w4.heap.size w4 W) => Lib.hid (span_c W 3 4)
  clear heq0 heq1 heq2 HCEL hM hW1 hW2 hW3
  refine wp_region_bl (by kernel_rfl) (by kernel_rfl) ?_
  repeat (first | go_big_quiet_skip | (go_big_quiet_want; go_big_quiet_op; first | go_big_quiet_on | (refine ⟨_, fun _ _ => (by with_reducible rfl), ?_⟩; go_big_quiet_on) | (apply Exists.intro; refine ⟨fun w' hC => (by simp only [LD.out w' hC, Result.andThen]; exact ⟨trivial, rfl⟩), ?_⟩; go_big_quiet_on) | (apply Exists.intro; refine ⟨fun w' hC => (by (with_reducible refine (S12 w' hC).out.mono ?_); exact fun e w2 ⟨he, hb⟩ => ⟨he, hC.trans (hb.mono hC.size)⟩), ?_⟩; go_big_quiet_on) | (apply Exists.intro; refine ⟨fun w' hC => (by (with_reducible refine (S23 w' hC).out.mono ?_); exact fun e w2 ⟨he, hb⟩ => ⟨he, hC.trans (hb.mono hC.size)⟩), ?_⟩; go_big_quiet_on) | (apply Exists.intro; refine ⟨fun w' hC => (by (with_reducible refine (S33 w' hC).out.mono ?_); exact fun e w2 ⟨he, hb⟩ => ⟨he, hC.trans (hb.mono hC.size)⟩), ?_⟩; go_big_quiet_on) | (apply Exists.intro; refine ⟨fun w' hC => (by (with_reducible refine (S34 w' hC).out.mono ?_); exact fun e w2 ⟨he, hb⟩ => ⟨he, hC.trans (hb.mono hC.size)⟩), ?_⟩; go_big_quiet_on)))
  refine wpQuiet_nil ?_; intro wz hbz
  go_wp2_with fail
  go_ret
  exact ⟨rfl, below_via (below_via (below_via (below_via HB1.out HB2.out) HB3.out) HB4.out) hbz⟩
end Go.Proofs.YtjihepdjcbpgoaaDoor
