/-
  inarchlaw22's Great, fine, SamePairs, texts, lives: contracts. Conditions: the lists lie in memory, their elements' weights are bounded; strconv's table of powers holds what its initialiser lays.
-/
import Derived.Test.YtjihepdjcbpgoaaDoorMH
import Derived.Test.YtjihepdjcbpgoaaDoorVF
import Derived.Test.YtjihepdjcbpgoaaDoorV4
import Derived.Test.YtjihepdjcbpgoaaDoorVO
namespace Go.Proofs.YtjihepdjcbpgoaaDoor
open Go.RowKit Go.Sort

set_option maxRecDepth 100000 in
set_option maxHeartbeats 3200000 in
theorem great22_c (w : World) (q : LA) (hq : q.Rd w) : Calls Tryd.prog 8 #[.slice q.a q.l.length q.c] w (RetB w) := by
  have hql := hq.len
  have HQ := Lib.hid hq
  clear hq
  go_enter Tryd.func8, Tryd.ntmps8
  go_wp2_with fail
  go_loopw [3, 4] (fun s3 s4 wr => ∃ n k : Nat, k ≤ q.l.length ∧ s3 = .int .i64 n ∧ s4 = .int .i64 k ∧ n ≤ 2097152 ∧ Below w.heap.size w wr) (fun _ s4 _ => q.l.length - (intOf s4).toNat)
  case atStart => exact ⟨q.l.length, 0, Nat.zero_le _, rfl, rfl, by omega, Below.refl _ _⟩
  case round =>
    obtain ⟨n, k, hk, rfl, rfl, hn, hb⟩ := hrel
    by_cases hkl : k < q.l.length
    · have hkl' : (k : Int) < (q.l.length : Int) := by omega
      by_cases hn3 : n < 3000
      · have hn3' : (n : Int) < 3000 := by omega
        have hk2 : q.l[k]? = some q.l[k] := List.getElem?_eq_getElem hkl
        have hmem : q.l[k] ∈ q.l := List.getElem_mem hkl
        generalize q.l[k] = y at hk2 hmem
        obtain ⟨b2, off2, hla2, -, -, hc2, g0, g1, g2, g3⟩ := vals_at HQ.out.sl hk2
        rw [← hb.cell (p := ⟨_, _, none⟩) hc2] at g0 g1 g2 g3
        have hbb2 : b2 < wr.heap.size := Nat.lt_of_lt_of_le hc2 hb.size
        obtain ⟨hyr, hyw⟩ := HQ.out.kids y hmem
        have HWT := Lib.hid (weight_c y wr (hyr.up hb) hyw)
        have hyw2 : y.v.w ≤ 1048576 := hyw
        have HBB := Lib.hid hb
        have HLA := Lib.hid hla2
        have hk0 : (0 : Int) ≤ (k : Int) := by omega
        clear hb hk2 hmem hla2 hyr hyw
        have hwk : IntKind.i64.wrap ((k : Int) + 1) = ((k + 1 : Nat) : Int) := by rw [IntWalk.i64_in _ (by omega)]; omega
        rw [HLA.out]
        go_wp2_with (go_at_call 26; refine HWT.out.mono ?_; rintro e w2 ⟨r, hr, rfl, hb3⟩
                     have hr2 : r ≤ y.v.w := hr.1
                     have hw2 : IntKind.i64.wrap ((n : Int) + (r : Int)) = ((n + r : Nat) : Int) := by rw [IntWalk.i64_in _ (by omega)]; omega)
        exact ⟨⟨n + r, k + 1, by omega, by go_num, by go_num, by omega, below_via HBB.out hb3⟩, by simp [intOf]; omega⟩
      · have hn3' : ¬ (n : Int) < 3000 := by omega
        go_wp2_with fail
        all_goals
          go_ret
          exact ⟨_, rfl, hb⟩
    · have hkl' : ¬ (k : Int) < (q.l.length : Int) := by omega
      go_wp2_with fail
      all_goals
        go_ret
        exact ⟨_, rfl, hb⟩
def allMay (l : List Val) : Bool := l.all fun v => v.may
set_option maxRecDepth 100000 in
set_option maxHeartbeats 3200000 in
theorem fine22_c (w : World) (q : LA) (hq : q.Rd w) : Calls Tryd.prog 17 #[.slice q.a q.l.length q.c] w (Ret (.bool (allMay q.v)) w) := by
  have hql := hq.len
  have HQ := Lib.hid hq
  have HM := fun (y : AV) (hy : y ∈ q.l) W (h : Below w.heap.size w W) => Lib.hid (may_c W y ((hq.kids y hy).1.up h) (hq.kids y hy).2)
  clear hq
  go_enter Tryd.func17, Tryd.ntmps17
  go_wp2_with fail
  go_loopw [3] (fun s3 wr => ∃ k : Nat, k ≤ q.l.length ∧ s3 = .int .i64 k ∧ (∀ y ∈ q.l.take k, y.v.may = true) ∧ Below w.heap.size w wr) (fun s3 _ => q.l.length - (intOf s3).toNat)
  case atStart => exact ⟨0, Nat.zero_le _, by go_num, by simp, Below.refl _ _⟩
  case round =>
    obtain ⟨k, hk, rfl, hall, hb⟩ := hrel
    have HB := Lib.hid hb
    have HALL := Lib.hid hall
    by_cases hkl : k < q.l.length
    · have hkl' : (k : Int) < (q.l.length : Int) := by omega
      have hk2 : q.l[k]? = some q.l[k] := List.getElem?_eq_getElem hkl
      have hmem : q.l[k] ∈ q.l := List.getElem_mem hkl
      generalize q.l[k] = y at hk2 hmem
      obtain ⟨b2, off2, hla2, -, -, hc2, g0, g1, g2, g3⟩ := vals_at HQ.out.sl hk2
      rw [← hb.cell (p := ⟨_, _, none⟩) hc2] at g0 g1 g2 g3
      have hbb2 : b2 < wr.heap.size := Nat.lt_of_lt_of_le hc2 hb.size
      have HMY := HM y hmem
      have HLA := Lib.hid hla2
      have HK := Lib.hid hk2
      have HMEM := Lib.hid hmem
      have hk0 : (0 : Int) ≤ (k : Int) := by omega
      have hwk : IntKind.i64.wrap ((k : Int) + 1) = ((k + 1 : Nat) : Int) := by rw [IntWalk.i64_in _ (by omega)]; omega
      clear hb hk2 hmem hla2 hall HM
      rw [HLA.out]
      cases hy : y.v.may with
      | true =>
        rw [hy] at HMY
        have HY := Lib.hid hy
        clear hy
        go_wp2_with (go_at_call 19; refine (HMY _ HB.out).out.mono ?_; rintro e w1 ⟨rfl, hb1⟩)
        refine ⟨⟨k + 1, by omega, by go_num, fun u hu => ?_, below_via HB.out hb1⟩, by simp [intOf]; omega⟩
        rw [List.take_add_one, HK.out] at hu
        rcases List.mem_append.1 hu with hu | hu
        · exact HALL.out u hu
        · simp at hu; subst hu; exact HY.out
      | false =>
        rw [hy] at HMY
        have HY := Lib.hid (show allMay q.v = false by
          rw [allMay, List.all_eq_false]
          exact ⟨y.v, by rw [LA.v]; exact List.mem_map_of_mem HMEM.out, by simp [hy]⟩)
        clear hy
        go_wp2_with (go_at_call 19; refine (HMY _ HB.out).out.mono ?_; rintro e w1 ⟨rfl, hb1⟩)
        go_ret
        exact ⟨by rw [HY.out]; rfl, below_via HB.out hb1⟩
    · obtain rfl : k = q.l.length := by omega
      have hge : ¬ (q.l.length : Int) < (q.l.length : Int) := by omega
      have HY := Lib.hid (show allMay q.v = true by
        rw [List.take_length] at hall
        rw [allMay, List.all_eq_true]
        intro v hv
        obtain ⟨y, hy, rfl⟩ := List.mem_map.1 hv
        exact hall y hy)
      clear hall hb HM
      go_wp2_with fail
      go_ret
      exact ⟨by rw [HY.out]; rfl, HB.out⟩
theorem allMay_iff {l : List Val} : allMay l = true ↔ ∀ v ∈ l, v.may = true := by simp [allMay]
theorem neq_pr (p q : Nat × Nat) (w : World) : (binOp .neq 35 (.agg #[.int .i64 p.1, .int .i64 p.2]) (.agg #[.int .i64 q.1, .int .i64 q.2])).run Tryd.prog w = .ok (.bool (!decide (p = q))) w := by
  rw [run_neq_struct]
  obtain ⟨p1, p2⟩ := p
  obtain ⟨q1, q2⟩ := q
  simp [go_sem]
  repeat' split
  all_goals first | omega | (simp_all <;> omega)
theorem pr_at {w : World} {lo hi : Nat} {a : Option Addr} {l : List (Nat × Nat)} (h : SlE prE 2 w lo hi a l) {k : Nat} {y : Nat × Nat} (hk : l[k]? = some y) :
    ∃ b off, a = some ⟨b, off, none⟩ ∧ lo ≤ b ∧ b < hi ∧ b < w.heap.size ∧ w.cell? ⟨b, off + k * 2, none⟩ = some (.int .i64 y.1) ∧ w.cell? ⟨b, off + k * 2 + 1, none⟩ = some (.int .i64 y.2) := by
  have hl : k < l.length := (List.getElem?_eq_some_iff.1 hk).1
  obtain ⟨b, off, e, g1, g2, g3, g4⟩ := h (by omega)
  exact ⟨b, off, e, g1, g2, g3, g4 k y hk 0 _ rfl, g4 k y hk 1 _ rfl⟩
theorem list_split {α : Type} {P Q : List α} {m : Nat} (hl : P.length = Q.length) (h : ∀ j, j < m → P[j]? = Q[j]?) (hm : P.length ≤ m) : P = Q := by
  apply List.ext_getElem?
  intro i
  rcases Nat.lt_or_ge i m with hi | hi
  · exact h i hi
  · rw [List.getElem?_eq_none (by omega), List.getElem?_eq_none (by omega)]
set_option maxRecDepth 100000 in
set_option maxHeartbeats 3200000 in
theorem samepr_c (w : World) (A B : Option Addr) (cA cB : Nat) (P Q : List (Nat × Nat)) (hA : SlE prE 2 w 0 w.heap.size A P) (hB : SlE prE 2 w 0 w.heap.size B Q) (hP : P.length ≤ 16777216) (_hQ : Q.length ≤ 16777216) : Calls Tryd.prog 15 #[.slice A P.length cA, .slice B Q.length cB] w (Ret (.bool (decide (P = Q))) w) := by
  have HA := Lib.hid hA
  have HB := Lib.hid hB
  clear hA hB
  by_cases hl : P.length = Q.length
  · have hlb : ((P.length : Int) != (Q.length : Int)) = false := by simp [hl]
    have hlb2 : (P.length != Q.length) = false := by simp [hl]
    have HL := Lib.hid hl
    clear hl
    go_enter Tryd.func15, Tryd.ntmps15
    go_wp2_with fail
    go_loopw [5] (fun s5 wr => ∃ m : Nat, m ≤ P.length ∧ s5 = .int .i64 m ∧ (∀ j, j < m → P[j]? = Q[j]?) ∧ Below w.heap.size w wr) (fun s5 _ => P.length - (intOf s5).toNat)
    case atStart => exact ⟨0, Nat.zero_le _, by go_num, fun j h => absurd h (Nat.not_lt_zero _), Below.refl _ _⟩
    case round =>
      obtain ⟨m, hm, rfl, hall, hb⟩ := hrel
      have HALL := Lib.hid hall
      have HBW := Lib.hid hb
      by_cases hlt : m < P.length
      · have h1 : P[m]? = some P[m] := List.getElem?_eq_getElem hlt
        have h2 : Q[m]? = some (Q[m]'(by have := HL.out; omega)) := List.getElem?_eq_getElem _
        generalize P[m] = p at h1
        generalize Q[m]'(by have := HL.out; omega) = q at h2
        obtain ⟨b1, o1, e1, -, -, g1, c1, d1⟩ := pr_at HA.out h1
        obtain ⟨b2, o2, e2, -, -, g2, c2, d2⟩ := pr_at HB.out h2
        rw [← hb.cell (p := ⟨_, _, none⟩) g1] at c1 d1
        rw [← hb.cell (p := ⟨_, _, none⟩) g2] at c2 d2
        have f1 : b1 < wr.heap.size := Nat.lt_of_lt_of_le g1 hb.size
        have f2 : b2 < wr.heap.size := Nat.lt_of_lt_of_le g2 hb.size
        have hlt' : (m : Int) < (P.length : Int) := by omega
        have hlt2' : (m : Int) < (Q.length : Int) := by have := HL.out; omega
        have hm0 : (0 : Int) ≤ (m : Int) := by omega
        have hwm : IntKind.i64.wrap ((m : Int) + 1) = ((m + 1 : Nat) : Int) := by rw [IntWalk.i64_in _ (by omega)]; omega
        have hneq := neq_pr p q
        have H1 := Lib.hid (And.intro h1 h2)
        have HE := Lib.hid (And.intro e1 e2)
        clear hall hb h1 h2 e1 e2
        rw [HE.out.1, HE.out.2]
        by_cases hpq : p = q
        · rw [decide_eq_true hpq] at hneq
          have HPQ := Lib.hid hpq
          clear hpq
          go_wp2_with fail
          go_region
          go_wp2_with fail
          refine ⟨⟨m + 1, by omega, by go_num, fun j hj => ?_, HBW.out.drew⟩, by simp [intOf]; omega⟩
          rcases Nat.lt_or_ge j m with h | h
          · exact HALL.out j h
          · obtain rfl : j = m := by omega
            rw [H1.out.1, H1.out.2, HPQ.out]
        · rw [decide_eq_false hpq] at hneq
          have HNE := Lib.hid (show decide (P = Q) = false from decide_eq_false fun e => hpq (by have h := H1.out; rw [e, h.2] at h; exact (Option.some.inj h.1).symm))
          clear hpq
          go_wp2_with fail
          go_region
          go_wp2_with fail
          go_ret
          exact ⟨by rw [HNE.out]; rfl, HBW.out.drew⟩
      · obtain rfl : m = P.length := by omega
        have hge : ¬ (P.length : Int) < (P.length : Int) := by omega
        have HEQ := Lib.hid (show decide (P = Q) = true from decide_eq_true (list_split HL.out hall (Nat.le_refl _)))
        clear hall hb
        go_wp2_with fail
        go_ret
        exact ⟨by rw [HEQ.out]; rfl, HBW.out⟩
  · have hlb : ((P.length : Int) != (Q.length : Int)) = true := by simp; omega
    have HNE := Lib.hid (show decide (P = Q) = false from decide_eq_false fun e => hl (by rw [e]))
    have hlb2 : (P.length != Q.length) = true := by simp [hl]
    clear hl
    go_enter Tryd.func15, Tryd.ntmps15
    go_wp2_with fail
    go_ret
    exact ⟨by rw [HNE.out]; rfl, Below.refl _ _⟩

/-- A text's bytes, as texts of one byte. -/
def oneV (b : ByteArray) : Val := ⟨3, b, [], []⟩
def textsV (s : ByteArray) : List Val := (List.range s.size).map fun i => oneV (s.extract i (i + 1))
theorem one_may (b : ByteArray) : (oneV b).may = true := by
  rw [← Val.may_eq, plain_within]
  simp [Val.deepR_eq, Val.plain_eq, oneV, Val.shape]
theorem canon_one (b : ByteArray) : ∀ n, canon n (oneV b) = oneV b
  | 0 => rfl
  | n + 1 => by rw [canon_s, if_neg (by simp [oneV])]; rfl
theorem one_key (b c : ByteArray) : (oneV b).key = (oneV c).key ↔ b = c := by
  rw [key_same (one_may b) (one_may c), cmpV_zero 256 _ _ (by rw [Val.may_eq]; exact one_may b) (by rw [Val.may_eq]; exact one_may c), canon_one, canon_one]
  constructor
  · intro h; exact congrArg Val.t h
  · intro h; rw [h]
theorem one_labs (bs cs : List ByteArray) : SameM bs cs (labs 0 (bs.map oneV)) (labs 1 (cs.map oneV)) := by
  have fine : ∀ l : List ByteArray, ∀ v ∈ l.map oneV, v.may = true := fun l v hv => by
    obtain ⟨b, -, rfl⟩ := List.mem_map.1 hv
    exact one_may b
  rw [labs_fine 0 (fine bs), labs_fine 1 (fine cs)]
  refine ⟨by simp, by simp, fun i k x y x' y' h1 h2 h3 h4 => ?_⟩
  rw [List.getElem?_map, List.getElem?_map, h1] at h3
  rw [List.getElem?_map, List.getElem?_map, h2] at h4
  cases h3; cases h4
  simp [one_key]

def oneA (b : ByteArray) : AV := ⟨3, b, none, 0, [], none, 0, []⟩
def MadeL (l : List Val) (w : World) (e : Ending) (w' : World) : Prop := ∃ y : LA, e = .returned (.slice y.a y.l.length y.c) ∧ y.v = l ∧ y.Rd w' ∧ Below w.heap.size w w'
theorem one_rd (b : ByteArray) (w : World) (hb : b.size ≤ 1000) : Go.Proofs.YtjihepdjcbpgoaaDoor.Rd w (oneA b) ∧ (oneA b).w ≤ 1048576 := by
  refine ⟨leaf_in _ _ (by simp), ?_⟩
  show (oneA b).v.w ≤ _
  rw [Val.w_eq]
  simp [oneA, AV.v_eq]
  omega
set_option maxRecDepth 100000 in
set_option maxHeartbeats 3200000 in
theorem texts_c (w : World) (s : ByteArray) (hs : s.size ≤ 1000) : Calls Tryd.prog 27 #[.string s] w (MadeL (textsV s) w) := by
  go_enter Tryd.func27, Tryd.ntmps27
  go_wp2_with fail
  go_loopw [3, 4] (fun s3 s4 wr => ∃ (i : Nat) (ys : List AV) (a : Option Addr) (c : Nat), i ≤ s.size ∧ s4 = .int .i64 i ∧ ys = (List.range i).map (fun j => oneA (s.extract j (j + 1))) ∧ s3 = .slice a ys.length c ∧ OwnV wr w.heap.size (.slice a ys.length c) ys ∧ Below w.heap.size w wr) (fun _ s4 _ => s.size - (intOf s4).toNat)
  case atStart => exact ⟨0, [], none, 0, Nat.zero_le _, by go_num, rfl, rfl, ⟨rfl, .inl ⟨rfl, rfl⟩⟩, Below.refl _ _⟩
  case round =>
    obtain ⟨i, ys, a, c, hi, rfl, hys, rfl, hown, hb⟩ := hrel
    have hyl : ys.length = i := by rw [hys]; simp
    have HYS := Lib.hid hys
    have HYL := Lib.hid hyl
    have HOW := Lib.hid hown
    have HB := Lib.hid hb
    have hsz := hb.size
    by_cases hlt : i < s.size
    · have hlt' : (i : Int) < (s.size : Int) := by omega
      have hi0 : (0 : Int) ≤ (i : Int) := by omega
      obtain ⟨i1, hi1⟩ : ∃ i1, i1 = i + 1 := ⟨_, rfl⟩
      have hwi : IntKind.i64.wrap ((i : Int) + 1) = (i1 : Int) := by rw [IntWalk.i64_in _ (by omega)]; omega
      have hi2 : (i : Int) ≤ (i1 : Int) := by omega
      have hi3 : (i1 : Int) ≤ (s.size : Int) := by omega
      obtain ⟨z, hz⟩ : ∃ z, z = oneA (s.extract i i1) := ⟨_, rfl⟩
      have hba := (Below.refl wr.heap.size wr).alloc (Nat.le_refl _) (.cells #[.int .u8 3, .string (s.extract i i1), .slice none 0 0, .slice none 0 0] 28)
      have hlit : SlE AV.enc 4 (wr.alloc (.cells #[.int .u8 3, .string (s.extract i i1), .slice none 0 0, .slice none 0 0] 28)) wr.heap.size (wr.heap.size + 1) (some ⟨wr.heap.size, 0, none⟩) [z] := by
        rw [hz]
        exact lit_sl (enc := AV.enc) (size := 4) (l := [oneA (s.extract i i1)]) (t := 28) (fr := (0, 0)) AV.enc_len (heap_alloc_new _ _)
      obtain ⟨v', W', hrun, hown', hgr, -⟩ := app_val (c := 1) (own_below hown hba) hlit (by simp; omega) (by simp; omega)
      obtain ⟨ys', hys'⟩ : ∃ ys', ys' = ys ++ [z] := ⟨_, rfl⟩
      rw [← hys'] at hown'
      obtain ⟨a', c', rfl⟩ := own_formV hown'
      have HYS' := Lib.hid hys'
      have HZ := Lib.hid hz
      have HI1 := Lib.hid hi1
      have HOW' := Lib.hid hown'
      have HGR := Lib.hid hgr
      have HBA := Lib.hid hba
      clear hys hyl hown hb hba hlit hys' hz hi1 hown' hgr
      go_wp2_with (at_builtin; refine wl_append (s := .tmp 11) (x := .tmp 18) rfl rfl (hrun _) ?_; clear hrun)
      have hi1 := HI1.out
      refine ⟨⟨i + 1, ys', a', c', by omega, by rw [hi1], ?_, rfl, HOW'.out, ?_⟩, by simp [intOf]; omega⟩
      · rw [HYS'.out, HYS.out, HZ.out, hi1, List.range_succ, List.map_append]; rfl
      · exact (HB.out.trans (HBA.out.mono HB.out.size)).grown HGR.out (by have := HBA.out.size; omega) (fun q hq => (World.ownsRow.lt HOW.out q hq).1)
    · obtain rfl : i = s.size := by omega
      have hge : ¬ (s.size : Int) < (s.size : Int) := by omega
      clear hys hyl hown hb
      go_wp2_with fail
      go_ret
      refine ⟨⟨a, ys, c⟩, rfl, ?_, ⟨(own_sl AV.enc_len HOW.out).widen (Nat.zero_le _) (Nat.le_refl _), by show ys.length ≤ _; rw [HYL.out]; omega, fun y hy => ?_⟩, HB.out⟩
      · show ys.map AV.v = _
        rw [HYS.out, textsV, List.map_map]
        exact List.map_congr_left fun j _ => by simp [oneA, oneV, AV.v_eq]
      · have hy' : y ∈ ys := hy
        rw [HYS.out] at hy'
        obtain ⟨j, -, rfl⟩ := List.mem_map.1 hy'
        refine one_rd _ _ ?_
        simp [ByteArray.size_extract]
        omega

/-- The chapter's examples, plain. -/
theorem ex_pairs : Early [97, 98, 99, 97] [99, 97, 98, 97] 0 0 [(0, 1), (1, 2), (3, 3)] := by
  refine early_take (j := 1) ⟨97, rfl, rfl⟩ (by omega) (by simp [lcsT, lcsL]) (fun q h1 h2 => ?_) ?_
  · obtain rfl : q = 0 := by omega
    simp [Mt]
  refine early_take (j := 2) ⟨98, rfl, rfl⟩ (by omega) rfl (fun q h1 h2 => by omega) ?_
  refine early_skip (fun q h1 hm => ?_) ?_
  · exfalso
    have := hm.lt.2
    simp at this
    obtain rfl : q = 3 := by omega
    simp [Mt] at hm
  refine early_take (j := 3) ⟨97, rfl, rfl⟩ (by omega) rfl (fun q h1 h2 => by omega) ?_
  exact .done (lcsT_end_l (by simp))
theorem ex_pairs2 : Early [120, 121] [121, 120] 0 0 [(0, 1)] := by
  refine early_take (j := 1) ⟨120, rfl, rfl⟩ (by omega) (by simp [lcsT, lcsL]) (fun q h1 h2 => ?_) ?_
  · obtain rfl : q = 0 := by omega
    simp [Mt]
  exact .done (lcsT_end_r (by simp))
theorem ex_long : lcsL [49, 50, 51] [50, 51, 52] = 2 := by simp [lcsL]
end Go.Proofs.YtjihepdjcbpgoaaDoor
