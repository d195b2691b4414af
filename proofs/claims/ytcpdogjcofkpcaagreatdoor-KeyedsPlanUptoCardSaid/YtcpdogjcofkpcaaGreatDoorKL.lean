/-
  inarchlaw23.Great, inarchlaw28's item, lives, named: contracts. Conditions: the lists lie in memory, lengths and weights are bounded; the table of short escapes holds what its initialiser lays.
  inarchlaw28's item and lives: contracts. Condition: the table of short escapes holds what its initialiser lays.
-/
import Derived.Test.YtcpdogjcofkpcaaGreatDoorKJ
import Derived.Test.YtcpdogjcofkpcaaGreatDoorVF
import Derived.Test.YtcpdogjcofkpcaaGreatDoorVO
namespace Go.Proofs.YtcpdogjcofkpcaaGreatDoor
open Go.RowKit Go.Sort

set_option maxRecDepth 100000 in
set_option maxHeartbeats 3200000 in
theorem great23_c (w : World) (A : Option Addr) (c : Nat) (L : List LA) (h : SlE LA.enc 1 w 0 w.heap.size A L) (hL : ∀ q ∈ L, q.Rd w) (hl : L.length ≤ 1048576) : Calls Tryz.prog 11 #[.slice A L.length c] w (RetB w) := by
  have H := Lib.hid h
  have HL := Lib.hid hL
  clear h hL
  go_enter Tryz.func11, Tryz.ntmps11
  go_wp2_with fail
  go_loopw [3, 4, 5] (fun s3 s4 _ wr => ∃ n i : Nat, i ≤ L.length ∧ s3 = .int .i64 n ∧ s4 = .int .i64 i ∧ n ≤ 1050079 ∧ Below w.heap.size w wr) (fun _ s4 _ _ => L.length - (intOf s4).toNat)
  case atStart => exact ⟨0, 0, Nat.zero_le _, rfl, rfl, by omega, Below.refl _ _⟩
  case round =>
    obtain ⟨n, i, hi, rfl, rfl, hn, hb⟩ := hrel
    by_cases hlt : i < L.length
    · have hlt' : (i : Int) < (L.length : Int) := by omega
      have hk : L[i]? = some L[i] := List.getElem?_eq_getElem hlt
      have hmem : L[i] ∈ L := List.getElem_mem hlt
      generalize L[i] = q at *
      obtain ⟨b, off, hla, -, hb1, hb2, h0⟩ := la_at H.out hk
      have hq := HL.out q hmem
      have HQ := Lib.hid hq
      have hqs := hq.sl
      have hql := hq.len
      have HB := Lib.hid hb
      have HQS := Lib.hid hqs
      clear hq hqs hk hmem hb
      rw [hla]
      go_wp2_with fail
      go_loopw [3, 5] (fun s3 s5 wi => ∃ n k : Nat, k ≤ q.l.length ∧ s3 = .int .i64 n ∧ s5 = .int .i64 k ∧ n ≤ 1050079 ∧ Below w.heap.size w wi) (fun _ s5 _ => q.l.length - (intOf s5).toNat)
      case atStart => exact ⟨n, 0, Nat.zero_le _, rfl, rfl, hn, HB.out⟩
      case round =>
        obtain ⟨n, k, hk, rfl, rfl, hn, hb⟩ := hrel
        have h0' := (hb.cell (p := ⟨_, _, none⟩) hb2).trans h0
        have hbb : b < wr.heap.size := Nat.lt_of_lt_of_le hb2 hb.size
        by_cases hkl : k < q.l.length
        · have hkl' : (k : Int) < (q.l.length : Int) := by omega
          by_cases hn15 : n < 1500
          · have hn15' : (n : Int) < 1500 := by omega
            have hk2 : q.l[k]? = some q.l[k] := List.getElem?_eq_getElem hkl
            have hmem : q.l[k] ∈ q.l := List.getElem_mem hkl
            generalize q.l[k] = y at *
            obtain ⟨b2, off2, hla2, -, hc1, hc2, g0, g1, g2, g3⟩ := vals_at HQS.out hk2
            rw [← hb.cell (p := ⟨_, _, none⟩) hc2] at g0 g1 g2 g3
            have hbb2 : b2 < wr.heap.size := Nat.lt_of_lt_of_le hc2 hb.size
            obtain ⟨hyr, hyw⟩ := HQ.out.kids y hmem
            have HWT := Lib.hid (weight_c y wr (hyr.up hb) hyw)
            have hyw2 : y.v.w ≤ 1048576 := hyw
            have HBB := Lib.hid hb
            rw [hla2] at h0'
            clear hb hk2 hmem hla2 hyr hyw
            have hw1 : IntKind.i64.wrap ((n : Int) + 3) = ((n + 3 : Nat) : Int) := by rw [IntWalk.i64_in _ (by omega)]; omega
            have hwk : IntKind.i64.wrap ((k : Int) + 1) = ((k + 1 : Nat) : Int) := by rw [IntWalk.i64_in _ (by omega)]; omega
            go_wp2_with (go_at_call 60; refine HWT.out.mono ?_; rintro e w2 ⟨r, hr, rfl, hb3⟩
                         have hr2 : r ≤ y.v.w := hr.1
                         have hw2 : IntKind.i64.wrap (((n + 3 : Nat) : Int) + (r : Int)) = ((n + 3 + r : Nat) : Int) := by rw [IntWalk.i64_in _ (by omega)]; omega)
            exact ⟨⟨n + 3 + r, k + 1, by omega, by go_num, by go_num, by omega, below_via HBB.out hb3⟩, by simp [intOf]; omega⟩
          · have hn15' : ¬ (n : Int) < 1500 := by omega
            have hwi : IntKind.i64.wrap ((i : Int) + 1) = ((i + 1 : Nat) : Int) := by rw [IntWalk.i64_in _ (by omega)]; omega
            go_wp2_with fail
            exact ⟨⟨n, i + 1, by omega, rfl, by go_num, hn, hb⟩, by simp [intOf]; omega⟩
        · have hkl' : ¬ (k : Int) < (q.l.length : Int) := by omega
          have hwi : IntKind.i64.wrap ((i : Int) + 1) = ((i + 1 : Nat) : Int) := by rw [IntWalk.i64_in _ (by omega)]; omega
          go_wp2_with fail
          exact ⟨⟨n, i + 1, by omega, rfl, by go_num, hn, hb⟩, by simp [intOf]; omega⟩
    · have hge : ¬ (i : Int) < (L.length : Int) := by omega
      go_wp2_with fail
      go_ret
      exact ⟨_, rfl, hb⟩
end Go.Proofs.YtcpdogjcofkpcaaGreatDoor

namespace Go.Proofs.YtcpdogjcofkpcaaGreatDoor
open Go.RowKit Go.Sort

def itemV (id : ByteArray) : Val := ⟨8, ⟨#[]⟩, [⟨2, id, [], []⟩], [⟨#[105, 100]⟩]⟩
set_option maxRecDepth 100000 in
set_option maxHeartbeats 3200000 in
theorem item_c (id : ByteArray) (w : World) : Calls Tryz.prog 61 #[.string id] w (MadeAs (itemV id) w) := by
  go_enter Tryz.func61, Tryz.ntmps61
  go_wp2_with fail
  refine bodyPost_ret (v := .agg #[.int .u8 8, .string ⟨#[]⟩, .slice (some ⟨w.heap.size + 1 + 1, 0, none⟩) 1 1, .slice (some ⟨w.heap.size + 1, 0, none⟩) 1 1]) (by simp [results, Tryz.results61, go_sem]) rfl
    ⟨⟨8, ⟨#[]⟩, some ⟨w.heap.size + 1 + 1, 0, none⟩, 1, [⟨2, id, none, 0, [], none, 0, []⟩], some ⟨w.heap.size + 1, 0, none⟩, 1, [⟨#[105, 100]⟩]⟩, rfl, by simp [AV.v_eq, itemV], ?_, (by repeat (first | exact Below.refl _ _ | refine Below.drew ?_ | refine below_drewN ?_ _ | refine Below.setCell ?_ (by first | omega | (simp; done) | (simp; omega)) _ | refine Below.alloc ?_ (by first | omega | (simp; done) | (simp; omega)) _))⟩
  generalize hA : Obj.cells #[.int .u8 8, .string ⟨#[]⟩, .slice (some ⟨w.heap.size + 1 + 1, 0, none⟩) 1 1, .slice (some ⟨w.heap.size + 1, 0, none⟩) 1 1] 48 = A
  generalize hB : Obj.cells #[.string ⟨#[105, 100]⟩] 9 = B
  generalize hC : Obj.cells #[.int .u8 2, .string id, .slice none 0 0, .slice none 0 0] 48 = C
  have b1 : (((w.alloc A).alloc B).alloc C).heap[w.heap.size + 1]? = some B := (heap_alloc_old _ _ _ (by simp)).trans (by have := heap_alloc_new (w.alloc A) B; rwa [World.size_alloc] at this)
  have b2 : (((w.alloc A).alloc B).alloc C).heap[w.heap.size + 1 + 1]? = some C := by have := heap_alloc_new ((w.alloc A).alloc B) C; simpa using this
  have hsz : (((w.alloc A).alloc B).alloc C).heap.size = w.heap.size + 3 := by simp
  generalize ((w.alloc A).alloc B).alloc C = W at *
  subst hB hC
  rw [hsz]
  refine ⟨(lit_sl (enc := AV.enc) (size := 4) (l := [⟨2, id, none, 0, [], none, 0, []⟩]) AV.enc_len b2).widen (by omega) (by omega),
    (lit_sl (enc := strE) (size := 1) (l := [⟨#[105, 100]⟩]) (fun _ => rfl) b1).widen (by omega) (by omega), by simp, fun y hy => ?_⟩
  simp only [List.mem_cons, List.not_mem_nil, or_false] at hy
  subst hy
  exact leaf_in _ _ (by simp)
theorem item_may (id : ByteArray) (h : id.toList ≠ []) : (itemV id).may = true := by
  rw [← Val.may_eq, plain_within]
  simp [Val.deepR_eq, Val.plain_eq, itemV, maxL, Val.shape, h]
theorem item_name (id : ByteArray) (h : id.toList ≠ []) : nameOf ⟨#[105, 100]⟩ (itemV id) = some id := by
  have hg : (itemV id).get ⟨#[105, 100]⟩ = some ⟨2, id, [], []⟩ := by
    rw [Val.get, if_pos ⟨rfl, item_may id h⟩]
    simp [itemV, idxB]
  have hm : Val.may ⟨2, id, [], []⟩ = true := (may_kid (item_may id h) (by simp [itemV])).2
  rw [nameOf, hg]
  simp only
  rw [if_pos (by simp), textR, if_pos hm]
  rw [textV_s, if_neg (by simp), if_neg (by simp), if_neg (by simp), if_neg (by simp)]
theorem item_w (id : ByteArray) : (itemV id).w = 5 + id.size := by
  have h : (⟨#[105, 100]⟩ : ByteArray).size = 2 := rfl
  have h0 : (⟨#[]⟩ : ByteArray).size = 0 := rfl
  rw [Val.w_eq]; simp [itemV, Val.w_eq, h, h0]; omega
def n1 : ByteArray := ⟨#[49]⟩
def n2 : ByteArray := ⟨#[50]⟩
def n3 : ByteArray := ⟨#[51]⟩
theorem names_two {a b : ByteArray} (ha : a.toList ≠ []) (hb : b.toList ≠ []) (hab : a ≠ b) : namesP ⟨#[105, 100]⟩ [itemV a, itemV b] = some [a, b] := by
  rw [namesP]
  simp only [List.map_cons, List.map_nil, item_name a ha, item_name b hb, allSome, Option.map_some]
  rw [if_pos (by simp [hab])]
theorem names_one {a : ByteArray} (ha : a.toList ≠ []) : namesP ⟨#[105, 100]⟩ [itemV a] = some [a] := by
  rw [namesP]
  simp only [List.map_cons, List.map_nil, item_name a ha, allSome, Option.map_some]
  rw [if_pos (by simp)]
theorem lives_plan {T : List Tr} (h : PlanIs 0 [n1, n2] [n2, n3] [n1] T) : T = [⟨n1, 0, -1, 0⟩, ⟨n2, 1, 0, -1⟩, ⟨n3, -1, 1, -1⟩] := by
  have hp : placed 0 [n1, n2] [n2, n3] [n1] = [⟨n1, 0, -1, 0⟩, ⟨n2, 1, 0, -1⟩, ⟨n3, -1, 1, -1⟩] := by
    have e1 : n1 ≠ n2 := by simp [n1, n2]
    have e2 : n1 ≠ n3 := by simp [n1, n3]
    have e3 : n2 ≠ n3 := by simp [n2, n3]
    simp [placed, placeN, place1, idxB, newTr, Tr.put, e1, e2, e3]
  rw [PlanIs, if_neg (by omega), hp] at h
  obtain ⟨S, h1, -, h3⟩ := h
  simp at h1
  rw [h3, h1]; rfl
/-- A list of items in memory. -/
theorem items_rd {w : World} {B : Nat} {l : List AV} {ids : List ByteArray} (hb : w.heap[B]? = some (.cells (l.flatMap AV.enc).toArray 48 (0, 0))) (hr : ∀ y ∈ l, Rd w y) (hv : l.map AV.v = ids.map itemV) (hw : ∀ s ∈ ids, s.size ≤ 1000) (hn : ids.length ≤ 1000) (c : Nat) : LA.Rd w ⟨some ⟨B, 0, none⟩, l, c⟩ := by
  have hB : B < w.heap.size := by
    rcases Nat.lt_or_ge B w.heap.size with h | h
    · exact h
    · rw [Array.getElem?_eq_none h] at hb; cases hb
  refine ⟨(lit_sl AV.enc_len hb).widen (Nat.zero_le _) (by omega), ?_, fun y hy => ⟨hr y hy, ?_⟩⟩
  · have := congrArg List.length hv
    simp at this
    show l.length ≤ _
    omega
  · have : y.v ∈ ids.map itemV := by rw [← hv]; exact List.mem_map_of_mem hy
    obtain ⟨s, hs, e⟩ := List.mem_map.1 this
    have h1 := item_w s
    have h2 := hw s hs
    show y.v.w ≤ _
    rw [← e]; omega

set_option maxRecDepth 100000 in
set_option maxHeartbeats 12800000 in
theorem lives28_c (w : World) (hS : Shorts w) : Calls Tryz.prog 12 #[] w (Ret (.bool true) w) := by
  go_enter Tryz.func12, Tryz.ntmps12
  go_wp2_with (first
    | (have kq5 := k4; go_at_call 61; refine (item_c _ _).mono ?_; rintro e w5 ⟨y5, rfl, hv5, hi5, hb5⟩; have k5 := trivial)
    | (have kq4 := k3; go_at_call 61; refine (item_c _ _).mono ?_; rintro e w4 ⟨y4, rfl, hv4, hi4, hb4⟩; have k4 := trivial)
    | (have kq3 := k2; go_at_call 61; refine (item_c _ _).mono ?_; rintro e w3 ⟨y3, rfl, hv3, hi3, hb3⟩; have k3 := trivial)
    | (have kq2 := k1; go_at_call 61; refine (item_c _ _).mono ?_; rintro e w2 ⟨y2, rfl, hv2, hi2, hb2⟩; have k2 := trivial)
    | (go_at_call 61; refine (item_c _ _).mono ?_; rintro e w1 ⟨y1, rfl, hv1, hi1, hb1⟩; have k1 := trivial))
  have c5 := (Below.refl w5.heap.size w5).alloc (Nat.le_refl _) (.cells #[.int .u8 y5.k, .string y5.t, .slice y5.la y5.l.length y5.lc, .slice y5.ka y5.ks.length y5.kc] 48)
  have cB := below_via hb5 c5
  have c4 := below_via ((Below.refl w4.heap.size w4).alloc (Nat.le_refl _) _) cB
  have c3 := below_via hb4 c4
  have cA := below_via hb3 c3
  have c2 := below_via ((Below.refl w2.heap.size w2).alloc (Nat.le_refl _) _) cA
  have c1 := below_via hb2 c2
  have c0 := below_via hb1 c1
  have d1 := (cA.block w2.heap.size (by simp)).trans (heap_alloc_new w2 _)
  have d2 := (cB.block w4.heap.size (by simp)).trans (heap_alloc_new w4 _)
  have d3 := heap_alloc_new w5 (.cells #[.int .u8 y5.k, .string y5.t, .slice y5.la y5.l.length y5.lc, .slice y5.ka y5.ks.length y5.kc] 48)
  have r1 := Rd.up (hi1.widen (Nat.zero_le _) (Nat.le_refl _)) c1
  have r2 := Rd.up (hi2.widen (Nat.zero_le _) (Nat.le_refl _)) c2
  have r3 := Rd.up (hi3.widen (Nat.zero_le _) (Nat.le_refl _)) c3
  have r4 := Rd.up (hi4.widen (Nat.zero_le _) (Nat.le_refl _)) c4
  have r5 := Rd.up (hi5.widen (Nat.zero_le _) (Nat.le_refl _)) c5
  have s1 : n1.toList ≠ [] := by simp [n1, ByteArray.toList_eq]
  have s2 : n2.toList ≠ [] := by simp [n2, ByteArray.toList_eq]
  have s3 : n3.toList ≠ [] := by simp [n3, ByteArray.toList_eq]
  have z1 : n1.size ≤ 1000 := by decide
  have z2 : n2.size ≤ 1000 := by decide
  have z3 : n3.size ≤ 1000 := by decide
  have x1 : LA.Rd (w5.alloc (.cells #[.int .u8 y5.k, .string y5.t, .slice y5.la y5.l.length y5.lc, .slice y5.ka y5.ks.length y5.kc] 48)) ⟨some ⟨w2.heap.size, 0, none⟩, [y1, y2], 2⟩ := items_rd (ids := [n1, n2]) d1 (by intro y hy; simp at hy; rcases hy with rfl | rfl; exact r1; exact r2) (by simp only [List.map_cons, List.map_nil, hv1, hv2]; rfl) (by intro s hs; simp at hs; rcases hs with rfl | rfl; exact z1; exact z2) (by simp) 2
  have x2 : LA.Rd (w5.alloc (.cells #[.int .u8 y5.k, .string y5.t, .slice y5.la y5.l.length y5.lc, .slice y5.ka y5.ks.length y5.kc] 48)) ⟨some ⟨w4.heap.size, 0, none⟩, [y3, y4], 2⟩ := items_rd (ids := [n2, n3]) d2 (by intro y hy; simp at hy; rcases hy with rfl | rfl; exact r3; exact r4) (by simp only [List.map_cons, List.map_nil, hv3, hv4]; rfl) (by intro s hs; simp at hs; rcases hs with rfl | rfl; exact z2; exact z3) (by simp) 2
  have x3 : LA.Rd (w5.alloc (.cells #[.int .u8 y5.k, .string y5.t, .slice y5.la y5.l.length y5.lc, .slice y5.ka y5.ks.length y5.kc] 48)) ⟨some ⟨w5.heap.size, 0, none⟩, [y5], 1⟩ := items_rd (ids := [n1]) d3 (by intro y hy; simp at hy; subst hy; exact r5) (by simp only [List.map_cons, List.map_nil, hv5]; rfl) (by intro s hs; simp at hs; subst hs; exact z1) (by simp) 1
  have HPL := Lib.hid (show Calls Tryz.prog 14 #[.slice (some ⟨w2.heap.size, 0, none⟩) 2 2, .slice (some ⟨w4.heap.size, 0, none⟩) 2 2, .slice (some ⟨w5.heap.size, 0, none⟩) 1 1, .agg #[.bool false, .int .u8 0, .string ⟨#[105, 100]⟩, .int .u8 0, .int .u8 0]] (w5.alloc (.cells #[.int .u8 y5.k, .string y5.t, .slice y5.la y5.l.length y5.lc, .slice y5.ka y5.ks.length y5.kc] 48))
      (fun e w' => ∃ A, e = .returned (.tuple #[.slice A 3 3, .bool true]) ∧ SlE Tr.enc 4 w' 0 w'.heap.size A [⟨n1, 0, -1, 0⟩, ⟨n2, 1, 0, -1⟩, ⟨n3, -1, 1, -1⟩] ∧ Below (w5.alloc (.cells #[.int .u8 y5.k, .string y5.t, .slice y5.la y5.l.length y5.lc, .slice y5.ka y5.ks.length y5.kc] 48)).heap.size (w5.alloc (.cells #[.int .u8 y5.k, .string y5.t, .slice y5.la y5.l.length y5.lc, .slice y5.ka y5.ks.length y5.kc] 48)) w') by
    have hp := plan_c _ _ _ _ x1 x2 x3 false 0 0 0 ⟨#[105, 100]⟩ (hS.below c0)
    have e1 : namesP ⟨#[105, 100]⟩ (LA.v ⟨some ⟨w2.heap.size, 0, none⟩, [y1, y2], 2⟩) = some [n1, n2] := by
      rw [LA.v]; simp only [List.map_cons, List.map_nil, hv1, hv2]; exact names_two s1 s2 (by simp)
    have e2 : namesP ⟨#[105, 100]⟩ (LA.v ⟨some ⟨w4.heap.size, 0, none⟩, [y3, y4], 2⟩) = some [n2, n3] := by
      rw [LA.v]; simp only [List.map_cons, List.map_nil, hv3, hv4]; exact names_two s2 s3 (by simp)
    have e3 : namesP ⟨#[105, 100]⟩ (LA.v ⟨some ⟨w5.heap.size, 0, none⟩, [y5], 1⟩) = some [n1] := by
      rw [LA.v]; simp only [List.map_cons, List.map_nil, hv5]; exact names_one s1
    rw [e1, e2, e3] at hp
    refine hp.mono ?_
    rintro e w' (⟨xb, xl, xr, T, A, h1, h2, h3, h4, rfl, h5, h6⟩ | ⟨h1 | h1 | h1, _⟩)
    · cases h1; cases h2; cases h3
      obtain rfl := lives_plan h4
      exact ⟨A, rfl, h5.widen (Nat.zero_le _) (Nat.le_refl _), h6⟩
    · cases h1
    · cases h1
    · cases h1)
  have HC0 := Lib.hid c0
  clear c5 cB c4 c3 cA c2 c1 c0 d1 d2 d3 r1 r2 r3 r4 r5 s1 s2 s3 z1 z2 z3 x1 x2 x3 hv1 hv2 hv3 hv4 hv5 hi1 hi2 hi3 hi4 hi5 hb1 hb2 hb3 hb4 hb5 k1 k2 k3 k4 k5
  refine HPL.out.mono ?_
  rintro e w6 ⟨A, rfl, hA, hb6⟩
  obtain ⟨b, off, rfl, -, hbl, -, hc⟩ := hA (by simp)
  have a0 := hc 0 _ rfl 0 _ rfl
  have a1 := hc 0 _ rfl 1 _ rfl
  have a2 := hc 0 _ rfl 2 _ rfl
  have a3 := hc 0 _ rfl 3 _ rfl
  have a4 := hc 1 _ rfl 0 _ rfl
  have a5 := hc 1 _ rfl 1 _ rfl
  have a6 := hc 1 _ rfl 2 _ rfl
  have a7 := hc 1 _ rfl 3 _ rfl
  have a8 := hc 2 _ rfl 0 _ rfl
  have a9 := hc 2 _ rfl 1 _ rfl
  have a10 := hc 2 _ rfl 2 _ rfl
  have a11 := hc 2 _ rfl 3 _ rfl
  simp only [Nat.zero_mul, Nat.one_mul, Nat.add_zero, Nat.reduceMul] at a0 a1 a2 a3 a4 a5 a6 a7 a8 a9 a10 a11
  unfold n1 at a0
  unfold n2 at a4
  unfold n3 at a8
  clear hA hc
  have HB6 := Lib.hid hb6
  clear hb6
  go_wp2_with fail
  go_ret
  exact ⟨rfl, below_via HC0.out HB6.out⟩
end Go.Proofs.YtcpdogjcofkpcaaGreatDoor
