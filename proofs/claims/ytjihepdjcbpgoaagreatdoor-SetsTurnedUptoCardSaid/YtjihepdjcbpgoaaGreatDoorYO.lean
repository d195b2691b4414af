/-
  inarchlaw27.SetsTurned answers true. Conditions: the lists lie in memory, lengths and weights are bounded; strconv's table of powers holds what its initialiser lays.
-/
import Derived.Test.YtjihepdjcbpgoaaGreatDoorYN
namespace Go.Proofs.YtjihepdjcbpgoaaGreatDoor
open Go.RowKit Go.Sort

/-- What a merged set is, as Plan and Take leave it. -/
def MgIs (b l r : List Val) (u : Int) (m : List Val) : Prop :=
  (anyBad (b ++ l ++ r) = true → m = []) ∧ (anyBad (b ++ l ++ r) = false → Merged (keysV b) (keysV l) (keysV r) u (keysV m) ∧ ∀ v ∈ m, v ∈ l ∨ v ∈ r)
theorem bad_turn (b l r : List Val) : anyBad (b ++ l ++ r) = anyBad (b ++ r ++ l) := by
  have h1 := bad_split (b := b) (l := l) (r := r)
  have h2 := bad_split (b := b) (l := r) (r := l)
  cases e1 : anyBad (b ++ l ++ r) with
  | false =>
    obtain ⟨g1, g2, g3⟩ := h1.1 e1
    exact (h2.2 ⟨g1, g3, g2⟩).symm
  | true =>
    cases e2 : anyBad (b ++ r ++ l) with
    | true => rfl
    | false =>
      obtain ⟨g1, g2, g3⟩ := h2.1 e2
      rw [h1.2 ⟨g1, g3, g2⟩] at e1; cases e1
theorem bad_two (b r : List Val) : anyBad (b ++ b ++ r) = anyBad (b ++ r ++ r) := by
  have h1 := bad_split (b := b) (l := b) (r := r)
  have h2 := bad_split (b := b) (l := r) (r := r)
  cases e1 : anyBad (b ++ b ++ r) with
  | false =>
    obtain ⟨g1, g2, g3⟩ := h1.1 e1
    exact (h2.2 ⟨g1, g3, g3⟩).symm
  | true =>
    cases e2 : anyBad (b ++ r ++ r) with
    | true => rfl
    | false =>
      obtain ⟨g1, g2, g3⟩ := h2.1 e2
      rw [h1.2 ⟨g1, g1, g3⟩] at e1; cases e1
section
variable {b l r m n : List Val} {u v : Int}
theorem MgIs.may (h : MgIs b l r u m) (hb : anyBad (b ++ l ++ r) = false) : ∀ x ∈ m, x.may = true := fun x hx => by
  obtain ⟨h1, h2, h3⟩ := bad_split.1 hb
  rcases (h.2 hb).2 x hx with h | h
  · exact h2 x h
  · exact h3 x h
theorem MgIs.turned (h : MgIs b l r u m) (h2 : MgIs b r l v n) (huv : (u = 1 ∧ v = 2) ∨ (u = 2 ∧ v = 1) ∨ (u ≠ 1 ∧ u ≠ 2 ∧ v ≠ 1 ∧ v ≠ 2)) : eqlV m n = true := by
  cases hb : anyBad (b ++ l ++ r) with
  | true => rw [h.1 hb, h2.1 (by rw [← bad_turn]; exact hb)]; rfl
  | false =>
    have hb2 : anyBad (b ++ r ++ l) = false := by rw [← bad_turn]; exact hb
    exact keys_eql (h.may hb) (h2.may hb2) ((h.2 hb).1.turned (h2.2 hb2).1 huv)
theorem MgIs.two (h : MgIs b b r u m) (h2 : MgIs b r r u n) : eqlV m n = true := by
  cases hb : anyBad (b ++ b ++ r) with
  | true => rw [h.1 hb, h2.1 (by rw [← bad_two]; exact hb)]; rfl
  | false =>
    have hb2 : anyBad (b ++ r ++ r) = false := by rw [← bad_two]; exact hb
    exact keys_eql (h.may hb) (h2.may hb2) ((h.2 hb).1.sides (h2.2 hb2).1)
theorem MgIs.has (h : MgIs b b r u m) (hm : m ≠ []) {x : Val} (hx : x ∈ r) : inV m x = true := by
  cases hb : anyBad (b ++ b ++ r) with
  | true => exact absurd (h.1 hb) hm
  | false =>
    obtain ⟨h1, -, h3⟩ := bad_split.1 hb
    rw [inV_key (h.may hb) (h3 x hx), decide_eq_true_iff, (h.2 hb).1.mem]
    have hk : x.key ∈ keysV r := List.mem_map_of_mem hx
    by_cases hkb : x.key ∈ keysV b
    · exact .inl ⟨hkb, hkb, hk⟩
    · exact .inr ⟨hkb, .inr hk⟩
theorem MgIs.of (h : MgIs b b r u m) {x : Val} (hx : x ∈ m) : inV r x = true := by
  cases hb : anyBad (b ++ b ++ r) with
  | true => rw [h.1 hb] at hx; cases hx
  | false =>
    obtain ⟨h1, -, h3⟩ := bad_split.1 hb
    rw [inV_key h3 (h.may hb x hx), decide_eq_true_iff]
    rcases (h.2 hb).1.mem.1 (List.mem_map_of_mem hx) with ⟨-, -, h⟩ | ⟨h1, h2 | h2⟩
    · exact h
    · exact absurd h2 h1
    · exact h2
end
/-- merged of short lists. -/
def MgS (b l r : List Val) (u : Int) (w : World) (e : Ending) (w' : World) : Prop :=
  ∃ (ys : List AV) (a : Option Addr), e = .returned (.slice a ys.length ys.length) ∧ MgIs b l r u (ys.map AV.v) ∧ LA.Rd w' ⟨a, ys, ys.length⟩ ∧ Below w.heap.size w w'
theorem mg_s (w : World) (x y z : LA) (u : Nat) (hx : x.Rd w) (hy : y.Rd w) (hz : z.Rd w) (hP : Pow w) (hyl : y.l.length ≤ 500) (hzl : z.l.length ≤ 500) :
    Calls Tryz.prog 38 #[.slice x.a x.l.length x.c, .slice y.a y.l.length y.c, .slice z.a z.l.length z.c, .int .u8 u] w (MgS x.v y.v z.v u w) :=
  (merged_c w x y z u hx hy hz hP).mono fun e w' h => by
    obtain ⟨ys, a, h1, h2, h3, h4, h5, h6, h7⟩ := h
    refine ⟨ys, a, h1, ⟨fun hb => by rw [h2 hb]; rfl, h3⟩, ⟨h4, ?_, h5⟩, h7⟩
    have e1 : y.v.length = y.l.length := List.length_map _
    have e2 : z.v.length = z.l.length := List.length_map _
    show ys.length ≤ _
    omega

set_option maxRecDepth 100000 in
set_option maxHeartbeats 3200000 in
theorem sturned (w : World) (x y z : LA) (u : Nat) (hx : x.Rd w) (hy : y.Rd w) (hz : z.Rd w) (hP : Pow w) :
    Calls Tryz.prog 7 #[.agg #[.slice x.a x.l.length x.c, .slice y.a y.l.length y.c, .slice z.a z.l.length z.c], .int .u8 u] w (Ret (.bool true) w) := by
  have hxl := hx.len
  have hyl := hy.len
  have hzl := hz.len
  have HX := Lib.hid hx
  have HY := Lib.hid hy
  have HZ := Lib.hid hz
  have HP := Lib.hid hP
  clear hx hy hz hP
  go_enter Tryz.func7, Tryz.ntmps7
  go_upto_region 1 with fail
  go_name_world W1 hW1
  have hb1 : Below w.heap.size w W1 := by rw [← hW1]; exact (Below.refl _ _).alloc (Nat.le_refl _) _
  have hbx : W1.heap[w.heap.size]? = some (.cells #[.slice x.a x.l.length x.c, .slice y.a y.l.length y.c, .slice z.a z.l.length z.c] 38 (0, 0)) := by rw [← hW1]; exact heap_alloc_new w _
  clear hW1
  obtain ⟨k0, k1, k2, kl⟩ := has_cell hbx
  have HC := Lib.hid (fun W (h : Below W1.heap.size W1 W) => And.intro ((h.cell (p := ⟨w.heap.size, 0, none⟩) kl).trans k0) (And.intro ((h.cell (p := ⟨w.heap.size, 1, none⟩) kl).trans k1) ((h.cell (p := ⟨w.heap.size, 2, none⟩) kl).trans k2)))
  have HK3 := Lib.hid (fun W (h : Below W1.heap.size W1 W) (k : Nat) (hk : k < 3) => (h.cell (p := ⟨w.heap.size, k, none⟩) kl).trans (l3_cell hbx k hk))
  have HB1 := Lib.hid hb1
  have hlist := lit_sl (enc := LA.enc) (size := 1) (l := [x, y, z]) (t := 23) (fr := (0, 0)) (fun _ => rfl) (heap_alloc_new W1 (.cells #[.slice x.a x.l.length x.c, .slice y.a y.l.length y.c, .slice z.a z.l.length z.c] 23))
  have hba := (Below.refl W1.heap.size W1).alloc (Nat.le_refl _) (.cells #[.slice x.a x.l.length x.c, .slice y.a y.l.length y.c, .slice z.a z.l.length z.c] 23)
  have HG := Lib.hid (great23_s _ (some ⟨W1.heap.size, 0, none⟩) 3 [x, y, z] (hlist.widen (Nat.zero_le _) (by simp)) (fun q hq => by
    have hbw := below_via hb1 hba
    simp only [List.mem_cons, List.not_mem_nil, or_false] at hq
    rcases hq with rfl | rfl | rfl
    · exact HX.out.up hbw
    · exact HY.out.up hbw
    · exact HZ.out.up hbw) (by simp))
  have HBA := Lib.hid hba
  have HLV := fun W (h : Below w.heap.size w W) => Lib.hid (lives27_c W (HP.out.below h))
  clear hlist hba hb1 hbx
  go_upto_if 21 with (go_at_call 30; refine HG.out.mono ?_; rintro e w2 ⟨r, rfl, hsm, hb2⟩)
  have hb12 : Below W1.heap.size W1 w2 := below_via HBA.out hb2
  have HSM := Lib.hid hsm
  have HB12 := Lib.hid hb12
  have HBW2 := Lib.hid (below_via HB1.out hb12)
  clear hsm hb2 hb12 k0 k1 k2
  cases r with
  | true =>
    go_wp2_with (go_at_call 31; refine (HLV _ HBW2.out).out.mono ?_; rintro e w5 ⟨rfl, hb5⟩)
    go_ret
    exact ⟨rfl, below_via HBW2.out hb5⟩
  | false =>
    have sm := HSM.out rfl
    have sx := sm x (by simp)
    have sy := sm y (by simp)
    have sz := sm z (by simp)
    obtain ⟨k0, k1, k2⟩ := HC.out w2 HB12.out
    have kl2 : w.heap.size < w2.heap.size := Nat.lt_of_lt_of_le kl HB12.out.size
    have HW2 := Lib.hid HBW2.out
    clear sm HG
    go_upto_region 7 with fail
    clear k0 k1 k2 kl2
    rcases (show (u : Int) % 3 = 0 ∨ (u : Int) % 3 = 1 ∨ (u : Int) % 3 = 2 by omega) with hc | hc | hc
    · rw [hc]
      have M1 := fun W (h : Below w.heap.size w W) => Lib.hid (show Calls Tryz.prog 38 #[.slice x.a x.l.length x.c, .slice y.a y.l.length y.c, .slice z.a z.l.length z.c, .int .u8 0] W (MgS x.v y.v z.v 0 W) from mg_s W x y z 0 (HX.out.up h) (HY.out.up h) (HZ.out.up h) (HP.out.below h) sy sz)
      have M2 := fun W (h : Below w.heap.size w W) => Lib.hid (show Calls Tryz.prog 38 #[.slice x.a x.l.length x.c, .slice z.a z.l.length z.c, .slice y.a y.l.length y.c, .int .u8 0] W (MgS x.v z.v y.v 0 W) from mg_s W x z y 0 (HX.out.up h) (HZ.out.up h) (HY.out.up h) (HP.out.below h) sz sy)
      have M3 := fun W (h : Below w.heap.size w W) => Lib.hid (show Calls Tryz.prog 38 #[.slice x.a x.l.length x.c, .slice x.a x.l.length x.c, .slice z.a z.l.length z.c, .int .u8 0] W (MgS x.v x.v z.v 0 W) from mg_s W x x z 0 (HX.out.up h) (HX.out.up h) (HZ.out.up h) (HP.out.below h) sx sz)
      have M4 := fun W (h : Below w.heap.size w W) => Lib.hid (show Calls Tryz.prog 38 #[.slice x.a x.l.length x.c, .slice z.a z.l.length z.c, .slice z.a z.l.length z.c, .int .u8 0] W (MgS x.v z.v z.v 0 W) from mg_s W x z z 0 (HX.out.up h) (HZ.out.up h) (HZ.out.up h) (HP.out.below h) sz sz)
      clear hc
      go_upto_region 18 with (first
        | (go_at_call 38; first
          | (have kk := m3; (with_reducible refine (M4 _ h6).out.mono ?_); rintro e w7 ⟨y4, a4, rfl, g4, r4, hb7⟩
             have h7 := below_via h6 hb7
             have HE2 := Lib.hid (equal27_c w7 ⟨a3, y3, y3.length⟩ ⟨a4, y4, y4.length⟩ (R3.out.up hb7) r4)
             rw [show eqlV (LA.v ⟨a3, y3, y3.length⟩) (LA.v ⟨a4, y4, y4.length⟩) = true from G3.out.two g4] at HE2
             clear g4 r4 m3)
          | (have kk := m2; (with_reducible refine (M3 _ he5).out.mono ?_); rintro e w6 ⟨y3, a3, rfl, g3, r3, hb6⟩
             have h6 := below_via he5 hb6
             have G3 := Lib.hid g3
             have R3 := Lib.hid r3
             have m3 := trivial
             clear g3 r3 m2)
          | (have kk := m1; (with_reducible refine (M2 _ h4).out.mono ?_); rintro e w5 ⟨y2, a2, rfl, g2, r2, hb5⟩
             have h5 := below_via h4 hb5
             have HE1 := Lib.hid (equal27_c w5 ⟨a1, y1, y1.length⟩ ⟨a2, y2, y2.length⟩ (R1.out.up hb5) r2)
             rw [show eqlV (LA.v ⟨a1, y1, y1.length⟩) (LA.v ⟨a2, y2, y2.length⟩) = true from G1.out.turned g2 (by simp)] at HE1
             clear g2 r2 m1)
          | ((with_reducible refine (M1 _ HW2.out).out.mono ?_); rintro e w4 ⟨y1, a1, rfl, g1, r1, hb4⟩
             have h4 := below_via HW2.out hb4
             have G1 := Lib.hid g1
             have R1 := Lib.hid r1
             have m1 := trivial
             clear g1 r1))
        | (go_at_call 40; first
          | (have kk := h7; refine HE2.out.mono ?_; rintro e w9 ⟨rfl, hb9⟩
             have h9 := below_via h7 hb9)
          | (refine HE1.out.mono ?_; rintro e w8 ⟨rfl, hb8⟩
             have he5 := below_via h5 hb8
             have m2 := trivial)))
      have hb69 : Below w6.heap.size w6 w9 := below_via hb7 hb9
      have hyl3 : y3.length ≤ 1048576 := R3.out.len
      have HB69 := Lib.hid hb69
      have HBW6 := Lib.hid h6
      clear hb4 hb5 hb6 hb7 hb8 hb9 h4 h5 he5 h7 h9 hb69 M1 M2 M3 M4 HE1 HE2
      go_wp2_with fail
      go_loopw [12] (fun s12 wr => ∃ i : Nat, i ≤ z.l.length ∧ s12 = .int .i64 i ∧ Below w6.heap.size w6 wr) (fun s12 _ => z.l.length - (intOf s12).toNat)
      case atStart => exact ⟨0, Nat.zero_le _, by go_num, HB69.out⟩
      case round =>
        obtain ⟨i, hi, rfl, hbr⟩ := hrel
        have HBR := Lib.hid hbr
        have HBWR := Lib.hid (below_via HBW6.out hbr)
        clear hbr h6
        by_cases hlt : i < z.l.length
        · have hlt' : (i : Int) < (z.l.length : Int) := by omega
          have hi0 : (0 : Int) ≤ (i : Int) := by omega
          have hwi : IntKind.i64.wrap ((i : Int) + 1) = ((i + 1 : Nat) : Int) := by rw [IntWalk.i64_in _ (by omega)]; omega
          have hkk : z.l[i]? = some z.l[i] := List.getElem?_eq_getElem hlt
          have hmem : z.l[i] ∈ z.l := List.getElem_mem hlt
          generalize z.l[i] = t at *
          obtain ⟨b, off, hla, -, -, hb2, c0, c1, c2, c3⟩ := vals_at (HZ.out.up HBWR.out).sl hkk
          have htr := (HZ.out.up HBWR.out).kids t hmem
          rcases Nat.eq_zero_or_pos y3.length with h0 | h0
          · have hg0 : decide (0 < y3.length) = false := decide_eq_false (by omega)
            have hg1 : decide ((0 : Int) < (y3.length : Int)) = false := decide_eq_false (by omega)
            have hg2 : ¬ (0 : Int) < (y3.length : Int) := by omega
            have hg3 : ¬ 0 < y3.length := by omega
            clear h0 hla c0 c1 c2 c3 hkk hmem htr
            go_wp2_with fail
            exact ⟨⟨i + 1, by omega, by go_num, HBR.out⟩, by simp [intOf]; omega⟩
          · have hg0 : decide (0 < y3.length) = true := decide_eq_true h0
            have hg1 : decide ((0 : Int) < (y3.length : Int)) = true := decide_eq_true (by omega)
            have hg2 : (0 : Int) < (y3.length : Int) := by omega
            have hin : inV (y3.map AV.v) t.v = true := G3.out.has (fun e => by have := congrArg List.length e; simp at this; rw [this] at h0; simp at h0) (List.mem_map_of_mem hmem)
            have HI := Lib.hid (in27_c wr ⟨a3, y3, y3.length⟩ t (R3.out.up HBR.out) htr.1 htr.2)
            rw [show (LA.v ⟨a3, y3, y3.length⟩) = y3.map AV.v from rfl, hin] at HI
            have HLA := Lib.hid hla
            clear hin hkk hmem htr hla
            go_upto_region 21 with fail
            rw [HLA.out]
            go_upto_if 79 with (go_at_call 39; refine HI.out.mono ?_; rintro e w10 ⟨rfl, hb10⟩)
            rw [← HLA.out]
            go_wp2_with fail
            exact ⟨⟨i + 1, by omega, by go_num, below_via HBR.out hb10⟩, by simp [intOf]; omega⟩
        · obtain rfl : i = z.l.length := by omega
          have hge : ¬ (z.l.length : Int) < (z.l.length : Int) := by omega
          go_wp2_with fail
          go_loopw [13] (fun s13 wi => ∃ i : Nat, i ≤ y3.length ∧ s13 = .int .i64 i ∧ Below w6.heap.size w6 wi) (fun s13 _ => y3.length - (intOf s13).toNat)
          case atStart => exact ⟨0, Nat.zero_le _, by go_num, HBR.out⟩
          case round =>
            clear HBR HBWR
            obtain ⟨i, hi, rfl, hbr⟩ := hrel
            have HBR := Lib.hid hbr
            have HBWR := Lib.hid (below_via HBW6.out hbr)
            clear hbr
            by_cases hlt : i < y3.length
            · have hlt' : (i : Int) < (y3.length : Int) := by omega
              have hi0 : (0 : Int) ≤ (i : Int) := by omega
              have hwi : IntKind.i64.wrap ((i : Int) + 1) = ((i + 1 : Nat) : Int) := by rw [IntWalk.i64_in _ (by omega)]; omega
              have hkk : y3[i]? = some y3[i] := List.getElem?_eq_getElem hlt
              have hmem : y3[i] ∈ y3 := List.getElem_mem hlt
              generalize y3[i] = t at *
              obtain ⟨b, off, hla, -, -, hb2, c0, c1, c2, c3⟩ := vals_at (R3.out.up HBR.out).sl hkk
              have htr := (R3.out.up HBR.out).kids t hmem
              have hin : inV z.v t.v = true := G3.out.of (List.mem_map_of_mem hmem)
              have HI := Lib.hid (in27_c wr z t (HZ.out.up HBWR.out) htr.1 htr.2)
              rw [hin] at HI
              clear hin hkk hmem htr
              subst hla
              go_wp2_with (go_at_call 39; refine HI.out.mono ?_; rintro e w10 ⟨rfl, hb10⟩)
              exact ⟨⟨i + 1, by omega, by go_num, below_via HBR.out hb10⟩, by simp [intOf]; omega⟩
            · obtain rfl : i = y3.length := by omega
              have hge2 : ¬ (y3.length : Int) < (y3.length : Int) := by omega
              go_wp2_with (go_at_call 31; refine (HLV _ HBWR.out).out.mono ?_; rintro e w11 ⟨rfl, hb11⟩)
              go_ret
              exact ⟨rfl, below_via HBWR.out hb11⟩
    · rw [hc]
      have M1 := fun W (h : Below w.heap.size w W) => Lib.hid (show Calls Tryz.prog 38 #[.slice x.a x.l.length x.c, .slice y.a y.l.length y.c, .slice z.a z.l.length z.c, .int .u8 1] W (MgS x.v y.v z.v 1 W) from mg_s W x y z 1 (HX.out.up h) (HY.out.up h) (HZ.out.up h) (HP.out.below h) sy sz)
      have M2 := fun W (h : Below w.heap.size w W) => Lib.hid (show Calls Tryz.prog 38 #[.slice x.a x.l.length x.c, .slice z.a z.l.length z.c, .slice y.a y.l.length y.c, .int .u8 2] W (MgS x.v z.v y.v 2 W) from mg_s W x z y 2 (HX.out.up h) (HZ.out.up h) (HY.out.up h) (HP.out.below h) sz sy)
      have M3 := fun W (h : Below w.heap.size w W) => Lib.hid (show Calls Tryz.prog 38 #[.slice x.a x.l.length x.c, .slice x.a x.l.length x.c, .slice z.a z.l.length z.c, .int .u8 1] W (MgS x.v x.v z.v 1 W) from mg_s W x x z 1 (HX.out.up h) (HX.out.up h) (HZ.out.up h) (HP.out.below h) sx sz)
      have M4 := fun W (h : Below w.heap.size w W) => Lib.hid (show Calls Tryz.prog 38 #[.slice x.a x.l.length x.c, .slice z.a z.l.length z.c, .slice z.a z.l.length z.c, .int .u8 1] W (MgS x.v z.v z.v 1 W) from mg_s W x z z 1 (HX.out.up h) (HZ.out.up h) (HZ.out.up h) (HP.out.below h) sz sz)
      clear hc
      go_upto_region 18 with (first
        | (go_at_call 38; first
          | (have kk := m3; (with_reducible refine (M4 _ h6).out.mono ?_); rintro e w7 ⟨y4, a4, rfl, g4, r4, hb7⟩
             have h7 := below_via h6 hb7
             have HE2 := Lib.hid (equal27_c w7 ⟨a3, y3, y3.length⟩ ⟨a4, y4, y4.length⟩ (R3.out.up hb7) r4)
             rw [show eqlV (LA.v ⟨a3, y3, y3.length⟩) (LA.v ⟨a4, y4, y4.length⟩) = true from G3.out.two g4] at HE2
             clear g4 r4 m3)
          | (have kk := m2; (with_reducible refine (M3 _ he5).out.mono ?_); rintro e w6 ⟨y3, a3, rfl, g3, r3, hb6⟩
             have h6 := below_via he5 hb6
             have G3 := Lib.hid g3
             have R3 := Lib.hid r3
             have m3 := trivial
             clear g3 r3 m2)
          | (have kk := m1; (with_reducible refine (M2 _ h4).out.mono ?_); rintro e w5 ⟨y2, a2, rfl, g2, r2, hb5⟩
             have h5 := below_via h4 hb5
             have HE1 := Lib.hid (equal27_c w5 ⟨a1, y1, y1.length⟩ ⟨a2, y2, y2.length⟩ (R1.out.up hb5) r2)
             rw [show eqlV (LA.v ⟨a1, y1, y1.length⟩) (LA.v ⟨a2, y2, y2.length⟩) = true from G1.out.turned g2 (by simp)] at HE1
             clear g2 r2 m1)
          | ((with_reducible refine (M1 _ HW2.out).out.mono ?_); rintro e w4 ⟨y1, a1, rfl, g1, r1, hb4⟩
             have h4 := below_via HW2.out hb4
             have G1 := Lib.hid g1
             have R1 := Lib.hid r1
             have m1 := trivial
             clear g1 r1))
        | (go_at_call 40; first
          | (have kk := h7; refine HE2.out.mono ?_; rintro e w9 ⟨rfl, hb9⟩
             have h9 := below_via h7 hb9)
          | (refine HE1.out.mono ?_; rintro e w8 ⟨rfl, hb8⟩
             have he5 := below_via h5 hb8
             have m2 := trivial)))
      have hb69 : Below w6.heap.size w6 w9 := below_via hb7 hb9
      have hyl3 : y3.length ≤ 1048576 := R3.out.len
      have HB69 := Lib.hid hb69
      have HBW6 := Lib.hid h6
      clear hb4 hb5 hb6 hb7 hb8 hb9 h4 h5 he5 h7 h9 hb69 M1 M2 M3 M4 HE1 HE2
      go_wp2_with fail
      go_loopw [12] (fun s12 wr => ∃ i : Nat, i ≤ z.l.length ∧ s12 = .int .i64 i ∧ Below w6.heap.size w6 wr) (fun s12 _ => z.l.length - (intOf s12).toNat)
      case atStart => exact ⟨0, Nat.zero_le _, by go_num, HB69.out⟩
      case round =>
        obtain ⟨i, hi, rfl, hbr⟩ := hrel
        have HBR := Lib.hid hbr
        have HBWR := Lib.hid (below_via HBW6.out hbr)
        clear hbr h6
        by_cases hlt : i < z.l.length
        · have hlt' : (i : Int) < (z.l.length : Int) := by omega
          have hi0 : (0 : Int) ≤ (i : Int) := by omega
          have hwi : IntKind.i64.wrap ((i : Int) + 1) = ((i + 1 : Nat) : Int) := by rw [IntWalk.i64_in _ (by omega)]; omega
          have hkk : z.l[i]? = some z.l[i] := List.getElem?_eq_getElem hlt
          have hmem : z.l[i] ∈ z.l := List.getElem_mem hlt
          generalize z.l[i] = t at *
          obtain ⟨b, off, hla, -, -, hb2, c0, c1, c2, c3⟩ := vals_at (HZ.out.up HBWR.out).sl hkk
          have htr := (HZ.out.up HBWR.out).kids t hmem
          rcases Nat.eq_zero_or_pos y3.length with h0 | h0
          · have hg0 : decide (0 < y3.length) = false := decide_eq_false (by omega)
            have hg1 : decide ((0 : Int) < (y3.length : Int)) = false := decide_eq_false (by omega)
            have hg2 : ¬ (0 : Int) < (y3.length : Int) := by omega
            have hg3 : ¬ 0 < y3.length := by omega
            clear h0 hla c0 c1 c2 c3 hkk hmem htr
            go_wp2_with fail
            exact ⟨⟨i + 1, by omega, by go_num, HBR.out⟩, by simp [intOf]; omega⟩
          · have hg0 : decide (0 < y3.length) = true := decide_eq_true h0
            have hg1 : decide ((0 : Int) < (y3.length : Int)) = true := decide_eq_true (by omega)
            have hg2 : (0 : Int) < (y3.length : Int) := by omega
            have hin : inV (y3.map AV.v) t.v = true := G3.out.has (fun e => by have := congrArg List.length e; simp at this; rw [this] at h0; simp at h0) (List.mem_map_of_mem hmem)
            have HI := Lib.hid (in27_c wr ⟨a3, y3, y3.length⟩ t (R3.out.up HBR.out) htr.1 htr.2)
            rw [show (LA.v ⟨a3, y3, y3.length⟩) = y3.map AV.v from rfl, hin] at HI
            have HLA := Lib.hid hla
            clear hin hkk hmem htr hla
            go_upto_region 21 with fail
            rw [HLA.out]
            go_upto_if 79 with (go_at_call 39; refine HI.out.mono ?_; rintro e w10 ⟨rfl, hb10⟩)
            rw [← HLA.out]
            go_wp2_with fail
            exact ⟨⟨i + 1, by omega, by go_num, below_via HBR.out hb10⟩, by simp [intOf]; omega⟩
        · obtain rfl : i = z.l.length := by omega
          have hge : ¬ (z.l.length : Int) < (z.l.length : Int) := by omega
          go_wp2_with fail
          go_loopw [13] (fun s13 wi => ∃ i : Nat, i ≤ y3.length ∧ s13 = .int .i64 i ∧ Below w6.heap.size w6 wi) (fun s13 _ => y3.length - (intOf s13).toNat)
          case atStart => exact ⟨0, Nat.zero_le _, by go_num, HBR.out⟩
          case round =>
            clear HBR HBWR
            obtain ⟨i, hi, rfl, hbr⟩ := hrel
            have HBR := Lib.hid hbr
            have HBWR := Lib.hid (below_via HBW6.out hbr)
            clear hbr
            by_cases hlt : i < y3.length
            · have hlt' : (i : Int) < (y3.length : Int) := by omega
              have hi0 : (0 : Int) ≤ (i : Int) := by omega
              have hwi : IntKind.i64.wrap ((i : Int) + 1) = ((i + 1 : Nat) : Int) := by rw [IntWalk.i64_in _ (by omega)]; omega
              have hkk : y3[i]? = some y3[i] := List.getElem?_eq_getElem hlt
              have hmem : y3[i] ∈ y3 := List.getElem_mem hlt
              generalize y3[i] = t at *
              obtain ⟨b, off, hla, -, -, hb2, c0, c1, c2, c3⟩ := vals_at (R3.out.up HBR.out).sl hkk
              have htr := (R3.out.up HBR.out).kids t hmem
              have hin : inV z.v t.v = true := G3.out.of (List.mem_map_of_mem hmem)
              have HI := Lib.hid (in27_c wr z t (HZ.out.up HBWR.out) htr.1 htr.2)
              rw [hin] at HI
              clear hin hkk hmem htr
              subst hla
              go_wp2_with (go_at_call 39; refine HI.out.mono ?_; rintro e w10 ⟨rfl, hb10⟩)
              exact ⟨⟨i + 1, by omega, by go_num, below_via HBR.out hb10⟩, by simp [intOf]; omega⟩
            · obtain rfl : i = y3.length := by omega
              have hge2 : ¬ (y3.length : Int) < (y3.length : Int) := by omega
              go_wp2_with (go_at_call 31; refine (HLV _ HBWR.out).out.mono ?_; rintro e w11 ⟨rfl, hb11⟩)
              go_ret
              exact ⟨rfl, below_via HBWR.out hb11⟩
    · rw [hc]
      have M1 := fun W (h : Below w.heap.size w W) => Lib.hid (show Calls Tryz.prog 38 #[.slice x.a x.l.length x.c, .slice y.a y.l.length y.c, .slice z.a z.l.length z.c, .int .u8 2] W (MgS x.v y.v z.v 2 W) from mg_s W x y z 2 (HX.out.up h) (HY.out.up h) (HZ.out.up h) (HP.out.below h) sy sz)
      have M2 := fun W (h : Below w.heap.size w W) => Lib.hid (show Calls Tryz.prog 38 #[.slice x.a x.l.length x.c, .slice z.a z.l.length z.c, .slice y.a y.l.length y.c, .int .u8 1] W (MgS x.v z.v y.v 1 W) from mg_s W x z y 1 (HX.out.up h) (HZ.out.up h) (HY.out.up h) (HP.out.below h) sz sy)
      have M3 := fun W (h : Below w.heap.size w W) => Lib.hid (show Calls Tryz.prog 38 #[.slice x.a x.l.length x.c, .slice x.a x.l.length x.c, .slice z.a z.l.length z.c, .int .u8 2] W (MgS x.v x.v z.v 2 W) from mg_s W x x z 2 (HX.out.up h) (HX.out.up h) (HZ.out.up h) (HP.out.below h) sx sz)
      have M4 := fun W (h : Below w.heap.size w W) => Lib.hid (show Calls Tryz.prog 38 #[.slice x.a x.l.length x.c, .slice z.a z.l.length z.c, .slice z.a z.l.length z.c, .int .u8 2] W (MgS x.v z.v z.v 2 W) from mg_s W x z z 2 (HX.out.up h) (HZ.out.up h) (HZ.out.up h) (HP.out.below h) sz sz)
      clear hc
      go_upto_region 18 with (first
        | (go_at_call 38; first
          | (have kk := m3; (with_reducible refine (M4 _ h6).out.mono ?_); rintro e w7 ⟨y4, a4, rfl, g4, r4, hb7⟩
             have h7 := below_via h6 hb7
             have HE2 := Lib.hid (equal27_c w7 ⟨a3, y3, y3.length⟩ ⟨a4, y4, y4.length⟩ (R3.out.up hb7) r4)
             rw [show eqlV (LA.v ⟨a3, y3, y3.length⟩) (LA.v ⟨a4, y4, y4.length⟩) = true from G3.out.two g4] at HE2
             clear g4 r4 m3)
          | (have kk := m2; (with_reducible refine (M3 _ he5).out.mono ?_); rintro e w6 ⟨y3, a3, rfl, g3, r3, hb6⟩
             have h6 := below_via he5 hb6
             have G3 := Lib.hid g3
             have R3 := Lib.hid r3
             have m3 := trivial
             clear g3 r3 m2)
          | (have kk := m1; (with_reducible refine (M2 _ h4).out.mono ?_); rintro e w5 ⟨y2, a2, rfl, g2, r2, hb5⟩
             have h5 := below_via h4 hb5
             have HE1 := Lib.hid (equal27_c w5 ⟨a1, y1, y1.length⟩ ⟨a2, y2, y2.length⟩ (R1.out.up hb5) r2)
             rw [show eqlV (LA.v ⟨a1, y1, y1.length⟩) (LA.v ⟨a2, y2, y2.length⟩) = true from G1.out.turned g2 (by simp)] at HE1
             clear g2 r2 m1)
          | ((with_reducible refine (M1 _ HW2.out).out.mono ?_); rintro e w4 ⟨y1, a1, rfl, g1, r1, hb4⟩
             have h4 := below_via HW2.out hb4
             have G1 := Lib.hid g1
             have R1 := Lib.hid r1
             have m1 := trivial
             clear g1 r1))
        | (go_at_call 40; first
          | (have kk := h7; refine HE2.out.mono ?_; rintro e w9 ⟨rfl, hb9⟩
             have h9 := below_via h7 hb9)
          | (refine HE1.out.mono ?_; rintro e w8 ⟨rfl, hb8⟩
             have he5 := below_via h5 hb8
             have m2 := trivial)))
      have hb69 : Below w6.heap.size w6 w9 := below_via hb7 hb9
      have hyl3 : y3.length ≤ 1048576 := R3.out.len
      have HB69 := Lib.hid hb69
      have HBW6 := Lib.hid h6
      clear hb4 hb5 hb6 hb7 hb8 hb9 h4 h5 he5 h7 h9 hb69 M1 M2 M3 M4 HE1 HE2
      go_wp2_with fail
      go_loopw [12] (fun s12 wr => ∃ i : Nat, i ≤ z.l.length ∧ s12 = .int .i64 i ∧ Below w6.heap.size w6 wr) (fun s12 _ => z.l.length - (intOf s12).toNat)
      case atStart => exact ⟨0, Nat.zero_le _, by go_num, HB69.out⟩
      case round =>
        obtain ⟨i, hi, rfl, hbr⟩ := hrel
        have HBR := Lib.hid hbr
        have HBWR := Lib.hid (below_via HBW6.out hbr)
        clear hbr h6
        by_cases hlt : i < z.l.length
        · have hlt' : (i : Int) < (z.l.length : Int) := by omega
          have hi0 : (0 : Int) ≤ (i : Int) := by omega
          have hwi : IntKind.i64.wrap ((i : Int) + 1) = ((i + 1 : Nat) : Int) := by rw [IntWalk.i64_in _ (by omega)]; omega
          have hkk : z.l[i]? = some z.l[i] := List.getElem?_eq_getElem hlt
          have hmem : z.l[i] ∈ z.l := List.getElem_mem hlt
          generalize z.l[i] = t at *
          obtain ⟨b, off, hla, -, -, hb2, c0, c1, c2, c3⟩ := vals_at (HZ.out.up HBWR.out).sl hkk
          have htr := (HZ.out.up HBWR.out).kids t hmem
          rcases Nat.eq_zero_or_pos y3.length with h0 | h0
          · have hg0 : decide (0 < y3.length) = false := decide_eq_false (by omega)
            have hg1 : decide ((0 : Int) < (y3.length : Int)) = false := decide_eq_false (by omega)
            have hg2 : ¬ (0 : Int) < (y3.length : Int) := by omega
            have hg3 : ¬ 0 < y3.length := by omega
            clear h0 hla c0 c1 c2 c3 hkk hmem htr
            go_wp2_with fail
            exact ⟨⟨i + 1, by omega, by go_num, HBR.out⟩, by simp [intOf]; omega⟩
          · have hg0 : decide (0 < y3.length) = true := decide_eq_true h0
            have hg1 : decide ((0 : Int) < (y3.length : Int)) = true := decide_eq_true (by omega)
            have hg2 : (0 : Int) < (y3.length : Int) := by omega
            have hin : inV (y3.map AV.v) t.v = true := G3.out.has (fun e => by have := congrArg List.length e; simp at this; rw [this] at h0; simp at h0) (List.mem_map_of_mem hmem)
            have HI := Lib.hid (in27_c wr ⟨a3, y3, y3.length⟩ t (R3.out.up HBR.out) htr.1 htr.2)
            rw [show (LA.v ⟨a3, y3, y3.length⟩) = y3.map AV.v from rfl, hin] at HI
            have HLA := Lib.hid hla
            clear hin hkk hmem htr hla
            go_upto_region 21 with fail
            rw [HLA.out]
            go_upto_if 79 with (go_at_call 39; refine HI.out.mono ?_; rintro e w10 ⟨rfl, hb10⟩)
            rw [← HLA.out]
            go_wp2_with fail
            exact ⟨⟨i + 1, by omega, by go_num, below_via HBR.out hb10⟩, by simp [intOf]; omega⟩
        · obtain rfl : i = z.l.length := by omega
          have hge : ¬ (z.l.length : Int) < (z.l.length : Int) := by omega
          go_wp2_with fail
          go_loopw [13] (fun s13 wi => ∃ i : Nat, i ≤ y3.length ∧ s13 = .int .i64 i ∧ Below w6.heap.size w6 wi) (fun s13 _ => y3.length - (intOf s13).toNat)
          case atStart => exact ⟨0, Nat.zero_le _, by go_num, HBR.out⟩
          case round =>
            clear HBR HBWR
            obtain ⟨i, hi, rfl, hbr⟩ := hrel
            have HBR := Lib.hid hbr
            have HBWR := Lib.hid (below_via HBW6.out hbr)
            clear hbr
            by_cases hlt : i < y3.length
            · have hlt' : (i : Int) < (y3.length : Int) := by omega
              have hi0 : (0 : Int) ≤ (i : Int) := by omega
              have hwi : IntKind.i64.wrap ((i : Int) + 1) = ((i + 1 : Nat) : Int) := by rw [IntWalk.i64_in _ (by omega)]; omega
              have hkk : y3[i]? = some y3[i] := List.getElem?_eq_getElem hlt
              have hmem : y3[i] ∈ y3 := List.getElem_mem hlt
              generalize y3[i] = t at *
              obtain ⟨b, off, hla, -, -, hb2, c0, c1, c2, c3⟩ := vals_at (R3.out.up HBR.out).sl hkk
              have htr := (R3.out.up HBR.out).kids t hmem
              have hin : inV z.v t.v = true := G3.out.of (List.mem_map_of_mem hmem)
              have HI := Lib.hid (in27_c wr z t (HZ.out.up HBWR.out) htr.1 htr.2)
              rw [hin] at HI
              clear hin hkk hmem htr
              subst hla
              go_wp2_with (go_at_call 39; refine HI.out.mono ?_; rintro e w10 ⟨rfl, hb10⟩)
              exact ⟨⟨i + 1, by omega, by go_num, below_via HBR.out hb10⟩, by simp [intOf]; omega⟩
            · obtain rfl : i = y3.length := by omega
              have hge2 : ¬ (y3.length : Int) < (y3.length : Int) := by omega
              go_wp2_with (go_at_call 31; refine (HLV _ HBWR.out).out.mono ?_; rintro e w11 ⟨rfl, hb11⟩)
              go_ret
              exact ⟨rfl, below_via HBWR.out hb11⟩
end Go.Proofs.YtjihepdjcbpgoaaGreatDoor
