/-
  values.sign writes signV: how long it is; what is told ahead of the parts. Conditions: the tree lies in memory, its weight is bounded; strconv's table of powers holds what its initialiser lays.
  values.sign at values that are no maps. Conditions: as in the text ahead.
-/
import Derived.Test.YtjihepdjcbpgoaaGreatDoorSA
import Derived.Test.YtjihepdjcbpgoaaGreatDoorVJ
import Derived.Test.YtjihepdjcbpgoaaGreatDoorMaps
namespace Go.Proofs.YtjihepdjcbpgoaaGreatDoor
open Go.RowKit Go.Sort

theorem av_kid_w (x : AV) : (x.l.map fun y => 100 * y.w).sum = 100 * (x.v.l.map Val.w).sum := by
  rw [sum_mul, AV.v_l, List.map_map]; rfl
theorem sum_le_kids {x : AV} (f g : AV → Nat) (h : ∀ y ∈ x.l, f y ≤ g y) : (x.l.map f).sum ≤ (x.l.map g).sum := sum_le f g h
/-- How long a signed value is. -/
theorem sign_len {w : World} {lo hi : Nat} : ∀ (n : Nat) (x : AV), x.In w lo hi → x.w ≤ 1048576 → (signV n x.v).length ≤ 100 * x.w
  | 0, x, hx, hw => by
    have h := signH_len x.v (by rw [AV.v_k]; exact hx.kind.1) (by rw [AV.v_k]; exact hx.kind.2) hw
    have h2 := x.v.w_t
    rw [signV]
    have : x.v.w = x.w := rfl
    omega
  | n + 1, x, hx, hw => by
    have h := signH_len x.v (by rw [AV.v_k]; exact hx.kind.1) (by rw [AV.v_k]; exact hx.kind.2) hw
    have ih : ∀ y ∈ x.l, (signV n y.v).length ≤ 100 * y.w := fun y hy => sign_len n y (hx.kid hy) (by have := AV.w_kid hy; omega)
    have hv := Val.w_eq x.v
    have e : x.v.w = x.w := rfl
    rw [signV_s, List.length_append]
    by_cases h8 : x.v.k = 8
    · rw [if_pos h8, flat_sum]
      have hk : ∀ y ∈ x.v.l, (signV n y).length ≤ 100 * y.w := fun y hy => by
        rw [AV.v_l] at hy
        obtain ⟨z, hz, rfl⟩ := List.mem_map.1 hy
        exact ih z hz
      have h1 : (x.v.ents.map fun e => (keyH e.1 ++ signV n e.2).length).sum ≤ (x.v.ents.map fun e => (22 * (e.1.size + 1)) + 100 * e.2.w).sum := by
        refine sum_le _ _ fun e he => ?_
        obtain ⟨m1, m2⟩ := ents_mem he
        have a1 := hk e.2 m2
        have a2 := keyH_len e.1 (by have := Val.w_key m1; omega)
        rw [List.length_append]
        omega
      have h2 := ((ents_perm x.v).map fun e => 22 * (e.1.size + 1) + 100 * e.2.w).sum_nat
      have h3 := zip_sum (fun k : ByteArray => 22 * (k.size + 1)) (fun y : Val => 100 * y.w) x.v.ks x.v.l
      rw [sum_mul, sum_mul, sum_add (fun k : ByteArray => k.size) (fun _ => 1), sum_const] at h3
      omega
    · rw [if_neg h8, flat_sum, AV.v_l, List.map_map]
      have h1 : (x.l.map ((fun z : Val => (signV n z).length) ∘ AV.v)).sum ≤ (x.l.map fun y => 100 * y.w).sum := sum_le _ _ fun y hy => ih y hy
      rw [av_kid_w] at h1
      omega
theorem ba5 (a b c d e : Array UInt8) : ({ data := a } : ByteArray) ++ { data := b } ++ { data := c } ++ { data := d } ++ { data := e } = { data := a ++ b ++ c ++ d ++ e } := by
  rw [ba_app, ba_app, ba_app, ba_app]
/-- What is written ahead of a value's parts, as a text. -/
theorem signH_text (x : AV) : ((((((⟨(Lib.itoa x.k).toArray⟩ : ByteArray) ++ ⟨#[58]⟩) ++ ⟨(Lib.itoa (x.t.size : Int)).toArray⟩) ++ ⟨#[58]⟩) ++ x.t) ++ ⟨(Lib.itoa (x.l.length : Int)).toArray⟩ ++ ⟨#[40]⟩).data.toList = signH x.v := by
  rw [show x.t = ⟨x.t.data⟩ from rfl]
  simp only [ba_app, signH, AV.v_k, AV.v_t, AV.v_l, List.length_map]
  simp
end Go.Proofs.YtjihepdjcbpgoaaGreatDoor

namespace Go.Proofs.YtjihepdjcbpgoaaGreatDoor
open Go.RowKit Go.Sort

/-- What is asked of the parts. -/
def SgKids (n B b : Nat) (x : AV) : Prop := ∀ y ∈ x.l, ∀ (l : List UInt8) (w : World), Bld B b l w → B ≤ w.heap.size → y.In w 0 B → Pow w → l.length + 100 * y.w ≤ 1000000000 → Calls Tryz.prog 59 #[.pointer (some ⟨b, 0, none⟩), y.val] w (WrPost B b (l ++ signV n y.v) w)
theorem Bld.drew {B b : Nat} {l : List UInt8} {w : World} (h : Bld B b l w) : Bld B b l w.drew := h.below (Below.refl _ _).drew
theorem flat_take {α : Type} (f : α → List UInt8) {l : List α} {k : Nat} {y : α} (hk : l[k]? = some y) : (l.take (k + 1)).flatMap f = (l.take k).flatMap f ++ f y := by
  rw [List.take_add_one, hk, List.flatMap_append]; simp

set_option maxRecDepth 100000 in
set_option maxHeartbeats 3200000 in
theorem vsign_list (n B b : Nat) (l : List UInt8) (w : World) (x : AV) (hx : x.In w 0 B) (hk : x.k ≠ 8) (hw : x.w ≤ 1048576) (hB : Bld B b l w) (hBw : B ≤ w.heap.size) (hP : Pow w) (hgB : 1 < B) (hl : l.length + 100 * x.w ≤ 1000000000) (ih : SgKids n B b x) :
    Calls Tryz.prog 59 #[.pointer (some ⟨b, 0, none⟩), x.val] w (WrPost B b (l ++ (signH x.v ++ x.v.l.flatMap (signV n))) w) := by
  have htw := x.w_t
  have hll := x.w_l
  have hkd := hx.kind
  have hHl := signH_len x.v (by rw [AV.v_k]; exact hkd.1) (by rw [AV.v_k]; exact hkd.2) hw
  have hxw := Val.w_eq x.v
  have hxe : x.v.w = x.w := rfl
  have hkw := av_kid_w x
  rw [AV.v_t] at hHl hxw
  have hfl : ∀ k, ((x.l.take k).flatMap fun y => signV n y.v).length ≤ ((x.l.take k).map fun y => 100 * y.w).sum := fun k => by
    rw [flat_sum]
    exact sum_le _ _ fun y hy => sign_len n y (hx.kid (List.take_subset _ _ hy)) (by have := AV.w_kid (List.take_subset _ _ hy); omega)
  have hv : x.v.l.flatMap (signV n) = x.l.flatMap fun y => signV n y.v := by rw [AV.v_l, List.flatMap_map]
  rw [hv]
  clear hv
  have hHB : l.length + (signH x.v).length + 100 * (x.v.l.map Val.w).sum ≤ 1000000000 := by omega
  obtain ⟨p, ep⟩ : ∃ p, Lib.itoa x.k = p := ⟨_, rfl⟩
  obtain ⟨q, eq⟩ : ∃ q, Lib.itoa (x.t.size : Int) = q := ⟨_, rfl⟩
  obtain ⟨r, er⟩ : ∃ r, Lib.itoa (x.l.length : Int) = r := ⟨_, rfl⟩
  have HT := signH_text x
  have H1 := fun W hW => Lib.hid (itoa_c x.k (by omega) (by omega) W hW)
  have H2 := fun W hW => Lib.hid (itoa_c x.t.size (by omega) (by omega) W hW)
  have H3 := fun W hW => Lib.hid (itoa_c x.l.length (by omega) (by omega) W hW)
  have hp : (Lib.itoa x.k).length ≤ 21 := Lib.itoa_length_le _ (by omega) (by omega)
  have hq : (Lib.itoa (x.t.size : Int)).length ≤ 21 := decd_len (by omega)
  have hr : (Lib.itoa (x.l.length : Int)).length ≤ 21 := decd_len (by omega)
  rw [ep] at H1 hp
  rw [eq] at H2 hq
  rw [er] at H3 hr
  rw [ep, eq, er] at HT
  clear ep eq er
  generalize signH x.v = hh at *
  have HX := Lib.hid hx
  have HFL := Lib.hid hfl
  have n0 : ¬ 9223372036854775807 < p.length + 1 := by omega
  have n1 : ¬ 9223372036854775807 < p.length + 1 + q.length := by omega
  have n2 : ¬ 9223372036854775807 < p.length + 1 + q.length + 1 := by omega
  have n3 : ¬ 9223372036854775807 < p.length + 1 + q.length + 1 + x.t.size := by omega
  have n4 : ¬ 9223372036854775807 < p.length + 1 + q.length + 1 + x.t.size + r.length := by omega
  have n5 : ¬ 9223372036854775807 < p.length + 1 + q.length + 1 + x.t.size + r.length + 1 := by omega
  have hc1 : IntKind.i64.wrap x.k = x.k := IntWalk.i64_in _ (by omega)
  have e8 : (x.k != 8) = true := by simp [hk]
  have hB0 := hB.alloc (.cells #[.int .u8 x.k, .string x.t, .slice x.la x.l.length x.lc, .slice x.ka x.ks.length x.kc] 26)
  have hk0 : KB B b w (w.alloc (.cells #[.int .u8 x.k, .string x.t, .slice x.la x.l.length x.lc, .slice x.ka x.ks.length x.kc] 26)) := KB.refl.alloc hBw _
  have hP0 : Pow (w.alloc (.cells #[.int .u8 x.k, .string x.t, .slice x.la x.l.length x.lc, .slice x.ka x.ks.length x.kc] 26)) := hP.below_at hk0.1 hgB
  have hlh : l.length + hh.length ≤ 140737488355328 := by omega
  have HS := fun W h1 h2 => Lib.hid (ws_k B b l _ hh HT W h1 hlh h2)
  have hbl := hB.lt
  have HP0 := Lib.hid hP0
  have HB0 := Lib.hid hB0
  have HK0 := Lib.hid hk0
  have hbx := heap_alloc_new w (.cells #[.int .u8 x.k, .string x.t, .slice x.la x.l.length x.lc, .slice x.ka x.ks.length x.kc] 26)
  clear hx hk hp hq hr HT hB0 hk0 hP0 hfl
  go_enter Tryz.func59, Tryz.ntmps59
  go_upto_region 1 with fail
  go_name_world W0 hW0
  rw [hW0] at HP0 HB0 HK0 hbx
  have hs0 : W0.heap.size = w.heap.size + 1 := by rw [← hW0]; simp
  obtain ⟨q0, q1, q2, q3, -, -, -, -⟩ := vbox4 hbx
  have hN : w.heap.size + 1 ≤ W0.heap.size := by omega
  have hwl : w.heap.size < W0.heap.size := by omega
  have HN := Lib.hid hs0
  clear hW0 hs0
  go_region_held3 (fun w' => (∀ o, w'.cell? ⟨w.heap.size, o, none⟩ = W0.cell? ⟨w.heap.size, o, none⟩) ∧ True)
    (first | (with_reducible exact Q4.out) | (with_reducible exact Q3.out) | (with_reducible exact Q2.out) | (with_reducible exact Q1.out) | exact ⟨fun _ => rfl, trivial⟩)
    (first
      | (go_at_call 105; first
          | ((with_reducible refine (H1 _ ?_).out.mono ?_); exact HP0.out.below (Below.refl _ _).drew; rintro e wa ⟨rfl, hba⟩
             have hBa := HB0.out.drew.below hba
             have hza : W0.heap.size ≤ wa.heap.size := hba.size
             have hba2 : Below W0.heap.size W0 wa := below_of_drew hba
             have Q1 := Lib.hid (show (∀ o, wa.cell? ⟨w.heap.size, o, none⟩ = W0.cell? ⟨w.heap.size, o, none⟩) ∧ True from ⟨fun o => hba2.cell (p := ⟨w.heap.size, o, none⟩) hwl, trivial⟩))
          | ((with_reducible refine (H2 _ ?_).out.mono ?_); exact HP0.out.below hba2; rintro e wb ⟨rfl, hbb⟩
             have hBb := hBa.below hbb
             have hbb2 := below_via hba2 hbb
             have Q2 := Lib.hid (show (∀ o, wb.cell? ⟨w.heap.size, o, none⟩ = W0.cell? ⟨w.heap.size, o, none⟩) ∧ True from ⟨fun o => hbb2.cell (p := ⟨w.heap.size, o, none⟩) hwl, trivial⟩))
          | ((with_reducible refine (H3 _ ?_).out.mono ?_); exact HP0.out.below hbb2; rintro e wd ⟨rfl, hbd⟩
             have hBd := hBb.below hbd
             have hbd2 := below_via hbb2 hbd
             have hsd := hbd2.size
             have Q3 := Lib.hid (show (∀ o, wd.cell? ⟨w.heap.size, o, none⟩ = W0.cell? ⟨w.heap.size, o, none⟩) ∧ True from ⟨fun o => hbd2.cell (p := ⟨w.heap.size, o, none⟩) hwl, trivial⟩)))
      | (go_at_call 101; (with_reducible refine (HS _ hBd (by omega)).out.mono ?_); rintro e we ⟨⟨nn, rfl⟩, hBe, hke⟩
         have hkE := (HK0.out.trans (KB.of_below (b := b) hbd2 (by omega))).trans hke
         have hb5 := hke.blk ((hbd2.block w.heap.size hwl).trans hbx) (by omega) ne_val
         have Q4 := Lib.hid (show (∀ o, we.cell? ⟨w.heap.size, o, none⟩ = W0.cell? ⟨w.heap.size, o, none⟩) ∧ True from ⟨fun o => World.cell?_of_block (w := W0) (hb5.trans hbx.symm), trivial⟩)))
  obtain ⟨v0, v1, v2, v3, -, -, -, -⟩ := vbox4 hb5
  have hse := hkE.1.size
  have hle : w.heap.size < we.heap.size := by have := hke.1.size; omega
  clear Q1 Q2 Q3 Q4 hba hbb hbd hba2 hbb2 hbd2 hBa hBb hBd hke hb5 H1 H2 H3 HS hbx HP0 HB0 HK0
  go_wp2_with fail
  go_loopw [36] (fun i wr => ∃ k : Nat, k ≤ x.l.length ∧ i = .int .i64 k ∧ Bld B b (l ++ hh ++ (x.l.take k).flatMap fun y => signV n y.v) wr ∧ KB B b w wr) (fun i _ => x.l.length - (intOf i).toNat)
  case atStart => exact ⟨0, Nat.zero_le _, rfl, by simpa using hBe, hkE⟩
  clear hBe hkE hse hle v0 v1 v2 v3
  case round =>
    obtain ⟨k, hkl, rfl, hBr, hkr⟩ := hrel
    have hsz := hkr.1.size
    have hln := HFL.out k
    by_cases hlt : k < x.l.length
    · have hks : x.l[k]? = some x.l[k] := List.getElem?_eq_getElem hlt
      have hmem : x.l[k] ∈ x.l := List.getElem_mem hlt
      generalize x.l[k] = y at *
      obtain ⟨c, off, hla, -, hc1, -, h0, h1, h2, h3⟩ := vals_at HX.out.sl hks
      rw [← hkr.1.cell (p := ⟨_, _, none⟩) hc1] at h0 h1 h2 h3
      have hcc : c < wr.heap.size := by omega
      have hlt' : (k : Int) < (x.l.length : Int) := by omega
      have hs1 := sum_part1 (fun y : AV => 100 * y.w) hks
      have HI := Lib.hid (ih y hmem)
      have HY := Lib.hid (HX.out.kid hmem)
      have hst := Lib.hid (flat_take (fun y : AV => signV n y.v) hks)
      rw [hla]
      clear hks hla ih
      have hbl := hBr.lt
      have hB1 := hBr.alloc (.cells #[.int .u8 y.k, .string y.t, .slice y.la y.l.length y.lc, .slice y.ka y.ks.length y.kc] 26)
      have hk1 : KB B b w (wr.alloc (.cells #[.int .u8 y.k, .string y.t, .slice y.la y.l.length y.lc, .slice y.ka y.ks.length y.kc] 26)) := hkr.alloc (by omega) _
      generalize (x.l.take k).flatMap (fun y : AV => signV n y.v) = T at *
      have HC := fun W (h1 : Bld B b (l ++ hh ++ T) W) (h2 : KB B b w W) => Lib.hid (HI.out _ _ h1 (by have := h2.1.size; omega) (HY.out.blw h2.1 (Nat.le_refl _)) (hP.below_at h2.1 hgB) (by simp; omega))
      go_wp2_with (go_at_call 59; refine (HC _ hB1 hk1).out.mono ?_; rintro e w3 ⟨rfl, hB3, hk3⟩)
      refine ⟨⟨k + 1, by omega, by go_num, ?_, hk1.trans hk3⟩, by simp [intOf]; omega⟩
      rw [hst.out]; simpa using hB3
    · obtain rfl : k = x.l.length := by omega
      rw [List.take_length] at hBr
      have hge : ¬ (x.l.length : Int) < (x.l.length : Int) := by omega
      go_wp2_with fail
      go_end0
      exact ⟨rfl, by simpa using hBr, hkr⟩
end Go.Proofs.YtjihepdjcbpgoaaGreatDoor
