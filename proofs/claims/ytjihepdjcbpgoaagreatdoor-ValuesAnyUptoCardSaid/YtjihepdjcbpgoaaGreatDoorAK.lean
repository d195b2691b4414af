/-
  inarchref14.Deep, ahead, Cmp: as the chapter's (values.Deep, values.Cmp). Conditions: the trees lie in memory, their weights are bounded.
  inarchref14.ahead: decides whether the first value stands ahead of the second. Conditions: the trees lie in memory, their weights are bounded, both may be.
  inarchref14.Cmp, Deep: as the chapter's; values.Get hands back a tree of the call's own. Conditions: the trees lie in memory, their weights are bounded.
  inarchlaw14.ValuesAny answers true. Conditions: the values lie in memory, their weights are bounded; the table of short escapes and strconv's table of powers hold what their initialisers lay.
-/
import Derived.Test.YtjihepdjcbpgoaaGreatDoorTK
import Derived.Test.YtjihepdjcbpgoaaGreatDoorNQ
import Derived.Test.YtjihepdjcbpgoaaGreatDoorVU
import Derived.Test.YtjihepdjcbpgoaaGreatDoorSO
import Derived.Test.YtjihepdjcbpgoaaGreatDoorTE
import Derived.Test.YtjihepdjcbpgoaaGreatDoorSE
import Derived.Test.YtjihepdjcbpgoaaGreatDoorWD
import Derived.Test.YtjihepdjcbpgoaaGreatDoorTC
import Derived.Test.YtjihepdjcbpgoaaGreatDoorVP
import Derived.Test.YtjihepdjcbpgoaaGreatDoorVF
namespace Go.Proofs.YtjihepdjcbpgoaaGreatDoor
open Go.RowKit Go.Sort

/-- What stands where, as entries: a map's by keys, a list's with no keys. -/
def elems (v : Val) : List (ByteArray × Val) := if v.k = 8 then v.ents else v.l.map fun y => (⟨#[]⟩, y)
def cmpE (a b : ByteArray × Val) : Int := orInt [cmpStr a.1 b.1, cmpV 256 a.2 b.2]
theorem cmpL_cong {α : Type} {f g : α → α → Int} : ∀ {l m : List α}, (∀ a ∈ l, ∀ b ∈ m, f a b = g a b) → cmpL f l m = cmpL g l m
  | [], [], _ => rfl
  | [], _ :: _, _ => rfl
  | _ :: _, [], _ => rfl
  | x :: l, y :: m, h => by
    have h0 := h x (by simp) y (by simp)
    have ih := cmpL_cong (l := l) (m := m) (f := f) (g := g) fun a ha b hb => h a (by simp [ha]) b (by simp [hb])
    simp only [cmpL, h0, ih]
theorem elems_mem {v : Val} {e : ByteArray × Val} (h : e ∈ elems v) : e.2 ∈ v.l := by
  unfold elems at h
  split at h
  · exact (List.of_mem_zip ((ents_perm v).subset h)).2
  · obtain ⟨y, hy, rfl⟩ := List.mem_map.1 h
    exact hy
theorem elems_len {v : Val} (hm : v.may = true) : (elems v).length = v.l.length := by
  unfold elems
  split
  · rename_i h8
    exact ents_len (shape_map (within_sh (n := 256) (by rw [Val.may_eq]; exact hm)) h8).2.1
  · rw [List.length_map]
theorem or0 (x : Int) : orInt [0, x] = x := by simp only [orInt]; split <;> simp_all
theorem cmpV_elems {a b : Val} (ha : a.may = true) (hb : b.may = true) (hk : a.k = b.k) (ht : a.t = b.t) : cmpV 256 a b = cmpL cmpE (elems a) (elems b) := by
  have h0 := (head_zero a b).2 ⟨hk, ht⟩
  have hsa := within_sh (n := 256) (v := a) (by rw [Val.may_eq]; exact ha)
  have hsb := within_sh (n := 256) (v := b) (by rw [Val.may_eq]; exact hb)
  have hkid : ∀ e ∈ elems a, ∀ d ∈ elems b, cmpV 256 e.2 d.2 = cmpV 255 e.2 d.2 := fun e he d hd =>
    cmpV_more 255 _ _ (may_kid ha (elems_mem he)).1 (may_kid hb (elems_mem hd)).1
  rw [show cmpV 256 a b = _ from cmpV_two 255 a b, h0, or0, cmpT]
  by_cases h7 : a.k < 7
  · rw [if_pos h7]
    have e1 : elems a = [] := by rw [elems, if_neg (by omega), (shape_leaf2 hsa h7).1]; rfl
    have e2 : elems b = [] := by rw [elems, if_neg (by omega), (shape_leaf2 hsb (by omega)).1]; rfl
    rw [e1, e2]; rfl
  · rw [if_neg h7]
    by_cases h8 : a.k = 7
    · rw [if_pos h8]
      have e1 : elems a = a.l.map fun y => (⟨#[]⟩, y) := by rw [elems, if_neg (by omega)]
      have e2 : elems b = b.l.map fun y => (⟨#[]⟩, y) := by rw [elems, if_neg (by omega)]
      rw [e1, e2] at hkid ⊢
      rw [cmpL_map]
      refine cmpL_cong fun y hy z hz => ?_
      have := hkid (⟨#[]⟩, y) (List.mem_map_of_mem hy) (⟨#[]⟩, z) (List.mem_map_of_mem hz)
      show _ = orInt [cmpStr ⟨#[]⟩ ⟨#[]⟩, cmpV 256 y z]
      rw [cmpStrZ ⟨#[]⟩ ⟨#[]⟩ |>.2 rfl, or0]
      exact this.symm
    · rw [if_neg h8]
      have h9 : a.k = 8 := by rcases shape_range hsa with h | h | h <;> omega
      have e1 : elems a = a.ents := by rw [elems, if_pos h9]
      have e2 : elems b = b.ents := by rw [elems, if_pos (by omega)]
      rw [e1, e2] at hkid ⊢
      refine cmpL_cong fun y hy z hz => ?_
      rw [cmpE, hkid y hy z hz]
theorem elem_list {v : Val} (h8 : v.k ≠ 8) {i : Nat} {y : Val} (hy : v.l[i]? = some y) : (elems v)[i]? = some (⟨#[]⟩, y) := by
  rw [elems, if_neg h8, List.getElem?_map, hy]; rfl
theorem cmpInt_neg (a b : Int) : cmpInt a b < 0 ↔ a < b := by
  unfold cmpInt
  split
  · simp_all
  · split <;> simp_all
theorem ah_kind {a b : Val} (h : a.k ≠ b.k) : cmpV 256 a b < 0 ↔ a.k < b.k := by
  have h1 : cmpInt a.k b.k ≠ 0 := fun e => h ((cmpIntZ _ _).1 e)
  have h2 : orInt [cmpInt a.k b.k, cmpStr a.t b.t] = cmpInt a.k b.k := by simp [orInt, h1]
  rw [cmpV_head 256 a b (.inl (by rw [h2]; exact h1)), h2, cmpInt_neg]
theorem ah_text {a b : Val} (hk : a.k = b.k) (h : a.t ≠ b.t) : cmpV 256 a b < 0 ↔ a.t.toList < b.t.toList := by
  have h1 : cmpStr a.t b.t ≠ 0 := fun e => h ((cmpStrZ _ _).1 e)
  have h2 : orInt [cmpInt a.k b.k, cmpStr a.t b.t] = cmpStr a.t b.t := by
    rw [(cmpIntZ _ _).2 hk, or0]
  rw [cmpV_head 256 a b (.inl (by rw [h2]; exact h1)), h2, cmpStr_lt]
section
variable {a b : Val} (ha : a.may = true) (hb : b.may = true) (hk : a.k = b.k) (ht : a.t = b.t)
include ha hb hk ht
theorem ah_key {i : Nat} {s u : ByteArray} {y z : Val} (h : ∀ j d e, j < i → (elems a)[j]? = some d → (elems b)[j]? = some e → cmpE d e = 0) (h1 : (elems a)[i]? = some (s, y)) (h2 : (elems b)[i]? = some (u, z)) (hne : s ≠ u) :
    cmpV 256 a b < 0 ↔ s.toList < u.toList := by
  have h3 : cmpStr s u ≠ 0 := fun e => hne ((cmpStrZ _ _).1 e)
  have h4 : cmpE (s, y) (u, z) = cmpStr s u := by simp [cmpE, orInt, h3]
  rw [cmpV_elems ha hb hk ht, cmpL_at h h1 h2 (by rw [h4]; exact h3), h4, cmpStr_lt]
theorem ah_kid {i : Nat} {s : ByteArray} {y z : Val} (h : ∀ j d e, j < i → (elems a)[j]? = some d → (elems b)[j]? = some e → cmpE d e = 0) (h1 : (elems a)[i]? = some (s, y)) (h2 : (elems b)[i]? = some (s, z)) (hne : cmpV 256 y z ≠ 0) :
    cmpV 256 a b = cmpV 256 y z := by
  have h4 : cmpE (s, y) (s, z) = cmpV 256 y z := by rw [cmpE, (cmpStrZ _ _).2 rfl, or0]
  rw [cmpV_elems ha hb hk ht, cmpL_at h h1 h2 (by rw [h4]; exact hne), h4]
theorem ah_end {i : Nat} (h : ∀ j d e, j < i → (elems a)[j]? = some d → (elems b)[j]? = some e → cmpE d e = 0) (hi : i ≤ a.l.length) (hi2 : i ≤ b.l.length) (he : i = a.l.length ∨ i = b.l.length) :
    cmpV 256 a b < 0 ↔ a.l.length < b.l.length := by
  have l1 := elems_len ha
  have l2 := elems_len hb
  rw [cmpV_elems ha hb hk ht, cmpL_drop i _ _ h (by omega) (by omega)]
  have n1 : ((elems a).drop i).length = a.l.length - i := by rw [List.length_drop, l1]
  have n2 : ((elems b).drop i).length = b.l.length - i := by rw [List.length_drop, l2]
  cases e1 : (elems a).drop i with
  | nil =>
    rw [e1] at n1
    cases e2 : (elems b).drop i with
    | nil => rw [e2] at n2; simp at n1 n2; simp [cmpL]; omega
    | cons q m => rw [e2] at n2; simp at n1 n2; simp [cmpL]; omega
  | cons q m =>
    rw [e1] at n1
    cases e2 : (elems b).drop i with
    | nil => rw [e2] at n2; simp at n1 n2; simp [cmpL]; omega
    | cons q m => rw [e2] at n2; simp at n1 n2; omega
end
end Go.Proofs.YtjihepdjcbpgoaaGreatDoor

namespace Go.Proofs.YtjihepdjcbpgoaaGreatDoor
open Go.RowKit Go.Sort

set_option maxRecDepth 100000 in
set_option maxHeartbeats 3200000 in
theorem rahead_c : ∀ (x y : AV) (w : World), Rd w x → Rd w y → x.w ≤ 1048576 → y.w ≤ 1048576 → x.v.may = true → y.v.may = true →
    Calls Tryz.prog 53 #[x.val, y.val] w (Ret (.bool (decide (cmpV 256 x.v y.v < 0))) w) := fun x => AV.ind (P := fun x => ∀ (y : AV) (w : World), Rd w x → Rd w y → x.w ≤ 1048576 → y.w ≤ 1048576 → x.v.may = true → y.v.may = true →
    Calls Tryz.prog 53 #[x.val, y.val] w (Ret (.bool (decide (cmpV 256 x.v y.v < 0))) w)) (fun x ih y w hx hy hwx hwy hmx hmy => by
  have hll := x.w_l
  have hll2 := y.w_l
  have hlk := x.w_ks
  have hlk2 := y.w_ks
  have hB0 := duo_0 (w := w) (o1 := .cells #[.int .u8 x.k, .string x.t, .slice x.la x.l.length x.lc, .slice x.ka x.ks.length x.kc] 26) (o2 := .cells #[.int .u8 y.k, .string y.t, .slice y.la y.l.length y.lc, .slice y.ka y.ks.length y.kc] 26)
  have hb0 := duo_b (w := w) (o1 := .cells #[.int .u8 x.k, .string x.t, .slice x.la x.l.length x.lc, .slice x.ka x.ks.length x.kc] 26) (o2 := .cells #[.int .u8 y.k, .string y.t, .slice y.la y.l.length y.lc, .slice y.ka y.ks.length y.kc] 26)
  by_cases hk : x.k = y.k
  · by_cases ht : x.t = y.t
    · have e0 : (x.k != y.k) = false := by simp [hk]
      have e1 : (x.t.toList == y.t.toList) = true := by rw [str_beq]; exact decide_eq_true ht
      have e1' : decide (x.t = y.t) = true := decide_eq_true ht
      have hvk : x.v.k = y.v.k := by rw [AV.v_k, AV.v_k]; exact hk
      have hvt : x.v.t = y.v.t := by rw [AV.v_t, AV.v_t]; exact ht
      have HKEY := Lib.hid (fun i (s u : ByteArray) (v1 v2 : Val) => ah_key (i := i) (s := s) (u := u) (y := v1) (z := v2) hmx hmy hvk hvt)
      have HKID := Lib.hid (fun i (s : ByteArray) (v1 v2 : Val) => ah_kid (i := i) (s := s) (y := v1) (z := v2) hmx hmy hvk hvt)
      have HEND := Lib.hid (fun i => ah_end (i := i) hmx hmy hvk hvt)
      have hsh : x.k = 8 → (x.ks.length = x.l.length ∧ x.ks.Nodup) ∧ y.ks.length = y.l.length ∧ y.ks.Nodup := fun h8 => by
        have h1 := (shape_map (within_sh (n := 256) (by rw [Val.may_eq]; exact hmx)) (by rw [AV.v_k]; exact h8)).2
        have h2 := (shape_map (within_sh (n := 256) (by rw [Val.may_eq]; exact hmy)) (by rw [AV.v_k, ← hk]; exact h8)).2
        rw [AV.v_ks, AV.v_l, List.length_map] at h1 h2
        exact ⟨h1, h2⟩
      have HOX := fun W (h : Below w.heap.size w W) => Lib.hid (order_c x W (hx.up h) (by omega))
      have HOY := fun W (h : Below w.heap.size w W) => Lib.hid (order_c y W (hy.up h) (by omega))
      have HX := Lib.hid hx
      have HY := Lib.hid hy
      have HI := Lib.hid ih
      have HM := Lib.hid (And.intro hmx hmy)
      have HSH := Lib.hid hsh
      have HK := Lib.hid hk
      clear hx hy ih hmx hmy hsh hk ht hvk hvt
      go_enter Tryz.func53, Tryz.ntmps53
      go_wp2_with (go_at_call 97; first
        | ((with_reducible refine (HOX _ (by assumption)).out.mono ?_); rintro e w1 ⟨A1, c1, rfl, hso1, hb1⟩
           have hB1 := tri_step (N := w.heap.size + 1 + 1) hB0 hb1 (by simp)
           obtain ⟨k1, k2, k3, k4⟩ := duo_at hB1
           obtain ⟨q0, q1, q2, q3, -, -, -, -⟩ := vbox4 k1
           obtain ⟨p0, p1, p2, p3, -, -, -, -⟩ := vbox4 k2)
        | ((with_reducible refine (HOY _ (by assumption)).out.mono ?_); rintro e w2 ⟨A2, c2, rfl, hso2, hb2⟩))
      have hB2 := tri_step (N := w.heap.size + 1 + 1) hB1 hb2 (by simp)
      have HB2 := Lib.hid hB2
      have HB12 := Lib.hid hb2
      have HSO1 := Lib.hid hso1
      have HSO2 := Lib.hid hso2
      have hol1 := ordL_len x.ks x.ks.length
      have hol2 := ordL_len y.ks y.ks.length
      rw [hol1, hol2]
      clear hB1 hB0 hb0 hb1 hb2 hB2 hso1 hso2 k1 k2 k3 k4 q0 q1 q2 q3 p0 p1 p2 p3 HOX HOY hol1 hol2
      go_loopw [7, 8, 9] (fun s7 _ _ wr => ∃ m : Nat, m ≤ x.l.length ∧ m ≤ y.l.length ∧ s7 = .int .i64 m ∧ (∀ q d e, q < m → (elems x.v)[q]? = some d → (elems y.v)[q]? = some e → cmpE d e = 0) ∧ Below w2.heap.size w2 wr) (fun s7 _ _ _ => x.l.length - (intOf s7).toNat)
      case atStart => exact ⟨0, Nat.zero_le _, Nat.zero_le _, by go_num, fun q d e h => absurd h (Nat.not_lt_zero _), Below.refl _ _⟩
      case round =>
        obtain ⟨m, hm, hm', rfl, hall, hbr⟩ := hrel
        have hB := tri_step (N := w.heap.size + 1 + 1) HB2.out hbr (by simp)
        obtain ⟨k1, k2, k3, k5⟩ := duo_at hB
        obtain ⟨q0, q1, q2, q3, -, -, -, -⟩ := vbox4 k1
        obtain ⟨p0, p1, p2, p3, -, -, -, -⟩ := vbox4 k2
        have l1 : w.heap.size < wr.heap.size := by omega
        have hb1r : Below w1.heap.size w1 wr := below_via HB12.out hbr
        have HB1R := Lib.hid hb1r
        have HBR := Lib.hid hbr
        have HALL := Lib.hid hall
        have K1 := Lib.hid k1
        have K2 := Lib.hid k2
        have K5 := Lib.hid k5
        clear hbr hb1r hall k1 k2 k5 hB
        by_cases hlt : m < x.l.length
        · by_cases hlt3 : m < y.l.length
          · have hlt' : (m : Int) < (x.l.length : Int) := by omega
            have hlt2' : (m : Int) < (y.l.length : Int) := by omega
            have hm0 : (0 : Int) ≤ (m : Int) := by omega
            have hwm : IntKind.i64.wrap ((m : Int) + 1) = ((m + 1 : Nat) : Int) := by rw [IntWalk.i64_in _ (by omega)]; omega
            by_cases h8 : x.k = 8
            · have e8 : (x.k == 8) = true := by simp [h8]
              have h8y : y.k = 8 := by rw [← HK.out]; exact h8
              obtain ⟨j, s, e, hj, hjl, hks, he, hee⟩ := ent_at (HSH.out h8).1.1 (HSH.out h8).1.2 (k := m) (by rw [(HSH.out h8).1.1]; exact hlt)
              obtain ⟨k, u, f, hkk, hkl, hku, hf, hef⟩ := ent_at (HSH.out h8).2.1 (HSH.out h8).2.2 (k := m) (by rw [(HSH.out h8).2.1]; exact hlt3)
              have hxl := (HSH.out h8).1.1
              have hyl := (HSH.out h8).2.1
              have hEX : (elems x.v)[m]? = some (s, e.v) := by rw [elems, if_pos (by rw [AV.v_k]; exact h8)]; exact hee
              have hEY : (elems y.v)[m]? = some (u, f.v) := by rw [elems, if_pos (by rw [AV.v_k]; exact h8y)]; exact hef
              obtain ⟨ob, oo, hoa, -, -, o2, oc⟩ := nat_at HSO1.out hj
              obtain ⟨pb, po, hpa, -, -, o3, pc⟩ := nat_at HSO2.out hkk
              have oc1 := (HB1R.out.cell (p := ⟨ob, oo + m, none⟩) o2).trans oc
              have pc1 := (HBR.out.cell (p := ⟨pb, po + m, none⟩) o3).trans pc
              have hob : ob < wr.heap.size := Nat.lt_of_lt_of_le o2 HB1R.out.size
              have hpb : pb < wr.heap.size := Nat.lt_of_lt_of_le o3 HBR.out.size
              obtain ⟨bk, ok, hka, -, -, gk, s0'⟩ := key_at (HX.out.up K5.out).keys hks
              obtain ⟨bu, ou, hkb, -, -, gu, u0'⟩ := key_at (HY.out.up K5.out).keys hku
              have hmk : (m : Int) < (x.ks.length : Int) := by omega
              have hmk2 : (m : Int) < (y.ks.length : Int) := by omega
              have hj0 : (0 : Int) ≤ (j : Int) := by omega
              have hk0 : (0 : Int) ≤ (k : Int) := by omega
              have hj1 : (j : Int) < (x.ks.length : Int) := by omega
              have hk1 : (k : Int) < (y.ks.length : Int) := by omega
              have hj2 : (j : Int) < (x.l.length : Int) := by omega
              have hk2 : (k : Int) < (y.l.length : Int) := by omega
              have LDK := Lib.hid (show ∀ W, Below wr.heap.size wr W → _ from fun W (h : Below wr.heap.size wr W) => And.intro (vbox4 (blk_up h K1.out)) (And.intro (vbox4 (blk_up h K2.out)) (And.intro ((h.cell (p := ⟨_, _, none⟩) gk).trans s0') ((h.cell (p := ⟨_, _, none⟩) gu).trans u0'))))
              rw [hka, hkb] at LDK
              have HFK := Lib.hid (fun hne : s ≠ u => show decide (cmpV 256 x.v y.v < 0) = Op.bytesLess s.toList u.toList by
                rw [bytesLess_eq, decide_eq_decide]; exact HKEY.out m s u e.v f.v HALL.out hEX hEY hne)
              have HFC := Lib.hid (fun (hsu : s = u) (hne : cmpV 256 e.v f.v ≠ 0) => show decide (cmpV 256 x.v y.v < 0) = decide (cmpV 256 e.v f.v < 0) by
                subst hsu; rw [HKID.out m s e.v f.v HALL.out hEX hEY hne])
              have HNX := Lib.hid (fun (hsu : s = u) (hz : cmpV 256 e.v f.v = 0) => show ∀ q d e, q < m + 1 → (elems x.v)[q]? = some d → (elems y.v)[q]? = some e → cmpE d e = 0 from fun q d1 e1 hq h1 h2 => by
                rcases Nat.lt_or_ge q m with h | h
                · exact HALL.out q d1 e1 h h1 h2
                · obtain rfl : q = m := by omega
                  rw [hEX] at h1; rw [hEY] at h2; cases h1; cases h2
                  subst hsu
                  rw [cmpE, (cmpStrZ _ _).2 rfl, or0]; exact hz)
              subst hoa hpa
              obtain ⟨be, oe, hla, -, -, ge, e0', e1', e2', e3'⟩ := vals_at (HX.out.up K5.out).sl he
              obtain ⟨bf, of, hlb, -, -, gf, f0', f1', f2', f3'⟩ := vals_at (HY.out.up K5.out).sl hf
              have hem : e ∈ x.l := List.mem_of_getElem? he
              have hfm : f ∈ y.l := List.mem_of_getElem? hf
              have hew := AV.w_kid hem
              have hfw := AV.w_kid hfm
              have hemay : e.v.may = true := (may_kid HM.out.1 (by rw [AV.v_l]; exact List.mem_map_of_mem hem)).2
              have hfmay : f.v.may = true := (may_kid HM.out.2 (by rw [AV.v_l]; exact List.mem_map_of_mem hfm)).2
              have HS0 := fun W (h : Below wr.heap.size wr W) => Lib.hid (rsame1_c e f W (Rd.up (HX.out.kid hem) (below_via K5.out h)) (Rd.up (HY.out.kid hfm) (below_via K5.out h)) (by omega) (by omega) hemay hfmay)
              have HA0 := fun W (h : Below wr.heap.size wr W) => Lib.hid (HI.out e hem f W (Rd.up (HX.out.kid hem) (below_via K5.out h)) (Rd.up (HY.out.kid hfm) (below_via K5.out h)) (by omega) (by omega) hemay hfmay)
              have LDB := Lib.hid (show ∀ W, Below wr.heap.size wr W → _ from fun W (h : Below wr.heap.size wr W) => And.intro (vbox4 (blk_up h K1.out)) (And.intro (vbox4 (blk_up h K2.out)) (And.intro ((h.cell (p := ⟨_, _, none⟩) ge).trans e0') (And.intro ((h.cell (p := ⟨_, _, none⟩) ge).trans e1') (And.intro ((h.cell (p := ⟨_, _, none⟩) ge).trans e2') (And.intro ((h.cell (p := ⟨_, _, none⟩) ge).trans e3') (And.intro ((h.cell (p := ⟨_, _, none⟩) gf).trans f0') (And.intro ((h.cell (p := ⟨_, _, none⟩) gf).trans f1') (And.intro ((h.cell (p := ⟨_, _, none⟩) gf).trans f2') ((h.cell (p := ⟨_, _, none⟩) gf).trans f3'))))))))))
              rw [hla, hlb] at LDB
              clear e0' e1' e2' e3' f0' f1' f2' f3' hla hlb he hf hem hfm
              clear HKEY HKID HEND hj hjl hks hee hkk hkl hku hef hxl hyl hEX hEY oc pc hka hkb s0' u0' gk gu ge gf h8 h8y
              by_cases hsu : s = u
              · have es : (s.toList == u.toList) = true := by rw [str_beq]; exact decide_eq_true hsu
                have es' : decide (s = u) = true := decide_eq_true hsu
                have HFC := Lib.hid (HFC.out hsu)
                have HNX := Lib.hid (HNX.out hsu)
                clear HFK hsu
                go_wp2_with fail
                have LD := LDK
                refine wp_region_bl (by kernel_rfl) (by kernel_rfl) ?_
                repeat (first | go_big_quiet_skip | (go_big_quiet_want; go_big_quiet_op; first | go_big_quiet_on | (refine ⟨_, fun _ _ => (by with_reducible rfl), ?_⟩; go_big_quiet_on) | (apply Exists.intro; refine ⟨fun w' hC => (by simp only [LD.out w' hC, Result.andThen]; exact ⟨trivial, rfl⟩), ?_⟩; go_big_quiet_on)))
                refine wpQuiet_nil ?_; intro wz hbz
                go_wp2_with fail
                have HBZ := Lib.hid hbz
                clear hbz LDK LD
                have LD := Lib.hid (show ∀ W, Below wz.heap.size wz W → _ from fun W (h : Below wz.heap.size wz W) => LDB.out W (below_via HBZ.out h))
                have HS := fun W (h : Below wz.heap.size wz W) => HS0 W (below_via HBZ.out h)
                have HAB := fun W (h : Below wz.heap.size wz W) => HA0 W (below_via HBZ.out h)
                clear HS0 HA0
                cases hd : decide (cmpV 256 e.v f.v = 0) with
                | true =>
                  rw [hd] at HS
                  have HN := Lib.hid (HNX.out (of_decide_eq_true hd))
                  clear hd
                  refine wp_region_bl (by kernel_rfl) (by kernel_rfl) ?_
                  repeat (first | go_big_quiet_skip | (go_big_quiet_want; go_big_quiet_op; first | go_big_quiet_on | (refine ⟨_, fun _ _ => (by with_reducible rfl), ?_⟩; go_big_quiet_on) | (apply Exists.intro; refine ⟨fun w' hC => (by simp only [LD.out w' hC, Result.andThen]; exact ⟨trivial, rfl⟩), ?_⟩; go_big_quiet_on) | (apply Exists.intro; refine ⟨fun w' hC => (by (with_reducible refine (HS w' hC).out.mono ?_); exact fun e w2 ⟨he, hb⟩ => ⟨he, hC.trans (hb.mono hC.size)⟩), ?_⟩; go_big_quiet_on)))
                  refine wpQuiet_nil ?_; intro wz hbz
                  go_wp2_with fail
                  exact ⟨⟨m + 1, by omega, by omega, by go_num, HN.out, below_via HBR.out (below_via HBZ.out hbz)⟩, by simp [intOf]; omega⟩
                | false =>
                  rw [hd] at HS
                  have HF := Lib.hid (HFC.out (of_decide_eq_false hd))
                  clear hd
                  refine wp_region_bl (by kernel_rfl) (by kernel_rfl) ?_
                  repeat (first | go_big_quiet_skip | (go_big_quiet_want; go_big_quiet_op; first | go_big_quiet_on | (refine ⟨_, fun _ _ => (by with_reducible rfl), ?_⟩; go_big_quiet_on) | (apply Exists.intro; refine ⟨fun w' hC => (by simp only [LD.out w' hC, Result.andThen]; exact ⟨trivial, rfl⟩), ?_⟩; go_big_quiet_on) | (apply Exists.intro; refine ⟨fun w' hC => (by (with_reducible refine (HS w' hC).out.mono ?_); exact fun e w2 ⟨he, hb⟩ => ⟨he, hC.trans (hb.mono hC.size)⟩), ?_⟩; go_big_quiet_on)))
                  refine wpQuiet_nil ?_; intro wz hbz
                  go_wp2_with fail
                  have HBY := Lib.hid hbz
                  have LD := Lib.hid (show ∀ W, Below wz.heap.size wz W → _ from fun W (h : Below wz.heap.size wz W) => LD.out W (below_via HBY.out h))
                  have HA := fun W (h : Below wz.heap.size wz W) => HAB W (below_via HBY.out h)
                  clear hbz HAB HS
                  refine wp_region_bl (by kernel_rfl) (by kernel_rfl) ?_
                  repeat (first | go_big_quiet_skip | (go_big_quiet_want; go_big_quiet_op; first | go_big_quiet_on | (refine ⟨_, fun _ _ => (by with_reducible rfl), ?_⟩; go_big_quiet_on) | (apply Exists.intro; refine ⟨fun w' hC => (by simp only [LD.out w' hC, Result.andThen]; exact ⟨trivial, rfl⟩), ?_⟩; go_big_quiet_on) | (apply Exists.intro; refine ⟨fun w' hC => (by (with_reducible refine (HA w' hC).out.mono ?_); exact fun e w2 ⟨he, hb⟩ => ⟨he, hC.trans (hb.mono hC.size)⟩), ?_⟩; go_big_quiet_on)))
                  refine wpQuiet_nil ?_; intro wz hbz
                  go_wp2_with fail
                  go_ret
                  exact ⟨by rw [HF.out]; rfl, below_via K5.out (below_via HBZ.out (below_via HBY.out hbz))⟩
              · have es : (s.toList == u.toList) = false := by rw [str_beq]; exact decide_eq_false hsu
                have es' : decide (s = u) = false := decide_eq_false hsu
                have HF := Lib.hid (HFK.out hsu)
                clear HFK HFC HNX HS0 HA0 LDB hsu
                go_wp2_with fail
                have LD := LDK
                refine wp_region_bl (by kernel_rfl) (by kernel_rfl) ?_
                repeat (first | go_big_quiet_skip | (go_big_quiet_want; go_big_quiet_op; first | go_big_quiet_on | (refine ⟨_, fun _ _ => (by with_reducible rfl), ?_⟩; go_big_quiet_on) | (apply Exists.intro; refine ⟨fun w' hC => (by simp only [LD.out w' hC, Result.andThen]; exact ⟨trivial, rfl⟩), ?_⟩; go_big_quiet_on)))
                refine wpQuiet_nil ?_; intro wz hbz
                go_wp2_with fail
                have HBY := Lib.hid hbz
                have LD := Lib.hid (show ∀ W, Below wz.heap.size wz W → _ from fun W (h : Below wz.heap.size wz W) => LDK.out W (below_via HBY.out h))
                clear hbz LDK
                refine wp_region_bl (by kernel_rfl) (by kernel_rfl) ?_
                repeat (first | go_big_quiet_skip | (go_big_quiet_want; go_big_quiet_op; first | go_big_quiet_on | (refine ⟨_, fun _ _ => (by with_reducible rfl), ?_⟩; go_big_quiet_on) | (apply Exists.intro; refine ⟨fun w' hC => (by simp only [LD.out w' hC, Result.andThen]; exact ⟨trivial, rfl⟩), ?_⟩; go_big_quiet_on)))
                refine wpQuiet_nil ?_; intro wz hbz
                go_wp2_with fail
                go_ret
                exact ⟨by rw [HF.out]; rfl, below_via K5.out (below_via HBY.out hbz)⟩
            · have e8 : (x.k == 8) = false := by simp [h8]
              have h8y : ¬ y.k = 8 := by rw [← HK.out]; exact h8
              have he : x.l[m]? = some x.l[m] := List.getElem?_eq_getElem hlt
              have hf : y.l[m]? = some y.l[m] := List.getElem?_eq_getElem hlt3
              generalize x.l[m] = e at he
              generalize y.l[m] = f at hf
              have hEX : (elems x.v)[m]? = some (⟨#[]⟩, e.v) := elem_list (by rw [AV.v_k]; exact h8) (by rw [AV.v_l, List.getElem?_map, he]; rfl)
              have hEY : (elems y.v)[m]? = some (⟨#[]⟩, f.v) := elem_list (by rw [AV.v_k]; exact h8y) (by rw [AV.v_l, List.getElem?_map, hf]; rfl)
              have HFC := Lib.hid (fun (hne : cmpV 256 e.v f.v ≠ 0) => show decide (cmpV 256 x.v y.v < 0) = decide (cmpV 256 e.v f.v < 0) by
                rw [HKID.out m ⟨#[]⟩ e.v f.v HALL.out hEX hEY hne])
              have HNX := Lib.hid (fun (hz : cmpV 256 e.v f.v = 0) => show ∀ q d e, q < m + 1 → (elems x.v)[q]? = some d → (elems y.v)[q]? = some e → cmpE d e = 0 from fun q d1 e1 hq h1 h2 => by
                rcases Nat.lt_or_ge q m with h | h
                · exact HALL.out q d1 e1 h h1 h2
                · obtain rfl : q = m := by omega
                  rw [hEX] at h1; rw [hEY] at h2; cases h1; cases h2
                  rw [cmpE, (cmpStrZ _ _).2 rfl, or0]; exact hz)
              obtain ⟨be, oe, hla, -, -, ge, e0', e1', e2', e3'⟩ := vals_at (HX.out.up K5.out).sl he
              obtain ⟨bf, of, hlb, -, -, gf, f0', f1', f2', f3'⟩ := vals_at (HY.out.up K5.out).sl hf
              have hem : e ∈ x.l := List.mem_of_getElem? he
              have hfm : f ∈ y.l := List.mem_of_getElem? hf
              have hew := AV.w_kid hem
              have hfw := AV.w_kid hfm
              have hemay : e.v.may = true := (may_kid HM.out.1 (by rw [AV.v_l]; exact List.mem_map_of_mem hem)).2
              have hfmay : f.v.may = true := (may_kid HM.out.2 (by rw [AV.v_l]; exact List.mem_map_of_mem hfm)).2
              have HS0 := fun W (h : Below wr.heap.size wr W) => Lib.hid (rsame1_c e f W (Rd.up (HX.out.kid hem) (below_via K5.out h)) (Rd.up (HY.out.kid hfm) (below_via K5.out h)) (by omega) (by omega) hemay hfmay)
              have HA0 := fun W (h : Below wr.heap.size wr W) => Lib.hid (HI.out e hem f W (Rd.up (HX.out.kid hem) (below_via K5.out h)) (Rd.up (HY.out.kid hfm) (below_via K5.out h)) (by omega) (by omega) hemay hfmay)
              have LDB := Lib.hid (show ∀ W, Below wr.heap.size wr W → _ from fun W (h : Below wr.heap.size wr W) => And.intro (vbox4 (blk_up h K1.out)) (And.intro (vbox4 (blk_up h K2.out)) (And.intro ((h.cell (p := ⟨_, _, none⟩) ge).trans e0') (And.intro ((h.cell (p := ⟨_, _, none⟩) ge).trans e1') (And.intro ((h.cell (p := ⟨_, _, none⟩) ge).trans e2') (And.intro ((h.cell (p := ⟨_, _, none⟩) ge).trans e3') (And.intro ((h.cell (p := ⟨_, _, none⟩) gf).trans f0') (And.intro ((h.cell (p := ⟨_, _, none⟩) gf).trans f1') (And.intro ((h.cell (p := ⟨_, _, none⟩) gf).trans f2') ((h.cell (p := ⟨_, _, none⟩) gf).trans f3'))))))))))
              rw [hla, hlb] at LDB
              clear e0' e1' e2' e3' f0' f1' f2' f3' hla hlb he hf hem hfm
              clear HKEY HKID HEND hEX hEY ge gf h8 h8y
              go_wp2_with fail
              have LD := Lib.hid (show ∀ W, Below wr.heap.size wr W → _ from fun W (h : Below wr.heap.size wr W) => LDB.out W (below_via (Below.refl _ wr) h))
              have HS := fun W (h : Below wr.heap.size wr W) => HS0 W (below_via (Below.refl _ wr) h)
              have HAB := fun W (h : Below wr.heap.size wr W) => HA0 W (below_via (Below.refl _ wr) h)
              clear HS0 HA0
              cases hd : decide (cmpV 256 e.v f.v = 0) with
              | true =>
                rw [hd] at HS
                have HN := Lib.hid (HNX.out (of_decide_eq_true hd))
                clear hd
                refine wp_region_bl (by kernel_rfl) (by kernel_rfl) ?_
                repeat (first | go_big_quiet_skip | (go_big_quiet_want; go_big_quiet_op; first | go_big_quiet_on | (refine ⟨_, fun _ _ => (by with_reducible rfl), ?_⟩; go_big_quiet_on) | (apply Exists.intro; refine ⟨fun w' hC => (by simp only [LD.out w' hC, Result.andThen]; exact ⟨trivial, rfl⟩), ?_⟩; go_big_quiet_on) | (apply Exists.intro; refine ⟨fun w' hC => (by (with_reducible refine (HS w' hC).out.mono ?_); exact fun e w2 ⟨he, hb⟩ => ⟨he, hC.trans (hb.mono hC.size)⟩), ?_⟩; go_big_quiet_on)))
                refine wpQuiet_nil ?_; intro wz hbz
                go_wp2_with fail
                exact ⟨⟨m + 1, by omega, by omega, by go_num, HN.out, below_via HBR.out hbz⟩, by simp [intOf]; omega⟩
              | false =>
                rw [hd] at HS
                have HF := Lib.hid (HFC.out (of_decide_eq_false hd))
                clear hd
                refine wp_region_bl (by kernel_rfl) (by kernel_rfl) ?_
                repeat (first | go_big_quiet_skip | (go_big_quiet_want; go_big_quiet_op; first | go_big_quiet_on | (refine ⟨_, fun _ _ => (by with_reducible rfl), ?_⟩; go_big_quiet_on) | (apply Exists.intro; refine ⟨fun w' hC => (by simp only [LD.out w' hC, Result.andThen]; exact ⟨trivial, rfl⟩), ?_⟩; go_big_quiet_on) | (apply Exists.intro; refine ⟨fun w' hC => (by (with_reducible refine (HS w' hC).out.mono ?_); exact fun e w2 ⟨he, hb⟩ => ⟨he, hC.trans (hb.mono hC.size)⟩), ?_⟩; go_big_quiet_on)))
                refine wpQuiet_nil ?_; intro wz hbz
                go_wp2_with fail
                have HBY := Lib.hid hbz
                have LD := Lib.hid (show ∀ W, Below wz.heap.size wz W → _ from fun W (h : Below wz.heap.size wz W) => LD.out W (below_via HBY.out h))
                have HA := fun W (h : Below wz.heap.size wz W) => HAB W (below_via HBY.out h)
                clear hbz HAB HS
                refine wp_region_bl (by kernel_rfl) (by kernel_rfl) ?_
                repeat (first | go_big_quiet_skip | (go_big_quiet_want; go_big_quiet_op; first | go_big_quiet_on | (refine ⟨_, fun _ _ => (by with_reducible rfl), ?_⟩; go_big_quiet_on) | (apply Exists.intro; refine ⟨fun w' hC => (by simp only [LD.out w' hC, Result.andThen]; exact ⟨trivial, rfl⟩), ?_⟩; go_big_quiet_on) | (apply Exists.intro; refine ⟨fun w' hC => (by (with_reducible refine (HA w' hC).out.mono ?_); exact fun e w2 ⟨he, hb⟩ => ⟨he, hC.trans (hb.mono hC.size)⟩), ?_⟩; go_big_quiet_on)))
                refine wpQuiet_nil ?_; intro wz hbz
                go_wp2_with fail
                go_ret
                exact ⟨by rw [HF.out]; rfl, below_via K5.out (below_via HBY.out hbz)⟩
          · have hmy : m = y.l.length := by omega
            have hlt' : (m : Int) < (x.l.length : Int) := by omega
            have hge : ¬ (m : Int) < (y.l.length : Int) := by omega
            have HF := Lib.hid (show decide (cmpV 256 x.v y.v < 0) = decide (x.l.length < y.l.length) by
              rw [decide_eq_decide]; exact (HEND.out m HALL.out (by rw [AV.v_l, List.length_map]; exact hm) (by rw [AV.v_l, List.length_map]; exact hm') (.inr (by rw [AV.v_l, List.length_map]; exact hmy))).trans (by rw [AV.v_l, AV.v_l, List.length_map, List.length_map]))
            clear hmy
            go_wp2_with fail
            go_ret
            exact ⟨by rw [HF.out]; rfl, K5.out⟩
        · have hmx : m = x.l.length := by omega
          have hge : ¬ (m : Int) < (x.l.length : Int) := by omega
          have HF := Lib.hid (show decide (cmpV 256 x.v y.v < 0) = decide (x.l.length < y.l.length) by
            rw [decide_eq_decide]; exact (HEND.out m HALL.out (by rw [AV.v_l, List.length_map]; exact hm) (by rw [AV.v_l, List.length_map]; exact hm') (.inl (by rw [AV.v_l, List.length_map]; exact hmx))).trans (by rw [AV.v_l, AV.v_l, List.length_map, List.length_map]))
          clear hmx
          go_wp2_with fail
          go_ret
          exact ⟨by rw [HF.out]; rfl, K5.out⟩
    · have HF := Lib.hid (show decide (cmpV 256 x.v y.v < 0) = Op.bytesLess x.t.toList y.t.toList by
        rw [bytesLess_eq, decide_eq_decide, ah_text (by rw [AV.v_k, AV.v_k]; exact hk) (by rw [AV.v_t, AV.v_t]; exact ht), AV.v_t, AV.v_t])
      have e1 : (x.t.toList == y.t.toList) = false := by rw [str_beq]; exact decide_eq_false ht
      have e1' : decide (x.t = y.t) = false := decide_eq_false ht
      have e0 : (x.k != y.k) = false := by simp [hk]
      clear hk ht
      go_enter Tryz.func53, Tryz.ntmps53
      go_wp2_with fail
      go_ret
      exact ⟨by rw [HF.out]; rfl, (by repeat (first | exact Below.refl _ _ | refine Below.drew ?_ | refine below_drewN ?_ _ | refine Below.setCell ?_ (by first | omega | (simp; done) | (simp; omega)) _ | refine Below.alloc ?_ (by first | omega | (simp; done) | (simp; omega)) _))⟩
  · have HF := Lib.hid (show decide (cmpV 256 x.v y.v < 0) = decide (x.k < y.k) by
      rw [decide_eq_decide, ah_kind (by rw [AV.v_k, AV.v_k]; exact hk), AV.v_k, AV.v_k])
    have e0 : (x.k != y.k) = true := by simp [hk]
    clear hk
    go_enter Tryz.func53, Tryz.ntmps53
    go_wp2_with fail
    go_ret
    exact ⟨by rw [HF.out]; rfl, (by repeat (first | exact Below.refl _ _ | refine Below.drew ?_ | refine below_drewN ?_ _ | refine Below.setCell ?_ (by first | omega | (simp; done) | (simp; omega)) _ | refine Below.alloc ?_ (by first | omega | (simp; done) | (simp; omega)) _))⟩) x
end Go.Proofs.YtjihepdjcbpgoaaGreatDoor

namespace Go.Proofs.YtjihepdjcbpgoaaGreatDoor
open Go.RowKit Go.Sort

set_option maxRecDepth 100000 in
set_option maxHeartbeats 3200000 in
theorem rDeep_c (x : AV) (w : World) (hx : Rd w x) (hw : x.w ≤ 1048576) : Calls Tryz.prog 21 #[x.val] w (Ret (.int .i64 (if x.v.may then (x.v.deep : Int) else 0)) w) := by
  have hb0 := fun o => (Below.refl w.heap.size w).alloc (Nat.le_refl _) o
  have HM := fun W h => Lib.hid (rmay_c x W h hw)
  have HS := fun W h => Lib.hid (rdeep_c x W h hw)
  rcases hm : x.v.may with _ | _
  · rw [hm] at HM
    clear hm
    go_enter Tryz.func21, Tryz.ntmps21
    go_wp2_with (go_at_call 13; refine (HM _ (hx.up (hb0 _))).out.mono ?_; rintro e w2 ⟨rfl, hb⟩)
    go_ret
    exact ⟨rfl, below_via (hb0 _) hb⟩
  · have hd : x.v.deepR = x.v.deep := deepR_deep 256 x.v (by rw [Val.may_eq]; exact hm)
    rw [hm] at HM
    rw [hd] at HS
    clear hm hd
    go_enter Tryz.func21, Tryz.ntmps21
    go_wp2_with (first
      | (go_at_call 13; refine (HM _ (hx.up (hb0 _))).out.mono ?_; rintro e w2 ⟨rfl, hb⟩
         have hbw := below_via (hb0 _) hb
         obtain ⟨q0, q1, q2, q3, -, -, -, -⟩ := vbox4 (blk_new hb))
      | (go_at_call 49; refine (HS _ (hx.up hbw)).out.mono ?_; rintro e w3 ⟨rfl, hb3⟩))
    go_ret
    exact ⟨rfl, below_via hbw hb3⟩

set_option maxRecDepth 100000 in
set_option maxHeartbeats 3200000 in
theorem rCmp_c (x y : AV) (w : World) (hx : Rd w x) (hy : Rd w y) (hwx : x.w ≤ 1048576) (hwy : y.w ≤ 1048576) : Calls Tryz.prog 17 #[x.val, y.val] w (Ret (.int .i64 (cmpR x.v y.v)) w) := by
  have HMX := fun W (h : Below w.heap.size w W) => Lib.hid (rmay_c x W (hx.up h) hwx)
  have HMY := fun W (h : Below w.heap.size w W) => Lib.hid (rmay_c y W (hy.up h) hwy)
  have hB0 := duo_0 (w := w) (o1 := .cells #[.int .u8 x.k, .string x.t, .slice x.la x.l.length x.lc, .slice x.ka x.ks.length x.kc] 26) (o2 := .cells #[.int .u8 y.k, .string y.t, .slice y.la y.l.length y.lc, .slice y.ka y.ks.length y.kc] 26)
  have hb0 := duo_b (w := w) (o1 := .cells #[.int .u8 x.k, .string x.t, .slice x.la x.l.length x.lc, .slice x.ka x.ks.length x.kc] 26) (o2 := .cells #[.int .u8 y.k, .string y.t, .slice y.la y.l.length y.lc, .slice y.ka y.ks.length y.kc] 26)
  cases mx : x.v.may with
  | false =>
    have HF := Lib.hid (show cmpR x.v y.v = 0 by simp [cmpR, mx])
    rw [mx] at HMX
    clear mx
    go_enter Tryz.func17, Tryz.ntmps17
    go_wp2_with (go_at_call 13; refine (HMX _ (by assumption)).out.mono ?_; rintro e w1 ⟨rfl, hb1⟩)
    go_ret
    exact ⟨by rw [HF.out]; rfl, below_via hb0 hb1⟩
  | true =>
    cases my : y.v.may with
    | false =>
      have HF := Lib.hid (show cmpR x.v y.v = 0 by simp [cmpR, my])
      rw [mx] at HMX
      rw [my] at HMY
      clear mx my
      go_enter Tryz.func17, Tryz.ntmps17
      go_wp2_with (go_at_call 13; first
        | ((with_reducible refine (HMX _ (by assumption)).out.mono ?_); rintro e w1 ⟨rfl, hb1⟩
           have hB1 := tri_step (N := w.heap.size + 1 + 1) hB0 hb1 (by simp)
           obtain ⟨k1, k2, k3, k4⟩ := duo_at hB1
           obtain ⟨q0, q1, q2, q3, -, -, -, -⟩ := vbox4 k1
           obtain ⟨p0, p1, p2, p3, -, -, -, -⟩ := vbox4 k2)
        | ((with_reducible refine (HMY _ (by assumption)).out.mono ?_); rintro e w2 ⟨rfl, hb2⟩))
      go_ret
      exact ⟨by rw [HF.out]; rfl, below_via k4 hb2⟩
    | true =>
      have HS := fun W (h : Below w.heap.size w W) => Lib.hid (rsame1_c x y W (hx.up h) (hy.up h) hwx hwy mx my)
      have HA := fun W (h : Below w.heap.size w W) => Lib.hid (rahead_c x y W (hx.up h) (hy.up h) hwx hwy mx my)
      have hc : cmpR x.v y.v = cmpV 256 x.v y.v := by unfold cmpR; rw [mx, my]; simp
      rw [mx] at HMX
      rw [my] at HMY
      have hsg := sgn_cmp 256 x.v y.v
      clear mx my
      rcases hsg with h | h | h
      · have HF := Lib.hid (show cmpR x.v y.v = -1 from hc.trans h)
        rw [show decide (cmpV 256 x.v y.v = 0) = false by rw [h]; rfl] at HS
        rw [show decide (cmpV 256 x.v y.v < 0) = true by rw [h]; rfl] at HA
        clear h hc
        go_enter Tryz.func17, Tryz.ntmps17
        go_wp2_with (first
         | (go_at_call 13; first
            | ((with_reducible refine (HMX _ (by assumption)).out.mono ?_); rintro e w1 ⟨rfl, hb1⟩
               have hB1 := tri_step (N := w.heap.size + 1 + 1) hB0 hb1 (by simp)
               obtain ⟨k1, k2, k3, k4⟩ := duo_at hB1
               obtain ⟨q0, q1, q2, q3, -, -, -, -⟩ := vbox4 k1
               obtain ⟨p0, p1, p2, p3, -, -, -, -⟩ := vbox4 k2)
            | ((with_reducible refine (HMY _ (by assumption)).out.mono ?_); rintro e w2 ⟨rfl, hb2⟩
               have hB2 := tri_step (N := w.heap.size + 1 + 1) hB1 hb2 (by simp)
               clear k1 k2 k3 q0 q1 q2 q3 p0 p1 p2 p3
               obtain ⟨k1, k2, k3, k5⟩ := duo_at hB2
               obtain ⟨q0, q1, q2, q3, -, -, -, -⟩ := vbox4 k1
               obtain ⟨p0, p1, p2, p3, -, -, -, -⟩ := vbox4 k2))
         | (go_at_call 52; refine (HS _ k5).out.mono ?_; rintro e w3 ⟨rfl, hb3⟩
            have hB3 := tri_step (N := w.heap.size + 1 + 1) hB2 hb3 (by simp)
            clear k1 k2 k3 q0 q1 q2 q3 p0 p1 p2 p3
            obtain ⟨k1, k2, k3, k6⟩ := duo_at hB3
            obtain ⟨q0, q1, q2, q3, -, -, -, -⟩ := vbox4 k1
            obtain ⟨p0, p1, p2, p3, -, -, -, -⟩ := vbox4 k2)
         | (go_at_call 53; refine (HA _ k6).out.mono ?_; rintro e w4 ⟨rfl, hb4⟩))
        go_ret
        exact ⟨by rw [HF.out]; rfl, below_via k6 hb4⟩
      · have HF := Lib.hid (show cmpR x.v y.v = 0 from hc.trans h)
        rw [show decide (cmpV 256 x.v y.v = 0) = true by rw [h]; rfl] at HS
        rw [show decide (cmpV 256 x.v y.v < 0) = false by rw [h]; rfl] at HA
        clear h hc
        go_enter Tryz.func17, Tryz.ntmps17
        go_wp2_with (first
         | (go_at_call 13; first
            | ((with_reducible refine (HMX _ (by assumption)).out.mono ?_); rintro e w1 ⟨rfl, hb1⟩
               have hB1 := tri_step (N := w.heap.size + 1 + 1) hB0 hb1 (by simp)
               obtain ⟨k1, k2, k3, k4⟩ := duo_at hB1
               obtain ⟨q0, q1, q2, q3, -, -, -, -⟩ := vbox4 k1
               obtain ⟨p0, p1, p2, p3, -, -, -, -⟩ := vbox4 k2)
            | ((with_reducible refine (HMY _ (by assumption)).out.mono ?_); rintro e w2 ⟨rfl, hb2⟩
               have hB2 := tri_step (N := w.heap.size + 1 + 1) hB1 hb2 (by simp)
               clear k1 k2 k3 q0 q1 q2 q3 p0 p1 p2 p3
               obtain ⟨k1, k2, k3, k5⟩ := duo_at hB2
               obtain ⟨q0, q1, q2, q3, -, -, -, -⟩ := vbox4 k1
               obtain ⟨p0, p1, p2, p3, -, -, -, -⟩ := vbox4 k2))
         | (go_at_call 52; refine (HS _ k5).out.mono ?_; rintro e w3 ⟨rfl, hb3⟩
            have hB3 := tri_step (N := w.heap.size + 1 + 1) hB2 hb3 (by simp)
            clear k1 k2 k3 q0 q1 q2 q3 p0 p1 p2 p3
            obtain ⟨k1, k2, k3, k6⟩ := duo_at hB3
            obtain ⟨q0, q1, q2, q3, -, -, -, -⟩ := vbox4 k1
            obtain ⟨p0, p1, p2, p3, -, -, -, -⟩ := vbox4 k2)
         | (go_at_call 53; refine (HA _ k6).out.mono ?_; rintro e w4 ⟨rfl, hb4⟩))
        go_ret
        exact ⟨by rw [HF.out]; rfl, k6⟩
      · have HF := Lib.hid (show cmpR x.v y.v = 1 from hc.trans h)
        rw [show decide (cmpV 256 x.v y.v = 0) = false by rw [h]; rfl] at HS
        rw [show decide (cmpV 256 x.v y.v < 0) = false by rw [h]; rfl] at HA
        clear h hc
        go_enter Tryz.func17, Tryz.ntmps17
        go_wp2_with (first
         | (go_at_call 13; first
            | ((with_reducible refine (HMX _ (by assumption)).out.mono ?_); rintro e w1 ⟨rfl, hb1⟩
               have hB1 := tri_step (N := w.heap.size + 1 + 1) hB0 hb1 (by simp)
               obtain ⟨k1, k2, k3, k4⟩ := duo_at hB1
               obtain ⟨q0, q1, q2, q3, -, -, -, -⟩ := vbox4 k1
               obtain ⟨p0, p1, p2, p3, -, -, -, -⟩ := vbox4 k2)
            | ((with_reducible refine (HMY _ (by assumption)).out.mono ?_); rintro e w2 ⟨rfl, hb2⟩
               have hB2 := tri_step (N := w.heap.size + 1 + 1) hB1 hb2 (by simp)
               clear k1 k2 k3 q0 q1 q2 q3 p0 p1 p2 p3
               obtain ⟨k1, k2, k3, k5⟩ := duo_at hB2
               obtain ⟨q0, q1, q2, q3, -, -, -, -⟩ := vbox4 k1
               obtain ⟨p0, p1, p2, p3, -, -, -, -⟩ := vbox4 k2))
         | (go_at_call 52; refine (HS _ k5).out.mono ?_; rintro e w3 ⟨rfl, hb3⟩
            have hB3 := tri_step (N := w.heap.size + 1 + 1) hB2 hb3 (by simp)
            clear k1 k2 k3 q0 q1 q2 q3 p0 p1 p2 p3
            obtain ⟨k1, k2, k3, k6⟩ := duo_at hB3
            obtain ⟨q0, q1, q2, q3, -, -, -, -⟩ := vbox4 k1
            obtain ⟨p0, p1, p2, p3, -, -, -, -⟩ := vbox4 k2)
         | (go_at_call 53; refine (HA _ k6).out.mono ?_; rintro e w4 ⟨rfl, hb4⟩))
        go_ret
        exact ⟨by rw [HF.out]; rfl, below_via k6 hb4⟩
def GetPost2 (v : Val) (s : ByteArray) (w : World) (e : Ending) (w' : World) : Prop :=
  ∃ z : AV, e = .returned (.tuple #[z.val, .bool (v.get s).isSome]) ∧ (∀ y, v.get s = some y → z.v = y) ∧ (v.get s = none → z = zAV) ∧ z.In w' w.heap.size w'.heap.size ∧ z.Mn w' w.heap.size w'.heap.size ∧ Below w.heap.size w w'
theorem zAV_mnA {w : World} {lo hi : Nat} (h : lo ≤ hi) : zAV.Mn w lo hi :=
  .mk (fun _ => lo) (Nat.le_refl _) (fun _ => Nat.le_refl _) h (fun h => absurd h (Nat.lt_irrefl 0)) (fun h => absurd h (Nat.lt_irrefl 0)) rfl rfl (by simp [zAV]) fun i y hy => by simp [zAV] at hy
theorem get_fin2 {v : Val} {s : ByteArray} {w w' : World} (hn : v.get s = none) (hb : Below w.heap.size w w') : GetPost2 v s w (.returned (.tuple #[.agg #[.int .u8 0, .string ⟨#[]⟩, .slice none 0 0, .slice none 0 0], .bool false])) w' :=
  ⟨zAV, by rw [hn]; rfl, (fun y h => by rw [hn] at h; cases h), fun _ => rfl, ⟨SlE.nil, SlE.nil, by simp [zAV], fun y hy => absurd hy List.not_mem_nil⟩, zAV_mnA hb.size, hb⟩

set_option maxRecDepth 100000 in
set_option maxHeartbeats 3200000 in
theorem get2_c (x : AV) (s : ByteArray) (w : World) (hx : Rd w x) (hw : x.w ≤ 1048576) : Calls Tryz.prog 25 #[x.val, .string s] w (GetPost2 x.v s w) := by
  have HM := fun W (h : Below w.heap.size w W) => Lib.hid (may_c W x (hx.up h) hw)
  have hlkb : x.ks.length ≤ 1048576 := by have := x.w_ks; omega
  have hlb : x.l.length ≤ 1048576 := by have := x.w_l; omega
  have HX := Lib.hid hx
  by_cases hk : x.k = 8
  · have n8 : (x.k != 8) = false := by simp [hk]
    cases hm : x.v.may with
    | false =>
      have HN := Lib.hid (show x.v.get s = none by rw [Val.get, if_neg (by simp [hm])])
      rw [hm] at HM
      clear hk hm hx
      go_enter Tryz.func25, Tryz.ntmps25
      go_wp2_with (first
        | (go_at_call 12; refine (HM _ (by repeat (first | exact Below.refl _ _ | refine Below.drew ?_ | refine below_drewN ?_ _ | refine Below.alloc ?_ (by first | omega | (simp; done) | (simp; omega)) _))).out.mono ?_; rintro e w1 ⟨rfl, hb⟩
           obtain ⟨g1, g2, g3, g4⟩ := two_new hb
           obtain ⟨s0, s1, s2, s3, y0, y1, y2, y3⟩ := vbox4 g2))
      refine bodyPost_ret (v := .tuple #[.agg #[.int .u8 0, .string ⟨#[]⟩, .slice none 0 0, .slice none 0 0], .bool false]) (by simp [results, Tryz.results25, go_sem, s0, s1, s2, s3]) rfl (get_fin2 HN.out (below4 g4 (by omega)))
    | true =>
      obtain ⟨hkv, -, hlv, hnv⟩ : x.v.k = 8 ∧ x.v.t.toList = [] ∧ x.v.ks.length = x.v.l.length ∧ x.v.ks.Nodup := by
        have := shape_map (within_sh (n := 256) (by rw [Val.may_eq]; exact hm)) (by rw [AV.v_k]; exact hk)
        exact ⟨by rw [AV.v_k]; exact hk, this⟩
      rw [hm] at HM
      have HIX := fun W (h : Below w.heap.size w W) => Lib.hid (index_c W x.ka x.kc x.ks 0 W.heap.size (hx.keys.up h) hlkb s)
      cases hi : idxB x.ks s with
      | none =>
        have HN := Lib.hid (show x.v.get s = none by rw [Val.get, if_pos ⟨hkv, hm⟩, AV.v_ks, hi]; rfl)
        rw [hi] at HIX
        clear hk hm hx hi hkv hlv hnv
        go_enter Tryz.func25, Tryz.ntmps25
        go_wp2_with (first
        | (go_at_call 12; refine (HM _ (by repeat (first | exact Below.refl _ _ | refine Below.drew ?_ | refine below_drewN ?_ _ | refine Below.alloc ?_ (by first | omega | (simp; done) | (simp; omega)) _))).out.mono ?_; rintro e w1 ⟨rfl, hb⟩
           obtain ⟨g1, g2, g3, g4⟩ := two_new hb
           have gl : w.heap.size < w1.heap.size := by omega
           obtain ⟨q0, q1, q2, q3, -, -, -, -⟩ := vbox4 g1
           obtain ⟨s0, s1, s2, s3, y0, y1, y2, y3⟩ := vbox4 g2)
        | (go_at_call 60; refine (HIX _ (by assumption)).out.mono ?_; rintro e w2 ⟨rfl, rfl⟩))
        refine bodyPost_ret (v := .tuple #[.agg #[.int .u8 0, .string ⟨#[]⟩, .slice none 0 0, .slice none 0 0], .bool false]) (by simp [results, Tryz.results25, go_sem, s0, s1, s2, s3]) rfl (get_fin2 HN.out (below4 g4 (by omega)))
      | some i =>
        have hks := idxB_some hi
        have hil : i < x.l.length := by
          have h1 := (List.getElem?_eq_some_iff.1 hks).1
          rw [AV.v_ks, AV.v_l, List.length_map] at hlv
          omega
        have hk2 : x.l[i]? = some x.l[i] := List.getElem?_eq_getElem hil
        have hmem : x.l[i] ∈ x.l := List.getElem_mem hil
        have hgv : x.v.get s = some x.l[i].v := by rw [Val.get, if_pos ⟨hkv, hm⟩, AV.v_ks, hi, AV.v_l]; simp [hk2]
        generalize x.l[i] = y at *
        obtain ⟨b, off, hla, -, hb1, hb2, h0, h1, h2, h3⟩ := vals_at hx.sl hk2
        have HO := fun W (h : Below w.heap.size w W) => Lib.hid (vown2_c y W (hx.kid_at h hmem) (Nat.le_trans (Nat.le_of_lt (AV.w_kid hmem)) hw))
        rw [hi] at HIX
        have hi0 : ¬ (i : Int) < 0 := by omega
        have hil' : (i : Int) < (x.l.length : Int) := by omega
        have HG := Lib.hid hgv
        have HLA := Lib.hid hla
        clear hk hm hx hi hkv hlv hnv hks hk2 hmem hgv hla
        go_enter Tryz.func25, Tryz.ntmps25
        go_wp2_with (first
        | (go_at_call 12; refine (HM _ (by repeat (first | exact Below.refl _ _ | refine Below.drew ?_ | refine below_drewN ?_ _ | refine Below.alloc ?_ (by first | omega | (simp; done) | (simp; omega)) _))).out.mono ?_; rintro e w1 ⟨rfl, hb⟩
           obtain ⟨g1, g2, g3, g4⟩ := two_new hb
           have gl : w.heap.size < w1.heap.size := by omega
           rw [← g4.cell (p := ⟨_, _, none⟩) hb2] at h0 h1 h2 h3
           obtain ⟨q0, q1, q2, q3, -, -, -, -⟩ := vbox4 g1
           rw [HLA.out] at q2
           have gb : b < w1.heap.size := by omega
           obtain ⟨s0, s1, s2, s3, y0, y1, y2, y3⟩ := vbox4 g2)
        | (go_at_call 60; refine (HIX _ (by assumption)).out.mono ?_; rintro e w2 ⟨rfl, rfl⟩)
        | (go_at_call 61; refine (HO _ (by assumption)).out.mono ?_; rintro e w3 ⟨z, rfl, hzv, hzi, hzm, hb3⟩
           obtain ⟨t0, t1, t2, t3, z0, z1, z2, z3⟩ := vbox4 ((hb3.block (w.heap.size + 1) (by omega)).trans g2)))
        have hs3 := hb3.size
        refine bodyPost_ret (v := .tuple #[z.val, .bool true]) (by simp [results, Tryz.results25, go_sem, t0, t1, t2, t3]) rfl ⟨z, by rw [HG.out]; rfl, fun u hu => ?_, (fun hn => by rw [HG.out] at hn; cases hn), ?_, ?_, ?_⟩
        · rw [HG.out] at hu; injection hu with hu; rw [← hu, hzv]
        · have e := (hzi.kept (w' := set4 w3 (w.heap.size + 1) (.int .u8 z.k) (.string z.t) (.slice z.la z.l.length z.lc) (.slice z.ka z.ks.length z.kc)) (Nat.le_of_eq size4.symm) fun q h1 _ _ => old4 (by omega)).widen (lo' := w.heap.size) (hi' := (set4 w3 (w.heap.size + 1) (.int .u8 z.k) (.string z.t) (.slice z.la z.l.length z.lc) (.slice z.ka z.ks.length z.kc)).heap.size) (Nat.le_of_lt gl) (Nat.le_of_eq size4.symm)
          exact e
        · exact (hzm.kept (w' := set4 w3 (w.heap.size + 1) (.int .u8 z.k) (.string z.t) (.slice z.la z.l.length z.lc) (.slice z.ka z.ks.length z.kc)) fun q h1 _ => old4 (by omega)).widen (Nat.le_of_lt gl) (Nat.le_of_eq size4.symm)
        · exact below4 (g4.trans (hb3.mono (by omega))) (by omega)
  · have n8 : (x.k != 8) = true := by simp [hk]
    have HN := Lib.hid (show x.v.get s = none by rw [Val.get, if_neg (by rw [AV.v_k]; simp [hk])])
    clear hk hx HM
    go_enter Tryz.func25, Tryz.ntmps25
    go_wp2_with fail
    refine bodyPost_ret (v := .tuple #[.agg #[.int .u8 0, .string ⟨#[]⟩, .slice none 0 0, .slice none 0 0], .bool false]) (by simp [results, Tryz.results25, go_sem]) rfl (get_fin2 HN.out (by repeat (first | exact Below.refl _ _ | refine Below.drew ?_ | refine below_drewN ?_ _ | refine Below.setCell ?_ (by first | omega | (simp; done) | (simp; omega)) _ | refine Below.alloc ?_ (by first | omega | (simp; done) | (simp; omega)) _)))

def RGetPost2 (v : Val) (s : ByteArray) (w : World) (e : Ending) (w' : World) : Prop :=
  ∃ z : AV, e = .returned (.tuple #[z.val, .bool (v.get s).isSome]) ∧ (∀ y, v.get s = some y → z.v = y) ∧ (v.get s = none → z = zAV) ∧ Rd w' z ∧ Below w.heap.size w w'
theorem rget2_c (x : AV) (s : ByteArray) (w : World) (hx : Rd w x) (hw : x.w ≤ 1048576) : Calls Tryz.prog 26 #[x.val, .string s] w (RGetPost2 x.v s w) := by
  refine (rget_c x s w hx hw).mono ?_
  rintro e w' ⟨⟨y, hy, hg, rfl⟩ | ⟨hn, rfl⟩, hb⟩
  · exact ⟨y, by rw [hg]; rfl, fun u hu => by rw [hg] at hu; cases hu; rfl, fun h => by rw [hg] at h; (cases h), Rd.up (hx.kid hy) hb, hb⟩
  · exact ⟨zAV, by rw [hn]; rfl, fun u h => by rw [hn] at h; (cases h), fun _ => rfl, ⟨SlE.nil, SlE.nil, by simp [zAV], fun y hy => absurd hy List.not_mem_nil⟩, hb⟩
/-- What Get hands back on both sides is one value. -/
theorem get_two {v : Val} {s : ByteArray} {z u : AV} (h1 : ∀ y, v.get s = some y → z.v = y) (h2 : v.get s = none → z = zAV) (h3 : ∀ y, v.get s = some y → u.v = y) (h4 : v.get s = none → u = zAV) (hw : v.w ≤ 1048576) : u.v = z.v ∧ z.w ≤ 1048576 := by
  cases hg : v.get s with
  | none => rw [h2 hg, h4 hg]; exact ⟨rfl, of_decide_eq_true (by kernel_rfl)⟩
  | some y =>
    have h5 := Val.w_kid (get_mem hg).1
    refine ⟨by rw [h1 y hg, h3 y hg], ?_⟩
    show z.v.w ≤ _
    rw [h1 y hg]; omega
end Go.Proofs.YtjihepdjcbpgoaaGreatDoor

namespace Go.Proofs.YtjihepdjcbpgoaaGreatDoor
open Go.RowKit Go.Sort

theorem key_pos {v : Val} (h : v.may = true) : (v.key.toList == (⟨#[]⟩ : ByteArray).toList) = false := by
  rw [str_beq]
  exact decide_eq_false fun e => by rw [key_empty.1 e] at h; cases h
theorem key_no {v : Val} (h : v.may = false) : v.key = ⟨#[]⟩ := key_empty.2 h

set_option maxRecDepth 100000 in
set_option maxHeartbeats 3200000 in
theorem vany_out0 (w : World) (x y : AV) (s : ByteArray) (hx : Rd w x) (hy : Rd w y) (hwx : x.w ≤ 1048576) (hwy : y.w ≤ 1048576) (hS : Shorts w) (_hP : Pow w) (h0 : 1500 < x.v.w) :
    Calls Tryz.prog 3 #[x.val, y.val, .string s] w (Ret (.bool true) w) := by
  have HL := fun W (h : Below w.heap.size w W) => Lib.hid (lives14_c W (hS.below h))
  have hB0 := duo_0 (w := w) (o1 := .cells #[.int .u8 x.k, .string x.t, .slice x.la x.l.length x.lc, .slice x.ka x.ks.length x.kc] 26) (o2 := .cells #[.int .u8 y.k, .string y.t, .slice y.la y.l.length y.lc, .slice y.ka y.ks.length y.kc] 26)
  have hb0 := duo_b (w := w) (o1 := .cells #[.int .u8 x.k, .string x.t, .slice x.la x.l.length x.lc, .slice x.ka x.ks.length x.kc] 26) (o2 := .cells #[.int .u8 y.k, .string y.t, .slice y.la y.l.length y.lc, .slice y.ka y.ks.length y.kc] 26)
  have HGX := fun W (h : Below w.heap.size w W) => Lib.hid (great14_c x W (hx.up h) hwx)
  have HGY := fun W (h : Below w.heap.size w W) => Lib.hid (great14_c y W (hy.up h) hwy)
  rw [decide_eq_true h0] at HGX
  clear h0
  go_enter Tryz.func3, Tryz.ntmps3
  go_wp2_with (first
      | (go_at_call 9; first
          | ((with_reducible refine (HGX _ (by assumption)).out.mono ?_); rintro e w1 ⟨rfl, hb1⟩
             have hB1 := tri_step (N := w.heap.size + 1 + 1) (by assumption) hb1 (by simp)
             obtain ⟨k1, k2, k3, k5⟩ := duo_at hB1
             obtain ⟨q0, q1, q2, q3, -, -, -, -⟩ := vbox4 k1
             obtain ⟨p0, p1, p2, p3, -, -, -, -⟩ := vbox4 k2)
          | ((with_reducible refine (HGY _ (by assumption)).out.mono ?_); rintro e w2 ⟨rfl, hb2⟩
             have hB2 := tri_step (N := w.heap.size + 1 + 1) (by assumption) hb2 (by simp)
             clear k1 k2 k3 k5 q0 q1 q2 q3 p0 p1 p2 p3
             obtain ⟨k1, k2, k3, k5⟩ := duo_at hB2
             obtain ⟨q0, q1, q2, q3, -, -, -, -⟩ := vbox4 k1
             obtain ⟨p0, p1, p2, p3, -, -, -, -⟩ := vbox4 k2))
      | (go_at_call 10; refine (HL _ k5).out.mono ?_; rintro e w9 ⟨rfl, hb9⟩))
  go_ret
  exact ⟨rfl, below_via k5 hb9⟩

set_option maxRecDepth 100000 in
set_option maxHeartbeats 3200000 in
theorem vany_out1 (w : World) (x y : AV) (s : ByteArray) (hx : Rd w x) (hy : Rd w y) (hwx : x.w ≤ 1048576) (hwy : y.w ≤ 1048576) (hS : Shorts w) (_hP : Pow w) (h0 : ¬ 1500 < x.v.w) (h1 : 1500 < y.v.w) :
    Calls Tryz.prog 3 #[x.val, y.val, .string s] w (Ret (.bool true) w) := by
  have HL := fun W (h : Below w.heap.size w W) => Lib.hid (lives14_c W (hS.below h))
  have hB0 := duo_0 (w := w) (o1 := .cells #[.int .u8 x.k, .string x.t, .slice x.la x.l.length x.lc, .slice x.ka x.ks.length x.kc] 26) (o2 := .cells #[.int .u8 y.k, .string y.t, .slice y.la y.l.length y.lc, .slice y.ka y.ks.length y.kc] 26)
  have hb0 := duo_b (w := w) (o1 := .cells #[.int .u8 x.k, .string x.t, .slice x.la x.l.length x.lc, .slice x.ka x.ks.length x.kc] 26) (o2 := .cells #[.int .u8 y.k, .string y.t, .slice y.la y.l.length y.lc, .slice y.ka y.ks.length y.kc] 26)
  have HGX := fun W (h : Below w.heap.size w W) => Lib.hid (great14_c x W (hx.up h) hwx)
  have HGY := fun W (h : Below w.heap.size w W) => Lib.hid (great14_c y W (hy.up h) hwy)
  rw [decide_eq_false h0] at HGX
  rw [decide_eq_true h1] at HGY
  clear h0 h1
  go_enter Tryz.func3, Tryz.ntmps3
  go_wp2_with (first
      | (go_at_call 9; first
          | ((with_reducible refine (HGX _ (by assumption)).out.mono ?_); rintro e w1 ⟨rfl, hb1⟩
             have hB1 := tri_step (N := w.heap.size + 1 + 1) (by assumption) hb1 (by simp)
             obtain ⟨k1, k2, k3, k5⟩ := duo_at hB1
             obtain ⟨q0, q1, q2, q3, -, -, -, -⟩ := vbox4 k1
             obtain ⟨p0, p1, p2, p3, -, -, -, -⟩ := vbox4 k2)
          | ((with_reducible refine (HGY _ (by assumption)).out.mono ?_); rintro e w2 ⟨rfl, hb2⟩
             have hB2 := tri_step (N := w.heap.size + 1 + 1) (by assumption) hb2 (by simp)
             clear k1 k2 k3 k5 q0 q1 q2 q3 p0 p1 p2 p3
             obtain ⟨k1, k2, k3, k5⟩ := duo_at hB2
             obtain ⟨q0, q1, q2, q3, -, -, -, -⟩ := vbox4 k1
             obtain ⟨p0, p1, p2, p3, -, -, -, -⟩ := vbox4 k2))
      | (go_at_call 10; refine (HL _ k5).out.mono ?_; rintro e w9 ⟨rfl, hb9⟩))
  go_ret
  exact ⟨rfl, below_via k5 hb9⟩

set_option maxRecDepth 100000 in
set_option maxHeartbeats 3200000 in
theorem vany_out2 (w : World) (x y : AV) (s : ByteArray) (hx : Rd w x) (hy : Rd w y) (hwx : x.w ≤ 1048576) (hwy : y.w ≤ 1048576) (hS : Shorts w) (_hP : Pow w) (h0 : ¬ 1500 < x.v.w) (h1 : ¬ 1500 < y.v.w) (h2 : 1000 < s.size) :
    Calls Tryz.prog 3 #[x.val, y.val, .string s] w (Ret (.bool true) w) := by
  have HL := fun W (h : Below w.heap.size w W) => Lib.hid (lives14_c W (hS.below h))
  have hB0 := duo_0 (w := w) (o1 := .cells #[.int .u8 x.k, .string x.t, .slice x.la x.l.length x.lc, .slice x.ka x.ks.length x.kc] 26) (o2 := .cells #[.int .u8 y.k, .string y.t, .slice y.la y.l.length y.lc, .slice y.ka y.ks.length y.kc] 26)
  have hb0 := duo_b (w := w) (o1 := .cells #[.int .u8 x.k, .string x.t, .slice x.la x.l.length x.lc, .slice x.ka x.ks.length x.kc] 26) (o2 := .cells #[.int .u8 y.k, .string y.t, .slice y.la y.l.length y.lc, .slice y.ka y.ks.length y.kc] 26)
  have HGX := fun W (h : Below w.heap.size w W) => Lib.hid (great14_c x W (hx.up h) hwx)
  have HGY := fun W (h : Below w.heap.size w W) => Lib.hid (great14_c y W (hy.up h) hwy)
  rw [decide_eq_false h0] at HGX
  rw [decide_eq_false h1] at HGY
  have hs1 : (s.size : Int) > 1000 := by omega
  have hs2 : ¬ (s.size : Int) ≤ 1000 := by omega
  clear h0 h1 h2
  go_enter Tryz.func3, Tryz.ntmps3
  go_wp2_with (first
      | (go_at_call 9; first
          | ((with_reducible refine (HGX _ (by assumption)).out.mono ?_); rintro e w1 ⟨rfl, hb1⟩
             have hB1 := tri_step (N := w.heap.size + 1 + 1) (by assumption) hb1 (by simp)
             obtain ⟨k1, k2, k3, k5⟩ := duo_at hB1
             obtain ⟨q0, q1, q2, q3, -, -, -, -⟩ := vbox4 k1
             obtain ⟨p0, p1, p2, p3, -, -, -, -⟩ := vbox4 k2)
          | ((with_reducible refine (HGY _ (by assumption)).out.mono ?_); rintro e w2 ⟨rfl, hb2⟩
             have hB2 := tri_step (N := w.heap.size + 1 + 1) (by assumption) hb2 (by simp)
             clear k1 k2 k3 k5 q0 q1 q2 q3 p0 p1 p2 p3
             obtain ⟨k1, k2, k3, k5⟩ := duo_at hB2
             obtain ⟨q0, q1, q2, q3, -, -, -, -⟩ := vbox4 k1
             obtain ⟨p0, p1, p2, p3, -, -, -, -⟩ := vbox4 k2))
      | (go_at_call 10; refine (HL _ k5).out.mono ?_; rintro e w9 ⟨rfl, hb9⟩))
  go_ret
  exact ⟨rfl, below_via k5 hb9⟩

set_option maxRecDepth 100000 in
set_option maxHeartbeats 3200000 in
theorem vany_in (w : World) (x y : AV) (s : ByteArray) (hx : Rd w x) (hy : Rd w y) (hwx : x.w ≤ 1048576) (hwy : y.w ≤ 1048576) (hS : Shorts w) (hP : Pow w) (h0 : ¬ 1500 < x.v.w) (h1 : ¬ 1500 < y.v.w) (h2 : ¬ 1000 < s.size) :
    Calls Tryz.prog 3 #[x.val, y.val, .string s] w (Ret (.bool true) w) := by
  have HL := fun W (h : Below w.heap.size w W) => Lib.hid (lives14_c W (hS.below h))
  have hB0 := duo_0 (w := w) (o1 := .cells #[.int .u8 x.k, .string x.t, .slice x.la x.l.length x.lc, .slice x.ka x.ks.length x.kc] 26) (o2 := .cells #[.int .u8 y.k, .string y.t, .slice y.la y.l.length y.lc, .slice y.ka y.ks.length y.kc] 26)
  have hb0 := duo_b (w := w) (o1 := .cells #[.int .u8 x.k, .string x.t, .slice x.la x.l.length x.lc, .slice x.ka x.ks.length x.kc] 26) (o2 := .cells #[.int .u8 y.k, .string y.t, .slice y.la y.l.length y.lc, .slice y.ka y.ks.length y.kc] 26)
  have HGX := fun W (h : Below w.heap.size w W) => Lib.hid (great14_c x W (hx.up h) hwx)
  have HGY := fun W (h : Below w.heap.size w W) => Lib.hid (great14_c y W (hy.up h) hwy)
  have HTX := fun W (h : Below w.heap.size w W) => Lib.hid (twin14_c x W (hx.up h) hwx)
  have HTY := fun W (h : Below w.heap.size w W) => Lib.hid (twin14_c y W (hy.up h) hwy)
  rw [decide_eq_false h0] at HGX
  rw [decide_eq_false h1] at HGY
  have hs1 : ¬ (s.size : Int) > 1000 := by omega
  have hs2 : (s.size : Int) ≤ 1000 := by omega
  have HX := Lib.hid hx
  have HY := Lib.hid hy
  have hszx : (x.v.sz : Int) = if x.v.may then (x.v.size : Int) else 0 := by unfold Val.sz; split <;> rfl
  clear h0 h1 h2 hx hy
  go_enter Tryz.func3, Tryz.ntmps3
  go_upto_region 5 with (first
      | (go_at_call 9; first
          | ((with_reducible refine (HGX _ (by assumption)).out.mono ?_); rintro e w1 ⟨rfl, hb1⟩
             have hB1 := tri_step (N := w.heap.size + 1 + 1) (by assumption) hb1 (by simp)
             obtain ⟨k1, k2, k3, k5⟩ := duo_at hB1
             obtain ⟨q0, q1, q2, q3, -, -, -, -⟩ := vbox4 k1
             obtain ⟨p0, p1, p2, p3, -, -, -, -⟩ := vbox4 k2)
          | ((with_reducible refine (HGY _ (by assumption)).out.mono ?_); rintro e w2 ⟨rfl, hb2⟩
             have hB2 := tri_step (N := w.heap.size + 1 + 1) (by assumption) hb2 (by simp)
             clear k1 k2 k3 k5 q0 q1 q2 q3 p0 p1 p2 p3
             obtain ⟨k1, k2, k3, k5⟩ := duo_at hB2
             obtain ⟨q0, q1, q2, q3, -, -, -, -⟩ := vbox4 k1
             obtain ⟨p0, p1, p2, p3, -, -, -, -⟩ := vbox4 k2))
      | (go_at_call 11; first
          | ((with_reducible refine (HTX _ k5).out.mono ?_); rintro e w3 ⟨x', rfl, hxv, htx, hb3⟩
             have hB3 := tri_step (N := w.heap.size + 1 + 1) hB2 hb3 (by simp)
             clear k1 k2 k3 k5 q0 q1 q2 q3 p0 p1 p2 p3
             obtain ⟨k1, k2, k3, k5⟩ := duo_at hB3
             have hB3' := hB3.alloc (by have := hB3.size; simpa using this) (.cells #[.int .u8 x'.k, .string x'.t, .slice x'.la x'.l.length x'.lc, .slice x'.ka x'.ks.length x'.kc] 26)
             have k5' := k5.alloc k5.size (.cells #[.int .u8 x'.k, .string x'.t, .slice x'.la x'.l.length x'.lc, .slice x'.ka x'.ks.length x'.kc] 26)
             have k7 : w.heap.size < w3.heap.size := by omega
             obtain ⟨q0, q1, q2, q3, -, -, -, -⟩ := vbox4 k1
             obtain ⟨p0, p1, p2, p3, -, -, -, -⟩ := vbox4 k2)
          | ((with_reducible refine (HTY _ k5').out.mono ?_); rintro e w4 ⟨y', rfl, hyv, hty, hb4⟩
             have hB4 := tri_step (N := w.heap.size + 1 + 1) hB3' hb4 (by simp)
             clear k1 k2 k3 k5 q0 q1 q2 q3 p0 p1 p2 p3)))
  go_name_world W7 hW7
  have hW7' : W7 = w4.alloc (.cells #[.int .u8 y'.k, .string y'.t, .slice y'.la y'.l.length y'.lc, .slice y'.ka y'.ks.length y'.kc] 26) := hW7.symm
  clear hW7
  have hB7 : Below (w.heap.size + 1 + 1) ((w.alloc (.cells #[.int .u8 x.k, .string x.t, .slice x.la x.l.length x.lc, .slice x.ka x.ks.length x.kc] 26)).alloc (.cells #[.int .u8 y.k, .string y.t, .slice y.la y.l.length y.lc, .slice y.ka y.ks.length y.kc] 26)) W7 := by rw [hW7']; exact hB4.alloc (by have := hB4.size; simpa using this) _
  obtain ⟨k1, k2, k3, k5⟩ := duo_at hB7
  have z34 := hb4.size
  simp only [World.size_alloc] at z34
  have b47 : Below w4.heap.size w4 W7 := by rw [hW7']; exact (Below.refl _ _).alloc (Nat.le_refl _) _
  have b37 : Below (w3.alloc (.cells #[.int .u8 x'.k, .string x'.t, .slice x'.la x'.l.length x'.lc, .slice x'.ka x'.ks.length x'.kc] 26)).heap.size (w3.alloc (.cells #[.int .u8 x'.k, .string x'.t, .slice x'.la x'.l.length x'.lc, .slice x'.ka x'.ks.length x'.kc] 26)) W7 := below_via hb4 b47
  have b37' : Below w3.heap.size w3 W7 := ((Below.refl _ _).alloc (Nat.le_refl _) _).trans (b37.mono (by simp))
  have t1 : W7.heap[w3.heap.size]? = some (.cells #[.int .u8 x'.k, .string x'.t, .slice x'.la x'.l.length x'.lc, .slice x'.ka x'.ks.length x'.kc] 26 (0, 0)) := (b37.block _ (by simp)).trans (heap_alloc_new w3 _)
  have t2 : W7.heap[w4.heap.size]? = some (.cells #[.int .u8 y'.k, .string y'.t, .slice y'.la y'.l.length y'.lc, .slice y'.ka y'.ks.length y'.kc] 26 (0, 0)) := by rw [hW7']; exact heap_alloc_new w4 _
  have htx7 := (htx.widen (Nat.zero_le _) (Nat.le_refl _)).up b37'
  have hty7 := (hty.widen (Nat.zero_le _) (Nat.le_refl _)).up b47
  have hwx' : x'.w ≤ 1048576 := by show x'.v.w ≤ _; rw [hxv]; exact hwx
  have hwy' : y'.w ≤ 1048576 := by show y'.v.w ≤ _; rw [hyv]; exact hwy
  have HWV := Lib.hid (show x.v.w ≤ 1048576 from hwx)
  have K5 := Lib.hid k5
  have N1 : w.heap.size < W7.heap.size := by omega
  have N2 : w.heap.size + 1 < W7.heap.size := by omega
  have N4 := lt_of_blk t1
  have N5 := lt_of_blk t2
  have LD := Lib.hid (show ∀ W, Below W7.heap.size W7 W → _ from fun W (h : Below W7.heap.size W7 W) => And.intro (vbox4 (blk_up h k1)) (And.intro (vbox4 (blk_up h k2)) (And.intro (vbox4 (blk_up h t1)) (vbox4 (blk_up h t2)))))
  have HLX := fun W (h : Below W7.heap.size W7 W) => Lib.hid (left14_c x x' W hxv (htx7.up h) (HX.out.up (below_via k5 h)) hwx)
  have HLY := fun W (h : Below W7.heap.size W7 W) => Lib.hid (left14_c y y' W hyv (hty7.up h) (HY.out.up (below_via k5 h)) hwy)
  have HM1 := fun W (h : Below W7.heap.size W7 W) => Lib.hid (may_c W x' (htx7.up h).rd hwx')
  have HM3 := fun W (h : Below W7.heap.size W7 W) => Lib.hid (may_c W y' (hty7.up h).rd hwy')
  have HM2 := fun W (h : Below W7.heap.size W7 W) => Lib.hid (rmay_c x W (HX.out.up (below_via k5 h)) hwx)
  have HA1 := fun W (h : Below W7.heap.size W7 W) => Lib.hid (same_c x' y' W (htx7.up h).rd (hty7.up h).rd hwx' hwy')
  have HA2 := fun W (h : Below W7.heap.size W7 W) => Lib.hid (rsame_c x y W (HX.out.up (below_via k5 h)) (HY.out.up (below_via k5 h)) hwx hwy)
  have HC1 := fun W (h : Below W7.heap.size W7 W) => Lib.hid (cmp_c x' y' W (htx7.up h).rd (hty7.up h).rd hwx' hwy')
  have HC2 := fun W (h : Below W7.heap.size W7 W) => Lib.hid (rCmp_c x y W (HX.out.up (below_via k5 h)) (HY.out.up (below_via k5 h)) hwx hwy)
  have HZ1 := fun W (h : Below W7.heap.size W7 W) => Lib.hid (size_c W x' (htx7.up h).rd hwx')
  have HZ2 := fun W (h : Below W7.heap.size W7 W) => Lib.hid (rsize_c x W (HX.out.up (below_via k5 h)) hwx)
  have HD1 := fun W (h : Below W7.heap.size W7 W) => Lib.hid (deep_c W x' (htx7.up h).rd hwx')
  have HD2 := fun W (h : Below W7.heap.size W7 W) => Lib.hid (rDeep_c x W (HX.out.up (below_via k5 h)) hwx)
  have HT1 := fun W (h : Below W7.heap.size W7 W) => Lib.hid (text_c x' W (htx7.up h).rd hwx' (hS.below (below_via k5 h)))
  have HT2 := fun W (h : Below W7.heap.size W7 W) => Lib.hid (rText_c x W (HX.out.up (below_via k5 h)) hwx)
  have HK1 := fun W (h : Below W7.heap.size W7 W) => Lib.hid (key_c x' W (htx7.up h).rd hwx' (hP.below (below_via k5 h)))
  have HK2 := fun W (h : Below W7.heap.size W7 W) => Lib.hid (key_c y' W (hty7.up h).rd hwy' (hP.below (below_via k5 h)))
  have HG1 := fun W (h : Below W7.heap.size W7 W) => Lib.hid (get2_c x' s W (htx7.up h).rd hwx')
  have HG2 := fun W (h : Below W7.heap.size W7 W) => Lib.hid (rget2_c x s W (HX.out.up (below_via k5 h)) hwx)
  rw [hxv] at HM1 HZ1 HD1 HT1 HK1 HG1
  rw [hyv] at HM3 HK2
  rw [hxv, hyv] at HA1 HC1
  rw [hszx] at HZ2
  have hsk : x.v.may = true → y.v.may = true → sameV x.v y.v = (x.v.key.toList == y.v.key.toList) := fun h1 h2 => by rw [same_key h1 h2, str_beq]
  have hk1 : x.v.may = true → (x.v.key.toList == (⟨#[]⟩ : ByteArray).toList) = false := key_pos
  have hk2 : x.v.may = false → x.v.key = ⟨#[]⟩ := key_no
  generalize (if x.v.may then (x.v.size : Int) else 0) = szn at HZ1 HZ2
  generalize (if x.v.may then (x.v.deep : Int) else 0) = dpn at HD1 HD2
  generalize cmpR x.v y.v = cmn at HC1 HC2
  generalize sameV x.v y.v = smb at HA1 HA2 hsk
  generalize (⟨(textR x.v).toArray⟩ : ByteArray) = txb at HT1 HT2
  generalize x.v.key = kx at HK1 hsk hk1 hk2
  generalize y.v.key = ky at HK2 hsk
  generalize x.v.may = mx at HM1 HM2 hsk hk1 hk2
  generalize y.v.may = my at HM3 hsk
  have f1 : (mx != mx) = false := by simp
  have f2 : (smb != smb) = false := by simp
  have f3 : (cmn != cmn) = false := by simp
  have f4 : (szn != szn) = false := by simp
  have f5 : (dpn != dpn) = false := by simp
  have f6 : (txb.toList == txb.toList) = true := by simp
  have HSK := Lib.hid hsk
  have HK1' := Lib.hid hk1
  have HK2' := Lib.hid hk2
  clear k1 k2 k3 k5 hB0 hb0 hB1 hB2 hB3 hB4 hB7 hB3' k5' hb1 hb2 hb3 hb4 HGX HGY HTX HTY t1 t2 htx hty htx7 hty7 b47 b37 b37' hW7' z34 hxv hyv hwx' hwy' hszx hsk hk1 hk2
  refine wp_region_bl (by kernel_rfl) (by kernel_rfl) ?_
  repeat (first | go_big_quiet_skip | (go_big_quiet_want; go_big_quiet_op; first | go_big_quiet_on | (refine ⟨_, fun _ _ => (by with_reducible rfl), ?_⟩; go_big_quiet_on) | (apply Exists.intro; refine ⟨fun w' hC => (by simp only [LD.out w' hC, Result.andThen]; exact ⟨trivial, rfl⟩), ?_⟩; go_big_quiet_on) | (apply Exists.intro; refine ⟨fun w' hC => (by (with_reducible refine (HM1 w' hC).out.mono ?_); exact fun e w2 ⟨he, hb⟩ => ⟨he, hC.trans (hb.mono hC.size)⟩), ?_⟩; go_big_quiet_on) | (apply Exists.intro; refine ⟨fun w' hC => (by (with_reducible refine (HM2 w' hC).out.mono ?_); exact fun e w2 ⟨he, hb⟩ => ⟨he, hC.trans (hb.mono hC.size)⟩), ?_⟩; go_big_quiet_on) | (apply Exists.intro; refine ⟨fun w' hC => (by (with_reducible refine (HA1 w' hC).out.mono ?_); exact fun e w2 ⟨he, hb⟩ => ⟨he, hC.trans (hb.mono hC.size)⟩), ?_⟩; go_big_quiet_on) | (apply Exists.intro; refine ⟨fun w' hC => (by (with_reducible refine (HA2 w' hC).out.mono ?_); exact fun e w2 ⟨he, hb⟩ => ⟨he, hC.trans (hb.mono hC.size)⟩), ?_⟩; go_big_quiet_on) | (apply Exists.intro; refine ⟨fun w' hC => (by (with_reducible refine (HC1 w' hC).out.mono ?_); exact fun e w2 ⟨he, hb⟩ => ⟨he, hC.trans (hb.mono hC.size)⟩), ?_⟩; go_big_quiet_on) | (apply Exists.intro; refine ⟨fun w' hC => (by (with_reducible refine (HC2 w' hC).out.mono ?_); exact fun e w2 ⟨he, hb⟩ => ⟨he, hC.trans (hb.mono hC.size)⟩), ?_⟩; go_big_quiet_on) | (apply Exists.intro; refine ⟨fun w' hC => (by (with_reducible refine (HZ1 w' hC).out.mono ?_); exact fun e w2 ⟨he, hb⟩ => ⟨he, hC.trans (hb.mono hC.size)⟩), ?_⟩; go_big_quiet_on) | (apply Exists.intro; refine ⟨fun w' hC => (by (with_reducible refine (HZ2 w' hC).out.mono ?_); exact fun e w2 ⟨he, hb⟩ => ⟨he, hC.trans (hb.mono hC.size)⟩), ?_⟩; go_big_quiet_on) | (apply Exists.intro; refine ⟨fun w' hC => (by (with_reducible refine (HD1 w' hC).out.mono ?_); exact fun e w2 ⟨he, hb⟩ => ⟨he, hC.trans (hb.mono hC.size)⟩), ?_⟩; go_big_quiet_on) | (apply Exists.intro; refine ⟨fun w' hC => (by (with_reducible refine (HD2 w' hC).out.mono ?_); exact fun e w2 ⟨he, hb⟩ => ⟨he, hC.trans (hb.mono hC.size)⟩), ?_⟩; go_big_quiet_on) | (apply Exists.intro; refine ⟨fun w' hC => (by (with_reducible refine (HT1 w' hC).out.mono ?_); exact fun e w2 ⟨he, hb⟩ => ⟨he, hC.trans (hb.mono hC.size)⟩), ?_⟩; go_big_quiet_on) | (apply Exists.intro; refine ⟨fun w' hC => (by (with_reducible refine (HT2 w' hC).out.mono ?_); exact fun e w2 ⟨he, hb⟩ => ⟨he, hC.trans (hb.mono hC.size)⟩), ?_⟩; go_big_quiet_on)))
  refine wpQuiet_nil ?_; intro wz hbz
  go_wp2_with fail
  have HJ1 := Lib.hid hbz
  have LDZ := Lib.hid (show ∀ W, Below wz.heap.size wz W → _ from fun W (h : Below wz.heap.size wz W) => LD.out W (below_via HJ1.out h))
  have HM1 := fun W (h : Below wz.heap.size wz W) => HM1 W (below_via HJ1.out h)
  have HM2 := fun W (h : Below wz.heap.size wz W) => HM2 W (below_via HJ1.out h)
  have HM3 := fun W (h : Below wz.heap.size wz W) => HM3 W (below_via HJ1.out h)
  have HA2 := fun W (h : Below wz.heap.size wz W) => HA2 W (below_via HJ1.out h)
  have HK1 := fun W (h : Below wz.heap.size wz W) => HK1 W (below_via HJ1.out h)
  have HK2 := fun W (h : Below wz.heap.size wz W) => HK2 W (below_via HJ1.out h)
  clear hbz HA1 HC1 HC2 HZ1 HZ2 HD1 HD2 HT1 HT2 f2 f3 f4 f5 f6
  cases mx with
  | false =>
    have g1 := HK2'.out rfl
    subst g1
    have g2 : ((⟨#[]⟩ : ByteArray).toList == (⟨#[]⟩ : ByteArray).toList) = true := by simp
    clear HSK HK1' HK2'
    refine wp_region_bl (by kernel_rfl) (by kernel_rfl) ?_
    repeat (first | go_big_quiet_skip | (go_big_quiet_want; go_big_quiet_op; first | go_big_quiet_on | (refine ⟨_, fun _ _ => (by with_reducible rfl), ?_⟩; go_big_quiet_on) | (apply Exists.intro; refine ⟨fun w' hC => (by simp only [LDZ.out w' hC, Result.andThen]; exact ⟨trivial, rfl⟩), ?_⟩; go_big_quiet_on) | (apply Exists.intro; refine ⟨fun w' hC => (by (with_reducible refine (HM1 w' hC).out.mono ?_); exact fun e w2 ⟨he, hb⟩ => ⟨he, hC.trans (hb.mono hC.size)⟩), ?_⟩; go_big_quiet_on) | (apply Exists.intro; refine ⟨fun w' hC => (by (with_reducible refine (HM2 w' hC).out.mono ?_); exact fun e w2 ⟨he, hb⟩ => ⟨he, hC.trans (hb.mono hC.size)⟩), ?_⟩; go_big_quiet_on) | (apply Exists.intro; refine ⟨fun w' hC => (by (with_reducible refine (HK1 w' hC).out.mono ?_); exact fun e w2 ⟨he, hb⟩ => ⟨he, hC.trans (hb.mono hC.size)⟩), ?_⟩; go_big_quiet_on)))
    refine wpQuiet_nil ?_; intro wz hbz
    have HJ2 := Lib.hid (below_via HJ1.out hbz)
    clear hbz HM1 HM2 HM3 HA2 HK1 HK2 g2
    have j2 := HJ2.out
    obtain ⟨⟨va0, va1, va2, va3, -, -, -, -⟩, ⟨vb0, vb1, vb2, vb3, -, -, -, -⟩, ⟨vc0, vc1, vc2, vc3, -, -, -, -⟩, ⟨vd0, vd1, vd2, vd3, -, -, -, -⟩⟩ := LD.out _ j2
    go_wp2_with (first
      | (go_at_call 25; (with_reducible refine (HG1 _ j2).out.mono ?_); rintro e w8 ⟨z, rfl, hz1, hz2, hzi, hzm, hb8⟩
         clear va0 va1 va2 va3 vb0 vb1 vb2 vb3 vc0 vc1 vc2 vc3 vd0 vd1 vd2 vd3
         have j8 := below_via j2 hb8
         have j8' := j8.alloc (by have := j8.size; simpa using this) (.cells #[.int .u8 z.k, .string z.t, .slice z.la z.l.length z.lc, .slice z.ka z.ks.length z.kc] 26)
         have hZ8 : Below (w8.heap.size + 1) (w8.alloc (.cells #[.int .u8 z.k, .string z.t, .slice z.la z.l.length z.lc, .slice z.ka z.ks.length z.kc] 26)) (w8.alloc (.cells #[.int .u8 z.k, .string z.t, .slice z.la z.l.length z.lc, .slice z.ka z.ks.length z.kc] 26)) := Below.refl _ _
         have n8 := j8.size
         have i1 : w.heap.size < w8.heap.size := by omega
         have i2 : w.heap.size + 1 < w8.heap.size := by omega
         have i3 : w3.heap.size < w8.heap.size := by omega
         have i4 : w4.heap.size < w8.heap.size := by omega
         obtain ⟨⟨va0, va1, va2, va3, -, -, -, -⟩, ⟨vb0, vb1, vb2, vb3, -, -, -, -⟩, ⟨vc0, vc1, vc2, vc3, -, -, -, -⟩, ⟨vd0, vd1, vd2, vd3, -, -, -, -⟩⟩ := LD.out _ j8)
      | (go_at_call 26; (with_reducible refine (HG2 _ j8').out.mono ?_); rintro e w9 ⟨u, rfl, hu1, hu2, hui, hb9⟩
         clear va0 va1 va2 va3 vb0 vb1 vb2 vb3 vc0 vc1 vc2 vc3 vd0 vd1 vd2 vd3
         have hZ9 := tri_step (N := w8.heap.size + 1) hZ8 hb9 (by simp)
         have hZ9' := hZ9.alloc (by have := hZ9.size; simpa using this) (.cells #[.int .u8 u.k, .string u.t, .slice u.la u.l.length u.lc, .slice u.ka u.ks.length u.kc] 26)
         have j9 := below_via j8' hb9
         have j9' := j9.alloc (by have := j9.size; simpa using this) (.cells #[.int .u8 u.k, .string u.t, .slice u.la u.l.length u.lc, .slice u.ka u.ks.length u.kc] 26)
         have hU9 : Below (w9.heap.size + 1) (w9.alloc (.cells #[.int .u8 u.k, .string u.t, .slice u.la u.l.length u.lc, .slice u.ka u.ks.length u.kc] 26)) (w9.alloc (.cells #[.int .u8 u.k, .string u.t, .slice u.la u.l.length u.lc, .slice u.ka u.ks.length u.kc] 26)) := Below.refl _ _
         have n9 : w8.heap.size + 1 ≤ w9.heap.size := by have := hZ9.size; simpa using this
         obtain ⟨za0, za1, za2, za3⟩ := bx hZ9
         obtain ⟨zb0, zb1, zb2, zb3⟩ := bx hU9
         have m1 : w8.heap.size < w9.heap.size := by omega
         have i5 : w.heap.size < w9.heap.size := by omega
         have i6 : w.heap.size + 1 < w9.heap.size := by omega
         have i7 : w3.heap.size < w9.heap.size := by omega
         have i8 : w4.heap.size < w9.heap.size := by omega
         obtain ⟨huz, hzw⟩ := get_two hz1 hz2 hu1 hu2 HWV.out
         have hrz : Rd (w9.alloc (.cells #[.int .u8 u.k, .string u.t, .slice u.la u.l.length u.lc, .slice u.ka u.ks.length u.kc] 26)) z := Rd.up (hzi.widen (Nat.zero_le _) (Nat.le_refl _)) (bx_w hZ9')
         have hru : Rd (w9.alloc (.cells #[.int .u8 u.k, .string u.t, .slice u.la u.l.length u.lc, .slice u.ka u.ks.length u.kc] 26)) u := Rd.up hui (bx_w hU9)
         have HLK := Lib.hid (like_c z u _ huz hrz hru hzw)
         have HUZ := Lib.hid hzw
         clear huz hzw hz1 hz2 hu1 hu2
         obtain ⟨⟨va0, va1, va2, va3, -, -, -, -⟩, ⟨vb0, vb1, vb2, vb3, -, -, -, -⟩, ⟨vc0, vc1, vc2, vc3, -, -, -, -⟩, ⟨vd0, vd1, vd2, vd3, -, -, -, -⟩⟩ := LD.out _ j9)
      | (go_at_call 27; (with_reducible refine HLK.out.mono ?_); rintro e w10 ⟨rfl, hb10⟩
         clear za0 za1 za2 za3 zb0 zb1 zb2 zb3 va0 va1 va2 va3 vb0 vb1 vb2 vb3 vc0 vc1 vc2 vc3 vd0 vd1 vd2 vd3
         have hZ10 := tri_step (N := w8.heap.size + 1) hZ9' hb10 (by simp)
         have j10 := below_via j9' hb10
         obtain ⟨za0, za1, za2, za3⟩ := bx hZ10
         obtain ⟨⟨va0, va1, va2, va3, -, -, -, -⟩, ⟨vb0, vb1, vb2, vb3, -, -, -, -⟩, ⟨vc0, vc1, vc2, vc3, -, -, -, -⟩, ⟨vd0, vd1, vd2, vd3, -, -, -, -⟩⟩ := LD.out _ j10)
      | (go_at_call 28; first
         | ((with_reducible refine (HLX _ j10).out.mono ?_); rintro e w11 ⟨rfl, hb11⟩
            clear za0 za1 za2 za3 va0 va1 va2 va3 vb0 vb1 vb2 vb3 vc0 vc1 vc2 vc3 vd0 vd1 vd2 vd3
            have hZ11 := tri_step (N := w8.heap.size + 1) hZ10 hb11 (by simp)
            have j11 := below_via j10 hb11
            obtain ⟨za0, za1, za2, za3⟩ := bx hZ11
            obtain ⟨⟨va0, va1, va2, va3, -, -, -, -⟩, ⟨vb0, vb1, vb2, vb3, -, -, -, -⟩, ⟨vc0, vc1, vc2, vc3, -, -, -, -⟩, ⟨vd0, vd1, vd2, vd3, -, -, -, -⟩⟩ := LD.out _ j11)
         | ((with_reducible refine (HLY _ j11).out.mono ?_); rintro e w12 ⟨rfl, hb12⟩
            clear za0 za1 za2 za3 va0 va1 va2 va3 vb0 vb1 vb2 vb3 vc0 vc1 vc2 vc3 vd0 vd1 vd2 vd3
            have hZ12 := tri_step (N := w8.heap.size + 1) hZ11 hb12 (by simp)
            have j12 := below_via j11 hb12
            obtain ⟨za0, za1, za2, za3⟩ := bx hZ12
            have hM := hzm.kept fun q _ h2 => (bx_w hZ12).block q h2
            have HSP := Lib.hid (spoil_c z _ w8.heap.size w12 hM HUZ.out (bx_w hZ12).size))
         | ((with_reducible refine (HLX _ j13).out.mono ?_); rintro e w14 ⟨rfl, hb14⟩
            have j14 := below_via j13 hb14))
      | (go_at_call 29; (with_reducible refine HSP.out.mono ?_); rintro e w13 ⟨rfl, hb13, -⟩
         clear za0 za1 za2 za3
         have j13 := j12.trans (hb13.mono j2.size)
         obtain ⟨⟨va0, va1, va2, va3, -, -, -, -⟩, ⟨vb0, vb1, vb2, vb3, -, -, -, -⟩, ⟨vc0, vc1, vc2, vc3, -, -, -, -⟩, ⟨vd0, vd1, vd2, vd3, -, -, -, -⟩⟩ := LD.out _ j13)
      | (go_at_call 10; refine (HL _ (below_via K5.out j14)).out.mono ?_; rintro e w15 ⟨rfl, hb15⟩))
    go_ret
    exact ⟨rfl, below_via K5.out (below_via j14 hb15)⟩
  | true =>
    have g1 := HK1'.out rfl
    have ga : ¬ kx = ⟨#[]⟩ := fun e => by rw [e] at g1; simp at g1
    have gb : decide (kx = ⟨#[]⟩) = false := decide_eq_false ga
    have gc : (kx.toList == []) = false := by rw [← show (⟨#[]⟩ : ByteArray).toList = [] by kernel_rfl]; exact g1
    have gd : ¬ kx.toList = [] := fun e => by rw [e] at gc; simp at gc
    cases my with
    | false =>
      clear HSK HK1' HK2'
      refine wp_region_bl (by kernel_rfl) (by kernel_rfl) ?_
      repeat (first | go_big_quiet_skip | (go_big_quiet_want; go_big_quiet_op; first | go_big_quiet_on | (refine ⟨_, fun _ _ => (by with_reducible rfl), ?_⟩; go_big_quiet_on) | (apply Exists.intro; refine ⟨fun w' hC => (by simp only [LDZ.out w' hC, Result.andThen]; exact ⟨trivial, rfl⟩), ?_⟩; go_big_quiet_on) | (apply Exists.intro; refine ⟨fun w' hC => (by (with_reducible refine (HM1 w' hC).out.mono ?_); exact fun e w2 ⟨he, hb⟩ => ⟨he, hC.trans (hb.mono hC.size)⟩), ?_⟩; go_big_quiet_on) | (apply Exists.intro; refine ⟨fun w' hC => (by (with_reducible refine (HM2 w' hC).out.mono ?_); exact fun e w2 ⟨he, hb⟩ => ⟨he, hC.trans (hb.mono hC.size)⟩), ?_⟩; go_big_quiet_on) | (apply Exists.intro; refine ⟨fun w' hC => (by (with_reducible refine (HM3 w' hC).out.mono ?_); exact fun e w2 ⟨he, hb⟩ => ⟨he, hC.trans (hb.mono hC.size)⟩), ?_⟩; go_big_quiet_on) | (apply Exists.intro; refine ⟨fun w' hC => (by (with_reducible refine (HK1 w' hC).out.mono ?_); exact fun e w2 ⟨he, hb⟩ => ⟨he, hC.trans (hb.mono hC.size)⟩), ?_⟩; go_big_quiet_on)))
      refine wpQuiet_nil ?_; intro wz hbz
      have HJ2 := Lib.hid (below_via HJ1.out hbz)
      clear hbz HM1 HM2 HM3 HA2 HK1 HK2 g1 ga gb gc gd
      have j2 := HJ2.out
      obtain ⟨⟨va0, va1, va2, va3, -, -, -, -⟩, ⟨vb0, vb1, vb2, vb3, -, -, -, -⟩, ⟨vc0, vc1, vc2, vc3, -, -, -, -⟩, ⟨vd0, vd1, vd2, vd3, -, -, -, -⟩⟩ := LD.out _ j2
      go_wp2_with (first
        | (go_at_call 25; (with_reducible refine (HG1 _ j2).out.mono ?_); rintro e w8 ⟨z, rfl, hz1, hz2, hzi, hzm, hb8⟩
           clear va0 va1 va2 va3 vb0 vb1 vb2 vb3 vc0 vc1 vc2 vc3 vd0 vd1 vd2 vd3
           have j8 := below_via j2 hb8
           have j8' := j8.alloc (by have := j8.size; simpa using this) (.cells #[.int .u8 z.k, .string z.t, .slice z.la z.l.length z.lc, .slice z.ka z.ks.length z.kc] 26)
           have hZ8 : Below (w8.heap.size + 1) (w8.alloc (.cells #[.int .u8 z.k, .string z.t, .slice z.la z.l.length z.lc, .slice z.ka z.ks.length z.kc] 26)) (w8.alloc (.cells #[.int .u8 z.k, .string z.t, .slice z.la z.l.length z.lc, .slice z.ka z.ks.length z.kc] 26)) := Below.refl _ _
           have n8 := j8.size
           have i1 : w.heap.size < w8.heap.size := by omega
           have i2 : w.heap.size + 1 < w8.heap.size := by omega
           have i3 : w3.heap.size < w8.heap.size := by omega
           have i4 : w4.heap.size < w8.heap.size := by omega
           obtain ⟨⟨va0, va1, va2, va3, -, -, -, -⟩, ⟨vb0, vb1, vb2, vb3, -, -, -, -⟩, ⟨vc0, vc1, vc2, vc3, -, -, -, -⟩, ⟨vd0, vd1, vd2, vd3, -, -, -, -⟩⟩ := LD.out _ j8)
        | (go_at_call 26; (with_reducible refine (HG2 _ j8').out.mono ?_); rintro e w9 ⟨u, rfl, hu1, hu2, hui, hb9⟩
           clear va0 va1 va2 va3 vb0 vb1 vb2 vb3 vc0 vc1 vc2 vc3 vd0 vd1 vd2 vd3
           have hZ9 := tri_step (N := w8.heap.size + 1) hZ8 hb9 (by simp)
           have hZ9' := hZ9.alloc (by have := hZ9.size; simpa using this) (.cells #[.int .u8 u.k, .string u.t, .slice u.la u.l.length u.lc, .slice u.ka u.ks.length u.kc] 26)
           have j9 := below_via j8' hb9
           have j9' := j9.alloc (by have := j9.size; simpa using this) (.cells #[.int .u8 u.k, .string u.t, .slice u.la u.l.length u.lc, .slice u.ka u.ks.length u.kc] 26)
           have hU9 : Below (w9.heap.size + 1) (w9.alloc (.cells #[.int .u8 u.k, .string u.t, .slice u.la u.l.length u.lc, .slice u.ka u.ks.length u.kc] 26)) (w9.alloc (.cells #[.int .u8 u.k, .string u.t, .slice u.la u.l.length u.lc, .slice u.ka u.ks.length u.kc] 26)) := Below.refl _ _
           have n9 : w8.heap.size + 1 ≤ w9.heap.size := by have := hZ9.size; simpa using this
           obtain ⟨za0, za1, za2, za3⟩ := bx hZ9
           obtain ⟨zb0, zb1, zb2, zb3⟩ := bx hU9
           have m1 : w8.heap.size < w9.heap.size := by omega
           have i5 : w.heap.size < w9.heap.size := by omega
           have i6 : w.heap.size + 1 < w9.heap.size := by omega
           have i7 : w3.heap.size < w9.heap.size := by omega
           have i8 : w4.heap.size < w9.heap.size := by omega
           obtain ⟨huz, hzw⟩ := get_two hz1 hz2 hu1 hu2 HWV.out
           have hrz : Rd (w9.alloc (.cells #[.int .u8 u.k, .string u.t, .slice u.la u.l.length u.lc, .slice u.ka u.ks.length u.kc] 26)) z := Rd.up (hzi.widen (Nat.zero_le _) (Nat.le_refl _)) (bx_w hZ9')
           have hru : Rd (w9.alloc (.cells #[.int .u8 u.k, .string u.t, .slice u.la u.l.length u.lc, .slice u.ka u.ks.length u.kc] 26)) u := Rd.up hui (bx_w hU9)
           have HLK := Lib.hid (like_c z u _ huz hrz hru hzw)
           have HUZ := Lib.hid hzw
           clear huz hzw hz1 hz2 hu1 hu2
           obtain ⟨⟨va0, va1, va2, va3, -, -, -, -⟩, ⟨vb0, vb1, vb2, vb3, -, -, -, -⟩, ⟨vc0, vc1, vc2, vc3, -, -, -, -⟩, ⟨vd0, vd1, vd2, vd3, -, -, -, -⟩⟩ := LD.out _ j9)
        | (go_at_call 27; (with_reducible refine HLK.out.mono ?_); rintro e w10 ⟨rfl, hb10⟩
           clear za0 za1 za2 za3 zb0 zb1 zb2 zb3 va0 va1 va2 va3 vb0 vb1 vb2 vb3 vc0 vc1 vc2 vc3 vd0 vd1 vd2 vd3
           have hZ10 := tri_step (N := w8.heap.size + 1) hZ9' hb10 (by simp)
           have j10 := below_via j9' hb10
           obtain ⟨za0, za1, za2, za3⟩ := bx hZ10
           obtain ⟨⟨va0, va1, va2, va3, -, -, -, -⟩, ⟨vb0, vb1, vb2, vb3, -, -, -, -⟩, ⟨vc0, vc1, vc2, vc3, -, -, -, -⟩, ⟨vd0, vd1, vd2, vd3, -, -, -, -⟩⟩ := LD.out _ j10)
        | (go_at_call 28; first
           | ((with_reducible refine (HLX _ j10).out.mono ?_); rintro e w11 ⟨rfl, hb11⟩
              clear za0 za1 za2 za3 va0 va1 va2 va3 vb0 vb1 vb2 vb3 vc0 vc1 vc2 vc3 vd0 vd1 vd2 vd3
              have hZ11 := tri_step (N := w8.heap.size + 1) hZ10 hb11 (by simp)
              have j11 := below_via j10 hb11
              obtain ⟨za0, za1, za2, za3⟩ := bx hZ11
              obtain ⟨⟨va0, va1, va2, va3, -, -, -, -⟩, ⟨vb0, vb1, vb2, vb3, -, -, -, -⟩, ⟨vc0, vc1, vc2, vc3, -, -, -, -⟩, ⟨vd0, vd1, vd2, vd3, -, -, -, -⟩⟩ := LD.out _ j11)
           | ((with_reducible refine (HLY _ j11).out.mono ?_); rintro e w12 ⟨rfl, hb12⟩
              clear za0 za1 za2 za3 va0 va1 va2 va3 vb0 vb1 vb2 vb3 vc0 vc1 vc2 vc3 vd0 vd1 vd2 vd3
              have hZ12 := tri_step (N := w8.heap.size + 1) hZ11 hb12 (by simp)
              have j12 := below_via j11 hb12
              obtain ⟨za0, za1, za2, za3⟩ := bx hZ12
              have hM := hzm.kept fun q _ h2 => (bx_w hZ12).block q h2
              have HSP := Lib.hid (spoil_c z _ w8.heap.size w12 hM HUZ.out (bx_w hZ12).size))
           | ((with_reducible refine (HLX _ j13).out.mono ?_); rintro e w14 ⟨rfl, hb14⟩
              have j14 := below_via j13 hb14))
        | (go_at_call 29; (with_reducible refine HSP.out.mono ?_); rintro e w13 ⟨rfl, hb13, -⟩
           clear za0 za1 za2 za3
           have j13 := j12.trans (hb13.mono j2.size)
           obtain ⟨⟨va0, va1, va2, va3, -, -, -, -⟩, ⟨vb0, vb1, vb2, vb3, -, -, -, -⟩, ⟨vc0, vc1, vc2, vc3, -, -, -, -⟩, ⟨vd0, vd1, vd2, vd3, -, -, -, -⟩⟩ := LD.out _ j13)
        | (go_at_call 10; refine (HL _ (below_via K5.out j14)).out.mono ?_; rintro e w15 ⟨rfl, hb15⟩))
      go_ret
      exact ⟨rfl, below_via K5.out (below_via j14 hb15)⟩
    | true =>
      have g2 := HSK.out rfl rfl
      subst g2
      have g3 : ((kx.toList == ky.toList) != (kx.toList == ky.toList)) = false := by simp
      have g3' : (decide (kx = ky) != decide (kx = ky)) = false := by simp
      clear HSK HK1' HK2'
      refine wp_region_bl (by kernel_rfl) (by kernel_rfl) ?_
      repeat (first | go_big_quiet_skip | (go_big_quiet_want; go_big_quiet_op; first | go_big_quiet_on | (refine ⟨_, fun _ _ => (by with_reducible rfl), ?_⟩; go_big_quiet_on) | (apply Exists.intro; refine ⟨fun w' hC => (by simp only [LDZ.out w' hC, Result.andThen]; exact ⟨trivial, rfl⟩), ?_⟩; go_big_quiet_on) | (apply Exists.intro; refine ⟨fun w' hC => (by (with_reducible refine (HM1 w' hC).out.mono ?_); exact fun e w2 ⟨he, hb⟩ => ⟨he, hC.trans (hb.mono hC.size)⟩), ?_⟩; go_big_quiet_on) | (apply Exists.intro; refine ⟨fun w' hC => (by (with_reducible refine (HM2 w' hC).out.mono ?_); exact fun e w2 ⟨he, hb⟩ => ⟨he, hC.trans (hb.mono hC.size)⟩), ?_⟩; go_big_quiet_on) | (apply Exists.intro; refine ⟨fun w' hC => (by (with_reducible refine (HM3 w' hC).out.mono ?_); exact fun e w2 ⟨he, hb⟩ => ⟨he, hC.trans (hb.mono hC.size)⟩), ?_⟩; go_big_quiet_on) | (apply Exists.intro; refine ⟨fun w' hC => (by (with_reducible refine (HK1 w' hC).out.mono ?_); exact fun e w2 ⟨he, hb⟩ => ⟨he, hC.trans (hb.mono hC.size)⟩), ?_⟩; go_big_quiet_on) | (apply Exists.intro; refine ⟨fun w' hC => (by (with_reducible refine (HK2 w' hC).out.mono ?_); exact fun e w2 ⟨he, hb⟩ => ⟨he, hC.trans (hb.mono hC.size)⟩), ?_⟩; go_big_quiet_on) | (apply Exists.intro; refine ⟨fun w' hC => (by (with_reducible refine (HA2 w' hC).out.mono ?_); exact fun e w2 ⟨he, hb⟩ => ⟨he, hC.trans (hb.mono hC.size)⟩), ?_⟩; go_big_quiet_on)))
      refine wpQuiet_nil ?_; intro wz hbz
      have HJ2 := Lib.hid (below_via HJ1.out hbz)
      clear hbz HM1 HM2 HM3 HA2 HK1 HK2 g1 ga gb gc gd g3 g3'
      have j2 := HJ2.out
      obtain ⟨⟨va0, va1, va2, va3, -, -, -, -⟩, ⟨vb0, vb1, vb2, vb3, -, -, -, -⟩, ⟨vc0, vc1, vc2, vc3, -, -, -, -⟩, ⟨vd0, vd1, vd2, vd3, -, -, -, -⟩⟩ := LD.out _ j2
      go_wp2_with (first
        | (go_at_call 25; (with_reducible refine (HG1 _ j2).out.mono ?_); rintro e w8 ⟨z, rfl, hz1, hz2, hzi, hzm, hb8⟩
           clear va0 va1 va2 va3 vb0 vb1 vb2 vb3 vc0 vc1 vc2 vc3 vd0 vd1 vd2 vd3
           have j8 := below_via j2 hb8
           have j8' := j8.alloc (by have := j8.size; simpa using this) (.cells #[.int .u8 z.k, .string z.t, .slice z.la z.l.length z.lc, .slice z.ka z.ks.length z.kc] 26)
           have hZ8 : Below (w8.heap.size + 1) (w8.alloc (.cells #[.int .u8 z.k, .string z.t, .slice z.la z.l.length z.lc, .slice z.ka z.ks.length z.kc] 26)) (w8.alloc (.cells #[.int .u8 z.k, .string z.t, .slice z.la z.l.length z.lc, .slice z.ka z.ks.length z.kc] 26)) := Below.refl _ _
           have n8 := j8.size
           have i1 : w.heap.size < w8.heap.size := by omega
           have i2 : w.heap.size + 1 < w8.heap.size := by omega
           have i3 : w3.heap.size < w8.heap.size := by omega
           have i4 : w4.heap.size < w8.heap.size := by omega
           obtain ⟨⟨va0, va1, va2, va3, -, -, -, -⟩, ⟨vb0, vb1, vb2, vb3, -, -, -, -⟩, ⟨vc0, vc1, vc2, vc3, -, -, -, -⟩, ⟨vd0, vd1, vd2, vd3, -, -, -, -⟩⟩ := LD.out _ j8)
        | (go_at_call 26; (with_reducible refine (HG2 _ j8').out.mono ?_); rintro e w9 ⟨u, rfl, hu1, hu2, hui, hb9⟩
           clear va0 va1 va2 va3 vb0 vb1 vb2 vb3 vc0 vc1 vc2 vc3 vd0 vd1 vd2 vd3
           have hZ9 := tri_step (N := w8.heap.size + 1) hZ8 hb9 (by simp)
           have hZ9' := hZ9.alloc (by have := hZ9.size; simpa using this) (.cells #[.int .u8 u.k, .string u.t, .slice u.la u.l.length u.lc, .slice u.ka u.ks.length u.kc] 26)
           have j9 := below_via j8' hb9
           have j9' := j9.alloc (by have := j9.size; simpa using this) (.cells #[.int .u8 u.k, .string u.t, .slice u.la u.l.length u.lc, .slice u.ka u.ks.length u.kc] 26)
           have hU9 : Below (w9.heap.size + 1) (w9.alloc (.cells #[.int .u8 u.k, .string u.t, .slice u.la u.l.length u.lc, .slice u.ka u.ks.length u.kc] 26)) (w9.alloc (.cells #[.int .u8 u.k, .string u.t, .slice u.la u.l.length u.lc, .slice u.ka u.ks.length u.kc] 26)) := Below.refl _ _
           have n9 : w8.heap.size + 1 ≤ w9.heap.size := by have := hZ9.size; simpa using this
           obtain ⟨za0, za1, za2, za3⟩ := bx hZ9
           obtain ⟨zb0, zb1, zb2, zb3⟩ := bx hU9
           have m1 : w8.heap.size < w9.heap.size := by omega
           have i5 : w.heap.size < w9.heap.size := by omega
           have i6 : w.heap.size + 1 < w9.heap.size := by omega
           have i7 : w3.heap.size < w9.heap.size := by omega
           have i8 : w4.heap.size < w9.heap.size := by omega
           obtain ⟨huz, hzw⟩ := get_two hz1 hz2 hu1 hu2 HWV.out
           have hrz : Rd (w9.alloc (.cells #[.int .u8 u.k, .string u.t, .slice u.la u.l.length u.lc, .slice u.ka u.ks.length u.kc] 26)) z := Rd.up (hzi.widen (Nat.zero_le _) (Nat.le_refl _)) (bx_w hZ9')
           have hru : Rd (w9.alloc (.cells #[.int .u8 u.k, .string u.t, .slice u.la u.l.length u.lc, .slice u.ka u.ks.length u.kc] 26)) u := Rd.up hui (bx_w hU9)
           have HLK := Lib.hid (like_c z u _ huz hrz hru hzw)
           have HUZ := Lib.hid hzw
           clear huz hzw hz1 hz2 hu1 hu2
           obtain ⟨⟨va0, va1, va2, va3, -, -, -, -⟩, ⟨vb0, vb1, vb2, vb3, -, -, -, -⟩, ⟨vc0, vc1, vc2, vc3, -, -, -, -⟩, ⟨vd0, vd1, vd2, vd3, -, -, -, -⟩⟩ := LD.out _ j9)
        | (go_at_call 27; (with_reducible refine HLK.out.mono ?_); rintro e w10 ⟨rfl, hb10⟩
           clear za0 za1 za2 za3 zb0 zb1 zb2 zb3 va0 va1 va2 va3 vb0 vb1 vb2 vb3 vc0 vc1 vc2 vc3 vd0 vd1 vd2 vd3
           have hZ10 := tri_step (N := w8.heap.size + 1) hZ9' hb10 (by simp)
           have j10 := below_via j9' hb10
           obtain ⟨za0, za1, za2, za3⟩ := bx hZ10
           obtain ⟨⟨va0, va1, va2, va3, -, -, -, -⟩, ⟨vb0, vb1, vb2, vb3, -, -, -, -⟩, ⟨vc0, vc1, vc2, vc3, -, -, -, -⟩, ⟨vd0, vd1, vd2, vd3, -, -, -, -⟩⟩ := LD.out _ j10)
        | (go_at_call 28; first
           | ((with_reducible refine (HLX _ j10).out.mono ?_); rintro e w11 ⟨rfl, hb11⟩
              clear za0 za1 za2 za3 va0 va1 va2 va3 vb0 vb1 vb2 vb3 vc0 vc1 vc2 vc3 vd0 vd1 vd2 vd3
              have hZ11 := tri_step (N := w8.heap.size + 1) hZ10 hb11 (by simp)
              have j11 := below_via j10 hb11
              obtain ⟨za0, za1, za2, za3⟩ := bx hZ11
              obtain ⟨⟨va0, va1, va2, va3, -, -, -, -⟩, ⟨vb0, vb1, vb2, vb3, -, -, -, -⟩, ⟨vc0, vc1, vc2, vc3, -, -, -, -⟩, ⟨vd0, vd1, vd2, vd3, -, -, -, -⟩⟩ := LD.out _ j11)
           | ((with_reducible refine (HLY _ j11).out.mono ?_); rintro e w12 ⟨rfl, hb12⟩
              clear za0 za1 za2 za3 va0 va1 va2 va3 vb0 vb1 vb2 vb3 vc0 vc1 vc2 vc3 vd0 vd1 vd2 vd3
              have hZ12 := tri_step (N := w8.heap.size + 1) hZ11 hb12 (by simp)
              have j12 := below_via j11 hb12
              obtain ⟨za0, za1, za2, za3⟩ := bx hZ12
              have hM := hzm.kept fun q _ h2 => (bx_w hZ12).block q h2
              have HSP := Lib.hid (spoil_c z _ w8.heap.size w12 hM HUZ.out (bx_w hZ12).size))
           | ((with_reducible refine (HLX _ j13).out.mono ?_); rintro e w14 ⟨rfl, hb14⟩
              have j14 := below_via j13 hb14))
        | (go_at_call 29; (with_reducible refine HSP.out.mono ?_); rintro e w13 ⟨rfl, hb13, -⟩
           clear za0 za1 za2 za3
           have j13 := j12.trans (hb13.mono j2.size)
           obtain ⟨⟨va0, va1, va2, va3, -, -, -, -⟩, ⟨vb0, vb1, vb2, vb3, -, -, -, -⟩, ⟨vc0, vc1, vc2, vc3, -, -, -, -⟩, ⟨vd0, vd1, vd2, vd3, -, -, -, -⟩⟩ := LD.out _ j13)
        | (go_at_call 10; refine (HL _ (below_via K5.out j14)).out.mono ?_; rintro e w15 ⟨rfl, hb15⟩))
      go_ret
      exact ⟨rfl, below_via K5.out (below_via j14 hb15)⟩

theorem vany (w : World) (x y : AV) (s : ByteArray) (hx : Rd w x) (hy : Rd w y) (hwx : x.w ≤ 1048576) (hwy : y.w ≤ 1048576) (hS : Shorts w) (hP : Pow w) :
    Calls Tryz.prog 3 #[x.val, y.val, .string s] w (Ret (.bool true) w) := by
  by_cases h0 : 1500 < x.v.w
  · exact vany_out0 w x y s hx hy hwx hwy hS hP h0
  by_cases h1 : 1500 < y.v.w
  · exact vany_out1 w x y s hx hy hwx hwy hS hP h0 h1
  by_cases h2 : 1000 < s.size
  · exact vany_out2 w x y s hx hy hwx hwy hS hP h0 h1 h2
  · exact vany_in w x y s hx hy hwx hwy hS hP h0 h1 h2
end Go.Proofs.YtjihepdjcbpgoaaGreatDoor
