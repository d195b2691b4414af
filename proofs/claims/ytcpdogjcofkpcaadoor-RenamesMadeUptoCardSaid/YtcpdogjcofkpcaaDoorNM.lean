/-
  inarchlaw24.RenamesMade answers true. Conditions: the value lies in memory, its weight is bounded; strconv's table of powers holds what its initialiser lays.
-/
import Derived.Test.YtcpdogjcofkpcaaDoorNK
import Derived.Test.YtcpdogjcofkpcaaDoorNC
namespace Go.Proofs.YtcpdogjcofkpcaaDoor
open Go.RowKit Go.Sort

theorem sum_set2 {α : Type} (f : α → Nat) (z : α) : ∀ (l : List α) (i : Nat), ((l.set i z).map f).sum ≤ (l.map f).sum + f z
  | [], i => by simp
  | y :: l, 0 => by simp; omega
  | y :: l, i + 1 => by
    have := sum_set2 f z l i
    simp only [List.set_cons_succ, List.map_cons, List.sum_cons]
    omega
/-- The map with one key named otherwise, as it lies. -/
def AV.named (x : AV) (a : Option Addr) (c i : Nat) (s : ByteArray) : AV := ⟨8, ⟨#[]⟩, x.la, x.lc, x.l, a, c, x.ks.set i s⟩
theorem named_v (x : AV) (a : Option Addr) (c i : Nat) (s : ByteArray) : (x.named a c i s).v = x.v.named i s := by
  rw [AV.named, AV.v_eq, Val.named, AV.v_l, AV.v_ks]
theorem named_w (x : AV) (a : Option Addr) (c i : Nat) (s : ByteArray) : (x.named a c i s).w ≤ x.w + s.size := by
  show (x.named a c i s).v.w ≤ x.v.w + s.size
  rw [named_v, Val.w_eq, Val.w_eq x.v]
  have := sum_set2 (·.size) s x.v.ks i
  simp only [Val.named, List.length_set]
  show 1 + 0 + _ + _ + _ ≤ _
  omega
/-- A row of texts: one element is stored over. -/
theorem OwnS.put {w : World} {base g c n : Nat} {l : List ByteArray} (h : OwnS w base (.slice (some ⟨g, 0, none⟩) n c) l) (hn : n = l.length) {m : Nat} (hm : m < l.length) (z : ByteArray) :
    SlE strE 1 (w.setCell ⟨g, m, none⟩ (.string z)) base w.heap.size (some ⟨g, 0, none⟩) (l.set m z) := by
  subst hn
  have hsl := own_sl (enc := strE) (size := 1) (fun _ => rfl) h
  intro hl
  obtain ⟨b, off, e, g1, g2, g3, g4⟩ := hsl (by simpa using hl)
  injection e with e; injection e with e1 e2
  subst e1; subst e2
  have hc : w.cell? ⟨g, m, none⟩ = some (.string l[m]) := by
    have := g4 m l[m] (List.getElem?_eq_getElem hm) 0 _ rfl
    simpa using this
  refine ⟨g, 0, rfl, g1, g2, by simpa using g3, fun i y hy j u hu => ?_⟩
  have hj : j = 0 := by have := (List.getElem?_eq_some_iff.1 hu).1; simp at this; omega
  subst hj
  rw [show 0 + i * 1 + 0 = i by omega, cell1 hc]
  by_cases him : i = m
  · subst him
    rw [List.getElem?_set_self hm] at hy
    rw [if_pos rfl]
    injection hy with hy
    subst hy
    simpa using hu
  · rw [List.getElem?_set_ne (by omega)] at hy
    rw [if_neg him]
    have := g4 i y hy 0 u hu
    rwa [show 0 + i * 1 + 0 = i by omega] at this
theorem made_cop {Wf Ws : World} {g bs c2 : Nat} {a2 : Option Addr} {ks : List ByteArray} (hos : OwnS Ws bs (.slice a2 ks.length c2) ks) (h1 : ∀ q, q ≠ g → q < Ws.heap.size → Wf.heap[q]? = Ws.heap[q]?) (z1 : Ws.heap.size ≤ Wf.heap.size) (hs : Wf.os = Ws.os ∧ Wf.tape = Ws.tape ∧ Wf.output = Ws.output)
    (N : Nat) (n1 : N ≤ bs) (hgs : g < bs ∨ Ws.heap.size ≤ g) : OwnS Wf N (.slice a2 ks.length c2) ks ∧ (Value.slice a2 ks.length c2).ownBlock ≠ some g := by
  have b1 : ∀ q, (Value.slice a2 ks.length c2).ownBlock = some q → bs ≤ q ∧ q < Ws.heap.size := hos.lt
  refine ⟨?_, fun e => by have := b1 g e; omega⟩
  have := World.ownsRow.kept (row := some g) (w' := Wf) hos ⟨hs.1, hs.2.1, hs.2.2, z1, fun q hq hne => h1 q (fun e => hne (by rw [e])) hq⟩ (by
    cases hq : (Value.slice a2 ks.length c2).ownBlock with
    | none => exact .inl rfl
    | some q => exact .inr fun e => by injection e with e; have := b1 q hq; omega)
  exact ⟨this.1, this.2.imp id fun ⟨g', cap, cur, e1, e2, e3⟩ => ⟨g', cap, cur, e1, by omega, e3⟩⟩
theorem one_at {w W : World} {o1 : Obj} (hb : Below (w.heap.size + 1) (w.alloc o1) W) : W.heap[w.heap.size]? = some o1 ∧ w.heap.size < W.heap.size ∧ Below w.heap.size w W := by
  have hs := hb.size
  simp only [World.size_alloc] at hs
  exact ⟨(hb.block _ (by omega)).trans (heap_alloc_new w o1), by omega, bx_w hb⟩
theorem one_0 {w : World} {o1 : Obj} : Below (w.heap.size + 1) (w.alloc o1) (w.alloc o1) := Below.refl _ _
theorem one_b {w : World} {o1 : Obj} : Below w.heap.size w (w.alloc o1) := (Below.refl _ _).alloc (Nat.le_refl _) _

set_option maxRecDepth 100000 in
set_option maxHeartbeats 3200000 in
theorem rmade_out0 (w : World) (x : AV) (at_ : Nat) (s : ByteArray) (hx : Rd w x) (hwx : x.w ≤ 1048576) (hP : Pow w) (h0 : 1500 < x.v.w) :
    Calls Tryd.prog 6 #[x.val, .int .u16 at_, .string s] w (Ret (.bool true) w) := by
  have HL := fun W (h : Below w.heap.size w W) => Lib.hid (lives24_c W (hP.below h))
  have hB0 := one_0 (w := w) (o1 := .cells #[.int .u8 x.k, .string x.t, .slice x.la x.l.length x.lc, .slice x.ka x.ks.length x.kc] 26)
  have hb0 := one_b (w := w) (o1 := .cells #[.int .u8 x.k, .string x.t, .slice x.la x.l.length x.lc, .slice x.ka x.ks.length x.kc] 26)
  have HGX := fun W (h : Below w.heap.size w W) => Lib.hid (great14_c x W (hx.up h) hwx)
  rw [decide_eq_true h0] at HGX
  clear h0
  go_enter Tryd.func6, Tryd.ntmps6
  go_wp2_with (first
      | (go_at_call 15; refine (HL _ (by assumption)).out.mono ?_; rintro e w9 ⟨rfl, hb9⟩)
      | (go_at_call 7; refine (HGX _ (by assumption)).out.mono ?_; rintro e w1 ⟨rfl, hb1⟩
         have hB1 := tri_step (N := w.heap.size + 1) (by assumption) hb1 (by simp)
         obtain ⟨k1, k2, k3⟩ := one_at hB1
         obtain ⟨q0, q1, q2, q3, -, -, -, -⟩ := vbox4 k1))
  go_ret
  exact ⟨rfl, below_via (by assumption) hb9⟩

set_option maxRecDepth 100000 in
set_option maxHeartbeats 3200000 in
theorem rmade_out1 (w : World) (x : AV) (at_ : Nat) (s : ByteArray) (hx : Rd w x) (hwx : x.w ≤ 1048576) (hP : Pow w) (h0 : ¬ 1500 < x.v.w) (h1 : x.v.may = false) :
    Calls Tryd.prog 6 #[x.val, .int .u16 at_, .string s] w (Ret (.bool true) w) := by
  have HL := fun W (h : Below w.heap.size w W) => Lib.hid (lives24_c W (hP.below h))
  have hB0 := one_0 (w := w) (o1 := .cells #[.int .u8 x.k, .string x.t, .slice x.la x.l.length x.lc, .slice x.ka x.ks.length x.kc] 26)
  have hb0 := one_b (w := w) (o1 := .cells #[.int .u8 x.k, .string x.t, .slice x.la x.l.length x.lc, .slice x.ka x.ks.length x.kc] 26)
  have HGX := fun W (h : Below w.heap.size w W) => Lib.hid (great14_c x W (hx.up h) hwx)
  have HM := fun W (h : Below w.heap.size w W) => Lib.hid (may_c W x (hx.up h) hwx)
  rw [decide_eq_false h0] at HGX
  rw [h1] at HM
  clear h0 h1
  go_enter Tryd.func6, Tryd.ntmps6
  go_wp2_with (first
      | (go_at_call 15; refine (HL _ (by assumption)).out.mono ?_; rintro e w9 ⟨rfl, hb9⟩)
      | (go_at_call 7; refine (HGX _ (by assumption)).out.mono ?_; rintro e w1 ⟨rfl, hb1⟩
         have hB1 := tri_step (N := w.heap.size + 1) (by assumption) hb1 (by simp)
         obtain ⟨k1, k2, k3⟩ := one_at hB1
         obtain ⟨q0, q1, q2, q3, -, -, -, -⟩ := vbox4 k1)
      | (go_at_call 8; refine (HM _ (by assumption)).out.mono ?_; rintro e w2 ⟨rfl, hb2⟩
         have hB2 := tri_step (N := w.heap.size + 1) (by assumption) hb2 (by simp)
         clear k1 k2 k3 q0 q1 q2 q3
         obtain ⟨k1, k2, k3⟩ := one_at hB2
         obtain ⟨q0, q1, q2, q3, -, -, -, -⟩ := vbox4 k1))
  go_ret
  exact ⟨rfl, below_via (by assumption) hb9⟩

set_option maxRecDepth 100000 in
set_option maxHeartbeats 3200000 in
theorem rmade_out2 (w : World) (x : AV) (at_ : Nat) (s : ByteArray) (hx : Rd w x) (hwx : x.w ≤ 1048576) (hP : Pow w) (h0 : ¬ 1500 < x.v.w) (h1 : x.v.may = true) (h2 : x.k ≠ 8) :
    Calls Tryd.prog 6 #[x.val, .int .u16 at_, .string s] w (Ret (.bool true) w) := by
  have HL := fun W (h : Below w.heap.size w W) => Lib.hid (lives24_c W (hP.below h))
  have hB0 := one_0 (w := w) (o1 := .cells #[.int .u8 x.k, .string x.t, .slice x.la x.l.length x.lc, .slice x.ka x.ks.length x.kc] 26)
  have hb0 := one_b (w := w) (o1 := .cells #[.int .u8 x.k, .string x.t, .slice x.la x.l.length x.lc, .slice x.ka x.ks.length x.kc] 26)
  have HGX := fun W (h : Below w.heap.size w W) => Lib.hid (great14_c x W (hx.up h) hwx)
  have HM := fun W (h : Below w.heap.size w W) => Lib.hid (may_c W x (hx.up h) hwx)
  rw [decide_eq_false h0] at HGX
  rw [h1] at HM
  have e8 : (x.k != 8) = true := by simp [h2]
  clear h0 h1 h2
  go_enter Tryd.func6, Tryd.ntmps6
  go_wp2_with (first
      | (go_at_call 15; refine (HL _ (by assumption)).out.mono ?_; rintro e w9 ⟨rfl, hb9⟩)
      | (go_at_call 7; refine (HGX _ (by assumption)).out.mono ?_; rintro e w1 ⟨rfl, hb1⟩
         have hB1 := tri_step (N := w.heap.size + 1) (by assumption) hb1 (by simp)
         obtain ⟨k1, k2, k3⟩ := one_at hB1
         obtain ⟨q0, q1, q2, q3, -, -, -, -⟩ := vbox4 k1)
      | (go_at_call 8; refine (HM _ (by assumption)).out.mono ?_; rintro e w2 ⟨rfl, hb2⟩
         have hB2 := tri_step (N := w.heap.size + 1) (by assumption) hb2 (by simp)
         clear k1 k2 k3 q0 q1 q2 q3
         obtain ⟨k1, k2, k3⟩ := one_at hB2
         obtain ⟨q0, q1, q2, q3, -, -, -, -⟩ := vbox4 k1))
  go_ret
  exact ⟨rfl, below_via (by assumption) hb9⟩

set_option maxRecDepth 100000 in
set_option maxHeartbeats 3200000 in
theorem rmade_out3 (w : World) (x : AV) (at_ : Nat) (s : ByteArray) (hx : Rd w x) (hwx : x.w ≤ 1048576) (hP : Pow w) (h0 : ¬ 1500 < x.v.w) (h1 : x.v.may = true) (h2 : x.k = 8) (h3 : x.ks.length = 0) :
    Calls Tryd.prog 6 #[x.val, .int .u16 at_, .string s] w (Ret (.bool true) w) := by
  have HL := fun W (h : Below w.heap.size w W) => Lib.hid (lives24_c W (hP.below h))
  have hB0 := one_0 (w := w) (o1 := .cells #[.int .u8 x.k, .string x.t, .slice x.la x.l.length x.lc, .slice x.ka x.ks.length x.kc] 26)
  have hb0 := one_b (w := w) (o1 := .cells #[.int .u8 x.k, .string x.t, .slice x.la x.l.length x.lc, .slice x.ka x.ks.length x.kc] 26)
  have HGX := fun W (h : Below w.heap.size w W) => Lib.hid (great14_c x W (hx.up h) hwx)
  have HM := fun W (h : Below w.heap.size w W) => Lib.hid (may_c W x (hx.up h) hwx)
  rw [decide_eq_false h0] at HGX
  rw [h1] at HM
  have e8 : (x.k != 8) = false := by simp [h2]
  have e0 : ((x.ks.length : Int) == 0) = true := by simp [h3]
  clear h0 h1 h2 h3
  go_enter Tryd.func6, Tryd.ntmps6
  go_wp2_with (first
      | (go_at_call 15; refine (HL _ (by assumption)).out.mono ?_; rintro e w9 ⟨rfl, hb9⟩)
      | (go_at_call 7; refine (HGX _ (by assumption)).out.mono ?_; rintro e w1 ⟨rfl, hb1⟩
         have hB1 := tri_step (N := w.heap.size + 1) (by assumption) hb1 (by simp)
         obtain ⟨k1, k2, k3⟩ := one_at hB1
         obtain ⟨q0, q1, q2, q3, -, -, -, -⟩ := vbox4 k1)
      | (go_at_call 8; refine (HM _ (by assumption)).out.mono ?_; rintro e w2 ⟨rfl, hb2⟩
         have hB2 := tri_step (N := w.heap.size + 1) (by assumption) hb2 (by simp)
         clear k1 k2 k3 q0 q1 q2 q3
         obtain ⟨k1, k2, k3⟩ := one_at hB2
         obtain ⟨q0, q1, q2, q3, -, -, -, -⟩ := vbox4 k1))
  go_ret
  exact ⟨rfl, below_via (by assumption) hb9⟩

set_option maxRecDepth 100000 in
set_option maxHeartbeats 3200000 in
theorem rmade_out4 (w : World) (x : AV) (at_ : Nat) (s : ByteArray) (hx : Rd w x) (hwx : x.w ≤ 1048576) (hP : Pow w) (h0 : ¬ 1500 < x.v.w) (h1 : x.v.may = true) (h2 : x.k = 8) (h3 : 0 < x.ks.length) (h4 : 100 < s.size) :
    Calls Tryd.prog 6 #[x.val, .int .u16 at_, .string s] w (Ret (.bool true) w) := by
  have HL := fun W (h : Below w.heap.size w W) => Lib.hid (lives24_c W (hP.below h))
  have hB0 := one_0 (w := w) (o1 := .cells #[.int .u8 x.k, .string x.t, .slice x.la x.l.length x.lc, .slice x.ka x.ks.length x.kc] 26)
  have hb0 := one_b (w := w) (o1 := .cells #[.int .u8 x.k, .string x.t, .slice x.la x.l.length x.lc, .slice x.ka x.ks.length x.kc] 26)
  have HGX := fun W (h : Below w.heap.size w W) => Lib.hid (great14_c x W (hx.up h) hwx)
  have HM := fun W (h : Below w.heap.size w W) => Lib.hid (may_c W x (hx.up h) hwx)
  rw [decide_eq_false h0] at HGX
  rw [h1] at HM
  have e8 : (x.k != 8) = false := by simp [h2]
  have e0 : ((x.ks.length : Int) == 0) = false := by rw [beq_eq_false_iff_ne]; omega
  have e9 : decide ((s.size : Int) > 100) = true := by rw [decide_eq_true_iff]; omega
  have e9' : (100 : Int) < (s.size : Int) := by omega
  clear h0 h1 h2 h3 h4
  go_enter Tryd.func6, Tryd.ntmps6
  go_wp2_with (first
      | (go_at_call 15; refine (HL _ (by assumption)).out.mono ?_; rintro e w9 ⟨rfl, hb9⟩)
      | (go_at_call 7; refine (HGX _ (by assumption)).out.mono ?_; rintro e w1 ⟨rfl, hb1⟩
         have hB1 := tri_step (N := w.heap.size + 1) (by assumption) hb1 (by simp)
         obtain ⟨k1, k2, k3⟩ := one_at hB1
         obtain ⟨q0, q1, q2, q3, -, -, -, -⟩ := vbox4 k1)
      | (go_at_call 8; refine (HM _ (by assumption)).out.mono ?_; rintro e w2 ⟨rfl, hb2⟩
         have hB2 := tri_step (N := w.heap.size + 1) (by assumption) hb2 (by simp)
         clear k1 k2 k3 q0 q1 q2 q3
         obtain ⟨k1, k2, k3⟩ := one_at hB2
         obtain ⟨q0, q1, q2, q3, -, -, -, -⟩ := vbox4 k1))
  go_ret
  exact ⟨rfl, below_via (by assumption) hb9⟩

set_option maxRecDepth 100000 in
set_option maxHeartbeats 3200000 in
theorem rmade_out5 (w : World) (x : AV) (at_ : Nat) (s : ByteArray) (hx : Rd w x) (hwx : x.w ≤ 1048576) (hP : Pow w) (h0 : ¬ 1500 < x.v.w) (h1 : x.v.may = true) (h2 : x.k = 8) (h3 : 0 < x.ks.length) (h4 : ¬ 100 < s.size) (hat : at_ < 65536) (v : Val) (hg : x.v.get s = some v) :
    Calls Tryd.prog 6 #[x.val, .int .u16 at_, .string s] w (Ret (.bool true) w) := by
  have HL := fun W (h : Below w.heap.size w W) => Lib.hid (lives24_c W (hP.below h))
  have hB0 := one_0 (w := w) (o1 := .cells #[.int .u8 x.k, .string x.t, .slice x.la x.l.length x.lc, .slice x.ka x.ks.length x.kc] 26)
  have hb0 := one_b (w := w) (o1 := .cells #[.int .u8 x.k, .string x.t, .slice x.la x.l.length x.lc, .slice x.ka x.ks.length x.kc] 26)
  have HGX := fun W (h : Below w.heap.size w W) => Lib.hid (great14_c x W (hx.up h) hwx)
  have HM := fun W (h : Below w.heap.size w W) => Lib.hid (may_c W x (hx.up h) hwx)
  have HG := fun W (h : Below w.heap.size w W) => Lib.hid (got_s hg W (hx.up h) hwx)
  rw [decide_eq_false h0] at HGX
  rw [h1] at HM
  have e8 : (x.k != 8) = false := by simp [h2]
  have e0 : ((x.ks.length : Int) == 0) = false := by rw [beq_eq_false_iff_ne]; omega
  have e9 : decide ((s.size : Int) > 100) = false := by rw [decide_eq_false_iff_not]; omega
  have e9' : ¬ (100 : Int) < (s.size : Int) := by omega
  have hks := x.w_ks
  have hz0 : ¬ ((x.ks.length : Int) = 0) := by omega
  have hz1 : ¬ x.ks.length = 0 := by omega
  have hz2 : ¬ x.ks = [] := fun e => hz1 (by rw [e]; rfl)
  have em : (at_ : Int).tmod (x.ks.length : Int) = ((at_ % x.ks.length : Nat) : Int) := by rw [Int.tmod_eq_emod_of_nonneg (by omega)]; omega
  have ew : IntKind.i64.wrap (at_ : Int) = (at_ : Int) := IntWalk.i64_in _ (by omega)
  clear h0 h1 h2 h3 h4 hg
  go_enter Tryd.func6, Tryd.ntmps6
  go_wp2_with (first
      | (go_at_call 15; refine (HL _ (by first | assumption | exact hbz _)).out.mono ?_; rintro e w9 ⟨rfl, hb9⟩)
      | (go_at_call 7; refine (HGX _ (by assumption)).out.mono ?_; rintro e w1 ⟨rfl, hb1⟩
         have hB1 := tri_step (N := w.heap.size + 1) (by assumption) hb1 (by simp)
         obtain ⟨k1, k2, k3⟩ := one_at hB1
         obtain ⟨q0, q1, q2, q3, -, -, -, -⟩ := vbox4 k1)
      | (go_at_call 8; refine (HM _ (by assumption)).out.mono ?_; rintro e w2 ⟨rfl, hb2⟩
         have hB2 := tri_step (N := w.heap.size + 1) (by assumption) hb2 (by simp)
         clear k1 k2 k3 q0 q1 q2 q3
         obtain ⟨k1, k2, k3⟩ := one_at hB2
         obtain ⟨q0, q1, q2, q3, -, -, -, -⟩ := vbox4 k1)
      | (go_at_call 17; refine (HG _ (by assumption)).out.mono ?_; rintro e w3 ⟨z, rfl, hzv, hzi, hb3⟩
         have hB3 := tri_step (N := w.heap.size + 1) (by assumption) hb3 (by simp)
         have hbz := fun o => below_via (bx_w hB3) ((Below.refl w3.heap.size w3).alloc (Nat.le_refl _) o)))
  go_ret
  exact ⟨rfl, below_via (by first | assumption | exact hbz _) hb9⟩

set_option maxRecDepth 100000 in
set_option maxHeartbeats 12800000 in
theorem rmade_in (w : World) (x : AV) (at_ : Nat) (s : ByteArray) (hx : Rd w x) (hwx : x.w ≤ 1048576) (hP : Pow w) (h0 : ¬ 1500 < x.v.w) (h1 : x.v.may = true) (h2 : x.k = 8) (h3 : 0 < x.ks.length) (h4 : ¬ 100 < s.size) (hat : at_ < 65536) (hg : x.v.get s = none) :
    Calls Tryd.prog 6 #[x.val, .int .u16 at_, .string s] w (Ret (.bool true) w) := by
  have HL := fun W (h : Below w.heap.size w W) => Lib.hid (lives24_c W (hP.below h))
  have hB0 := one_0 (w := w) (o1 := .cells #[.int .u8 x.k, .string x.t, .slice x.la x.l.length x.lc, .slice x.ka x.ks.length x.kc] 26)
  have hb0 := one_b (w := w) (o1 := .cells #[.int .u8 x.k, .string x.t, .slice x.la x.l.length x.lc, .slice x.ka x.ks.length x.kc] 26)
  have HGX := fun W (h : Below w.heap.size w W) => Lib.hid (great14_c x W (hx.up h) hwx)
  have HM := fun W (h : Below w.heap.size w W) => Lib.hid (may_c W x (hx.up h) hwx)
  have HG := fun W (h : Below w.heap.size w W) => Lib.hid (got_n hg W (hx.up h) hwx)
  rw [decide_eq_false h0] at HGX
  have hmap : x.v.isMap = true := by
    unfold Val.isMap
    rw [h1, AV.v_k, h2]; rfl
  rw [h1] at HM
  obtain ⟨hlk, hnd⟩ := isMap_len hmap
  rw [AV.v_ks, AV.v_l, List.length_map] at hlk
  have hns : s ∉ x.v.ks := fun h => by
    obtain ⟨i, hi⟩ := List.getElem?_of_mem h
    have hil : i < x.v.l.length := by
      have h5 := (List.getElem?_eq_some_iff.1 hi).1
      rw [AV.v_ks] at h5
      rw [AV.v_l, List.length_map]; omega
    rw [get_at h1 hi (List.getElem?_eq_getElem hil)] at hg
    cases hg
  obtain ⟨i, hi⟩ : ∃ i, i = at_ % x.ks.length := ⟨_, rfl⟩
  have hil : i < x.ks.length := by rw [hi]; exact Nat.mod_lt _ h3
  have e8 : (x.k != 8) = false := by simp [h2]
  have e0 : ((x.ks.length : Int) == 0) = false := by rw [beq_eq_false_iff_ne]; omega
  have e9 : decide ((s.size : Int) > 100) = false := by rw [decide_eq_false_iff_not]; omega
  have e9' : ¬ (100 : Int) < (s.size : Int) := by omega
  have hks := x.w_ks
  have hz0 : ¬ ((x.ks.length : Int) = 0) := by omega
  have hz1 : ¬ x.ks.length = 0 := by omega
  have hz2 : ¬ x.ks = [] := fun e => hz1 (by rw [e]; rfl)
  have em : (at_ : Int).tmod (x.ks.length : Int) = (i : Int) := by rw [Int.tmod_eq_emod_of_nonneg (by omega), hi]; omega
  have ew : IntKind.i64.wrap (at_ : Int) = (at_ : Int) := IntWalk.i64_in _ (by omega)
  have hk : x.ks[i]? = some x.ks[i] := List.getElem?_eq_getElem hil
  have hyl : x.l[i]? = some x.l[i] := List.getElem?_eq_getElem (by omega)
  have hym : x.l[i] ∈ x.l := List.getElem_mem _
  generalize x.ks[i] = k at hk
  generalize x.l[i] = y at hyl hym
  have hlaw : ofV x.v (x.v.named i s) = if 2 ≤ y.v.sz then [(k, s)] else [] := named_law (y := y.v) hmap (by rw [AV.v_ks]; exact hk) (by rw [AV.v_l, List.getElem?_map, hyl]; rfl) hns
  have hyw := AV.w_kid hym
  have HX := Lib.hid hx
  have HLAW := Lib.hid hlaw
  have HK := Lib.hid hk
  have HYL := Lib.hid hyl
  have HYM := Lib.hid hym
  have hx15 : x.w ≤ 1500 := by show x.v.w ≤ 1500; omega
  have hss : s.size ≤ 100 := by omega
  have HLK := Lib.hid hlk
  clear h0 h1 h2 h3 h4 hg hx hlaw hk hyl hym hi hmap hnd hns hlk hat
  go_enter Tryd.func6, Tryd.ntmps6
  go_wp2_with (first
      | (go_at_call 7; refine (HGX _ (by assumption)).out.mono ?_; rintro e w1 ⟨rfl, hb1⟩
         have hB1 := tri_step (N := w.heap.size + 1) (by assumption) hb1 (by simp)
         obtain ⟨k1, k2, k3⟩ := one_at hB1
         obtain ⟨q0, q1, q2, q3, -, -, -, -⟩ := vbox4 k1)
      | (go_at_call 8; refine (HM _ (by assumption)).out.mono ?_; rintro e w2 ⟨rfl, hb2⟩
         have hB2 := tri_step (N := w.heap.size + 1) (by assumption) hb2 (by simp)
         clear k1 k2 k3 q0 q1 q2 q3
         obtain ⟨k1, k2, k3⟩ := one_at hB2
         obtain ⟨q0, q1, q2, q3, -, -, -, -⟩ := vbox4 k1)
      | (go_at_call 17; refine (HG _ (by assumption)).out.mono ?_; rintro e w3 ⟨rfl, hb3⟩
         have hB3 := tri_step (N := w.heap.size + 1) (by assumption) hb3 (by simp)
         clear k1 k2 k3 q0 q1 q2 q3
         obtain ⟨k1, k2, k3⟩ := one_at hB3))
  go_name_world W5 hW5
  have hb35 : Below w3.heap.size w3 W5 := by rw [← hW5]; exact (by repeat (first | exact Below.refl _ _ | refine Below.drew ?_ | refine below_drewN ?_ _ | refine Below.setCell ?_ (by first | omega | (simp; done) | (simp; omega)) _ | refine Below.alloc ?_ (by first | omega | (simp; done) | (simp; omega)) _))
  have hB5 := tri_step (N := w.heap.size + 1) hB3 hb35 (by simp)
  clear hW5 k1 k2 k3
  obtain ⟨k1, k2, k3⟩ := one_at hB5
  have HK1 := Lib.hid k1
  have HK3 := Lib.hid k3
  obtain ⟨q0, q1, q2, q3, -, -, -, -⟩ := vbox4 k1
  have hN : W5.heap.size ≤ W5.heap.size := Nat.le_refl _
  have HX5 := Lib.hid (HX.out.up k3)
  clear k1 k3 hB0 hb0 hB1 hB2 hB3 hB5 hb1 hb2 hb3 hb35 HGX HM HG e8 e0 e9 e9' em ew
  go_cut [10] (fun t10 wx => ∃ g a2 c2, t10 = .pointer (some ⟨g, 0, none⟩) ∧ g < wx.heap.size ∧ W5.heap.size ≤ g ∧ wx.heap[g]? = some (.cells #[.int .u8 8, .string ⟨#[]⟩, .slice x.la x.l.length x.lc, .slice a2 x.ks.length c2] 26 (0, 0)) ∧ OwnS wx W5.heap.size (.slice a2 x.ks.length c2) x.ks ∧ (Value.slice a2 x.ks.length c2).ownBlock ≠ some g ∧ Below W5.heap.size W5 wx)
  case first =>
    go_region_held3 (fun w' => (∀ b o, b < W5.heap.size → w'.cell? ⟨b, o, none⟩ = W5.cell? ⟨b, o, none⟩) ∧ Below W5.heap.size W5 w')
      (first
        | (with_reducible exact Q1.out)
        | (with_reducible exact s_alloc hN Q1.out _)
        | (with_reducible exact s_put4 hN Q1.out (by omega))
        | (with_reducible exact s_alloc0 hN _)
        | (with_reducible refine s_alloc hN (by assumption) _)
        | exact ⟨fun _ _ _ => rfl, (Below.refl _ _).drew⟩)
      (first
        | (refine st_copy_str (x := .tmp 51) hN (by assumption) HX5.out.keys (by omega) (by omega) rfl rfl rfl ?_; intro a2 c2 Ws hos hbs; have Q1 := Lib.hid (s_step hN (by assumption) hbs)
           obtain ⟨bs1, bs2⟩ := bcell hbs
           have hss := hbs.size
           try simp only [World.size_drew, World.size_alloc] at hss
           first | (have l1 : W5.heap.size < Ws.heap.size := by omega) | skip))
    all_goals go_wp2_with fail
    all_goals go_meet
    · obtain ⟨u1, u2⟩ := made_cop (g := Ws.heap.size) (Wf := Ws.alloc (.cells #[.int .u8 8, .string ⟨#[]⟩, .slice x.la x.l.length x.lc, .slice a2 x.ks.length c2] 26)) hos (fun q _ hq => heap_alloc_old Ws _ q hq) (by simp) ⟨rfl, rfl, rfl⟩ W5.heap.size (by simp) (.inr (Nat.le_refl _))
      exact ⟨Ws.heap.size, a2, c2, rfl, by simp, by omega, heap_alloc_new Ws _, u1, u2, (s_alloc hN Q1.out _).2⟩
    · have z0 := hbs.size
      simp only [World.size_drew, World.size_alloc] at z0
      have hbk := heap_alloc_new W5 (.cells #[.int .u8 0, .string ⟨#[]⟩, .slice none 0 0, .slice none 0 0] 26)
      obtain ⟨u1, u2⟩ := made_cop (g := W5.heap.size) (Wf := put4 Ws W5.heap.size 0 (.int .u8 8) (.string ⟨#[]⟩) (.slice x.la x.l.length x.lc) (.slice a2 x.ks.length c2)) hos (fun q hq _ => put4_old hq) (by rw [put4_size]; exact Nat.le_refl _) ⟨rfl, rfl, rfl⟩ W5.heap.size (by simp) (.inl (by simp))
      exact ⟨W5.heap.size, a2, c2, rfl, by show _ < (put4 Ws W5.heap.size 0 _ _ _ _).heap.size; rw [put4_size]; omega, Nat.le_refl _, put4_box ((hbs.block W5.heap.size (by simp)).trans hbk), u1, u2, (s_put4 hN Q1.out (Nat.le_refl _)).2⟩
  case rest =>
    obtain ⟨g, a2, c2, rfl, hgl, hgN, hgb, hown, hne, hbc⟩ := hcut
    obtain ⟨W6, hW6⟩ : ∃ W6, W6 = wc := ⟨_, rfl⟩
    subst hW6
    obtain ⟨gl, cc, e, hl1, hl2⟩ : ∃ gl cc, Value.slice a2 x.ks.length c2 = .slice (some ⟨gl, 0, none⟩) x.ks.length cc ∧ W5.heap.size ≤ gl ∧ gl < W6.heap.size := by
      obtain ⟨gl, cc, e, h1, h2⟩ := hown.form (by omega)
      exact ⟨gl, cc, e, h1, h2⟩
    injection e with ea _ ec
    subst ea
    subst ec
    have hgne : gl ≠ g := fun e => hne (by simp [Value.ownBlock, e])
    obtain ⟨m0, m1, m2, m3, -, -, -, -⟩ := vbox4 hgb
    have hcell : W6.cell? ⟨gl, i, none⟩ = some (.string k) := by
      obtain ⟨b, off, e, -, -, g4, g5⟩ := key_at (own_sl (enc := strE) (size := 1) (fun _ => rfl) hown) HK.out
      injection e with e; injection e with e1 e2
      subst e1 e2
      simpa using g5
    have hfz := hown.frozenAt i
    have hil' : (i : Int) < (x.ks.length : Int) := by omega
    have hi0 : (0 : Int) ≤ (i : Int) := by omega
    have HGB := Lib.hid hgb
    have HOWN := Lib.hid hown
    have HBC := Lib.hid hbc
    clear hgb hown hne hbc q0 q1 q2 q3
    go_upto_region 9 with fail
    go_name_world W7 hW7
    have hp7 : W7 = W6.setCell ⟨gl, i, none⟩ (.string s) := hW7.symm
    clear hW7
    have hs7 : W7.heap.size = W6.heap.size := by rw [hp7]; simp
    have hb7 : Below W5.heap.size W5 W7 := by rw [hp7]; exact HBC.out.setCell (p := ⟨gl, i, none⟩) hl1 _
    have hk7 := blk_up hb7 HK1.out
    have hgb7 : W7.heap[g]? = _ := (by rw [hp7]; exact Below.heap_setCell W6 ⟨gl, i, none⟩ _ g (fun e => hgne e.symm) : W7.heap[g]? = W6.heap[g]?).trans HGB.out
    have hx7 := HX5.out.up hb7
    have hput : SlE strE 1 W7 0 W7.heap.size (some ⟨gl, 0, none⟩) (x.ks.set i s) := by
      rw [hp7]
      exact (OwnS.put HOWN.out rfl hil s).widen (Nat.zero_le _) (by simp)
    obtain ⟨x', hx'⟩ : ∃ x', x' = x.named (some ⟨gl, 0, none⟩) c2 i s := ⟨_, rfl⟩
    have hv' : x'.v = x.v.named i s := by rw [hx', named_v]
    have hw' : x'.w ≤ 1048576 := by rw [hx']; have := named_w x (some ⟨gl, 0, none⟩) c2 i s; omega
    have hr' : Rd W7 x' := by rw [hx']; exact ⟨hx7.sl, hput, ⟨by show (0 : Int) ≤ 8; omega, by show (8 : Int) ≤ 255; omega⟩, fun y hy => hx7.kid hy⟩
    have he' : x'.val = .agg #[.int .u8 8, .string ⟨#[]⟩, .slice x.la x.l.length x.lc, .slice (some ⟨gl, 0, none⟩) x.ks.length c2] := by rw [hx']; simp [AV.named]
    have HO := Lib.hid (show Calls Tryd.prog 16 #[x.val, .agg #[.int .u8 8, .string ⟨#[]⟩, .slice x.la x.l.length x.lc, .slice (some ⟨gl, 0, none⟩) x.ks.length c2]] W7 (RensPost (if 2 ≤ y.v.sz then [(k, s)] else []) W7) by
      have h := of_c W7 x x' hx7 hr' hwx hw' (hP.below (below_via HK3.out hb7))
      rw [hv', HLAW.out, he'] at h
      exact h)
    have HSZ := fun W (h : Below W7.heap.size W7 W) => Lib.hid (show Calls Tryd.prog 14 #[y.val] W (Ret (.int .i64 (y.v.sz : Int)) W) by
      have h2 := size_c W y ((hx7.up h).kid HYM.out) (by omega)
      rw [sz_size] at h2
      exact h2)
    obtain ⟨q0, q1, q2, q3, -, -, -, -⟩ := vbox4 hk7
    obtain ⟨m0, m1, m2, m3, -, -, -, -⟩ := vbox4 hgb7
    have hgl7 : g < W7.heap.size := by omega
    have i1 : w.heap.size < W7.heap.size := by have := hb7.size; omega
    have HK7 := Lib.hid hk7
    have HB7 := Lib.hid hb7
    have HX7 := Lib.hid hx7
    clear hk7 hb7 hx7 hgb7 hput hr' hv' hw' he' hx' hcell hfz hp7
    by_cases hz : 2 ≤ y.v.sz
    · rw [if_pos hz] at HO
      have hs2 : decide ((y.v.sz : Int) < 2) = false := by rw [decide_eq_false_iff_not]; omega
      have hs2' : ¬ (y.v.sz : Int) < 2 := by omega
      generalize y.v.sz = sv at *
      go_wp2_with (first
        | (go_at_call 16; (with_reducible refine HO.out.mono ?_); rintro e w8 ⟨A1, c1, rfl, hs8, hb8, -⟩
           clear q0 q1 q2 q3 m0 m1 m2 m3
           obtain ⟨q0, q1, q2, q3, -, -, -, -⟩ := vbox4 (blk_up hb8 HK7.out)
           have i2 : w.heap.size < w8.heap.size := by have := hb8.size; omega
           obtain ⟨bl, ol, hla, -, -, g3, y0, y1, y2, y3⟩ := vals_at (HX7.out.up hb8).sl HYL.out
           have HLA := Lib.hid hla
           have hlen' : (i : Int) < (x.l.length : Int) := by have := HLK.out; omega
           rw [hla] at q2)
        | (go_at_call 14; (with_reducible refine (HSZ _ hb8).out.mono ?_); rintro e W9 ⟨rfl, hb9⟩))
      have J9 := Lib.hid (below_via hb8 hb9)
      obtain ⟨b, off, e, -, -, g4, t0', t1'⟩ := ren_at (k := 0) (y := (k, s)) hs8 rfl
      subst e
      have t0 : W9.cell? ⟨b, off, none⟩ = some (.string k) := (hb9.cell (p := ⟨_, _, none⟩) g4).trans (by simpa using t0')
      have t1 : W9.cell? ⟨b, off + 1, none⟩ = some (.string s) := (hb9.cell (p := ⟨_, _, none⟩) g4).trans (by simpa using t1')
      obtain ⟨bk, ok, hka, -, -, g5, c5⟩ := key_at (HX7.out.up J9.out).keys HK.out
      have HLA2 := Lib.hid hka
      clear q0 q1 q2 q3 y0 y1 y2 y3 t0' t1' hs8
      obtain ⟨q0, q1, q2, q3, -, -, -, -⟩ := vbox4 (blk_up J9.out HK7.out)
      rw [hka] at q3
      have i4 : b < W9.heap.size := by have := hb9.size; omega
      have i5 : w.heap.size < W9.heap.size := by have := hb9.size; omega
      have hlen1 : (([(k, s)] : List (ByteArray × ByteArray)).length : Int) = 1 := rfl
      have e1 : ((([(k, s)] : List (ByteArray × ByteArray)).length : Int) == 1) = true := rfl
      have heq : ∀ W, (binOp .eql 39 (.agg #[.string k, .string s]) (.agg #[.string k, .string s])).run Tryd.prog W = .ok (.bool true) W := fun W => by
        have h := eql_ren W (k, s) (k, s)
        simpa using h
      have hN : W9.heap.size ≤ W9.heap.size := Nat.le_refl _
      have JL := fun W (h : Below W9.heap.size W9 W) => HL W (below_via (below_via (below_via HK3.out HB7.out) J9.out) h)
      clear hka hb8 hb9 HO HSZ i1 i2
      go_region_held3 (fun w' => (∀ b o, b < W9.heap.size → w'.cell? ⟨b, o, none⟩ = W9.cell? ⟨b, o, none⟩) ∧ Below W9.heap.size W9 w')
        (first
          | (with_reducible exact Q1.out)
          | exact ⟨fun _ _ _ => rfl, (Below.refl _ _).drew⟩)
        ((go_at_call 15; refine (JL _ (s_bel (by assumption))).out.mono ?_; rintro e w10 ⟨rfl, hb10⟩; have Q1 := Lib.hid (s_step hN (by assumption) hb10)))
      all_goals go_wp2_with fail
      all_goals go_ret
      all_goals exact ⟨rfl, below_via (below_via (below_via HK3.out HB7.out) J9.out) Q1.out.2⟩
    · rw [if_neg hz] at HO
      have hs2 : decide ((y.v.sz : Int) < 2) = true := by rw [decide_eq_true_iff]; omega
      have hs2' : (y.v.sz : Int) < 2 := by omega
      have e0 : ((([] : List (ByteArray × ByteArray)).length : Int) == 0) = true := rfl
      generalize y.v.sz = sv at *
      go_wp2_with (first
        | (go_at_call 16; (with_reducible refine HO.out.mono ?_); rintro e w8 ⟨A1, c1, rfl, hs8, hb8, -⟩
           clear q0 q1 q2 q3 m0 m1 m2 m3
           obtain ⟨q0, q1, q2, q3, -, -, -, -⟩ := vbox4 (blk_up hb8 HK7.out)
           have i2 : w.heap.size < w8.heap.size := by have := hb8.size; omega
           obtain ⟨bl, ol, hla, -, -, g3, y0, y1, y2, y3⟩ := vals_at (HX7.out.up hb8).sl HYL.out
           have HLA := Lib.hid hla
           have hlen' : (i : Int) < (x.l.length : Int) := by have := HLK.out; omega
           rw [hla] at q2)
        | (go_at_call 14; (with_reducible refine (HSZ _ hb8).out.mono ?_); rintro e W9 ⟨rfl, hb9⟩)
        | (go_at_call 15; refine (HL _ (below_via (below_via HK3.out HB7.out) (below_via hb8 hb9))).out.mono ?_; rintro e w10 ⟨rfl, hb10⟩))
      go_ret
      exact ⟨rfl, below_via (below_via (below_via HK3.out HB7.out) (below_via hb8 hb9)) hb10⟩
end Go.Proofs.YtcpdogjcofkpcaaDoor
