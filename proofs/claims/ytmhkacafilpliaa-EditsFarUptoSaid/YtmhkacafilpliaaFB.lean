/-
  The document's distance of two rows of trees, by what is known: each call answers right, and what is known stays right. Conditions: both postorders lie in memory. (Printed by gen_fb.py.)
-/
import Derived.Test.YtmhkacafilpliaaFA
import Derived.Test.YtmhkacafilpliaaRU
import Derived.Test.YtmhkacafilpliaaEW
namespace Go.Proofs.Ytmhkacafilpliaa
open Go.RowKit Go.Sort Go.Shelf Go.BigFrame

theorem FR136 : List.range 136 = [0, 1, 2, 3, 4, 5, 6, 7, 8, 9, 10, 11, 12, 13, 14, 15, 16, 17, 18, 19, 20, 21, 22, 23, 24, 25, 26, 27, 28, 29, 30, 31, 32, 33, 34, 35, 36, 37, 38, 39, 40, 41, 42, 43, 44, 45, 46, 47, 48, 49, 50, 51, 52, 53, 54, 55, 56, 57, 58, 59, 60, 61, 62, 63, 64, 65, 66, 67, 68, 69, 70, 71, 72, 73, 74, 75, 76, 77, 78, 79, 80, 81, 82, 83, 84, 85, 86, 87, 88, 89, 90, 91, 92, 93, 94, 95, 96, 97, 98, 99, 100, 101, 102, 103, 104, 105, 106, 107, 108, 109, 110, 111, 112, 113, 114, 115, 116, 117, 118, 119, 120, 121, 122, 123, 124, 125, 126, 127, 128, 129, 130, 131, 132, 133, 134, 135] := rfl
theorem old_al {w : World} {k : Nat} (o : Obj) (h : k < w.heap.size) : (w.alloc o).heap[k]? = w.heap[k]? := (below_al (Below.refl w.heap.size w)).block k h
theorem op_put {P : Program} {o : Oper} {a : Act} {K : Act → World → Prop} {Q : Exit → Act → World → Prop} {w w' : World} {m x v : Operand} {t : TypeId} {mv xv vv : Value}
    (ho : o.op = .mapUpdate t m x v) (hm : a.eval m = mv) (hx : a.eval x = xv) (hv : a.eval v = vv) (hrun : (Instr.mapUpdate t mv xv vv).run P w = .ok () w') (h : K (a.put o.dst undef) w') : o.wp P a w K Q := by
  subst hm hx hv
  unfold Oper.wp
  simp [execOp, ho, hrun, Result.andThen]
  exact h
/-- A region that draws its order, read once, over a class of worlds. -/
theorem wp_region_cls {P : Program} {id : Nat} {Q : Exit → Act → World → Prop} {a : Act} {w : World} {l : List Oper} {C : World → Prop} (hm : P.follows .mixedOrders = true) (hB : Region.lexB .any l.toArray = true) (hC : C w.drew)
    (h : wpQuiet P l.toArray C (fun a' => ∀ w', C w' → Q .normal a' w') l a) : (Code.region id l.toArray true).wp P Q a w :=
  wp_region_quiet (C := C) hm hB hC (by simpa using h)
/-- Slots that hold constants. -/
def GCl (ks : List Value) (i : Nat) (_ : Unit) (v : Value) (_ : World) : Prop := match ks[i]? with | some c => v = c | none => True
/-- The worlds behind one: what is known is right, and only that was changed. -/
def Kn (T : Two) (MB : Nat) (V W : World) : Prop := KpM MB (MB + 1) V W ∧ Memo T MB W
/-- Behind a call: the number, and what is known is right. -/
def FarC (T : Two) (MB : Nat) (W : World) (f : Nat) (e : Ending) (w' : World) : Prop := e = .returned (.int .i64 (f : Int)) ∧ KpM MB (MB + 1) W w' ∧ Memo T MB w'
set_option maxRecDepth 100000 in
set_option maxHeartbeats 3200000 in
theorem eqi_rlab (w : World) (c d : Lab) : (Op.equalIn 10000 78 c.val d.val).run Try.prog w = .ok (decide (c = d)) w := by
  rw [lab_dec]
  simp [go_sem]
  repeat' split
  all_goals simp_all
set_option maxRecDepth 100000 in
theorem eql_rlab (w : World) (c d : Lab) : (binOp .eql 78 c.val d.val).run Try.prog w = .ok (.bool (decide (c = d))) w := by
  rw [run_eql_struct, eqi_rlab]; rfl
theorem z_at {w : World} {lo hi : Nat} {a : Option Addr} {l : List Nat} (h : SlE i64Z 1 w lo hi a (intsL l)) {k v : Nat} (hk : l[k]? = some v) :
    ∃ b off, a = some ⟨b, off, none⟩ ∧ lo ≤ b ∧ b < w.heap.size ∧ w.cell? ⟨b, off + k, none⟩ = some (.int .i64 (v : Int)) := by
  have hl : k < l.length := (List.getElem?_eq_some_iff.1 hk).1
  obtain ⟨b, off, e, g1, g2, g4⟩ := rowz h (by omega)
  exact ⟨b, off, e, g1, g2, g4 k v hk⟩
theorem box_ints {w : World} {g : Nat} {a b c d : Value} {t : TypeId} (h : w.heap[g]? = some (.cells #[a, b, c, d] t (0, 0))) : w.cell? ⟨g, 0, none⟩ = some a ∧ w.cell? ⟨g, 1, none⟩ = some b ∧ w.cell? ⟨g, 2, none⟩ = some c ∧ w.cell? ⟨g, 3, none⟩ = some d := vb4 h
/-- A pair of postorders as it lies. -/
structure PairAt (T : Two) (G MB : Nat) (al af ar bl bf br : Option Addr) (ca cf nr cr cb df mr dr : Nat) (LA LB : List Lab) (FA FB : List Nat) (W : World) : Prop where
  box : W.heap[G]? = some (.cells #[.slice al LA.length ca, .slice af FA.length cf, .slice ar nr cr, .slice bl LB.length cb, .slice bf FB.length df, .slice br mr dr, .map (some MB)] 91 (0, 0))
  hG : MB < G
  la : SlE Lab.enc 4 W (MB + 1) W.heap.size al LA
  fa : SlE i64Z 1 W (MB + 1) W.heap.size af (intsL FA)
  lb : SlE Lab.enc 4 W (MB + 1) W.heap.size bl LB
  fb : SlE i64Z 1 W (MB + 1) W.heap.size bf (intsL FB)
  na : T.n = LA.length ∧ T.n = FA.length ∧ T.n ≤ 4096
  nb : T.m = LB.length ∧ T.m = FB.length ∧ T.m ≤ 4096
  ra : ∀ i, i < T.n → LA[i]? = some (T.la i) ∧ FA[i]? = some (T.fa i)
  rb : ∀ i, i < T.m → LB[i]? = some (T.lb i) ∧ FB[i]? = some (T.fb i)
set_option maxRecDepth 100000 in
set_option maxHeartbeats 12800000 in
theorem rfar_c {T : Two} {G MB : Nat} {al af ar bl bf br : Option Addr} {ca cf nr cr cb df mr dr : Nat} {LA LB : List Lab} {FA FB : List Nat} {W0 : World} (hP : PairAt T G MB al af ar bl bf br ca cf nr cr cb df mr dr LA LB FA FB W0) :
    ∀ (n a i b j : Nat), (i - a) + (j - b) ≤ n → OkR T a i b j → ∀ W, KpM MB (MB + 1) W0 W → Memo T MB W → Calls Try.prog 55 #[.pointer (some ⟨G, 0, none⟩), keyV a ((i : Int) - 1) b ((j : Int) - 1)] W (FarC T MB W (T.far a i b j)) := by
  intro n
  induction n using Nat.strongRecOn with
  | _ n ih =>
  intro a i b j hn hr W hW hM
  have hia := hr.hi
  have hin := hr.hn
  have hjb := hr.hj
  have hjm := hr.hm
  have hnA := hP.na.2.2
  have hmB := hP.nb.2.2
  have hkp : ∀ o, KpM MB (MB + 1) W (W.alloc o) := fun o => KpM.of_below (below_al (Below.refl _ _))
  have hme : ∀ o, Memo T MB (W.alloc o) := fun o => hM.keep (old_al _ (by obtain ⟨_, _, hb, _⟩ := hM; exact (Array.getElem?_eq_some_iff.1 hb).1))
  unfold keyV
  by_cases h1 : i = a
  · have e := T.none_a (a := a) (i := i) (b := b) (j := j) (by omega) hjb hjm hr.cb
    obtain ⟨f, hf⟩ : ∃ f, f = T.far a i b j := ⟨_, rfl⟩
    rw [← hf] at e ⊢
    obtain ⟨xi, hxi⟩ : ∃ xi : Int, xi = (i : Int) - 1 := ⟨_, rfl⟩
    obtain ⟨xj, hxj⟩ : ∃ xj : Int, xj = (j : Int) - 1 := ⟨_, rfl⟩
    rw [← hxi, ← hxj]
    have c1 : decide (xi < (a : Int)) = true := decide_eq_true (by omega)
    have w1 : IntKind.i64.wrap (xj - (b : Int)) = xj - (b : Int) := IntWalk.i64_in _ (by omega)
    have w2 : IntKind.i64.wrap (xj - (b : Int) + 1) = (f : Int) := by rw [IntWalk.i64_in _ (by omega)]; omega
    have HKP := Lib.hid hkp
    have HME := Lib.hid hme
    clear ih hn hia hin hjb hjm h1 e hf hxi hxj hkp hme
    go_enter Try.func55, Try.ntmps55
    go_wp2_with fail
    go_ret
    exact ⟨rfl, HKP.out _, HME.out _⟩
  by_cases h2 : j = b
  · have e := T.none_b (a := a) (i := i) (b := b) (j := j) hia (by omega) hin hr.ca
    obtain ⟨f, hf⟩ : ∃ f, f = T.far a i b j := ⟨_, rfl⟩
    rw [← hf] at e ⊢
    obtain ⟨xi, hxi⟩ : ∃ xi : Int, xi = (i : Int) - 1 := ⟨_, rfl⟩
    obtain ⟨xj, hxj⟩ : ∃ xj : Int, xj = (j : Int) - 1 := ⟨_, rfl⟩
    rw [← hxi, ← hxj]
    have c1 : decide (xi < (a : Int)) = false := decide_eq_false (by omega)
    have c2 : decide (xj < (b : Int)) = true := decide_eq_true (by omega)
    have w1 : IntKind.i64.wrap (xi - (a : Int)) = xi - (a : Int) := IntWalk.i64_in _ (by omega)
    have w2 : IntKind.i64.wrap (xi - (a : Int) + 1) = (f : Int) := by rw [IntWalk.i64_in _ (by omega)]; omega
    have HKP := Lib.hid hkp
    have HME := Lib.hid hme
    clear ih hn hia hin hjb hjm h1 h2 e hf hxi hxj hkp hme
    go_enter Try.func55, Try.ntmps55
    go_wp2_with fail
    go_ret
    exact ⟨rfl, HKP.out _, HME.out _⟩
  obtain ⟨v, rfl⟩ : ∃ v, i = v + 1 := ⟨i - 1, by omega⟩
  obtain ⟨u, rfl⟩ : ∃ u, j = u + 1 := ⟨j - 1, by omega⟩
  have hav : a ≤ v := by omega
  have hbu : b ≤ u := by omega
  have hstep := T.step hav hbu hin hjm hr.ca hr.cb
  have hlv := T.ha.le v (by omega)
  have hmu := T.hb.le u (by omega)
  have hla := hr.ca v hav (by omega)
  have hmb := hr.cb u hbu (by omega)
  have hlook := memo_look ⟨hnA, hmB⟩ hM hr
  obtain ⟨rA1, rA2⟩ := hP.ra v (by omega)
  obtain ⟨rB1, rB2⟩ := hP.rb u (by omega)
  have ok1 : OkR T a v b (u + 1) := ⟨hav, by omega, hjb, hjm, hr.ca.less (by omega), hr.cb⟩
  have ok2 : OkR T a (v + 1) b u := ⟨hia, hin, hbu, by omega, hr.ca, hr.cb.less (by omega)⟩
  have ok3 : OkR T (T.fa v) v (T.fb u) u := ⟨hlv, by omega, hmu, by omega, (T.ha.clo (by omega)).less (by omega), (T.hb.clo (by omega)).less (by omega)⟩
  have ok4 : OkR T a (T.fa v) b (T.fb u) := ⟨hla, by omega, hmb, by omega, hr.ca.less (by omega), hr.cb.less (by omega)⟩
  have b1 := T.far_bnd ok1.hi ok1.hj ok1.hn ok1.hm ok1.ca ok1.cb
  have b2 := T.far_bnd ok2.hi ok2.hj ok2.hn ok2.hm ok2.ca ok2.cb
  have b3 := T.far_bnd ok3.hi ok3.hj ok3.hn ok3.hm ok3.ca ok3.cb
  have b4 := T.far_bnd ok4.hi ok4.hj ok4.hn ok4.hm ok4.ca ok4.cb
  have ih1 := ih ((v - a) + (u + 1 - b)) (by omega) a v b (u + 1) (Nat.le_refl _) ok1
  have ih2 := ih ((v + 1 - a) + (u - b)) (by omega) a (v + 1) b u (Nat.le_refl _) ok2
  have ih3 := ih ((v - T.fa v) + (u - T.fb u)) (by omega) (T.fa v) v (T.fb u) u (Nat.le_refl _) ok3
  have ih4 := ih ((T.fa v - a) + (T.fb u - b)) (by omega) a (T.fa v) b (T.fb u) (Nat.le_refl _) ok4
  have hput := fun W (h : Memo T MB W) => memo_put ⟨hnA, hmB⟩ h hr
  unfold keyV at hlook ih1 ih2 ih3 ih4 hput
  obtain ⟨l, hl⟩ : ∃ l, l = T.fa v := ⟨_, rfl⟩
  obtain ⟨m, hm⟩ : ∃ m, m = T.fb u := ⟨_, rfl⟩
  obtain ⟨R, hR⟩ : ∃ R, R = T.far a (v + 1) b (u + 1) := ⟨_, rfl⟩
  obtain ⟨f1, hf1⟩ : ∃ f, f = T.far a v b (u + 1) := ⟨_, rfl⟩
  obtain ⟨f2, hf2⟩ : ∃ f, f = T.far a (v + 1) b u := ⟨_, rfl⟩
  obtain ⟨f3, hf3⟩ : ∃ f, f = T.far (T.fa v) v (T.fb u) u := ⟨_, rfl⟩
  obtain ⟨f4, hf4⟩ : ∃ f, f = T.far a (T.fa v) b (T.fb u) := ⟨_, rfl⟩
  obtain ⟨lx, hlx⟩ : ∃ x, x = T.la v := ⟨_, rfl⟩
  obtain ⟨ly, hly⟩ : ∃ x, x = T.lb u := ⟨_, rfl⟩
  rw [← hR, ← hf1, ← hf2, ← hf3, ← hf4, ← hlx, ← hly] at hstep
  rw [← hR] at hlook hput ⊢
  rw [← hf1] at ih1 b1
  rw [← hf2] at ih2 b2
  rw [← hf3, ← hl, ← hm] at ih3
  rw [← hf4, ← hl, ← hm] at ih4
  rw [← hf3] at b3
  rw [← hf4] at b4
  rw [← hlx] at rA1
  rw [← hly] at rB1
  rw [← hl] at rA2 hla hlv
  rw [← hm] at rB2 hmb hmu
  have ev : ((v + 1 : Nat) : Int) - 1 = (v : Int) := by omega
  have eu : ((u + 1 : Nat) : Int) - 1 = (u : Int) := by omega
  rw [ev, eu] at hlook hput ⊢
  rw [eu] at ih1
  rw [ev] at ih2
  have hlen := hP.na
  have hlen2 := hP.nb
  have hvA : (v : Int) < (LA.length : Int) := by omega
  have hvF : (v : Int) < (FA.length : Int) := by omega
  have huA : (u : Int) < (LB.length : Int) := by omega
  have huF : (u : Int) < (FB.length : Int) := by omega
  have hv0 : (0 : Int) ≤ (v : Int) := by omega
  have hu0 : (0 : Int) ≤ (u : Int) := by omega
  obtain ⟨a1, o1, eal, ga1, -, ha1, c10, c11, c12, c13⟩ := lab_at hP.la rA1
  obtain ⟨a2, o2, ebl, ga2, -, ha2, c20, c21, c22, c23⟩ := lab_at hP.lb rB1
  obtain ⟨a3, o3, eaf, ga3, ha3, c30⟩ := z_at hP.fa rA2
  obtain ⟨a4, o4, ebf, ga4, ha4, c40⟩ := z_at hP.fb rB2
  have hbx := hP.box
  rw [eal, ebl, eaf, ebf] at hbx
  have hGs : G < W0.heap.size := (Array.getElem?_eq_some_iff.1 hbx).1
  have hGM := hP.hG
  have HPB := Lib.hid (show ∀ V, KpM MB (MB + 1) W0 V → V.cell? ⟨G, 0, none⟩ = some (.slice (some ⟨a1, o1, none⟩) LA.length ca) ∧ V.cell? ⟨G, 1, none⟩ = some (.slice (some ⟨a3, o3, none⟩) FA.length cf) ∧ V.cell? ⟨G, 3, none⟩ = some (.slice (some ⟨a2, o2, none⟩) LB.length cb) ∧ V.cell? ⟨G, 4, none⟩ = some (.slice (some ⟨a4, o4, none⟩) FB.length df) from fun V h => by
    refine ⟨?_, ?_, ?_, ?_⟩ <;> (rw [h.cell hGs (.inr (by omega))]; simp [World.cell?, hbx]))
  have HPM := Lib.hid (show ∀ V, KpM MB (MB + 1) W0 V → V.cell? ⟨G, 6, none⟩ = some (.map (some MB)) from fun V h => by rw [h.cell hGs (.inr (by omega))]; simp [World.cell?, hbx])
  have HLB := Lib.hid (show ∀ V, KpM MB (MB + 1) W0 V → (V.cell? ⟨a1, o1 + v * 4, none⟩ = some (.bool lx.kd) ∧ V.cell? ⟨a1, o1 + v * 4 + 1, none⟩ = some (.string lx.key) ∧ V.cell? ⟨a1, o1 + v * 4 + 2, none⟩ = some (.int .u8 lx.k) ∧ V.cell? ⟨a1, o1 + v * 4 + 3, none⟩ = some (.string lx.t)) ∧ (V.cell? ⟨a2, o2 + u * 4, none⟩ = some (.bool ly.kd) ∧ V.cell? ⟨a2, o2 + u * 4 + 1, none⟩ = some (.string ly.key) ∧ V.cell? ⟨a2, o2 + u * 4 + 2, none⟩ = some (.int .u8 ly.k) ∧ V.cell? ⟨a2, o2 + u * 4 + 3, none⟩ = some (.string ly.t)) from fun V h => by
    refine ⟨⟨?_, ?_, ?_, ?_⟩, ?_, ?_, ?_, ?_⟩ <;> (rw [h.cell (by omega) (.inr (by omega))]; assumption))
  have HLF := Lib.hid (show ∀ V, KpM MB (MB + 1) W0 V → V.cell? ⟨a3, o3 + v, none⟩ = some (.int .i64 (l : Int)) ∧ V.cell? ⟨a4, o4 + u, none⟩ = some (.int .i64 (m : Int)) from fun V h => by
    refine ⟨?_, ?_⟩ <;> (rw [h.cell (by omega) (.inr (by omega))]; assumption))
  have hxs : W.heap.size ≠ MB := by obtain ⟨_, _, hb, _⟩ := hM; have := (Array.getElem?_eq_some_iff.1 hb).1; omega
  have hxb : MB < W.heap.size := by obtain ⟨_, _, hb, _⟩ := hM; exact (Array.getElem?_eq_some_iff.1 hb).1
  have hsz : W0.heap.size ≤ W.heap.size := hW.2.2.2.1
  obtain ⟨g1, hg1⟩ : ∃ g, g = min f1 f2 := ⟨_, rfl⟩
  obtain ⟨g2, hg2⟩ : ∃ g, g = g1 + 1 := ⟨_, rfl⟩
  obtain ⟨g3, hg3⟩ : ∃ g, g = f3 + f4 := ⟨_, rfl⟩
  obtain ⟨g4, hg4⟩ : ∃ g, g = g3 + rel lx ly := ⟨_, rfl⟩
  have hrl := rel_le lx ly
  have hRg : R = min g2 g4 := by omega
  have hmn1 : min (f1 : Int) (f2 : Int) = (g1 : Int) := by omega
  have hmn2 : min (g2 : Int) (g4 : Int) = (R : Int) := by omega
  have hw1 : IntKind.i64.wrap ((v : Int) - 1) = (v : Int) - 1 := IntWalk.i64_in _ (by omega)
  have hw2 : IntKind.i64.wrap ((u : Int) - 1) = (u : Int) - 1 := IntWalk.i64_in _ (by omega)
  have hw3 : IntKind.i64.wrap ((g1 : Int) + 1) = (g2 : Int) := by rw [IntWalk.i64_in _ (by omega)]; omega
  have hw4 : IntKind.i64.wrap ((l : Int) - 1) = (l : Int) - 1 := IntWalk.i64_in _ (by omega)
  have hw5 : IntKind.i64.wrap ((m : Int) - 1) = (m : Int) - 1 := IntWalk.i64_in _ (by omega)
  have hs1 : IntKind.i64.wrap ((f3 : Int) + (f4 : Int)) = (g3 : Int) := by rw [IntWalk.i64_in _ (by omega)]; omega
  have HBD := Lib.hid (show g3 ≤ 100000 ∧ g4 ≤ 100001 by omega)
  have HG4 := Lib.hid hg4
  have d1 : decide ((v : Int) < (a : Int)) = false := decide_eq_false (by omega)
  have d1' : decide (v < a) = false := decide_eq_false (by omega)
  have d2 : decide ((u : Int) < (b : Int)) = false := decide_eq_false (by omega)
  have d2' : decide (u < b) = false := decide_eq_false (by omega)
  have heq : ∀ V : World, (binOp .eql 78 (.agg #[.bool lx.kd, .string lx.key, .int .u8 lx.k, .string lx.t]) (.agg #[.bool ly.kd, .string ly.key, .int .u8 ly.k, .string ly.t])).run Try.prog V = .ok (.bool (decide (lx = ly))) V := fun V => eql_rlab V lx ly
  have HLK := Lib.hid hlook
  have HPT := Lib.hid hput
  have HI1 := Lib.hid ih1
  have HI2 := Lib.hid ih2
  have HI3 := Lib.hid ih3
  have HI4 := Lib.hid ih4
  have HW := Lib.hid hW
  have HM := Lib.hid hM
  have HSZ := Lib.hid hsz
  have HKP := Lib.hid hkp
  have HME := Lib.hid hme
  have HEQ := Lib.hid heq
  clear ih hn hr hia hin hjb hjm h1 h2 hP hnA hmB hav hbu hstep hlv hmu hla hmb hlook rA1 rA2 rB1 rB2 ok1 ok2 ok3 ok4 b1 b2 b3 b4 ih1 ih2 ih3 ih4 hput hl hm hR hf1 hf2 hf3 hf4 hlx hly ev eu hlen hlen2 eal ebl eaf ebf ga1 ga2 ga3 ga4 ha1 ha2 ha3 ha4 c10 c11 c12 c13 c20 c21 c22 c23 c30 c40 hbx hGs hGM hxs hsz hg1 hg2 hg3 hg4 hrl hRg hW hM hkp hme heq
  go_enter Try.func55, Try.ntmps55
  go_upto_region 5 with fail
  go_name_world V hV
  obtain ⟨XB, hXB⟩ : ∃ XB, XB = W.heap.size := ⟨_, rfl⟩
  have hVb : Below W.heap.size W V := by rw [← hV]; exact below_al (Below.refl _ _)
  have hbx : V.heap[XB]? = some (.cells #[.int .i64 (a : Int), .int .i64 (v : Int), .int .i64 (b : Int), .int .i64 (u : Int)] 93 (0, 0)) := by rw [← hV, hXB]; exact heap_alloc_new W _
  have HVM := Lib.hid (show V.heap[MB]? = W.heap[MB]? by rw [← hV]; exact old_al _ hxb)
  have HV0 := Lib.hid (show KpM MB (MB + 1) W V from KpM.of_below hVb)
  have HVW := Lib.hid (HW.out.trans HV0.out)
  have hXM : MB < XB := by rw [hXB]; exact hxb
  have hXV : XB < V.heap.size := (Array.getElem?_eq_some_iff.1 hbx).1
  have HMV := Lib.hid (HM.out.keep HVM.out)
  have HXL0 := Lib.hid (show ∀ V', KpM MB (MB + 1) V V' → V'.cell? ⟨XB, 0, none⟩ = some (.int .i64 (a : Int)) ∧ V'.cell? ⟨XB, 1, none⟩ = some (.int .i64 (v : Int)) ∧ V'.cell? ⟨XB, 2, none⟩ = some (.int .i64 (b : Int)) ∧ V'.cell? ⟨XB, 3, none⟩ = some (.int .i64 (u : Int)) from fun V' h => by
    obtain ⟨x0, x1, x2, x3⟩ := box_ints hbx
    exact ⟨(h.cell hXV (.inr (by omega))).trans x0, (h.cell hXV (.inr (by omega))).trans x1, (h.cell hXV (.inr (by omega))).trans x2, (h.cell hXV (.inr (by omega))).trans x3⟩)
  rw [← hXB]
  clear hV hVb hbx hXB hxb hXM hXV d1 d1' d2 d2'
  have pm := HPM.out V HVW.out
  obtain ⟨x0, x1, x2, x3⟩ := HXL0.out V KpM.refl
  rcases HLK.out with hno | hyes
  · have hrun := fun W' (h : Below V.heap.size V W') => hno W' ((h.block MB (by obtain ⟨_, _, hb, _⟩ := HMV.out; exact (Array.getElem?_eq_some_iff.1 hb).1)).trans HVM.out)
    have LD := Lib.hid (fun W' (h : Below V.heap.size V W') => And.intro (blkv h x0) (And.intro (blkv h x1) (And.intro (blkv h x2) (And.intro (blkv h x3) (And.intro (blkv h pm) (hrun W' h))))))
    clear hno hrun
    refine wp_region_bl (by kernel_rfl) (by kernel_rfl) ?_
    repeat (first | go_big_quiet_skip | (go_big_quiet_want; go_big_quiet_op; first | go_big_quiet_on | (refine ⟨_, fun _ _ => (by with_reducible rfl), ?_⟩; go_big_quiet_on) | (apply Exists.intro; refine ⟨fun w' hC => (by simp only [LD.out w' hC, Result.andThen]; exact ⟨trivial, rfl⟩), ?_⟩; go_big_quiet_on)))
    refine wpQuiet_nil ?_; intro wz hbz
    have HKz := Lib.hid (KpM.of_below (a := MB) (b := MB + 1) hbz)
    have HMz := Lib.hid (HMV.out.keep (hbz.block MB (by obtain ⟨_, _, hb, _⟩ := HMV.out; exact (Array.getElem?_eq_some_iff.1 hb).1)))
    obtain ⟨V1, hV1⟩ : ∃ W, W = wz := ⟨_, rfl⟩
    subst hV1
    clear LD x0 x1 x2 x3 pm hbz
    obtain ⟨x0, x1, x2, x3⟩ := HXL0.out V1 HKz.out
    go_upto_region 10 with fail
    have HK1 := Lib.hid (HVW.out.trans HKz.out)
    have hcm : Kn T MB V1 V1.drew := ⟨KpM.of_below (Below.refl _ _).drew, HMz.out.keep rfl⟩
    have HH1 := fun W' (h : Kn T MB V1 W') => Lib.hid (show Calls Try.prog 55 #[.pointer (some ⟨G, 0, none⟩), .agg #[.int .i64 (a : Int), .int .i64 ((v : Int) - 1), .int .i64 (b : Int), .int .i64 (u : Int)]] W' (FarC T MB V1 f1) from (HI1.out W' (HK1.out.trans h.1) h.2).mono fun e w2 h2 => ⟨h2.1, h.1.trans h2.2.1, h2.2.2⟩)
    have HH2 := fun W' (h : Kn T MB V1 W') => Lib.hid (show Calls Try.prog 55 #[.pointer (some ⟨G, 0, none⟩), .agg #[.int .i64 (a : Int), .int .i64 (v : Int), .int .i64 (b : Int), .int .i64 ((u : Int) - 1)]] W' (FarC T MB V1 f2) from (HI2.out W' (HK1.out.trans h.1) h.2).mono fun e w2 h2 => ⟨h2.1, h.1.trans h2.2.1, h2.2.2⟩)
    have LD := Lib.hid (fun W' (h : Kn T MB V1 W') => And.intro (HXL0.out W' (HKz.out.trans h.1)).1 (And.intro (HXL0.out W' (HKz.out.trans h.1)).2.1 (And.intro (HXL0.out W' (HKz.out.trans h.1)).2.2.1 (HXL0.out W' (HKz.out.trans h.1)).2.2.2)))
    clear x0 x1 x2 x3
    refine wp_region_cls (C := Kn T MB V1) (by kernel_rfl) (by kernel_rfl) hcm ?_
    repeat (first | go_big_quiet_skip | (go_big_quiet_want; go_big_quiet_op; first | go_big_quiet_on | (refine ⟨_, fun _ _ => (by with_reducible rfl), ?_⟩; go_big_quiet_on) | (apply Exists.intro; refine ⟨fun w' hC => (by simp only [LD.out w' hC, Result.andThen]; exact ⟨trivial, rfl⟩), ?_⟩; go_big_quiet_on) | (apply Exists.intro; refine ⟨fun w' hC => (by (with_reducible refine (HH1 w' hC).out.mono ?_); exact fun e w2 ⟨he, h1, h2⟩ => ⟨he, h1, h2⟩), ?_⟩; go_big_quiet_on) | (apply Exists.intro; refine ⟨fun w' hC => (by (with_reducible refine (HH2 w' hC).out.mono ?_); exact fun e w2 ⟨he, h1, h2⟩ => ⟨he, h1, h2⟩), ?_⟩; go_big_quiet_on)))
    refine wpQuiet_nil ?_
    intro W2a hz2
    have HK2a := Lib.hid (HK1.out.trans hz2.1)
    have HKa := Lib.hid (HV0.out.trans (HKz.out.trans hz2.1))
    have HM2a := Lib.hid hz2.2
    have HXLa := Lib.hid (fun V' (h : KpM MB (MB + 1) W2a V') => HXL0.out V' (HKz.out.trans (hz2.1.trans h)))
    clear hz2 hcm HH1 HH2 LD
    go_upto_region 12 with fail
    obtain ⟨pa, -, pb, -⟩ := HPB.out W2a HK2a.out
    obtain ⟨⟨k0, k1, k2, k3⟩, m0, m1, m2, m3⟩ := HLB.out W2a HK2a.out
    by_cases e : lx = ly
    · have kq := trivial
      have hrel : rel lx ly = 0 := by rw [e, rel_self]
      have HR := Lib.hid (show g4 = g3 + 0 by have := HG4.out; omega)
      have hqq := HEQ.out
      rw [decide_eq_true e] at hqq
      have LD := Lib.hid (fun V (h : Below W2a.heap.size W2a V) => And.intro (blkv h pa) (And.intro (blkv h pb) (And.intro (blkv h k0) (And.intro (blkv h k1) (And.intro (blkv h k2) (And.intro (blkv h k3) (And.intro (blkv h m0) (And.intro (blkv h m1) (And.intro (blkv h m2) (blkv h m3))))))))))
      clear pa pb k0 k1 k2 k3 m0 m1 m2 m3 e hrel
      refine wp_region_bl (by kernel_rfl) (by kernel_rfl) ?_
      repeat (first | go_big_quiet_skip | (go_big_quiet_want; go_big_quiet_op; first | go_big_quiet_on | (refine ⟨_, fun _ _ => (by with_reducible rfl), ?_⟩; go_big_quiet_on) | (apply Exists.intro; refine ⟨fun w' hC => (by simp only [LD.out w' hC, Result.andThen]; exact ⟨trivial, rfl⟩), ?_⟩; go_big_quiet_on)))
      refine wpQuiet_nil ?_; intro wz hbz
      obtain ⟨W2, hW2⟩ : ∃ W, W = wz := ⟨_, rfl⟩
      subst hW2
      have hkk := KpM.of_below (a := MB) (b := MB + 1) hbz
      have HK2 := Lib.hid (HK2a.out.trans hkk)
      have HK02 := Lib.hid (HKa.out.trans hkk)
      have HM2 := Lib.hid (HM2a.out.keep (hbz.block MB (by obtain ⟨_, _, hb, _⟩ := HM2a.out; exact (Array.getElem?_eq_some_iff.1 hb).1)))
      have HXL := Lib.hid (fun V' (h : KpM MB (MB + 1) W2 V') => HXLa.out V' (hkk.trans h))
      clear LD hqq hbz hkk
      have hs2 : IntKind.i64.wrap ((g3 : Int) + 0) = (g4 : Int) := by rw [IntWalk.i64_in _ (by have := HBD.out; omega)]; have := HR.out; omega
      have hs3 : IntKind.i64.wrap (g3 : Int) = (g4 : Int) := by rw [IntWalk.i64_in _ (by have := HBD.out; omega)]; have := HR.out; omega
      obtain ⟨-, p1, -, p4⟩ := HPB.out W2 HK2.out
      obtain ⟨c30, c40⟩ := HLF.out W2 HK2.out
      go_upto_region 16 with fail
      clear p1 p4 c30 c40
      have hcm : Kn T MB W2 W2.drew := ⟨KpM.of_below (Below.refl _ _).drew, HM2.out.keep rfl⟩
      have HH3 := fun W' (h : Kn T MB W2 W') => Lib.hid (show Calls Try.prog 55 #[.pointer (some ⟨G, 0, none⟩), .agg #[.int .i64 (l : Int), .int .i64 ((v : Int) - 1), .int .i64 (m : Int), .int .i64 ((u : Int) - 1)]] W' (FarC T MB W2 f3) from (HI3.out W' (HK2.out.trans h.1) h.2).mono fun e w2 h2 => ⟨h2.1, h.1.trans h2.2.1, h2.2.2⟩)
      have HH4 := fun W' (h : Kn T MB W2 W') => Lib.hid (show Calls Try.prog 55 #[.pointer (some ⟨G, 0, none⟩), .agg #[.int .i64 (a : Int), .int .i64 ((l : Int) - 1), .int .i64 (b : Int), .int .i64 ((m : Int) - 1)]] W' (FarC T MB W2 f4) from (HI4.out W' (HK2.out.trans h.1) h.2).mono fun e w2 h2 => ⟨h2.1, h.1.trans h2.2.1, h2.2.2⟩)
      have LD := Lib.hid (fun W' (h : Kn T MB W2 W') => And.intro (HXL.out W' h.1).1 (And.intro (HXL.out W' h.1).2.1 (And.intro (HXL.out W' h.1).2.2.1 (HXL.out W' h.1).2.2.2)))
      refine wp_region_cls (C := Kn T MB W2) (by kernel_rfl) (by kernel_rfl) hcm ?_
      repeat (first | go_big_quiet_skip | (go_big_quiet_want; go_big_quiet_op; first | go_big_quiet_on | (refine ⟨_, fun _ _ => (by with_reducible rfl), ?_⟩; go_big_quiet_on) | (apply Exists.intro; refine ⟨fun w' hC => (by simp only [LD.out w' hC, Result.andThen]; exact ⟨trivial, rfl⟩), ?_⟩; go_big_quiet_on) | (apply Exists.intro; refine ⟨fun w' hC => (by (with_reducible refine (HH3 w' hC).out.mono ?_); exact fun e w2 ⟨he, h1, h2⟩ => ⟨he, h1, h2⟩), ?_⟩; go_big_quiet_on) | (apply Exists.intro; refine ⟨fun w' hC => (by (with_reducible refine (HH4 w' hC).out.mono ?_); exact fun e w2 ⟨he, h1, h2⟩ => ⟨he, h1, h2⟩), ?_⟩; go_big_quiet_on)))
      refine wpQuiet_nil ?_
      intro W3 hz3
      have HM3 := Lib.hid hz3.2
      have HK3 := Lib.hid (HK2.out.trans hz3.1)
      have HK03 := Lib.hid (HK02.out.trans hz3.1)
      obtain ⟨x0, x1, x2, x3⟩ := HXL.out W3 hz3.1
      have pm : W3.cell? ⟨G, 6, none⟩ = some (.map (some MB)) := HPM.out W3 HK3.out
      have HPUT := Lib.hid (show ∀ W', Below W3.heap.size W3 W' → ∃ w', (Instr.mapUpdate 89 (.map (some MB)) (.agg #[.int .i64 (a : Int), .int .i64 (v : Int), .int .i64 (b : Int), .int .i64 (u : Int)]) (.int .i64 (R : Int))).run Try.prog W' = .ok () w' ∧ Memo T MB w' ∧ KpM MB (MB + 1) W' w' from fun W' h => HPT.out W' (HM3.out.keep (h.block MB (by obtain ⟨_, _, hb, _⟩ := HM3.out; exact (Array.getElem?_eq_some_iff.1 hb).1))))
      clear hz3 LD HH3 HH4 hcm hs1 hs2 hs3 hmn1 hmn2
      go_upto_region 17 with fail
      go_cut [] (fun wx => Hid (Memo T MB wx ∧ KpM MB (MB + 1) W3 wx))
      case first =>
        rename_i J K' hRJ hMK
        have HRJ := Lib.hid hRJ
        have HMK := Lib.hid hMK
        clear hRJ hMK
        refine wp_region_uses (Γ := Unit) (by kernel_rfl) (S := fun _ W => Below W3.heap.size W3 W) (G := GCl [(.pointer (some ⟨G, 0, none⟩)), (.pointer (some ⟨G, 0, none⟩)), (.pointer (some ⟨G, 6, none⟩)), (.map (some MB)), (.agg #[.int .i64 (a : Int), .int .i64 (v : Int), .int .i64 (b : Int), .int .i64 (u : Int)]), (.int .i64 (R : Int))]) (fun _ _ _ _ _ => True) (fun _ => false) () (by kernel_rfl) (by kernel_rfl) (by kernel_rfl) (by kernel_rfl) (by simp) (fun _ _ _ _ _ _ _ _ _ _ h => h) (Below.refl _ _).drew ?_
        refine ⟨?_, ?_, ?_, ?_, ?_, ?_, ?_⟩
        · intro g ac w F D
          have o0 := get_of (F.at 0 (by kernel_rfl)) (by simp [undef])
          refine ⟨wanted_none rfl, fun K hK => ?_⟩
          have HK := Lib.hid hK
          have FC := Lib.hid F.cls
          clear hK D F
          go_simp
          exact HK.out () _ _ FC.out trivial rfl
        · intro g ac w F D
          have e129 : ac.tmps.getD 129 undef = (.pointer (some ⟨G, 0, none⟩)) := (D ⟨0, .data⟩ (by simp) rfl _ _ rfl rfl)
          replace e129 := get_of e129 (by simp [undef])
          refine ⟨wanted_none rfl, fun K hK => ?_⟩
          have HK := Lib.hid hK
          have FC := Lib.hid F.cls
          clear hK D F
          go_simp
          exact HK.out () _ _ FC.out trivial rfl
        · intro g ac w F D
          have e130 : ac.tmps.getD 130 undef = (.pointer (some ⟨G, 0, none⟩)) := (D ⟨1, .data⟩ (by simp) rfl _ _ rfl rfl)
          replace e130 := get_of e130 (by simp [undef])
          refine ⟨wanted_none rfl, fun K hK => ?_⟩
          have HK := Lib.hid hK
          have FC := Lib.hid F.cls
          clear hK D F
          go_simp
          exact HK.out () _ _ FC.out trivial rfl
        · intro g ac w F D
          have e131 : ac.tmps.getD 131 undef = (.pointer (some ⟨G, 6, none⟩)) := (D ⟨2, .data⟩ (by simp) rfl _ _ rfl rfl)
          replace e131 := get_of e131 (by simp [undef])
          have c6 := blkv F.cls pm
          refine ⟨wanted_none rfl, fun K hK => ?_⟩
          have HK := Lib.hid hK
          have FC := Lib.hid F.cls
          clear hK D F
          go_simp
          exact HK.out () _ _ FC.out trivial rfl
        · intro g ac w F D
          have o3 := get_of (F.at 3 (by kernel_rfl)) (by simp [undef])
          have c0 := blkv F.cls x0
          have c1 := blkv F.cls x1
          have c2 := blkv F.cls x2
          have c3 := blkv F.cls x3
          refine ⟨wanted_none rfl, fun K hK => ?_⟩
          have HK := Lib.hid hK
          have FC := Lib.hid F.cls
          clear hK D F
          go_simp
          exact HK.out () _ _ FC.out trivial rfl
        · intro g ac w F D
          have o5 := get_of (F.at 5 (by kernel_rfl)) (by simp [undef])
          refine ⟨wanted_none rfl, fun K hK => ?_⟩
          have HK := Lib.hid hK
          have FC := Lib.hid F.cls
          clear hK D F
          go_simp
          exact HK.out () _ _ FC.out trivial rfl
        · intro g ac w F D _
          have e132 : ac.tmps.getD 132 undef = .map (some MB) := (D ⟨3, .data⟩ (by simp) rfl _ _ rfl rfl)
          have e133 : ac.tmps.getD 133 undef = (.agg #[.int .i64 (a : Int), .int .i64 (v : Int), .int .i64 (b : Int), .int .i64 (u : Int)]) := (D ⟨4, .data⟩ (by simp) rfl _ _ rfl rfl)
          have e134 : ac.tmps.getD 134 undef = .int .i64 (R : Int) := (D ⟨5, .data⟩ (by simp) rfl _ _ rfl rfl)
          obtain ⟨w', hrun, hme, hkp⟩ := HPUT.out w F.cls
          refine ⟨wanted_none rfl, fun K hK => ?_⟩
          obtain ⟨tm, df⟩ := ac
          refine op_put (m := .tmp 132) (x := .tmp 133) (v := .tmp 134) rfl e132 e133 e134 hrun ?_
          refine hK _ _ (HMK.out _ _ (Met.intro (HRJ.out _ _ ?_)))
          repeat apply Exists.intro
          refine ⟨?rel, ?eq⟩
          case eq =>
            have hdf : df = [] := F.defers
            subst hdf
            refine congrArg (fun t => Act.mk t []) ?_
            refine (arr_lit (n := 136) F.len).trans (congrArg List.toArray ?_)
            simp only [FR136, List.map_cons, List.map_nil]
            refine cons_eq ((F.at 0 (by kernel_rfl)).trans rfl) ?_
            refine cons_eq ((F.at 1 (by kernel_rfl)).trans rfl) ?_
            refine cons_eq ((F.at 2 (by kernel_rfl)).trans rfl) ?_
            refine cons_eq ((F.at 3 (by kernel_rfl)).trans rfl) ?_
            refine cons_eq ((F.at 4 (by kernel_rfl)).trans rfl) ?_
            refine cons_eq ((F.at 5 (by kernel_rfl)).trans rfl) ?_
            refine cons_eq ((F.at 6 (by kernel_rfl)).trans rfl) ?_
            refine cons_eq ((F.at 7 (by kernel_rfl)).trans rfl) ?_
            refine cons_eq ((F.at 8 (by kernel_rfl)).trans rfl) ?_
            refine cons_eq ((F.at 9 (by kernel_rfl)).trans rfl) ?_
            refine cons_eq ((F.at 10 (by kernel_rfl)).trans rfl) ?_
            refine cons_eq ((F.at 11 (by kernel_rfl)).trans rfl) ?_
            refine cons_eq ((F.at 12 (by kernel_rfl)).trans rfl) ?_
            refine cons_eq ((F.at 13 (by kernel_rfl)).trans rfl) ?_
            refine cons_eq ((F.at 14 (by kernel_rfl)).trans rfl) ?_
            refine cons_eq ((F.at 15 (by kernel_rfl)).trans rfl) ?_
            refine cons_eq ((F.at 16 (by kernel_rfl)).trans rfl) ?_
            refine cons_eq ((F.at 17 (by kernel_rfl)).trans rfl) ?_
            refine cons_eq ((F.at 18 (by kernel_rfl)).trans rfl) ?_
            refine cons_eq ((F.at 19 (by kernel_rfl)).trans rfl) ?_
            refine cons_eq ((F.at 20 (by kernel_rfl)).trans rfl) ?_
            refine cons_eq ((F.at 21 (by kernel_rfl)).trans rfl) ?_
            refine cons_eq ((F.at 22 (by kernel_rfl)).trans rfl) ?_
            refine cons_eq ((F.at 23 (by kernel_rfl)).trans rfl) ?_
            refine cons_eq ((F.at 24 (by kernel_rfl)).trans rfl) ?_
            refine cons_eq ((F.at 25 (by kernel_rfl)).trans rfl) ?_
            refine cons_eq ((F.at 26 (by kernel_rfl)).trans rfl) ?_
            refine cons_eq ((F.at 27 (by kernel_rfl)).trans rfl) ?_
            refine cons_eq ((F.at 28 (by kernel_rfl)).trans rfl) ?_
            refine cons_eq ((F.at 29 (by kernel_rfl)).trans rfl) ?_
            refine cons_eq ((F.at 30 (by kernel_rfl)).trans rfl) ?_
            refine cons_eq ((F.at 31 (by kernel_rfl)).trans rfl) ?_
            refine cons_eq ((F.at 32 (by kernel_rfl)).trans rfl) ?_
            refine cons_eq ((F.at 33 (by kernel_rfl)).trans rfl) ?_
            refine cons_eq ((F.at 34 (by kernel_rfl)).trans rfl) ?_
            refine cons_eq ((F.at 35 (by kernel_rfl)).trans rfl) ?_
            refine cons_eq ((F.at 36 (by kernel_rfl)).trans rfl) ?_
            refine cons_eq ((F.at 37 (by kernel_rfl)).trans rfl) ?_
            refine cons_eq ((F.at 38 (by kernel_rfl)).trans rfl) ?_
            refine cons_eq ((F.at 39 (by kernel_rfl)).trans rfl) ?_
            refine cons_eq ((F.at 40 (by kernel_rfl)).trans rfl) ?_
            refine cons_eq ((F.at 41 (by kernel_rfl)).trans rfl) ?_
            refine cons_eq ((F.at 42 (by kernel_rfl)).trans rfl) ?_
            refine cons_eq ((F.at 43 (by kernel_rfl)).trans rfl) ?_
            refine cons_eq ((F.at 44 (by kernel_rfl)).trans rfl) ?_
            refine cons_eq ((F.at 45 (by kernel_rfl)).trans rfl) ?_
            refine cons_eq ((F.at 46 (by kernel_rfl)).trans rfl) ?_
            refine cons_eq ((F.at 47 (by kernel_rfl)).trans rfl) ?_
            refine cons_eq ((F.at 48 (by kernel_rfl)).trans rfl) ?_
            refine cons_eq ((F.at 49 (by kernel_rfl)).trans rfl) ?_
            refine cons_eq ((F.at 50 (by kernel_rfl)).trans rfl) ?_
            refine cons_eq ((F.at 51 (by kernel_rfl)).trans rfl) ?_
            refine cons_eq ((F.at 52 (by kernel_rfl)).trans rfl) ?_
            refine cons_eq ((F.at 53 (by kernel_rfl)).trans rfl) ?_
            refine cons_eq ((F.at 54 (by kernel_rfl)).trans rfl) ?_
            refine cons_eq ((F.at 55 (by kernel_rfl)).trans rfl) ?_
            refine cons_eq ((F.at 56 (by kernel_rfl)).trans rfl) ?_
            refine cons_eq ((F.at 57 (by kernel_rfl)).trans rfl) ?_
            refine cons_eq ((F.at 58 (by kernel_rfl)).trans rfl) ?_
            refine cons_eq ((F.at 59 (by kernel_rfl)).trans rfl) ?_
            refine cons_eq ((F.at 60 (by kernel_rfl)).trans rfl) ?_
            refine cons_eq ((F.at 61 (by kernel_rfl)).trans rfl) ?_
            refine cons_eq ((F.at 62 (by kernel_rfl)).trans rfl) ?_
            refine cons_eq ((F.at 63 (by kernel_rfl)).trans rfl) ?_
            refine cons_eq ((F.at 64 (by kernel_rfl)).trans rfl) ?_
            refine cons_eq ((F.at 65 (by kernel_rfl)).trans rfl) ?_
            refine cons_eq ((F.at 66 (by kernel_rfl)).trans rfl) ?_
            refine cons_eq ((F.at 67 (by kernel_rfl)).trans rfl) ?_
            refine cons_eq ((F.at 68 (by kernel_rfl)).trans rfl) ?_
            refine cons_eq ((F.at 69 (by kernel_rfl)).trans rfl) ?_
            refine cons_eq ((F.at 70 (by kernel_rfl)).trans rfl) ?_
            refine cons_eq ((F.at 71 (by kernel_rfl)).trans rfl) ?_
            refine cons_eq ((F.at 72 (by kernel_rfl)).trans rfl) ?_
            refine cons_eq ((F.at 73 (by kernel_rfl)).trans rfl) ?_
            refine cons_eq ((F.at 74 (by kernel_rfl)).trans rfl) ?_
            refine cons_eq ((F.at 75 (by kernel_rfl)).trans rfl) ?_
            refine cons_eq ((F.at 76 (by kernel_rfl)).trans rfl) ?_
            refine cons_eq ((F.at 77 (by kernel_rfl)).trans rfl) ?_
            refine cons_eq ((F.at 78 (by kernel_rfl)).trans rfl) ?_
            refine cons_eq ((F.at 79 (by kernel_rfl)).trans rfl) ?_
            refine cons_eq ((F.at 80 (by kernel_rfl)).trans rfl) ?_
            refine cons_eq ((F.at 81 (by kernel_rfl)).trans rfl) ?_
            refine cons_eq ((F.at 82 (by kernel_rfl)).trans rfl) ?_
            refine cons_eq ((F.at 83 (by kernel_rfl)).trans rfl) ?_
            refine cons_eq ((F.at 84 (by kernel_rfl)).trans rfl) ?_
            refine cons_eq ((F.at 85 (by kernel_rfl)).trans rfl) ?_
            refine cons_eq ((F.at 86 (by kernel_rfl)).trans rfl) ?_
            refine cons_eq ((F.at 87 (by kernel_rfl)).trans rfl) ?_
            refine cons_eq ((F.at 88 (by kernel_rfl)).trans rfl) ?_
            refine cons_eq ((F.at 89 (by kernel_rfl)).trans rfl) ?_
            refine cons_eq ((F.at 90 (by kernel_rfl)).trans rfl) ?_
            refine cons_eq ((F.at 91 (by kernel_rfl)).trans rfl) ?_
            refine cons_eq ((F.at 92 (by kernel_rfl)).trans rfl) ?_
            refine cons_eq ((F.at 93 (by kernel_rfl)).trans rfl) ?_
            refine cons_eq ((F.at 94 (by kernel_rfl)).trans rfl) ?_
            refine cons_eq ((F.at 95 (by kernel_rfl)).trans rfl) ?_
            refine cons_eq ((F.at 96 (by kernel_rfl)).trans rfl) ?_
            refine cons_eq ((F.at 97 (by kernel_rfl)).trans rfl) ?_
            refine cons_eq ((F.at 98 (by kernel_rfl)).trans rfl) ?_
            refine cons_eq ((F.at 99 (by kernel_rfl)).trans rfl) ?_
            refine cons_eq ((F.at 100 (by kernel_rfl)).trans rfl) ?_
            refine cons_eq ((F.at 101 (by kernel_rfl)).trans rfl) ?_
            refine cons_eq ((F.at 102 (by kernel_rfl)).trans rfl) ?_
            refine cons_eq ((F.at 103 (by kernel_rfl)).trans rfl) ?_
            refine cons_eq ((F.at 104 (by kernel_rfl)).trans rfl) ?_
            refine cons_eq ((F.at 105 (by kernel_rfl)).trans rfl) ?_
            refine cons_eq ((F.at 106 (by kernel_rfl)).trans rfl) ?_
            refine cons_eq ((F.at 107 (by kernel_rfl)).trans rfl) ?_
            refine cons_eq ((F.at 108 (by kernel_rfl)).trans rfl) ?_
            refine cons_eq ((F.at 109 (by kernel_rfl)).trans rfl) ?_
            refine cons_eq ((F.at 110 (by kernel_rfl)).trans rfl) ?_
            refine cons_eq ((F.at 111 (by kernel_rfl)).trans rfl) ?_
            refine cons_eq ((F.at 112 (by kernel_rfl)).trans rfl) ?_
            refine cons_eq ((F.at 113 (by kernel_rfl)).trans rfl) ?_
            refine cons_eq ((F.at 114 (by kernel_rfl)).trans rfl) ?_
            refine cons_eq ((F.at 115 (by kernel_rfl)).trans rfl) ?_
            refine cons_eq ((F.at 116 (by kernel_rfl)).trans rfl) ?_
            refine cons_eq ((F.at 117 (by kernel_rfl)).trans rfl) ?_
            refine cons_eq ((F.at 118 (by kernel_rfl)).trans rfl) ?_
            refine cons_eq ((F.at 119 (by kernel_rfl)).trans rfl) ?_
            refine cons_eq ((F.at 120 (by kernel_rfl)).trans rfl) ?_
            refine cons_eq ((F.at 121 (by kernel_rfl)).trans rfl) ?_
            refine cons_eq ((F.at 122 (by kernel_rfl)).trans rfl) ?_
            refine cons_eq ((F.at 123 (by kernel_rfl)).trans rfl) ?_
            refine cons_eq ((F.at 124 (by kernel_rfl)).trans rfl) ?_
            refine cons_eq ((F.at 125 (by kernel_rfl)).trans rfl) ?_
            refine cons_eq ((F.at 126 (by kernel_rfl)).trans rfl) ?_
            refine cons_eq ((F.at 127 (by kernel_rfl)).trans rfl) ?_
            refine cons_eq ((F.at 128 (by kernel_rfl)).trans rfl) ?_
            refine cons_eq rfl ?_
            refine cons_eq rfl ?_
            refine cons_eq rfl ?_
            refine cons_eq rfl ?_
            refine cons_eq rfl ?_
            refine cons_eq rfl ?_
            refine cons_eq ((F.at 135 (by kernel_rfl)).trans rfl) ?_
            rfl
          case rel => exact Lib.hid ⟨hme, (KpM.of_below F.cls).trans hkp⟩
      case rest =>
        clear x0 x1 x2 x3 pm
        go_wp2_with fail
        go_ret
        exact ⟨rfl, HK03.out.trans hcut.out.2, hcut.out.1⟩
    · have kq := trivial
      have hrel : rel lx ly = 1 := by rw [rel, if_neg e]
      have HR := Lib.hid (show g4 = g3 + 1 by have := HG4.out; omega)
      have hqq := HEQ.out
      rw [decide_eq_false e] at hqq
      have LD := Lib.hid (fun V (h : Below W2a.heap.size W2a V) => And.intro (blkv h pa) (And.intro (blkv h pb) (And.intro (blkv h k0) (And.intro (blkv h k1) (And.intro (blkv h k2) (And.intro (blkv h k3) (And.intro (blkv h m0) (And.intro (blkv h m1) (And.intro (blkv h m2) (blkv h m3))))))))))
      clear pa pb k0 k1 k2 k3 m0 m1 m2 m3 e hrel
      refine wp_region_bl (by kernel_rfl) (by kernel_rfl) ?_
      repeat (first | go_big_quiet_skip | (go_big_quiet_want; go_big_quiet_op; first | go_big_quiet_on | (refine ⟨_, fun _ _ => (by with_reducible rfl), ?_⟩; go_big_quiet_on) | (apply Exists.intro; refine ⟨fun w' hC => (by simp only [LD.out w' hC, Result.andThen]; exact ⟨trivial, rfl⟩), ?_⟩; go_big_quiet_on)))
      refine wpQuiet_nil ?_; intro wz hbz
      obtain ⟨W2, hW2⟩ : ∃ W, W = wz := ⟨_, rfl⟩
      subst hW2
      have hkk := KpM.of_below (a := MB) (b := MB + 1) hbz
      have HK2 := Lib.hid (HK2a.out.trans hkk)
      have HK02 := Lib.hid (HKa.out.trans hkk)
      have HM2 := Lib.hid (HM2a.out.keep (hbz.block MB (by obtain ⟨_, _, hb, _⟩ := HM2a.out; exact (Array.getElem?_eq_some_iff.1 hb).1)))
      have HXL := Lib.hid (fun V' (h : KpM MB (MB + 1) W2 V') => HXLa.out V' (hkk.trans h))
      clear LD hqq hbz hkk
      have hs2 : IntKind.i64.wrap ((g3 : Int) + 1) = (g4 : Int) := by rw [IntWalk.i64_in _ (by have := HBD.out; omega)]; have := HR.out; omega
      obtain ⟨-, p1, -, p4⟩ := HPB.out W2 HK2.out
      obtain ⟨c30, c40⟩ := HLF.out W2 HK2.out
      go_upto_region 16 with fail
      clear p1 p4 c30 c40
      have hcm : Kn T MB W2 W2.drew := ⟨KpM.of_below (Below.refl _ _).drew, HM2.out.keep rfl⟩
      have HH3 := fun W' (h : Kn T MB W2 W') => Lib.hid (show Calls Try.prog 55 #[.pointer (some ⟨G, 0, none⟩), .agg #[.int .i64 (l : Int), .int .i64 ((v : Int) - 1), .int .i64 (m : Int), .int .i64 ((u : Int) - 1)]] W' (FarC T MB W2 f3) from (HI3.out W' (HK2.out.trans h.1) h.2).mono fun e w2 h2 => ⟨h2.1, h.1.trans h2.2.1, h2.2.2⟩)
      have HH4 := fun W' (h : Kn T MB W2 W') => Lib.hid (show Calls Try.prog 55 #[.pointer (some ⟨G, 0, none⟩), .agg #[.int .i64 (a : Int), .int .i64 ((l : Int) - 1), .int .i64 (b : Int), .int .i64 ((m : Int) - 1)]] W' (FarC T MB W2 f4) from (HI4.out W' (HK2.out.trans h.1) h.2).mono fun e w2 h2 => ⟨h2.1, h.1.trans h2.2.1, h2.2.2⟩)
      have LD := Lib.hid (fun W' (h : Kn T MB W2 W') => And.intro (HXL.out W' h.1).1 (And.intro (HXL.out W' h.1).2.1 (And.intro (HXL.out W' h.1).2.2.1 (HXL.out W' h.1).2.2.2)))
      refine wp_region_cls (C := Kn T MB W2) (by kernel_rfl) (by kernel_rfl) hcm ?_
      repeat (first | go_big_quiet_skip | (go_big_quiet_want; go_big_quiet_op; first | go_big_quiet_on | (refine ⟨_, fun _ _ => (by with_reducible rfl), ?_⟩; go_big_quiet_on) | (apply Exists.intro; refine ⟨fun w' hC => (by simp only [LD.out w' hC, Result.andThen]; exact ⟨trivial, rfl⟩), ?_⟩; go_big_quiet_on) | (apply Exists.intro; refine ⟨fun w' hC => (by (with_reducible refine (HH3 w' hC).out.mono ?_); exact fun e w2 ⟨he, h1, h2⟩ => ⟨he, h1, h2⟩), ?_⟩; go_big_quiet_on) | (apply Exists.intro; refine ⟨fun w' hC => (by (with_reducible refine (HH4 w' hC).out.mono ?_); exact fun e w2 ⟨he, h1, h2⟩ => ⟨he, h1, h2⟩), ?_⟩; go_big_quiet_on)))
      refine wpQuiet_nil ?_
      intro W3 hz3
      have HM3 := Lib.hid hz3.2
      have HK3 := Lib.hid (HK2.out.trans hz3.1)
      have HK03 := Lib.hid (HK02.out.trans hz3.1)
      obtain ⟨x0, x1, x2, x3⟩ := HXL.out W3 hz3.1
      have pm : W3.cell? ⟨G, 6, none⟩ = some (.map (some MB)) := HPM.out W3 HK3.out
      have HPUT := Lib.hid (show ∀ W', Below W3.heap.size W3 W' → ∃ w', (Instr.mapUpdate 89 (.map (some MB)) (.agg #[.int .i64 (a : Int), .int .i64 (v : Int), .int .i64 (b : Int), .int .i64 (u : Int)]) (.int .i64 (R : Int))).run Try.prog W' = .ok () w' ∧ Memo T MB w' ∧ KpM MB (MB + 1) W' w' from fun W' h => HPT.out W' (HM3.out.keep (h.block MB (by obtain ⟨_, _, hb, _⟩ := HM3.out; exact (Array.getElem?_eq_some_iff.1 hb).1))))
      clear hz3 LD HH3 HH4 hcm hs1 hs2 hmn1 hmn2
      go_upto_region 17 with fail
      go_cut [] (fun wx => Hid (Memo T MB wx ∧ KpM MB (MB + 1) W3 wx))
      case first =>
        rename_i J K' hRJ hMK
        have HRJ := Lib.hid hRJ
        have HMK := Lib.hid hMK
        clear hRJ hMK
        refine wp_region_uses (Γ := Unit) (by kernel_rfl) (S := fun _ W => Below W3.heap.size W3 W) (G := GCl [(.pointer (some ⟨G, 0, none⟩)), (.pointer (some ⟨G, 0, none⟩)), (.pointer (some ⟨G, 6, none⟩)), (.map (some MB)), (.agg #[.int .i64 (a : Int), .int .i64 (v : Int), .int .i64 (b : Int), .int .i64 (u : Int)]), (.int .i64 (R : Int))]) (fun _ _ _ _ _ => True) (fun _ => false) () (by kernel_rfl) (by kernel_rfl) (by kernel_rfl) (by kernel_rfl) (by simp) (fun _ _ _ _ _ _ _ _ _ _ h => h) (Below.refl _ _).drew ?_
        refine ⟨?_, ?_, ?_, ?_, ?_, ?_, ?_⟩
        · intro g ac w F D
          have o0 := get_of (F.at 0 (by kernel_rfl)) (by simp [undef])
          refine ⟨wanted_none rfl, fun K hK => ?_⟩
          have HK := Lib.hid hK
          have FC := Lib.hid F.cls
          clear hK D F
          go_simp
          exact HK.out () _ _ FC.out trivial rfl
        · intro g ac w F D
          have e129 : ac.tmps.getD 129 undef = (.pointer (some ⟨G, 0, none⟩)) := (D ⟨0, .data⟩ (by simp) rfl _ _ rfl rfl)
          replace e129 := get_of e129 (by simp [undef])
          refine ⟨wanted_none rfl, fun K hK => ?_⟩
          have HK := Lib.hid hK
          have FC := Lib.hid F.cls
          clear hK D F
          go_simp
          exact HK.out () _ _ FC.out trivial rfl
        · intro g ac w F D
          have e130 : ac.tmps.getD 130 undef = (.pointer (some ⟨G, 0, none⟩)) := (D ⟨1, .data⟩ (by simp) rfl _ _ rfl rfl)
          replace e130 := get_of e130 (by simp [undef])
          refine ⟨wanted_none rfl, fun K hK => ?_⟩
          have HK := Lib.hid hK
          have FC := Lib.hid F.cls
          clear hK D F
          go_simp
          exact HK.out () _ _ FC.out trivial rfl
        · intro g ac w F D
          have e131 : ac.tmps.getD 131 undef = (.pointer (some ⟨G, 6, none⟩)) := (D ⟨2, .data⟩ (by simp) rfl _ _ rfl rfl)
          replace e131 := get_of e131 (by simp [undef])
          have c6 := blkv F.cls pm
          refine ⟨wanted_none rfl, fun K hK => ?_⟩
          have HK := Lib.hid hK
          have FC := Lib.hid F.cls
          clear hK D F
          go_simp
          exact HK.out () _ _ FC.out trivial rfl
        · intro g ac w F D
          have o3 := get_of (F.at 3 (by kernel_rfl)) (by simp [undef])
          have c0 := blkv F.cls x0
          have c1 := blkv F.cls x1
          have c2 := blkv F.cls x2
          have c3 := blkv F.cls x3
          refine ⟨wanted_none rfl, fun K hK => ?_⟩
          have HK := Lib.hid hK
          have FC := Lib.hid F.cls
          clear hK D F
          go_simp
          exact HK.out () _ _ FC.out trivial rfl
        · intro g ac w F D
          have o5 := get_of (F.at 5 (by kernel_rfl)) (by simp [undef])
          refine ⟨wanted_none rfl, fun K hK => ?_⟩
          have HK := Lib.hid hK
          have FC := Lib.hid F.cls
          clear hK D F
          go_simp
          exact HK.out () _ _ FC.out trivial rfl
        · intro g ac w F D _
          have e132 : ac.tmps.getD 132 undef = .map (some MB) := (D ⟨3, .data⟩ (by simp) rfl _ _ rfl rfl)
          have e133 : ac.tmps.getD 133 undef = (.agg #[.int .i64 (a : Int), .int .i64 (v : Int), .int .i64 (b : Int), .int .i64 (u : Int)]) := (D ⟨4, .data⟩ (by simp) rfl _ _ rfl rfl)
          have e134 : ac.tmps.getD 134 undef = .int .i64 (R : Int) := (D ⟨5, .data⟩ (by simp) rfl _ _ rfl rfl)
          obtain ⟨w', hrun, hme, hkp⟩ := HPUT.out w F.cls
          refine ⟨wanted_none rfl, fun K hK => ?_⟩
          obtain ⟨tm, df⟩ := ac
          refine op_put (m := .tmp 132) (x := .tmp 133) (v := .tmp 134) rfl e132 e133 e134 hrun ?_
          refine hK _ _ (HMK.out _ _ (Met.intro (HRJ.out _ _ ?_)))
          repeat apply Exists.intro
          refine ⟨?rel, ?eq⟩
          case eq =>
            have hdf : df = [] := F.defers
            subst hdf
            refine congrArg (fun t => Act.mk t []) ?_
            refine (arr_lit (n := 136) F.len).trans (congrArg List.toArray ?_)
            simp only [FR136, List.map_cons, List.map_nil]
            refine cons_eq ((F.at 0 (by kernel_rfl)).trans rfl) ?_
            refine cons_eq ((F.at 1 (by kernel_rfl)).trans rfl) ?_
            refine cons_eq ((F.at 2 (by kernel_rfl)).trans rfl) ?_
            refine cons_eq ((F.at 3 (by kernel_rfl)).trans rfl) ?_
            refine cons_eq ((F.at 4 (by kernel_rfl)).trans rfl) ?_
            refine cons_eq ((F.at 5 (by kernel_rfl)).trans rfl) ?_
            refine cons_eq ((F.at 6 (by kernel_rfl)).trans rfl) ?_
            refine cons_eq ((F.at 7 (by kernel_rfl)).trans rfl) ?_
            refine cons_eq ((F.at 8 (by kernel_rfl)).trans rfl) ?_
            refine cons_eq ((F.at 9 (by kernel_rfl)).trans rfl) ?_
            refine cons_eq ((F.at 10 (by kernel_rfl)).trans rfl) ?_
            refine cons_eq ((F.at 11 (by kernel_rfl)).trans rfl) ?_
            refine cons_eq ((F.at 12 (by kernel_rfl)).trans rfl) ?_
            refine cons_eq ((F.at 13 (by kernel_rfl)).trans rfl) ?_
            refine cons_eq ((F.at 14 (by kernel_rfl)).trans rfl) ?_
            refine cons_eq ((F.at 15 (by kernel_rfl)).trans rfl) ?_
            refine cons_eq ((F.at 16 (by kernel_rfl)).trans rfl) ?_
            refine cons_eq ((F.at 17 (by kernel_rfl)).trans rfl) ?_
            refine cons_eq ((F.at 18 (by kernel_rfl)).trans rfl) ?_
            refine cons_eq ((F.at 19 (by kernel_rfl)).trans rfl) ?_
            refine cons_eq ((F.at 20 (by kernel_rfl)).trans rfl) ?_
            refine cons_eq ((F.at 21 (by kernel_rfl)).trans rfl) ?_
            refine cons_eq ((F.at 22 (by kernel_rfl)).trans rfl) ?_
            refine cons_eq ((F.at 23 (by kernel_rfl)).trans rfl) ?_
            refine cons_eq ((F.at 24 (by kernel_rfl)).trans rfl) ?_
            refine cons_eq ((F.at 25 (by kernel_rfl)).trans rfl) ?_
            refine cons_eq ((F.at 26 (by kernel_rfl)).trans rfl) ?_
            refine cons_eq ((F.at 27 (by kernel_rfl)).trans rfl) ?_
            refine cons_eq ((F.at 28 (by kernel_rfl)).trans rfl) ?_
            refine cons_eq ((F.at 29 (by kernel_rfl)).trans rfl) ?_
            refine cons_eq ((F.at 30 (by kernel_rfl)).trans rfl) ?_
            refine cons_eq ((F.at 31 (by kernel_rfl)).trans rfl) ?_
            refine cons_eq ((F.at 32 (by kernel_rfl)).trans rfl) ?_
            refine cons_eq ((F.at 33 (by kernel_rfl)).trans rfl) ?_
            refine cons_eq ((F.at 34 (by kernel_rfl)).trans rfl) ?_
            refine cons_eq ((F.at 35 (by kernel_rfl)).trans rfl) ?_
            refine cons_eq ((F.at 36 (by kernel_rfl)).trans rfl) ?_
            refine cons_eq ((F.at 37 (by kernel_rfl)).trans rfl) ?_
            refine cons_eq ((F.at 38 (by kernel_rfl)).trans rfl) ?_
            refine cons_eq ((F.at 39 (by kernel_rfl)).trans rfl) ?_
            refine cons_eq ((F.at 40 (by kernel_rfl)).trans rfl) ?_
            refine cons_eq ((F.at 41 (by kernel_rfl)).trans rfl) ?_
            refine cons_eq ((F.at 42 (by kernel_rfl)).trans rfl) ?_
            refine cons_eq ((F.at 43 (by kernel_rfl)).trans rfl) ?_
            refine cons_eq ((F.at 44 (by kernel_rfl)).trans rfl) ?_
            refine cons_eq ((F.at 45 (by kernel_rfl)).trans rfl) ?_
            refine cons_eq ((F.at 46 (by kernel_rfl)).trans rfl) ?_
            refine cons_eq ((F.at 47 (by kernel_rfl)).trans rfl) ?_
            refine cons_eq ((F.at 48 (by kernel_rfl)).trans rfl) ?_
            refine cons_eq ((F.at 49 (by kernel_rfl)).trans rfl) ?_
            refine cons_eq ((F.at 50 (by kernel_rfl)).trans rfl) ?_
            refine cons_eq ((F.at 51 (by kernel_rfl)).trans rfl) ?_
            refine cons_eq ((F.at 52 (by kernel_rfl)).trans rfl) ?_
            refine cons_eq ((F.at 53 (by kernel_rfl)).trans rfl) ?_
            refine cons_eq ((F.at 54 (by kernel_rfl)).trans rfl) ?_
            refine cons_eq ((F.at 55 (by kernel_rfl)).trans rfl) ?_
            refine cons_eq ((F.at 56 (by kernel_rfl)).trans rfl) ?_
            refine cons_eq ((F.at 57 (by kernel_rfl)).trans rfl) ?_
            refine cons_eq ((F.at 58 (by kernel_rfl)).trans rfl) ?_
            refine cons_eq ((F.at 59 (by kernel_rfl)).trans rfl) ?_
            refine cons_eq ((F.at 60 (by kernel_rfl)).trans rfl) ?_
            refine cons_eq ((F.at 61 (by kernel_rfl)).trans rfl) ?_
            refine cons_eq ((F.at 62 (by kernel_rfl)).trans rfl) ?_
            refine cons_eq ((F.at 63 (by kernel_rfl)).trans rfl) ?_
            refine cons_eq ((F.at 64 (by kernel_rfl)).trans rfl) ?_
            refine cons_eq ((F.at 65 (by kernel_rfl)).trans rfl) ?_
            refine cons_eq ((F.at 66 (by kernel_rfl)).trans rfl) ?_
            refine cons_eq ((F.at 67 (by kernel_rfl)).trans rfl) ?_
            refine cons_eq ((F.at 68 (by kernel_rfl)).trans rfl) ?_
            refine cons_eq ((F.at 69 (by kernel_rfl)).trans rfl) ?_
            refine cons_eq ((F.at 70 (by kernel_rfl)).trans rfl) ?_
            refine cons_eq ((F.at 71 (by kernel_rfl)).trans rfl) ?_
            refine cons_eq ((F.at 72 (by kernel_rfl)).trans rfl) ?_
            refine cons_eq ((F.at 73 (by kernel_rfl)).trans rfl) ?_
            refine cons_eq ((F.at 74 (by kernel_rfl)).trans rfl) ?_
            refine cons_eq ((F.at 75 (by kernel_rfl)).trans rfl) ?_
            refine cons_eq ((F.at 76 (by kernel_rfl)).trans rfl) ?_
            refine cons_eq ((F.at 77 (by kernel_rfl)).trans rfl) ?_
            refine cons_eq ((F.at 78 (by kernel_rfl)).trans rfl) ?_
            refine cons_eq ((F.at 79 (by kernel_rfl)).trans rfl) ?_
            refine cons_eq ((F.at 80 (by kernel_rfl)).trans rfl) ?_
            refine cons_eq ((F.at 81 (by kernel_rfl)).trans rfl) ?_
            refine cons_eq ((F.at 82 (by kernel_rfl)).trans rfl) ?_
            refine cons_eq ((F.at 83 (by kernel_rfl)).trans rfl) ?_
            refine cons_eq ((F.at 84 (by kernel_rfl)).trans rfl) ?_
            refine cons_eq ((F.at 85 (by kernel_rfl)).trans rfl) ?_
            refine cons_eq ((F.at 86 (by kernel_rfl)).trans rfl) ?_
            refine cons_eq ((F.at 87 (by kernel_rfl)).trans rfl) ?_
            refine cons_eq ((F.at 88 (by kernel_rfl)).trans rfl) ?_
            refine cons_eq ((F.at 89 (by kernel_rfl)).trans rfl) ?_
            refine cons_eq ((F.at 90 (by kernel_rfl)).trans rfl) ?_
            refine cons_eq ((F.at 91 (by kernel_rfl)).trans rfl) ?_
            refine cons_eq ((F.at 92 (by kernel_rfl)).trans rfl) ?_
            refine cons_eq ((F.at 93 (by kernel_rfl)).trans rfl) ?_
            refine cons_eq ((F.at 94 (by kernel_rfl)).trans rfl) ?_
            refine cons_eq ((F.at 95 (by kernel_rfl)).trans rfl) ?_
            refine cons_eq ((F.at 96 (by kernel_rfl)).trans rfl) ?_
            refine cons_eq ((F.at 97 (by kernel_rfl)).trans rfl) ?_
            refine cons_eq ((F.at 98 (by kernel_rfl)).trans rfl) ?_
            refine cons_eq ((F.at 99 (by kernel_rfl)).trans rfl) ?_
            refine cons_eq ((F.at 100 (by kernel_rfl)).trans rfl) ?_
            refine cons_eq ((F.at 101 (by kernel_rfl)).trans rfl) ?_
            refine cons_eq ((F.at 102 (by kernel_rfl)).trans rfl) ?_
            refine cons_eq ((F.at 103 (by kernel_rfl)).trans rfl) ?_
            refine cons_eq ((F.at 104 (by kernel_rfl)).trans rfl) ?_
            refine cons_eq ((F.at 105 (by kernel_rfl)).trans rfl) ?_
            refine cons_eq ((F.at 106 (by kernel_rfl)).trans rfl) ?_
            refine cons_eq ((F.at 107 (by kernel_rfl)).trans rfl) ?_
            refine cons_eq ((F.at 108 (by kernel_rfl)).trans rfl) ?_
            refine cons_eq ((F.at 109 (by kernel_rfl)).trans rfl) ?_
            refine cons_eq ((F.at 110 (by kernel_rfl)).trans rfl) ?_
            refine cons_eq ((F.at 111 (by kernel_rfl)).trans rfl) ?_
            refine cons_eq ((F.at 112 (by kernel_rfl)).trans rfl) ?_
            refine cons_eq ((F.at 113 (by kernel_rfl)).trans rfl) ?_
            refine cons_eq ((F.at 114 (by kernel_rfl)).trans rfl) ?_
            refine cons_eq ((F.at 115 (by kernel_rfl)).trans rfl) ?_
            refine cons_eq ((F.at 116 (by kernel_rfl)).trans rfl) ?_
            refine cons_eq ((F.at 117 (by kernel_rfl)).trans rfl) ?_
            refine cons_eq ((F.at 118 (by kernel_rfl)).trans rfl) ?_
            refine cons_eq ((F.at 119 (by kernel_rfl)).trans rfl) ?_
            refine cons_eq ((F.at 120 (by kernel_rfl)).trans rfl) ?_
            refine cons_eq ((F.at 121 (by kernel_rfl)).trans rfl) ?_
            refine cons_eq ((F.at 122 (by kernel_rfl)).trans rfl) ?_
            refine cons_eq ((F.at 123 (by kernel_rfl)).trans rfl) ?_
            refine cons_eq ((F.at 124 (by kernel_rfl)).trans rfl) ?_
            refine cons_eq ((F.at 125 (by kernel_rfl)).trans rfl) ?_
            refine cons_eq ((F.at 126 (by kernel_rfl)).trans rfl) ?_
            refine cons_eq ((F.at 127 (by kernel_rfl)).trans rfl) ?_
            refine cons_eq ((F.at 128 (by kernel_rfl)).trans rfl) ?_
            refine cons_eq rfl ?_
            refine cons_eq rfl ?_
            refine cons_eq rfl ?_
            refine cons_eq rfl ?_
            refine cons_eq rfl ?_
            refine cons_eq rfl ?_
            refine cons_eq ((F.at 135 (by kernel_rfl)).trans rfl) ?_
            rfl
          case rel => exact Lib.hid ⟨hme, (KpM.of_below F.cls).trans hkp⟩
      case rest =>
        clear x0 x1 x2 x3 pm
        go_wp2_with fail
        go_ret
        exact ⟨rfl, HK03.out.trans hcut.out.2, hcut.out.1⟩
  · have hrun := fun W' (h : Below V.heap.size V W') => hyes W' ((h.block MB (by obtain ⟨_, _, hb, _⟩ := HMV.out; exact (Array.getElem?_eq_some_iff.1 hb).1)).trans HVM.out)
    have LD := Lib.hid (fun W' (h : Below V.heap.size V W') => And.intro (blkv h x0) (And.intro (blkv h x1) (And.intro (blkv h x2) (And.intro (blkv h x3) (And.intro (blkv h pm) (hrun W' h))))))
    clear hyes hrun
    refine wp_region_bl (by kernel_rfl) (by kernel_rfl) ?_
    repeat (first | go_big_quiet_skip | (go_big_quiet_want; go_big_quiet_op; first | go_big_quiet_on | (refine ⟨_, fun _ _ => (by with_reducible rfl), ?_⟩; go_big_quiet_on) | (apply Exists.intro; refine ⟨fun w' hC => (by simp only [LD.out w' hC, Result.andThen]; exact ⟨trivial, rfl⟩), ?_⟩; go_big_quiet_on)))
    refine wpQuiet_nil ?_; intro wz hbz
    go_wp2_with fail
    go_ret
    exact ⟨rfl, HV0.out.trans (KpM.of_below hbz), HMV.out.keep (hbz.block MB (by obtain ⟨_, _, hb, _⟩ := HMV.out; exact (Array.getElem?_eq_some_iff.1 hb).1))⟩
end Go.Proofs.Ytmhkacafilpliaa
