/-
  Two lists of numbers compared. Conditions: they lie in memory; one of them has at most 2^62 numbers.
  Two postorders compared. Conditions: they lie in memory, of at most 2^21 nodes.
  The law's example of chapter 19: small, its postorder, lives. No condition.
-/
import Derived.Test.YtmhkacafilpliaaJN
import Derived.BigQuiet
import Derived.Test.YtmhkacafilpliaaV9
namespace Go.Proofs.Ytmhkacafilpliaa
open Go.RowKit Go.Sort Go.Shelf

theorem nat_int (l : List Nat) {w : World} {lo hi : Nat} {a : Option Addr} (h : SlE natE 1 w lo hi a l) : SlE i64Z 1 w lo hi a (l.map fun n : Nat => (n : Int)) := fun hl => by
  rw [List.length_map] at hl
  obtain ⟨b, off, e, g1, g2, g3, g4⟩ := h hl
  refine ⟨b, off, e, g1, g2, g3, fun i x hx k u hk => ?_⟩
  rw [List.getElem?_map] at hx
  cases hli : l[i]? with
  | none => rw [hli] at hx; cases hx
  | some n =>
    rw [hli] at hx
    simp only [Option.map_some, Option.some.injEq] at hx
    subst hx
    exact g4 i n hli k u hk
theorem nat_cast_inj {l l' : List Nat} : (l.map fun n : Nat => (n : Int)) = (l'.map fun n : Nat => (n : Int)) ↔ l = l' := by
  constructor
  · intro h
    refine List.map_inj_right (f := fun n : Nat => (n : Int)) (fun a b h => ?_) |>.1 h
    exact Int.ofNat_inj.1 h
  · rintro rfl; rfl
theorem take_eq {α : Type} {l l' : List α} (hl : l.length = l'.length) (h : ∀ j, j < l.length → l[j]? = l'[j]?) : l = l' := by
  apply List.ext_getElem?
  intro j
  rcases Nat.lt_or_ge j l.length with hj | hj
  · exact h j hj
  · rw [List.getElem?_eq_none hj, List.getElem?_eq_none (by omega)]
set_option maxRecDepth 100000 in
set_option maxHeartbeats 3200000 in
theorem samenums_c (w : World) (a b : Option Addr) (ca cb : Nat) (l l' : List Int) (h : SlE i64Z 1 w 0 w.heap.size a l) (h' : SlE i64Z 1 w 0 w.heap.size b l') (hn : l.length ≤ 4611686018427387904) :
    Calls Try.prog 38 #[.slice a l.length ca, .slice b l'.length cb] w (Ret (.bool (decide (l = l'))) w) := by
  by_cases hl : l.length = l'.length
  · have hne : ((l.length : Int) != (l'.length : Int)) = false := by simp [hl]
    have HL := Lib.hid hl
    clear hl
    go_enter Try.func38, Try.ntmps38
    go_wp2_with fail
    go_loopw [5] (fun s5 wr => ∃ i : Nat, i ≤ l.length ∧ s5 = .int .i64 i ∧ Hid (∀ j, j < i → l[j]? = l'[j]?) ∧ Hid (Below w.heap.size w wr)) (fun s5 _ => l.length - (intOf s5).toNat)
    case atStart => exact ⟨0, Nat.zero_le _, rfl, Lib.hid (fun j h => by omega), Lib.hid (Below.refl _ _)⟩
    case round =>
      obtain ⟨i, hi, rfl, HE, HB⟩ := hrel
      by_cases hlt : i < l.length
      · have hL := HL.out
        have h1 : l[i]? = some l[i] := List.getElem?_eq_getElem hlt
        have h2 : l'[i]? = some l'[i] := List.getElem?_eq_getElem (by omega)
        have hlt1 : (i : Int) < (l.length : Int) := by omega
        have hlt2 : (i : Int) < (l'.length : Int) := by omega
        generalize l[i] = x at h1
        generalize l'[i] = y at h2
        obtain ⟨b1, o1, ea, -, -, hb1, hc1⟩ := int_at h h1
        obtain ⟨b2, o2, eb, -, -, hb2, hc2⟩ := int_at h' h2
        rw [← HB.out.cell (p := ⟨_, _, none⟩) hb1] at hc1
        rw [← HB.out.cell (p := ⟨_, _, none⟩) hb2] at hc2
        have hs1 : b1 < wr.heap.size := Nat.lt_of_lt_of_le hb1 HB.out.size
        have hs2 : b2 < wr.heap.size := Nat.lt_of_lt_of_le hb2 HB.out.size
        have HX := Lib.hid (And.intro h1 h2)
        have HEA := Lib.hid (And.intro ea eb)
        rw [ea, eb]
        clear h1 h2 hL ea eb h h'
        by_cases e : x = y
        · have hd : (x != y) = false := by simp [e]
          have HE2 := Lib.hid e
          clear e
          go_wp2_with fail
          go_quiet (fail)
          go_wp2_with fail
          refine ⟨⟨i + 1, by omega, by go_num, Lib.hid fun j hj => ?_, Lib.hid (by (repeat' first | exact HB.out | refine Below.drew ?_ | refine below_drewN ?_ _))⟩, by simp [intOf]; omega⟩
          rcases Nat.lt_or_ge j i with hh | hh
          · exact HE.out j hh
          · obtain rfl : j = i := by omega
            rw [HX.out.1, HX.out.2, HE2.out]
        · have hd : (x != y) = true := by simp [e]
          have hf : l ≠ l' := fun hh => e (by have := HX.out.1; rw [hh, HX.out.2] at this; injection this with this; exact this.symm)
          have HF := Lib.hid hf
          clear e hf
          go_wp2_with fail
          go_quiet (fail)
          go_wp2_with fail
          go_ret
          exact ⟨by rw [decide_eq_false HF.out]; rfl, by (repeat' first | exact HB.out | refine Below.drew ?_ | refine below_drewN ?_ _)⟩
      · obtain rfl : i = l.length := by omega
        go_wp2_with fail
        go_ret
        exact ⟨by rw [decide_eq_true (take_eq HL.out HE.out)]; rfl, HB.out⟩
  · have hne : ((l.length : Int) != (l'.length : Int)) = true := by simp; omega
    have hf : l ≠ l' := fun hh => hl (by rw [hh])
    have HF := Lib.hid hf
    clear hl hf h h'
    go_enter Try.func38, Try.ntmps38
    go_wp2_with fail
    go_ret
    exact ⟨by rw [decide_eq_false HF.out]; rfl, Below.refl _ _⟩
end Go.Proofs.Ytmhkacafilpliaa

namespace Go.Proofs.Ytmhkacafilpliaa
open Go.RowKit Go.Sort Go.Shelf

abbrev Lab.val (l : Lab) : Value := .agg #[.bool l.kd, .string l.key, .int .u8 l.k, .string l.t]
theorem bytes_list {x y : ByteArray} : x.toList = y.toList ↔ x = y := by
  constructor
  · intro h
    rw [ByteArray.toList_eq, ByteArray.toList_eq] at h
    exact ByteArray.ext (Array.toList_inj.1 h)
  · rintro rfl; rfl
theorem lab_dec (c d : Lab) : decide (c = d) = decide (c.kd = d.kd ∧ c.key.toList = d.key.toList ∧ c.k = d.k ∧ c.t.toList = d.t.toList) := by
  obtain ⟨c1, c2, c3, c4⟩ := c
  obtain ⟨d1, d2, d3, d4⟩ := d
  simp only [Lab.mk.injEq, bytes_list]
set_option maxRecDepth 100000 in
set_option maxHeartbeats 3200000 in
theorem eqi_lab (w : World) (c d : Lab) : (Op.equalIn 10000 46 c.val d.val).run Try.prog w = .ok (decide (c = d)) w := by
  rw [lab_dec]
  simp [go_sem]
  repeat' split
  all_goals simp_all
theorem neq_lab (w : World) (c d : Lab) : (binOp .neq 46 c.val d.val).run Try.prog w = .ok (.bool (!decide (c = d))) w := by
  rw [run_neq_struct, eqi_lab]; rfl
theorem eql_lab (w : World) (c d : Lab) : (binOp .eql 46 c.val d.val).run Try.prog w = .ok (.bool (decide (c = d))) w := by
  rw [run_eql_struct, eqi_lab]; rfl
theorem lab_at {w : World} {lo hi : Nat} {a : Option Addr} {l : List Lab} (h : SlE Lab.enc 4 w lo hi a l) {k : Nat} {y : Lab} (hk : l[k]? = some y) :
    ∃ b off, a = some ⟨b, off, none⟩ ∧ lo ≤ b ∧ b < hi ∧ b < w.heap.size ∧ w.cell? ⟨b, off + k * 4, none⟩ = some (.bool y.kd) ∧ w.cell? ⟨b, off + k * 4 + 1, none⟩ = some (.string y.key) ∧ w.cell? ⟨b, off + k * 4 + 2, none⟩ = some (.int .u8 y.k) ∧ w.cell? ⟨b, off + k * 4 + 3, none⟩ = some (.string y.t) := by
  have hl : k < l.length := (List.getElem?_eq_some_iff.1 hk).1
  obtain ⟨b, off, e, g1, g2, g3, g4⟩ := h (by omega)
  exact ⟨b, off, e, g1, g2, g3, g4 k y hk 0 _ rfl, g4 k y hk 1 _ rfl, g4 k y hk 2 _ rfl, g4 k y hk 3 _ rfl⟩
/-- A postorder that lies in memory. -/
structure PA where
  al : Option Addr
  cl : Nat
  af : Option Addr
  cf : Nat
  ar : Option Addr
  cr : Nat
  L : List Lab
  F : List Int
  R : List Int
abbrev PA.box (p : PA) : Array Value := pBox p.al p.L.length p.cl p.af p.F.length p.cf p.ar p.R.length p.cr
structure PA.Rd (p : PA) (w : World) : Prop where
  l : SlE Lab.enc 4 w 0 w.heap.size p.al p.L
  f : SlE i64Z 1 w 0 w.heap.size p.af p.F
  r : SlE i64Z 1 w 0 w.heap.size p.ar p.R
  n : p.L.length ≤ 2097152 ∧ p.F.length ≤ 2097152 ∧ p.R.length ≤ 2097152
theorem PA.Rd.up {p : PA} {w w' : World} (h : p.Rd w) (hb : Below w.heap.size w w') : p.Rd w' := ⟨(h.l.up hb).widen (Nat.le_refl _) (Nat.le_refl _), (h.f.up hb).widen (Nat.le_refl _) (Nat.le_refl _), (h.r.up hb).widen (Nat.le_refl _) (Nat.le_refl _), h.n⟩
theorem like_dec {L L' : List Lab} {F F' R R' : List Int} {b : Bool} (h : b = true ↔ L = L' ∧ F = F' ∧ R = R') : Value.bool (decide (L = L' ∧ F = F' ∧ R = R')) = .bool b := by
  cases b
  · rw [decide_eq_false (fun hh => by have := h.2 hh; cases this)]
  · rw [decide_eq_true (h.1 rfl)]
set_option maxRecDepth 100000 in
set_option maxHeartbeats 3200000 in
theorem like_c (w : World) (p q : PA) (hp : p.Rd w) (hq : q.Rd w) : Calls Try.prog 37 #[.agg p.box, .agg q.box] w (Ret (.bool (decide (p.L = q.L ∧ p.F = q.F ∧ p.R = q.R))) w) := by
  have SF := fun W (h : Below w.heap.size w W) => Lib.hid (samenums_c W p.af q.af p.cf q.cf p.F q.F (hp.up h).f (hq.up h).f (by have := hp.n; omega))
  have SR := fun W (h : Below w.heap.size w W) => Lib.hid (samenums_c W p.ar q.ar p.cr q.cr p.R q.R (hp.up h).r (hq.up h).r (by have := hp.n; omega))
  have HPL := Lib.hid hp.l
  have HQL := Lib.hid hq.l
  have hn := hp.n.1
  clear hp hq
  obtain ⟨al, cl, af, cf, ar, cr, L, F, R⟩ := p
  obtain ⟨al', cl', af', cf', ar', cr', L', F', R'⟩ := q
  simp only at *
  obtain ⟨bF, hbF⟩ : ∃ b, b = decide (F = F') := ⟨_, rfl⟩
  obtain ⟨bR, hbR⟩ : ∃ b, b = decide (R = R') := ⟨_, rfl⟩
  rw [← hbF] at SF
  rw [← hbR] at SR
  have hF : bF = true ↔ F = F' := by rw [hbF]; exact decide_eq_true_iff
  have hR : bR = true ↔ R = R' := by rw [hbR]; exact decide_eq_true_iff
  clear hbF hbR
  show Calls Try.prog 37 #[.agg (pBox al L.length cl af F.length cf ar R.length cr), .agg (pBox al' L'.length cl' af' F'.length cf' ar' R'.length cr')] w _
  have hb0 := fun (o1 o2 : Obj) => ((Below.refl w.heap.size w).alloc (Nat.le_refl _) o1).alloc (by simp) o2
  by_cases hl : L.length = L'.length
  · have hne : ((L.length : Int) != (L'.length : Int)) = false := by simp [hl]
    have HL := Lib.hid hl
    have HF := Lib.hid hF
    have HR := Lib.hid hR
    clear hl hF hR
    cases bF with
    | false =>
      have hf : ¬ (L = L' ∧ F = F' ∧ R = R') := fun h => by have := HF.out.2 h.2.1; cases this
      rw [decide_eq_false hf]
      clear hf HPL HQL
      go_enter Try.func37, Try.ntmps37
      go_wp2_with (go_at_call 38; refine (SF _ (hb0 _ _)).out.mono ?_; rintro e w1 ⟨rfl, hb1⟩; obtain ⟨hbx, hby, hsz, hbw⟩ := two_at hb1; obtain ⟨p0, p1, p2, -, -, -⟩ := box3 hbx; obtain ⟨q0, q1, q2, -, -, -⟩ := box3 hby; have HBX := Lib.hid hbx; have HBY := Lib.hid hby; have HBW := Lib.hid hbw; have hsx : w.heap.size < w1.heap.size := (by omega); have hsy : w.heap.size + 1 < w1.heap.size := (by omega); clear hbx hby hbw hb1)
      -- here
      go_ret
      exact ⟨rfl, HBW.out⟩
    | true =>
      cases bR with
      | false =>
        have hf : ¬ (L = L' ∧ F = F' ∧ R = R') := fun h => by have := HR.out.2 h.2.2; cases this
        rw [decide_eq_false hf]
        clear hf HPL HQL
        go_enter Try.func37, Try.ntmps37
        go_wp2_with (first | (go_at_call 38; refine (SR w1 HBW.out).out.mono ?_; rintro e w2 ⟨rfl, hb2⟩; have hbx := (hb2.block _ hsx).trans HBX.out; have hby := (hb2.block _ hsy).trans HBY.out; have hsx2 : w.heap.size < w2.heap.size := (by have := hb2.size; omega); have hsy2 : w.heap.size + 1 < w2.heap.size := (by have := hb2.size; omega); clear p0 p1 p2 q0 q1 q2; obtain ⟨p0, p1, p2, -, -, -⟩ := box3 hbx; obtain ⟨q0, q1, q2, -, -, -⟩ := box3 hby; have HBX2 := Lib.hid hbx; have HBY2 := Lib.hid hby; have HBW2 := Lib.hid (below_via HBW.out hb2); clear hbx hby hb2) | (go_at_call 38; refine (SF _ (hb0 _ _)).out.mono ?_; rintro e w1 ⟨rfl, hb1⟩; obtain ⟨hbx, hby, hsz, hbw⟩ := two_at hb1; obtain ⟨p0, p1, p2, -, -, -⟩ := box3 hbx; obtain ⟨q0, q1, q2, -, -, -⟩ := box3 hby; have HBX := Lib.hid hbx; have HBY := Lib.hid hby; have HBW := Lib.hid hbw; have hsx : w.heap.size < w1.heap.size := (by omega); have hsy : w.heap.size + 1 < w1.heap.size := (by omega); clear hbx hby hbw hb1))
        go_ret
        exact ⟨rfl, HBW2.out⟩
      | true =>
        have hdec : decide (L = L' ∧ F = F' ∧ R = R') = decide (L = L') := decide_eq_decide.2 ⟨fun h => h.1, fun h => ⟨h, HF.out.1 rfl, HR.out.1 rfl⟩⟩
        rw [hdec]
        clear hdec
        go_enter Try.func37, Try.ntmps37
        go_wp2_with (first | (go_at_call 38; refine (SR w1 HBW.out).out.mono ?_; rintro e w2 ⟨rfl, hb2⟩; have hbx := (hb2.block _ hsx).trans HBX.out; have hby := (hb2.block _ hsy).trans HBY.out; have hsx2 : w.heap.size < w2.heap.size := (by have := hb2.size; omega); have hsy2 : w.heap.size + 1 < w2.heap.size := (by have := hb2.size; omega); clear p0 p1 p2 q0 q1 q2; obtain ⟨p0, p1, p2, -, -, -⟩ := box3 hbx; obtain ⟨q0, q1, q2, -, -, -⟩ := box3 hby; have HBX2 := Lib.hid hbx; have HBY2 := Lib.hid hby; have HBW2 := Lib.hid (below_via HBW.out hb2); clear hbx hby hb2) | (go_at_call 38; refine (SF _ (hb0 _ _)).out.mono ?_; rintro e w1 ⟨rfl, hb1⟩; obtain ⟨hbx, hby, hsz, hbw⟩ := two_at hb1; obtain ⟨p0, p1, p2, -, -, -⟩ := box3 hbx; obtain ⟨q0, q1, q2, -, -, -⟩ := box3 hby; have HBX := Lib.hid hbx; have HBY := Lib.hid hby; have HBW := Lib.hid hbw; have hsx : w.heap.size < w1.heap.size := (by omega); have hsy : w.heap.size + 1 < w1.heap.size := (by omega); clear hbx hby hbw hb1))
        clear p0 p1 p2 q0 q1 q2
        go_loopw [5] (fun s5 wr => ∃ i : Nat, i ≤ L.length ∧ s5 = .int .i64 i ∧ Hid (∀ j, j < i → L[j]? = L'[j]?) ∧ Hid (Below w2.heap.size w2 wr)) (fun s5 _ => L.length - (intOf s5).toNat)
        case atStart => exact ⟨0, Nat.zero_le _, rfl, Lib.hid (fun j h => by omega), Lib.hid (Below.refl _ _)⟩
        case round =>
          obtain ⟨i, hi, rfl, HE, HB⟩ := hrel
          have hbx := (HB.out.block _ hsx2).trans HBX2.out
          have hby := (HB.out.block _ hsy2).trans HBY2.out
          obtain ⟨p0, p1, p2, -, -, -⟩ := box3 hbx
          obtain ⟨q0, q1, q2, -, -, -⟩ := box3 hby
          have hsx3 : w.heap.size < wr.heap.size := by have := HB.out.size; omega
          have hsy3 : w.heap.size + 1 < wr.heap.size := by have := HB.out.size; omega
          clear hbx hby
          by_cases hlt : i < L.length
          · have hL := HL.out
            have h1 : L[i]? = some L[i] := List.getElem?_eq_getElem hlt
            have h2 : L'[i]? = some L'[i] := List.getElem?_eq_getElem (by omega)
            have hlt1 : (i : Int) < (L.length : Int) := by omega
            have hlt2 : (i : Int) < (L'.length : Int) := by omega
            generalize L[i] = x at h1
            generalize L'[i] = y at h2
            have hb20 := HBW2.out.trans (HB.out.mono HBW2.out.size)
            obtain ⟨b1, o1, ea, -, hb1, -, c0, c1, c2, c3⟩ := lab_at (HPL.out.up hb20) h1
            obtain ⟨b2, o2, eb, -, hb2, -, d0, d1, d2, d3⟩ := lab_at (HQL.out.up hb20) h2
            have hs1 : b1 < wr.heap.size := hb1
            have hs2 : b2 < wr.heap.size := hb2
            have HX := Lib.hid (And.intro h1 h2)
            rw [ea] at p0
            rw [eb] at q0
            have hq := fun W => neq_lab W x y
            clear h1 h2 hL ea eb hb20
            by_cases e : x = y
            · rw [decide_eq_true e] at hq
              have HE2 := Lib.hid e
              clear e
              go_wp2_with fail
              go_quiet (fail)
              go_wp2_with fail
              refine ⟨⟨i + 1, by omega, by go_num, Lib.hid fun j hj => ?_, Lib.hid (by (repeat' first | exact HB.out | refine Below.drew ?_ | refine below_drewN ?_ _))⟩, by simp [intOf]; omega⟩
              rcases Nat.lt_or_ge j i with hh | hh
              · exact HE.out j hh
              · obtain rfl : j = i := by omega
                rw [HX.out.1, HX.out.2, HE2.out]
            · rw [decide_eq_false e] at hq
              have hf : L ≠ L' := fun hh => e (by have := HX.out.1; rw [hh, HX.out.2] at this; injection this with this; exact this.symm)
              have HF := Lib.hid hf
              clear e hf
              go_wp2_with fail
              go_quiet (fail)
              go_wp2_with fail
              go_ret
              exact ⟨by rw [decide_eq_false HF.out]; rfl, below_via HBW2.out (by (repeat' first | exact HB.out | refine Below.drew ?_ | refine below_drewN ?_ _))⟩
          · obtain rfl : i = L.length := by omega
            go_wp2_with fail
            go_ret
            exact ⟨by rw [decide_eq_true (take_eq HL.out HE.out)]; rfl, below_via HBW2.out HB.out⟩
  · have hne : ((L.length : Int) != (L'.length : Int)) = true := by simp; omega
    have hf : ¬ (L = L' ∧ F = F' ∧ R = R') := fun h => hl (by rw [h.1])
    rw [decide_eq_false hf]
    clear hf hl HPL HQL SF SR hF hR
    have HB0 := Lib.hid hb0
    clear hb0
    go_enter Try.func37, Try.ntmps37
    go_wp2_with fail
    go_ret
    exact ⟨rfl, HB0.out _ _⟩
end Go.Proofs.Ytmhkacafilpliaa

namespace Go.Proofs.Ytmhkacafilpliaa
open Go.RowKit Go.Sort Go.Shelf

def s9x : Val := ⟨3, ⟨#[120]⟩, [], []⟩
def s9n : Val := ⟨4, ⟨#[49]⟩, [], []⟩
def s9l : Val := ⟨7, ⟨#[]⟩, [s9n], []⟩
def s9V : Val := ⟨8, ⟨#[]⟩, [s9l, s9x], [⟨#[98]⟩, ⟨#[97]⟩]⟩
def s9L : List Lab := [⟨true, ⟨#[97]⟩, 3, ⟨#[120]⟩⟩, ⟨false, ⟨#[]⟩, 4, ⟨#[49]⟩⟩, ⟨true, ⟨#[98]⟩, 7, ⟨#[]⟩⟩, ⟨false, ⟨#[]⟩, 8, ⟨#[]⟩⟩]
theorem s9_may : s9V.may = true := by
  rw [← Val.may_eq, plain_within]
  simp [Val.deepR_eq, Val.plain_eq, s9V, s9l, s9n, s9x, maxL, Val.shape, ByteArray.toList_eq]
theorem s9_w : s9V.w ≤ 1000 := by
  have z0 : (⟨#[]⟩ : ByteArray).size = 0 := rfl
  have z1 : (⟨#[49]⟩ : ByteArray).size = 1 := rfl
  have z2 : (⟨#[120]⟩ : ByteArray).size = 1 := rfl
  have z3 : (⟨#[98]⟩ : ByteArray).size = 1 := rfl
  have z4 : (⟨#[97]⟩ : ByteArray).size = 1 := rfl
  simp [s9V, s9l, s9n, s9x, Val.w_eq, z0, z1, z2, z3, z4]
theorem s9_subs : s9V.subs = [⟨true, ⟨#[97]⟩, s9x⟩, ⟨true, ⟨#[98]⟩, s9l⟩] := by
  have he : [((⟨#[97]⟩ : ByteArray), s9x), (⟨#[98]⟩, s9l)] = s9V.ents := by
    refine ents_of s9V (by simp [s9V]) (List.Perm.swap _ _ _) ?_
    simp [ByteArray.toList_eq]
    decide
  unfold Val.subs
  rw [if_pos (by rfl), ← he]; rfl
theorem s9l_subs : s9l.subs = [⟨false, ⟨#[]⟩, s9n⟩] := rfl
theorem s9x_subs : s9x.subs = [] := rfl
theorem s9n_subs : s9n.subs = [] := rfl
theorem s9_labs : s9V.labs = s9L := by
  rw [Val.labs_eq, postF_succ]
  simp only [s9_subs, List.flatMap_cons, List.flatMap_nil]
  rw [postF_succ, postF_succ]
  simp only [s9x_subs, s9l_subs, List.flatMap_cons, List.flatMap_nil]
  rw [postF_succ]
  simp only [s9n_subs, List.flatMap_nil]
  rfl
theorem s9_lefts : s9V.lefts = [0, 1, 1, 0] := by
  rw [Val.lefts_eq, leftF_succ]
  simp only [s9_subs, leftsF_cons]
  rw [leftF_succ, leftF_succ]
  simp only [s9x_subs, s9l_subs, leftsF_cons]
  rw [leftF_succ]
  simp only [s9n_subs]
  rfl
def Made19 (v : Val) (w : World) (e : Ending) (w' : World) : Prop := ∃ y : AV, e = .returned y.val ∧ y.v = v ∧ y.In w' w.heap.size w'.heap.size ∧ Below w.heap.size w w'
theorem leaf19_in {w : World} {lo hi : Nat} (k : Int) (t : ByteArray) (h : 0 ≤ k ∧ k ≤ 255) : AV.In w lo hi ⟨k, t, none, 0, [], none, 0, []⟩ := ⟨SlE.nil, SlE.nil, h, fun _y hy => absurd hy List.not_mem_nil⟩
set_option maxRecDepth 100000 in
set_option maxHeartbeats 3200000 in
theorem small19_c (w : World) : Calls Try.prog 42 #[] w (Made19 s9V w) := by
  go_enter Try.func42, Try.ntmps42
  go_wp2_with fail
  refine bodyPost_ret (v := .agg #[.int .u8 8, .string ⟨#[]⟩, .slice (some ⟨w.heap.size + 1 + 1 + 1 + 1 + 1, 0, none⟩) 2 2, .slice (some ⟨w.heap.size + 1 + 1 + 1, 0, none⟩) 2 2]) (by simp [results, Try.results42, go_sem]) rfl
    ⟨⟨8, ⟨#[]⟩, some ⟨w.heap.size + 1 + 1 + 1 + 1 + 1, 0, none⟩, 2, [⟨7, ⟨#[]⟩, some ⟨w.heap.size + 1 + 1 + 1 + 1, 0, none⟩, 1, [⟨4, ⟨#[49]⟩, none, 0, [], none, 0, []⟩], none, 0, []⟩, ⟨3, ⟨#[120]⟩, none, 0, [], none, 0, []⟩],
      some ⟨w.heap.size + 1 + 1 + 1, 0, none⟩, 2, [⟨#[98]⟩, ⟨#[97]⟩]⟩, rfl, by simp [AV.v_eq, s9V, s9l, s9n, s9x], ?_, (by repeat (first | exact Below.refl _ _ | refine Below.drew ?_ | refine below_drewN ?_ _ | refine Below.alloc ?_ (by first | omega | (simp; done) | (simp; omega)) _))⟩
  generalize hA : Obj.cells #[.int .u8 8, .string ⟨#[]⟩, .slice (some ⟨w.heap.size + 1 + 1 + 1 + 1 + 1, 0, none⟩) 2 2, .slice (some ⟨w.heap.size + 1 + 1 + 1, 0, none⟩) 2 2] 26 = A
  obtain ⟨B, hB⟩ : ∃ B, B = Obj.cells #[.int .u8 4, .string ⟨#[49]⟩, .slice none 0 0, .slice none 0 0] 26 := ⟨_, rfl⟩
  obtain ⟨B2, hB2⟩ : ∃ B2, B2 = Obj.cells #[.int .u8 4, .string ⟨#[49]⟩, .slice none 0 0, .slice none 0 0] 26 := ⟨_, rfl⟩
  generalize hC : Obj.cells #[.int .u8 3, .string ⟨#[120]⟩, .slice none 0 0, .slice none 0 0] 26 = C
  generalize hD : Obj.cells #[.string ⟨#[98]⟩, .string ⟨#[97]⟩] 9 = D
  generalize hE : Obj.cells #[.int .u8 7, .string ⟨#[]⟩, .slice (some ⟨w.heap.size + 1 + 1 + 1 + 1, 0, none⟩) 1 1, .slice none 0 0, .int .u8 3, .string ⟨#[120]⟩, .slice none 0 0, .slice none 0 0] 26 = E
  have key : ∀ W, W = (((((w.alloc A).alloc B).alloc C).alloc D).alloc B2).alloc E → AV.In W w.heap.size W.heap.size ⟨8, ⟨#[]⟩, some ⟨w.heap.size + 1 + 1 + 1 + 1 + 1, 0, none⟩, 2, [⟨7, ⟨#[]⟩, some ⟨w.heap.size + 1 + 1 + 1 + 1, 0, none⟩, 1, [⟨4, ⟨#[49]⟩, none, 0, [], none, 0, []⟩], none, 0, []⟩, ⟨3, ⟨#[120]⟩, none, 0, [], none, 0, []⟩],
      some ⟨w.heap.size + 1 + 1 + 1, 0, none⟩, 2, [⟨#[98]⟩, ⟨#[97]⟩]⟩ := fun W hW => by
    have b3 : W.heap[w.heap.size + 1 + 1 + 1]? = some D := by
      rw [hW]
      exact (heap_alloc_old _ _ _ (by simp)).trans ((heap_alloc_old _ _ _ (by simp)).trans (by have := heap_alloc_new (((w.alloc A).alloc B).alloc C) D; simpa using this))
    have b4 : W.heap[w.heap.size + 1 + 1 + 1 + 1]? = some B2 := by
      rw [hW]
      exact (heap_alloc_old _ _ _ (by simp)).trans (by have := heap_alloc_new ((((w.alloc A).alloc B).alloc C).alloc D) B2; simpa using this)
    have b5 : W.heap[w.heap.size + 1 + 1 + 1 + 1 + 1]? = some E := by
      rw [hW]
      have := heap_alloc_new (((((w.alloc A).alloc B).alloc C).alloc D).alloc B2) E; simpa using this
    have hsz : W.heap.size = w.heap.size + 6 := by rw [hW]; simp
    rw [hsz]
    subst hB2 hD hE
    refine ⟨(lit_sl (enc := AV.enc) (size := 4) (l := [⟨7, ⟨#[]⟩, some ⟨w.heap.size + 1 + 1 + 1 + 1, 0, none⟩, 1, [⟨4, ⟨#[49]⟩, none, 0, [], none, 0, []⟩], none, 0, []⟩, ⟨3, ⟨#[120]⟩, none, 0, [], none, 0, []⟩]) AV.enc_len b5).widen (by omega) (by omega),
      (lit_sl (enc := strE) (size := 1) (l := [⟨#[98]⟩, ⟨#[97]⟩]) (fun _ => rfl) b3).widen (by omega) (by omega), by simp, fun y hy => ?_⟩
    simp only [List.mem_cons, List.not_mem_nil, or_false] at hy
    rcases hy with rfl | rfl
    · refine ⟨(lit_sl (enc := AV.enc) (size := 4) (l := [⟨4, ⟨#[49]⟩, none, 0, [], none, 0, []⟩]) AV.enc_len b4).widen (by omega) (by omega), SlE.nil, by simp, fun y hy => ?_⟩
      simp only [List.mem_cons, List.not_mem_nil, or_false] at hy
      rcases hy with rfl
      exact leaf19_in _ _ (by simp)
    · exact leaf19_in _ _ (by simp)
  exact key _ (by rw [hB, hB2])
theorem s9_part : partAt s9L ([0, 1, 1, 0] : List Int) 2 = some 1 ∧ partOk ([0, 1, 1, 0] : List Int) 1 2 = true ∧ partL s9L 1 2 = [⟨false, ⟨#[]⟩, 4, ⟨#[49]⟩⟩, ⟨true, ⟨#[98]⟩, 7, ⟨#[]⟩⟩] ∧ partN ([0, 1, 1, 0] : List Int) 1 2 = [0, 0] := ⟨rfl, rfl, rfl, rfl⟩
theorem ownC_sl {α : Type} {enc : α → List Value} {size : Nat} (henc : ∀ x, (enc x).length = size) (_hs0 : 0 < size) {w : World} {base e cap : Nat} {a : Option Addr} {l : List α} (h : OwnC w base e size a l.length cap (l.flatMap enc)) : SlE enc size w base w.heap.size a l := fun hl => by
  obtain ⟨h1, h2, h3⟩ := h
  obtain ⟨g, cur, e1, hb, hh, hc, ht⟩ := h3 (by omega)
  have hg : g < w.heap.size := by
    rcases Nat.lt_or_ge g w.heap.size with h | h
    · exact h
    · rw [Array.getElem?_eq_none h] at hh; cases hh
  refine ⟨g, 0, e1, hb, hg, hg, fun i x hx j u hu => ?_⟩
  have hj : j < size := by rw [← henc x]; exact (List.getElem?_eq_some_iff.1 hu).1
  have hi : i < l.length := (List.getElem?_eq_some_iff.1 hx).1
  have hlt : i * size + j < l.length * size := by
    have := Nat.mul_le_mul_right size (show i + 1 ≤ l.length by omega)
    rw [Nat.add_mul] at this; omega
  rw [show 0 + i * size + j = i * size + j by omega]
  have h5 : (l.flatMap enc)[i * size + j]? = some u := by rw [flat_get henc l i j x hx hj, hu]
  rw [← ht, List.getElem?_take, if_pos hlt] at h5
  simp only [World.cell?, hh]
  simpa using h5
/-- What posts.Of and posts.Part leave, as a postorder that lies in memory. -/
abbrev intsL (l : List Nat) : List Int := l.map fun n : Nat => (n : Int)
theorem post_rd {w : World} {base : Nat} {al af ar : Option Addr} {n m r : Nat} {L : List Lab} {F R : List Nat} (h1 : OwnC w base 46 4 al n n (L.flatMap Lab.enc)) (h2 : OwnC w base 3 1 af m m (F.flatMap natE)) (h3 : OwnC w base 3 1 ar r r (R.flatMap natE)) (e1 : n = L.length) (e2 : m = F.length) (e3 : r = R.length)
    (hL : L.length ≤ 2097152) (hF : F.length ≤ 2097152) (hR : R.length ≤ 2097152) : PA.Rd ⟨al, n, af, m, ar, r, L, F.map fun n : Nat => (n : Int), R.map fun n : Nat => (n : Int)⟩ w := by
  subst e1 e2 e3
  exact ⟨(ownC_sl (size := 4) (fun _ => rfl) (by omega) h1).widen (Nat.zero_le _) (Nat.le_refl _), nat_int F ((ownC_sl (size := 1) (fun _ => rfl) (by omega) h2).widen (Nat.zero_le _) (Nat.le_refl _)), nat_int R ((ownC_sl (size := 1) (fun _ => rfl) (by omega) h3).widen (Nat.zero_le _) (Nat.le_refl _)), by simp; omega⟩
theorem lit_int {W : World} (l : List Int) {o : Obj} (h : o = .cells (l.flatMap i64Z).toArray 3 (0, 0)) : SlE i64Z 1 (W.alloc o) 0 (W.alloc o).heap.size (some ⟨W.heap.size, 0, none⟩) l := by
  subst h
  exact (lit_sl (enc := i64Z) (size := 1) (l := l) (t := 3) (fr := (0, 0)) (fun _ => rfl) (heap_alloc_new W _)).widen (Nat.zero_le _) (by simp)
def s9P : List Lab := [⟨false, ⟨#[]⟩, 4, ⟨#[49]⟩⟩, ⟨true, ⟨#[98]⟩, 7, ⟨#[]⟩⟩]
def SmallOf (w : World) (e : Ending) (w' : World) : Prop := ∃ al af ar, e = .returned (.tuple #[.agg #[.slice al 4 4, .slice af 4 4, .slice ar 2 2], .bool true]) ∧ PA.Rd ⟨al, 4, af, 4, ar, 2, s9L, [0, 1, 1, 0], [2, 3]⟩ w' ∧ Below w.heap.size w w'
theorem small_of (w : World) (y : AV) (hy : Rd w y) (hv : y.v = s9V) : Calls Try.prog 15 #[y.val] w (SmallOf w) := by
  refine (pof_c w y hy (by show y.v.w ≤ _; rw [hv]; have := s9_w; omega)).mono ?_
  rintro e w' ⟨al, af, ar, n, r, rfl, hn, hr, h1, -, hb⟩
  rw [hv] at hn hr h1 ⊢
  obtain ⟨g1, g2, g3⟩ := h1 s9_may
  clear h1
  rw [s9_may, if_pos rfl, s9_labs] at hn
  rw [s9_may, if_pos rfl, s9_lefts] at hr
  rw [s9_labs] at g1
  rw [s9_lefts] at g2 g3
  have e1 : n = 4 := hn
  have e2 : r = 2 := hr
  subst e1 e2
  rw [s9_may]
  exact ⟨al, af, ar, rfl, post_rd (L := s9L) (F := [0, 1, 1, 0]) (R := [2, 3]) g1 g2 g3 rfl rfl rfl (by decide) (by decide) (by decide), hb⟩
def SmallPart (w : World) (e : Ending) (w' : World) : Prop := ∃ al af ar, e = .returned (.tuple #[.agg #[.slice al 2 2, .slice af 2 2, .slice ar 1 1], .bool true]) ∧ PA.Rd ⟨al, 2, af, 2, ar, 1, s9P, [0, 0], [1]⟩ w' ∧ Below w.heap.size w w'
theorem small_part (w : World) (al af ar : Option Addr) (h : PA.Rd ⟨al, 4, af, 4, ar, 2, s9L, [0, 1, 1, 0], [2, 3]⟩ w) : Calls Try.prog 19 #[.agg #[.slice al 4 4, .slice af 4 4, .slice ar 2 2], .int .i64 2] w (SmallPart w) := by
  refine (part_c w s9L [0, 1, 1, 0] al af ar 4 4 2 2 2 h.l (by decide) h.f (by decide) (by decide)).mono ?_
  obtain ⟨p1, p2, p3, p4⟩ := s9_part
  rintro e w' ⟨hb, ⟨f, hp, -, al', af', ar', m, hm, rfl, h1, h2, h3⟩ | ⟨hn, -⟩⟩
  · rw [p1] at hp
    cases hp
    have e1 : m = 2 := hm
    subst e1
    rw [p3] at h1
    rw [p4] at h2 h3
    exact ⟨al', af', ar', rfl, post_rd (L := s9P) (F := [0, 0]) (R := [1]) h1 h2 h3 rfl rfl rfl (by decide) (by decide) (by decide), hb⟩
  · have h4 := hn 1 p1
    rw [show (2 : Int).toNat + 1 - 1 = 2 from rfl, p2] at h4
    cases h4
end Go.Proofs.Ytmhkacafilpliaa
