/-
  Two postorders compared. Conditions: they lie in memory, of at most 2^21 nodes.
-/
import Derived.Test.YtmhkacafilpliaaJP
namespace Go.Proofs.Ytmhkacafilpliaa
open Go.RowKit Go.Sort Go.Shelf

abbrev Lab.val (l : Lab) : Value := .agg #[.bool l.kd, .string l.key, .int .u8 l.k, .string l.t]
theorem bytes_list {x y : ByteArray} : x.toList = y.toList ↔ x = y := by
  constructor
  · intro h
    rw [ByteArray.toList_eq, ByteArray.toList_eq] at h
    exact ByteArray.ext (Array.toList_inj.1 h)
  · rintro rfl; rfl
theorem lab_dec (c d : Lab) : decide (c = d) = decide (c.kd = d.kd ∧ c.key.toList = d.key.toList ∧ c.k = d.k ∧ c.t.toList = d.t.toList) := by
  obtain ⟨c1, c2, c3, c4⟩ := c
  obtain ⟨d1, d2, d3, d4⟩ := d
  simp only [Lab.mk.injEq, bytes_list]
set_option maxRecDepth 100000 in
set_option maxHeartbeats 3200000 in
theorem eqi_lab (w : World) (c d : Lab) : (Op.equalIn 10000 46 c.val d.val).run Try.prog w = .ok (decide (c = d)) w := by
  rw [lab_dec]
  simp [go_sem]
  repeat' split
  all_goals simp_all
theorem neq_lab (w : World) (c d : Lab) : (binOp .neq 46 c.val d.val).run Try.prog w = .ok (.bool (!decide (c = d))) w := by
  rw [run_neq_struct, eqi_lab]; rfl
theorem eql_lab (w : World) (c d : Lab) : (binOp .eql 46 c.val d.val).run Try.prog w = .ok (.bool (decide (c = d))) w := by
  rw [run_eql_struct, eqi_lab]; rfl
theorem lab_at {w : World} {lo hi : Nat} {a : Option Addr} {l : List Lab} (h : SlE Lab.enc 4 w lo hi a l) {k : Nat} {y : Lab} (hk : l[k]? = some y) :
    ∃ b off, a = some ⟨b, off, none⟩ ∧ lo ≤ b ∧ b < hi ∧ b < w.heap.size ∧ w.cell? ⟨b, off + k * 4, none⟩ = some (.bool y.kd) ∧ w.cell? ⟨b, off + k * 4 + 1, none⟩ = some (.string y.key) ∧ w.cell? ⟨b, off + k * 4 + 2, none⟩ = some (.int .u8 y.k) ∧ w.cell? ⟨b, off + k * 4 + 3, none⟩ = some (.string y.t) := by
  have hl : k < l.length := (List.getElem?_eq_some_iff.1 hk).1
  obtain ⟨b, off, e, g1, g2, g3, g4⟩ := h (by omega)
  exact ⟨b, off, e, g1, g2, g3, g4 k y hk 0 _ rfl, g4 k y hk 1 _ rfl, g4 k y hk 2 _ rfl, g4 k y hk 3 _ rfl⟩
/-- A postorder that lies in memory. -/
structure PA where
  al : Option Addr
  cl : Nat
  af : Option Addr
  cf : Nat
  ar : Option Addr
  cr : Nat
  L : List Lab
  F : List Int
  R : List Int
abbrev PA.box (p : PA) : Array Value := pBox p.al p.L.length p.cl p.af p.F.length p.cf p.ar p.R.length p.cr
structure PA.Rd (p : PA) (w : World) : Prop where
  l : SlE Lab.enc 4 w 0 w.heap.size p.al p.L
  f : SlE i64Z 1 w 0 w.heap.size p.af p.F
  r : SlE i64Z 1 w 0 w.heap.size p.ar p.R
  n : p.L.length ≤ 2097152 ∧ p.F.length ≤ 2097152 ∧ p.R.length ≤ 2097152
theorem PA.Rd.up {p : PA} {w w' : World} (h : p.Rd w) (hb : Below w.heap.size w w') : p.Rd w' := ⟨(h.l.up hb).widen (Nat.le_refl _) (Nat.le_refl _), (h.f.up hb).widen (Nat.le_refl _) (Nat.le_refl _), (h.r.up hb).widen (Nat.le_refl _) (Nat.le_refl _), h.n⟩
theorem like_dec {L L' : List Lab} {F F' R R' : List Int} {b : Bool} (h : b = true ↔ L = L' ∧ F = F' ∧ R = R') : Value.bool (decide (L = L' ∧ F = F' ∧ R = R')) = .bool b := by
  cases b
  · rw [decide_eq_false (fun hh => by have := h.2 hh; cases this)]
  · rw [decide_eq_true (h.1 rfl)]
set_option maxRecDepth 100000 in
set_option maxHeartbeats 3200000 in
theorem like_c (w : World) (p q : PA) (hp : p.Rd w) (hq : q.Rd w) : Calls Try.prog 37 #[.agg p.box, .agg q.box] w (Ret (.bool (decide (p.L = q.L ∧ p.F = q.F ∧ p.R = q.R))) w) := by
  have SF := fun W (h : Below w.heap.size w W) => Lib.hid (samenums_c W p.af q.af p.cf q.cf p.F q.F (hp.up h).f (hq.up h).f (by have := hp.n; omega))
  have SR := fun W (h : Below w.heap.size w W) => Lib.hid (samenums_c W p.ar q.ar p.cr q.cr p.R q.R (hp.up h).r (hq.up h).r (by have := hp.n; omega))
  have HPL := Lib.hid hp.l
  have HQL := Lib.hid hq.l
  have hn := hp.n.1
  clear hp hq
  obtain ⟨al, cl, af, cf, ar, cr, L, F, R⟩ := p
  obtain ⟨al', cl', af', cf', ar', cr', L', F', R'⟩ := q
  simp only at *
  obtain ⟨bF, hbF⟩ : ∃ b, b = decide (F = F') := ⟨_, rfl⟩
  obtain ⟨bR, hbR⟩ : ∃ b, b = decide (R = R') := ⟨_, rfl⟩
  rw [← hbF] at SF
  rw [← hbR] at SR
  have hF : bF = true ↔ F = F' := by rw [hbF]; exact decide_eq_true_iff
  have hR : bR = true ↔ R = R' := by rw [hbR]; exact decide_eq_true_iff
  clear hbF hbR
  show Calls Try.prog 37 #[.agg (pBox al L.length cl af F.length cf ar R.length cr), .agg (pBox al' L'.length cl' af' F'.length cf' ar' R'.length cr')] w _
  have hb0 := fun (o1 o2 : Obj) => ((Below.refl w.heap.size w).alloc (Nat.le_refl _) o1).alloc (by simp) o2
  by_cases hl : L.length = L'.length
  · have hne : ((L.length : Int) != (L'.length : Int)) = false := by simp [hl]
    have HL := Lib.hid hl
    have HF := Lib.hid hF
    have HR := Lib.hid hR
    clear hl hF hR
    cases bF with
    | false =>
      have hf : ¬ (L = L' ∧ F = F' ∧ R = R') := fun h => by have := HF.out.2 h.2.1; cases this
      rw [decide_eq_false hf]
      clear hf HPL HQL
      go_enter Try.func37, Try.ntmps37
      go_wp2_with (go_at_call 38; refine (SF _ (hb0 _ _)).out.mono ?_; rintro e w1 ⟨rfl, hb1⟩; obtain ⟨hbx, hby, hsz, hbw⟩ := two_at hb1; obtain ⟨p0, p1, p2, -, -, -⟩ := box3 hbx; obtain ⟨q0, q1, q2, -, -, -⟩ := box3 hby; have HBX := Lib.hid hbx; have HBY := Lib.hid hby; have HBW := Lib.hid hbw; have hsx : w.heap.size < w1.heap.size := (by omega); have hsy : w.heap.size + 1 < w1.heap.size := (by omega); clear hbx hby hbw hb1)
      -- here
      go_ret
      exact ⟨rfl, HBW.out⟩
    | true =>
      cases bR with
      | false =>
        have hf : ¬ (L = L' ∧ F = F' ∧ R = R') := fun h => by have := HR.out.2 h.2.2; cases this
        rw [decide_eq_false hf]
        clear hf HPL HQL
        go_enter Try.func37, Try.ntmps37
        go_wp2_with (first | (go_at_call 38; refine (SR w1 HBW.out).out.mono ?_; rintro e w2 ⟨rfl, hb2⟩; have hbx := (hb2.block _ hsx).trans HBX.out; have hby := (hb2.block _ hsy).trans HBY.out; have hsx2 : w.heap.size < w2.heap.size := (by have := hb2.size; omega); have hsy2 : w.heap.size + 1 < w2.heap.size := (by have := hb2.size; omega); clear p0 p1 p2 q0 q1 q2; obtain ⟨p0, p1, p2, -, -, -⟩ := box3 hbx; obtain ⟨q0, q1, q2, -, -, -⟩ := box3 hby; have HBX2 := Lib.hid hbx; have HBY2 := Lib.hid hby; have HBW2 := Lib.hid (below_via HBW.out hb2); clear hbx hby hb2) | (go_at_call 38; refine (SF _ (hb0 _ _)).out.mono ?_; rintro e w1 ⟨rfl, hb1⟩; obtain ⟨hbx, hby, hsz, hbw⟩ := two_at hb1; obtain ⟨p0, p1, p2, -, -, -⟩ := box3 hbx; obtain ⟨q0, q1, q2, -, -, -⟩ := box3 hby; have HBX := Lib.hid hbx; have HBY := Lib.hid hby; have HBW := Lib.hid hbw; have hsx : w.heap.size < w1.heap.size := (by omega); have hsy : w.heap.size + 1 < w1.heap.size := (by omega); clear hbx hby hbw hb1))
        go_ret
        exact ⟨rfl, HBW2.out⟩
      | true =>
        have hdec : decide (L = L' ∧ F = F' ∧ R = R') = decide (L = L') := decide_eq_decide.2 ⟨fun h => h.1, fun h => ⟨h, HF.out.1 rfl, HR.out.1 rfl⟩⟩
        rw [hdec]
        clear hdec
        go_enter Try.func37, Try.ntmps37
        go_wp2_with (first | (go_at_call 38; refine (SR w1 HBW.out).out.mono ?_; rintro e w2 ⟨rfl, hb2⟩; have hbx := (hb2.block _ hsx).trans HBX.out; have hby := (hb2.block _ hsy).trans HBY.out; have hsx2 : w.heap.size < w2.heap.size := (by have := hb2.size; omega); have hsy2 : w.heap.size + 1 < w2.heap.size := (by have := hb2.size; omega); clear p0 p1 p2 q0 q1 q2; obtain ⟨p0, p1, p2, -, -, -⟩ := box3 hbx; obtain ⟨q0, q1, q2, -, -, -⟩ := box3 hby; have HBX2 := Lib.hid hbx; have HBY2 := Lib.hid hby; have HBW2 := Lib.hid (below_via HBW.out hb2); clear hbx hby hb2) | (go_at_call 38; refine (SF _ (hb0 _ _)).out.mono ?_; rintro e w1 ⟨rfl, hb1⟩; obtain ⟨hbx, hby, hsz, hbw⟩ := two_at hb1; obtain ⟨p0, p1, p2, -, -, -⟩ := box3 hbx; obtain ⟨q0, q1, q2, -, -, -⟩ := box3 hby; have HBX := Lib.hid hbx; have HBY := Lib.hid hby; have HBW := Lib.hid hbw; have hsx : w.heap.size < w1.heap.size := (by omega); have hsy : w.heap.size + 1 < w1.heap.size := (by omega); clear hbx hby hbw hb1))
        clear p0 p1 p2 q0 q1 q2
        go_loopw [5] (fun s5 wr => ∃ i : Nat, i ≤ L.length ∧ s5 = .int .i64 i ∧ Hid (∀ j, j < i → L[j]? = L'[j]?) ∧ Hid (Below w2.heap.size w2 wr)) (fun s5 _ => L.length - (intOf s5).toNat)
        case atStart => exact ⟨0, Nat.zero_le _, rfl, Lib.hid (fun j h => by omega), Lib.hid (Below.refl _ _)⟩
        case round =>
          obtain ⟨i, hi, rfl, HE, HB⟩ := hrel
          have hbx := (HB.out.block _ hsx2).trans HBX2.out
          have hby := (HB.out.block _ hsy2).trans HBY2.out
          obtain ⟨p0, p1, p2, -, -, -⟩ := box3 hbx
          obtain ⟨q0, q1, q2, -, -, -⟩ := box3 hby
          have hsx3 : w.heap.size < wr.heap.size := by have := HB.out.size; omega
          have hsy3 : w.heap.size + 1 < wr.heap.size := by have := HB.out.size; omega
          clear hbx hby
          by_cases hlt : i < L.length
          · have hL := HL.out
            have h1 : L[i]? = some L[i] := List.getElem?_eq_getElem hlt
            have h2 : L'[i]? = some L'[i] := List.getElem?_eq_getElem (by omega)
            have hlt1 : (i : Int) < (L.length : Int) := by omega
            have hlt2 : (i : Int) < (L'.length : Int) := by omega
            generalize L[i] = x at h1
            generalize L'[i] = y at h2
            have hb20 := HBW2.out.trans (HB.out.mono HBW2.out.size)
            obtain ⟨b1, o1, ea, -, hb1, -, c0, c1, c2, c3⟩ := lab_at (HPL.out.up hb20) h1
            obtain ⟨b2, o2, eb, -, hb2, -, d0, d1, d2, d3⟩ := lab_at (HQL.out.up hb20) h2
            have hs1 : b1 < wr.heap.size := hb1
            have hs2 : b2 < wr.heap.size := hb2
            have HX := Lib.hid (And.intro h1 h2)
            rw [ea] at p0
            rw [eb] at q0
            have hq := fun W => neq_lab W x y
            clear h1 h2 hL ea eb hb20
            by_cases e : x = y
            · rw [decide_eq_true e] at hq
              have HE2 := Lib.hid e
              clear e
              go_wp2_with fail
              go_quiet (fail)
              go_wp2_with fail
              refine ⟨⟨i + 1, by omega, by go_num, Lib.hid fun j hj => ?_, Lib.hid (by (repeat' first | exact HB.out | refine Below.drew ?_ | refine below_drewN ?_ _))⟩, by simp [intOf]; omega⟩
              rcases Nat.lt_or_ge j i with hh | hh
              · exact HE.out j hh
              · obtain rfl : j = i := by omega
                rw [HX.out.1, HX.out.2, HE2.out]
            · rw [decide_eq_false e] at hq
              have hf : L ≠ L' := fun hh => e (by have := HX.out.1; rw [hh, HX.out.2] at this; injection this with this; exact this.symm)
              have HF := Lib.hid hf
              clear e hf
              go_wp2_with fail
              go_quiet (fail)
              go_wp2_with fail
              go_ret
              exact ⟨by rw [decide_eq_false HF.out]; rfl, below_via HBW2.out (by (repeat' first | exact HB.out | refine Below.drew ?_ | refine below_drewN ?_ _))⟩
          · obtain rfl : i = L.length := by omega
            go_wp2_with fail
            go_ret
            exact ⟨by rw [decide_eq_true (take_eq HL.out HE.out)]; rfl, below_via HBW2.out HB.out⟩
  · have hne : ((L.length : Int) != (L'.length : Int)) = true := by simp; omega
    have hf : ¬ (L = L' ∧ F = F' ∧ R = R') := fun h => hl (by rw [h.1])
    rw [decide_eq_false hf]
    clear hf hl HPL HQL SF SR hF hR
    have HB0 := Lib.hid hb0
    clear hb0
    go_enter Try.func37, Try.ntmps37
    go_wp2_with fail
    go_ret
    exact ⟨rfl, HB0.out _ _⟩
end Go.Proofs.Ytmhkacafilpliaa
