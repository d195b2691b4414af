/-
  A region that draws its order, each operation shown ONCE: what each one leaves in its slot holds behind it whatever comes up next. No condition.
-/
import Derived.Test.YtmhkacafilpliaaGreatVM
import Derived.Deep.RegionHeld3
namespace Go.Proofs.YtmhkacafilpliaaGreat
open Go.RowKit Go.Sort Go.Shelf Go.BigFrame

/-- No two operations write one slot. -/
def dstApartB (ops : Array Oper) : Bool := (List.range ops.size).all fun i => (List.range ops.size).all fun j => i == j || (((ops[i]?).bind (·.dst)).isNone || ((ops[i]?).bind (·.dst)) != ((ops[j]?).bind (·.dst)))
/-- Every slot that is written lies in the frame. -/
def dstLtB (ops : Array Oper) (n : Nat) : Bool := (List.range ops.size).all fun i => match (ops[i]?).bind (·.dst) with | some d => decide (d < n) | none => true
/-- Every operation waits for earlier ones alone. -/
def ordB (ops : Array Oper) : Bool := (List.range ops.size).all fun i => match ops[i]? with | some o => o.after.all fun e => decide (e.on < i) | none => true

theorem dstApart_spec {ops : Array Oper} (h : dstApartB ops = true) {i j : Nat} {oi oj : Oper} {d : Tmp} (hi : ops[i]? = some oi) (hj : ops[j]? = some oj) (hij : i ≠ j) (hd : oi.dst = some d) : oj.dst ≠ some d := by
  intro hd'
  have li : i < ops.size := (Array.getElem?_eq_some_iff.1 hi).1
  have lj : j < ops.size := (Array.getElem?_eq_some_iff.1 hj).1
  have h1 := List.all_eq_true.1 (List.all_eq_true.1 h i (List.mem_range.2 li)) j (List.mem_range.2 lj)
  rw [hi, hj] at h1
  simp [hd, hd', hij] at h1
theorem dstLt_spec {ops : Array Oper} {n : Nat} (h : dstLtB ops n = true) {i : Nat} {oi : Oper} {d : Tmp} (hi : ops[i]? = some oi) (hd : oi.dst = some d) : d < n := by
  have li : i < ops.size := (Array.getElem?_eq_some_iff.1 hi).1
  have h1 := List.all_eq_true.1 h i (List.mem_range.2 li)
  rw [hi] at h1
  simpa [hd] using h1
theorem ord_spec {ops : Array Oper} (h : ordB ops = true) {i : Nat} {oi : Oper} (hi : ops[i]? = some oi) {e : Edge} (he : e ∈ oi.after) : e.on < i := by
  have li : i < ops.size := (Array.getElem?_eq_some_iff.1 hi).1
  have h1 := List.all_eq_true.1 h i (List.mem_range.2 li)
  rw [hi] at h1
  exact of_decide_eq_true (Array.all_eq_true_iff_forall_mem.1 h1 e he)

theorem getD_put_ne {xs : Array Value} {d t : Nat} {v u : Value} (h : d ≠ t) : (xs.setIfInBounds d v).getD t u = xs.getD t u := by
  simp [Array.getD_eq_getD_getElem?, Array.getElem?_setIfInBounds_ne h]
section
variable {P : Program} {ops : Array Oper} {Q : Exit → Act → World → Prop} {md : Region.Mode}
/-- What stands of the frame whatever has come up. -/
structure PFrm (ops : Array Oper) (S : World → Prop) (a0 : Act) (a : Act) (w : World) : Prop where
  cls : S w
  defers : a.defers = a0.defers
  len : a.tmps.size = a0.tmps.size
  old : ∀ t, (∀ (i : Nat) o, ops[i]? = some o → o.dst ≠ some t) → a.tmps.getD t undef = a0.tmps.getD t undef
structure PInv (ops : Array Oper) (S : World → Prop) (G : Nat → Value → World → Prop) (a0 : Act) (listed : Array Bool) (a : Act) (w : World) : Prop extends PFrm ops S a0 a w where
  size : listed.size = ops.size
  got : ∀ (i : Nat) o d, ops[i]? = some o → listed.getD i false = true → o.dst = some d → G i (a.tmps.getD d undef) w

theorem ready_none {listed : Array Bool} (hs : listed.size = ops.size) (ho : ordB ops = true) (h : Region.ready md ops listed = []) : ∀ n i, i < n → i < ops.size → listed.getD i false = true := by
  intro n
  induction n with
  | zero => intro i hi; omega
  | succ n ih =>
    intro i hi hlt
    rcases Nat.lt_or_ge i n with h1 | h1
    · exact ih i h1 hlt
    · have hin : i = n := by omega
      cases hl : listed.getD i false with
      | true => rfl
      | false =>
        exfalso
        have hm : i ∈ Region.ready md ops listed := by
          refine mem_ready.2 ⟨?_, ops[i], Array.getElem?_eq_getElem hlt, fun e he _ => ih _ ?_ ?_⟩
          · have : i < listed.size := by omega
            simpa [Array.getD, this] using hl
          · have := ord_spec ho (Array.getElem?_eq_getElem hlt) he
            omega
          · have := ord_spec ho (Array.getElem?_eq_getElem hlt) he
            omega
        rw [h] at hm
        cases hm

theorem wpAny_posts {S : World → Prop} {G : Nat → Value → World → Prop} {a0 : Act} (E : World → World → Prop) (hap : dstApartB ops = true) (hsz : dstLtB ops a0.tmps.size = true) (hord : ordB ops = true)
    (hup : ∀ i v w w', E w w' → G i v w → G i v w')
    (hend : ∀ a w, PFrm ops S a0 a w → (∀ (i : Nat) o d, ops[i]? = some o → o.dst = some d → G i (a.tmps.getD d undef) w) → Q .normal a w)
    (hstep : ∀ (i : Nat) o, ops[i]? = some o → ∀ a w, PFrm ops S a0 a w → (∀ e ∈ o.after, Region.binds md e = true → ∀ oj d, ops[e.on]? = some oj → oj.dst = some d → G e.on (a.tmps.getD d undef) w) →
      wpOp P ops Q i (fun a' w' => ∃ v, a' = a.put o.dst v ∧ S w' ∧ E w w' ∧ G i v w') a w) :
    ∀ (fuel : Nat) (listed : Array Bool) (a : Act) (w : World), listed.toList.countP (fun b => !b) ≤ fuel → PInv ops S G a0 listed a w → wpAny P md ops Q fuel listed a w := by
  have fin : ∀ (listed : Array Bool) (a : Act) (w : World), PInv ops S G a0 listed a w → Region.ready md ops listed = [] → Q .normal a w := fun listed a w I hr =>
    hend a w I.toPFrm fun i o d hi hd => I.got i o d hi (ready_none I.size hord hr (i + 1) i (by omega) (Array.getElem?_eq_some_iff.1 hi).1) hd
  intro fuel
  induction fuel with
  | zero =>
    intro listed a w hc I
    have hr : Region.ready md ops listed = [] := by
      cases hr : Region.ready md ops listed with
      | nil => rfl
      | cons i rs =>
        exfalso
        have hm : i ∈ Region.ready md ops listed := by rw [hr]; exact List.mem_cons_self
        obtain ⟨hu, o, ho, _⟩ := mem_ready.1 hm
        have li : i < listed.size := by rw [I.size]; exact (Array.getElem?_eq_some_iff.1 ho).1
        have h0 := List.countP_eq_zero.1 (Nat.le_zero.1 hc) listed[i] (by simp)
        have : listed[i] = false := by simpa [Array.getD, li] using hu
        rw [this] at h0
        simp at h0
    exact ⟨hr, fin _ _ _ I hr⟩
  | succ fuel ih =>
    intro listed a w hc I
    refine ⟨fin _ _ _ I, fun i hi => ?_⟩
    obtain ⟨hu, o, ho, hall⟩ := mem_ready.1 hi
    have lo : i < ops.size := (Array.getElem?_eq_some_iff.1 ho).1
    have li : i < listed.size := by rw [I.size]; exact lo
    have hf : listed[i] = false := by simpa [Array.getD, li] using hu
    refine wpOp_mono ?_ (hstep i o ho a w I.toPFrm (fun e he hb oj d hj hd => I.got e.on oj d hj (hall e he hb) hd))
    rintro a' w' ⟨v, rfl, hS, hE, hG⟩
    refine ih _ _ _ ?_ ?_
    · have : (listed.setIfInBounds i true).toList = listed.toList.set i true := by simp
      rw [this, List.countP_set (by simpa using li)]
      simp only [Array.getElem_toList, hf, Bool.not_false, Bool.not_true, if_true, Bool.false_eq_true, if_false]
      omega
    · refine ⟨⟨hS, ?_, ?_, ?_⟩, ?_, ?_⟩
      · rw [← I.defers]; unfold Act.put; split <;> rfl
      · rw [← I.len]; unfold Act.put; split <;> simp
      · intro t ht
        rw [← I.old t ht]
        cases hd : o.dst with
        | none => rfl
        | some d =>
          have : d ≠ t := fun h => ht i o ho (by rw [hd, h])
          simp only [Act.put]
          exact getD_put_ne this
      · simp [I.size]
      · intro j oj d hj hl hd
        by_cases hij : i = j
        · subst hij
          have : oj = o := Option.some.inj (hj.symm.trans ho)
          subst this
          have hlt : d < a.tmps.size := by rw [I.len]; exact dstLt_spec hsz hj hd
          rw [hd]
          simp only [Act.put]
          simpa [Array.getD, hlt] using hG
        · rw [getD_set_ne false hij] at hl
          have h1 := hup j _ w w' hE (I.got j oj d hj hl hd)
          cases hdo : o.dst with
          | none => exact h1
          | some d' =>
            have : d' ≠ d := fun h => dstApart_spec hap hj ho (Ne.symm hij) hd (by rw [hdo, h])
            simp only [Act.put]
            rw [getD_put_ne this]
            exact h1
/-- **A region that draws its order, each operation shown once.** -/
theorem wp_region_posts {id : Nat} {a0 : Act} {w0 : World} (hm : P.follows .mixedOrders = true) {S : World → Prop} {G : Nat → Value → World → Prop} (E : World → World → Prop) (hap : dstApartB ops = true) (hsz : dstLtB ops a0.tmps.size = true) (hord : ordB ops = true)
    (hup : ∀ i v w w', E w w' → G i v w → G i v w') (h0 : S w0.drew)
    (hstep : ∀ (i : Nat) o, ops[i]? = some o → ∀ a w, PFrm ops S a0 a w → (∀ e ∈ o.after, Region.binds .any e = true → ∀ oj d, ops[e.on]? = some oj → oj.dst = some d → G e.on (a.tmps.getD d undef) w) →
      wpOp P ops Q i (fun a' w' => ∃ v, a' = a.put o.dst v ∧ S w' ∧ E w w' ∧ G i v w') a w)
    (hend : ∀ a w, PFrm ops S a0 a w → (∀ (i : Nat) o d, ops[i]? = some o → o.dst = some d → G i (a.tmps.getD d undef) w) → Q .normal a w) :
    (Code.region id ops true).wp P Q a0 w0 := by
  refine wp_region_any hm (wpAny_posts E hap hsz hord hup hend hstep ops.size _ _ _ ?_ ⟨⟨h0, rfl, rfl, fun _ _ => rfl⟩, by simp, ?_⟩)
  · have := List.countP_le_length (p := fun b => !b) (l := (Array.replicate ops.size false).toList)
    simpa using this
  · intro i o d hi hl
    have := (Array.getElem?_eq_some_iff.1 hi).1
    simp [Array.getD, this] at hl
/-- p of each entry of a row, numbered. -/
def AllFrom (p : Nat → Oper → Prop) : Nat → List Oper → Prop
  | _, [] => True
  | k, o :: l => p k o ∧ AllFrom p (k + 1) l
theorem AllFrom.at {p : Nat → Oper → Prop} : ∀ {l : List Oper} {k : Nat}, AllFrom p k l → ∀ (i : Nat) (o : Oper), l[i]? = some o → p (k + i) o
  | [], _, _, i, o, h => by simp at h
  | x :: l, k, h, 0, o, e => by simp at e; subst e; exact h.1
  | x :: l, k, h, i + 1, o, e => by have := AllFrom.at h.2 i o (by simpa using e); rwa [show k + 1 + i = k + (i + 1) by omega] at this
/-- The guard's slot. -/
def guardDst (ops : Array Oper) (o : Oper) : Option (Tmp × Bool) := match o.guard with | some (g, b) => (((ops[g]?).bind (·.dst))).map (·, b) | none => none
theorem wanted_none {o : Oper} {f : Nat → Option Bool} (h : o.guard = none) : Region.wanted o f = true := by simp [Region.wanted, h]
theorem wanted_some {o : Oper} {tm : Array Value} {g : Nat} {b : Bool} {d : Tmp} (h : o.guard = some (g, b)) (hg : ((ops[g]?).bind (·.dst)) = some d) (hv : tm[d]? = some (.bool b)) : Region.wanted o (yielded ops tm) = true := by
  simp [Region.wanted, h, yielded, hg, hv]
/-- One operation's step. -/
def PStep (P : Program) (ops : Array Oper) (Q : Exit → Act → World → Prop) (S : World → Prop) (G : Nat → Value → World → Prop) (E : World → World → Prop) (a0 : Act) (i : Nat) (o : Oper) : Prop :=
  ∀ a w, PFrm ops S a0 a w → (∀ e ∈ o.after, Region.binds .any e = true → ∀ oj d, ops[e.on]? = some oj → oj.dst = some d → G e.on (a.tmps.getD d undef) w) →
    Region.wanted o (yielded ops a.tmps) = true ∧ ∀ K : Act → World → Prop, (∀ v w', S w' → E w w' → G i v w' → K (a.put o.dst v) w') → o.wp P a w K Q
theorem wp_region_steps {id : Nat} {l : List Oper} {a0 : Act} {w0 : World} (hm : P.follows .mixedOrders = true) {S : World → Prop} {G : Nat → Value → World → Prop} (E : World → World → Prop) (hap : dstApartB l.toArray = true) (hsz : dstLtB l.toArray a0.tmps.size = true) (hord : ordB l.toArray = true)
    (hup : ∀ i v w w', E w w' → G i v w → G i v w') (h0 : S w0.drew)
    (hstep : AllFrom (PStep P l.toArray Q S G E a0) 0 l)
    (hend : ∀ a w, PFrm l.toArray S a0 a w → (∀ (i : Nat) o d, l.toArray[i]? = some o → o.dst = some d → G i (a.tmps.getD d undef) w) → Q .normal a w) :
    (Code.region id l.toArray true).wp P Q a0 w0 := by
  refine wp_region_posts hm E hap hsz hord hup h0 (fun i o hi a w hF hD => ?_) hend
  have h1 := hstep.at i o (by simpa using hi)
  rw [Nat.zero_add] at h1
  obtain ⟨h2, h3⟩ := h1 a w hF hD
  unfold wpOp
  simp only [hi, h2, if_true]
  exact .inl (h3 _ fun v w' hS hE hG => ⟨v, rfl, hS, hE, hG⟩)
/-- A slot that the region does not write. -/
def notDstB (ops : Array Oper) (t : Nat) : Bool := ops.all fun o => o.dst != some t
theorem PFrm.at {S : World → Prop} {a0 a : Act} {w : World} (F : PFrm ops S a0 a w) (t : Nat) (h : notDstB ops t = true) : a.tmps.getD t undef = a0.tmps.getD t undef := by
  refine F.old t fun i o ho hd => ?_
  have hm : o ∈ ops := Array.mem_of_getElem? ho
  have := (Array.all_eq_true_iff_forall_mem.1 h) o hm
  simp [hd] at this
theorem get_of {xs : Array Value} {t : Nat} {v : Value} (h : xs.getD t undef = v) (hv : v ≠ undef) : xs[t]? = some v := by
  rw [Array.getD_eq_getD_getElem?] at h
  cases hx : xs[t]? with
  | none => rw [hx] at h; exact absurd h.symm hv
  | some u => rw [hx] at h; rw [← h]; rfl
end
end Go.Proofs.YtmhkacafilpliaaGreat
