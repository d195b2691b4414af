/-
  A region that draws its order, each operation shown once, of which some change what earlier ones made: what an operation left holds until all that use it have come up. The last operation waits for all others. No condition.
  A row of values of the call's own that grows in a region that draws its order; parts of a list as slices; the list of a row. Conditions: values lie in memory, lengths are bounded.
-/
import Derived.Test.YtmhkacafilpliaaGreatRP
import Derived.Test.YtmhkacafilpliaaGreatEN
import Derived.Test.YtmhkacafilpliaaGreatVM
import Derived.Test.YtmhkacafilpliaaGreatLA
namespace Go.Proofs.YtmhkacafilpliaaGreat
open Go.RowKit Go.Sort Go.Shelf Go.BigFrame

/-- Does operation c use what operation i left? -/
def usesB (ops : Array Oper) (c i : Nat) : Bool := match ops[c]? with | some o => o.after.any fun e => Region.binds .any e && e.on == i | none => false
/-- An edge that hands on a value. -/
def handsB (e : Edge) : Bool := Region.binds .any e && (match e.ground with | .data => true | .guard => true | _ => false)
/-- Does operation c read what operation i left? -/
def needB (ops : Array Oper) (c i : Nat) : Bool := match ops[c]? with | some o => o.after.any fun e => handsB e && e.on == i | none => false
/-- Every operation but the last one is used. -/
def userB (ops : Array Oper) : Bool := (List.range (ops.size - 1)).all fun i => (List.range ops.size).any fun c => decide (i < c) && usesB ops c i
/-- Does i hang on j, by so many uses at most? -/
def hangB (ops : Array Oper) : Nat → Nat → Nat → Bool
  | 0, _, _ => false
  | n + 1, i, j => usesB ops i j || (List.range ops.size).any fun c => usesB ops i c && hangB ops n c j
/-- May what i left still be asked for behind j? -/
def liveB (ops : Array Oper) (keep : Nat → Bool) (i j : Nat) : Bool := !hangB ops 6 i j && (keep i || (List.range ops.size).any fun c => needB ops c i && c != j && !usesB ops j c)

theorem usesB_spec {ops : Array Oper} {c i : Nat} (h : usesB ops c i = true) : ∃ o, ops[c]? = some o ∧ ∃ e ∈ o.after, Region.binds .any e = true ∧ e.on = i := by
  unfold usesB at h
  split at h
  · rename_i o ho
    rw [← Array.any_toList] at h
    obtain ⟨e, he, h2⟩ := List.any_eq_true.1 h
    simp only [Bool.and_eq_true, beq_iff_eq] at h2
    exact ⟨o, ho, e, Array.mem_def.2 he, h2.1, h2.2⟩
  · cases h
theorem handsB_binds {e : Edge} (h : handsB e = true) : Region.binds .any e = true := by rw [handsB, Bool.and_eq_true] at h; exact h.1
theorem needB_size {ops : Array Oper} {c i : Nat} (h : needB ops c i = true) : c < ops.size := by
  unfold needB at h
  split at h
  · rename_i o ho; exact (Array.getElem?_eq_some_iff.1 ho).1
  · cases h
theorem needB_of {ops : Array Oper} {c : Nat} {o : Oper} (ho : ops[c]? = some o) {e : Edge} (he : e ∈ o.after) (hb : handsB e = true) : needB ops c e.on = true := by
  unfold needB
  rw [ho]
  show o.after.any _ = true
  rw [← Array.any_toList]
  exact List.any_eq_true.2 ⟨e, Array.mem_def.1 he, by simp [hb]⟩
theorem usesB_of {ops : Array Oper} {c : Nat} {o : Oper} (ho : ops[c]? = some o) {e : Edge} (he : e ∈ o.after) (hb : Region.binds .any e = true) : usesB ops c e.on = true := by
  unfold usesB
  rw [ho]
  show o.after.any _ = true
  rw [← Array.any_toList]
  exact List.any_eq_true.2 ⟨e, Array.mem_def.1 he, by simp [hb]⟩
theorem hangB_spec {ops : Array Oper} {p : Nat → Prop} (h : ∀ i j, p i → usesB ops i j = true → p j) : ∀ (n i j : Nat), p i → hangB ops n i j = true → p j
  | 0, _, _, _, hh => by cases hh
  | n + 1, i, j, hi, hh => by
    rw [hangB, Bool.or_eq_true] at hh
    rcases hh with hh | hh
    · exact h i j hi hh
    · obtain ⟨c, _, hc⟩ := List.any_eq_true.1 hh
      rw [Bool.and_eq_true] at hc
      exact hangB_spec h n c j (h i c hi hc.1) hc.2
theorem userB_spec {ops : Array Oper} (h : userB ops = true) {i : Nat} (hi : i < ops.size - 1) : ∃ c, i < c ∧ usesB ops c i = true := by
  obtain ⟨c, _, h2⟩ := List.any_eq_true.1 (List.all_eq_true.1 h i (List.mem_range.2 hi))
  simp only [Bool.and_eq_true, decide_eq_true_eq] at h2
  exact ⟨c, h2⟩

section
variable {P : Program} {ops : Array Oper} {Q : Exit → Act → World → Prop} {Γ : Type}
/-- Is what i left still to be asked for? -/
def Live (ops : Array Oper) (keep : Nat → Bool) (listed : Array Bool) (i : Nat) : Prop := keep i = true ∨ ∃ c, needB ops c i = true ∧ listed.getD c false = false
structure UInv (ops : Array Oper) (S : Γ → World → Prop) (G : Nat → Γ → Value → World → Prop) (keep : Nat → Bool) (a0 : Act) (listed : Array Bool) (γ : Γ) (a : Act) (w : World) : Prop extends PFrm ops (S γ) a0 a w where
  size : listed.size = ops.size
  clo : ∀ j i, listed.getD j false = true → usesB ops j i = true → listed.getD i false = true
  nolast : ∀ i, i + 1 = ops.size → listed.getD i false = false
  got : ∀ (i : Nat) o d, ops[i]? = some o → listed.getD i false = true → o.dst = some d → Live ops keep listed i → G i γ (a.tmps.getD d undef) w
theorem ready_mem {listed : Array Bool} {i : Nat} (h : i ∈ Region.ready .any ops listed) : listed.getD i false = false ∧ i < ops.size ∧ ∀ k, usesB ops i k = true → listed.getD k false = true := by
  obtain ⟨hu, o, ho, hall⟩ := mem_ready.1 h
  have hlt : i < ops.size := (Array.getElem?_eq_some_iff.1 ho).1
  refine ⟨?_, hlt, fun k hk => ?_⟩
  · by_cases h1 : i < listed.size
    · simpa [Array.getD, h1] using hu
    · simp [Array.getD, h1]
  · obtain ⟨o', ho', e, he, hb, rfl⟩ := usesB_spec hk
    have : o' = o := Option.some.inj (ho'.symm.trans ho)
    subst this
    exact hall e he hb
/-- When the last one is ready all others were. -/
theorem all_listed (hl : userB ops = true) {listed : Array Bool} (clo : ∀ j i, listed.getD j false = true → usesB ops j i = true → listed.getD i false = true) {n : Nat} (hn : n + 1 = ops.size) (hr : ∀ k, usesB ops n k = true → listed.getD k false = true) :
    ∀ m i, i < n → n ≤ i + m → listed.getD i false = true := by
  intro m
  induction m with
  | zero => intro i h1 h2; omega
  | succ m ih =>
    intro i h1 h2
    obtain ⟨c, hc, hu⟩ := userB_spec hl (i := i) (by omega)
    have hcs : c < ops.size := by
      obtain ⟨o, ho, _⟩ := usesB_spec hu
      exact (Array.getElem?_eq_some_iff.1 ho).1
    by_cases hcn : c = n
    · subst hcn; exact hr i hu
    · exact clo c i (ih c (by omega) (by omega)) hu
theorem some_ready (hord : ordB ops = true) {listed : Array Bool} (hs : listed.size = ops.size) {n : Nat} (hn : n < ops.size) (hu : listed.getD n false = false) : Region.ready .any ops listed ≠ [] := by
  intro h
  have := ready_none hs hord h (n + 1) n (by omega) hn
  rw [hu] at this
  cases this
theorem wpAny_uses {S : Γ → World → Prop} {G : Nat → Γ → Value → World → Prop} {keep : Nat → Bool} {a0 : Act} (E : Nat → Γ → World → Γ → World → Prop) (hap : dstApartB ops = true) (hsz : dstLtB ops a0.tmps.size = true) (hord : ordB ops = true) (hlst : userB ops = true) (hpos : 0 < ops.size)
    (hup : ∀ i j v γ w γ' w', i ≠ j → liveB ops keep i j = true → E j γ w γ' w' → G i γ v w → G i γ' v w')
    (hstep : ∀ (i : Nat) o, ops[i]? = some o → i + 1 ≠ ops.size → ∀ γ a w, PFrm ops (S γ) a0 a w → (∀ e ∈ o.after, handsB e = true → ∀ oj d, ops[e.on]? = some oj → oj.dst = some d → G e.on γ (a.tmps.getD d undef) w) →
      wpOp P ops Q i (fun a' w' => ∃ v γ', a' = a.put o.dst v ∧ S γ' w' ∧ E i γ w γ' w' ∧ G i γ' v w') a w)
    (hlast : ∀ (i : Nat) o, ops[i]? = some o → i + 1 = ops.size → ∀ γ a w, PFrm ops (S γ) a0 a w → (∀ e ∈ o.after, handsB e = true → ∀ oj d, ops[e.on]? = some oj → oj.dst = some d → G e.on γ (a.tmps.getD d undef) w) →
      (∀ k oj d, ops[k]? = some oj → oj.dst = some d → k ≠ i → keep k = true → G k γ (a.tmps.getD d undef) w) → wpOp P ops Q i (fun a' w' => Q .normal a' w') a w) :
    ∀ (fuel : Nat) (listed : Array Bool) (γ : Γ) (a : Act) (w : World), listed.toList.countP (fun b => !b) ≤ fuel → UInv ops S G keep a0 listed γ a w → wpAny P .any ops Q fuel listed a w := by
  intro fuel
  induction fuel with
  | zero =>
    intro listed γ a w hc I
    exfalso
    have hn : ops.size - 1 < listed.size := by rw [I.size]; omega
    have h0 := List.countP_eq_zero.1 (Nat.le_zero.1 hc) listed[ops.size - 1] (by simp)
    have h1 := I.nolast (ops.size - 1) (by omega)
    have : listed[ops.size - 1] = false := by simpa [Array.getD, hn] using h1
    rw [this] at h0
    simp at h0
  | succ fuel ih =>
    intro listed γ a w hc I
    have hnl := I.nolast (ops.size - 1) (by omega)
    refine ⟨fun hr => absurd hr (some_ready hord I.size (n := ops.size - 1) (by omega) hnl), fun i hi => ?_⟩
    obtain ⟨hu, o, ho, hall⟩ := mem_ready.1 hi
    obtain ⟨hi1, lo, hdeps⟩ := ready_mem hi
    have li : i < listed.size := by rw [I.size]; exact lo
    have hf : listed[i] = false := by simpa [Array.getD, li] using hi1
    have hD : ∀ e ∈ o.after, handsB e = true → ∀ oj d, ops[e.on]? = some oj → oj.dst = some d → G e.on γ (a.tmps.getD d undef) w := fun e he hb oj d hj hd =>
      I.got e.on oj d hj (hall e he (handsB_binds hb)) hd (.inr ⟨i, needB_of ho he hb, hi1⟩)
    by_cases hlasti : i + 1 = ops.size
    · have hall' : ∀ k, k < i → listed.getD k false = true := fun k hk => all_listed hlst I.clo hlasti hdeps i k hk (by omega)
      refine wpOp_mono ?_ (hlast i o ho hlasti γ a w I.toPFrm hD fun k oj d hk hd hne hkeep => I.got k oj d hk (hall' k (by have := (Array.getElem?_eq_some_iff.1 hk).1; omega)) hd (.inl hkeep))
      intro a' w' hQ
      have hemp : Region.ready .any ops (listed.setIfInBounds i true) = [] := by
        cases hr : Region.ready .any ops (listed.setIfInBounds i true) with
        | nil => rfl
        | cons k ks =>
          exfalso
          have hm : k ∈ Region.ready .any ops (listed.setIfInBounds i true) := by rw [hr]; exact List.mem_cons_self
          obtain ⟨h1, h2, _⟩ := ready_mem hm
          by_cases hki : i = k
          · subst hki
            simp [Array.getD, li] at h1
          · rw [getD_set_ne false hki, hall' k (by omega)] at h1
            cases h1
      cases fuel with
      | zero => exact ⟨hemp, hQ⟩
      | succ fuel => exact ⟨fun _ => hQ, fun k hk => by rw [hemp] at hk; cases hk⟩
    · refine wpOp_mono ?_ (hstep i o ho hlasti γ a w I.toPFrm hD)
      rintro a' w' ⟨v, γ', rfl, hS, hE, hG⟩
      refine ih _ γ' _ _ ?_ ?_
      · have : (listed.setIfInBounds i true).toList = listed.toList.set i true := by simp
        rw [this, List.countP_set (by simpa using li)]
        simp only [Array.getElem_toList, hf, Bool.not_false, Bool.not_true, if_true, Bool.false_eq_true, if_false]
        omega
      · have gi : (listed.setIfInBounds i true).getD i false = true := by simp [Array.getD, li]
        refine ⟨⟨hS, ?_, ?_, ?_⟩, ?_, ?_, ?_, ?_⟩
        · rw [← I.defers]; unfold Act.put; split <;> rfl
        · rw [← I.len]; unfold Act.put; split <;> simp
        · intro t ht
          rw [← I.old t ht]
          cases hd : o.dst with
          | none => rfl
          | some d =>
            have : d ≠ t := fun h => ht i o ho (by rw [hd, h])
            simp only [Act.put]
            exact getD_put_ne this
        · simp [I.size]
        · intro j k hj hjk
          by_cases hki : i = k
          · subst hki; exact gi
          · rw [getD_set_ne false hki]
            by_cases hij : i = j
            · subst hij; exact hdeps k hjk
            · rw [getD_set_ne false hij] at hj
              exact I.clo j k hj hjk
        · intro j hj
          have : i ≠ j := fun h => hlasti (by rw [h]; exact hj)
          rw [getD_set_ne false this]
          exact I.nolast j hj
        · intro j oj d hj hl hd hlive
          by_cases hij : i = j
          · subst hij
            have : oj = o := Option.some.inj (hj.symm.trans ho)
            subst this
            have hlt : d < a.tmps.size := by rw [I.len]; exact dstLt_spec hsz hj hd
            rw [hd]
            simp only [Act.put]
            simpa [Array.getD, hlt] using hG
          · rw [getD_set_ne false hij] at hl
            have hnc : ∀ c, (listed.setIfInBounds i true).getD c false = false → i ≠ c ∧ listed.getD c false = false := fun c hc => by
              have hne : i ≠ c := fun h => by subst h; rw [gi] at hc; cases hc
              rw [getD_set_ne false hne] at hc
              exact ⟨hne, hc⟩
            have hlive0 : Live ops keep listed j := by
              rcases hlive with h | ⟨c, h1, h2⟩
              · exact .inl h
              · exact .inr ⟨c, h1, (hnc c h2).2⟩
            have hlb : liveB ops keep j i = true := by
              unfold liveB
              have hh : hangB ops 6 j i = false := by
                cases hb : hangB ops 6 j i with
                | false => rfl
                | true =>
                  have := hangB_spec (p := fun k => listed.getD k false = true) (fun a b ha hab => I.clo a b ha hab) 6 j i hl hb
                  rw [hi1] at this
                  cases this
              rw [hh, Bool.not_false, Bool.true_and]
              rcases hlive with h | ⟨c, h1, h2⟩
              · rw [h]; rfl
              · rw [Bool.or_eq_true]
                right
                obtain ⟨h3, h4⟩ := hnc c h2
                have hcs : c < ops.size := needB_size h1
                refine List.any_eq_true.2 ⟨c, List.mem_range.2 hcs, ?_⟩
                have h5 : usesB ops i c = false := by
                  cases h6 : usesB ops i c with
                  | false => rfl
                  | true => rw [hdeps c h6] at h4; cases h4
                simp [h1, h5, Ne.symm h3]
            have h1 := hup j i _ γ w γ' w' (Ne.symm hij) hlb hE (I.got j oj d hj hl hd hlive0)
            cases hdo : o.dst with
            | none => exact h1
            | some d' =>
              have : d' ≠ d := fun h => dstApart_spec hap hj ho (Ne.symm hij) hd (by rw [hdo, h])
              simp only [Act.put]
              rw [getD_put_ne this]
              exact h1
/-- One operation's step, what it does to the world hanging on its number. -/
def UStep (P : Program) (ops : Array Oper) (Q : Exit → Act → World → Prop) (S : Γ → World → Prop) (G : Nat → Γ → Value → World → Prop) (E : Nat → Γ → World → Γ → World → Prop) (a0 : Act) (i : Nat) (o : Oper) : Prop :=
  ∀ γ a w, PFrm ops (S γ) a0 a w → (∀ e ∈ o.after, handsB e = true → ∀ oj d, ops[e.on]? = some oj → oj.dst = some d → G e.on γ (a.tmps.getD d undef) w) →
    Region.wanted o (yielded ops a.tmps) = true ∧ ∀ K : Act → World → Prop, (∀ γ' v w', S γ' w' → E i γ w γ' w' → G i γ' v w' → K (a.put o.dst v) w') → o.wp P a w K Q
/-- The last one's. -/
def ULast (P : Program) (ops : Array Oper) (Q : Exit → Act → World → Prop) (S : Γ → World → Prop) (G : Nat → Γ → Value → World → Prop) (keep : Nat → Bool) (a0 : Act) (i : Nat) (o : Oper) : Prop :=
  ∀ γ a w, PFrm ops (S γ) a0 a w → (∀ e ∈ o.after, handsB e = true → ∀ oj d, ops[e.on]? = some oj → oj.dst = some d → G e.on γ (a.tmps.getD d undef) w) →
    (∀ k oj d, ops[k]? = some oj → oj.dst = some d → k ≠ i → keep k = true → G k γ (a.tmps.getD d undef) w) →
    Region.wanted o (yielded ops a.tmps) = true ∧ ∀ K : Act → World → Prop, (∀ a' w', Q .normal a' w' → K a' w') → o.wp P a w K Q
/-- p of each entry but the last one, of which q. -/
def AllBut (p q : Nat → Oper → Prop) : Nat → List Oper → Prop
  | _, [] => True
  | k, [o] => q k o
  | k, o :: o' :: l => p k o ∧ AllBut p q (k + 1) (o' :: l)
theorem AllBut.at {p q : Nat → Oper → Prop} : ∀ {l : List Oper} {k : Nat}, AllBut p q k l → ∀ (i : Nat) (o : Oper), l[i]? = some o → (i + 1 ≠ l.length → p (k + i) o) ∧ (i + 1 = l.length → q (k + i) o)
  | [], _, _, i, o, h => by simp at h
  | [x], k, h, 0, o, e => by simp at e; subst e; exact ⟨fun h => absurd rfl h, fun _ => h⟩
  | [x], k, h, i + 1, o, e => by simp at e
  | x :: y :: l, k, h, 0, o, e => by simp at e; subst e; exact ⟨fun _ => h.1, fun h => by simp at h⟩
  | x :: y :: l, k, h, i + 1, o, e => by
    have := AllBut.at h.2 i o (by simpa using e)
    rw [show k + 1 + i = k + (i + 1) by omega] at this
    exact ⟨fun h => this.1 (by simpa using h), fun h => this.2 (by simpa using h)⟩
/-- **A region that draws its order, each operation shown once; what was used up may change.** -/
theorem wp_region_uses {id : Nat} {l : List Oper} {a0 : Act} {w0 : World} (hm : P.follows .mixedOrders = true) {S : Γ → World → Prop} {G : Nat → Γ → Value → World → Prop} (E : Nat → Γ → World → Γ → World → Prop) (keep : Nat → Bool) (γ0 : Γ) (hap : dstApartB l.toArray = true) (hsz : dstLtB l.toArray a0.tmps.size = true) (hord : ordB l.toArray = true) (hlst : userB l.toArray = true) (hpos : 0 < l.length)
    (hup : ∀ i j v γ w γ' w', i ≠ j → liveB l.toArray keep i j = true → E j γ w γ' w' → G i γ v w → G i γ' v w') (h0 : S γ0 w0.drew)
    (hstep : AllBut (UStep P l.toArray Q S G E a0) (ULast P l.toArray Q S G keep a0) 0 l) :
    (Code.region id l.toArray true).wp P Q a0 w0 := by
  refine wp_region_any hm (wpAny_uses E hap hsz hord hlst (by simpa using hpos) hup ?_ ?_ l.toArray.size _ γ0 _ _ ?_ ⟨⟨h0, rfl, rfl, fun _ _ => rfl⟩, by simp, ?_, ?_, ?_⟩)
  · intro i o hi hne γ a w hF hD
    have h1 := (hstep.at i o (by simpa using hi)).1 (by simpa using hne)
    rw [Nat.zero_add] at h1
    obtain ⟨h2, h3⟩ := h1 γ a w hF hD
    unfold wpOp
    simp only [hi, h2, if_true]
    exact .inl (h3 _ fun γ' v w' hS hE hG => ⟨v, γ', rfl, hS, hE, hG⟩)
  · intro i o hi hne γ a w hF hD hK
    have h1 := (hstep.at i o (by simpa using hi)).2 (by simpa using hne)
    rw [Nat.zero_add] at h1
    obtain ⟨h2, h3⟩ := h1 γ a w hF hD hK
    unfold wpOp
    simp only [hi, h2, if_true]
    exact .inl (h3 _ fun a' w' hQ => hQ)
  · have := List.countP_le_length (p := fun b => !b) (l := (Array.replicate l.toArray.size false).toList)
    simpa using this
  · intro j i hj
    have : ∀ k, (Array.replicate l.toArray.size false).getD k false = false := fun k => by simp [Array.getD]
    rw [this] at hj
    cases hj
  · intro i _
    simp [Array.getD]
  · intro i o d hi hl
    have := (Array.getElem?_eq_some_iff.1 hi).1
    simp [Array.getD] at hl
end
end Go.Proofs.YtmhkacafilpliaaGreat

namespace Go.Proofs.YtmhkacafilpliaaGreat
open Go.RowKit Go.Sort Go.Shelf Go.BigFrame

/-- A value's constant. -/
abbrev GC (c : Value) (v : Value) (_ : World) : Prop := v = c
/-- An element that was there ahead of the region. -/
def KidOk (N : Nat) (W0 : World) (r : AV) : Prop := (∀ W, Below N W0 W → Rd W r) ∧ r.w ≤ 1048576
/-- A row of the call's own whose elements were there ahead of the region; it does not lie in the block g. -/
def GOwn (N : Nat) (W0 : World) (g : Option Nat) (l : List AV) (v : Value) (w : World) : Prop := (∃ a c, v = .slice a l.length c) ∧ OwnV w N v l ∧ (∀ r ∈ l, KidOk N W0 r) ∧ ∀ q, v.ownBlock = some q → g ≠ some q
/-- One element in a block of its own. -/
def GOne (N : Nat) (W0 : World) (y : AV) (v : Value) (w : World) : Prop := ∃ b, v = .slice (some ⟨b, 0, none⟩) 1 1 ∧ N ≤ b ∧ w.heap[b]? = some (.cells #[.int .u8 y.k, .string y.t, .slice y.la y.l.length y.lc, .slice y.ka y.ks.length y.kc] 26 (0, 0)) ∧ KidOk N W0 y
theorem GOwn.up {N : Nat} {W0 w w' : World} {g g' : Option Nat} {l : List AV} {v : Value} (h : GOwn N W0 g l v w) (hb : Below w.heap.size w w') (hg : g' = g ∨ g' = some w.heap.size) : GOwn N W0 g' l v w' := ⟨h.1, own_below h.2.1 hb, h.2.2.1, fun q hq e => by
  have h1 := (World.ownsRow.lt h.2.1 q hq).2
  rcases hg with rfl | rfl
  · exact h.2.2.2 q hq e
  · injection e with e; omega⟩
theorem GOne.up {N : Nat} {W0 w w' : World} {y : AV} {v : Value} (h : GOne N W0 y v w) (hb : Below w.heap.size w w') : GOne N W0 y v w' := by
  obtain ⟨b, h1, h2, h3, h4⟩ := h
  exact ⟨b, h1, h2, blk_via hb h3, h4⟩
theorem own_formE {w : World} {base : Nat} {v : Value} {l : List AV} (h : OwnV w base v l) : ∃ a c, v = .slice a l.length c := by
  rcases h.2 with ⟨e, h0⟩ | ⟨g, cap, cur, e, _⟩
  · exact ⟨none, 0, by rw [e, h0]⟩
  · exact ⟨_, _, e⟩
/-- append(row, part...). -/
theorem app_more {N : Nat} {W0 w : World} {g : Option Nat} {l m : List AV} {v : Value} {A : Option Addr} {c lo hi : Nat} (hg : GOwn N W0 g l v w) (hs : SlE AV.enc 4 w lo hi A m) (hk : ∀ r ∈ m, KidOk N W0 r) (hl : l.length + m.length ≤ 16777216) (hN : N ≤ w.heap.size) (hgl : ∀ b, g = some b → b < w.heap.size) :
    ∃ v' w', (∀ ty, (Builtin.append_ #[23, 23] ty #[v, .slice A m.length c]).run Tryz.prog w = .ok v' w') ∧ GOwn N W0 g (l ++ m) v' w' ∧ Below N w w' ∧ ∀ b, g = some b → w'.heap[b]? = w.heap[b]? := by
  obtain ⟨v', w', h1, h2, h3, h4⟩ := app_val (c := c) hg.2.1 hs hl hN
  refine ⟨v', w', h1, ⟨own_formE h2, h2, fun r hr => (List.mem_append.1 hr).elim (hg.2.2.1 r) (hk r), fun q hq e => ?_⟩, below_of_grown h3 hN fun k hk => (World.ownsRow.lt hg.2.1 k hk).1, fun b hb => h3.block b (hgl b hb) fun e => hg.2.2.2 b e.symm hb⟩
  rcases h4 with h4 | h4
  · exact hg.2.2.2 q (h4 ▸ hq) e
  · rw [h4] at hq
    injection hq with hq
    have := hgl q e
    omega
/-- append(nil, part...): no old block is touched. -/
theorem app_first {N : Nat} {W0 w : World} {g : Option Nat} {m : List AV} {A : Option Addr} {c lo hi : Nat} (hs : SlE AV.enc 4 w lo hi A m) (hk : ∀ r ∈ m, KidOk N W0 r) (hl : m.length ≤ 16777216) (hN : N ≤ w.heap.size) (hgl : ∀ b, g = some b → b < w.heap.size) :
    ∃ v' w', (∀ ty, (Builtin.append_ #[23, 23] ty #[.slice none 0 0, .slice A m.length c]).run Tryz.prog w = .ok v' w') ∧ GOwn N W0 g m v' w' ∧ Below w.heap.size w w' := by
  obtain ⟨v', w', h1, h2, h3, h4⟩ := app_val (w := w) (base := N) (v := .slice none 0 0) (l := []) (c := c) (World.ownsRow_nil _ _ _ _) hs (by simpa using hl) hN
  rw [List.nil_append] at h2
  refine ⟨v', w', h1, ⟨own_formE h2, h2, hk, fun q hq e => ?_⟩, below_of_grown h3 (Nat.le_refl _) fun k hk => by cases hk⟩
  rcases h4 with h4 | h4
  · rw [h4] at hq; cases hq
  · rw [h4] at hq
    injection hq with hq
    have := hgl q e
    omega
theorem app_one {N : Nat} {W0 w : World} {g : Option Nat} {l : List AV} {y : AV} {v u : Value} (hg : GOwn N W0 g l v w) (ho : GOne N W0 y u w) (hl : l.length + 1 ≤ 16777216) (hN : N ≤ w.heap.size) (hgl : ∀ b, g = some b → b < w.heap.size) :
    ∃ v' w', (∀ ty, (Builtin.append_ #[23, 23] ty #[v, u]).run Tryz.prog w = .ok v' w') ∧ GOwn N W0 g (l ++ [y]) v' w' ∧ Below N w w' ∧ ∀ b, g = some b → w'.heap[b]? = w.heap[b]? := by
  obtain ⟨b, rfl, _, hb, hk⟩ := ho
  exact app_more (m := [y]) (c := 1) hg (lit_sl (enc := AV.enc) (size := 4) (l := [y]) AV.enc_len hb) (by simpa using hk) hl hN hgl
theorem GOwn.sl {N : Nat} {W0 w : World} {g : Option Nat} {l : List AV} {a : Option Addr} {n c : Nat} (h : GOwn N W0 g l (.slice a n c) w) : SlE AV.enc 4 w 0 w.heap.size a l := (own_sl AV.enc_len h.2.1).widen (Nat.zero_le _) (Nat.le_refl _)
/-- An append as one operation. -/
theorem op_append {P : Program} {o : Oper} {a : Act} {K : Act → World → Prop} {Q : Exit → Act → World → Prop} {w w' : World} {v' sv xv : Value} {s x : Operand} {t : TypeId}
    (ho : o.op = .call { callee := .builtin .append, args := #[s, x], argTypes := #[t, t] }) (hs : a.eval s = sv) (hx : a.eval x = xv)
    (hrun : ∀ ty, (Builtin.append_ #[t, t] ty #[sv, xv]).run P w = .ok v' w') (h : K (a.put o.dst v') w') : o.wp P a w K Q := by
  subst hs hx
  unfold Oper.wp execOp
  simp only [ho, resolve, invoke, builtin, Sem.run_bind, Sem.run_pure, Result.andThen_ok, List.map_toArray, List.map_cons, List.map_nil, hrun]
  exact h
/-- A part of a slice as one operation. -/
theorem op_slice {P : Program} {o : Oper} {a : Act} {K : Act → World → Prop} {Q : Exit → Act → World → Prop} {w : World} {v' : Value} {x : Operand} {lo hi : Option Operand} {t : TypeId} {sv : Value} {lv hv : Option Value}
    (ho : o.op = .slice t x lo hi none) (hs : a.eval x = sv) (hl : lo.map a.eval = lv) (hh : hi.map a.eval = hv)
    (hrun : (Instr.sliceAt t sv lv hv none).run P w = .ok v' w) (h : K (a.put o.dst v') w) : o.wp P a w K Q := by
  subst hs hl hh
  unfold Oper.wp execOp
  simp only [ho, Sem.run_bind, Sem.run_pure, Result.andThen_ok, Option.map_none, hrun]
  exact h
set_option maxRecDepth 100000 in
/-- l[:k]. -/
theorem run_to (a : Option Addr) (n c k : Nat) (h : k ≤ c) : ∃ A, (∀ w, (Instr.sliceAt 23 (.slice a n c) none (some (.int .i64 (k : Int))) none).run Tryz.prog w = .ok (.slice A k c) w) ∧ ∀ (m : List AV) (W : World) (lo hi : Nat), SlE AV.enc 4 W lo hi a m → SlE AV.enc 4 W lo hi A (m.take k) := by
  refine ⟨if c = 0 then a else a.map (·.add (0 * 4)), ?_, ?_⟩
  · intro w
    rw [run_sliceAt_slice _ _ _ _ _ _ Tryz.underlying23, run_slice_h _ _ _ _ _ Tryz.underlying23 .i64 (k : Int) (by omega) (by omega)]
    rw [show (sizeOf (Tryz.prog.elem 23)).run Tryz.prog w = .ok 4 w by kernel_rfl]
    simp [Result.andThen, sliced]
  · intro m W lo hi hs hl
    have hl' : 0 < m.length := by rw [List.length_take] at hl; omega
    obtain ⟨b, off, rfl, h1, h2, h3, h4⟩ := hs hl'
    refine ⟨b, off, by split <;> simp [Addr.add], h1, h2, h3, fun i x hx => h4 i x ?_⟩
    have hik : i < k := by have := (List.getElem?_eq_some_iff.1 hx).1; rw [List.length_take] at this; omega
    rwa [List.getElem?_take_of_lt hik] at hx
set_option maxRecDepth 100000 in
/-- l[k:]. -/
theorem run_from (a : Option Addr) (n c k : Nat) (h : k ≤ n) : ∃ A, (∀ w, (Instr.sliceAt 23 (.slice a n c) (some (.int .i64 (k : Int))) none none).run Tryz.prog w = .ok (.slice A (n - k) (c - k)) w) ∧ ∀ (m : List AV) (W : World) (lo hi : Nat), m.length = n → n ≤ c → SlE AV.enc 4 W lo hi a m → SlE AV.enc 4 W lo hi A (m.drop k) := by
  refine ⟨if c = k then a else a.map (·.add (k * 4)), ?_, ?_⟩
  · intro w
    rw [run_sliceAt_slice _ _ _ _ _ _ Tryz.underlying23, run_slice_l _ _ _ _ _ Tryz.underlying23 .i64 (k : Int) (by omega) (by omega)]
    rw [show (sizeOf (Tryz.prog.elem 23)).run Tryz.prog w = .ok 4 w by kernel_rfl]
    simp [Result.andThen, sliced]
  · intro m W lo hi hm hc hs hl
    rw [List.length_drop] at hl
    obtain ⟨b, off, rfl, h1, h2, h3, h4⟩ := hs (by omega)
    refine ⟨b, off + k * 4, by rw [if_neg (by omega)]; simp [Addr.add], h1, h2, h3, fun i x hx => ?_⟩
    rw [List.getElem?_drop] at hx
    have := h4 (k + i) x hx
    rwa [show off + k * 4 + i * 4 = off + (k + i) * 4 by omega]
section
variable {H : Type} {enc : TypeId × Value → H} {w : World}
open Go.ChangeShapes Go.WideShapes Go.Deep Go.Joins
/-- An argument's length is no more than its capacity. -/
theorem list_cap {a : Option Addr} {n c : Nat} {d : DataW H} {p : List MemPlace} (h : DataW.Trod enc Tryz.prog w 0 (fun _ => true) true 23 (.slice a n c) d p) : n ≤ c := by
  obtain ⟨fuel, hf⟩ := h
  rcases open_slice Tryz.underlying23 hf with ⟨hcs, -⟩ | ⟨a, len, cap, m, n', D, Pl, hcs, _, hl, -⟩
  · simp only [Value.cells] at hcs
    injection hcs with hcs _
    injection hcs with _ e1 e2
    omega
  · simp only [Value.cells] at hcs
    injection hcs with hcs _
    injection hcs with _ e1 e2
    omega
set_option maxRecDepth 100000 in
theorem open_list_s {v : Value} {d : DataW H} {p : List MemPlace} {r : Reach} {b0 : Nat} (hv : Value.okWide Tryz.prog w r b0 23 v) (h : DataW.Trod enc Tryz.prog w 0 (fun _ => true) true 23 v d p) (hn : Rows.uptoBulk d ≤ 1048576) :
    ∃ y : LA, v = .slice y.a y.l.length y.c ∧ y.Rd w ∧ y.l.length ≤ y.c ∧ (y.l.map AV.w).sum ≤ Rows.uptoBulk d := by
  obtain ⟨a, l, c, rfl⟩ := okWide_slice Tryz.underlying23 hv
  have hc := list_cap h
  obtain ⟨fuel, hf⟩ := h
  obtain ⟨y, hy, h1, h2, h3⟩ := cells_list hf
  have e : Value.slice a l c = .slice y.a y.l.length y.c := by simpa [Value.cells, LA.enc] using hy
  refine ⟨y, e, LA.rd_of h1 h2 h3 hn, ?_, h3⟩
  injection e with _ e1 e2
  omega
end
/-! Regions that draw, by kinds of what a slot holds. -/
/-- What a slot may hold. -/
inductive GK where
  | cst (c : Value)
  | own (l : List AV)
  | one (y : AV)
  | lst (l : List AV)
  | box
abbrev aggL (a : Option Addr) (n c : Nat) : Value := .agg #[.int .u8 7, .string ⟨#[]⟩, .slice a n c, .slice none 0 0]
abbrev zeroV : Obj := .cells #[.int .u8 0, .string ⟨#[]⟩, .slice none 0 0, .slice none 0 0] 26 (0, 0)
/-- Its meaning: own rows lie from N on, what was there ahead of the region in W0; g is the block of the box that is made. -/
def GK.den (N : Nat) (W0 : World) : GK → Option Nat → Value → World → Prop
  | .cst c, _, v, _ => v = c
  | .own l, g, v, w => GOwn N W0 g l v w
  | .one y, _, v, w => GOne N W0 y v w
  | .lst l, g, v, w => ∃ a c, v = aggL a l.length c ∧ GOwn N W0 g l (.slice a l.length c) w
  | .box, g, v, w => ∃ b, v = .pointer (some ⟨b, 0, none⟩) ∧ g = some b ∧ N ≤ b ∧ w.heap[b]? = some zeroV
def GK.tame : GK → Bool
  | .cst _ => true
  | .box => true
  | _ => false
def GK.isBox : GK → Bool
  | .box => true
  | _ => false
/-- What an operation does to the world: those in the row wl may change blocks from N on but for the box, all others make memory at most; number al makes the box. -/
def GE (wl : List Nat) (al N : Nat) (j : Nat) (g : Option Nat) (w : World) (g' : Option Nat) (w' : World) : Prop :=
  if wl.contains j = true then Below N w w' ∧ g' = g ∧ ∀ b, g = some b → w'.heap[b]? = w.heap[b]? else Below w.heap.size w w' ∧ (g' = g ∨ j = al ∧ g' = some w.heap.size)
/-- The world is one that came behind the region's first one; the box lies in it. -/
def GS (W0 : World) (g : Option Nat) (w : World) : Prop := Below W0.heap.size W0 w ∧ ∀ b, g = some b → b < w.heap.size
theorem ge_pure {wl : List Nat} {al N j : Nat} {g : Option Nat} {w w' : World} (h : Below w.heap.size w w') (hN : N ≤ w.heap.size) (hg : ∀ b, g = some b → b < w.heap.size) : GE wl al N j g w g w' := by
  unfold GE; split
  · exact ⟨h.mono hN, rfl, fun b hb => h.block b (hg b hb)⟩
  · exact ⟨h, .inl rfl⟩
theorem ge_wild {wl : List Nat} {al N j : Nat} {g : Option Nat} {w w' : World} (h : Below N w w') (hb : ∀ b, g = some b → w'.heap[b]? = w.heap[b]?) (hj : wl.contains j = true) : GE wl al N j g w g w' := by rw [GE, if_pos hj]; exact ⟨h, rfl, hb⟩
theorem ge_box {wl : List Nat} {al N : Nat} {g : Option Nat} {w w' : World} (h : Below w.heap.size w w') (hj : wl.contains al = false) : GE wl al N al g w (some w.heap.size) w' := by rw [GE, if_neg (by rw [hj]; simp)]; exact ⟨h, .inr ⟨rfl, rfl⟩⟩
theorem GS.via {W0 w w' : World} {g : Option Nat} (h : GS W0 g w) (hb : Below w.heap.size w w') : GS W0 g w' := ⟨below_via h.1 hb, fun b e => Nat.lt_of_lt_of_le (h.2 b e) hb.size⟩
theorem GS.wild {W0 w w' : World} {N : Nat} {g : Option Nat} (h : GS W0 g w) (hN : N = W0.heap.size) (hb : Below N w w') : GS W0 g w' := ⟨h.1.trans (hN ▸ hb), fun b e => Nat.lt_of_lt_of_le (h.2 b e) hb.size⟩
theorem GS.box {W0 w : World} {g : Option Nat} (h : GS W0 g w) (o : Obj) : GS W0 (some w.heap.size) (w.alloc o) := ⟨below_al h.1, fun b e => by injection e with e; rw [World.size_alloc]; omega⟩
theorem GS.hN {W0 w : World} {N : Nat} {g : Option Nat} (h : GS W0 g w) (hN : N = W0.heap.size) : N ≤ w.heap.size := hN ▸ h.1.size
theorem GK.up {N : Nat} {W0 w w' : World} {g g' : Option Nat} {v : Value} (hb : Below w.heap.size w w') : ∀ (k : GK), (g' = g ∨ k.isBox = false ∧ g' = some w.heap.size) → k.den N W0 g v w → k.den N W0 g' v w'
  | .cst _, _, h => h
  | .own _, hg, h => GOwn.up h hb (hg.imp id And.right)
  | .one _, _, h => GOne.up h hb
  | .lst _, hg, ⟨a, c, h1, h2⟩ => ⟨a, c, h1, GOwn.up h2 hb (hg.imp id And.right)⟩
  | .box, hg, ⟨b, h1, h2, h3, h4⟩ => ⟨b, h1, (hg.resolve_right fun h => by cases h.1).trans h2, h3, blk_via hb h4⟩
theorem GK.keep {N : Nat} {W0 w w' : World} {g : Option Nat} {v : Value} (hb : ∀ b, g = some b → w'.heap[b]? = w.heap[b]?) : ∀ (k : GK), k.tame = true → k.den N W0 g v w → k.den N W0 g v w'
  | .cst _, _, h => h
  | .own _, ht, _ => by cases ht
  | .one _, ht, _ => by cases ht
  | .lst _, ht, _ => by cases ht
  | .box, _, ⟨b, h1, h2, h3, h4⟩ => ⟨b, h1, h2, h3, (hb b h2).trans h4⟩
def GKden (N : Nat) (W0 : World) (ks : List GK) (i : Nat) (g : Option Nat) (v : Value) (w : World) : Prop := match ks[i]? with | some k => k.den N W0 g v w | none => True
/-- Where an operation may change old memory all that is still asked for is tame; there is one box. -/
def wildB (ops : Array Oper) (keep : Nat → Bool) (tame box : List Bool) (wl : List Nat) (al : Nat) : Bool := (wl.all fun j => (List.range tame.length).all fun i => i == j || !liveB ops keep i j || tame.getD i false) && (List.range box.length).all fun i => i == al || !box.getD i false
theorem GK.hup {ops : Array Oper} {keep : Nat → Bool} {ks : List GK} {wl : List Nat} {al N : Nat} {W0 : World} (h : wildB ops keep (ks.map GK.tame) (ks.map GK.isBox) wl al = true) (i j : Nat) (v : Value) (g : Option Nat) (w : World) (g' : Option Nat) (w' : World) (hij : i ≠ j) (hl : liveB ops keep i j = true) (hE : GE wl al N j g w g' w') (hG : GKden N W0 ks i g v w) : GKden N W0 ks i g' v w' := by
  unfold wildB at h
  rw [Bool.and_eq_true] at h
  obtain ⟨h, hbx⟩ := h
  unfold GKden at hG ⊢
  cases hk : ks[i]? with
  | none => trivial
  | some k =>
    rw [hk] at hG
    have hi : i < ks.length := (List.getElem?_eq_some_iff.1 hk).1
    unfold GE at hE
    split at hE
    · rename_i hj
      have hj' : j ∈ wl := by simpa using hj
      have h1 := List.all_eq_true.1 (List.all_eq_true.1 h j hj') i (List.mem_range.2 (by simpa using hi))
      rw [hl, beq_eq_false_iff_ne.2 hij] at h1
      have h2 : k.tame = true := by simpa [List.getD_eq_getElem?_getD, hk] using h1
      obtain ⟨_, rfl, e2⟩ := hE
      exact k.keep e2 h2 hG
    · refine k.up hE.1 (hE.2.imp id fun h3 => ⟨?_, h3.2⟩) hG
      have h1 := List.all_eq_true.1 hbx i (List.mem_range.2 (by simpa using hi))
      have hne : (i == al) = false := beq_eq_false_iff_ne.2 (by rw [← h3.1]; exact hij)
      rw [hne, Bool.false_or] at h1
      simpa [List.getD_eq_getElem?_getD, hk] using h1
/-- A box that is filled. -/
theorem box_fill {w : World} {B : Nat} {x0 x1 x2 x3 a b c d : Value} {t : TypeId} (h : w.heap[B]? = some (.cells #[x0, x1, x2, x3] t (0, 0))) : ((((w.setCell ⟨B, 0, none⟩ a).setCell ⟨B, 1, none⟩ b).setCell ⟨B, 2, none⟩ c).setCell ⟨B, 3, none⟩ d).heap[B]? = some (.cells #[a, b, c, d] t (0, 0)) :=
  Go.Joins.block_setCell (Go.Joins.block_setCell (Go.Joins.block_setCell (Go.Joins.block_setCell h (i := 0) a) (i := 1) b) (i := 2) c) (i := 3) d
/-- What a filled box leaves of a list that was made of an own row. -/
theorem lst_fill {N : Nat} {W0 w : World} {l : List AV} {B c0 : Nat} {a0 : Option Addr} {a b c d : Value} (hG : GOwn N W0 (some B) l (.slice a0 l.length c0) w) (hW : Below W0.heap.size W0 w) (hN : N = W0.heap.size) (hB : N ≤ B) :
    Rd ((((w.setCell ⟨B, 0, none⟩ a).setCell ⟨B, 1, none⟩ b).setCell ⟨B, 2, none⟩ c).setCell ⟨B, 3, none⟩ d) ⟨7, ⟨#[]⟩, a0, c0, l, none, 0, []⟩ ∧ Below W0.heap.size W0 ((((w.setCell ⟨B, 0, none⟩ a).setCell ⟨B, 1, none⟩ b).setCell ⟨B, 2, none⟩ c).setCell ⟨B, 3, none⟩ d) := by
  have hb : Below W0.heap.size W0 ((((w.setCell ⟨B, 0, none⟩ a).setCell ⟨B, 1, none⟩ b).setCell ⟨B, 2, none⟩ c).setCell ⟨B, 3, none⟩ d) := below4 hW (hN ▸ hB)
  have hne : (Value.slice a0 l.length c0).ownBlock ≠ some B := fun e => hG.2.2.2 B e rfl
  have ho : OwnV ((((w.setCell ⟨B, 0, none⟩ a).setCell ⟨B, 1, none⟩ b).setCell ⟨B, 2, none⟩ c).setCell ⟨B, 3, none⟩ d) N (.slice a0 l.length c0) l := ownsRow_setCell_other (ownsRow_setCell_other (ownsRow_setCell_other (ownsRow_setCell_other hG.2.1 hne _) hne _) hne _) hne _
  exact ⟨.mk ((own_sl AV.enc_len ho).widen (Nat.zero_le _) (Nat.le_refl _)) SlE.nil (by simp) fun r hr => (hG.2.2.1 r hr).1 _ (hN ▸ hb), hb⟩
/-- A frame is known by its slots. -/
theorem arr_lit {a : Array Value} {n : Nat} (h : a.size = n) : a = ((List.range n).map fun i => a.getD i undef).toArray := by
  apply Array.ext
  · simp [h]
  · intro i h1 h2
    simp [Array.getD, h1]
theorem cons_eq {α : Type} {a b : α} {l m : List α} (h1 : a = b) (h2 : l = m) : a :: l = b :: m := by rw [h1, h2]
end Go.Proofs.YtmhkacafilpliaaGreat
