/-
  A region that draws its order, each operation shown once, of which some change what earlier ones made: what an operation left holds until all that use it have come up. The last operation waits for all others. No condition.
-/
import Derived.Test.YtmhkacafilpliaaRP
namespace Go.Proofs.Ytmhkacafilpliaa
open Go.RowKit Go.Sort Go.Shelf Go.BigFrame

/-- Does operation c use what operation i left? -/
def usesB (ops : Array Oper) (c i : Nat) : Bool := match ops[c]? with | some o => o.after.any fun e => Region.binds .any e && e.on == i | none => false
/-- An edge that hands on a value. -/
def handsB (e : Edge) : Bool := Region.binds .any e && (match e.ground with | .data => true | .guard => true | _ => false)
/-- Does operation c read what operation i left? -/
def needB (ops : Array Oper) (c i : Nat) : Bool := match ops[c]? with | some o => o.after.any fun e => handsB e && e.on == i | none => false
/-- Every operation but the last one is used. -/
def userB (ops : Array Oper) : Bool := (List.range (ops.size - 1)).all fun i => (List.range ops.size).any fun c => decide (i < c) && usesB ops c i
/-- Does i hang on j, by so many uses at most? -/
def hangB (ops : Array Oper) : Nat → Nat → Nat → Bool
  | 0, _, _ => false
  | n + 1, i, j => usesB ops i j || (List.range ops.size).any fun c => usesB ops i c && hangB ops n c j
/-- May what i left still be asked for behind j? -/
def liveB (ops : Array Oper) (keep : Nat → Bool) (i j : Nat) : Bool := !hangB ops 6 i j && (keep i || (List.range ops.size).any fun c => needB ops c i && c != j && !usesB ops j c)

theorem usesB_spec {ops : Array Oper} {c i : Nat} (h : usesB ops c i = true) : ∃ o, ops[c]? = some o ∧ ∃ e ∈ o.after, Region.binds .any e = true ∧ e.on = i := by
  unfold usesB at h
  split at h
  · rename_i o ho
    rw [← Array.any_toList] at h
    obtain ⟨e, he, h2⟩ := List.any_eq_true.1 h
    simp only [Bool.and_eq_true, beq_iff_eq] at h2
    exact ⟨o, ho, e, Array.mem_def.2 he, h2.1, h2.2⟩
  · cases h
theorem handsB_binds {e : Edge} (h : handsB e = true) : Region.binds .any e = true := by rw [handsB, Bool.and_eq_true] at h; exact h.1
theorem needB_size {ops : Array Oper} {c i : Nat} (h : needB ops c i = true) : c < ops.size := by
  unfold needB at h
  split at h
  · rename_i o ho; exact (Array.getElem?_eq_some_iff.1 ho).1
  · cases h
theorem needB_of {ops : Array Oper} {c : Nat} {o : Oper} (ho : ops[c]? = some o) {e : Edge} (he : e ∈ o.after) (hb : handsB e = true) : needB ops c e.on = true := by
  unfold needB
  rw [ho]
  show o.after.any _ = true
  rw [← Array.any_toList]
  exact List.any_eq_true.2 ⟨e, Array.mem_def.1 he, by simp [hb]⟩
theorem usesB_of {ops : Array Oper} {c : Nat} {o : Oper} (ho : ops[c]? = some o) {e : Edge} (he : e ∈ o.after) (hb : Region.binds .any e = true) : usesB ops c e.on = true := by
  unfold usesB
  rw [ho]
  show o.after.any _ = true
  rw [← Array.any_toList]
  exact List.any_eq_true.2 ⟨e, Array.mem_def.1 he, by simp [hb]⟩
theorem hangB_spec {ops : Array Oper} {p : Nat → Prop} (h : ∀ i j, p i → usesB ops i j = true → p j) : ∀ (n i j : Nat), p i → hangB ops n i j = true → p j
  | 0, _, _, _, hh => by cases hh
  | n + 1, i, j, hi, hh => by
    rw [hangB, Bool.or_eq_true] at hh
    rcases hh with hh | hh
    · exact h i j hi hh
    · obtain ⟨c, _, hc⟩ := List.any_eq_true.1 hh
      rw [Bool.and_eq_true] at hc
      exact hangB_spec h n c j (h i c hi hc.1) hc.2
theorem userB_spec {ops : Array Oper} (h : userB ops = true) {i : Nat} (hi : i < ops.size - 1) : ∃ c, i < c ∧ usesB ops c i = true := by
  obtain ⟨c, _, h2⟩ := List.any_eq_true.1 (List.all_eq_true.1 h i (List.mem_range.2 hi))
  simp only [Bool.and_eq_true, decide_eq_true_eq] at h2
  exact ⟨c, h2⟩

section
variable {P : Program} {ops : Array Oper} {Q : Exit → Act → World → Prop} {Γ : Type}
/-- Is what i left still to be asked for? -/
def Live (ops : Array Oper) (keep : Nat → Bool) (listed : Array Bool) (i : Nat) : Prop := keep i = true ∨ ∃ c, needB ops c i = true ∧ listed.getD c false = false
structure UInv (ops : Array Oper) (S : Γ → World → Prop) (G : Nat → Γ → Value → World → Prop) (keep : Nat → Bool) (a0 : Act) (listed : Array Bool) (γ : Γ) (a : Act) (w : World) : Prop extends PFrm ops (S γ) a0 a w where
  size : listed.size = ops.size
  clo : ∀ j i, listed.getD j false = true → usesB ops j i = true → listed.getD i false = true
  nolast : ∀ i, i + 1 = ops.size → listed.getD i false = false
  got : ∀ (i : Nat) o d, ops[i]? = some o → listed.getD i false = true → o.dst = some d → Live ops keep listed i → G i γ (a.tmps.getD d undef) w
theorem ready_mem {listed : Array Bool} {i : Nat} (h : i ∈ Region.ready .any ops listed) : listed.getD i false = false ∧ i < ops.size ∧ ∀ k, usesB ops i k = true → listed.getD k false = true := by
  obtain ⟨hu, o, ho, hall⟩ := mem_ready.1 h
  have hlt : i < ops.size := (Array.getElem?_eq_some_iff.1 ho).1
  refine ⟨?_, hlt, fun k hk => ?_⟩
  · by_cases h1 : i < listed.size
    · simpa [Array.getD, h1] using hu
    · simp [Array.getD, h1]
  · obtain ⟨o', ho', e, he, hb, rfl⟩ := usesB_spec hk
    have : o' = o := Option.some.inj (ho'.symm.trans ho)
    subst this
    exact hall e he hb
/-- When the last one is ready all others were. -/
theorem all_listed (hl : userB ops = true) {listed : Array Bool} (clo : ∀ j i, listed.getD j false = true → usesB ops j i = true → listed.getD i false = true) {n : Nat} (hn : n + 1 = ops.size) (hr : ∀ k, usesB ops n k = true → listed.getD k false = true) :
    ∀ m i, i < n → n ≤ i + m → listed.getD i false = true := by
  intro m
  induction m with
  | zero => intro i h1 h2; omega
  | succ m ih =>
    intro i h1 h2
    obtain ⟨c, hc, hu⟩ := userB_spec hl (i := i) (by omega)
    have hcs : c < ops.size := by
      obtain ⟨o, ho, _⟩ := usesB_spec hu
      exact (Array.getElem?_eq_some_iff.1 ho).1
    by_cases hcn : c = n
    · subst hcn; exact hr i hu
    · exact clo c i (ih c (by omega) (by omega)) hu
theorem some_ready (hord : ordB ops = true) {listed : Array Bool} (hs : listed.size = ops.size) {n : Nat} (hn : n < ops.size) (hu : listed.getD n false = false) : Region.ready .any ops listed ≠ [] := by
  intro h
  have := ready_none hs hord h (n + 1) n (by omega) hn
  rw [hu] at this
  cases this
theorem wpAny_uses {S : Γ → World → Prop} {G : Nat → Γ → Value → World → Prop} {keep : Nat → Bool} {a0 : Act} (E : Nat → Γ → World → Γ → World → Prop) (hap : dstApartB ops = true) (hsz : dstLtB ops a0.tmps.size = true) (hord : ordB ops = true) (hlst : userB ops = true) (hpos : 0 < ops.size)
    (hup : ∀ i j v γ w γ' w', i ≠ j → liveB ops keep i j = true → E j γ w γ' w' → G i γ v w → G i γ' v w')
    (hstep : ∀ (i : Nat) o, ops[i]? = some o → i + 1 ≠ ops.size → ∀ γ a w, PFrm ops (S γ) a0 a w → (∀ e ∈ o.after, handsB e = true → ∀ oj d, ops[e.on]? = some oj → oj.dst = some d → G e.on γ (a.tmps.getD d undef) w) →
      wpOp P ops Q i (fun a' w' => ∃ v γ', a' = a.put o.dst v ∧ S γ' w' ∧ E i γ w γ' w' ∧ G i γ' v w') a w)
    (hlast : ∀ (i : Nat) o, ops[i]? = some o → i + 1 = ops.size → ∀ γ a w, PFrm ops (S γ) a0 a w → (∀ e ∈ o.after, handsB e = true → ∀ oj d, ops[e.on]? = some oj → oj.dst = some d → G e.on γ (a.tmps.getD d undef) w) →
      (∀ k oj d, ops[k]? = some oj → oj.dst = some d → k ≠ i → keep k = true → G k γ (a.tmps.getD d undef) w) → wpOp P ops Q i (fun a' w' => Q .normal a' w') a w) :
    ∀ (fuel : Nat) (listed : Array Bool) (γ : Γ) (a : Act) (w : World), listed.toList.countP (fun b => !b) ≤ fuel → UInv ops S G keep a0 listed γ a w → wpAny P .any ops Q fuel listed a w := by
  intro fuel
  induction fuel with
  | zero =>
    intro listed γ a w hc I
    exfalso
    have hn : ops.size - 1 < listed.size := by rw [I.size]; omega
    have h0 := List.countP_eq_zero.1 (Nat.le_zero.1 hc) listed[ops.size - 1] (by simp)
    have h1 := I.nolast (ops.size - 1) (by omega)
    have : listed[ops.size - 1] = false := by simpa [Array.getD, hn] using h1
    rw [this] at h0
    simp at h0
  | succ fuel ih =>
    intro listed γ a w hc I
    have hnl := I.nolast (ops.size - 1) (by omega)
    refine ⟨fun hr => absurd hr (some_ready hord I.size (n := ops.size - 1) (by omega) hnl), fun i hi => ?_⟩
    obtain ⟨hu, o, ho, hall⟩ := mem_ready.1 hi
    obtain ⟨hi1, lo, hdeps⟩ := ready_mem hi
    have li : i < listed.size := by rw [I.size]; exact lo
    have hf : listed[i] = false := by simpa [Array.getD, li] using hi1
    have hD : ∀ e ∈ o.after, handsB e = true → ∀ oj d, ops[e.on]? = some oj → oj.dst = some d → G e.on γ (a.tmps.getD d undef) w := fun e he hb oj d hj hd =>
      I.got e.on oj d hj (hall e he (handsB_binds hb)) hd (.inr ⟨i, needB_of ho he hb, hi1⟩)
    by_cases hlasti : i + 1 = ops.size
    · have hall' : ∀ k, k < i → listed.getD k false = true := fun k hk => all_listed hlst I.clo hlasti hdeps i k hk (by omega)
      refine wpOp_mono ?_ (hlast i o ho hlasti γ a w I.toPFrm hD fun k oj d hk hd hne hkeep => I.got k oj d hk (hall' k (by have := (Array.getElem?_eq_some_iff.1 hk).1; omega)) hd (.inl hkeep))
      intro a' w' hQ
      have hemp : Region.ready .any ops (listed.setIfInBounds i true) = [] := by
        cases hr : Region.ready .any ops (listed.setIfInBounds i true) with
        | nil => rfl
        | cons k ks =>
          exfalso
          have hm : k ∈ Region.ready .any ops (listed.setIfInBounds i true) := by rw [hr]; exact List.mem_cons_self
          obtain ⟨h1, h2, _⟩ := ready_mem hm
          by_cases hki : i = k
          · subst hki
            simp [Array.getD, li] at h1
          · rw [getD_set_ne false hki, hall' k (by omega)] at h1
            cases h1
      cases fuel with
      | zero => exact ⟨hemp, hQ⟩
      | succ fuel => exact ⟨fun _ => hQ, fun k hk => by rw [hemp] at hk; cases hk⟩
    · refine wpOp_mono ?_ (hstep i o ho hlasti γ a w I.toPFrm hD)
      rintro a' w' ⟨v, γ', rfl, hS, hE, hG⟩
      refine ih _ γ' _ _ ?_ ?_
      · have : (listed.setIfInBounds i true).toList = listed.toList.set i true := by simp
        rw [this, List.countP_set (by simpa using li)]
        simp only [Array.getElem_toList, hf, Bool.not_false, Bool.not_true, if_true, Bool.false_eq_true, if_false]
        omega
      · have gi : (listed.setIfInBounds i true).getD i false = true := by simp [Array.getD, li]
        refine ⟨⟨hS, ?_, ?_, ?_⟩, ?_, ?_, ?_, ?_⟩
        · rw [← I.defers]; unfold Act.put; split <;> rfl
        · rw [← I.len]; unfold Act.put; split <;> simp
        · intro t ht
          rw [← I.old t ht]
          cases hd : o.dst with
          | none => rfl
          | some d =>
            have : d ≠ t := fun h => ht i o ho (by rw [hd, h])
            simp only [Act.put]
            exact getD_put_ne this
        · simp [I.size]
        · intro j k hj hjk
          by_cases hki : i = k
          · subst hki; exact gi
          · rw [getD_set_ne false hki]
            by_cases hij : i = j
            · subst hij; exact hdeps k hjk
            · rw [getD_set_ne false hij] at hj
              exact I.clo j k hj hjk
        · intro j hj
          have : i ≠ j := fun h => hlasti (by rw [h]; exact hj)
          rw [getD_set_ne false this]
          exact I.nolast j hj
        · intro j oj d hj hl hd hlive
          by_cases hij : i = j
          · subst hij
            have : oj = o := Option.some.inj (hj.symm.trans ho)
            subst this
            have hlt : d < a.tmps.size := by rw [I.len]; exact dstLt_spec hsz hj hd
            rw [hd]
            simp only [Act.put]
            simpa [Array.getD, hlt] using hG
          · rw [getD_set_ne false hij] at hl
            have hnc : ∀ c, (listed.setIfInBounds i true).getD c false = false → i ≠ c ∧ listed.getD c false = false := fun c hc => by
              have hne : i ≠ c := fun h => by subst h; rw [gi] at hc; cases hc
              rw [getD_set_ne false hne] at hc
              exact ⟨hne, hc⟩
            have hlive0 : Live ops keep listed j := by
              rcases hlive with h | ⟨c, h1, h2⟩
              · exact .inl h
              · exact .inr ⟨c, h1, (hnc c h2).2⟩
            have hlb : liveB ops keep j i = true := by
              unfold liveB
              have hh : hangB ops 6 j i = false := by
                cases hb : hangB ops 6 j i with
                | false => rfl
                | true =>
                  have := hangB_spec (p := fun k => listed.getD k false = true) (fun a b ha hab => I.clo a b ha hab) 6 j i hl hb
                  rw [hi1] at this
                  cases this
              rw [hh, Bool.not_false, Bool.true_and]
              rcases hlive with h | ⟨c, h1, h2⟩
              · rw [h]; rfl
              · rw [Bool.or_eq_true]
                right
                obtain ⟨h3, h4⟩ := hnc c h2
                have hcs : c < ops.size := needB_size h1
                refine List.any_eq_true.2 ⟨c, List.mem_range.2 hcs, ?_⟩
                have h5 : usesB ops i c = false := by
                  cases h6 : usesB ops i c with
                  | false => rfl
                  | true => rw [hdeps c h6] at h4; cases h4
                simp [h1, h5, Ne.symm h3]
            have h1 := hup j i _ γ w γ' w' (Ne.symm hij) hlb hE (I.got j oj d hj hl hd hlive0)
            cases hdo : o.dst with
            | none => exact h1
            | some d' =>
              have : d' ≠ d := fun h => dstApart_spec hap hj ho (Ne.symm hij) hd (by rw [hdo, h])
              simp only [Act.put]
              rw [getD_put_ne this]
              exact h1
/-- One operation's step, what it does to the world hanging on its number. -/
def UStep (P : Program) (ops : Array Oper) (Q : Exit → Act → World → Prop) (S : Γ → World → Prop) (G : Nat → Γ → Value → World → Prop) (E : Nat → Γ → World → Γ → World → Prop) (a0 : Act) (i : Nat) (o : Oper) : Prop :=
  ∀ γ a w, PFrm ops (S γ) a0 a w → (∀ e ∈ o.after, handsB e = true → ∀ oj d, ops[e.on]? = some oj → oj.dst = some d → G e.on γ (a.tmps.getD d undef) w) →
    Region.wanted o (yielded ops a.tmps) = true ∧ ∀ K : Act → World → Prop, (∀ γ' v w', S γ' w' → E i γ w γ' w' → G i γ' v w' → K (a.put o.dst v) w') → o.wp P a w K Q
/-- The last one's. -/
def ULast (P : Program) (ops : Array Oper) (Q : Exit → Act → World → Prop) (S : Γ → World → Prop) (G : Nat → Γ → Value → World → Prop) (keep : Nat → Bool) (a0 : Act) (i : Nat) (o : Oper) : Prop :=
  ∀ γ a w, PFrm ops (S γ) a0 a w → (∀ e ∈ o.after, handsB e = true → ∀ oj d, ops[e.on]? = some oj → oj.dst = some d → G e.on γ (a.tmps.getD d undef) w) →
    (∀ k oj d, ops[k]? = some oj → oj.dst = some d → k ≠ i → keep k = true → G k γ (a.tmps.getD d undef) w) →
    Region.wanted o (yielded ops a.tmps) = true ∧ ∀ K : Act → World → Prop, (∀ a' w', Q .normal a' w' → K a' w') → o.wp P a w K Q
/-- p of each entry but the last one, of which q. -/
def AllBut (p q : Nat → Oper → Prop) : Nat → List Oper → Prop
  | _, [] => True
  | k, [o] => q k o
  | k, o :: o' :: l => p k o ∧ AllBut p q (k + 1) (o' :: l)
theorem AllBut.at {p q : Nat → Oper → Prop} : ∀ {l : List Oper} {k : Nat}, AllBut p q k l → ∀ (i : Nat) (o : Oper), l[i]? = some o → (i + 1 ≠ l.length → p (k + i) o) ∧ (i + 1 = l.length → q (k + i) o)
  | [], _, _, i, o, h => by simp at h
  | [x], k, h, 0, o, e => by simp at e; subst e; exact ⟨fun h => absurd rfl h, fun _ => h⟩
  | [x], k, h, i + 1, o, e => by simp at e
  | x :: y :: l, k, h, 0, o, e => by simp at e; subst e; exact ⟨fun _ => h.1, fun h => by simp at h⟩
  | x :: y :: l, k, h, i + 1, o, e => by
    have := AllBut.at h.2 i o (by simpa using e)
    rw [show k + 1 + i = k + (i + 1) by omega] at this
    exact ⟨fun h => this.1 (by simpa using h), fun h => this.2 (by simpa using h)⟩
/-- **A region that draws its order, each operation shown once; what was used up may change.** -/
theorem wp_region_uses {id : Nat} {l : List Oper} {a0 : Act} {w0 : World} (hm : P.follows .mixedOrders = true) {S : Γ → World → Prop} {G : Nat → Γ → Value → World → Prop} (E : Nat → Γ → World → Γ → World → Prop) (keep : Nat → Bool) (γ0 : Γ) (hap : dstApartB l.toArray = true) (hsz : dstLtB l.toArray a0.tmps.size = true) (hord : ordB l.toArray = true) (hlst : userB l.toArray = true) (hpos : 0 < l.length)
    (hup : ∀ i j v γ w γ' w', i ≠ j → liveB l.toArray keep i j = true → E j γ w γ' w' → G i γ v w → G i γ' v w') (h0 : S γ0 w0.drew)
    (hstep : AllBut (UStep P l.toArray Q S G E a0) (ULast P l.toArray Q S G keep a0) 0 l) :
    (Code.region id l.toArray true).wp P Q a0 w0 := by
  refine wp_region_any hm (wpAny_uses E hap hsz hord hlst (by simpa using hpos) hup ?_ ?_ l.toArray.size _ γ0 _ _ ?_ ⟨⟨h0, rfl, rfl, fun _ _ => rfl⟩, by simp, ?_, ?_, ?_⟩)
  · intro i o hi hne γ a w hF hD
    have h1 := (hstep.at i o (by simpa using hi)).1 (by simpa using hne)
    rw [Nat.zero_add] at h1
    obtain ⟨h2, h3⟩ := h1 γ a w hF hD
    unfold wpOp
    simp only [hi, h2, if_true]
    exact .inl (h3 _ fun γ' v w' hS hE hG => ⟨v, γ', rfl, hS, hE, hG⟩)
  · intro i o hi hne γ a w hF hD hK
    have h1 := (hstep.at i o (by simpa using hi)).2 (by simpa using hne)
    rw [Nat.zero_add] at h1
    obtain ⟨h2, h3⟩ := h1 γ a w hF hD hK
    unfold wpOp
    simp only [hi, h2, if_true]
    exact .inl (h3 _ fun a' w' hQ => hQ)
  · have := List.countP_le_length (p := fun b => !b) (l := (Array.replicate l.toArray.size false).toList)
    simpa using this
  · intro j i hj
    have : ∀ k, (Array.replicate l.toArray.size false).getD k false = false := fun k => by simp [Array.getD]
    rw [this] at hj
    cases hj
  · intro i _
    simp [Array.getD]
  · intro i o d hi hl
    have := (Array.getElem?_eq_some_iff.1 hi).1
    simp [Array.getD] at hl
end
end Go.Proofs.Ytmhkacafilpliaa
