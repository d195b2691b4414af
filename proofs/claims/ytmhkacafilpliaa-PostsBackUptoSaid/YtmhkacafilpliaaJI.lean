/-
  The document's postorder: the least key that is left is picked again and again. Plain, and what one part's nodes are added to. Conditions of the laws: the keys are all unlike.
-/
import Derived.Test.YtmhkacafilpliaaJH
import Derived.Test.YtmhkacafilpliaaRB
namespace Go.Proofs.Ytmhkacafilpliaa
open Go.RowKit Go.Sort Go.Shelf

/-- The first of the least that is not among P, below n. -/
def pickN (lt : Nat → Nat → Bool) (P : List Nat) : Nat → Option Nat
  | 0 => none
  | i + 1 => match pickN lt P i with
    | none => if i ∈ P then none else some i
    | some q => if i ∉ P ∧ lt i q = true then some i else some q
def picksN (lt : Nat → Nat → Bool) (n : Nat) : Nat → List Nat
  | 0 => []
  | k + 1 => match pickN lt (picksN lt n k) n with
    | some i => picksN lt n k ++ [i]
    | none => picksN lt n k
/-- What an order of places asks. -/
structure PLt (lt : Nat → Nat → Bool) : Prop where
  irrefl : ∀ a, lt a a = false
  ntrans : ∀ a b c, lt a b = false → lt b c = false → lt a c = false
  asym : ∀ a b, lt a b = true → lt b a = false
section
variable {lt : Nat → Nat → Bool} {P : List Nat}
theorem pick_none : ∀ {n : Nat}, pickN lt P n = none → ∀ i, i < n → i ∈ P
  | 0, _, i, h => by omega
  | n + 1, h, i, hi => by
    unfold pickN at h
    cases e : pickN lt P n with
    | none =>
      rw [e] at h
      simp only at h
      by_cases hn : n ∈ P
      · rcases Nat.lt_or_ge i n with h1 | h1
        · exact pick_none e i h1
        · obtain rfl : i = n := by omega
          exact hn
      · rw [if_neg hn] at h; cases h
    | some q =>
      rw [e] at h
      simp only at h
      split at h <;> cases h
theorem pick_some (hO : PLt lt) : ∀ {n q : Nat}, pickN lt P n = some q → q < n ∧ q ∉ P ∧ ∀ i, i < n → i ∉ P → lt i q = false
  | 0, q, h => by cases h
  | n + 1, q, h => by
    unfold pickN at h
    cases e : pickN lt P n with
    | none =>
      rw [e] at h
      simp only at h
      by_cases hn : n ∈ P
      · rw [if_pos hn] at h; cases h
      · rw [if_neg hn] at h
        injection h with h
        subst h
        refine ⟨Nat.lt_succ_self n, hn, fun i hi hp => ?_⟩
        rcases Nat.lt_or_ge i n with h1 | h1
        · exact absurd (pick_none e i h1) hp
        · obtain rfl : i = n := by omega
          exact hO.irrefl i
    | some q' =>
      rw [e] at h
      simp only at h
      obtain ⟨g1, g2, g3⟩ := pick_some hO e
      by_cases hc : n ∉ P ∧ lt n q' = true
      · rw [if_pos hc] at h
        injection h with h
        subst h
        refine ⟨Nat.lt_succ_self n, hc.1, fun i hi hp => ?_⟩
        rcases Nat.lt_or_ge i n with h1 | h1
        · exact hO.ntrans _ _ _ (g3 i h1 hp) (hO.asym _ _ hc.2)
        · obtain rfl : i = n := by omega
          exact hO.irrefl i
      · rw [if_neg hc] at h
        injection h with h
        subst h
        refine ⟨by omega, g2, fun i hi hp => ?_⟩
        rcases Nat.lt_or_ge i n with h1 | h1
        · exact g3 i h1 hp
        · obtain rfl : i = n := by omega
          cases hl : lt i q' with
          | false => rfl
          | true => exact absurd ⟨hp, hl⟩ hc
end
theorem sub_len : ∀ {A B : List Nat}, A.Nodup → (∀ a ∈ A, a ∈ B) → A.length ≤ B.length
  | [], _, _, _ => by simp
  | a :: A, B, h, hs => by
    have h' := List.nodup_cons.1 h
    have hm := hs a List.mem_cons_self
    have := sub_len (A := A) (B := B.erase a) h'.2 (fun x hx => (List.mem_erase_of_ne (fun e => h'.1 (by rw [← e]; exact hx))).2 (hs x (List.mem_cons_of_mem _ hx)))
    have hl := List.length_erase_of_mem hm
    have hp := List.length_pos_of_mem hm
    rw [List.length_cons]
    omega
/-- What holds of the picks. -/
structure PkOk (lt : Nat → Nat → Bool) (n : Nat) (P : List Nat) (k : Nat) : Prop where
  len : P.length = k
  nodup : P.Nodup
  lt_n : ∀ i ∈ P, i < n
  asc : P.Pairwise fun i j => lt j i = false
  least : ∀ i ∈ P, ∀ j, j < n → j ∉ P → lt j i = false
theorem picks_ok {lt : Nat → Nat → Bool} (hO : PLt lt) (n : Nat) : ∀ k, k ≤ n → PkOk lt n (picksN lt n k) k
  | 0, _ => { len := rfl, nodup := List.nodup_nil, lt_n := fun _ h => absurd h (by simp [picksN]), asc := List.Pairwise.nil, least := fun _ h => absurd h (by simp [picksN]) }
  | k + 1, hk => by
    have ih := picks_ok hO n k (by omega)
    cases e : pickN lt (picksN lt n k) n with
    | none =>
      have := sub_len (A := List.range n) (B := picksN lt n k) List.nodup_range (fun a ha => pick_none e a (List.mem_range.1 ha))
      rw [List.length_range, ih.len] at this
      omega
    | some q =>
      obtain ⟨g1, g2, g3⟩ := pick_some hO e
      have e1 : picksN lt n (k + 1) = picksN lt n k ++ [q] := by rw [picksN, e]
      rw [e1]
      refine ⟨by rw [List.length_append, ih.len]; rfl, ?_, ?_, ?_, ?_⟩
      · rw [List.nodup_append]
        exact ⟨ih.nodup, by simp, fun a ha b hb e2 => by rw [List.mem_singleton] at hb; subst hb; subst e2; exact g2 ha⟩
      · intro i hi
        rcases List.mem_append.1 hi with h | h
        · exact ih.lt_n i h
        · rw [List.mem_singleton] at h; subst h; exact g1
      · rw [List.pairwise_append]
        exact ⟨ih.asc, List.pairwise_singleton _ _, fun a ha b hb => by rw [List.mem_singleton] at hb; subst hb; exact ih.least a ha _ g1 g2⟩
      · intro i hi j hj hn
        rw [List.mem_append, not_or] at hn
        rcases List.mem_append.1 hi with h | h
        · exact ih.least i h j hj hn.1
        · rw [List.mem_singleton] at h; subst h; exact g3 j hj hn.1
theorem picks_step {lt : Nat → Nat → Bool} (hO : PLt lt) {n k : Nat} (hk : k < n) : ∃ q, pickN lt (picksN lt n k) n = some q ∧ q < n ∧ picksN lt n (k + 1) = picksN lt n k ++ [q] := by
  have ih := picks_ok hO n k (by omega)
  cases e : pickN lt (picksN lt n k) n with
  | none =>
    have := sub_len (A := List.range n) (B := picksN lt n k) List.nodup_range (fun a ha => pick_none e a (List.mem_range.1 ha))
    rw [List.length_range, ih.len] at this
    omega
  | some q => exact ⟨q, rfl, (pick_some hO e).1, by rw [picksN, e]⟩
theorem picks_perm {lt : Nat → Nat → Bool} (hO : PLt lt) (n : Nat) : (picksN lt n n).Perm (List.range n) := by
  have h := picks_ok hO n n (Nat.le_refl _)
  have h2 : ∀ i, i < n → i ∈ picksN lt n n := fun i hi => by
    apply Classical.byContradiction
    intro hn
    have := sub_len (A := i :: picksN lt n n) (B := List.range n) (List.nodup_cons.2 ⟨hn, h.nodup⟩) (fun a ha => by
      rcases List.mem_cons.1 ha with rfl | ha
      · exact List.mem_range.2 hi
      · exact List.mem_range.2 (h.lt_n a ha))
    rw [List.length_cons, h.len, List.length_range] at this
    omega
  exact (List.perm_ext_iff_of_nodup h.nodup List.nodup_range).2 fun a => ⟨fun ha => List.mem_range.2 (h.lt_n a ha), fun ha => h2 a (List.mem_range.1 ha)⟩
/-- Where none is less than another one they are picked as they stand. -/
theorem pick_first (k : Nat) : ∀ m, pickN (fun _ _ => false) (List.range k) m = if k < m then some k else none
  | 0 => by rw [if_neg (by omega)]; rfl
  | m + 1 => by
    unfold pickN
    rw [pick_first k m]
    by_cases h : k < m
    · rw [if_pos h]
      simp
      omega
    · rw [if_neg h]
      simp only [List.mem_range]
      by_cases h2 : m < k
      · rw [if_pos h2, if_neg (by omega)]
      · obtain rfl : m = k := by omega
        rw [if_neg h2, if_pos (by omega)]
theorem picks_range (n : Nat) : ∀ k, k ≤ n → picksN (fun _ _ => false) n k = List.range k
  | 0, _ => rfl
  | k + 1, hk => by
    rw [picksN, picks_range n k (by omega), pick_first, if_pos (by omega), List.range_succ]
/-- The order of a value's parts. -/
def AV.pl (x : AV) (i j : Nat) : Bool := decide (x.k = 8) && decide ((x.ks[i]?.getD ⟨#[]⟩).toList < (x.ks[j]?.getD ⟨#[]⟩).toList)
theorem pl_ok (x : AV) : PLt x.pl where
  irrefl a := by unfold AV.pl; simp [List.lt_irrefl]
  ntrans a b c h1 h2 := by
    unfold AV.pl at *
    by_cases h8 : x.k = 8
    · simp only [h8, decide_true, Bool.true_and, decide_eq_false_iff_not, List.not_lt] at *
      exact List.le_trans h2 h1
    · simp [h8]
  asym a b h := by
    unfold AV.pl at *
    rw [Bool.and_eq_true, decide_eq_true_iff, decide_eq_true_iff] at h
    rw [Bool.and_eq_false_iff]
    right
    exact decide_eq_false fun h2 => List.lt_irrefl _ (List.lt_trans h.2 h2)
/-- The parts as they are picked. -/
def AV.pkd (x : AV) (k : Nat) : List PE := (picksN x.pl x.l.length k).filterMap fun i => x.pes[i]?
theorem pkd_plc {x : AV} (hs : x.v.shape = true) : (x.pkd x.l.length).map PE.plc = x.v.subs := by
  unfold Val.subs
  rw [AV.v_k]
  by_cases h8 : x.k = 8
  · obtain ⟨hl, hnd⟩ := shape_eight hs (by rw [AV.v_k]; exact h8)
    have hl' : x.ks.length = x.l.length := by rw [AV.v_ks, AV.v_l, List.length_map] at hl; exact hl
    have hz : (x.v.ks.zip x.v.l).length = x.l.length := by rw [List.length_zip, AV.v_ks, AV.v_l, List.length_map, hl', Nat.min_self]
    have hpe : ∀ i, (x.pes[i]?).map PE.plc = ((x.v.ks.zip x.v.l)[i]?).map fun p : ByteArray × Val => (⟨true, p.1, p.2⟩ : Plc) := fun i => by
      unfold AV.pes
      rw [if_pos h8, AV.v_ks, AV.v_l, List.zip_map_right, List.getElem?_map, List.getElem?_map, Option.map_map, Option.map_map]
      rfl
    rw [if_pos h8, ← picks_ents x.v hnd (P := picksN x.pl x.l.length x.l.length) (by rw [hz]; exact picks_perm (pl_ok x) _) ?_]
    · unfold AV.pkd
      rw [List.map_filterMap, List.map_filterMap]
      congr 1
      funext i
      exact hpe i
    · refine (picks_ok (pl_ok x) x.l.length x.l.length (Nat.le_refl _)).asc.imp fun {i j} h a b ha hb => ?_
      have e1 : ∀ {i : Nat} {a : ByteArray × Val}, (x.v.ks.zip x.v.l)[i]? = some a → x.ks[i]?.getD ⟨#[]⟩ = a.1 := fun {i a} h => by
        have := (List.getElem?_zip_eq_some.1 h).1
        rw [AV.v_ks] at this
        rw [this]; rfl
      unfold AV.pl at h
      rw [e1 ha, e1 hb] at h
      simpa [h8, List.not_lt] using h
  · rw [if_neg h8]
    have hp : x.pl = fun _ _ => false := by funext i j; unfold AV.pl; simp [h8]
    have he : x.pes = x.l.map fun y => ⟨false, ⟨#[]⟩, y⟩ := by unfold AV.pes; rw [if_neg h8]
    unfold AV.pkd
    rw [hp, picks_range _ _ (Nat.le_refl _), show x.l.length = x.pes.length by rw [he, List.length_map], range_take, List.take_length, he, List.map_map, AV.v_l, List.map_map]
    rfl
theorem pkd_step {x : AV} {k q : Nat} (hst : picksN x.pl x.l.length (k + 1) = picksN x.pl x.l.length k ++ [q]) {e : PE} (he : x.pes[q]? = some e) : x.pkd (k + 1) = x.pkd k ++ [e] := by
  unfold AV.pkd
  rw [hst, List.filterMap_append]
  simp [he]
def pkI (o : Option Nat) : Int := match o with | some q => (q : Int) | none => -1
end Go.Proofs.Ytmhkacafilpliaa
