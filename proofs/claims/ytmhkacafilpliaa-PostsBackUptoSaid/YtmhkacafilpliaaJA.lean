/-
  Postorders, plain: a value's nodes from the leaves up, and each node's leftmost leaf. No program.
-/
import Derived.Test.YtmhkacafilpliaaO2
import Derived.Test.YtmhkacafilpliaaV5
namespace Go.Proofs.Ytmhkacafilpliaa

/-- A node's label. -/
structure Lab where
  kd : Bool
  key : ByteArray
  k : Int
  t : ByteArray
  deriving DecidableEq
/-- A value where it lies: under a key, or not. -/
structure Plc where
  kd : Bool
  key : ByteArray
  v : Val
def Val.subs (v : Val) : List Plc := if v.k = 8 then v.ents.map (fun p => ⟨true, p.1, p.2⟩) else v.l.map fun x => ⟨false, ⟨#[]⟩, x⟩
/-- The labels, from the leaves up. -/
def postF : Nat → Plc → List Lab
  | 0, _ => []
  | n + 1, e => e.v.subs.flatMap (postF n) ++ [⟨e.kd, e.key, e.v.k, e.v.t⟩]
/-- Each node's leftmost leaf, from a place on. -/
def leftF : Nat → Nat → Plc → List Nat
  | 0, _, _ => []
  | n + 1, fr, e => (e.v.subs.foldl (fun L x => L ++ leftF n (fr + L.length) x) []) ++ [fr]
/-- The rows of the parts, one behind the other. -/
def leftsF (n fr : Nat) (L : List Nat) (xs : List Plc) : List Nat := xs.foldl (fun L x => L ++ leftF n (fr + L.length) x) L
theorem leftsF_cons (n fr : Nat) (L : List Nat) (x : Plc) (xs : List Plc) : leftsF n fr L (x :: xs) = leftsF n fr (L ++ leftF n (fr + L.length) x) xs := rfl
theorem leftF_succ (n fr : Nat) (e : Plc) : leftF (n + 1) fr e = leftsF n fr [] e.v.subs ++ [fr] := rfl
theorem postF_succ (n : Nat) (e : Plc) : postF (n + 1) e = e.v.subs.flatMap (postF n) ++ [⟨e.kd, e.key, e.v.k, e.v.t⟩] := rfl
theorem left_len : ∀ (n fr : Nat) (e : Plc), (leftF n fr e).length = (postF n e).length
  | 0, _, _ => rfl
  | n + 1, fr, e => by
    have key : ∀ (xs : List Plc) (L : List Nat), (leftsF n fr L xs).length = L.length + (xs.flatMap (postF n)).length := by
      intro xs
      induction xs with
      | nil => intro L; rfl
      | cons x xs ih =>
        intro L
        rw [leftsF_cons, ih, List.length_append, left_len n, List.flatMap_cons, List.length_append]
        omega
    rw [leftF_succ, postF_succ, List.length_append, List.length_append, key]
    simp
/-- A leaf lies at or behind the start, and at or ahead of its node. -/
theorem left_in : ∀ (n fr : Nat) (e : Plc) (i l : Nat), (leftF n fr e)[i]? = some l → fr ≤ l ∧ l ≤ fr + i
  | 0, _, _, _, _, h => by simp [leftF] at h
  | n + 1, fr, e, i, l, h => by
    have key : ∀ (xs : List Plc) (L : List Nat), (∀ i l, L[i]? = some l → fr ≤ l ∧ l ≤ fr + i) → ∀ i l, (leftsF n fr L xs)[i]? = some l → fr ≤ l ∧ l ≤ fr + i := by
      intro xs
      induction xs with
      | nil => intro L hL i l h; exact hL i l h
      | cons x xs ih =>
        intro L hL i l h
        rw [leftsF_cons] at h
        refine ih _ (fun i l h => ?_) i l h
        by_cases hi : i < L.length
        · rw [List.getElem?_append_left hi] at h
          exact hL i l h
        · rw [List.getElem?_append_right (by omega)] at h
          have := left_in n _ x _ l h
          omega
    rw [leftF_succ] at h
    by_cases hi : i < (leftsF n fr [] e.v.subs).length
    · rw [List.getElem?_append_left hi] at h
      exact key _ [] (fun i l h => by simp at h) i l h
    · rw [List.getElem?_append_right (by omega), List.getElem?_singleton] at h
      split at h
      · injection h with h; omega
      · cases h
/-- The last node is the whole; its leaf is the start. -/
theorem left_last (n fr : Nat) (e : Plc) : (leftF (n + 1) fr e).getLast? = some fr := by rw [leftF_succ]; simp
theorem post_pos (n : Nat) (e : Plc) : 0 < (postF (n + 1) e).length := by rw [postF_succ]; simp

/-- Is a number the last one of its kind? -/
def isRoot (L : List Nat) (i : Nat) : Bool := match L[i]? with
  | some l => (L.drop (i + 1)).all fun m => m != l
  | none => false
def rootsL (L : List Nat) : List Nat := (List.range L.length).filter (isRoot L)
theorem isRoot_iff {L : List Nat} {i l : Nat} (h : L[i]? = some l) : isRoot L i = true ↔ ∀ k, i < k → L[k]? ≠ some l := by
  unfold isRoot
  rw [h]
  simp only [List.all_eq_true, bne_iff_ne, ne_eq]
  constructor
  · intro hh k hk e
    refine hh l ?_ rfl
    refine List.mem_of_getElem? (i := k - (i + 1)) ?_
    rw [List.getElem?_drop, show i + 1 + (k - (i + 1)) = k by omega]
    exact e
  · intro hh m hm e
    subst e
    obtain ⟨j, hj⟩ := List.mem_iff_getElem?.1 hm
    rw [List.getElem?_drop] at hj
    exact hh (i + 1 + j) (by omega) hj
theorem roots_mem {L : List Nat} {i : Nat} : i ∈ rootsL L ↔ i < L.length ∧ isRoot L i = true := by simp [rootsL]
theorem roots_rise (L : List Nat) : (rootsL L).Pairwise (· < ·) := List.Pairwise.sublist List.filter_sublist List.pairwise_lt_range
/-- At or above each node there is a root of its leaf. -/
theorem root_up {L : List Nat} {l : Nat} : ∀ {n i : Nat}, L.length - i ≤ n → L[i]? = some l → ∃ r, i ≤ r ∧ r ∈ rootsL L ∧ L[r]? = some l
  | n, i, hn, h => by
    have hi := (List.getElem?_eq_some_iff.1 h).1
    by_cases hr : isRoot L i = true
    · exact ⟨i, Nat.le_refl _, roots_mem.2 ⟨hi, hr⟩, h⟩
    · have hex : ∃ k, i < k ∧ L[k]? = some l := by
        apply Classical.byContradiction
        intro hne
        exact hr ((isRoot_iff h).2 fun k hk e => hne ⟨k, hk, e⟩)
      obtain ⟨k, hk, e⟩ := hex
      have hkl := (List.getElem?_eq_some_iff.1 e).1
      obtain ⟨n, rfl⟩ : ∃ n', n = n' + 1 := ⟨n - 1, by omega⟩
      obtain ⟨r, g1, g2, g3⟩ := root_up (n := n) (i := k) (by omega) e
      exact ⟨r, by omega, g2, g3⟩
/-- Of one leaf there is one root. -/
theorem root_one {L : List Nat} {l r q : Nat} (hr : r ∈ rootsL L) (hq : q ∈ rootsL L) (h1 : L[r]? = some l) (h2 : L[q]? = some l) : r = q := by
  obtain ⟨-, g1⟩ := roots_mem.1 hr
  obtain ⟨-, g2⟩ := roots_mem.1 hq
  rcases Nat.lt_trichotomy r q with h | h | h
  · exact absurd h2 ((isRoot_iff h1).1 g1 q h)
  · exact h
  · exact absurd h1 ((isRoot_iff h2).1 g2 r h)
theorem one_of {p : Nat → Bool} {r : Nat} : ∀ {R : List Nat}, R.Pairwise (· < ·) → r ∈ R → p r = true → (∀ q ∈ R, p q = true → q = r) → R.filter p = [r]
  | [], _, h, _, _ => by cases h
  | x :: R, hp, hr, hpr, hu => by
    obtain ⟨h1, h2⟩ := List.pairwise_cons.1 hp
    by_cases e : x = r
    · subst e
      rw [List.filter_cons_of_pos hpr]
      have : R.filter p = [] := by
        rw [List.filter_eq_nil_iff]
        intro q hq hpq
        have := hu q (List.mem_cons_of_mem _ hq) hpq
        have := h1 q hq
        omega
      rw [this]
    · have hx : ¬ p x = true := fun h => e (hu x List.mem_cons_self h)
      rw [List.filter_cons_of_neg hx]
      rcases List.mem_cons.1 hr with h | h
      · exact absurd h.symm e
      · exact one_of h2 h hpr fun q hq => hu q (List.mem_cons_of_mem _ hq)
/-- What PostsSame counts. -/
theorem root_count {L : List Nat} {i l : Nat} (h : L[i]? = some l) : ((rootsL L).filter fun r => decide (L[r]? = some l) && decide (i ≤ r)).length = 1 := by
  obtain ⟨r, h1, h2, h3⟩ := root_up (Nat.le_refl _) h
  rw [one_of (r := r) (roots_rise L) h2 (by simp [h3, h1]) (fun q hq hp => by
    simp only [Bool.and_eq_true, decide_eq_true_eq] at hp
    exact root_one hq h2 hp.1 h3)]
  rfl
theorem roots_last {L : List Nat} (h : 0 < L.length) : (rootsL L).getLast? = some (L.length - 1) := by
  obtain ⟨n, hn⟩ : ∃ n, L.length = n + 1 := ⟨L.length - 1, by omega⟩
  have hl : L[n]? = some L[n] := List.getElem?_eq_getElem (by omega)
  have hr : isRoot L n = true := (isRoot_iff hl).2 fun k hk e => by
    have := (List.getElem?_eq_some_iff.1 e).1
    omega
  rw [rootsL, hn, List.range_succ, List.filter_append]
  simp [hr]

theorem range_take {α : Type} (l : List α) : ∀ m, (List.range m).filterMap (fun i => l[i]?) = l.take m
  | 0 => rfl
  | m + 1 => by
    rw [List.range_succ, List.filterMap_append, range_take l m, List.take_add_one]
    cases h : l[m]? <;> simp [h]
/-- A map's entries are the one row that has them in the order of their keys. -/
theorem ents_of (v : Val) (hnd : v.ks.Nodup) {L : List (ByteArray × Val)} (hp : L.Perm (v.ks.zip v.l)) (hs : L.Pairwise fun a b => a.1.toList ≤ b.1.toList) : L = v.ents := by
  have hm : v.ents.Perm (v.ks.zip v.l) := List.mergeSort_perm _ _
  have hs2 : v.ents.Pairwise fun a b => a.1.toList ≤ b.1.toList := by
    have := List.pairwise_mergeSort (le := fun a b : ByteArray × Val => decide (a.1.toList ≤ b.1.toList)) (fun a b c h1 h2 => by simp at *; exact List.le_trans h1 h2) (fun a b => by simp; exact List.le_total _ _) (v.ks.zip v.l)
    exact this.imp fun h => by simpa using h
  refine List.Perm.eq_of_pairwise (fun a b ha hb h1 h2 => ?_) hs hs2 (hp.trans hm.symm)
  have e := List.le_antisymm h1 h2
  have ek : a.1 = b.1 := by
    have : a.1.data = b.1.data := by
      rw [ByteArray.toList_eq, ByteArray.toList_eq] at e
      exact Array.toList_inj.1 e
    cases ha1 : a.1; cases hb1 : b.1; simp_all
  exact zip_key _ _ hnd a (hp.subset ha) b (hm.subset hb) ek
/-- Picked one by one, each the least that is left: the entries. -/
theorem picks_ents (v : Val) (hnd : v.ks.Nodup) {P : List Nat} (hp : P.Perm (List.range (v.ks.zip v.l).length)) (hs : P.Pairwise fun i j => ∀ a b, (v.ks.zip v.l)[i]? = some a → (v.ks.zip v.l)[j]? = some b → a.1.toList ≤ b.1.toList) : P.filterMap (fun i => (v.ks.zip v.l)[i]?) = v.ents := by
  refine ents_of v hnd ?_ ?_
  · have h := hp.filterMap (fun i => (v.ks.zip v.l)[i]?)
    rw [range_take, List.take_length] at h
    exact h
  · rw [List.pairwise_filterMap]
    exact hs.imp fun h a ha b hb => h a b ha hb

theorem within_parts {n : Nat} {v : Val} (h : v.within (n + 1) = true) : v.shape = true ∧ ∀ y ∈ v.l, y.within n = true := by
  rw [Val.within, Bool.and_eq_true, List.all_eq_true] at h
  exact h
theorem shape_eight {v : Val} (h : v.shape = true) (hk : v.k = 8) : v.ks.length = v.l.length ∧ v.ks.Nodup := by
  unfold Val.shape at h
  simp [hk] at h
  exact ⟨h.1.2, h.2⟩
theorem ents_fst {v : Val} (hl : v.ks.length = v.l.length) : (v.ents.map (·.1)).Perm v.ks := by
  have h := (ents_perm v).map (·.1)
  rwa [List.map_fst_zip (by omega)] at h
theorem zip_maps {α β γ : Type} (f : α → β) (g : α → γ) : ∀ l : List α, (l.map f).zip (l.map g) = l.map fun x => (f x, g x)
  | [] => rfl
  | x :: l => by rw [List.map_cons, List.map_cons, List.zip_cons_cons, zip_maps f g l]; rfl
/-- A value in order is in order. -/
theorem canon_canon : ∀ (n : Nat) (v : Val), v.within n = true → canon n (canon n v) = canon n v
  | 0, _, _ => rfl
  | n + 1, v, h => by
    obtain ⟨hs, hk⟩ := within_parts h
    by_cases h8 : v.k = 8
    · obtain ⟨hl, hnd⟩ := shape_eight hs h8
      have e : canon (n + 1) v = ⟨v.k, v.t, v.ents.map fun e => canon n e.2, v.ents.map (·.1)⟩ := by rw [canon_s, if_pos h8]
      have he : (canon (n + 1) v).ents = v.ents.map fun e => (e.1, canon n e.2) := by
        rw [e]
        refine (ents_of _ ((ents_fst hl).nodup_iff.2 hnd) ?_ ?_).symm
        · show List.Perm _ ((v.ents.map (·.1)).zip (v.ents.map fun e => canon n e.2))
          rw [zip_maps]
        · exact List.Pairwise.map _ (fun a b h => h) (ents_sorted v)
      rw [canon_s, if_pos (by rw [e]; exact h8), he, e, List.map_map, List.map_map]
      congr 1
      exact List.map_congr_left fun x hx => canon_canon n x.2 (hk _ (ents_mem hx).2)
    · have e : canon (n + 1) v = ⟨v.k, v.t, v.l.map (canon n), v.ks⟩ := by rw [canon_s, if_neg h8]
      rw [canon_s, if_neg (by rw [e]; exact h8), e, List.map_map]
      congr 1
      exact List.map_congr_left fun x hx => canon_canon n x (hk _ hx)
/-- .. and may be where the value may. -/
theorem canon_in : ∀ (n : Nat) (v : Val), v.within n = true → (canon n v).within n = true
  | 0, _, h => h
  | n + 1, v, h => by
    obtain ⟨hs, hk⟩ := within_parts h
    rw [Val.within, Bool.and_eq_true, List.all_eq_true]
    by_cases h8 : v.k = 8
    · obtain ⟨hl, hnd⟩ := shape_eight hs h8
      rw [canon_s, if_pos h8]
      refine ⟨?_, fun y hy => ?_⟩
      · refine (shape_of (v := v) (w := ⟨v.k, v.t, v.ents.map fun e => canon n e.2, v.ents.map (·.1)⟩) rfl rfl ?_ (ents_fst hl)).trans hs
        have := (ents_perm v).length_eq
        simp only [List.length_map, this, List.length_zip]
        omega
      · obtain ⟨x, hx, rfl⟩ := List.mem_map.1 hy
        exact canon_in n _ (hk _ (ents_mem hx).2)
    · rw [canon_s, if_neg h8]
      refine ⟨?_, fun y hy => ?_⟩
      · exact (shape_of (v := v) (w := ⟨v.k, v.t, v.l.map (canon n), v.ks⟩) rfl rfl (by simp) (List.Perm.refl _)).trans hs
      · obtain ⟨x, hx, rfl⟩ := List.mem_map.1 hy
        exact canon_in n _ (hk _ hx)

theorem leftsF_app (n fr : Nat) (L : List Nat) (xs ys : List Plc) : leftsF n fr L (xs ++ ys) = leftsF n fr (leftsF n fr L xs) ys := List.foldl_append
theorem leftsF_pre (n fr : Nat) : ∀ (xs : List Plc) (L : List Nat), ∃ M, leftsF n fr L xs = L ++ M
  | [], L => ⟨[], (List.append_nil L).symm⟩
  | x :: xs, L => by
    obtain ⟨M, h⟩ := leftsF_pre n fr xs (L ++ leftF n (fr + L.length) x)
    exact ⟨_, by rw [leftsF_cons, h, List.append_assoc]⟩
theorem leftsF_len (n fr : Nat) : ∀ (xs : List Plc) (L : List Nat), (leftsF n fr L xs).length = L.length + (xs.flatMap (postF n)).length
  | [], L => rfl
  | x :: xs, L => by
    rw [leftsF_cons, leftsF_len n fr xs, List.length_append, left_len, List.flatMap_cons, List.length_append]
    omega
theorem post_last (n : Nat) (e : Plc) : (postF (n + 1) e)[(postF (n + 1) e).length - 1]? = some ⟨e.kd, e.key, e.v.k, e.v.t⟩ := by
  rw [← List.getLast?_eq_getElem?, postF_succ]
  simp
theorem leftF_last (n fr : Nat) (e : Plc) : (leftF (n + 1) fr e)[(postF (n + 1) e).length - 1]? = some fr := by
  rw [← left_len (n + 1) fr e, ← List.getLast?_eq_getElem?, left_last]
/-- A part's node has the part's start as its leaf. -/
theorem kid_left (n fr : Nat) (xs : List Plc) (x : Plc) (ys : List Plc) : (leftsF (n + 1) fr [] (xs ++ x :: ys))[(xs.flatMap (postF (n + 1))).length + (postF (n + 1) x).length - 1]? = some (fr + (xs.flatMap (postF (n + 1))).length) := by
  have hp := post_pos n x
  have hl := leftsF_len (n + 1) fr xs []
  rw [List.length_nil, Nat.zero_add] at hl
  rw [leftsF_app, leftsF_cons]
  obtain ⟨M, h⟩ := leftsF_pre (n + 1) fr ys (leftsF (n + 1) fr [] xs ++ leftF (n + 1) (fr + (leftsF (n + 1) fr [] xs).length) x)
  have hx := left_len (n + 1) (fr + (leftsF (n + 1) fr [] xs).length) x
  rw [h, List.append_assoc, List.getElem?_append_right (by omega), List.getElem?_append_left (by omega), hl, show (xs.flatMap (postF (n + 1))).length + (postF (n + 1) x).length - 1 - (xs.flatMap (postF (n + 1))).length = (postF (n + 1) x).length - 1 by omega]
  exact leftF_last n _ x
/-- .. and its own label. -/
theorem kid_label (n : Nat) (xs : List Plc) (x : Plc) (ys : List Plc) : ((xs ++ x :: ys).flatMap (postF (n + 1)))[(xs.flatMap (postF (n + 1))).length + (postF (n + 1) x).length - 1]? = some ⟨x.kd, x.key, x.v.k, x.v.t⟩ := by
  have hp := post_pos n x
  rw [List.flatMap_append, List.flatMap_cons, List.getElem?_append_right (by omega), List.getElem?_append_left (by omega), show (xs.flatMap (postF (n + 1))).length + (postF (n + 1) x).length - 1 - (xs.flatMap (postF (n + 1))).length = (postF (n + 1) x).length - 1 by omega]
  exact post_last n x
/-- What `made` makes of a node: its value in order. -/
theorem canon_subs (n : Nat) (v : Val) : canon (n + 1) v = ⟨v.k, v.t, v.subs.map fun e => canon n e.v, if v.k = 8 then v.subs.map (·.key) else v.ks⟩ := by
  rw [canon_s]
  unfold Val.subs
  by_cases h : v.k = 8
  · rw [if_pos h, if_pos h, if_pos h, List.map_map, List.map_map]; rfl
  · rw [if_neg h, if_neg h, if_neg h, List.map_map]; rfl

theorem subs_canon {n : Nat} {v : Val} (h : v.within (n + 1) = true) : (canon (n + 1) v).subs = v.subs.map fun e => ⟨e.kd, e.key, canon n e.v⟩ := by
  obtain ⟨hs, -⟩ := within_parts h
  by_cases h8 : v.k = 8
  · obtain ⟨hl, hnd⟩ := shape_eight hs h8
    have e : canon (n + 1) v = ⟨v.k, v.t, v.ents.map fun e => canon n e.2, v.ents.map (·.1)⟩ := by rw [canon_s, if_pos h8]
    have he : (canon (n + 1) v).ents = v.ents.map fun e => (e.1, canon n e.2) := by
      rw [e]
      refine (ents_of _ ((ents_fst hl).nodup_iff.2 hnd) ?_ ?_).symm
      · show List.Perm _ ((v.ents.map (·.1)).zip (v.ents.map fun e => canon n e.2))
        rw [zip_maps]
      · exact List.Pairwise.map _ (fun a b h => h) (ents_sorted v)
    rw [Val.subs, if_pos (by rw [e]; exact h8), he, Val.subs, if_pos h8, List.map_map, List.map_map]; rfl
  · have e : canon (n + 1) v = ⟨v.k, v.t, v.l.map (canon n), v.ks⟩ := by rw [canon_s, if_neg h8]
    rw [Val.subs, if_neg (by rw [e]; exact h8), e, Val.subs, if_neg h8, List.map_map, List.map_map]; rfl
theorem subs_in {n : Nat} {v : Val} (h : v.within (n + 1) = true) : ∀ x ∈ v.subs, x.v.within n = true := by
  obtain ⟨-, hk⟩ := within_parts h
  intro x hx
  unfold Val.subs at hx
  by_cases h8 : v.k = 8
  · rw [if_pos h8] at hx
    obtain ⟨e, he, rfl⟩ := List.mem_map.1 hx
    exact hk _ (ents_mem he).2
  · rw [if_neg h8] at hx
    obtain ⟨y, hy, rfl⟩ := List.mem_map.1 hx
    exact hk _ hy
theorem canon_head (n : Nat) (v : Val) : (canon n v).k = v.k ∧ (canon n v).t = v.t := by
  cases n with
  | zero => exact ⟨rfl, rfl⟩
  | succ n =>
    rw [canon_s]
    by_cases h : v.k = 8
    · rw [if_pos h]; exact ⟨rfl, rfl⟩
    · rw [if_neg h]; exact ⟨rfl, rfl⟩
theorem flat_same {α β : Type} {f g : α → List β} : ∀ {l : List α}, (∀ x ∈ l, f x = g x) → l.flatMap f = l.flatMap g
  | [], _ => rfl
  | x :: l, h => by
    rw [List.flatMap_cons, List.flatMap_cons, h x List.mem_cons_self, flat_same fun y hy => h y (List.mem_cons_of_mem _ hy)]
/-- A value in order has the postorder that it had. -/
theorem post_canon : ∀ (n : Nat) (kd : Bool) (key : ByteArray) (v : Val), v.within n = true → postF (n + 1) ⟨kd, key, canon n v⟩ = postF (n + 1) ⟨kd, key, v⟩
  | 0, _, _, _, _ => rfl
  | n + 1, kd, key, v, h => by
    obtain ⟨c1, c2⟩ := canon_head (n + 1) v
    rw [postF_succ, postF_succ]
    show (canon (n + 1) v).subs.flatMap (postF (n + 1)) ++ [⟨kd, key, (canon (n + 1) v).k, (canon (n + 1) v).t⟩] = _
    rw [c1, c2, subs_canon h, List.flatMap_map]
    congr 1
    exact flat_same fun x hx => post_canon n x.kd x.key x.v (subs_in h x hx)
theorem left_canon : ∀ (n fr : Nat) (kd : Bool) (key : ByteArray) (v : Val), v.within n = true → leftF (n + 1) fr ⟨kd, key, canon n v⟩ = leftF (n + 1) fr ⟨kd, key, v⟩
  | 0, _, _, _, _, _ => rfl
  | n + 1, fr, kd, key, v, h => by
    rw [leftF_succ, leftF_succ]
    show leftsF (n + 1) fr [] (canon (n + 1) v).subs ++ [fr] = leftsF (n + 1) fr [] v.subs ++ [fr]
    rw [subs_canon h]
    have key : ∀ (xs : List Plc), (∀ x ∈ xs, x.v.within n = true) → ∀ L, leftsF (n + 1) fr L (xs.map fun e => ⟨e.kd, e.key, canon n e.v⟩) = leftsF (n + 1) fr L xs := by
      intro xs
      induction xs with
      | nil => intro _ L; rfl
      | cons x xs ih =>
        intro hx L
        rw [List.map_cons, leftsF_cons, leftsF_cons, left_canon n _ x.kd x.key x.v (hx x List.mem_cons_self)]
        exact ih (fun y hy => hx y (List.mem_cons_of_mem _ hy)) _
    rw [key _ (subs_in h)]

theorem shape_keys {v : Val} (h : v.shape = true) (hk : v.k ≠ 8) : v.ks = [] := by
  unfold Val.shape at h
  apply List.eq_nil_of_length_eq_zero
  repeat' split at h
  all_goals simp_all
/-- A part's row begins where the rows ahead end. -/
theorem leftsF_one (n fr : Nat) (xs : List Plc) (x : Plc) : leftsF n fr [] (xs ++ [x]) = leftsF n fr [] xs ++ leftF n (fr + (xs.flatMap (postF n)).length) x := by
  have hl := leftsF_len n fr xs []
  rw [List.length_nil, Nat.zero_add] at hl
  rw [leftsF_app, leftsF_cons, hl]; rfl
theorem kids_inj {n : Nat} (ih : ∀ (fr : Nat) (x y : Plc), x.v.within n = true → y.v.within n = true → postF (n + 1) x = postF (n + 1) y → leftF (n + 1) fr x = leftF (n + 1) fr y → canon n x.v = canon n y.v) (fr : Nat) :
    ∀ (m : Nat) (xs ys : List Plc), xs.length ≤ m → (∀ x ∈ xs, x.v.within n = true) → (∀ y ∈ ys, y.v.within n = true) → xs.flatMap (postF (n + 1)) = ys.flatMap (postF (n + 1)) → leftsF (n + 1) fr [] xs = leftsF (n + 1) fr [] ys →
      (xs.map fun e => (⟨e.kd, e.key, canon n e.v⟩ : Plc)) = ys.map fun e => ⟨e.kd, e.key, canon n e.v⟩ := by
  have empty : ∀ zs : List Plc, zs.flatMap (postF (n + 1)) = [] → zs = [] := by
    intro zs h
    cases zs with
    | nil => rfl
    | cons z zs =>
      rw [List.flatMap_cons] at h
      have := post_pos n z
      have h2 := congrArg List.length h
      rw [List.length_append, List.length_nil] at h2
      omega
  intro m
  induction m with
  | zero =>
    intro xs ys hm _ _ h1 _
    have := List.eq_nil_of_length_eq_zero (Nat.le_zero.1 hm)
    subst this
    rw [empty ys h1.symm]
  | succ m im =>
    intro xs ys hm hx hy h1 h2
    rcases List.eq_nil_or_concat xs with e | ⟨xs', x, e⟩
    · subst e
      rw [empty ys h1.symm]
    · rcases List.eq_nil_or_concat ys with e2 | ⟨ys', y, e2⟩
      · subst e2
        rw [empty xs h1]
      · rw [List.concat_eq_append] at e e2
        subst e
        subst e2
        have k1 := kid_left n fr xs' x []
        have k2 := kid_left n fr ys' y []
        have p1 := post_pos n x
        have p2 := post_pos n y
        have ht := congrArg List.length h1
        simp only [List.flatMap_append, List.flatMap_singleton, List.length_append] at ht
        rw [← h2, show (ys'.flatMap (postF (n + 1))).length + (postF (n + 1) y).length - 1 = (xs'.flatMap (postF (n + 1))).length + (postF (n + 1) x).length - 1 by omega, k1] at k2
        have hab : (xs'.flatMap (postF (n + 1))).length = (ys'.flatMap (postF (n + 1))).length := by
          injection k2 with k2; omega
        simp only [List.flatMap_append, List.flatMap_singleton] at h1
        obtain ⟨g1, g2⟩ := List.append_inj h1 hab
        rw [leftsF_one, leftsF_one, ← hab] at h2
        have hl1 := leftsF_len (n + 1) fr xs' []
        have hl2 := leftsF_len (n + 1) fr ys' []
        obtain ⟨g3, g4⟩ := List.append_inj h2 (by omega)
        have hc := ih _ x y (hx x (by simp)) (hy y (by simp)) g2 g4
        have hlab := post_last n x
        rw [g2, post_last n y] at hlab
        injection hlab with hlab
        injection hlab with q1 q2 q3 q4
        rw [List.map_append, List.map_append, im xs' ys' (by simp at hm; omega) (fun z hz => hx z (by simp [hz])) (fun z hz => hy z (by simp [hz])) g1 g3]
        simp [q1, q2, hc]
/-- Values whose postorders are the same are the same in order. -/
theorem post_inj : ∀ (n fr : Nat) (x y : Plc), x.v.within n = true → y.v.within n = true → postF (n + 1) x = postF (n + 1) y → leftF (n + 1) fr x = leftF (n + 1) fr y → canon n x.v = canon n y.v
  | 0, fr, x, y, hx, hy, h1, h2 => by
    have hlab := post_last 0 x
    rw [h1, post_last 0 y] at hlab
    injection hlab with hlab
    injection hlab with q1 q2 q3 q4
    rw [Val.within_0, Bool.and_eq_true] at hx hy
    have g1 := shape_leaf2 hx.1 (by simpa using hx.2)
    have g2 := shape_leaf2 hy.1 (by simpa using hy.2)
    show x.v = y.v
    obtain ⟨kd, key, k, t, l, ks⟩ := x
    obtain ⟨kd2, key2, k2, t2, l2, ks2⟩ := y
    simp only at g1 g2 q3 q4
    rw [g1.1, g1.2, g2.1, g2.2, q3, q4]
  | n + 1, fr, x, y, hx, hy, h1, h2 => by
    have hlab := post_last (n + 1) x
    rw [h1, post_last (n + 1) y] at hlab
    injection hlab with hlab
    injection hlab with q1 q2 q3 q4
    rw [postF_succ, postF_succ] at h1
    rw [leftF_succ, leftF_succ] at h2
    obtain ⟨g1, -⟩ := List.append_inj' h1 rfl
    obtain ⟨g2, -⟩ := List.append_inj' h2 rfl
    have hk := kids_inj (post_inj n) fr _ x.v.subs y.v.subs (Nat.le_refl _) (subs_in hx) (subs_in hy) g1 g2
    rw [canon_subs, canon_subs, q3, q4]
    have e1 : (x.v.subs.map fun e => canon n e.v) = y.v.subs.map fun e => canon n e.v := by
      have := congrArg (List.map Plc.v) hk
      rwa [List.map_map, List.map_map] at this
    have e2 : x.v.subs.map (·.key) = y.v.subs.map (·.key) := by
      have := congrArg (List.map Plc.key) hk
      rwa [List.map_map, List.map_map] at this
    rw [e1, e2]
    by_cases h8 : x.v.k = 8
    · rw [if_pos h8, if_pos h8]
    · rw [if_neg h8, if_neg h8, shape_keys (within_parts hx).1 h8, shape_keys (within_parts hy).1 (by rw [q3]; exact h8)]

/-- A row from a place further on. -/
theorem left_shift : ∀ (n fr d : Nat) (e : Plc), leftF n (fr + d) e = (leftF n fr e).map (· + d)
  | 0, _, _, _ => rfl
  | n + 1, fr, d, e => by
    have key : ∀ (xs : List Plc) (L : List Nat), leftsF n (fr + d) (L.map (· + d)) xs = (leftsF n fr L xs).map (· + d) := by
      intro xs
      induction xs with
      | nil => intro L; rfl
      | cons x xs ih =>
        intro L
        rw [leftsF_cons, leftsF_cons, List.length_map, show fr + d + L.length = fr + L.length + d by omega, left_shift n (fr + L.length) d x, ← List.map_append, ih]
    rw [leftF_succ, leftF_succ, List.map_append, ← key]; rfl
theorem find_part {n : Nat} : ∀ (xs : List Plc) (i : Nat), i < (xs.flatMap (postF n)).length → ∃ xs1 x xs2, xs = xs1 ++ x :: xs2 ∧ (xs1.flatMap (postF n)).length ≤ i ∧ i < (xs1.flatMap (postF n)).length + (postF n x).length
  | [], i, h => by simp at h
  | x :: xs, i, h => by
    by_cases hi : i < (postF n x).length
    · exact ⟨[], x, xs, rfl, by simp, by simpa using hi⟩
    · rw [List.flatMap_cons, List.length_append] at h
      obtain ⟨a, y, b, g1, g2, g3⟩ := find_part (n := n) xs (i - (postF n x).length) (by omega)
      refine ⟨x :: a, y, b, by rw [g1]; rfl, ?_, ?_⟩
      · rw [List.flatMap_cons, List.length_append]; omega
      · rw [List.flatMap_cons, List.length_append]; omega
theorem subs_leaf {v : Val} (h : v.within 0 = true) : v.subs = [] := by
  rw [Val.within_0, Bool.and_eq_true] at h
  have hk : v.k < 7 := by simpa using h.2
  have g := shape_leaf2 h.1 hk
  rw [Val.subs, if_neg (by omega), g.1]; rfl
/-- Each node's part is the postorder of a value. -/
theorem seg_at : ∀ (n fr : Nat) (e : Plc) (i : Nat), e.v.within n = true → i < (postF (n + 1) e).length → ∃ (m : Nat) (x : Plc) (A B : List Lab) (A' B' : List Nat), x.v.within m = true ∧ postF (n + 1) e = A ++ postF (m + 1) x ++ B ∧ A.length + (postF (m + 1) x).length = i + 1 ∧ leftF (n + 1) fr e = A' ++ leftF (m + 1) (fr + A.length) x ++ B' ∧ A'.length = A.length
  | 0, fr, e, i, he, hi => by
    have h1 : (postF (0 + 1) e).length = 1 := by rw [postF_succ, subs_leaf he]; rfl
    exact ⟨0, e, [], [], [], [], he, by simp, by rw [List.length_nil, Nat.zero_add]; omega, by simp, rfl⟩
  | n + 1, fr, e, i, he, hi => by
    by_cases hl : i + 1 = (postF (n + 1 + 1) e).length
    · exact ⟨n + 1, e, [], [], [], [], he, by simp, by rw [List.length_nil, Nat.zero_add]; omega, by simp, rfl⟩
    · have hi2 : i < (e.v.subs.flatMap (postF (n + 1))).length := by
        have h0 : (postF (n + 1 + 1) e).length = (e.v.subs.flatMap (postF (n + 1))).length + 1 := by rw [postF_succ, List.length_append, List.length_singleton]
        omega
      obtain ⟨xs1, x, xs2, g1, g2, g3⟩ := find_part _ _ hi2
      have hx := subs_in he x (by rw [g1]; simp)
      obtain ⟨m, y, A, B, A', B', k1, k2, k3, k4, k5⟩ := seg_at n (fr + (xs1.flatMap (postF (n + 1))).length) x (i - (xs1.flatMap (postF (n + 1))).length) hx (by omega)
      have hl1 := leftsF_len (n + 1) fr xs1 []
      rw [List.length_nil, Nat.zero_add] at hl1
      obtain ⟨M, hM⟩ := leftsF_pre (n + 1) fr xs2 (leftsF (n + 1) fr [] xs1 ++ leftF (n + 1) (fr + (leftsF (n + 1) fr [] xs1).length) x)
      refine ⟨m, y, xs1.flatMap (postF (n + 1)) ++ A, B ++ xs2.flatMap (postF (n + 1)) ++ [⟨e.kd, e.key, e.v.k, e.v.t⟩], leftsF (n + 1) fr [] xs1 ++ A', B' ++ M ++ [fr], k1, ?_, ?_, ?_, ?_⟩
      · rw [postF_succ, g1, List.flatMap_append, List.flatMap_cons, k2]
        simp only [List.append_assoc]
      · rw [List.length_append]; omega
      · rw [leftF_succ, g1, leftsF_app, leftsF_cons, hM, hl1, k4, List.length_append, ← Nat.add_assoc]
        simp only [List.append_assoc]
      · rw [List.length_append, List.length_append, hl1, k5]

theorem subs_perm {v : Val} (h : v.shape = true) : (v.subs.map (·.v)).Perm v.l := by
  unfold Val.subs
  by_cases h8 : v.k = 8
  · obtain ⟨hl, -⟩ := shape_eight h h8
    rw [if_pos h8, List.map_map]
    have hp := (ents_perm v).map (·.2)
    rw [List.map_snd_zip (by omega)] at hp
    exact hp
  · rw [if_neg h8, List.map_map]
    rw [show (fun x : Plc => x.v) ∘ (fun x : Val => (⟨false, ⟨#[]⟩, x⟩ : Plc)) = id from rfl, List.map_id]
/-- A value has as many labels as its size. -/
theorem post_size : ∀ (n : Nat) (e : Plc), e.v.within n = true → (postF (n + 1) e).length = e.v.size
  | 0, e, he => by
    rw [postF_succ, subs_leaf he]
    rw [Val.within_0, Bool.and_eq_true] at he
    have g := shape_leaf2 he.1 (by simpa using he.2)
    rw [Val.size, g.1]; rfl
  | n + 1, e, he => by
    have hs := (within_parts he).1
    rw [postF_succ, List.length_append, List.length_flatMap, List.length_singleton, Val.size]
    have e1 : (e.v.subs.map fun x => (postF (n + 1) x).length) = (e.v.subs.map (·.v)).map Val.size := by
      rw [List.map_map]
      exact List.map_congr_left fun x hx => post_size n x (subs_in he x hx)
    rw [e1, ((subs_perm hs).map Val.size).sum_nat]
    omega
end Go.Proofs.Ytmhkacafilpliaa
