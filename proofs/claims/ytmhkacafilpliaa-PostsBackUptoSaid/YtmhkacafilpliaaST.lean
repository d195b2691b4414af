/-
  A stable sort, plain: rows merged, one of equals ahead of the other as they stood; parts of a row exchanged, rotated, merged in place. No program. Condition of the laws: a strict weak order.
-/
import Derived.Sort.Statements
namespace Go.Proofs.Ytmhkacafilpliaa
open Go.Sort

section
variable {α : Type} (lt : α → α → Bool)
/-- Two rows merged; of equal ones the first row's stand ahead. -/
def mergeL : List α → List α → List α
  | [], ys => ys
  | x :: xs, [] => x :: xs
  | x :: xs, y :: ys => if lt y x then y :: mergeL (x :: xs) ys else x :: mergeL xs (y :: ys)
termination_by xs ys => xs.length + ys.length
/-- Put in, ahead of its equals. -/
def insL (x : α) : List α → List α
  | [] => [x]
  | y :: l => if lt y x then y :: insL x l else x :: y :: l
/-- A row sorted, its equals left in order. -/
def stab : List α → List α
  | [] => []
  | x :: l => insL lt x (stab l)
def AscL (l : List α) : Prop := l.Pairwise fun x y => lt y x = false

theorem mergeL_nil (ys : List α) : mergeL lt [] ys = ys := by rw [mergeL]
theorem mergeL_nil_r (xs : List α) : mergeL lt xs [] = xs := by cases xs <;> rw [mergeL]
theorem mergeL_cons (x : α) (xs : List α) (y : α) (ys : List α) : mergeL lt (x :: xs) (y :: ys) = if lt y x then y :: mergeL lt (x :: xs) ys else x :: mergeL lt xs (y :: ys) := by rw [mergeL]
variable {lt}
theorem merge_split : ∀ {u1 u2 v1 v2 : List α}, (∀ u ∈ u1, ∀ v ∈ v2, lt v u = false) → (∀ u ∈ u2, ∀ v ∈ v1, lt v u = true) → mergeL lt (u1 ++ u2) (v1 ++ v2) = mergeL lt u1 v1 ++ mergeL lt u2 v2
  | [], u2, [], v2, _, _ => by simp [mergeL_nil]
  | [], [], y :: v1, v2, _, _ => by simp [mergeL_nil]
  | [], x :: u2, y :: v1, v2, h1, h2 => by
    have := merge_split (u1 := []) (u2 := x :: u2) (v1 := v1) (v2 := v2) h1 fun u hu v hv => h2 u hu v (List.mem_cons_of_mem _ hv)
    rw [List.nil_append, mergeL_nil] at this
    rw [List.nil_append, List.cons_append, mergeL_cons, if_pos (h2 x List.mem_cons_self y List.mem_cons_self), this, mergeL_nil, List.cons_append]
  | x :: u1, u2, [], [], _, _ => by simp [mergeL_nil_r]
  | x :: u1, u2, [], y :: v2, h1, h2 => by
    have := merge_split (u1 := u1) (u2 := u2) (v1 := []) (v2 := y :: v2) (fun u hu => h1 u (List.mem_cons_of_mem _ hu)) h2
    rw [List.nil_append, mergeL_nil_r] at this
    rw [List.nil_append, List.cons_append, mergeL_cons, if_neg (by rw [h1 x List.mem_cons_self y List.mem_cons_self]; simp), this, mergeL_nil_r, List.cons_append]
  | x :: u1, u2, y :: v1, v2, h1, h2 => by
    rw [List.cons_append, List.cons_append, mergeL_cons, mergeL_cons]
    by_cases h : lt y x = true
    · have := merge_split (u1 := x :: u1) (u2 := u2) (v1 := v1) (v2 := v2) h1 fun u hu v hv => h2 u hu v (List.mem_cons_of_mem _ hv)
      rw [List.cons_append] at this
      rw [if_pos h, if_pos h, this, List.cons_append]
    · have := merge_split (u1 := u1) (u2 := u2) (v1 := y :: v1) (v2 := v2) (fun u hu => h1 u (List.mem_cons_of_mem _ hu)) h2
      rw [List.cons_append] at this
      rw [if_neg h, if_neg h, this, List.cons_append]
termination_by u1 _ v1 _ => u1.length + v1.length
theorem merge_perm : ∀ (xs ys : List α), (mergeL lt xs ys).Perm (xs ++ ys)
  | [], ys => by rw [mergeL_nil]; exact .refl _
  | x :: xs, [] => by rw [mergeL_nil_r]; simp
  | x :: xs, y :: ys => by
    rw [mergeL_cons]
    split
    · exact ((merge_perm (x :: xs) ys).cons y).trans List.perm_middle.symm
    · exact (merge_perm xs (y :: ys)).cons x
termination_by xs ys => xs.length + ys.length
theorem merge_asc (hO : SWO lt) : ∀ {xs ys : List α}, AscL lt xs → AscL lt ys → AscL lt (mergeL lt xs ys)
  | [], ys, _, h => by rwa [mergeL_nil]
  | x :: xs, [], h, _ => by rwa [mergeL_nil_r]
  | x :: xs, y :: ys, hx, hy => by
    have hx' := List.pairwise_cons.1 hx
    have hy' := List.pairwise_cons.1 hy
    rw [mergeL_cons]
    have hasym : ∀ a b, lt a b = true → lt b a = false := fun a b h => by
      cases h2 : lt b a with
      | false => rfl
      | true => have := hO.trans a b a h h2; rw [hO.irrefl] at this; cases this
    split
    · next h =>
      refine List.pairwise_cons.2 ⟨fun z hz => ?_, merge_asc hO hx hy'.2⟩
      rcases List.mem_append.1 ((merge_perm _ _).mem_iff.1 hz) with hz | hz
      · rcases List.mem_cons.1 hz with rfl | hz
        · exact hasym _ _ h
        · exact hO.ntrans _ _ _ (hx'.1 z hz) (hasym _ _ h)
      · exact hy'.1 z hz
    · next h =>
      have h : lt y x = false := by simpa using h
      refine List.pairwise_cons.2 ⟨fun z hz => ?_, merge_asc hO hx'.2 hy⟩
      rcases List.mem_append.1 ((merge_perm _ _).mem_iff.1 hz) with hz | hz
      · exact hx'.1 z hz
      · rcases List.mem_cons.1 hz with rfl | hz
        · exact h
        · exact hO.ntrans _ _ _ (hy'.1 z hz) h
termination_by xs ys => xs.length + ys.length
theorem merge_ins (hO : SWO lt) (x : α) : ∀ (s1 s2 : List α), mergeL lt (insL lt x s1) s2 = insL lt x (mergeL lt s1 s2)
  | [], [] => by simp [insL, mergeL_nil_r]
  | [], y :: ys => by
    have ih := merge_ins hO x [] ys
    rw [mergeL_nil] at ih ⊢
    simp only [insL] at ih ⊢
    rw [mergeL_cons, ih, mergeL_nil]
  | a :: s1, [] => by rw [mergeL_nil_r, mergeL_nil_r]
  | a :: s1, y :: ys => by
    have ih1 := merge_ins hO x (a :: s1) ys
    have ih2 := merge_ins hO x s1 (y :: ys)
    by_cases h1 : lt a x = true
    · simp only [insL, if_pos h1] at ih1 ⊢
      rw [mergeL_cons, mergeL_cons]
      by_cases h2 : lt y a = true
      · simp only [if_pos h2, insL, if_pos (hO.trans _ _ _ h2 h1), ih1]
      · simp only [if_neg h2, insL, if_pos h1, ih2]
    · simp only [insL, if_neg h1] at ih1 ⊢
      rw [mergeL_cons, mergeL_cons]
      have h1' : lt a x = false := by simpa using h1
      by_cases h2 : lt y x = true
      · have h3 : lt y a = true := by
          cases h3 : lt y a with
          | true => rfl
          | false => have := hO.ntrans _ _ _ h3 h1'; rw [h2] at this; cases this
        simp only [if_pos h2, if_pos h3, insL, ih1]
      · simp only [if_neg h2]
        by_cases h3 : lt y a = true
        · simp only [if_pos h3, insL, if_neg h2]
        · simp only [if_neg h3, insL, if_neg h1]
termination_by s1 s2 => s1.length + s2.length
theorem stab_append (hO : SWO lt) : ∀ (l1 l2 : List α), stab lt (l1 ++ l2) = mergeL lt (stab lt l1) (stab lt l2)
  | [], l2 => by simp [stab, mergeL_nil]
  | x :: l1, l2 => by rw [List.cons_append, stab, stab, stab_append hO l1 l2, merge_ins hO]
theorem insL_merge (x : α) (l : List α) : insL lt x l = mergeL lt [x] l := by
  induction l with
  | nil => simp [insL, mergeL_nil_r]
  | cons y l ih => rw [insL, mergeL_cons, ih, mergeL_nil]
theorem stab_perm : ∀ l : List α, (stab lt l).Perm l
  | [] => .refl _
  | x :: l => by
    rw [stab, insL_merge]
    exact (merge_perm _ _).trans ((stab_perm l).cons x)
theorem stab_asc (hO : SWO lt) : ∀ l : List α, AscL lt (stab lt l)
  | [] => List.Pairwise.nil
  | x :: l => by
    rw [stab, insL_merge]
    exact merge_asc hO (List.pairwise_singleton _ _) (stab_asc hO l)
/-- A sorted row stays. -/
theorem merge_le : ∀ {U V : List α}, (∀ u ∈ U, ∀ v ∈ V, lt v u = false) → mergeL lt U V = U ++ V := fun {U V} h => by
  have := merge_split (lt := lt) (u1 := U) (u2 := []) (v1 := []) (v2 := V) h (by simp)
  simpa [mergeL_nil, mergeL_nil_r] using this
theorem merge_gt {U V : List α} (h : ∀ u ∈ U, ∀ v ∈ V, lt v u = true) : mergeL lt U V = V ++ U := by
  have := merge_split (lt := lt) (u1 := []) (u2 := U) (v1 := V) (v2 := []) (by simp) h
  simpa [mergeL_nil, mergeL_nil_r] using this
theorem stab_of_asc : ∀ {l : List α}, AscL lt l → stab lt l = l
  | [], _ => rfl
  | x :: l, h => by
    have h' := List.pairwise_cons.1 h
    rw [stab, stab_of_asc h'.2, insL_merge, merge_le]
    · rfl
    · intro u hu v hv; rw [List.mem_singleton] at hu; subst hu; exact h'.1 v hv
end
section
variable {α : Type} [Inhabited α]
/-- A part of a row. -/
def seg (d : Array α) (a b : Nat) : List α := (d.extract a b).toList
omit [Inhabited α] in
theorem seg_len {d : Array α} {a b : Nat} (h : b ≤ d.size) : (seg d a b).length = b - a := by simp [seg]; omega
theorem seg_get {d : Array α} {a b i : Nat} (h : b ≤ d.size) (hi : a + i < b) : (seg d a b)[i]? = some d[a + i]! := by
  have h1 : i < (seg d a b).length := by rw [seg_len h]; omega
  rw [List.getElem?_eq_getElem h1]
  have h2 : a + i < d.size := by omega
  simp [seg, h2]
theorem seg_mem {d : Array α} {a b : Nat} {x : α} (h : b ≤ d.size) (hx : x ∈ seg d a b) : ∃ i, a ≤ i ∧ i < b ∧ x = d[i]! := by
  obtain ⟨k, hk, e⟩ := List.mem_iff_getElem.1 hx
  rw [seg_len h] at hk
  refine ⟨a + k, by omega, by omega, ?_⟩
  have := seg_get (d := d) (a := a) (b := b) (i := k) h (by omega)
  rw [List.getElem?_eq_getElem (by rw [seg_len h]; exact hk), e] at this
  exact Option.some.inj this
theorem seg_ext {d : Array α} {a b : Nat} {l : List α} (h : b ≤ d.size) (hl : l.length = b - a) (hg : ∀ i, a + i < b → l[i]? = some d[a + i]!) : l = seg d a b := by
  apply List.ext_getElem?
  intro i
  by_cases hi : a + i < b
  · rw [hg i hi, seg_get h hi]
  · rw [List.getElem?_eq_none (by omega), List.getElem?_eq_none (by rw [seg_len h]; omega)]
theorem seg_congr {d d' : Array α} {a b : Nat} (h : b ≤ d.size) (h' : b ≤ d'.size) (hg : ∀ i, a ≤ i → i < b → d'[i]! = d[i]!) : seg d' a b = seg d a b :=
  seg_ext h (by rw [seg_len h']) fun i hi => by rw [seg_get h' hi, hg _ (by omega) hi]
theorem seg_app {d : Array α} {a m b : Nat} (h1 : a ≤ m) (h2 : m ≤ b) (h : b ≤ d.size) : seg d a m ++ seg d m b = seg d a b := by
  refine seg_ext h (by rw [List.length_append, seg_len h, seg_len (by omega)]; omega) fun i hi => ?_
  by_cases him : a + i < m
  · rw [List.getElem?_append_left (by rw [seg_len (by omega)]; omega), seg_get (by omega) him]
  · rw [List.getElem?_append_right (by rw [seg_len (by omega)]; omega), seg_len (by omega), seg_get h (by omega)]
    congr 2
    omega
theorem seg_one {d : Array α} {a : Nat} (h : a < d.size) : seg d a (a + 1) = [d[a]!] :=
  (seg_ext (by omega) (by simp) fun i hi => by obtain rfl : i = 0 := by omega
                                               simp).symm
omit [Inhabited α] in
theorem seg_nil (d : Array α) (a : Nat) : seg d a a = [] := by simp [seg]
/-- Outside a part nothing has turned. -/
def Out (a b : Nat) (d d' : Array α) : Prop := d'.size = d.size ∧ ∀ i, i < a ∨ b ≤ i → d'[i]! = d[i]!
theorem Out.refl (a b : Nat) (d : Array α) : Out a b d d := ⟨rfl, fun _ _ => rfl⟩
theorem Out.trans {a b : Nat} {d d' d'' : Array α} (h : Out a b d d') (h2 : Out a b d' d'') : Out a b d d'' := ⟨h2.1.trans h.1, fun i hi => (h2.2 i hi).trans (h.2 i hi)⟩
theorem Out.widen {a b a' b' : Nat} {d d' : Array α} (h : Out a b d d') (h1 : a' ≤ a) (h2 : b ≤ b') : Out a' b' d d' := ⟨h.1, fun i hi => h.2 i (by omega)⟩
theorem Out.seg {a b x y : Nat} {d d' : Array α} (h : Out a b d d') (hy : y ≤ d.size) (ho : y ≤ a ∨ b ≤ x) : seg d' x y = seg d x y :=
  seg_congr hy (by rw [h.1]; exact hy) fun i _ _ => h.2 i (by omega)
theorem get_swp {d : Array α} {i j : Nat} (hi : i < d.size) (hj : j < d.size) (k : Nat) : (swp d i j)[k]! = if k = j then d[i]! else if k = i then d[j]! else d[k]! := by
  unfold swp
  by_cases h1 : k = j
  · subst h1
    simp [getElem!_def, hj]
  · by_cases h2 : k = i
    · subst h2
      rw [if_neg h1, if_pos rfl]
      simp only [getElem!_def]
      rw [Array.getElem?_setIfInBounds_ne (by omega), Array.getElem?_setIfInBounds_self_of_lt (by omega)]
    · rw [if_neg h1, if_neg h2]
      simp only [getElem!_def]
      rw [Array.getElem?_setIfInBounds_ne (by omega), Array.getElem?_setIfInBounds_ne (by omega)]
theorem size_swp' (d : Array α) (i j : Nat) : (swp d i j).size = d.size := by simp [swp]
/-- The first n of two parts exchanged. -/
structure SwR (d : Array α) (a b n : Nat) (d' : Array α) : Prop where
  size : d'.size = d.size
  get : ∀ k, d'[k]! = if a ≤ k ∧ k < a + n then d[b + (k - a)]! else if b ≤ k ∧ k < b + n then d[a + (k - b)]! else d[k]!
theorem SwR.zero (d : Array α) (a b : Nat) : SwR d a b 0 d := ⟨rfl, fun k => by rw [if_neg (by omega), if_neg (by omega)]⟩
theorem SwR.succ {d d' : Array α} {a b n : Nat} (h : SwR d a b n d') (hab : a + (n + 1) ≤ b) (hb : b + n < d.size) : SwR d a b (n + 1) (swp d' (a + n) (b + n)) := by
  refine ⟨(size_swp' _ _ _).trans h.size, fun k => ?_⟩
  have e1 := h.get (a + n)
  have e2 := h.get (b + n)
  rw [if_neg (by omega), if_neg (by omega)] at e1 e2
  rw [get_swp (by rw [h.size]; omega) (by rw [h.size]; omega), e1, e2, h.get k]
  by_cases k1 : k = b + n
  · subst k1
    rw [if_pos rfl, if_neg (by omega), if_pos (by omega)]
    congr 1; omega
  · by_cases k2 : k = a + n
    · subst k2
      rw [if_neg (by omega), if_pos rfl, if_pos (by omega)]
      congr 1; omega
    · rw [if_neg k1, if_neg k2]
      by_cases k3 : a ≤ k ∧ k < a + n
      · rw [if_pos k3, if_pos (show a ≤ k ∧ k < a + (n + 1) by omega)]
      · rw [if_neg k3, if_neg (show ¬ (a ≤ k ∧ k < a + (n + 1)) by omega)]
        by_cases k4 : b ≤ k ∧ k < b + n
        · rw [if_pos k4, if_pos (show b ≤ k ∧ k < b + (n + 1) by omega)]
        · rw [if_neg k4, if_neg (show ¬ (b ≤ k ∧ k < b + (n + 1)) by omega)]
section
variable {d d' : Array α} {a b n : Nat}
theorem SwR.fst (h : SwR d a b n d') (hab : a + n ≤ b) (hb : b + n ≤ d.size) : seg d' a (a + n) = seg d b (b + n) :=
  (seg_ext (by rw [h.size]; omega) (by rw [seg_len hb]; omega) fun i hi => by rw [seg_get hb (by omega), h.get, if_pos (by omega)]; congr 2; omega).symm
theorem SwR.snd (h : SwR d a b n d') (hab : a + n ≤ b) (hb : b + n ≤ d.size) : seg d' b (b + n) = seg d a (a + n) :=
  (seg_ext (by rw [h.size]; omega) (by rw [seg_len (by omega)]; omega) fun i hi => by rw [seg_get (by omega) (by omega), h.get, if_neg (by omega), if_pos (by omega)]; congr 2; omega).symm
theorem SwR.other (h : SwR d a b n d') {x y : Nat} (hy : y ≤ d.size) (ho : y ≤ a ∨ a + n ≤ x) (ho2 : y ≤ b ∨ b + n ≤ x) : seg d' x y = seg d x y :=
  seg_congr hy (by rw [h.size]; exact hy) fun i h1 h2 => by rw [h.get, if_neg (by omega), if_neg (by omega)]
theorem SwR.out (h : SwR d a b n d') (hab : a + n ≤ b) : Out a (b + n) d d' := ⟨h.size, fun i hi => by rw [h.get, if_neg (by omega), if_neg (by omega)]⟩
end

/-- A rotation on the way: i and j are what is left ahead of m and behind it. -/
structure RotS (d0 : Array α) (a m b : Nat) (i j : Nat) (d : Array α) : Prop where
  out : Out a b d0 d
  eq : seg d0 m b ++ seg d0 a m = seg d a (m - i) ++ (seg d m (m + j) ++ seg d (m - i) m) ++ seg d (m + j) b
section
variable {d0 d d' : Array α} {a m b i j : Nat}
theorem RotS.start (h1 : a ≤ m) (h2 : m ≤ b) : RotS d0 a m b (m - a) (b - m) d0 := by
  refine ⟨.refl _ _ _, ?_⟩
  rw [show m - (m - a) = a by omega, show m + (b - m) = b by omega, seg_nil, seg_nil, List.append_nil, List.nil_append]
/-- The left one is longer. -/
theorem RotS.left (h : RotS d0 a m b i j d) (hi : i ≤ m - a) (hj : j ≤ b - m) (hij : j < i) (hb : b ≤ d0.size) (hm : m ≤ b) (hs : SwR d (m - i) m j d') : RotS d0 a m b (i - j) j d' := by
  have hds : d.size = d0.size := h.out.1
  refine ⟨h.out.trans ((hs.out (by omega)).widen (by omega) (by omega)), ?_⟩
  have e1 : seg d' a (m - i) = seg d a (m - i) := hs.other (by omega) (by omega) (by omega)
  have e2 : seg d' (m - i) (m - i + j) = seg d m (m + j) := hs.fst (by omega) (by omega)
  have e3 : seg d' m (m + j) = seg d (m - i) (m - i + j) := hs.snd (by omega) (by omega)
  have e4 : seg d' (m - i + j) m = seg d (m - i + j) m := hs.other (by omega) (by omega) (by omega)
  have e5 : seg d' (m + j) b = seg d (m + j) b := hs.other (by omega) (by omega) (by omega)
  rw [h.eq, show m - (i - j) = m - i + j by omega, ← seg_app (d := d') (a := a) (m := m - i) (b := m - i + j) (by omega) (by omega) (by rw [hs.size]; omega), e1, e2, e3, e4, e5,
    ← seg_app (d := d) (a := m - i) (m := m - i + j) (b := m) (by omega) (by omega) (by omega)]
  simp only [List.append_assoc]
/-- The right one is. -/
theorem RotS.right (h : RotS d0 a m b i j d) (hi : i ≤ m - a) (hj : j ≤ b - m) (hij : i < j) (hb : b ≤ d0.size) (hm : m ≤ b) (ha : a ≤ m) (hs : SwR d (m - i) (m + j - i) i d') : RotS d0 a m b i (j - i) d' := by
  have hds : d.size = d0.size := h.out.1
  refine ⟨h.out.trans ((hs.out (by omega)).widen (by omega) (by omega)), ?_⟩
  have e1 : seg d' a (m - i) = seg d a (m - i) := hs.other (by omega) (by omega) (by omega)
  have e2 : seg d' (m - i) m = seg d (m + j - i) (m + j) := by
    have := hs.fst (by omega) (by omega)
    rwa [show m - i + i = m by omega, show m + j - i + i = m + j by omega] at this
  have e3 : seg d' (m + j - i) (m + j) = seg d (m - i) m := by
    have := hs.snd (by omega) (by omega)
    rwa [show m - i + i = m by omega, show m + j - i + i = m + j by omega] at this
  have e4 : seg d' m (m + j - i) = seg d m (m + j - i) := hs.other (by omega) (by omega) (by omega)
  have e5 : seg d' (m + j) b = seg d (m + j) b := hs.other (by omega) (by omega) (by omega)
  rw [h.eq, show m + (j - i) = m + j - i by omega, ← seg_app (d := d') (a := m + j - i) (m := m + j) (b := b) (by omega) (by omega) (by rw [hs.size]; omega), e1, e2, e3, e4, e5,
    ← seg_app (d := d) (a := m) (m := m + j - i) (b := m + j) (by omega) (by omega) (by omega)]
  simp only [List.append_assoc]
/-- Both are as long: the last exchange. -/
theorem RotS.last (h : RotS d0 a m b i i d) (hi : i ≤ m - a) (hj : i ≤ b - m) (hb : b ≤ d0.size) (hm : m ≤ b) (ha : a ≤ m) (hs : SwR d (m - i) m i d') : Out a b d0 d' ∧ seg d' a b = seg d0 m b ++ seg d0 a m := by
  have hds : d.size = d0.size := h.out.1
  refine ⟨h.out.trans ((hs.out (by omega)).widen (by omega) (by omega)), ?_⟩
  have e1 : seg d' a (m - i) = seg d a (m - i) := hs.other (by omega) (by omega) (by omega)
  have e2 : seg d' (m - i) m = seg d m (m + i) := by
    have := hs.fst (by omega) (by omega)
    rwa [show m - i + i = m by omega] at this
  have e3 : seg d' m (m + i) = seg d (m - i) m := by
    have := hs.snd (by omega) (by omega)
    rwa [show m - i + i = m by omega] at this
  have e5 : seg d' (m + i) b = seg d (m + i) b := hs.other (by omega) (by omega) (by omega)
  have hsz : d'.size = d.size := hs.size
  rw [h.eq, ← seg_app (d := d') (a := a) (m := m - i) (b := b) (by omega) (by omega) (by omega), ← seg_app (d := d') (a := m - i) (m := m) (b := b) (by omega) (by omega) (by omega),
    ← seg_app (d := d') (a := m) (m := m + i) (b := b) (by omega) (by omega) (by omega), e1, e2, e3, e5]
  simp only [List.append_assoc]
end
end

section
variable {α : Type} [Inhabited α] {lt : α → α → Bool}
theorem asc_at {d : Array α} {a b : Nat} (h : AscL lt (seg d a b)) (hb : b ≤ d.size) {i j : Nat} (hi : a ≤ i) (hij : i < j) (hj : j < b) : lt d[j]! d[i]! = false := by
  have h1 := List.pairwise_iff_getElem.1 h (i - a) (j - a) (by rw [seg_len hb]; omega) (by rw [seg_len hb]; omega) (by omega)
  have e1 := seg_get (d := d) (a := a) (b := b) (i := i - a) hb (by omega)
  have e2 := seg_get (d := d) (a := a) (b := b) (i := j - a) hb (by omega)
  rw [List.getElem?_eq_getElem (by rw [seg_len hb]; omega), Option.some.injEq] at e1 e2
  rw [e1, e2, show a + (i - a) = i by omega, show a + (j - a) = j by omega] at h1
  exact h1
theorem asc_sub {d : Array α} {a b x y : Nat} (h : AscL lt (seg d a b)) (hb : b ≤ d.size) (h1 : a ≤ x) (h2 : x ≤ y) (h3 : y ≤ b) : AscL lt (seg d x y) := by
  rw [← seg_app (d := d) (a := a) (m := x) (b := b) h1 (by omega) hb, ← seg_app (d := d) (a := x) (m := y) (b := b) h2 h3 hb] at h
  exact (List.pairwise_append.1 (List.pairwise_append.1 h).2.1).1
omit [Inhabited α] in
theorem SWO.asym (hO : SWO lt) {x y : α} (h : lt x y = true) : lt y x = false := by
  cases h2 : lt y x with
  | false => rfl
  | true => have := hO.trans x y x h h2; rw [hO.irrefl] at this; cases this
/-- Where two rows are parted: the first parts stand ahead of the last ones. -/
theorem sym_split (hO : SWO lt) {d : Array α} {a s m e b : Nat} (h1 : a ≤ s) (h2 : s ≤ m) (h3 : m ≤ e) (h4 : e ≤ b) (hb : b ≤ d.size) (hU : AscL lt (seg d a m)) (hV : AscL lt (seg d m b))
    (hL : s = a ∨ e = b ∨ lt d[e]! d[s - 1]! = false) (hR : s = m ∨ e = m ∨ lt d[e - 1]! d[s]! = true) :
    mergeL lt (seg d a m) (seg d m b) = mergeL lt (seg d a s) (seg d m e) ++ mergeL lt (seg d s m) (seg d e b) := by
  rw [← seg_app (d := d) (a := a) (m := s) (b := m) h1 h2 (by omega), ← seg_app (d := d) (a := m) (m := e) (b := b) h3 h4 hb]
  refine merge_split ?_ ?_
  · intro u hu v hv
    obtain ⟨i, i1, i2, rfl⟩ := seg_mem (by omega) hu
    obtain ⟨j, j1, j2, rfl⟩ := seg_mem hb hv
    rcases hL with hL | hL | hL
    · omega
    · omega
    · have g1 : lt d[s - 1]! d[i]! = false := by
        rcases Nat.lt_or_ge i (s - 1) with h | h
        · exact asc_at hU (by omega) i1 h (by omega)
        · obtain rfl : i = s - 1 := by omega
          exact hO.irrefl _
      have g2 : lt d[j]! d[e]! = false := by
        rcases Nat.lt_or_ge e j with h | h
        · exact asc_at hV hb (by omega) h j2
        · obtain rfl : j = e := by omega
          exact hO.irrefl _
      exact hO.ntrans _ _ _ g2 (hO.ntrans _ _ _ hL g1)
  · intro u hu v hv
    obtain ⟨i, i1, i2, rfl⟩ := seg_mem (by omega) hu
    obtain ⟨j, j1, j2, rfl⟩ := seg_mem (by omega) hv
    rcases hR with hR | hR | hR
    · omega
    · omega
    · have g1 : lt d[i]! d[s]! = false := by
        rcases Nat.lt_or_ge s i with h | h
        · exact asc_at hU (by omega) h1 h i2
        · obtain rfl : i = s := by omega
          exact hO.irrefl _
      have g2 : lt d[e - 1]! d[j]! = false := by
        rcases Nat.lt_or_ge j (e - 1) with h | h
        · exact asc_at hV hb j1 h (by omega)
        · obtain rfl : j = e - 1 := by omega
          exact hO.irrefl _
      cases h : lt d[j]! d[i]! with
      | true => rfl
      | false =>
        have := hO.ntrans _ _ _ (hO.ntrans _ _ _ g2 h) g1
        rw [hR] at this; cases this
/-- One element put into a row behind it. -/
theorem sym_one_l (hO : SWO lt) {d : Array α} {a i b : Nat} (h1 : a < i) (h2 : i ≤ b) (hb : b ≤ d.size) (hV : AscL lt (seg d (a + 1) b)) (hL : i = a + 1 ∨ lt d[i - 1]! d[a]! = true) (hR : i = b ∨ lt d[i]! d[a]! = false) :
    mergeL lt (seg d a (a + 1)) (seg d (a + 1) b) = (seg d (a + 1) i ++ [d[a]!]) ++ seg d i b := by
  have hs := sym_split hO (d := d) (a := a) (s := a) (m := a + 1) (e := i) (b := b) (Nat.le_refl _) (by omega) (by omega) h2 hb (by rw [seg_one (by omega)]; exact List.pairwise_singleton _ _) hV (.inl rfl) (by
    rcases hL with h | h
    · exact .inr (.inl h)
    · exact .inr (.inr h))
  rw [hs, seg_nil, mergeL_nil, seg_one (by omega)]
  have := merge_le (lt := lt) (U := [d[a]!]) (V := seg d i b) (by
    intro u hu v hv
    rw [List.mem_singleton] at hu
    subst hu
    obtain ⟨j, j1, j2, rfl⟩ := seg_mem hb hv
    rcases hR with h | h
    · omega
    · refine hO.ntrans _ _ _ ?_ h
      rcases Nat.lt_or_ge i j with h' | h'
      · exact asc_at hV hb (by omega) h' j2
      · obtain rfl : j = i := by omega
        exact hO.irrefl _)
  rw [this]; simp
/-- One element put into a row ahead of it. -/
theorem sym_one_r (hO : SWO lt) {d : Array α} {a i m : Nat} (h1 : a ≤ i) (h2 : i ≤ m) (hb : m < d.size) (hU : AscL lt (seg d a m)) (hL : i = a ∨ lt d[m]! d[i - 1]! = false) (hR : i = m ∨ lt d[m]! d[i]! = true) :
    mergeL lt (seg d a m) (seg d m (m + 1)) = seg d a i ++ (d[m]! :: seg d i m) := by
  have hs := sym_split hO (d := d) (a := a) (s := i) (m := m) (e := m + 1) (b := m + 1) h1 h2 (by omega) (Nat.le_refl _) hb hU (by rw [seg_one hb]; exact List.pairwise_singleton _ _) (.inr (.inl rfl)) (by
    rcases hR with h | h
    · exact .inl h
    · exact .inr (.inr h))
  have hs2 := sym_split hO (d := d) (a := a) (s := i) (m := m) (e := m) (b := m + 1) h1 h2 (Nat.le_refl _) (by omega) hb hU (by rw [seg_one hb]; exact List.pairwise_singleton _ _) (by
    rcases hL with h | h
    · exact .inl h
    · exact .inr (.inr h)) (.inr (.inl rfl))
  rw [hs2, seg_nil, mergeL_nil_r, seg_one hb]
  have := merge_gt (lt := lt) (U := seg d i m) (V := [d[m]!]) (by
    intro u hu v hv
    rw [List.mem_singleton] at hv
    subst hv
    obtain ⟨j, j1, j2, rfl⟩ := seg_mem (by omega) hu
    rcases hR with h | h
    · omega
    · cases h' : lt d[m]! d[j]! with
      | true => rfl
      | false =>
        have g : lt d[j]! d[i]! = false := by
          rcases Nat.lt_or_ge i j with h'' | h''
          · exact asc_at hU (by omega) h1 h'' j2
          · obtain rfl : j = i := by omega
            exact hO.irrefl _
        have := hO.ntrans _ _ _ h' g
        rw [h] at this; cases this)
  rw [this]; rfl
/-- An element carried on, or back. -/
structure CarR (d : Array α) (a k : Nat) (d' : Array α) : Prop where
  out : Out a (k + 1) d d'
  eq : seg d' a (k + 1) = seg d (a + 1) (k + 1) ++ [d[a]!]
theorem CarR.zero {d : Array α} {a : Nat} (h : a < d.size) : CarR d a a d := ⟨.refl _ _ _, by rw [seg_one h, seg_nil]; rfl⟩
theorem CarR.at_ {d d' : Array α} {a k : Nat} (h : CarR d a k d') (hk : k < d.size) (hak : a ≤ k) : d'[k]! = d[a]! := by
  have e := seg_get (d := d') (a := a) (b := k + 1) (i := k - a) (by rw [h.out.1]; omega) (by omega)
  rw [h.eq, List.getElem?_append_right (by rw [seg_len (by omega)]; omega), seg_len (by omega), show k - a - (k + 1 - (a + 1)) = 0 by omega, show a + (k - a) = k by omega] at e
  exact (Option.some.inj e).symm
theorem CarR.succ {d d' : Array α} {a k : Nat} (h : CarR d a k d') (hk : k + 1 < d.size) (hak : a ≤ k) : CarR d a (k + 1) (swp d' k (k + 1)) := by
  have hz := h.out.1
  have e0 := h.at_ (by omega) hak
  have e1 := h.out.2 (k + 1) (by omega)
  refine ⟨⟨(size_swp' _ _ _).trans hz, fun i hi => ?_⟩, ?_⟩
  · rw [get_swp (by omega) (by omega), if_neg (by omega), if_neg (by omega)]
    exact h.out.2 i (by omega)
  · rw [← seg_app (d := swp d' k (k + 1)) (a := a) (m := k) (b := k + 1 + 1) hak (by omega) (by rw [size_swp']; omega), ← seg_app (d := swp d' k (k + 1)) (a := k) (m := k + 1) (b := k + 1 + 1) (by omega) (by omega) (by rw [size_swp']; omega),
      seg_one (by rw [size_swp']; omega), seg_one (by rw [size_swp']; omega), get_swp (by omega) (by omega), get_swp (by omega) (by omega), if_neg (by omega), if_pos rfl, if_pos rfl, e0, e1]
    have e2 : seg (swp d' k (k + 1)) a k = seg d (a + 1) (k + 1) := by
      have e3 : seg (swp d' k (k + 1)) a k = seg d' a k := seg_congr (by omega) (by rw [size_swp']; omega) fun i i1 i2 => by rw [get_swp (by omega) (by omega), if_neg (by omega), if_neg (by omega)]
      have e4 := h.eq
      rw [← seg_app (d := d') (a := a) (m := k) (b := k + 1) hak (by omega) (by omega), seg_one (by omega), e0] at e4
      rw [e3]
      exact List.append_cancel_right e4
    rw [e2, ← seg_app (d := d) (a := a + 1) (m := k + 1) (b := k + 1 + 1) (by omega) (by omega) (by omega), seg_one (by omega)]
    simp
structure BackR (d : Array α) (k m : Nat) (d' : Array α) : Prop where
  out : Out k (m + 1) d d'
  eq : seg d' k (m + 1) = d[m]! :: seg d k m
theorem BackR.zero {d : Array α} {m : Nat} (h : m < d.size) : BackR d m m d := ⟨.refl _ _ _, by rw [seg_one h, seg_nil]⟩
theorem BackR.at_ {d d' : Array α} {k m : Nat} (h : BackR d k m d') (hm : m < d.size) (hk : k ≤ m) : d'[k]! = d[m]! := by
  have e := seg_get (d := d') (a := k) (b := m + 1) (i := 0) (by rw [h.out.1]; omega) (by omega)
  rw [h.eq] at e
  exact (Option.some.inj e).symm
theorem BackR.succ {d d' : Array α} {k m : Nat} (h : BackR d (k + 1) m d') (hm : m < d.size) (hk : k + 1 ≤ m) : BackR d k m (swp d' (k + 1) k) := by
  have hz := h.out.1
  have e0 := h.at_ hm hk
  have e1 := h.out.2 k (by omega)
  refine ⟨⟨(size_swp' _ _ _).trans hz, fun i hi => ?_⟩, ?_⟩
  · rw [get_swp (by omega) (by omega), if_neg (by omega), if_neg (by omega)]
    exact h.out.2 i (by omega)
  · rw [← seg_app (d := swp d' (k + 1) k) (a := k) (m := k + 1) (b := m + 1) (by omega) (by omega) (by rw [size_swp']; omega), ← seg_app (d := swp d' (k + 1) k) (a := k + 1) (m := k + 1 + 1) (b := m + 1) (by omega) (by omega) (by rw [size_swp']; omega),
      seg_one (by rw [size_swp']; omega), seg_one (by rw [size_swp']; omega), get_swp (by omega) (by omega), get_swp (by omega) (by omega), if_pos rfl, if_neg (by omega), if_pos rfl, e0, e1]
    have e2 : seg (swp d' (k + 1) k) (k + 1 + 1) (m + 1) = seg d (k + 1) m := by
      have e3 : seg (swp d' (k + 1) k) (k + 1 + 1) (m + 1) = seg d' (k + 1 + 1) (m + 1) := seg_congr (by omega) (by rw [size_swp']; omega) fun i i1 i2 => by rw [get_swp (by omega) (by omega), if_neg (by omega), if_neg (by omega)]
      have e4 := h.eq
      rw [← seg_app (d := d') (a := k + 1) (m := k + 1 + 1) (b := m + 1) (by omega) (by omega) (by omega), seg_one (by omega), e0] at e4
      rw [e3]
      exact (List.cons.inj e4).2
    rw [e2, ← seg_app (d := d) (a := k) (m := k + 1) (b := m) (by omega) (by omega) (by omega), seg_one (by omega)]
    simp
end

/-! What the functions of the sort make. -/
section
variable {α : Type} [Inhabited α] {lt : α → α → Bool}
omit [Inhabited α] in
theorem Out.of_out {α : Type} [Inhabited α] {a b : Nat} {d d' d'' : Array α} {a' b' : Nat} (h : Out a b d d') (h2 : Out a' b' d' d'') (h1 : a ≤ a') (h3 : b' ≤ b) : Out a b d d'' := h.trans (h2.widen h1 h3)
theorem insInner_back {d : Array α} {a i : Nat} (hi : i < d.size) : ∀ (j : Nat) (dk : Array α), a ≤ j → j ≤ i → BackR d j i dk → (∀ q, j ≤ q → q < i → lt d[i]! d[q]! = true) →
    ∃ k, a ≤ k ∧ k ≤ i ∧ BackR d k i (insInner lt a j dk) ∧ (k = a ∨ lt d[i]! d[k - 1]! = false) ∧ ∀ q, k ≤ q → q < i → lt d[i]! d[q]! = true
  | 0, dk, ha, hj, hb, hq => ⟨0, by omega, by omega, by rw [insInner]; exact hb, .inl (by omega), hq⟩
  | j + 1, dk, ha, hj, hb, hq => by
    have e1 := hb.at_ hi hj
    have e2 := hb.out.2 j (by omega)
    rw [insInner]
    by_cases hc : (decide (j + 1 > a) && lt dk[j + 1]! dk[j]!) = true
    · rw [if_pos hc]
      rw [Bool.and_eq_true, decide_eq_true_eq] at hc
      have hl := hc.2
      rw [e1, e2] at hl
      refine insInner_back hi j _ (by omega) (by omega) (hb.succ hi hj) fun q h1 h2 => ?_
      rcases Nat.lt_or_ge j q with h | h
      · exact hq q (by omega) h2
      · obtain rfl : q = j := by omega
        exact hl
    · rw [if_neg hc]
      refine ⟨j + 1, ha, hj, hb, ?_, hq⟩
      rw [Bool.and_eq_true, decide_eq_true_eq, e1, e2] at hc
      rcases Nat.lt_or_ge a (j + 1) with h | h
      · right
        rw [Nat.add_sub_cancel]
        cases hl : lt d[i]! d[j]! with
        | false => rfl
        | true => exact absurd ⟨h, hl⟩ hc
      · left; omega
theorem merge_back (hO : SWO lt) {d d' : Array α} {a i m : Nat} (h : BackR d i m d') (h1 : a ≤ i) (h2 : i ≤ m) (hm : m < d.size) (hU : AscL lt (seg d a m)) (hL : i = a ∨ lt d[m]! d[i - 1]! = false) (hR : i = m ∨ lt d[m]! d[i]! = true) :
    Out a (m + 1) d d' ∧ seg d' a (m + 1) = mergeL lt (seg d a m) (seg d m (m + 1)) := by
  refine ⟨h.out.widen h1 (Nat.le_refl _), ?_⟩
  have hz := h.out.1
  rw [sym_one_r hO h1 h2 hm hU hL hR, ← seg_app (d := d') (a := a) (m := i) (b := m + 1) h1 (by omega) (by omega), h.eq, h.out.seg (by omega) (by omega)]
theorem merge_car (hO : SWO lt) {d d' : Array α} {a i b : Nat} (h : CarR d a (i - 1) d') (h1 : a < i) (h2 : i ≤ b) (hb : b ≤ d.size) (hV : AscL lt (seg d (a + 1) b)) (hL : i = a + 1 ∨ lt d[i - 1]! d[a]! = true) (hR : i = b ∨ lt d[i]! d[a]! = false) :
    Out a b d d' ∧ seg d' a b = mergeL lt (seg d a (a + 1)) (seg d (a + 1) b) := by
  have hz := h.out.1
  have ho := h.out
  have he := h.eq
  rw [Nat.sub_add_cancel (by omega)] at ho he
  refine ⟨ho.widen (Nat.le_refl _) h2, ?_⟩
  rw [sym_one_l hO h1 h2 hb hV hL hR, ← seg_app (d := d') (a := a) (m := i) (b := b) (by omega) h2 (by omega), he, ho.seg (by omega) (by omega)]
theorem ins_one (hO : SWO lt) {d : Array α} {a i : Nat} (h1 : a ≤ i) (hi : i < d.size) (hU : AscL lt (seg d a i)) : Out a (i + 1) d (insInner lt a i d) ∧ seg (insInner lt a i d) a (i + 1) = mergeL lt (seg d a i) (seg d i (i + 1)) := by
  obtain ⟨k, k1, k2, k3, k4, k5⟩ := insInner_back (lt := lt) (a := a) hi i d h1 (Nat.le_refl _) (BackR.zero hi) (fun q _ _ => by omega)
  refine merge_back hO k3 k1 k2 hi hU k4 ?_
  rcases Nat.lt_or_ge k i with h | h
  · exact .inr (k5 k (Nat.le_refl _) h)
  · exact .inl (by omega)
theorem ins_outer (hO : SWO lt) {d : Array α} {a b : Nat} (hb : b ≤ d.size) : ∀ (n i : Nat) (dk : Array α), b - i ≤ n → a < i → i ≤ b ∨ b ≤ a → Out a i d dk → seg dk a i = stab lt (seg d a i) → a ≤ b →
    Out a (max i b) d (insOuter lt a b i dk) ∧ (i ≤ b → seg (insOuter lt a b i dk) a b = stab lt (seg d a b))
  | 0, i, dk, hn, hi, hib, ho, he, hab => by
    rw [insOuter_stop' (by omega)]
    refine ⟨ho.widen (Nat.le_refl _) (by omega), fun h => ?_⟩
    obtain rfl : i = b := by omega
    exact he
  | n + 1, i, dk, hn, hi, hib, ho, he, hab => by
    by_cases hlt : i < b
    · rw [insOuter, if_pos hlt]
      have hz := ho.1
      have hU : AscL lt (seg dk a i) := by rw [he]; exact stab_asc hO _
      obtain ⟨g1, g2⟩ := ins_one hO (d := dk) (a := a) (i := i) (by omega) (by omega) hU
      have hs : seg (insInner lt a i dk) a (i + 1) = stab lt (seg d a (i + 1)) := by
        rw [g2, he, ho.seg (by omega) (by omega), ← seg_app (d := d) (a := a) (m := i) (b := i + 1) (by omega) (by omega) (by omega), stab_append hO, seg_one (by omega)]
        rfl
      obtain ⟨g3, g4⟩ := ins_outer hO hb n (i + 1) _ (by omega) (by omega) (by omega) ((ho.widen (Nat.le_refl _) (by omega)).trans g1) hs hab
      exact ⟨g3.widen (Nat.le_refl _) (by omega), fun _ => g4 (by omega)⟩
    · rw [insOuter_stop' hlt]
      refine ⟨ho.widen (Nat.le_refl _) (by omega), fun h => ?_⟩
      obtain rfl : i = b := by omega
      exact he
where insOuter_stop' {lt : α → α → Bool} {a b i : Nat} {d : Array α} (h : ¬ i < b) : insOuter lt a b i d = d := by rw [insOuter, if_neg h]
/-- Insertion sort is stable. -/
theorem ins_stab (hO : SWO lt) {d : Array α} {a b : Nat} (hab : a < b) (hb : b ≤ d.size) : Out a b d (insertionSort lt d a b) ∧ seg (insertionSort lt d a b) a b = stab lt (seg d a b) := by
  have h := ins_outer hO hb (b - (a + 1)) (a + 1) d (Nat.le_refl _) (Nat.lt_succ_self a) (.inl hab) (.refl _ _ _) (by rw [seg_one (by omega)]; rfl) (Nat.le_of_lt hab)
  rw [Nat.max_eq_right (show a + 1 ≤ b from hab)] at h
  exact ⟨h.1, h.2 hab⟩
theorem ins_none {d : Array α} {a b : Nat} (hab : b ≤ a) : insertionSort lt d a b = d := by rw [insertionSort, insOuter, if_neg (by omega)]

/-- A merge's three steps. -/
theorem merge_sym (hO : SWO lt) {d d1 d2 d3 : Array α} {a s m e mid b : Nat} (h1 : a ≤ s) (h2 : s ≤ m) (h3 : m ≤ e) (h4 : e ≤ b) (hb : b ≤ d.size) (hn : s + e = mid + m) (hU : AscL lt (seg d a m)) (hV : AscL lt (seg d m b))
    (hL : s = a ∨ e = b ∨ lt d[e]! d[s - 1]! = false) (hR : s = m ∨ e = m ∨ lt d[e - 1]! d[s]! = true)
    (r1 : Out s e d d1) (r2 : seg d1 s e = seg d m e ++ seg d s m)
    (m1 : Out a mid d1 d2) (m2 : seg d2 a mid = mergeL lt (seg d1 a s) (seg d1 s mid))
    (n1 : Out mid b d2 d3) (n2 : seg d3 mid b = mergeL lt (seg d2 mid e) (seg d2 e b)) :
    Out a b d d3 ∧ seg d3 a b = mergeL lt (seg d a m) (seg d m b) := by
  have z1 := r1.1; have z2 := m1.1; have z3 := n1.1
  have q1 : seg d1 s mid ++ seg d1 mid e = seg d m e ++ seg d s m := by rw [seg_app (by omega) (by omega) (by omega), r2]
  obtain ⟨q2, q3⟩ := List.append_inj q1 (by rw [seg_len (by omega), seg_len (by omega)]; omega)
  have o1 : Out a b d d1 := r1.widen h1 h4
  refine ⟨(o1.trans (m1.widen (by omega) (by omega))).trans (n1.widen (by omega) (by omega)), ?_⟩
  rw [sym_split hO h1 h2 h3 h4 hb hU hV hL hR, ← seg_app (d := d3) (a := a) (m := mid) (b := b) (by omega) (by omega) (by omega), n1.seg (by omega) (by omega), m2, n2, q2, r1.seg (by omega) (by omega), m1.seg (y := e) (by omega) (by omega), q3, m1.seg (y := b) (by omega) (by omega), r1.seg (x := e) (y := b) (by omega) (by omega)]
/-- What a merge's steps merge is sorted. -/
theorem sym_ascs {d d1 : Array α} {a s m e mid b : Nat} (h1 : a ≤ s) (h2 : s ≤ m) (h3 : m ≤ e) (h4 : e ≤ b) (hb : b ≤ d.size) (hn : s + e = mid + m) (hU : AscL lt (seg d a m)) (hV : AscL lt (seg d m b))
    (r1 : Out s e d d1) (r2 : seg d1 s e = seg d m e ++ seg d s m) : AscL lt (seg d1 a s) ∧ AscL lt (seg d1 s mid) ∧ ∀ d2, Out a mid d1 d2 → AscL lt (seg d2 mid e) ∧ AscL lt (seg d2 e b) := by
  have z1 := r1.1
  have q1 : seg d1 s mid ++ seg d1 mid e = seg d m e ++ seg d s m := by rw [seg_app (by omega) (by omega) (by omega), r2]
  obtain ⟨q2, q3⟩ := List.append_inj q1 (by rw [seg_len (by omega), seg_len (by omega)]; omega)
  refine ⟨?_, ?_, fun d2 m1 => ⟨?_, ?_⟩⟩
  · rw [r1.seg (by omega) (by omega)]; exact asc_sub hU (by omega) (Nat.le_refl _) h1 h2
  · rw [q2]; exact asc_sub hV hb (Nat.le_refl _) h3 h4
  · rw [m1.seg (by omega) (by omega), q3]; exact asc_sub hU (by omega) h1 h2 (Nat.le_refl _)
  · rw [m1.seg (by omega) (by omega), r1.seg (x := e) (y := b) (by omega) (by omega)]; exact asc_sub hV hb h3 h4 (Nat.le_refl _)
/-- A step that is left out. -/
theorem sym_rot_none {d : Array α} {s m e : Nat} (he : e ≤ d.size) (h2 : s ≤ m) (h3 : m ≤ e) (h : ¬ (s < m ∧ m < e)) : Out s e d d ∧ seg d s e = seg d m e ++ seg d s m := by
  refine ⟨.refl _ _ _, ?_⟩
  rcases Nat.lt_or_ge s m with g | g
  · obtain rfl : m = e := by omega
    rw [seg_nil]; rfl
  · obtain rfl : s = m := by omega
    rw [seg_nil, List.append_nil]
theorem sym_mrg_none {d : Array α} {a s mid : Nat} (h1 : a ≤ s) (h2 : s ≤ mid) (h : ¬ (a < s ∧ s < mid)) : Out a mid d d ∧ seg d a mid = mergeL lt (seg d a s) (seg d s mid) := by
  refine ⟨.refl _ _ _, ?_⟩
  rcases Nat.lt_or_ge a s with g | g
  · obtain rfl : s = mid := by omega
    rw [seg_nil, mergeL_nil_r]
  · obtain rfl : a = s := by omega
    rw [seg_nil, mergeL_nil]

/-- A part is its origin sorted. -/
def Sd (lt : α → α → Bool) (d0 d : Array α) (a b : Nat) : Prop := seg d a b = stab lt (seg d0 a b)
omit [Inhabited α] in
theorem Sd.asc (hO : SWO lt) {d0 d : Array α} {a b : Nat} (h : Sd lt d0 d a b) : AscL lt (seg d a b) := by rw [show seg d a b = _ from h]; exact stab_asc hO _
theorem Sd.out {d0 d d' : Array α} {a b x y : Nat} (h : Sd lt d0 d x y) (ho : Out a b d d') (hy : y ≤ d.size) (hd : y ≤ a ∨ b ≤ x) : Sd lt d0 d' x y := (ho.seg hy hd).trans h
theorem Sd.merge (hO : SWO lt) {d0 d d' : Array α} {a m b : Nat} (h1 : Sd lt d0 d a m) (h2 : Sd lt d0 d m b) (ham : a ≤ m) (hmb : m ≤ b) (hb : b ≤ d0.size) (h : seg d' a b = mergeL lt (seg d a m) (seg d m b)) : Sd lt d0 d' a b := by
  show seg d' a b = _
  rw [h, show seg d a m = _ from h1, show seg d m b = _ from h2, ← stab_append hO, seg_app ham hmb hb]
/-- Blocks of B from x on are sorted. -/
def Bks (lt : α → α → Bool) (d0 d : Array α) (n B x : Nat) : Prop := ∀ i, x ≤ i * B → i * B < n → Sd lt d0 d (i * B) (min (i * B + B) n)
/-- Blocks of B below x are. -/
def Dun (lt : α → α → Bool) (d0 d : Array α) (B x : Nat) : Prop := ∀ i, i * B + B ≤ x → Sd lt d0 d (i * B) (i * B + B)
theorem mul_next {i j B : Nat} (h : i < j) : i * B + B ≤ j * B := by
  have h2 := Nat.mul_le_mul_right B (show i + 1 ≤ j from h)
  rwa [Nat.add_mul, Nat.one_mul] at h2
omit [Inhabited α] in
theorem Dun.zero {d0 d : Array α} {B : Nat} (hB : 0 < B) : Dun lt d0 d B 0 := fun i h => by omega
theorem Dun.step {d0 d d' : Array α} {B i : Nat} (h : Dun lt d0 d B (i * B)) (hB : 0 < B) (ho : Out (i * B) (i * B + B) d d') (hs : Sd lt d0 d' (i * B) (i * B + B)) (hz : i * B + B ≤ d.size) : Dun lt d0 d' B (i * B + B) := by
  intro j hj
  rcases Nat.lt_trichotomy j i with h1 | h1 | h1
  · have h2 := mul_next (B := B) h1
    exact (h j h2).out ho (by omega) (.inl h2)
  · subst h1; exact hs
  · have h2 := mul_next (B := B) h1
    omega
theorem Bks.step {d0 d d' : Array α} {n B x y z : Nat} (h : Bks lt d0 d n B x) (ho : Out z y d d') (hxy : x ≤ y) (hz : n ≤ d.size) : Bks lt d0 d' n B y := by
  intro j h1 h2
  exact (h j (by omega) h2).out ho (by omega) (.inr h1)
omit [Inhabited α] in
/-- All blocks but the last, and the last. -/
theorem Bks.all {d0 d : Array α} {n B i : Nat} (h : Dun lt d0 d B (i * B)) (hi : i * B ≤ n) (hn : n < i * B + B) (hl : i * B < n → Sd lt d0 d (i * B) n) : Bks lt d0 d n B 0 := by
  intro j _ h2
  rcases Nat.lt_trichotomy j i with h1 | h1 | h1
  · have h3 := mul_next (B := B) h1
    have := h j h3
    rwa [Nat.min_eq_left (by omega)]
  · subst h1
    rw [Nat.min_eq_right (by omega)]
    exact hl h2
  · have h3 := mul_next (B := B) h1
    omega
omit [Inhabited α] in
theorem Bks.done {d0 d : Array α} {n B : Nat} (h : Bks lt d0 d n B 0) (hn : n ≤ B) (hd : d.size = n) (h0 : d0.size = n) : d.toList = stab lt d0.toList := by
  have e : ∀ x : Array α, x.size = n → seg x 0 n = x.toList := fun x hx => by
    subst hx; unfold seg; rw [Array.extract_size]
  rcases Nat.eq_zero_or_pos n with hz | hz
  · have e1 : d = #[] := Array.eq_empty_of_size_eq_zero (by omega)
    have e2 : d0 = #[] := Array.eq_empty_of_size_eq_zero (by omega)
    rw [e1, e2]; rfl
  · have := h 0 (by omega) (by omega)
    rw [Nat.zero_mul, Nat.zero_add, Nat.min_eq_right hn] at this
    have h2 : seg d 0 n = stab lt (seg d0 0 n) := this
    rwa [e d hd, e d0 h0] at h2
end
end Go.Proofs.Ytmhkacafilpliaa
