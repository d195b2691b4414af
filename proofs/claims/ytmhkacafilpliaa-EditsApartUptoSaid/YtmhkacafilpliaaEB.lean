/-
  Forests of values: the row of trees of a list of places, which is read again from its postorder; what its distance tells. No program.
-/
import Derived.Test.YtmhkacafilpliaaEA
import Derived.Test.YtmhkacafilpliaaO5
namespace Go.Proofs.Ytmhkacafilpliaa

def Plc.lab (x : Plc) : Lab := ⟨x.kd, x.key, x.v.k, x.v.t⟩
/-- The row of trees of a list of places. -/
def fF : Nat → List Plc → Fo
  | 0, _ => .nil
  | n + 1, xs => xs.foldl (fun F x => .cons x.lab (fF n x.v.subs) F) .nil
theorem fF_zero (xs : List Plc) : fF 0 xs = .nil := rfl
theorem fF_nil : ∀ n, fF n [] = .nil
  | 0 => rfl
  | _ + 1 => rfl
theorem fF_snoc (n : Nat) (xs : List Plc) (x : Plc) : fF (n + 1) (xs ++ [x]) = .cons x.lab (fF n x.v.subs) (fF (n + 1) xs) := by simp [fF]
theorem fF_one (n : Nat) (x : Plc) : fF (n + 1) [x] = .cons x.lab (fF n x.v.subs) .nil := rfl
theorem foldl_app (g : Plc → Fo) : ∀ (ys : List Plc) (A G : Fo), ys.foldl (fun F x => Fo.cons x.lab (g x) F) (A.app G) = (ys.foldl (fun F x => Fo.cons x.lab (g x) F) A).app G
  | [], _, _ => rfl
  | y :: ys, A, G => foldl_app g ys (.cons y.lab (g y) A) G
theorem fF_app : ∀ (n : Nat) (xs ys : List Plc), fF n (xs ++ ys) = (fF n ys).app (fF n xs)
  | 0, _, _ => rfl
  | n + 1, xs, ys => by
    have := foldl_app (fun x => fF n x.v.subs) ys .nil (fF (n + 1) xs)
    simp only [Fo.app] at this
    show (xs ++ ys).foldl _ _ = _
    rw [List.foldl_append]
    exact this
theorem snoc_or {α : Type} (l : List α) : l = [] ∨ ∃ a b, l = a ++ [b] := by
  rcases List.eq_nil_or_concat l with h | ⟨a, b, h⟩
  · exact .inl h
  · exact .inr ⟨a, b, by rw [h]; simp⟩
theorem fF_size : ∀ (n : Nat) (xs : List Plc), (fF n xs).size = (xs.flatMap (postF n)).length := by
  intro n
  induction n with
  | zero => intro xs; rw [fF_zero, show xs.flatMap (postF 0) = [] from List.flatMap_eq_nil_iff.2 fun _ _ => rfl]; rfl
  | succ n ih =>
    intro xs
    obtain ⟨k, hk⟩ : ∃ k, xs.length = k := ⟨_, rfl⟩
    induction k generalizing xs with
    | zero => rw [List.length_eq_zero_iff.mp hk, fF_nil]; rfl
    | succ k ihk =>
      rcases snoc_or xs with rfl | ⟨a, b, rfl⟩
      · cases hk
      · rw [fF_snoc, Fo.size, ih, ihk a (by simp at hk; omega), List.flatMap_append]
        simp [postF_succ]; omega
/-- The row of trees is read from the postorder. -/
theorem fo_read (lab : Nat → Lab) (lf : Nat → Nat) : ∀ (n : Nat) (xs : List Plc) (fr : Nat),
    (∀ i, i < (xs.flatMap (postF n)).length → (xs.flatMap (postF n))[i]? = some (lab (fr + i)) ∧ (leftsF n fr [] xs)[i]? = some (lf (fr + i))) →
    fo lab lf fr (fr + (xs.flatMap (postF n)).length) = fF n xs := by
  intro n
  induction n with
  | zero =>
    intro xs fr _
    rw [show xs.flatMap (postF 0) = [] from List.flatMap_eq_nil_iff.2 fun _ _ => rfl, fo_none (by simp), fF_zero]
  | succ n ih =>
    intro xs
    obtain ⟨k, hk⟩ : ∃ k, xs.length = k := ⟨_, rfl⟩
    induction k generalizing xs with
    | zero => intro fr _; rw [List.length_eq_zero_iff.mp hk, fF_nil]; exact fo_none (by simp)
    | succ k ihk =>
      intro fr h
      rcases snoc_or xs with rfl | ⟨a, b, rfl⟩
      · cases hk
      · have hp : (a ++ [b]).flatMap (postF (n + 1)) = a.flatMap (postF (n + 1)) ++ (b.v.subs.flatMap (postF n) ++ [b.lab]) := by rw [List.flatMap_append]; simp [postF_succ, Plc.lab]
        have hl : leftsF (n + 1) fr [] (a ++ [b]) = leftsF (n + 1) fr [] a ++ (leftsF n (fr + (a.flatMap (postF (n + 1))).length) [] b.v.subs ++ [fr + (a.flatMap (postF (n + 1))).length]) := by rw [leftsF_one, leftF_succ]
        have l1 : (leftsF (n + 1) fr [] a).length = (a.flatMap (postF (n + 1))).length := by rw [leftsF_len]; simp
        have l2 : (leftsF n (fr + (a.flatMap (postF (n + 1))).length) [] b.v.subs).length = (b.v.subs.flatMap (postF n)).length := by rw [leftsF_len]; simp
        rw [hp, hl] at h
        rw [hp]
        have ha := ihk a (by simp at hk; omega) fr
        have hb := ih b.v.subs (fr + (a.flatMap (postF (n + 1))).length)
        generalize a.flatMap (postF (n + 1)) = P at *
        generalize b.v.subs.flatMap (postF n) = Q at *
        generalize leftsF (n + 1) fr [] a = FP at *
        generalize leftsF n (fr + P.length) [] b.v.subs = FQ at *
        have hlen : (P ++ (Q ++ [b.lab])).length = P.length + Q.length + 1 := by simp; omega
        have hv := h (P.length + Q.length) (by omega)
        have hv1 := hv.1
        have hv2 := hv.2
        rw [List.getElem?_append_right (by omega), List.getElem?_append_right (by omega), show P.length + Q.length - P.length - Q.length = 0 by omega] at hv1
        rw [List.getElem?_append_right (by omega), List.getElem?_append_right (by omega), l1, l2, show P.length + Q.length - P.length - Q.length = 0 by omega] at hv2
        simp only [List.getElem?_cons_zero, Option.some.injEq] at hv1 hv2
        rw [hlen, show fr + (P.length + Q.length + 1) = (fr + (P.length + Q.length)) + 1 by omega, fo_succ (by omega) (by omega), ← hv1, ← hv2, fF_snoc]
        have e1 : fo lab lf (fr + P.length) (fr + (P.length + Q.length)) = fF n b.v.subs := by
          rw [← hb ?_]
          · congr 1; omega
          · intro i hi
            have ht := h (P.length + i) (by omega)
            have ht1 := ht.1
            have ht2 := ht.2
            rw [List.getElem?_append_right (by omega), List.getElem?_append_left (by omega), show P.length + i - P.length = i by omega, show fr + (P.length + i) = fr + P.length + i by omega] at ht1
            rw [List.getElem?_append_right (by omega), List.getElem?_append_left (by omega), l1, show P.length + i - P.length = i by omega, show fr + (P.length + i) = fr + P.length + i by omega] at ht2
            exact ⟨ht1, ht2⟩
        have e2 : fo lab lf fr (fr + P.length) = fF (n + 1) a := by
          refine ha ?_
          intro i hi
          have ht := h i (by omega)
          have ht1 := ht.1
          have ht2 := ht.2
          rw [List.getElem?_append_left (by omega)] at ht1
          rw [List.getElem?_append_left (by omega)] at ht2
          exact ⟨ht1, ht2⟩
        rw [e1, e2]
/-- Of one value. -/
theorem fo_val {lab : Nat → Lab} {lf : Nat → Nat} (n : Nat) (e : Plc) (h1 : ∀ i, i < (postF n e).length → (postF n e)[i]? = some (lab i)) (h2 : ∀ i, i < (postF n e).length → (leftF n 0 e)[i]? = some (lf i)) :
    fo lab lf 0 (postF n e).length = fF n [e] := by
  have := fo_read lab lf n [e] 0 (by
    intro i hi
    simp only [List.flatMap_cons, List.flatMap_nil, List.append_nil] at hi ⊢
    rw [Nat.zero_add]
    refine ⟨h1 i hi, ?_⟩
    have := h2 i hi
    simpa [leftsF] using this)
  simpa using this
/-- A value's nodes lie as trees do. -/
theorem lam_val {lf : Nat → Nat} (n : Nat) (e : Plc) (he : e.v.within n = true) (h : ∀ i, i < (postF (n + 1) e).length → (leftF (n + 1) 0 e)[i]? = some (lf i)) : Lam lf (postF (n + 1) e).length := by
  constructor
  · intro v hv
    have := (left_in _ _ _ _ _ (h v hv)).2
    omega
  · intro v hv u h1 h2
    obtain ⟨m, x, A, B, A', B', hx, hp, hi, hl, hA⟩ := seg_at n 0 e v he hv
    have hll := left_len (m + 1) (0 + A.length) x
    have hpp := post_pos m x
    have hlv := h v hv
    rw [hl, List.append_assoc, List.getElem?_append_right (by omega), List.getElem?_append_left (by omega), show v - A'.length = (postF (m + 1) x).length - 1 by omega, leftF_last] at hlv
    have hlu := h u (by omega)
    simp only [Option.some.injEq] at hlv
    have q1 : A'.length ≤ u := by omega
    have q2 : u - A'.length < (leftF (m + 1) (0 + A.length) x).length := by omega
    rw [hl, List.append_assoc, List.getElem?_append_right q1, List.getElem?_append_left q2] at hlu
    have := (left_in _ _ _ _ _ hlu).1
    omega
theorem within_up : ∀ (n m : Nat) (v : Val), n ≤ m → v.within n = true → v.within m = true
  | 0, 0, _, _, h => h
  | 0, m + 1, v, _, h => by
    have := subs_leaf h
    rw [Val.within_0, Bool.and_eq_true] at h
    rw [Val.within_s, Bool.and_eq_true]
    refine ⟨h.1, ?_⟩
    have := (shape_leaf2 h.1 (by simpa using h.2)).1
    rw [this]; rfl
  | n + 1, 0, _, hn, _ => absurd hn (by omega)
  | n + 1, m + 1, v, hn, h => by
    rw [Val.within_s, Bool.and_eq_true] at h ⊢
    refine ⟨h.1, ?_⟩
    rw [List.all_eq_true] at h ⊢
    exact fun y hy => within_up n m y (by omega) (h.2 y hy)
/-- However deep one looks. -/
theorem fF_fuel : ∀ (n m : Nat) (xs : List Plc), n ≤ m → (∀ x ∈ xs, x.v.within n = true) → fF (m + 1) xs = fF (n + 1) xs := by
  intro n
  induction n with
  | zero =>
    intro m xs _ h
    obtain ⟨k, hk⟩ : ∃ k, xs.length = k := ⟨_, rfl⟩
    induction k generalizing xs with
    | zero => rw [List.length_eq_zero_iff.mp hk, fF_nil, fF_nil]
    | succ k ihk =>
      rcases snoc_or xs with rfl | ⟨a, b, rfl⟩
      · cases hk
      · rw [fF_snoc, fF_snoc, ihk a (fun x hx => h x (by simp [hx])) (by simp at hk; omega), subs_leaf (h b (by simp)), fF_nil, fF_nil]
  | succ n ih =>
    intro m xs hm h
    obtain ⟨m, rfl⟩ : ∃ k, m = k + 1 := ⟨m - 1, by omega⟩
    obtain ⟨k, hk⟩ : ∃ k, xs.length = k := ⟨_, rfl⟩
    induction k generalizing xs with
    | zero => rw [List.length_eq_zero_iff.mp hk, fF_nil, fF_nil]
    | succ k ihk =>
      rcases snoc_or xs with rfl | ⟨a, b, rfl⟩
      · cases hk
      · rw [fF_snoc, fF_snoc, ihk a (fun x hx => h x (by simp [hx])) (by simp at hk; omega), ih m b.v.subs (by omega) (subs_in (h b (by simp)))]
/-- In whatever order keys stand. -/
theorem fF_canon : ∀ (n : Nat) (xs : List Plc), (∀ x ∈ xs, x.v.within n = true) → fF (n + 1) (xs.map fun e => ⟨e.kd, e.key, canon n e.v⟩) = fF (n + 1) xs := by
  intro n
  induction n with
  | zero =>
    intro xs h
    have : (xs.map fun e => (⟨e.kd, e.key, canon 0 e.v⟩ : Plc)) = xs := by
      conv => rhs; rw [← List.map_id xs]
      exact List.map_congr_left fun x _ => by rw [canon]; rfl
    rw [this]
  | succ n ih =>
    intro xs h
    obtain ⟨k, hk⟩ : ∃ k, xs.length = k := ⟨_, rfl⟩
    induction k generalizing xs with
    | zero => rw [List.length_eq_zero_iff.mp hk]; rfl
    | succ k ihk =>
      rcases snoc_or xs with rfl | ⟨a, b, rfl⟩
      · cases hk
      · have hb := h b (by simp)
        rw [List.map_append, List.map_cons, List.map_nil, fF_snoc, fF_snoc, ihk a (fun x hx => h x (by simp [hx])) (by simp at hk; omega)]
        show Fo.cons ⟨b.kd, b.key, (canon (n + 1) b.v).k, (canon (n + 1) b.v).t⟩ (fF (n + 1) (canon (n + 1) b.v).subs) _ = _
        rw [(canon_head (n + 1) b.v).1, (canon_head (n + 1) b.v).2, subs_canon hb, ih _ (subs_in hb)]
        rfl
theorem val_ext {a b : Val} (h1 : a.k = b.k) (h2 : a.t = b.t) (h3 : a.l = b.l) (h4 : a.ks = b.ks) : a = b := by
  cases a; cases b
  simp only at h1 h2 h3 h4
  rw [h1, h2, h3, h4]
theorem may_in {v : Val} (h : v.may = true) : v.within 256 = true := (Val.may_eq v).trans h
/-- Values of one row of trees are the same. -/
theorem fF_inj : ∀ (n : Nat) (xs ys : List Plc), (∀ x ∈ xs, x.v.within n = true) → (∀ x ∈ ys, x.v.within n = true) → fF (n + 1) xs = fF (n + 1) ys →
    xs.map (fun x => (x.lab, canon n x.v)) = ys.map (fun x => (x.lab, canon n x.v)) := by
  intro n
  induction n with
  | zero =>
    intro xs ys hx hy h
    obtain ⟨k, hk⟩ : ∃ k, xs.length = k := ⟨_, rfl⟩
    induction k generalizing xs ys with
    | zero =>
      have := List.length_eq_zero_iff.mp hk
      subst this
      rcases snoc_or ys with rfl | ⟨a, b, rfl⟩
      · rfl
      · rw [fF_snoc, fF_nil] at h; cases h
    | succ k ihk =>
      rcases snoc_or xs with rfl | ⟨a, b, rfl⟩
      · cases hk
      · rcases snoc_or ys with rfl | ⟨c, d, rfl⟩
        · rw [fF_snoc, fF_nil] at h; cases h
        · rw [fF_snoc, fF_snoc] at h
          injection h with h1 h2 h3
          have hb := hx b (by simp)
          have hd := hy d (by simp)
          rw [List.map_append, List.map_append, ihk a c (fun x h => hx x (by simp [h])) (fun x h => hy x (by simp [h])) h3 (by simp at hk; omega)]
          rw [Val.within_0, Bool.and_eq_true] at hb hd
          have b1 := shape_leaf2 hb.1 (by simpa using hb.2)
          have d1 := shape_leaf2 hd.1 (by simpa using hd.2)
          have e : canon 0 b.v = canon 0 d.v := by
            rw [canon, canon]
            simp only [Plc.lab, Lab.mk.injEq] at h1
            exact val_ext h1.2.2.1 h1.2.2.2 (by rw [b1.1, d1.1]) (by rw [b1.2, d1.2])
          simp only [List.map_cons, List.map_nil, h1, e]
  | succ n ih =>
    intro xs ys hx hy h
    obtain ⟨k, hk⟩ : ∃ k, xs.length = k := ⟨_, rfl⟩
    induction k generalizing xs ys with
    | zero =>
      have := List.length_eq_zero_iff.mp hk
      subst this
      rcases snoc_or ys with rfl | ⟨a, b, rfl⟩
      · rfl
      · rw [fF_snoc, fF_nil] at h; cases h
    | succ k ihk =>
      rcases snoc_or xs with rfl | ⟨a, b, rfl⟩
      · cases hk
      · rcases snoc_or ys with rfl | ⟨c, d, rfl⟩
        · rw [fF_snoc, fF_nil] at h; cases h
        · rw [fF_snoc, fF_snoc] at h
          injection h with h1 h2 h3
          have hb := hx b (by simp)
          have hd := hy d (by simp)
          rw [List.map_append, List.map_append, ihk a c (fun x h => hx x (by simp [h])) (fun x h => hy x (by simp [h])) h3 (by simp at hk; omega)]
          have hs := ih _ _ (subs_in hb) (subs_in hd) h2
          have e : canon (n + 1) b.v = canon (n + 1) d.v := by
            rw [canon_subs, canon_subs]
            simp only [Plc.lab, Lab.mk.injEq] at h1
            have m1 : b.v.subs.map (fun e => canon n e.v) = d.v.subs.map (fun e => canon n e.v) := by
              have := congrArg (List.map Prod.snd) hs
              simpa [List.map_map, Function.comp_def] using this
            have m2 : b.v.subs.map (·.key) = d.v.subs.map (·.key) := by
              have := congrArg (List.map fun p => p.1.key) hs
              simpa [List.map_map, Function.comp_def, Plc.lab] using this
            rw [h1.2.2.1, h1.2.2.2, m1, m2]
            by_cases hk8 : d.v.k = 8
            · rw [if_pos hk8, if_pos hk8]
            · rw [if_neg hk8, if_neg hk8, shape_keys (within_parts hb).1 (by rw [h1.2.2.1]; exact hk8), shape_keys (within_parts hd).1 hk8]
          simp only [List.map_cons, List.map_nil, h1, e]

/-- A value as a row of one tree. -/
def Val.fo (v : Val) : Fo := fF 257 [⟨false, ⟨#[]⟩, v⟩]
theorem Val.fo_size {v : Val} (h : v.may = true) : v.fo.size = v.size := by
  rw [Val.fo, fF_size]
  simp only [List.flatMap_cons, List.flatMap_nil, List.append_nil]
  exact post_size 256 _ (may_in h)
/-- How far two values are apart that may be. -/
def farV (a b : Val) : Nat := Proofs.Ytmhkacafilpliaa.far a.fo b.fo
theorem Val.fo_inj {a b : Val} (ha : a.may = true) (hb : b.may = true) : a.fo = b.fo ↔ canon 256 a = canon 256 b := by
  constructor
  · intro h
    have := fF_inj 256 _ _ (by simpa using may_in ha) (by simpa using may_in hb) h
    simp only [List.map_cons, List.map_nil, List.cons.injEq, Prod.mk.injEq] at this
    exact this.1.2
  · intro h
    have h1 := fF_canon 256 [⟨false, ⟨#[]⟩, a⟩] (by simpa using may_in ha)
    have h2 := fF_canon 256 [⟨false, ⟨#[]⟩, b⟩] (by simpa using may_in hb)
    simp only [List.map_cons, List.map_nil] at h1 h2
    rw [h] at h1
    rw [Val.fo, Val.fo, ← h1, ← h2]
theorem farV_zero {a b : Val} (ha : a.may = true) (hb : b.may = true) : farV a b = 0 ↔ sameV a b = true := by
  rw [farV, far_eq, Val.fo_inj ha hb, ← cmpV_zero 256 a b (may_in ha) (may_in hb)]
  simp [sameV, ha, hb]
theorem farV_symm (a b : Val) : farV a b = farV b a := far_symm _ _
theorem farV_tri (a b c : Val) : farV a c ≤ farV a b + farV b c := far_tri _ _ _
theorem farV_low {a b : Val} (ha : a.may = true) (hb : b.may = true) : a.size ≤ farV a b + b.size ∧ b.size ≤ farV a b + a.size := by
  rw [← Val.fo_size ha, ← Val.fo_size hb]
  exact ⟨far_ge _ _, far_ge' _ _⟩
theorem farV_lt {a b : Val} (ha : a.may = true) (hb : b.may = true) : farV a b < a.size + b.size := by
  rw [← Val.fo_size ha, ← Val.fo_size hb]
  exact far_lt _ _ _ _ _ _
theorem farV_turned (n : Nat) {a : Val} (b : Val) (ha : a.may = true) (ht : (a.turned n).may = true) : farV (a.turned n) b = farV a b := by
  rw [farV, farV, (Val.fo_inj ht ha).2 (canon_turned n 256 a (may_in ha))]
end Go.Proofs.Ytmhkacafilpliaa
