/-
  Forests, and how far two of them are apart: the plain law of chapter 20. No program.
  Forests of values: the row of trees of a list of places, which is read again from its postorder; what its distance tells. No program.
-/
import Derived.Test.YtmhkacafilpliaaGreatJA
import Derived.Test.YtmhkacafilpliaaGreatO5
namespace Go.Proofs.YtmhkacafilpliaaGreat

/-- A row of trees, the last one first: its label, what hangs on it, the trees ahead of it. -/
inductive Fo where
  | nil : Fo
  | cons (x : Lab) (kids rest : Fo) : Fo
namespace Fo
def app : Fo → Fo → Fo
  | .nil, s => s
  | .cons x k r, s => .cons x k (r.app s)
def size : Fo → Nat
  | .nil => 0
  | .cons _ k r => 1 + k.size + r.size
theorem size_app : ∀ F G : Fo, (F.app G).size = F.size + G.size
  | .nil, G => by simp [app, size]
  | .cons x k r, G => by simp [app, size, size_app r G]; omega
theorem app_nil : ∀ F : Fo, F.app .nil = F
  | .nil => rfl
  | .cons x k r => by simp [app, app_nil r]
theorem app_assoc : ∀ F G H : Fo, (F.app G).app H = F.app (G.app H)
  | .nil, _, _ => rfl
  | .cons x k r, G, H => by simp [app, app_assoc r G H]
theorem size_zero {F : Fo} (h : F.size = 0) : F = .nil := by
  cases F with
  | nil => rfl
  | cons x k r => simp [size] at h
end Fo
/-- What it costs to put a label for another one. -/
def rel (a b : Lab) : Nat := if a = b then 0 else 1
theorem rel_le (a b : Lab) : rel a b ≤ 1 := by unfold rel; split <;> omega
theorem rel_self (a : Lab) : rel a a = 0 := by simp [rel]
theorem rel_comm (a b : Lab) : rel a b = rel b a := by unfold rel; simp [eq_comm]
theorem rel_tri (a b c : Lab) : rel a c ≤ rel a b + rel b c := by
  unfold rel
  by_cases h1 : a = b
  · subst h1; simp
  · simp only [h1, if_false]; split <;> omega
theorem rel_zero {a b : Lab} (h : rel a b = 0) : a = b := by
  unfold rel at h
  by_cases h1 : a = b
  · exact h1
  · simp [h1] at h
/-- How far two rows of trees are apart. -/
def far : Fo → Fo → Nat
  | .nil, G => G.size
  | .cons x k r, .nil => (Fo.cons x k r).size
  | .cons x k r, .cons y l s => min (min (far (k.app r) (.cons y l s)) (far (.cons x k r) (l.app s)) + 1) (far k l + far r s + rel x y)
termination_by F G => F.size + G.size
decreasing_by all_goals simp only [Fo.size, Fo.size_app]; omega
theorem far_nil (G : Fo) : far .nil G = G.size := by rw [far]
theorem far_nil' (F : Fo) : far F .nil = F.size := by cases F <;> rw [far]
theorem far_cons (x : Lab) (k r : Fo) (y : Lab) (l s : Fo) : far (.cons x k r) (.cons y l s) = min (min (far (k.app r) (.cons y l s)) (far (.cons x k r) (l.app s)) + 1) (far k l + far r s + rel x y) := by rw [far]
theorem far_del (x : Lab) (k r G : Fo) : far (.cons x k r) G ≤ far (k.app r) G + 1 := by
  cases G with
  | nil => rw [far_nil', far_nil', Fo.size_app]; simp only [Fo.size]; omega
  | cons y l s => rw [far_cons]; omega
theorem far_ins (y : Lab) (l s F : Fo) : far F (.cons y l s) ≤ far F (l.app s) + 1 := by
  cases F with
  | nil => rw [far_nil, far_nil, Fo.size_app]; simp only [Fo.size]; omega
  | cons x k r => rw [far_cons]; omega
theorem far_put (x : Lab) (k r : Fo) (y : Lab) (l s : Fo) : far (.cons x k r) (.cons y l s) ≤ far k l + far r s + rel x y := by rw [far_cons]; omega
/-- How the last step goes. -/
theorem far_ways (x : Lab) (k r : Fo) (y : Lab) (l s : Fo) : far (.cons x k r) (.cons y l s) = far (k.app r) (.cons y l s) + 1 ∨ far (.cons x k r) (.cons y l s) = far (.cons x k r) (l.app s) + 1 ∨ far (.cons x k r) (.cons y l s) = far k l + far r s + rel x y := by
  rw [far_cons]; omega
theorem far_comm : ∀ (n : Nat) (F G : Fo), F.size + G.size ≤ n → far F G = far G F := by
  intro n
  induction n with
  | zero =>
    intro F G h
    rw [Fo.size_zero (F := F) (by omega), Fo.size_zero (F := G) (by omega)]
  | succ n ih =>
    intro F G h
    cases F with
    | nil => rw [far_nil, far_nil']
    | cons x k r =>
      cases G with
      | nil => rw [far_nil, far_nil']
      | cons y l s =>
        simp only [Fo.size] at h
        have a1 := ih (k.app r) (.cons y l s) (by simp only [Fo.size, Fo.size_app]; omega)
        have a2 := ih (.cons x k r) (l.app s) (by simp only [Fo.size, Fo.size_app]; omega)
        have a3 := ih k l (by omega)
        have a4 := ih r s (by omega)
        rw [far_cons, far_cons, a1, a2, a3, a4, rel_comm, Nat.min_comm (far (.cons y l s) (k.app r))]
theorem far_symm (F G : Fo) : far F G = far G F := far_comm _ F G (Nat.le_refl _)
theorem far_self : ∀ F : Fo, far F F = 0
  | .nil => by rw [far_nil]; rfl
  | .cons x k r => by
    have := far_put x k r x k r
    rw [far_self k, far_self r, rel_self] at this
    omega
/-- No less than what the sizes differ by. -/
theorem far_low : ∀ (n : Nat) (F G : Fo), F.size + G.size ≤ n → F.size ≤ far F G + G.size ∧ G.size ≤ far F G + F.size := by
  intro n
  induction n with
  | zero => intro F G h; omega
  | succ n ih =>
    intro F G h
    cases F with
    | nil => rw [far_nil]; simp only [Fo.size]; omega
    | cons x k r =>
      cases G with
      | nil => rw [far_nil']; simp only [Fo.size]; omega
      | cons y l s =>
        simp only [Fo.size] at h
        have a1 := ih (k.app r) (.cons y l s) (by simp only [Fo.size, Fo.size_app]; omega)
        have a2 := ih (.cons x k r) (l.app s) (by simp only [Fo.size, Fo.size_app]; omega)
        have a3 := ih k l (by omega)
        have a4 := ih r s (by omega)
        simp only [Fo.size, Fo.size_app] at a1 a2 ⊢
        rcases far_ways x k r y l s with e | e | e <;> rw [e] <;> omega
theorem far_ge (F G : Fo) : F.size ≤ far F G + G.size := (far_low _ F G (Nat.le_refl _)).1
theorem far_ge' (F G : Fo) : G.size ≤ far F G + F.size := (far_low _ F G (Nat.le_refl _)).2
theorem far_le : ∀ (n : Nat) (F G : Fo), F.size + G.size ≤ n → far F G ≤ F.size + G.size := by
  intro n
  induction n with
  | zero => intro F G h; rw [Fo.size_zero (F := F) (by omega), Fo.size_zero (F := G) (by omega), far_nil]; simp [Fo.size]
  | succ n ih =>
    intro F G h
    cases F with
    | nil => rw [far_nil]; omega
    | cons x k r =>
      cases G with
      | nil => rw [far_nil']; omega
      | cons y l s =>
        simp only [Fo.size] at h
        have a3 := ih k l (by omega)
        have a4 := ih r s (by omega)
        have := far_put x k r y l s
        have := rel_le x y
        simp only [Fo.size]; omega
theorem far_lt (x : Lab) (k r : Fo) (y : Lab) (l s : Fo) : far (.cons x k r) (.cons y l s) < (Fo.cons x k r).size + (Fo.cons y l s).size := by
  have a3 := far_le _ k l (Nat.le_refl _)
  have a4 := far_le _ r s (Nat.le_refl _)
  have := far_put x k r y l s
  have := rel_le x y
  simp only [Fo.size]; omega
theorem far_more : ∀ (n : Nat) (F G G' : Fo), G.size ≤ n → far F (G.app G') ≤ G.size + far F G' := by
  intro n
  induction n with
  | zero => intro F G G' h; rw [Fo.size_zero (F := G) (by omega)]; simp [Fo.app, Fo.size]
  | succ n ih =>
    intro F G G' h
    cases G with
    | nil => simp [Fo.app, Fo.size]
    | cons y l s =>
      simp only [Fo.size] at h
      have a := ih F (l.app s) G' (by rw [Fo.size_app]; omega)
      have b := far_ins y l (s.app G') F
      rw [Fo.app_assoc, Fo.size_app] at a
      simp only [Fo.app, Fo.size]; omega
/-- Two rows one behind the other are no farther apart than both together. -/
theorem far_app_n : ∀ (n : Nat) (F G F' G' : Fo), F.size + G.size ≤ n → far (F.app F') (G.app G') ≤ far F G + far F' G' := by
  intro n
  induction n with
  | zero => intro F G F' G' h; rw [Fo.size_zero (F := F) (by omega), Fo.size_zero (F := G) (by omega)]; simp [Fo.app, far_nil, Fo.size]
  | succ n ih =>
    intro F G F' G' h
    cases F with
    | nil => rw [far_nil]; exact far_more _ F' G G' (Nat.le_refl _)
    | cons x k r =>
      cases G with
      | nil =>
        rw [far_nil', far_symm (Fo.app _ _), far_symm F']
        exact far_more _ G' _ F' (Nat.le_refl _)
      | cons y l s =>
        simp only [Fo.size] at h
        rcases far_ways x k r y l s with e | e | e
        · have a := ih (k.app r) (.cons y l s) F' G' (by simp only [Fo.size, Fo.size_app]; omega)
          have b := far_del x k (r.app F') ((Fo.cons y l s).app G')
          rw [Fo.app_assoc] at a
          simp only [Fo.app] at a b ⊢; omega
        · have a := ih (.cons x k r) (l.app s) F' G' (by simp only [Fo.size, Fo.size_app]; omega)
          have b := far_ins y l (s.app G') ((Fo.cons x k r).app F')
          rw [Fo.app_assoc] at a
          simp only [Fo.app] at a b ⊢; omega
        · have a := ih r s F' G' (by omega)
          have b := far_put x k (r.app F') y l (s.app G')
          simp only [Fo.app] at a b ⊢; omega
theorem far_app (F G F' G' : Fo) : far (F.app F') (G.app G') ≤ far F G + far F' G' := far_app_n _ F G F' G' (Nat.le_refl _)
/-- Of three none is above both others' sum. -/
theorem far_tri_n : ∀ (n : Nat) (F G H : Fo), F.size + G.size + H.size ≤ n → far F H ≤ far F G + far G H := by
  intro n
  induction n with
  | zero => intro F G H h; rw [Fo.size_zero (F := F) (by omega), Fo.size_zero (F := H) (by omega)]; rw [far_nil]; simp [Fo.size]
  | succ n ih =>
    intro F G H h
    cases F with
    | nil => rw [far_nil, far_nil]; exact Nat.le_trans (far_ge' G H) (by omega)
    | cons x k r =>
      cases H with
      | nil => rw [far_nil', far_nil']; exact Nat.le_trans (far_ge _ G) (by omega)
      | cons z m t =>
        cases G with
        | nil => rw [far_nil, far_nil']; exact far_le _ _ _ (Nat.le_refl _)
        | cons y l s =>
          simp only [Fo.size] at h
          rcases far_ways x k r y l s with e | e | e
          · have a := ih (k.app r) (.cons y l s) (.cons z m t) (by simp only [Fo.size, Fo.size_app]; omega)
            have b := far_del x k r (.cons z m t)
            omega
          · rcases far_ways y l s z m t with f | f | f
            · have a := ih (.cons x k r) (l.app s) (.cons z m t) (by simp only [Fo.size, Fo.size_app]; omega)
              omega
            · have a := ih (.cons x k r) (.cons y l s) (m.app t) (by simp only [Fo.size, Fo.size_app]; omega)
              have b := far_ins z m t (.cons x k r)
              omega
            · have a := ih (.cons x k r) (l.app s) (m.app t) (by simp only [Fo.size, Fo.size_app]; omega)
              have b := far_app l m s t
              have c := far_ins z m t (.cons x k r)
              omega
          · rcases far_ways y l s z m t with f | f | f
            · have a := ih (k.app r) (l.app s) (.cons z m t) (by simp only [Fo.size, Fo.size_app]; omega)
              have b := far_app k l r s
              have c := far_del x k r (.cons z m t)
              omega
            · have a := ih (.cons x k r) (.cons y l s) (m.app t) (by simp only [Fo.size, Fo.size_app]; omega)
              have b := far_ins z m t (.cons x k r)
              omega
            · have a := ih k l m (by omega)
              have b := ih r s t (by omega)
              have c := far_put x k r z m t
              have d := rel_tri x y z
              omega
theorem far_tri (F G H : Fo) : far F H ≤ far F G + far G H := far_tri_n _ F G H (Nat.le_refl _)
theorem far_zero : ∀ (n : Nat) (F G : Fo), F.size + G.size ≤ n → far F G = 0 → F = G := by
  intro n
  induction n with
  | zero => intro F G h _; rw [Fo.size_zero (F := F) (by omega), Fo.size_zero (F := G) (by omega)]
  | succ n ih =>
    intro F G h e
    cases F with
    | nil => rw [far_nil] at e; rw [Fo.size_zero e]
    | cons x k r =>
      cases G with
      | nil => rw [far_nil'] at e; simp [Fo.size] at e
      | cons y l s =>
        simp only [Fo.size] at h
        rcases far_ways x k r y l s with f | f | f
        · omega
        · omega
        · rw [ih k l (by omega) (by omega), ih r s (by omega) (by omega), rel_zero (a := x) (b := y) (by omega)]
theorem far_eq {F G : Fo} : far F G = 0 ↔ F = G := ⟨far_zero _ F G (Nat.le_refl _), fun h => by rw [h, far_self]⟩

/-- The row of trees of the nodes from one on, up to another one. -/
def fo (lab : Nat → Lab) (lf : Nat → Nat) (a : Nat) : Nat → Fo
  | 0 => .nil
  | v + 1 => if _h : a ≤ v ∧ lf v ≤ v then .cons (lab v) (fo lab lf (lf v) v) (fo lab lf a (lf v)) else .nil
termination_by i => i
decreasing_by all_goals omega
theorem fo_succ {lab : Nat → Lab} {lf : Nat → Nat} {a v : Nat} (h : a ≤ v) (hl : lf v ≤ v) : fo lab lf a (v + 1) = .cons (lab v) (fo lab lf (lf v) v) (fo lab lf a (lf v)) := by rw [fo, dif_pos ⟨h, hl⟩]
theorem fo_none {lab : Nat → Lab} {lf : Nat → Nat} {a i : Nat} (h : i ≤ a) : fo lab lf a i = .nil := by
  cases i with
  | zero => rw [fo]
  | succ v => rw [fo, dif_neg (by omega)]
/-- Each node's own nodes lie in a row, one row in the other or beside it. -/
structure Lam (lf : Nat → Nat) (n : Nat) : Prop where
  le : ∀ v, v < n → lf v ≤ v
  inn : ∀ v, v < n → ∀ u, lf v ≤ u → u ≤ v → lf v ≤ lf u
/-- A row of whole trees. -/
def Clo (lf : Nat → Nat) (a i : Nat) : Prop := ∀ u, a ≤ u → u < i → a ≤ lf u
theorem Clo.less {lf : Nat → Nat} {a i j : Nat} (h : Clo lf a i) (hj : j ≤ i) : Clo lf a j := fun u h1 h2 => h u h1 (by omega)
theorem Lam.clo {lf : Nat → Nat} {n v : Nat} (h : Lam lf n) (hv : v < n) : Clo lf (lf v) (v + 1) := fun u h1 h2 => h.inn v hv u h1 (by omega)
theorem fo_app {lab : Nat → Lab} {lf : Nat → Nat} {n : Nat} (hL : Lam lf n) : ∀ (i a c : Nat), a ≤ c → c ≤ i → i ≤ n → Clo lf c i → fo lab lf a i = (fo lab lf c i).app (fo lab lf a c) := by
  intro i
  induction i using Nat.strongRecOn with
  | _ i ih =>
    intro a c h1 h2 h3 hc
    by_cases he : i = c
    · subst he; rw [fo_none (a := i) (Nat.le_refl i)]; rfl
    · obtain ⟨v, rfl⟩ : ∃ v, i = v + 1 := ⟨i - 1, by omega⟩
      have hv := hL.le v (by omega)
      have := hc v (by omega) (by omega)
      rw [fo_succ (by omega) hv, fo_succ (a := c) (by omega) hv, ih (lf v) (by omega) a c h1 this (by omega) (hc.less (by omega))]
      rfl
theorem fo_size {lab : Nat → Lab} {lf : Nat → Nat} {n : Nat} (hL : Lam lf n) : ∀ (i a : Nat), a ≤ i → i ≤ n → Clo lf a i → (fo lab lf a i).size = i - a := by
  intro i
  induction i using Nat.strongRecOn with
  | _ i ih =>
    intro a h1 h3 hc
    by_cases he : i = a
    · subst he; rw [fo_none (Nat.le_refl i)]; simp [Fo.size]
    · obtain ⟨v, rfl⟩ : ∃ v, i = v + 1 := ⟨i - 1, by omega⟩
      have hv := hL.le v (by omega)
      have := hc v (by omega) (by omega)
      rw [fo_succ (by omega) hv, Fo.size, ih v (by omega) (lf v) hv (by omega) ((hL.clo (by omega)).less (by omega)), ih (lf v) (by omega) a this (by omega) (hc.less (by omega))]
      omega

/-- Two rows of nodes, each from one on up to another one: how far they are apart. -/
structure Two where
  la : Nat → Lab
  fa : Nat → Nat
  n : Nat
  lb : Nat → Lab
  fb : Nat → Nat
  m : Nat
  ha : Lam fa n
  hb : Lam fb m
def Two.far (T : Two) (a i b j : Nat) : Nat := Proofs.YtmhkacafilpliaaGreat.far (fo T.la T.fa a i) (fo T.lb T.fb b j)
theorem Two.none_a (T : Two) {a i b j : Nat} (hi : i ≤ a) (hj : b ≤ j) (hm : j ≤ T.m) (hc : Clo T.fb b j) : T.far a i b j = j - b := by
  rw [Two.far, fo_none hi, far_nil, fo_size T.hb j b hj hm hc]
theorem Two.none_b (T : Two) {a i b j : Nat} (hi : a ≤ i) (hj : j ≤ b) (hn : i ≤ T.n) (hc : Clo T.fa a i) : T.far a i b j = i - a := by
  rw [Two.far, fo_none hj, far_nil', fo_size T.ha i a hi hn hc]
/-- One step, as the document has it. -/
theorem Two.step (T : Two) {a v b w : Nat} (hv : a ≤ v) (hw : b ≤ w) (hn : v < T.n) (hm : w < T.m) (ca : Clo T.fa a (v + 1)) (cb : Clo T.fb b (w + 1)) :
    T.far a (v + 1) b (w + 1) = min (min (T.far a v b (w + 1)) (T.far a (v + 1) b w) + 1) (T.far (T.fa v) v (T.fb w) w + T.far a (T.fa v) b (T.fb w) + rel (T.la v) (T.lb w)) := by
  have h1 := T.ha.le v hn
  have h2 := T.hb.le w hm
  have e1 : fo T.la T.fa a v = (fo T.la T.fa (T.fa v) v).app (fo T.la T.fa a (T.fa v)) := fo_app T.ha v a (T.fa v) (ca v hv (by omega)) h1 (by omega) ((T.ha.clo hn).less (by omega))
  have e2 : fo T.lb T.fb b w = (fo T.lb T.fb (T.fb w) w).app (fo T.lb T.fb b (T.fb w)) := fo_app T.hb w b (T.fb w) (cb w hw (by omega)) h2 (by omega) ((T.hb.clo hm).less (by omega))
  unfold Two.far
  rw [fo_succ hv h1, fo_succ hw h2, far_cons, e1, e2]
/-- One node and what hangs on it, against one. -/
def Two.tree (T : Two) (i k : Nat) : Nat := T.far (T.fa i) (i + 1) (T.fb k) (k + 1)
theorem Two.step_left (T : Two) {a v b w : Nat} (hv : a ≤ v) (hw : b ≤ w) (hn : v < T.n) (hm : w < T.m) (ca : Clo T.fa a (v + 1)) (cb : Clo T.fb b (w + 1)) (h1 : T.fa v = a) (h2 : T.fb w = b) :
    T.far a (v + 1) b (w + 1) = min (min (T.far a v b (w + 1) + 1) (T.far a (v + 1) b w + 1)) (T.far a v b w + rel (T.la v) (T.lb w)) := by
  rw [T.step hv hw hn hm ca cb, h1, h2]
  have : T.far a a b b = 0 := by rw [T.none_a (Nat.le_refl a) (Nat.le_refl b) (by omega) (cb.less (by omega))]; omega
  rw [this]; omega
theorem Two.step_tree (T : Two) {a v b w : Nat} (hv : a ≤ v) (hw : b ≤ w) (hn : v < T.n) (hm : w < T.m) (ca : Clo T.fa a (v + 1)) (cb : Clo T.fb b (w + 1)) :
    T.far a (v + 1) b (w + 1) = min (min (T.far a v b (w + 1) + 1) (T.far a (v + 1) b w + 1)) (T.far a (T.fa v) b (T.fb w) + T.tree v w) := by
  have h1 := T.ha.le v hn
  have h2 := T.hb.le w hm
  have e := T.step hv hw hn hm ca cb
  have t := T.step h1 h2 hn hm (T.ha.clo hn) (T.hb.clo hm)
  have z : T.far (T.fa v) (T.fa v) (T.fb w) (T.fb w) = 0 := by rw [T.none_a (Nat.le_refl _) (Nat.le_refl _) (by omega) ((T.hb.clo hm).less (by omega))]; omega
  have s : T.far a (v + 1) b (w + 1) ≤ T.tree v w + T.far a (T.fa v) b (T.fb w) := by
    unfold Two.tree Two.far
    rw [fo_app (lab := T.la) T.ha (v + 1) a (T.fa v) (ca v hv (by omega)) (by omega) (by omega) (T.ha.clo hn),
      fo_app (lab := T.lb) T.hb (w + 1) b (T.fb w) (cb w hw (by omega)) (by omega) (by omega) (T.hb.clo hm)]
    exact far_app _ _ _ _
  have t' : T.tree v w = T.far (T.fa v) (v + 1) (T.fb w) (w + 1) := rfl
  omega
/-- What the table of trees holds, when all roots in 'done' were gone through with all of the other one's, and the root x with those in 'dn'. -/
structure Two.Good (T : Two) (M : Nat → Nat → Int) (done : List Nat) (x : Nat) (dn : List Nat) : Prop where
  all : ∀ i k, i < T.n → k < T.m → (∃ r ∈ done, T.fa r = T.fa i) → M i k = (T.tree i k : Nat)
  some : ∀ i k, i < T.n → k < T.m → T.fa i = T.fa x → (∃ s ∈ dn, T.fb s = T.fb k) → M i k = (T.tree i k : Nat)
/-- What filling one pair of roots leaves. -/
def Two.Filled (T : Two) (M M' : Nat → Nat → Int) (x y : Nat) : Prop := ∀ i k, i < T.n → k < T.m → M' i k = if T.fa i = T.fa x ∧ T.fb k = T.fb y ∧ i ≤ x ∧ k ≤ y then ((T.tree i k : Nat) : Int) else M i k
theorem Two.Good.fill {T : Two} {M M' : Nat → Nat → Int} {done dn : List Nat} {x y : Nat} (h : T.Good M done x dn) (hf : T.Filled M M' x y) (hx : ∀ i, i < T.n → T.fa i = T.fa x → i ≤ x) (hy : ∀ k, k < T.m → T.fb k = T.fb y → k ≤ y) :
    T.Good M' done x (dn ++ [y]) := by
  constructor
  · intro i k hi hk hr
    rw [hf i k hi hk]
    split
    · rfl
    · exact h.all i k hi hk hr
  · intro i k hi hk he ⟨s, hs, hse⟩
    rw [hf i k hi hk]
    split
    · rfl
    · rename_i hn
      rcases List.mem_append.1 hs with hs | hs
      · exact h.some i k hi hk he ⟨s, hs, hse⟩
      · have : s = y := by simpa using hs
        subst this
        exact absurd ⟨he, hse.symm, hx i hi he, hy k hk hse.symm⟩ hn
theorem Two.Good.row {T : Two} {M : Nat → Nat → Int} {done dn : List Nat} {x : Nat} (h : T.Good M done x dn) (hd : ∀ k, k < T.m → ∃ s ∈ dn, T.fb s = T.fb k) (z : Nat) : T.Good M (done ++ [x]) z [] := by
  constructor
  · intro i k hi hk ⟨r, hr, he⟩
    rcases List.mem_append.1 hr with hr | hr
    · exact h.all i k hi hk ⟨r, hr, he⟩
    · have : r = x := by simpa using hr
      subst this
      exact h.some i k hi hk he.symm (hd k hk)
  · intro i k _ _ _ ⟨s, hs, _⟩
    simp at hs
theorem Two.Good.start (T : Two) (M : Nat → Nat → Int) (z : Nat) : T.Good M [] z [] :=
  ⟨fun i k _ _ ⟨r, hr, _⟩ => by simp at hr, fun i k _ _ _ ⟨s, hs, _⟩ => by simp at hs⟩
/-! What the rows of the forest table hold. -/
def Two.F0 (fr x : Nat) (f : Nat → Nat → Int) : Prop := ∀ j, fr + j ≤ x + 1 → f j 0 = (j : Int)
def Two.FR (T : Two) (fr at_ y i : Nat) (f : Nat → Nat → Int) : Prop := ∀ j q, fr + j ≤ i → at_ + q ≤ y + 1 → f j q = (T.far fr (fr + j) at_ (at_ + q) : Nat)
def Two.FK (T : Two) (fr at_ i k p1 : Nat) (f : Nat → Nat → Int) : Prop := ∀ q, at_ + q ≤ k → f p1 q = (T.far fr (i + 1) at_ (at_ + q) : Nat)
def Two.MK (T : Two) (fr at_ y i k : Nat) (M M' : Nat → Nat → Int) : Prop := ∀ i' k', i' < T.n → k' < T.m → M' i' k' = if T.fa i' = fr ∧ T.fb k' = at_ ∧ (i' < i ∨ i' = i ∧ k' < k) ∧ k' ≤ y then ((T.tree i' k' : Nat) : Int) else M i' k'
section
variable {T : Two} {fr at_ x y i k p : Nat} {f : Nat → Nat → Int} {M M' : Nat → Nat → Int}
theorem Two.FR.start (_hfr : fr = T.fa x) (hat : at_ = T.fb y) (_hx : x < T.n) (hy : y < T.m) (h : ∀ q, at_ + q ≤ y + 1 → f 0 q = (q : Int)) : T.FR fr at_ y fr f := fun j q h1 h2 => by
  obtain rfl : j = 0 := by omega
  rw [h q h2, Nat.add_zero, T.none_a (Nat.le_refl _) (by omega) (by omega) (by rw [hat]; exact (T.hb.clo hy).less (by omega))]
  omega
theorem Two.FK.start (hfr : fr = T.fa x) (hx : x < T.n) (hi : i ≤ x) (hp : i = fr + p) (h : Two.F0 fr x f) : T.FK fr at_ i at_ (p + 1) f := fun q h1 => by
  obtain rfl : q = 0 := by omega
  rw [h (p + 1) (by omega), show at_ + 0 = at_ from rfl, T.none_b (by omega) (Nat.le_refl _) (by omega) (by rw [hfr]; exact (T.ha.clo hx).less (by omega))]
  omega
theorem Two.FK.next (h : T.FK fr at_ i k (p + 1) f) {q : Nat} (hq : k = at_ + q) {v : Int} (hv : v = (T.far fr (i + 1) at_ (k + 1) : Nat)) : T.FK fr at_ i (k + 1) (p + 1) (fun a b => if a = p + 1 ∧ b = q + 1 then v else f a b) := fun r hr => by
  show (if p + 1 = p + 1 ∧ r = q + 1 then v else f (p + 1) r) = _
  by_cases e : r = q + 1
  · rw [if_pos ⟨rfl, e⟩, hv, e, hq]; rfl
  · rw [if_neg (fun h => e h.2)]; exact h r (by omega)
theorem Two.FR.put (h : T.FR fr at_ y i f) (hp : i = fr + p) (q : Nat) (v : Int) : T.FR fr at_ y i (fun a b => if a = p + 1 ∧ b = q then v else f a b) := fun j r h1 h2 => by
  show (if j = p + 1 ∧ r = q then v else f j r) = _
  rw [if_neg (by omega)]; exact h j r h1 h2
theorem Two.F0.put (h : Two.F0 fr x f) (a q : Nat) (v : Int) : Two.F0 fr x (fun i k => if i = a ∧ k = q + 1 then v else f i k) := fun j hj => by
  show (if j = a ∧ 0 = q + 1 then v else f j 0) = _
  rw [if_neg (by omega)]; exact h j hj
theorem Two.FR.next (h : T.FR fr at_ y i f) (hk : T.FK fr at_ i (y + 1) (p + 1) f) (hp : i = fr + p) : T.FR fr at_ y (i + 1) f := fun j q h1 h2 => by
  by_cases e : fr + j ≤ i
  · exact h j q e h2
  · obtain rfl : j = p + 1 := by omega
    rw [hk q h2, show fr + (p + 1) = i + 1 by omega]
theorem Two.MK.start : T.MK fr at_ y fr at_ M M := fun i' k' h1 h2 => by
  rw [if_neg]
  rintro ⟨e1, e2, e3, e4⟩
  have := T.ha.le i' h1
  have := T.hb.le k' h2
  omega
theorem Two.MK.row (h : T.MK fr at_ y i (y + 1) M M') : T.MK fr at_ y (i + 1) at_ M M' := fun i' k' h1 h2 => by
  rw [h i' k' h1 h2]
  have := T.hb.le k' h2
  by_cases e : T.fa i' = fr ∧ T.fb k' = at_ ∧ (i' < i ∨ i' = i ∧ k' < y + 1) ∧ k' ≤ y
  · rw [if_pos e, if_pos (by omega)]
  · rw [if_neg e, if_neg (by omega)]
theorem Two.MK.skip (h : T.MK fr at_ y i k M M') (hn : ¬ (T.fa i = fr ∧ T.fb k = at_)) : T.MK fr at_ y i (k + 1) M M' := fun i' k' h1 h2 => by
  rw [h i' k' h1 h2]
  by_cases e : T.fa i' = fr ∧ T.fb k' = at_ ∧ (i' < i ∨ i' = i ∧ k' < k) ∧ k' ≤ y
  · rw [if_pos e, if_pos (by omega)]
  · rw [if_neg e, if_neg]
    rintro ⟨e1, e2, e3, e4⟩
    by_cases e5 : i' = i ∧ k' = k
    · rw [e5.1] at e1; rw [e5.2] at e2; exact hn ⟨e1, e2⟩
    · exact e ⟨e1, e2, by omega, e4⟩
theorem Two.MK.put (h : T.MK fr at_ y i k M M') (hky : k ≤ y) (h1 : T.fa i = fr) (h2 : T.fb k = at_) {v : Int} (hv : v = (T.tree i k : Nat)) : T.MK fr at_ y i (k + 1) M (fun a b => if a = i ∧ b = k then v else M' a b) := fun i' k' g1 g2 => by
  show (if i' = i ∧ k' = k then v else M' i' k') = _
  by_cases e : i' = i ∧ k' = k
  · obtain ⟨rfl, rfl⟩ := e
    rw [if_pos ⟨rfl, rfl⟩, if_pos ⟨h1, h2, by omega, hky⟩, hv]
  · rw [if_neg e, h i' k' g1 g2]
    by_cases e2 : T.fa i' = fr ∧ T.fb k' = at_ ∧ (i' < i ∨ i' = i ∧ k' < k) ∧ k' ≤ y
    · rw [if_pos e2, if_pos (by omega)]
    · rw [if_neg e2, if_neg (by omega)]
theorem Two.MK.done (hfr : fr = T.fa x) (hat : at_ = T.fb y) (h : T.MK fr at_ y (x + 1) at_ M M') : T.Filled M M' x y := fun i' k' h1 h2 => by
  have := T.hb.le k' h2
  rw [h i' k' h1 h2, ← hfr, ← hat]
  by_cases e : T.fa i' = fr ∧ T.fb k' = at_ ∧ i' ≤ x ∧ k' ≤ y
  · rw [if_pos e, if_pos (by omega)]
  · rw [if_neg e]
    by_cases e2 : T.fa i' = fr ∧ T.fb k' = at_ ∧ (i' < x + 1 ∨ i' = x + 1 ∧ k' < at_) ∧ k' ≤ y
    · exact absurd ⟨e2.1, e2.2.1, by omega, e2.2.2.2⟩ e
    · rw [if_neg e2]
/-- One cell, where both nodes are leftmost. -/
theorem Two.cell_left {q : Nat} (hfr : fr = T.fa x) (hat : at_ = T.fb y) (hx : x < T.n) (hy : y < T.m) (hix : i ≤ x) (hky : k ≤ y) (hp : i = fr + p) (hq : k = at_ + q) (hR : T.FR fr at_ y i f) (hK : T.FK fr at_ i k (p + 1) f) (h1 : T.fa i = fr) (h2 : T.fb k = at_) :
    min (min (f p (q + 1) + 1) (f (p + 1) q + 1)) (f p q + (rel (T.la i) (T.lb k) : Nat)) = (T.far fr (i + 1) at_ (k + 1) : Nat) := by
  have ca : Clo T.fa fr (i + 1) := by rw [hfr]; exact (T.ha.clo hx).less (by omega)
  have cb : Clo T.fb at_ (k + 1) := by rw [hat]; exact (T.hb.clo hy).less (by omega)
  rw [T.step_left (by omega) (by omega) (by omega) (by omega) ca cb h1 h2, hR p (q + 1) (by omega) (by omega), hK q (by omega), hR p q (by omega) (by omega), ← hp, ← hq, show at_ + (q + 1) = k + 1 by omega]
  omega
/-- One cell, else. -/
theorem Two.cell_tree {q l m : Nat} (hfr : fr = T.fa x) (hat : at_ = T.fb y) (hx : x < T.n) (hy : y < T.m) (hix : i ≤ x) (hky : k ≤ y) (hp : i = fr + p) (hq : k = at_ + q) (hR : T.FR fr at_ y i f) (hK : T.FK fr at_ i k (p + 1) f) (hl : T.fa i = fr + l) (hm : T.fb k = at_ + m) {t : Int} (ht : t = (T.tree i k : Nat)) :
    min (min (f p (q + 1) + 1) (f (p + 1) q + 1)) (f l m + t) = (T.far fr (i + 1) at_ (k + 1) : Nat) := by
  have ca : Clo T.fa fr (i + 1) := by rw [hfr]; exact (T.ha.clo hx).less (by omega)
  have cb : Clo T.fb at_ (k + 1) := by rw [hat]; exact (T.hb.clo hy).less (by omega)
  have := T.ha.le i (by omega)
  have := T.hb.le k (by omega)
  rw [T.step_tree (by omega) (by omega) (by omega) (by omega) ca cb, hR p (q + 1) (by omega) (by omega), hK q (by omega), hR l m (by omega) (by omega), ← hp, ← hq, show at_ + (q + 1) = k + 1 by omega, ht, hl, hm]
  omega
/-- What is known of a tree that is not leftmost in both. -/
theorem Two.MK.known (h : T.MK fr at_ y i k M M') (hfr : fr = T.fa x) (hat : at_ = T.fb y) (hx : x < T.n) (hy : y < T.m) (h1 : fr ≤ i) (h2 : i ≤ x) (h3 : at_ ≤ k) (h4 : k ≤ y) (hn : ¬ (T.fa i = fr ∧ T.fb k = at_))
    (hkn : ∀ i k, T.fa x ≤ i → i ≤ x → T.fb y ≤ k → k ≤ y → ¬ (T.fa i = T.fa x ∧ T.fb k = T.fb y) → M i k = (T.tree i k : Nat)) : M' i k = (T.tree i k : Nat) := by
  rw [h i k (by omega) (by omega), if_neg (fun e => hn ⟨e.1, e.2.1⟩)]
  exact hkn i k (by omega) h2 (by omega) h4 (by rw [← hfr, ← hat]; exact hn)
end
theorem Two.far_bnd (T : Two) {a i b j : Nat} (hi : a ≤ i) (hj : b ≤ j) (hn : i ≤ T.n) (hm : j ≤ T.m) (ca : Clo T.fa a i) (cb : Clo T.fb b j) : T.far a i b j ≤ (i - a) + (j - b) := by
  have := far_le _ (fo T.la T.fa a i) (fo T.lb T.fb b j) (Nat.le_refl _)
  rwa [fo_size T.ha i a hi hn ca, fo_size T.hb j b hj hm cb] at this
theorem Two.FR.bnd {T : Two} {fr at_ x y i : Nat} {f : Nat → Nat → Int} (h : T.FR fr at_ y i f) (hfr : fr = T.fa x) (hat : at_ = T.fb y) (hx : x < T.n) (hy : y < T.m) (hix : i ≤ x + 1) {j q : Nat} (h1 : fr + j ≤ i) (h2 : at_ + q ≤ y + 1) : 0 ≤ f j q ∧ f j q ≤ (T.n : Int) + (T.m : Int) := by
  rw [h j q h1 h2]
  have := T.far_bnd (a := fr) (i := fr + j) (b := at_) (j := at_ + q) (by omega) (by omega) (by omega) (by omega) (by rw [hfr]; exact (T.ha.clo hx).less (by omega)) (by rw [hat]; exact (T.hb.clo hy).less (by omega))
  omega
theorem Two.FK.bnd {T : Two} {fr at_ x y i k p1 : Nat} {f : Nat → Nat → Int} (h : T.FK fr at_ i k p1 f) (hfr : fr = T.fa x) (hat : at_ = T.fb y) (hx : x < T.n) (hy : y < T.m) (h0 : fr ≤ i) (hix : i ≤ x) (hky : k ≤ y + 1) {q : Nat} (h2 : at_ + q ≤ k) : 0 ≤ f p1 q ∧ f p1 q ≤ (T.n : Int) + (T.m : Int) := by
  rw [h q h2]
  have := T.far_bnd (a := fr) (i := i + 1) (b := at_) (j := at_ + q) (by omega) (by omega) (by omega) (by omega) (by rw [hfr]; exact (T.ha.clo hx).less (by omega)) (by rw [hat]; exact (T.hb.clo hy).less (by omega))
  omega
theorem Two.tree_bnd (T : Two) {i k : Nat} (hi : i < T.n) (hk : k < T.m) : T.tree i k ≤ T.n + T.m := by
  have := T.far_bnd (a := T.fa i) (i := i + 1) (b := T.fb k) (j := k + 1) (by have := T.ha.le i hi; omega) (by have := T.hb.le k hk; omega) (by omega) (by omega) (T.ha.clo hi) (T.hb.clo hk)
  rw [Two.tree]; omega
end Go.Proofs.YtmhkacafilpliaaGreat

namespace Go.Proofs.YtmhkacafilpliaaGreat

def Plc.lab (x : Plc) : Lab := ⟨x.kd, x.key, x.v.k, x.v.t⟩
/-- The row of trees of a list of places. -/
def fF : Nat → List Plc → Fo
  | 0, _ => .nil
  | n + 1, xs => xs.foldl (fun F x => .cons x.lab (fF n x.v.subs) F) .nil
theorem fF_zero (xs : List Plc) : fF 0 xs = .nil := rfl
theorem fF_nil : ∀ n, fF n [] = .nil
  | 0 => rfl
  | _ + 1 => rfl
theorem fF_snoc (n : Nat) (xs : List Plc) (x : Plc) : fF (n + 1) (xs ++ [x]) = .cons x.lab (fF n x.v.subs) (fF (n + 1) xs) := by simp [fF]
theorem fF_one (n : Nat) (x : Plc) : fF (n + 1) [x] = .cons x.lab (fF n x.v.subs) .nil := rfl
theorem foldl_app (g : Plc → Fo) : ∀ (ys : List Plc) (A G : Fo), ys.foldl (fun F x => Fo.cons x.lab (g x) F) (A.app G) = (ys.foldl (fun F x => Fo.cons x.lab (g x) F) A).app G
  | [], _, _ => rfl
  | y :: ys, A, G => foldl_app g ys (.cons y.lab (g y) A) G
theorem fF_app : ∀ (n : Nat) (xs ys : List Plc), fF n (xs ++ ys) = (fF n ys).app (fF n xs)
  | 0, _, _ => rfl
  | n + 1, xs, ys => by
    have := foldl_app (fun x => fF n x.v.subs) ys .nil (fF (n + 1) xs)
    simp only [Fo.app] at this
    show (xs ++ ys).foldl _ _ = _
    rw [List.foldl_append]
    exact this
theorem snoc_or {α : Type} (l : List α) : l = [] ∨ ∃ a b, l = a ++ [b] := by
  rcases List.eq_nil_or_concat l with h | ⟨a, b, h⟩
  · exact .inl h
  · exact .inr ⟨a, b, by rw [h]; simp⟩
theorem fF_size : ∀ (n : Nat) (xs : List Plc), (fF n xs).size = (xs.flatMap (postF n)).length := by
  intro n
  induction n with
  | zero => intro xs; rw [fF_zero, show xs.flatMap (postF 0) = [] from List.flatMap_eq_nil_iff.2 fun _ _ => rfl]; rfl
  | succ n ih =>
    intro xs
    obtain ⟨k, hk⟩ : ∃ k, xs.length = k := ⟨_, rfl⟩
    induction k generalizing xs with
    | zero => rw [List.length_eq_zero_iff.mp hk, fF_nil]; rfl
    | succ k ihk =>
      rcases snoc_or xs with rfl | ⟨a, b, rfl⟩
      · cases hk
      · rw [fF_snoc, Fo.size, ih, ihk a (by simp at hk; omega), List.flatMap_append]
        simp [postF_succ]; omega
/-- The row of trees is read from the postorder. -/
theorem fo_read (lab : Nat → Lab) (lf : Nat → Nat) : ∀ (n : Nat) (xs : List Plc) (fr : Nat),
    (∀ i, i < (xs.flatMap (postF n)).length → (xs.flatMap (postF n))[i]? = some (lab (fr + i)) ∧ (leftsF n fr [] xs)[i]? = some (lf (fr + i))) →
    fo lab lf fr (fr + (xs.flatMap (postF n)).length) = fF n xs := by
  intro n
  induction n with
  | zero =>
    intro xs fr _
    rw [show xs.flatMap (postF 0) = [] from List.flatMap_eq_nil_iff.2 fun _ _ => rfl, fo_none (by simp), fF_zero]
  | succ n ih =>
    intro xs
    obtain ⟨k, hk⟩ : ∃ k, xs.length = k := ⟨_, rfl⟩
    induction k generalizing xs with
    | zero => intro fr _; rw [List.length_eq_zero_iff.mp hk, fF_nil]; exact fo_none (by simp)
    | succ k ihk =>
      intro fr h
      rcases snoc_or xs with rfl | ⟨a, b, rfl⟩
      · cases hk
      · have hp : (a ++ [b]).flatMap (postF (n + 1)) = a.flatMap (postF (n + 1)) ++ (b.v.subs.flatMap (postF n) ++ [b.lab]) := by rw [List.flatMap_append]; simp [postF_succ, Plc.lab]
        have hl : leftsF (n + 1) fr [] (a ++ [b]) = leftsF (n + 1) fr [] a ++ (leftsF n (fr + (a.flatMap (postF (n + 1))).length) [] b.v.subs ++ [fr + (a.flatMap (postF (n + 1))).length]) := by rw [leftsF_one, leftF_succ]
        have l1 : (leftsF (n + 1) fr [] a).length = (a.flatMap (postF (n + 1))).length := by rw [leftsF_len]; simp
        have l2 : (leftsF n (fr + (a.flatMap (postF (n + 1))).length) [] b.v.subs).length = (b.v.subs.flatMap (postF n)).length := by rw [leftsF_len]; simp
        rw [hp, hl] at h
        rw [hp]
        have ha := ihk a (by simp at hk; omega) fr
        have hb := ih b.v.subs (fr + (a.flatMap (postF (n + 1))).length)
        generalize a.flatMap (postF (n + 1)) = P at *
        generalize b.v.subs.flatMap (postF n) = Q at *
        generalize leftsF (n + 1) fr [] a = FP at *
        generalize leftsF n (fr + P.length) [] b.v.subs = FQ at *
        have hlen : (P ++ (Q ++ [b.lab])).length = P.length + Q.length + 1 := by simp; omega
        have hv := h (P.length + Q.length) (by omega)
        have hv1 := hv.1
        have hv2 := hv.2
        rw [List.getElem?_append_right (by omega), List.getElem?_append_right (by omega), show P.length + Q.length - P.length - Q.length = 0 by omega] at hv1
        rw [List.getElem?_append_right (by omega), List.getElem?_append_right (by omega), l1, l2, show P.length + Q.length - P.length - Q.length = 0 by omega] at hv2
        simp only [List.getElem?_cons_zero, Option.some.injEq] at hv1 hv2
        rw [hlen, show fr + (P.length + Q.length + 1) = (fr + (P.length + Q.length)) + 1 by omega, fo_succ (by omega) (by omega), ← hv1, ← hv2, fF_snoc]
        have e1 : fo lab lf (fr + P.length) (fr + (P.length + Q.length)) = fF n b.v.subs := by
          rw [← hb ?_]
          · congr 1; omega
          · intro i hi
            have ht := h (P.length + i) (by omega)
            have ht1 := ht.1
            have ht2 := ht.2
            rw [List.getElem?_append_right (by omega), List.getElem?_append_left (by omega), show P.length + i - P.length = i by omega, show fr + (P.length + i) = fr + P.length + i by omega] at ht1
            rw [List.getElem?_append_right (by omega), List.getElem?_append_left (by omega), l1, show P.length + i - P.length = i by omega, show fr + (P.length + i) = fr + P.length + i by omega] at ht2
            exact ⟨ht1, ht2⟩
        have e2 : fo lab lf fr (fr + P.length) = fF (n + 1) a := by
          refine ha ?_
          intro i hi
          have ht := h i (by omega)
          have ht1 := ht.1
          have ht2 := ht.2
          rw [List.getElem?_append_left (by omega)] at ht1
          rw [List.getElem?_append_left (by omega)] at ht2
          exact ⟨ht1, ht2⟩
        rw [e1, e2]
/-- Of one value. -/
theorem fo_val {lab : Nat → Lab} {lf : Nat → Nat} (n : Nat) (e : Plc) (h1 : ∀ i, i < (postF n e).length → (postF n e)[i]? = some (lab i)) (h2 : ∀ i, i < (postF n e).length → (leftF n 0 e)[i]? = some (lf i)) :
    fo lab lf 0 (postF n e).length = fF n [e] := by
  have := fo_read lab lf n [e] 0 (by
    intro i hi
    simp only [List.flatMap_cons, List.flatMap_nil, List.append_nil] at hi ⊢
    rw [Nat.zero_add]
    refine ⟨h1 i hi, ?_⟩
    have := h2 i hi
    simpa [leftsF] using this)
  simpa using this
/-- A value's nodes lie as trees do. -/
theorem lam_val {lf : Nat → Nat} (n : Nat) (e : Plc) (he : e.v.within n = true) (h : ∀ i, i < (postF (n + 1) e).length → (leftF (n + 1) 0 e)[i]? = some (lf i)) : Lam lf (postF (n + 1) e).length := by
  constructor
  · intro v hv
    have := (left_in _ _ _ _ _ (h v hv)).2
    omega
  · intro v hv u h1 h2
    obtain ⟨m, x, A, B, A', B', hx, hp, hi, hl, hA⟩ := seg_at n 0 e v he hv
    have hll := left_len (m + 1) (0 + A.length) x
    have hpp := post_pos m x
    have hlv := h v hv
    rw [hl, List.append_assoc, List.getElem?_append_right (by omega), List.getElem?_append_left (by omega), show v - A'.length = (postF (m + 1) x).length - 1 by omega, leftF_last] at hlv
    have hlu := h u (by omega)
    simp only [Option.some.injEq] at hlv
    have q1 : A'.length ≤ u := by omega
    have q2 : u - A'.length < (leftF (m + 1) (0 + A.length) x).length := by omega
    rw [hl, List.append_assoc, List.getElem?_append_right q1, List.getElem?_append_left q2] at hlu
    have := (left_in _ _ _ _ _ hlu).1
    omega
theorem within_up : ∀ (n m : Nat) (v : Val), n ≤ m → v.within n = true → v.within m = true
  | 0, 0, _, _, h => h
  | 0, m + 1, v, _, h => by
    have := subs_leaf h
    rw [Val.within_0, Bool.and_eq_true] at h
    rw [Val.within_s, Bool.and_eq_true]
    refine ⟨h.1, ?_⟩
    have := (shape_leaf2 h.1 (by simpa using h.2)).1
    rw [this]; rfl
  | n + 1, 0, _, hn, _ => absurd hn (by omega)
  | n + 1, m + 1, v, hn, h => by
    rw [Val.within_s, Bool.and_eq_true] at h ⊢
    refine ⟨h.1, ?_⟩
    rw [List.all_eq_true] at h ⊢
    exact fun y hy => within_up n m y (by omega) (h.2 y hy)
/-- However deep one looks. -/
theorem fF_fuel : ∀ (n m : Nat) (xs : List Plc), n ≤ m → (∀ x ∈ xs, x.v.within n = true) → fF (m + 1) xs = fF (n + 1) xs := by
  intro n
  induction n with
  | zero =>
    intro m xs _ h
    obtain ⟨k, hk⟩ : ∃ k, xs.length = k := ⟨_, rfl⟩
    induction k generalizing xs with
    | zero => rw [List.length_eq_zero_iff.mp hk, fF_nil, fF_nil]
    | succ k ihk =>
      rcases snoc_or xs with rfl | ⟨a, b, rfl⟩
      · cases hk
      · rw [fF_snoc, fF_snoc, ihk a (fun x hx => h x (by simp [hx])) (by simp at hk; omega), subs_leaf (h b (by simp)), fF_nil, fF_nil]
  | succ n ih =>
    intro m xs hm h
    obtain ⟨m, rfl⟩ : ∃ k, m = k + 1 := ⟨m - 1, by omega⟩
    obtain ⟨k, hk⟩ : ∃ k, xs.length = k := ⟨_, rfl⟩
    induction k generalizing xs with
    | zero => rw [List.length_eq_zero_iff.mp hk, fF_nil, fF_nil]
    | succ k ihk =>
      rcases snoc_or xs with rfl | ⟨a, b, rfl⟩
      · cases hk
      · rw [fF_snoc, fF_snoc, ihk a (fun x hx => h x (by simp [hx])) (by simp at hk; omega), ih m b.v.subs (by omega) (subs_in (h b (by simp)))]
/-- In whatever order keys stand. -/
theorem fF_canon : ∀ (n : Nat) (xs : List Plc), (∀ x ∈ xs, x.v.within n = true) → fF (n + 1) (xs.map fun e => ⟨e.kd, e.key, canon n e.v⟩) = fF (n + 1) xs := by
  intro n
  induction n with
  | zero =>
    intro xs h
    have : (xs.map fun e => (⟨e.kd, e.key, canon 0 e.v⟩ : Plc)) = xs := by
      conv => rhs; rw [← List.map_id xs]
      exact List.map_congr_left fun x _ => by rw [canon]; rfl
    rw [this]
  | succ n ih =>
    intro xs h
    obtain ⟨k, hk⟩ : ∃ k, xs.length = k := ⟨_, rfl⟩
    induction k generalizing xs with
    | zero => rw [List.length_eq_zero_iff.mp hk]; rfl
    | succ k ihk =>
      rcases snoc_or xs with rfl | ⟨a, b, rfl⟩
      · cases hk
      · have hb := h b (by simp)
        rw [List.map_append, List.map_cons, List.map_nil, fF_snoc, fF_snoc, ihk a (fun x hx => h x (by simp [hx])) (by simp at hk; omega)]
        show Fo.cons ⟨b.kd, b.key, (canon (n + 1) b.v).k, (canon (n + 1) b.v).t⟩ (fF (n + 1) (canon (n + 1) b.v).subs) _ = _
        rw [(canon_head (n + 1) b.v).1, (canon_head (n + 1) b.v).2, subs_canon hb, ih _ (subs_in hb)]
        rfl
theorem val_ext {a b : Val} (h1 : a.k = b.k) (h2 : a.t = b.t) (h3 : a.l = b.l) (h4 : a.ks = b.ks) : a = b := by
  cases a; cases b
  simp only at h1 h2 h3 h4
  rw [h1, h2, h3, h4]
theorem may_in {v : Val} (h : v.may = true) : v.within 256 = true := (Val.may_eq v).trans h
/-- Values of one row of trees are the same. -/
theorem fF_inj : ∀ (n : Nat) (xs ys : List Plc), (∀ x ∈ xs, x.v.within n = true) → (∀ x ∈ ys, x.v.within n = true) → fF (n + 1) xs = fF (n + 1) ys →
    xs.map (fun x => (x.lab, canon n x.v)) = ys.map (fun x => (x.lab, canon n x.v)) := by
  intro n
  induction n with
  | zero =>
    intro xs ys hx hy h
    obtain ⟨k, hk⟩ : ∃ k, xs.length = k := ⟨_, rfl⟩
    induction k generalizing xs ys with
    | zero =>
      have := List.length_eq_zero_iff.mp hk
      subst this
      rcases snoc_or ys with rfl | ⟨a, b, rfl⟩
      · rfl
      · rw [fF_snoc, fF_nil] at h; cases h
    | succ k ihk =>
      rcases snoc_or xs with rfl | ⟨a, b, rfl⟩
      · cases hk
      · rcases snoc_or ys with rfl | ⟨c, d, rfl⟩
        · rw [fF_snoc, fF_nil] at h; cases h
        · rw [fF_snoc, fF_snoc] at h
          injection h with h1 h2 h3
          have hb := hx b (by simp)
          have hd := hy d (by simp)
          rw [List.map_append, List.map_append, ihk a c (fun x h => hx x (by simp [h])) (fun x h => hy x (by simp [h])) h3 (by simp at hk; omega)]
          rw [Val.within_0, Bool.and_eq_true] at hb hd
          have b1 := shape_leaf2 hb.1 (by simpa using hb.2)
          have d1 := shape_leaf2 hd.1 (by simpa using hd.2)
          have e : canon 0 b.v = canon 0 d.v := by
            rw [canon, canon]
            simp only [Plc.lab, Lab.mk.injEq] at h1
            exact val_ext h1.2.2.1 h1.2.2.2 (by rw [b1.1, d1.1]) (by rw [b1.2, d1.2])
          simp only [List.map_cons, List.map_nil, h1, e]
  | succ n ih =>
    intro xs ys hx hy h
    obtain ⟨k, hk⟩ : ∃ k, xs.length = k := ⟨_, rfl⟩
    induction k generalizing xs ys with
    | zero =>
      have := List.length_eq_zero_iff.mp hk
      subst this
      rcases snoc_or ys with rfl | ⟨a, b, rfl⟩
      · rfl
      · rw [fF_snoc, fF_nil] at h; cases h
    | succ k ihk =>
      rcases snoc_or xs with rfl | ⟨a, b, rfl⟩
      · cases hk
      · rcases snoc_or ys with rfl | ⟨c, d, rfl⟩
        · rw [fF_snoc, fF_nil] at h; cases h
        · rw [fF_snoc, fF_snoc] at h
          injection h with h1 h2 h3
          have hb := hx b (by simp)
          have hd := hy d (by simp)
          rw [List.map_append, List.map_append, ihk a c (fun x h => hx x (by simp [h])) (fun x h => hy x (by simp [h])) h3 (by simp at hk; omega)]
          have hs := ih _ _ (subs_in hb) (subs_in hd) h2
          have e : canon (n + 1) b.v = canon (n + 1) d.v := by
            rw [canon_subs, canon_subs]
            simp only [Plc.lab, Lab.mk.injEq] at h1
            have m1 : b.v.subs.map (fun e => canon n e.v) = d.v.subs.map (fun e => canon n e.v) := by
              have := congrArg (List.map Prod.snd) hs
              simpa [List.map_map, Function.comp_def] using this
            have m2 : b.v.subs.map (·.key) = d.v.subs.map (·.key) := by
              have := congrArg (List.map fun p => p.1.key) hs
              simpa [List.map_map, Function.comp_def, Plc.lab] using this
            rw [h1.2.2.1, h1.2.2.2, m1, m2]
            by_cases hk8 : d.v.k = 8
            · rw [if_pos hk8, if_pos hk8]
            · rw [if_neg hk8, if_neg hk8, shape_keys (within_parts hb).1 (by rw [h1.2.2.1]; exact hk8), shape_keys (within_parts hd).1 hk8]
          simp only [List.map_cons, List.map_nil, h1, e]

/-- A value as a row of one tree. -/
def Val.fo (v : Val) : Fo := fF 257 [⟨false, ⟨#[]⟩, v⟩]
theorem Val.fo_size {v : Val} (h : v.may = true) : v.fo.size = v.size := by
  rw [Val.fo, fF_size]
  simp only [List.flatMap_cons, List.flatMap_nil, List.append_nil]
  exact post_size 256 _ (may_in h)
/-- How far two values are apart that may be. -/
def farV (a b : Val) : Nat := Proofs.YtmhkacafilpliaaGreat.far a.fo b.fo
theorem Val.fo_inj {a b : Val} (ha : a.may = true) (hb : b.may = true) : a.fo = b.fo ↔ canon 256 a = canon 256 b := by
  constructor
  · intro h
    have := fF_inj 256 _ _ (by simpa using may_in ha) (by simpa using may_in hb) h
    simp only [List.map_cons, List.map_nil, List.cons.injEq, Prod.mk.injEq] at this
    exact this.1.2
  · intro h
    have h1 := fF_canon 256 [⟨false, ⟨#[]⟩, a⟩] (by simpa using may_in ha)
    have h2 := fF_canon 256 [⟨false, ⟨#[]⟩, b⟩] (by simpa using may_in hb)
    simp only [List.map_cons, List.map_nil] at h1 h2
    rw [h] at h1
    rw [Val.fo, Val.fo, ← h1, ← h2]
theorem farV_zero {a b : Val} (ha : a.may = true) (hb : b.may = true) : farV a b = 0 ↔ sameV a b = true := by
  rw [farV, far_eq, Val.fo_inj ha hb, ← cmpV_zero 256 a b (may_in ha) (may_in hb)]
  simp [sameV, ha, hb]
theorem farV_symm (a b : Val) : farV a b = farV b a := far_symm _ _
theorem farV_tri (a b c : Val) : farV a c ≤ farV a b + farV b c := far_tri _ _ _
theorem farV_low {a b : Val} (ha : a.may = true) (hb : b.may = true) : a.size ≤ farV a b + b.size ∧ b.size ≤ farV a b + a.size := by
  rw [← Val.fo_size ha, ← Val.fo_size hb]
  exact ⟨far_ge _ _, far_ge' _ _⟩
theorem farV_lt {a b : Val} (ha : a.may = true) (hb : b.may = true) : farV a b < a.size + b.size := by
  rw [← Val.fo_size ha, ← Val.fo_size hb]
  exact far_lt _ _ _ _ _ _
theorem farV_turned (n : Nat) {a : Val} (b : Val) (ha : a.may = true) (ht : (a.turned n).may = true) : farV (a.turned n) b = farV a b := by
  rw [farV, farV, (Val.fo_inj ht ha).2 (canon_turned n 256 a (may_in ha))]
end Go.Proofs.YtmhkacafilpliaaGreat
