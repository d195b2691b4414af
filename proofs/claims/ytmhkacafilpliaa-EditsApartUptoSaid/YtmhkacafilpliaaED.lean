/-
  What the distance tells of lists: the plain laws of EditsBound and EditsOne. No program.
-/
import Derived.Test.YtmhkacafilpliaaEC
namespace Go.Proofs.Ytmhkacafilpliaa

/-- An element of a list, where it lies; a list of elements; a text. -/
def elP (x : Val) : Plc := ⟨false, ⟨#[]⟩, x⟩
def listV (l : List Val) : Val := ⟨7, ⟨#[]⟩, l, []⟩
def textU (s : ByteArray) : Val := ⟨3, s, [], []⟩
theorem listV_subs (l : List Val) : (listV l).subs = l.map elP := by
  show (if (7 : Int) = 8 then _ else _) = _
  rw [if_neg (by decide)]; rfl
theorem listV_shape (l : List Val) : (listV l).shape = true := by simp [listV, Val.shape]
theorem listV_within {n : Nat} {l : List Val} : (listV l).within (n + 1) = true ↔ ∀ x ∈ l, x.within n = true := by
  rw [Val.within_s, listV_shape]
  simp [listV, List.all_eq_true]
theorem listV_may {l : List Val} : (listV l).may = true ↔ ∀ x ∈ l, x.within 255 = true := by
  rw [← Val.may_eq]
  exact listV_within (n := 255)
theorem listV_size (l : List Val) : (listV l).size = 1 + (l.map Val.size).sum := by rw [Val.size_eq]; rfl
/-- What a list is made of. -/
def listF (l : List Val) : Fo := fF 256 (l.map elP)
theorem listV_fo (l : List Val) : (listV l).fo = .cons ⟨false, ⟨#[]⟩, 7, ⟨#[]⟩⟩ (listF l) .nil := by
  show fF (256 + 1) [⟨false, ⟨#[]⟩, listV l⟩] = _
  rw [fF_one, listV_subs]; rfl
theorem listF_app (l m : List Val) : listF (l ++ m) = (listF m).app (listF l) := by rw [listF, List.map_append, fF_app]; rfl
theorem listF_one {x : Val} (h : x.within 255 = true) : listF [x] = x.fo := by
  show fF (255 + 1) [elP x] = fF (256 + 1) [elP x]
  exact (fF_fuel 255 256 [elP x] (by omega) (by simpa [elP] using h)).symm
theorem far_lists (l m : List Val) : farV (listV l) (listV m) ≤ far (listF l) (listF m) := by
  rw [farV, listV_fo, listV_fo]
  have := far_put ⟨false, ⟨#[]⟩, 7, ⟨#[]⟩⟩ (listF l) .nil ⟨false, ⟨#[]⟩, 7, ⟨#[]⟩⟩ (listF m) .nil
  rw [far_self, rel_self] at this
  omega
/-- Lists that are alike but for one element. -/
theorem far_swap {l1 l2 : List Val} {a b : Val} (ha : a.within 255 = true) (hb : b.within 255 = true) : farV (listV (l1 ++ a :: l2)) (listV (l1 ++ b :: l2)) ≤ farV a b := by
  refine Nat.le_trans (far_lists _ _) ?_
  rw [show l1 ++ a :: l2 = (l1 ++ [a]) ++ l2 by simp, show l1 ++ b :: l2 = (l1 ++ [b]) ++ l2 by simp, listF_app, listF_app (l1 ++ [b]), listF_app l1, listF_app l1, listF_one ha, listF_one hb]
  have h1 := far_app (listF l2) (listF l2) (a.fo.app (listF l1)) (b.fo.app (listF l1))
  have h2 := far_app a.fo b.fo (listF l1) (listF l1)
  rw [far_self] at h1 h2
  show _ ≤ far a.fo b.fo
  omega
/-- With an element more. -/
theorem far_more_one {l1 l2 : List Val} {a : Val} (h : (listV (l1 ++ a :: l2)).may = true) : (listV (l1 ++ l2)).may = true ∧ farV (listV (l1 ++ a :: l2)) (listV (l1 ++ l2)) = a.size := by
  have hm := listV_may.1 h
  have ha : a.within 255 = true := hm a (by simp)
  have hma : a.may = true := by rw [← Val.may_eq]; exact within_up 255 256 a (by omega) ha
  have hz : (listV (l1 ++ l2)).may = true := listV_may.2 fun x hx => hm x (by
    rcases List.mem_append.1 hx with h | h
    · simp [h]
    · simp [h])
  refine ⟨hz, Nat.le_antisymm ?_ ?_⟩
  · refine Nat.le_trans (far_lists _ _) ?_
    rw [show l1 ++ a :: l2 = (l1 ++ [a]) ++ l2 by simp, listF_app, listF_app l1, listF_app l1, listF_one ha]
    have h1 := far_app (listF l2) (listF l2) (a.fo.app (listF l1)) (Fo.nil.app (listF l1))
    have h2 := far_app a.fo .nil (listF l1) (listF l1)
    rw [far_self] at h1 h2
    rw [far_nil', Val.fo_size hma] at h2
    have : Fo.nil.app (listF l1) = listF l1 := rfl
    rw [this] at h1 h2
    omega
  · have := (farV_low h hz).1
    rw [listV_size, listV_size] at this
    simp only [List.map_append, List.map_cons, List.sum_append, List.sum_cons] at this
    omega
/-- Not deeper than big. -/
theorem size_pos (v : Val) : 0 < v.size := by rw [Val.size_eq]; omega
theorem le_sum_memN : ∀ {l : List Nat} {n : Nat}, n ∈ l → n ≤ l.sum
  | a :: l, n, h => by
    rw [List.sum_cons]
    rcases List.mem_cons.1 h with h | h
    · omega
    · have := le_sum_memN h; omega
theorem size_kidV {v x : Val} (h : x ∈ v.l) : x.size < v.size := by
  rw [Val.size_eq v]
  have : x.size ≤ (v.l.map Val.size).sum := le_sum_memN (List.mem_map.2 ⟨x, h, rfl⟩)
  omega
theorem within_size : ∀ (n m : Nat) (v : Val), v.within m = true → v.size ≤ n → v.within n = true
  | 0, _, v, _, h => absurd (size_pos v) (by omega)
  | n + 1, 0, v, hw, _ => within_up 0 (n + 1) v (by omega) hw
  | n + 1, m + 1, v, hw, h => by
    rw [Val.within_s, Bool.and_eq_true, List.all_eq_true] at hw ⊢
    exact ⟨hw.1, fun x hx => within_size n m x (hw.2 x hx) (by have := size_kidV hx; omega)⟩
theorem textU_within (s : ByteArray) (n : Nat) : (textU s).within n = true := by
  refine within_up 0 n _ (by omega) ?_
  rw [Val.within_0]; simp [textU, Val.shape]
theorem textU_size (s : ByteArray) : (textU s).size = 1 := by rw [Val.size_eq]; rfl
/-- One node put around a value. -/
theorem far_around {v : Val} (hm : v.may = true) (hs : v.size ≤ 60) : (listV [v]).may = true ∧ (listV [v]).size = v.size + 1 ∧ farV v (listV [v]) = 1 := by
  have hw : v.within 255 = true := within_up 60 255 v (by omega) (within_size 60 256 v (may_in hm) hs)
  have hl : (listV [v]).may = true := listV_may.2 (by simpa using hw)
  have hz : (listV [v]).size = v.size + 1 := by rw [listV_size]; simp; omega
  refine ⟨hl, hz, Nat.le_antisymm ?_ ?_⟩
  · rw [farV, listV_fo, listF_one hw]
    have := far_ins ⟨false, ⟨#[]⟩, 7, ⟨#[]⟩⟩ v.fo .nil v.fo
    rw [Fo.app_nil, far_self] at this
    omega
  · have := (farV_low hm hl).2
    omega
/-- A text put at the end of a list. -/
theorem far_behind {l : List Val} (hm : (listV l).may = true) (s : ByteArray) : (listV (l ++ [textU s])).may = true ∧ (listV (l ++ [textU s])).size = (listV l).size + 1 ∧ farV (listV l) (listV (l ++ [textU s])) = 1 := by
  have hw := listV_may.1 hm
  have hl : (listV (l ++ [textU s])).may = true := listV_may.2 fun x hx => by
    rcases List.mem_append.1 hx with h | h
    · exact hw x h
    · rw [show x = textU s by simpa using h]; exact textU_within _ _
  have hz : (listV (l ++ [textU s])).size = (listV l).size + 1 := by rw [listV_size, listV_size]; simp [textU_size]; omega
  have e := (far_more_one (l1 := l) (a := textU s) (l2 := []) hl).2
  rw [List.append_nil, textU_size, farV_symm] at e
  exact ⟨hl, hz, e⟩
theorem shape_le8 {v : Val} (h : v.shape = true) : v.k ≤ 8 := by
  unfold Val.shape at h
  repeat' split at h
  all_goals first | omega | (simp at h)
/-- One scalar for another one. -/
theorem far_scalar {l1 l2 : List Val} {c : Val} {s : ByteArray} (hm : (listV (l1 ++ c :: l2)).may = true) (h7 : c.k ≠ 7) (h8 : c.k ≠ 8) (hn : sameV c (textU s) = false) :
    (listV (l1 ++ textU s :: l2)).may = true ∧ (listV (l1 ++ textU s :: l2)).size = (listV (l1 ++ c :: l2)).size ∧ farV (listV (l1 ++ c :: l2)) (listV (l1 ++ textU s :: l2)) = 1 := by
  have hw := listV_may.1 hm
  have hc : c.within 255 = true := hw c (by simp)
  have hcm : c.may = true := by rw [← Val.may_eq]; exact within_up 255 256 c (by omega) hc
  have hsm : (textU s).may = true := by rw [← Val.may_eq]; exact textU_within s 256
  have hsh := (within_parts (n := 254) hc).1
  have hlf : c.l = [] := (shape_leaf2 hsh (by
    have := shape_le8 hsh
    omega)).1
  have hcs : c.size = 1 := by rw [Val.size_eq, hlf]; rfl
  have hx : (listV (l1 ++ textU s :: l2)).may = true := listV_may.2 fun x hx => by
    rcases List.mem_append.1 hx with h | h
    · exact hw x (by simp [h])
    · rcases List.mem_cons.1 h with h | h
      · rw [h]; exact textU_within _ _
      · exact hw x (by simp [h])
  refine ⟨hx, by rw [listV_size, listV_size]; simp [textU_size, hcs], Nat.le_antisymm ?_ ?_⟩
  · have h1 := far_swap (l1 := l1) (l2 := l2) hc (textU_within s 255)
    have h2 := farV_lt hcm hsm
    rw [hcs, textU_size] at h2
    omega
  · refine Nat.pos_of_ne_zero fun e => ?_
    have hf := far_eq.1 e
    rw [listV_fo, listV_fo] at hf
    injection hf with _ hf _
    have hin : ∀ l : List Val, (∀ x ∈ l, x.within 255 = true) → ∀ p ∈ l.map elP, p.v.within 255 = true := fun l h p hp => by
      obtain ⟨x, hx, rfl⟩ := List.mem_map.1 hp
      exact h x hx
    have hj := fF_inj 255 _ _ (hin _ hw) (hin _ (listV_may.1 hx)) hf
    simp only [List.map_append, List.map_cons, List.map_map] at hj
    have hk := (List.append_inj hj rfl).2
    injection hk with hk _
    injection hk with hk _
    simp only [Plc.lab, elP, Lab.mk.injEq, true_and, textU] at hk
    have hks : c.ks = [] := shape_keys hsh h8
    have hcc : c = textU s := by
      obtain ⟨k, t, l, ks⟩ := c
      simp only at hk hlf hks
      rw [hk.1, hk.2, hlf, hks]; rfl
    have hc0 : cmpV 256 c (textU s) = 0 := (cmpV_zero 256 c _ (may_in hcm) (may_in hsm)).2 (by rw [hcc])
    simp [sameV, hcm, hsm, hc0] at hn
end Go.Proofs.Ytmhkacafilpliaa
