/-
  Two values' postorders as two rows of nodes, and in which order the table of trees is filled. No program.
  What the distance tells of lists: the plain laws of EditsBound and EditsOne. No program.
-/
import Derived.Test.YtmhkacafilpliaaGreatEB
import Derived.Test.YtmhkacafilpliaaGreatJH
namespace Go.Proofs.YtmhkacafilpliaaGreat

def labAt (L : List Lab) (i : Nat) : Lab := (L[i]?).getD ⟨false, ⟨#[]⟩, 0, ⟨#[]⟩⟩
def numAt (F : List Nat) (i : Nat) : Nat := (F[i]?).getD 0
theorem labAt_some {L : List Lab} {i : Nat} {x : Lab} (h : L[i]? = some x) : labAt L i = x := by rw [labAt, h]; rfl
theorem numAt_some {F : List Nat} {i l : Nat} (h : F[i]? = some l) : numAt F i = l := by rw [numAt, h]; rfl
theorem lab_get {L : List Lab} {i : Nat} (h : i < L.length) : L[i]? = some (labAt L i) := by rw [labAt, List.getElem?_eq_getElem h]; rfl
theorem num_get {F : List Nat} {i : Nat} (h : i < F.length) : F[i]? = some (numAt F i) := by rw [numAt, List.getElem?_eq_getElem h]; rfl
theorem lefts_labs (v : Val) : v.lefts.length = v.labs.length := by rw [Val.lefts_eq, Val.labs_eq]; exact left_len _ _ _
theorem lam_of {v : Val} (h : v.may = true) : Lam (numAt v.lefts) v.labs.length := by
  rw [Val.lefts_eq, Val.labs_eq]
  exact lam_val 256 ⟨false, ⟨#[]⟩, v⟩ (may_in h) fun i hi => num_get (by rw [left_len]; exact hi)
/-- Two values' postorders. -/
def twoV (a b : Val) (ha : a.may = true) (hb : b.may = true) : Two := ⟨labAt a.labs, numAt a.lefts, a.labs.length, labAt b.labs, numAt b.lefts, b.labs.length, lam_of ha, lam_of hb⟩
theorem fo_of (v : Val) : fo (labAt v.labs) (numAt v.lefts) 0 v.labs.length = v.fo := by
  rw [Val.lefts_eq, Val.labs_eq]
  exact fo_val 257 ⟨false, ⟨#[]⟩, v⟩ (fun _ hi => lab_get hi) (fun _ hi => num_get (by rw [left_len]; exact hi))
theorem twoV_far {a b : Val} (ha : a.may = true) (hb : b.may = true) : (twoV a b ha hb).far 0 a.labs.length 0 b.labs.length = farV a b := by
  show far (fo (labAt a.labs) (numAt a.lefts) 0 a.labs.length) (fo (labAt b.labs) (numAt b.lefts) 0 b.labs.length) = _
  rw [fo_of, fo_of]; rfl
theorem labs_size {v : Val} (h : v.may = true) : v.labs.length = v.size := by rw [Val.labs_eq]; exact post_size 256 _ (may_in h)
theorem labs_pos (v : Val) : 0 < v.labs.length := by rw [Val.labs_eq]; exact post_pos _ _
theorem lefts_top (v : Val) : numAt v.lefts (v.labs.length - 1) = 0 := by rw [Val.lefts_eq, Val.labs_eq]; exact numAt_some (leftF_last 256 0 ⟨false, ⟨#[]⟩, v⟩)

/-- A node below a root: of the root's own row, or of a row whose root stands ahead. -/
theorem root_ahead {F : List Nat} (hL : Lam (numAt F) F.length) {done rest : List Nat} {x i : Nat} (hR : rootsL F = done ++ x :: rest) (h1 : numAt F x ≤ i) (h2 : i ≤ x) :
    numAt F i = numAt F x ∨ ∃ r ∈ done, numAt F r = numAt F i := by
  have hx : x ∈ rootsL F := by rw [hR]; simp
  have hxn := (roots_mem.1 hx).1
  by_cases he : numAt F i = numAt F x
  · exact .inl he
  · have hge := hL.inn x hxn i h1 h2
    obtain ⟨r, hr1, hr2, hr3⟩ := root_up (L := F) (l := numAt F i) (n := F.length - i) (Nat.le_refl _) (num_get (by omega))
    have hrn := (roots_mem.1 hr2).1
    have hr4 := numAt_some hr3
    have hlt : r < x := by
      rcases Nat.lt_trichotomy r x with h | h | h
      · exact h
      · subst h; exact absurd hr4.symm he
      · have := hL.inn r hrn x (by have := hL.le i (by omega); omega) (by omega)
        omega
    refine .inr ⟨r, ?_, hr4⟩
    have hs := roots_rise F
    rw [hR] at hs hr2
    rcases List.mem_append.1 hr2 with h | h
    · exact h
    · rcases List.mem_cons.1 h with h | h
      · omega
      · have := (List.pairwise_cons.1 (List.pairwise_append.1 hs).2.1).1 r h
        omega
theorem root_any {F : List Nat} {i : Nat} (h : i < F.length) : ∃ r ∈ rootsL F, numAt F r = numAt F i := by
  obtain ⟨r, _, hr2, hr3⟩ := root_up (L := F) (l := numAt F i) (n := F.length - i) (Nat.le_refl _) (num_get h)
  exact ⟨r, hr2, numAt_some hr3⟩
theorem root_top {F : List Nat} {x i : Nat} (hx : x ∈ rootsL F) (hi : i < F.length) (h : numAt F i = numAt F x) : i ≤ x := by
  have h1 := roots_mem.1 hx
  have h2 := (isRoot_iff (num_get h1.1)).1 h1.2 i
  have := num_get hi
  rw [h] at this
  exact Nat.le_of_not_lt fun hlt => h2 hlt this
end Go.Proofs.YtmhkacafilpliaaGreat

namespace Go.Proofs.YtmhkacafilpliaaGreat

/-- An element of a list, where it lies; a list of elements; a text. -/
def elP (x : Val) : Plc := ⟨false, ⟨#[]⟩, x⟩
def listV (l : List Val) : Val := ⟨7, ⟨#[]⟩, l, []⟩
def textU (s : ByteArray) : Val := ⟨3, s, [], []⟩
theorem listV_subs (l : List Val) : (listV l).subs = l.map elP := by
  show (if (7 : Int) = 8 then _ else _) = _
  rw [if_neg (by decide)]; rfl
theorem listV_shape (l : List Val) : (listV l).shape = true := by simp [listV, Val.shape]
theorem listV_within {n : Nat} {l : List Val} : (listV l).within (n + 1) = true ↔ ∀ x ∈ l, x.within n = true := by
  rw [Val.within_s, listV_shape]
  simp [listV, List.all_eq_true]
theorem listV_may {l : List Val} : (listV l).may = true ↔ ∀ x ∈ l, x.within 255 = true := by
  rw [← Val.may_eq]
  exact listV_within (n := 255)
theorem listV_size (l : List Val) : (listV l).size = 1 + (l.map Val.size).sum := by rw [Val.size_eq]; rfl
/-- What a list is made of. -/
def listF (l : List Val) : Fo := fF 256 (l.map elP)
theorem listV_fo (l : List Val) : (listV l).fo = .cons ⟨false, ⟨#[]⟩, 7, ⟨#[]⟩⟩ (listF l) .nil := by
  show fF (256 + 1) [⟨false, ⟨#[]⟩, listV l⟩] = _
  rw [fF_one, listV_subs]; rfl
theorem listF_app (l m : List Val) : listF (l ++ m) = (listF m).app (listF l) := by rw [listF, List.map_append, fF_app]; rfl
theorem listF_one {x : Val} (h : x.within 255 = true) : listF [x] = x.fo := by
  show fF (255 + 1) [elP x] = fF (256 + 1) [elP x]
  exact (fF_fuel 255 256 [elP x] (by omega) (by simpa [elP] using h)).symm
theorem far_lists (l m : List Val) : farV (listV l) (listV m) ≤ far (listF l) (listF m) := by
  rw [farV, listV_fo, listV_fo]
  have := far_put ⟨false, ⟨#[]⟩, 7, ⟨#[]⟩⟩ (listF l) .nil ⟨false, ⟨#[]⟩, 7, ⟨#[]⟩⟩ (listF m) .nil
  rw [far_self, rel_self] at this
  omega
/-- Lists that are alike but for one element. -/
theorem far_swap {l1 l2 : List Val} {a b : Val} (ha : a.within 255 = true) (hb : b.within 255 = true) : farV (listV (l1 ++ a :: l2)) (listV (l1 ++ b :: l2)) ≤ farV a b := by
  refine Nat.le_trans (far_lists _ _) ?_
  rw [show l1 ++ a :: l2 = (l1 ++ [a]) ++ l2 by simp, show l1 ++ b :: l2 = (l1 ++ [b]) ++ l2 by simp, listF_app, listF_app (l1 ++ [b]), listF_app l1, listF_app l1, listF_one ha, listF_one hb]
  have h1 := far_app (listF l2) (listF l2) (a.fo.app (listF l1)) (b.fo.app (listF l1))
  have h2 := far_app a.fo b.fo (listF l1) (listF l1)
  rw [far_self] at h1 h2
  show _ ≤ far a.fo b.fo
  omega
/-- With an element more. -/
theorem far_more_one {l1 l2 : List Val} {a : Val} (h : (listV (l1 ++ a :: l2)).may = true) : (listV (l1 ++ l2)).may = true ∧ farV (listV (l1 ++ a :: l2)) (listV (l1 ++ l2)) = a.size := by
  have hm := listV_may.1 h
  have ha : a.within 255 = true := hm a (by simp)
  have hma : a.may = true := by rw [← Val.may_eq]; exact within_up 255 256 a (by omega) ha
  have hz : (listV (l1 ++ l2)).may = true := listV_may.2 fun x hx => hm x (by
    rcases List.mem_append.1 hx with h | h
    · simp [h]
    · simp [h])
  refine ⟨hz, Nat.le_antisymm ?_ ?_⟩
  · refine Nat.le_trans (far_lists _ _) ?_
    rw [show l1 ++ a :: l2 = (l1 ++ [a]) ++ l2 by simp, listF_app, listF_app l1, listF_app l1, listF_one ha]
    have h1 := far_app (listF l2) (listF l2) (a.fo.app (listF l1)) (Fo.nil.app (listF l1))
    have h2 := far_app a.fo .nil (listF l1) (listF l1)
    rw [far_self] at h1 h2
    rw [far_nil', Val.fo_size hma] at h2
    have : Fo.nil.app (listF l1) = listF l1 := rfl
    rw [this] at h1 h2
    omega
  · have := (farV_low h hz).1
    rw [listV_size, listV_size] at this
    simp only [List.map_append, List.map_cons, List.sum_append, List.sum_cons] at this
    omega
/-- Not deeper than big. -/
theorem size_pos (v : Val) : 0 < v.size := by rw [Val.size_eq]; omega
theorem le_sum_memN : ∀ {l : List Nat} {n : Nat}, n ∈ l → n ≤ l.sum
  | a :: l, n, h => by
    rw [List.sum_cons]
    rcases List.mem_cons.1 h with h | h
    · omega
    · have := le_sum_memN h; omega
theorem size_kidV {v x : Val} (h : x ∈ v.l) : x.size < v.size := by
  rw [Val.size_eq v]
  have : x.size ≤ (v.l.map Val.size).sum := le_sum_memN (List.mem_map.2 ⟨x, h, rfl⟩)
  omega
theorem within_size : ∀ (n m : Nat) (v : Val), v.within m = true → v.size ≤ n → v.within n = true
  | 0, _, v, _, h => absurd (size_pos v) (by omega)
  | n + 1, 0, v, hw, _ => within_up 0 (n + 1) v (by omega) hw
  | n + 1, m + 1, v, hw, h => by
    rw [Val.within_s, Bool.and_eq_true, List.all_eq_true] at hw ⊢
    exact ⟨hw.1, fun x hx => within_size n m x (hw.2 x hx) (by have := size_kidV hx; omega)⟩
theorem textU_within (s : ByteArray) (n : Nat) : (textU s).within n = true := by
  refine within_up 0 n _ (by omega) ?_
  rw [Val.within_0]; simp [textU, Val.shape]
theorem textU_size (s : ByteArray) : (textU s).size = 1 := by rw [Val.size_eq]; rfl
/-- One node put around a value. -/
theorem far_around {v : Val} (hm : v.may = true) (hs : v.size ≤ 60) : (listV [v]).may = true ∧ (listV [v]).size = v.size + 1 ∧ farV v (listV [v]) = 1 := by
  have hw : v.within 255 = true := within_up 60 255 v (by omega) (within_size 60 256 v (may_in hm) hs)
  have hl : (listV [v]).may = true := listV_may.2 (by simpa using hw)
  have hz : (listV [v]).size = v.size + 1 := by rw [listV_size]; simp; omega
  refine ⟨hl, hz, Nat.le_antisymm ?_ ?_⟩
  · rw [farV, listV_fo, listF_one hw]
    have := far_ins ⟨false, ⟨#[]⟩, 7, ⟨#[]⟩⟩ v.fo .nil v.fo
    rw [Fo.app_nil, far_self] at this
    omega
  · have := (farV_low hm hl).2
    omega
/-- A text put at the end of a list. -/
theorem far_behind {l : List Val} (hm : (listV l).may = true) (s : ByteArray) : (listV (l ++ [textU s])).may = true ∧ (listV (l ++ [textU s])).size = (listV l).size + 1 ∧ farV (listV l) (listV (l ++ [textU s])) = 1 := by
  have hw := listV_may.1 hm
  have hl : (listV (l ++ [textU s])).may = true := listV_may.2 fun x hx => by
    rcases List.mem_append.1 hx with h | h
    · exact hw x h
    · rw [show x = textU s by simpa using h]; exact textU_within _ _
  have hz : (listV (l ++ [textU s])).size = (listV l).size + 1 := by rw [listV_size, listV_size]; simp [textU_size]; omega
  have e := (far_more_one (l1 := l) (a := textU s) (l2 := []) hl).2
  rw [List.append_nil, textU_size, farV_symm] at e
  exact ⟨hl, hz, e⟩
theorem shape_le8 {v : Val} (h : v.shape = true) : v.k ≤ 8 := by
  unfold Val.shape at h
  repeat' split at h
  all_goals first | omega | (simp at h)
/-- One scalar for another one. -/
theorem far_scalar {l1 l2 : List Val} {c : Val} {s : ByteArray} (hm : (listV (l1 ++ c :: l2)).may = true) (h7 : c.k ≠ 7) (h8 : c.k ≠ 8) (hn : sameV c (textU s) = false) :
    (listV (l1 ++ textU s :: l2)).may = true ∧ (listV (l1 ++ textU s :: l2)).size = (listV (l1 ++ c :: l2)).size ∧ farV (listV (l1 ++ c :: l2)) (listV (l1 ++ textU s :: l2)) = 1 := by
  have hw := listV_may.1 hm
  have hc : c.within 255 = true := hw c (by simp)
  have hcm : c.may = true := by rw [← Val.may_eq]; exact within_up 255 256 c (by omega) hc
  have hsm : (textU s).may = true := by rw [← Val.may_eq]; exact textU_within s 256
  have hsh := (within_parts (n := 254) hc).1
  have hlf : c.l = [] := (shape_leaf2 hsh (by
    have := shape_le8 hsh
    omega)).1
  have hcs : c.size = 1 := by rw [Val.size_eq, hlf]; rfl
  have hx : (listV (l1 ++ textU s :: l2)).may = true := listV_may.2 fun x hx => by
    rcases List.mem_append.1 hx with h | h
    · exact hw x (by simp [h])
    · rcases List.mem_cons.1 h with h | h
      · rw [h]; exact textU_within _ _
      · exact hw x (by simp [h])
  refine ⟨hx, by rw [listV_size, listV_size]; simp [textU_size, hcs], Nat.le_antisymm ?_ ?_⟩
  · have h1 := far_swap (l1 := l1) (l2 := l2) hc (textU_within s 255)
    have h2 := farV_lt hcm hsm
    rw [hcs, textU_size] at h2
    omega
  · refine Nat.pos_of_ne_zero fun e => ?_
    have hf := far_eq.1 e
    rw [listV_fo, listV_fo] at hf
    injection hf with _ hf _
    have hin : ∀ l : List Val, (∀ x ∈ l, x.within 255 = true) → ∀ p ∈ l.map elP, p.v.within 255 = true := fun l h p hp => by
      obtain ⟨x, hx, rfl⟩ := List.mem_map.1 hp
      exact h x hx
    have hj := fF_inj 255 _ _ (hin _ hw) (hin _ (listV_may.1 hx)) hf
    simp only [List.map_append, List.map_cons, List.map_map] at hj
    have hk := (List.append_inj hj rfl).2
    injection hk with hk _
    injection hk with hk _
    simp only [Plc.lab, elP, Lab.mk.injEq, true_and, textU] at hk
    have hks : c.ks = [] := shape_keys hsh h8
    have hcc : c = textU s := by
      obtain ⟨k, t, l, ks⟩ := c
      simp only at hk hlf hks
      rw [hk.1, hk.2, hlf, hks]; rfl
    have hc0 : cmpV 256 c (textU s) = 0 := (cmpV_zero 256 c _ (may_in hcm) (may_in hsm)).2 (by rw [hcc])
    simp [sameV, hcm, hsm, hc0] at hn
end Go.Proofs.YtmhkacafilpliaaGreat
