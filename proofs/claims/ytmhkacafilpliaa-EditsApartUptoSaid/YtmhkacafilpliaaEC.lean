/-
  Two values' postorders as two rows of nodes, and in which order the table of trees is filled. No program.
-/
import Derived.Test.YtmhkacafilpliaaEB
import Derived.Test.YtmhkacafilpliaaJH
namespace Go.Proofs.Ytmhkacafilpliaa

def labAt (L : List Lab) (i : Nat) : Lab := (L[i]?).getD ⟨false, ⟨#[]⟩, 0, ⟨#[]⟩⟩
def numAt (F : List Nat) (i : Nat) : Nat := (F[i]?).getD 0
theorem labAt_some {L : List Lab} {i : Nat} {x : Lab} (h : L[i]? = some x) : labAt L i = x := by rw [labAt, h]; rfl
theorem numAt_some {F : List Nat} {i l : Nat} (h : F[i]? = some l) : numAt F i = l := by rw [numAt, h]; rfl
theorem lab_get {L : List Lab} {i : Nat} (h : i < L.length) : L[i]? = some (labAt L i) := by rw [labAt, List.getElem?_eq_getElem h]; rfl
theorem num_get {F : List Nat} {i : Nat} (h : i < F.length) : F[i]? = some (numAt F i) := by rw [numAt, List.getElem?_eq_getElem h]; rfl
theorem lefts_labs (v : Val) : v.lefts.length = v.labs.length := by rw [Val.lefts_eq, Val.labs_eq]; exact left_len _ _ _
theorem lam_of {v : Val} (h : v.may = true) : Lam (numAt v.lefts) v.labs.length := by
  rw [Val.lefts_eq, Val.labs_eq]
  exact lam_val 256 ⟨false, ⟨#[]⟩, v⟩ (may_in h) fun i hi => num_get (by rw [left_len]; exact hi)
/-- Two values' postorders. -/
def twoV (a b : Val) (ha : a.may = true) (hb : b.may = true) : Two := ⟨labAt a.labs, numAt a.lefts, a.labs.length, labAt b.labs, numAt b.lefts, b.labs.length, lam_of ha, lam_of hb⟩
theorem fo_of (v : Val) : fo (labAt v.labs) (numAt v.lefts) 0 v.labs.length = v.fo := by
  rw [Val.lefts_eq, Val.labs_eq]
  exact fo_val 257 ⟨false, ⟨#[]⟩, v⟩ (fun _ hi => lab_get hi) (fun _ hi => num_get (by rw [left_len]; exact hi))
theorem twoV_far {a b : Val} (ha : a.may = true) (hb : b.may = true) : (twoV a b ha hb).far 0 a.labs.length 0 b.labs.length = farV a b := by
  show far (fo (labAt a.labs) (numAt a.lefts) 0 a.labs.length) (fo (labAt b.labs) (numAt b.lefts) 0 b.labs.length) = _
  rw [fo_of, fo_of]; rfl
theorem labs_size {v : Val} (h : v.may = true) : v.labs.length = v.size := by rw [Val.labs_eq]; exact post_size 256 _ (may_in h)
theorem labs_pos (v : Val) : 0 < v.labs.length := by rw [Val.labs_eq]; exact post_pos _ _
theorem lefts_top (v : Val) : numAt v.lefts (v.labs.length - 1) = 0 := by rw [Val.lefts_eq, Val.labs_eq]; exact numAt_some (leftF_last 256 0 ⟨false, ⟨#[]⟩, v⟩)

/-- A node below a root: of the root's own row, or of a row whose root stands ahead. -/
theorem root_ahead {F : List Nat} (hL : Lam (numAt F) F.length) {done rest : List Nat} {x i : Nat} (hR : rootsL F = done ++ x :: rest) (h1 : numAt F x ≤ i) (h2 : i ≤ x) :
    numAt F i = numAt F x ∨ ∃ r ∈ done, numAt F r = numAt F i := by
  have hx : x ∈ rootsL F := by rw [hR]; simp
  have hxn := (roots_mem.1 hx).1
  by_cases he : numAt F i = numAt F x
  · exact .inl he
  · have hge := hL.inn x hxn i h1 h2
    obtain ⟨r, hr1, hr2, hr3⟩ := root_up (L := F) (l := numAt F i) (n := F.length - i) (Nat.le_refl _) (num_get (by omega))
    have hrn := (roots_mem.1 hr2).1
    have hr4 := numAt_some hr3
    have hlt : r < x := by
      rcases Nat.lt_trichotomy r x with h | h | h
      · exact h
      · subst h; exact absurd hr4.symm he
      · have := hL.inn r hrn x (by have := hL.le i (by omega); omega) (by omega)
        omega
    refine .inr ⟨r, ?_, hr4⟩
    have hs := roots_rise F
    rw [hR] at hs hr2
    rcases List.mem_append.1 hr2 with h | h
    · exact h
    · rcases List.mem_cons.1 h with h | h
      · omega
      · have := (List.pairwise_cons.1 (List.pairwise_append.1 hs).2.1).1 r h
        omega
theorem root_any {F : List Nat} {i : Nat} (h : i < F.length) : ∃ r ∈ rootsL F, numAt F r = numAt F i := by
  obtain ⟨r, _, hr2, hr3⟩ := root_up (L := F) (l := numAt F i) (n := F.length - i) (Nat.le_refl _) (num_get h)
  exact ⟨r, hr2, numAt_some hr3⟩
theorem root_top {F : List Nat} {x i : Nat} (hx : x ∈ rootsL F) (hi : i < F.length) (h : numAt F i = numAt F x) : i ≤ x := by
  have h1 := roots_mem.1 hx
  have h2 := (isRoot_iff (num_get h1.1)).1 h1.2 i
  have := num_get hi
  rw [h] at this
  exact Nat.le_of_not_lt fun hlt => h2 hlt this
end Go.Proofs.Ytmhkacafilpliaa
