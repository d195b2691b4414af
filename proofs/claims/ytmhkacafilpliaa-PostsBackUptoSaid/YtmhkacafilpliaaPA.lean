/-
  A postorder read back, plain: each node's part is the postorder of a value; where a node's parts have their roots. No program.
-/
import Derived.Test.YtmhkacafilpliaaJH
import Derived.Test.YtmhkacafilpliaaO5
namespace Go.Proofs.Ytmhkacafilpliaa

theorem post_fuel : ∀ (n : Nat) (e : Plc), e.v.within n = true → postF (n + 2) e = postF (n + 1) e
  | 0, e, h => by rw [postF_succ (0 + 1), postF_succ 0, subs_leaf h]; rfl
  | n + 1, e, h => by
    rw [postF_succ (n + 1 + 1), postF_succ (n + 1), flat_same fun x hx => post_fuel n x (subs_in h x hx)]
theorem left_fuel : ∀ (n fr : Nat) (e : Plc), e.v.within n = true → leftF (n + 2) fr e = leftF (n + 1) fr e
  | 0, fr, e, h => by rw [leftF_succ (0 + 1), leftF_succ 0, subs_leaf h]; rfl
  | n + 1, fr, e, h => by
    rw [leftF_succ (n + 1 + 1), leftF_succ (n + 1)]
    have key : ∀ (xs : List Plc), (∀ x ∈ xs, x.v.within n = true) → ∀ L, leftsF (n + 1 + 1) fr L xs = leftsF (n + 1) fr L xs := by
      intro xs
      induction xs with
      | nil => intro _ L; rfl
      | cons x xs ih =>
        intro hx L
        rw [leftsF_cons, leftsF_cons, left_fuel n _ x (hx x List.mem_cons_self)]
        exact ih (fun y hy => hx y (List.mem_cons_of_mem _ hy)) _
    rw [key _ (subs_in h)]
theorem within_add (n : Nat) (v : Val) (h : v.within n = true) : ∀ d, v.within (n + d) = true
  | 0 => h
  | d + 1 => within_more _ _ (within_add n v h d)
theorem post_up (n : Nat) (e : Plc) (h : e.v.within n = true) : ∀ d, postF (n + d + 1) e = postF (n + 1) e
  | 0 => rfl
  | d + 1 => (post_fuel (n + d) e (within_add n e.v h d)).trans (post_up n e h d)
theorem left_up (n fr : Nat) (e : Plc) (h : e.v.within n = true) : ∀ d, leftF (n + d + 1) fr e = leftF (n + 1) fr e
  | 0 => rfl
  | d + 1 => (left_fuel (n + d) fr e (within_add n e.v h d)).trans (left_up n fr e h d)
/-- Where a value lies counts in its own label alone. -/
theorem left_any (n fr : Nat) (e : Plc) (kd : Bool) (key : ByteArray) : leftF n fr ⟨kd, key, e.v⟩ = leftF n fr e := by
  cases n with
  | zero => rfl
  | succ n => rfl
theorem val_w_pos (v : Val) : 1 ≤ v.w := by rw [Val.w_eq]; omega
theorem size_pos (v : Val) : 1 ≤ v.size := by rw [Val.size]; omega
theorem subs_w {v : Val} (hs : v.shape = true) {x : Plc} (hx : x ∈ v.subs) : x.v.w ≤ v.w := by
  have hm : x.v ∈ v.l := (subs_perm hs).subset (List.mem_map_of_mem hx)
  have := le_sum Val.w hm
  rw [Val.w_eq v]
  omega

/-- Where the part of a number begins, of parts from a place on. -/
def stt (fr : Nat) (xs : List Plc) (j : Nat) : Nat := fr + ((xs.take j).map fun x => x.v.size).sum
theorem stt_zero (fr : Nat) (xs : List Plc) : stt fr xs 0 = fr := rfl
theorem stt_succ {fr : Nat} {xs : List Plc} {j : Nat} {x : Plc} (h : xs[j]? = some x) : stt fr xs (j + 1) = stt fr xs j + x.v.size := by
  rw [stt, stt, List.take_add_one, h, List.map_append, List.sum_append]
  simp
  omega
theorem stt_le {fr : Nat} {xs : List Plc} : ∀ {j : Nat}, j ≤ xs.length → fr + j ≤ stt fr xs j
  | 0, _ => Nat.le_refl _
  | j + 1, h => by
    have hx : xs[j]? = some xs[j] := List.getElem?_eq_getElem (by omega)
    rw [stt_succ hx]
    have := stt_le (fr := fr) (xs := xs) (j := j) (by omega)
    have := size_pos (xs[j]).v
    omega
/-- The parts' roots. -/
def rts (fr : Nat) (xs : List Plc) : List Nat := (List.range xs.length).map fun j => stt fr xs (j + 1) - 1
theorem rts_len (fr : Nat) (xs : List Plc) : (rts fr xs).length = xs.length := by simp [rts]
theorem rts_at {fr : Nat} {xs : List Plc} {j : Nat} (h : j < xs.length) : (rts fr xs)[j]? = some (stt fr xs (j + 1) - 1) := by
  rw [rts, List.getElem?_map, List.getElem?_range h]; rfl
/-- .. from the last one down. -/
def rowD (fr : Nat) (xs : List Plc) (j : Nat) : List Nat := ((rts fr xs).drop j).reverse
theorem rowD_len (fr : Nat) (xs : List Plc) (j : Nat) : (rowD fr xs j).length = xs.length - j := by
  rw [rowD, List.length_reverse, List.length_drop, rts_len]
theorem rowD_all (fr : Nat) (xs : List Plc) : rowD fr xs xs.length = [] := by
  apply List.eq_nil_of_length_eq_zero
  rw [rowD_len]; omega
theorem rowD_step {fr : Nat} {xs : List Plc} {j : Nat} (h : j < xs.length) : rowD fr xs j = rowD fr xs (j + 1) ++ [stt fr xs (j + 1) - 1] := by
  have hr := rts_at (fr := fr) h
  have hl : j < (rts fr xs).length := by rw [rts_len]; exact h
  rw [rowD, rowD, List.drop_eq_getElem_cons hl, List.reverse_cons]
  rw [List.getElem?_eq_getElem hl] at hr
  injection hr with hr
  rw [hr]
theorem rowD_at {fr : Nat} {xs : List Plc} {j : Nat} (h : j < xs.length) : (rowD fr xs 0)[xs.length - 1 - j]? = some (stt fr xs (j + 1) - 1) := by
  rw [rowD, List.drop_zero, List.getElem?_reverse (by rw [rts_len]; omega), rts_len, show xs.length - 1 - (xs.length - 1 - j) = j by omega]
  exact rts_at h
theorem flat_size {n : Nat} : ∀ {xs : List Plc}, (∀ x ∈ xs, x.v.within n = true) → (xs.flatMap (postF (n + 1))).length = (xs.map fun x => x.v.size).sum
  | [], _ => rfl
  | x :: xs, h => by
    rw [List.flatMap_cons, List.length_append, flat_size fun y hy => h y (List.mem_cons_of_mem _ hy), post_size n x (h x List.mem_cons_self)]
    simp
theorem size_subs {v : Val} (hs : v.shape = true) : v.size = stt 0 v.subs v.subs.length + 1 := by
  rw [Val.size, stt, List.take_length]
  have e1 : (v.subs.map fun x => x.v.size) = (v.subs.map (·.v)).map Val.size := by rw [List.map_map]; rfl
  rw [e1, ((subs_perm hs).map Val.size).sum_nat]
  omega
theorem stt_from (fr : Nat) (xs : List Plc) (j : Nat) : stt fr xs j = fr + stt 0 xs j := by rw [stt, stt, Nat.zero_add]

/-- A node's part of a postorder is the postorder of a value. -/
def Seg (L : List Lab) (F : List Nat) (m : Nat) (x : Plc) (i : Nat) : Prop :=
  x.v.within m = true ∧ ∃ A B A' B', L = A ++ postF (m + 1) x ++ B ∧ A.length + x.v.size = i + 1 ∧ F = A' ++ leftF (m + 1) A.length x ++ B' ∧ A'.length = A.length
theorem seg_top {n : Nat} {e : Plc} (h : e.v.within n = true) : Seg (postF (n + 1) e) (leftF (n + 1) 0 e) n e (e.v.size - 1) :=
  ⟨h, [], [], [], [], by simp, by have := size_pos e.v; simp; omega, by simp, rfl⟩
section
variable {L : List Lab} {F : List Nat} {m i : Nat} {x : Plc}
theorem Seg.start (h : Seg L F m x i) : i + 1 - x.v.size + x.v.size = i + 1 := by
  obtain ⟨-, A, -, -, -, -, h2, -⟩ := h
  omega
theorem Seg.lab (h : Seg L F m x i) : L[i]? = some ⟨x.kd, x.key, x.v.k, x.v.t⟩ := by
  obtain ⟨hw, A, B, A', B', h1, h2, h3, h4⟩ := h
  have hs := post_size m x hw
  have hp := size_pos x.v
  rw [h1, List.append_assoc, List.getElem?_append_right (by omega), List.getElem?_append_left (by omega)]
  have := post_last m x
  rw [hs] at this
  rwa [show i - A.length = x.v.size - 1 by omega]
theorem Seg.left (h : Seg L F m x i) : F[i]? = some (i + 1 - x.v.size) := by
  obtain ⟨hw, A, B, A', B', h1, h2, h3, h4⟩ := h
  have hs := post_size m x hw
  have hl := left_len (m + 1) A.length x
  have hp := size_pos x.v
  rw [h3, List.append_assoc, List.getElem?_append_right (by omega), List.getElem?_append_left (by omega)]
  have := leftF_last m A.length x
  rw [hs] at this
  rw [show i - A'.length = x.v.size - 1 by omega, this]
  congr 1
  omega
theorem Seg.shape (h : Seg L F m x i) : x.v.shape = true := by
  cases m with
  | zero => have := h.1; rw [Val.within_0, Bool.and_eq_true] at this; exact this.1
  | succ m => exact (within_parts h.1).1
/-- A part's own root. -/
theorem Seg.kid (h : Seg L F m x i) {j : Nat} {y : Plc} (hj : x.v.subs[j]? = some y) : ∃ n, m = n + 1 ∧ Seg L F n y (stt (i + 1 - x.v.size) x.v.subs (j + 1) - 1) := by
  cases m with
  | zero =>
    rw [subs_leaf h.1] at hj
    simp at hj
  | succ m =>
    refine ⟨m, rfl, ?_⟩
    have hin := subs_in h.1
    have hy := hin y (List.mem_of_getElem? hj)
    have hjl := (List.getElem?_eq_some_iff.1 hj).1
    obtain ⟨hw, A, B, A', B', h1, h2, h3, h4⟩ := h
    have e : x.v.subs = x.v.subs.take j ++ y :: x.v.subs.drop (j + 1) := by
      have := (List.getElem?_eq_some_iff.1 hj).2
      rw [← this, ← List.drop_eq_getElem_cons hjl, List.take_append_drop]
    have hS := flat_size (n := m) (xs := x.v.subs.take j) fun z hz => hin z (List.mem_of_mem_take hz)
    have hl1 := leftsF_len (m + 1) A.length (x.v.subs.take j) []
    rw [List.length_nil, Nat.zero_add] at hl1
    obtain ⟨M, hM⟩ := leftsF_pre (m + 1) A.length (x.v.subs.drop (j + 1)) (leftsF (m + 1) A.length [] (x.v.subs.take j) ++ leftF (m + 1) (A.length + (leftsF (m + 1) A.length [] (x.v.subs.take j)).length) y)
    have hyp := size_pos y.v
    refine ⟨hy, A ++ (x.v.subs.take j).flatMap (postF (m + 1)), (x.v.subs.drop (j + 1)).flatMap (postF (m + 1)) ++ [⟨x.kd, x.key, x.v.k, x.v.t⟩] ++ B, A' ++ leftsF (m + 1) A.length [] (x.v.subs.take j), M ++ [A.length] ++ B', ?_, ?_, ?_, ?_⟩
    · rw [h1, postF_succ (m + 1)]
      conv => lhs; rw [e, List.flatMap_append, List.flatMap_cons]
      simp only [List.append_assoc]
    · rw [List.length_append, hS, stt_succ hj, stt]
      omega
    · rw [h3, leftF_succ (m + 1)]
      conv => lhs; rw [e, leftsF_app, leftsF_cons, hM, hl1]
      rw [List.length_append]
      simp only [List.append_assoc]
    · rw [List.length_append, List.length_append, hl1, h4]
end
/-- .. each node's. -/
theorem seg_all {L : List Lab} {F : List Nat} : ∀ (n : Nat) (e : Plc) (k i : Nat), Seg L F n e k → k + 1 - e.v.size ≤ i → i ≤ k → ∃ m x, Seg L F m x i ∧ m ≤ n ∧ x.v.w ≤ e.v.w
  | n, e, k, i, h, h1, h2 => by
    by_cases hik : i = k
    · subst hik
      exact ⟨n, e, h, Nat.le_refl _, Nat.le_refl _⟩
    · have hs := h.shape
      have hsz := size_subs hs
      have hst := h.start
      have hsf := stt_from (k + 1 - e.v.size) e.v.subs e.v.subs.length
      have hend : stt (k + 1 - e.v.size) e.v.subs e.v.subs.length = k := by omega
      have key : ∀ j, j ≤ e.v.subs.length → i < stt (k + 1 - e.v.size) e.v.subs j → ∃ q y, e.v.subs[q]? = some y ∧ stt (k + 1 - e.v.size) e.v.subs q ≤ i ∧ i < stt (k + 1 - e.v.size) e.v.subs (q + 1) := by
        intro j
        induction j with
        | zero => intro _ hh; rw [stt_zero] at hh; omega
        | succ j ih =>
          intro hj hh
          by_cases hlt : i < stt (k + 1 - e.v.size) e.v.subs j
          · exact ih (by omega) hlt
          · exact ⟨j, _, List.getElem?_eq_getElem (by omega), by omega, hh⟩
      obtain ⟨q, y, hq, g1, g2⟩ := key e.v.subs.length (Nat.le_refl _) (by omega)
      obtain ⟨n', rfl, hk⟩ := h.kid hq
      have hsucc := stt_succ (fr := k + 1 - e.v.size) hq
      have hyp := size_pos y.v
      obtain ⟨m, x, k1, k2, k3⟩ := seg_all n' y _ i hk (by omega) (by omega)
      exact ⟨m, x, k1, by omega, Nat.le_trans k3 (subs_w hs (List.mem_of_getElem? hq))⟩
termination_by n => n
end Go.Proofs.Ytmhkacafilpliaa
