/-
  A copy whose rows are the caller's own, each in a block of its own: values.own, paths.own. inarchlaw14.Spoil of such a copy writes into these blocks alone. Conditions: the tree lies in memory, its weight is bounded.
-/
import Derived.Test.YtjihepdjcbpgoaaDoorVS
import Derived.Test.YtjihepdjcbpgoaaDoorVN
import Derived.Test.YtjihepdjcbpgoaaDoorVO
namespace Go.Proofs.YtjihepdjcbpgoaaDoor
open Go.RowKit Go.Sort

/-- A row of texts that can be written into. -/
def Wr (w : World) (lo hi : Nat) (A : Option Addr) (n : Nat) : Prop := 0 < n → ∃ k cs, A = some ⟨k, 0, none⟩ ∧ lo ≤ k ∧ k < hi ∧ w.heap[k]? = some (.cells cs 9 (0, 0)) ∧ n ≤ cs.size
theorem Wr.keep {w w' : World} {lo hi n : Nat} {A : Option Addr} (h : Wr w lo hi A n) (hk : ∀ q, lo ≤ q → q < hi → w'.heap[q]? = w.heap[q]?) : Wr w' lo hi A n := fun hn => by
  obtain ⟨k, cs, e, h1, h2, h3, h4⟩ := h hn
  exact ⟨k, cs, e, h1, h2, (hk k h1 h2).trans h3, h4⟩
theorem wr_own {w : World} {base n c : Nat} {A : Option Addr} {xs : List Value} (h : w.ownsRow base 9 1 (.slice A n c) n xs) : Wr w base w.heap.size A n := fun hn => by
  rcases h.2 with ⟨e, h0⟩ | ⟨g, cap, cur, e, g1, g2, g3, g4, g5, -⟩
  · omega
  · injection e with e1 e2 e3
    exact ⟨g, cur, e1, g1, lt_of_blk g2, g2, by omega⟩
/-- A tree of the call's own: rows with no room behind, each in a block of its own; parts behind it, one behind the other. -/
inductive AV.Mn (w : World) : Nat → Nat → AV → Prop
  | mk {lo hi : Nat} {x : AV} (f : Nat → Nat) (h0 : lo ≤ f 0) (hm : ∀ i, f i ≤ f (i + 1)) (hh : f x.l.length ≤ hi)
      (hk : 0 < x.ks.length → ∃ k cs, x.ka = some ⟨k, 0, none⟩ ∧ lo ≤ k ∧ k < f 0 ∧ w.heap[k]? = some (.cells cs 9 (0, 0)) ∧ x.ks.length ≤ cs.size)
      (hl : 0 < x.l.length → ∃ b, x.la = some ⟨b, 0, none⟩ ∧ lo ≤ b ∧ b < f 0 ∧ RowV w b x.l)
      (hkc : x.kc = x.ks.length) (hlc : x.lc = x.l.length) (hkd : 0 ≤ x.k ∧ x.k ≤ 255)
      (h : ∀ i y, x.l[i]? = some y → AV.Mn w (f i) (f (i + 1)) y) : AV.Mn w lo hi x
theorem chn_le {f : Nat → Nat} (hm : ∀ i, f i ≤ f (i + 1)) : ∀ i, f 0 ≤ f i
  | 0 => Nat.le_refl _
  | i + 1 => Nat.le_trans (chn_le hm i) (hm i)
theorem chn_mono {f : Nat → Nat} (hm : ∀ i, f i ≤ f (i + 1)) {i j : Nat} (h : i ≤ j) : f i ≤ f j := by
  induction h with
  | refl => exact Nat.le_refl _
  | step _ ih => exact Nat.le_trans ih (hm _)
theorem AV.Mn.kept {w w' : World} {lo hi : Nat} {x : AV} (h : x.Mn w lo hi) (hq : ∀ q, lo ≤ q → q < hi → w'.heap[q]? = w.heap[q]?) : x.Mn w' lo hi := by
  induction h with
  | mk f h0 hm hh hk hl hkc hlc hkd _ ih =>
    have hf := fun {i j : Nat} (h : i ≤ j) => chn_mono hm h
    refine .mk f h0 hm hh (fun hp => ?_) (fun hp => ?_) hkc hlc hkd fun i y hy => ih i y hy fun q h1 h2 => hq q (Nat.le_trans h0 (Nat.le_trans (hf (Nat.zero_le i)) h1)) (Nat.lt_of_lt_of_le h2 (Nat.le_trans (hf (Nat.succ_le_of_lt (List.getElem?_eq_some_iff.1 hy).1)) hh))
    · obtain ⟨k, cs, e, a1, a2, a3, a4⟩ := hk hp
      exact ⟨k, cs, e, a1, a2, (hq k a1 (Nat.lt_of_lt_of_le a2 (Nat.le_trans (hf (Nat.zero_le _)) hh))).trans a3, a4⟩
    · obtain ⟨b, e, a1, a2, a3⟩ := hl hp
      exact ⟨b, e, a1, a2, (hq b a1 (Nat.lt_of_lt_of_le a2 (Nat.le_trans (hf (Nat.zero_le _)) hh))).trans a3⟩
theorem AV.Mn.widen {w : World} {lo hi lo' hi' : Nat} {x : AV} (h : x.Mn w lo hi) (h1 : lo' ≤ lo) (h2 : hi ≤ hi') : x.Mn w lo' hi' := by
  cases h with
  | mk f h0 hm hh hk hl hkc hlc hkd h =>
    refine .mk f (Nat.le_trans h1 h0) hm (Nat.le_trans hh h2) (fun hp => ?_) (fun hp => ?_) hkc hlc hkd h
    · obtain ⟨k, cs, e, a1, a2⟩ := hk hp
      exact ⟨k, cs, e, Nat.le_trans h1 a1, a2⟩
    · obtain ⟨b, e, a1, a2⟩ := hl hp
      exact ⟨b, e, Nat.le_trans h1 a1, a2⟩
/-- Trees of the call's own, one behind the other. -/
def Chn (w : World) (lo hi : Nat) (l : List AV) : Prop := ∃ f : Nat → Nat, lo ≤ f 0 ∧ (∀ i, f i ≤ f (i + 1)) ∧ f l.length ≤ hi ∧ ∀ (i : Nat) (y : AV), l[i]? = some y → y.Mn w (f i) (f (i + 1))
theorem Chn.nil {w : World} {lo hi : Nat} (h : lo ≤ hi) : Chn w lo hi [] := ⟨fun _ => lo, Nat.le_refl _, fun _ => Nat.le_refl _, h, fun i y hy => by simp at hy⟩
theorem Chn.kept {w w' : World} {lo hi : Nat} {l : List AV} (h : Chn w lo hi l) (hq : ∀ q, lo ≤ q → q < hi → w'.heap[q]? = w.heap[q]?) : Chn w' lo hi l := by
  obtain ⟨f, h0, hm, hh, hc⟩ := h
  have hf := fun {i j : Nat} (h : i ≤ j) => chn_mono hm h
  exact ⟨f, h0, hm, hh, fun i y hy => (hc i y hy).kept fun q h1 h2 => hq q (Nat.le_trans h0 (Nat.le_trans (hf (Nat.zero_le i)) h1)) (Nat.lt_of_lt_of_le h2 (Nat.le_trans (hf (Nat.succ_le_of_lt (List.getElem?_eq_some_iff.1 hy).1)) hh))⟩
theorem Chn.snoc {w : World} {lo mid hi : Nat} {l : List AV} {z : AV} (h : Chn w lo mid l) (hz : z.Mn w mid hi) (hmh : mid ≤ hi) : Chn w lo hi (l ++ [z]) := by
  obtain ⟨f, h0, hm, hh, hc⟩ := h
  refine ⟨fun i => if i ≤ l.length then f i else hi, by simpa using h0, fun i => ?_, ?_, fun i y hy => ?_⟩
  · rcases Nat.lt_trichotomy i l.length with h | h | h
    · simp only [if_pos (Nat.le_of_lt h), if_pos (Nat.succ_le_of_lt h)]; exact hm i
    · subst h
      simp only [Nat.le_refl, if_true, if_neg (Nat.not_succ_le_self _)]
      omega
    · simp only [if_neg (Nat.not_le_of_lt h), if_neg (show ¬ i + 1 ≤ l.length by omega)]; exact Nat.le_refl _
  · show (if (l ++ [z]).length ≤ l.length then f (l ++ [z]).length else hi) ≤ hi
    rw [if_neg (by simp)]; exact Nat.le_refl _
  · rcases Nat.lt_or_ge i l.length with h | h
    · simp only [if_pos (Nat.le_of_lt h), if_pos (Nat.succ_le_of_lt h)]
      rw [List.getElem?_append_left h] at hy
      exact hc i y hy
    · have hi2 := (List.getElem?_eq_some_iff.1 hy).1
      simp at hi2
      obtain rfl : i = l.length := by omega
      simp only [Nat.le_refl, if_true, if_neg (Nat.not_succ_le_self _)]
      rw [List.getElem?_append_right (Nat.le_refl _), Nat.sub_self] at hy
      simp at hy
      subst hy
      exact hz.widen hh (Nat.le_refl _)
def OwnPost2 (v : Val) (w : World) (e : Ending) (w' : World) : Prop := ∃ y : AV, e = .returned y.val ∧ y.v = v ∧ y.In w' w.heap.size w'.heap.size ∧ y.Mn w' w.heap.size w'.heap.size ∧ Below w.heap.size w w'
end Go.Proofs.YtjihepdjcbpgoaaDoor
