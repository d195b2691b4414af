/-
  values.own: a value in new memory. Conditions: the tree lies in memory, its weight is bounded.
  values.own: a value in new memory. Conditions: the tree lies in memory, its weight is bounded.
-/
import Derived.Test.YtmhkacafilpliaaGreatVN
namespace Go.Proofs.YtmhkacafilpliaaGreat
open Go.RowKit Go.Sort

/-- A row of values at the head of a block. -/
def RowV (w : World) (B : Nat) (l : List AV) : Prop := w.heap[B]? = some (.cells (l.flatMap AV.enc).toArray 26 (0, 0))
theorem flat_set (l : List AV) (m : Nat) (z : AV) (hm : m < l.length) : (((((l.flatMap AV.enc).set (m * 4) (.int .u8 z.k)).set (m * 4 + 1) (.string z.t)).set (m * 4 + 2) (.slice z.la z.l.length z.lc)).set (m * 4 + 3) (.slice z.ka z.ks.length z.kc)) = (l.set m z).flatMap AV.enc := by
  induction l generalizing m with
  | nil => simp at hm
  | cons y l ih =>
    have e : ∀ (a : AV) (r : List AV), (a :: r).flatMap AV.enc = .int .u8 a.k :: .string a.t :: .slice a.la a.l.length a.lc :: .slice a.ka a.ks.length a.kc :: r.flatMap AV.enc := fun a r => rfl
    cases m with
    | zero => rw [List.set_cons_zero, e, e]; rfl
    | succ m =>
      have := ih m (by simpa using hm)
      have e2 : (y :: l).set (m + 1) z = y :: l.set m z := rfl
      rw [e2, e, e, ← this, show (m + 1) * 4 = m * 4 + 1 + 1 + 1 + 1 from by omega]
      simp only [List.set_cons_succ]
theorem RowV.put {w : World} {B m : Nat} {l : List AV} (h : RowV w B l) (hm : m < l.length) (z : AV) :
    RowV (put4 w B (m * 4) (.int .u8 z.k) (.string z.t) (.slice z.la z.l.length z.lc) (.slice z.ka z.ks.length z.kc)) B (l.set m z) := by
  unfold put4 RowV
  rw [set_blk (set_blk (set_blk (set_blk h _ _) _ _) _ _) _ _, ← flat_set l m z hm]
  simp
theorem RowV.sl {w : World} {B : Nat} {l : List AV} (h : RowV w B l) : SlE AV.enc 4 w B (B + 1) (some ⟨B, 0, none⟩) l := lit_sl AV.enc_len h
theorem RowV.below {w w' : World} {B : Nat} {l : List AV} (h : RowV w B l) (hb : Below w.heap.size w w') : RowV w' B l := by
  refine (hb.block B ?_).trans h
  rcases Nat.lt_or_ge B w.heap.size with h1 | h1
  · exact h1
  · unfold RowV at h; rw [Array.getElem?_eq_none h1] at h; cases h
theorem RowV.cell {w : World} {B : Nat} {l : List AV} (h : RowV w B l) {m : Nat} (hm : m < l.length) {j : Nat} (hj : j < 4) : (∃ u, w.cell? ⟨B, m * 4 + j, none⟩ = some u) ∧ w.frozen? ⟨B, m * 4 + j, none⟩ = false := by
  have hl := flat_len (l := l) AV.enc_len
  unfold RowV at h
  constructor
  · simp only [World.cell?, h]
    exact ⟨(l.flatMap AV.enc)[m * 4 + j]'(by omega), by simp⟩
  · simp [World.frozen?, h]

def zAV : AV := ⟨0, ⟨#[]⟩, none, 0, [], none, 0, []⟩
def zc : List Value := [.int .u8 0, .string ⟨#[]⟩, .slice none 0 0, .slice none 0 0]
theorem zAV_enc : zAV.enc = zc := rfl
theorem zget : ∀ (n j : Nat), j < n * 4 → ((List.replicate n zAV).flatMap AV.enc)[j]? = zc[j % 4]?
  | 0, j, h => by omega
  | n + 1, j, h => by
    rw [List.replicate_succ, List.flatMap_cons, zAV_enc]
    rcases Nat.lt_or_ge j 4 with h4 | h4
    · rw [List.getElem?_append_left (by simpa [zc] using h4), Nat.mod_eq_of_lt h4]
    · rw [List.getElem?_append_right (by simpa [zc] using h4)]
      have := zget n (j - 4) (by omega)
      rw [show (zc.length) = 4 from rfl, this]
      congr 1
      omega
theorem zcells (n : Nat) : madeCells (Value.agg #[.int .u8 0, .string ⟨#[]⟩, .slice none 0 0, .slice none 0 0]).cells (n * 4) = ((List.replicate n zAV).flatMap AV.enc).toArray := by
  have hc : (Value.agg #[.int .u8 0, .string ⟨#[]⟩, .slice none 0 0, .slice none 0 0]).cells = #[.int .u8 0, .string ⟨#[]⟩, .slice none 0 0, .slice none 0 0] := by rfl
  rw [hc]
  have hl : ((List.replicate n zAV).flatMap AV.enc).length = n * 4 := by
    induction n with
    | zero => rfl
    | succ n ih => rw [List.replicate_succ, List.flatMap_cons, List.length_append, ih, show zAV.enc.length = 4 from rfl]; omega
  apply Array.ext
  · simp only [madeCells, Array.size_map, Array.size_range, List.size_toArray, hl]
  · intro j h1 h2
    have hj : j < n * 4 := by simpa [madeCells] using h1
    have := zget n j hj
    rw [List.getElem?_eq_getElem (by omega)] at this
    simp only [madeCells, Array.getElem_map, Array.getElem_range, List.getElem_toArray]
    have h4 : j % 4 < 4 := Nat.mod_lt _ (by omega)
    have e : (#[Value.int .u8 0, .string ⟨#[]⟩, .slice none 0 0, .slice none 0 0] : Array Value)[j % 4]! = zc[j % 4]'h4 := by
      match j % 4, h4 with
      | 0, _ => rfl
      | 1, _ => rfl
      | 2, _ => rfl
      | 3, _ => rfl
    rw [show (#[Value.int .u8 0, .string ⟨#[]⟩, .slice none 0 0, .slice none 0 0] : Array Value).size = 4 from rfl, e]
    rw [List.getElem?_eq_getElem h4] at this
    injection this with this
    exact this.symm

def OwnPost (v : Val) (w : World) (e : Ending) (w' : World) : Prop := ∃ y : AV, e = .returned y.val ∧ y.v = v ∧ y.In w' w.heap.size w'.heap.size ∧ Below w.heap.size w w'
end Go.Proofs.YtmhkacafilpliaaGreat

namespace Go.Proofs.YtmhkacafilpliaaGreat
open Go.RowKit Go.Sort
end Go.Proofs.YtmhkacafilpliaaGreat
