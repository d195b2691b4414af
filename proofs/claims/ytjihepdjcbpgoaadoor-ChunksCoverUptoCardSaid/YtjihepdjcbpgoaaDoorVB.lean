/-
  quotes.letter as a plain function of bytes. Condition: the table of short escapes holds what its initialiser lays.
  quotes.Write as a plain function of bytes. Conditions: the table of short escapes holds what its initialiser lays, texts of bounded length.
-/
import Derived.Test.YtjihepdjcbpgoaaDoorBase
import Derived.Test.YtjihepdjcbpgoaaDoorProg
import Derived.Laws.Rows
import Derived.Outline
import Derived.IntWalk
import Derived.Test.YtjihepdjcbpgoaaDoorP7
import Derived.Lib.ConvBytes
import Derived.Lib.SmallJoins
import Derived.Deep.RegionHeld3
namespace Go.Proofs.YtjihepdjcbpgoaaDoor
open Go.RowKit

def letterL (c : UInt8) : UInt8 := if c = 34 then 34 else if c = 92 then 92 else if c = 8 then 98 else if c = 12 then 102 else if c = 10 then 110 else if c = 13 then 114 else if c = 9 then 116 else 0
/-- The table of short escapes. -/
def shTab : Array Value := #[.int .u8 34, .int .u8 34, .int .u8 92, .int .u8 92, .int .u8 47, .int .u8 47, .int .u8 98, .int .u8 8, .int .u8 102, .int .u8 12, .int .u8 110, .int .u8 10, .int .u8 114, .int .u8 13, .int .u8 116, .int .u8 9]
def shA (k : Nat) : Int := [34, 92, 47, 98, 102, 110, 114, 116].getD k 0
def shB (k : Nat) : Int := [34, 92, 47, 8, 12, 10, 13, 9].getD k 0
theorem letter_hit (c : UInt8) (k : Nat) (hk : k < 8) (h1 : shB k = c.toNat) (h2 : c ≠ 47) : ((letterL c).toNat : Int) = shA k := by
  have hc : ∀ n : Nat, n < 256 → c.toNat = n → c = UInt8.ofNat n := fun n _ h => by rw [← h]; simp
  match k, hk with
  | 0, _ => rw [hc 34 (by decide) (by simp [shB] at h1; omega)]; rfl
  | 1, _ => rw [hc 92 (by decide) (by simp [shB] at h1; omega)]; rfl
  | 2, _ => exact absurd (hc 47 (by decide) (by simp [shB] at h1; omega)) h2
  | 3, _ => rw [hc 8 (by decide) (by simp [shB] at h1; omega)]; rfl
  | 4, _ => rw [hc 12 (by decide) (by simp [shB] at h1; omega)]; rfl
  | 5, _ => rw [hc 10 (by decide) (by simp [shB] at h1; omega)]; rfl
  | 6, _ => rw [hc 13 (by decide) (by simp [shB] at h1; omega)]; rfl
  | 7, _ => rw [hc 9 (by decide) (by simp [shB] at h1; omega)]; rfl
theorem letter_miss (c : UInt8) (h : ∀ k, k < 8 → ¬ (shB k = c.toNat ∧ c ≠ 47)) : letterL c = 0 := by
  have hn : ∀ k, k < 8 → ∀ n : UInt8, n ≠ 47 → shB k = n.toNat → c ≠ n := fun k hk n h47 hs e => h k hk (by subst e; exact ⟨hs, h47⟩)
  unfold letterL
  rw [if_neg (hn 0 (by omega) _ (by decide) rfl), if_neg (hn 1 (by omega) _ (by decide) rfl), if_neg (hn 3 (by omega) _ (by decide) rfl), if_neg (hn 4 (by omega) _ (by decide) rfl), if_neg (hn 5 (by omega) _ (by decide) rfl), if_neg (hn 6 (by omega) _ (by decide) rfl), if_neg (hn 7 (by omega) _ (by decide) rfl)]
theorem sh_bd (k : Nat) : 0 ≤ shA k ∧ shA k < 256 ∧ 0 ≤ shB k ∧ shB k < 256 := by
  by_cases h : k < 8
  · match k, h with
    | 0, _ => decide
    | 1, _ => decide
    | 2, _ => decide
    | 3, _ => decide
    | 4, _ => decide
    | 5, _ => decide
    | 6, _ => decide
    | 7, _ => decide
  · have e1 : shA k = 0 := by unfold shA; rw [List.getD_eq_getElem?_getD, List.getElem?_eq_none (by simp; omega)]; rfl
    have e2 : shB k = 0 := by unfold shB; rw [List.getD_eq_getElem?_getD, List.getElem?_eq_none (by simp; omega)]; rfl
    omega

end Go.Proofs.YtjihepdjcbpgoaaDoor

namespace Go.Proofs.YtjihepdjcbpgoaaDoor
open Go.RowKit

def quoteB (c : UInt8) : List UInt8 := if letterL c ≠ 0 then [92, letterL c] else if c.toNat < 32 then [92, 117, 48, 48, hexd (c.toNat / 16), hexd (c.toNat % 16)] else [c]
def quoteL (s : List UInt8) : List UInt8 := [34] ++ s.flatMap quoteB ++ [34]
theorem quoteB_len (c : UInt8) : (quoteB c).length ≤ 6 := by
  unfold quoteB
  split
  · simp
  · split <;> simp
theorem quoteF_len : ∀ s : List UInt8, (s.flatMap quoteB).length ≤ 6 * s.length
  | [] => by simp
  | c :: s => by have := quoteB_len c; have := quoteF_len s; simp only [List.flatMap_cons, List.length_append, List.length_cons]; omega
theorem quoteL_len (s : List UInt8) : (quoteL s).length ≤ 6 * s.length + 2 := by
  have := quoteF_len s
  simp only [quoteL, List.length_append, List.length_singleton]; omega

/-- A byte's cell. -/
def byE (c : UInt8) : List Value := [.int .u8 c.toNat]
/-- A row of bytes of the call's own. -/
def OwnBy (w : World) (base : Nat) (v : Value) (l : List UInt8) : Prop := w.ownsRow base 5 1 v l.length (l.flatMap byE)
theorem info_by : (Tryd.prog.info? 5).map (fun i => (i.zero, i.size, i.bytes)) = some (some (.int .u8 0), 1, 1) := by kernel_rfl
/-- Bytes of a literal are appended. -/
theorem app_by {w : World} {base : Nat} {v : Value} {l : List UInt8} (hown : OwnBy w base v l) (m : List UInt8) {b n c : Nat} (hn : n = m.length) (hb : w.heap[b]? = some (.cells (m.flatMap byE).toArray 5 (0, 0))) (hl : l.length + m.length ≤ 16777216) (hbase : base ≤ w.heap.size) :
    ∃ v' w', (∀ ty, (Builtin.append_ #[93, 93] ty #[v, .slice (some ⟨b, 0, none⟩) n c]).run Tryd.prog w = .ok v' w') ∧ OwnBy w' base v' (l ++ m) ∧ w.grownBy w' v.ownBlock ∧ (v'.ownBlock = v.ownBlock ∨ v'.ownBlock = some w.heap.size) := by
  subst hn
  obtain ⟨i0, hi0, hz0, hz1, hz2⟩ := info_parts info_by
  obtain ⟨v', w', h1, h2, h3, h4⟩ := run_append_sl (P := Tryd.prog) w byE base 93 0 5 i0 _ 1 1 Tryd.underlying93 hi0 hz0 hz1 hz2 rfl (by omega) (by omega) v l.length _ hown b (b + 1) _ m c (lit_sl (enc := byE) (size := 1) (fun _ => rfl) hb) (fun _ => rfl) (fun x u hu => by simp [byE] at hu; subst hu; rfl) hl hbase
  exact ⟨v', w', fun ty => h1, by simp only [OwnBy, List.length_append, List.flatMap_append]; exact h2, h3, h4⟩
theorem conv_by {w : World} {base : Nat} {a : Option Addr} {n c : Nat} {l : List UInt8} (hown : OwnBy w base (.slice a n c) l) (h0 : 0 < l.length) (hn : n = l.length) : (convert 93 9 (.slice a n c)).run Tryd.prog w = .ok (.string ⟨l.toArray⟩) w := by
  subst hn
  obtain ⟨b, off, rfl, -, -, -, h⟩ := own_sl (enc := byE) (size := 1) (fun _ => rfl) hown h0
  exact run_convert_bytes_back (P := Tryd.prog) w 93 9 5 ⟨b, off, none⟩ c l Tryd.underlying93 Tryd.underlying5 Tryd.underlying9 (fun j hj => by
    have := h j l[j] (List.getElem?_eq_getElem hj) 0 _ rfl
    rw [add_none]
    simpa using this)

end Go.Proofs.YtjihepdjcbpgoaaDoor
