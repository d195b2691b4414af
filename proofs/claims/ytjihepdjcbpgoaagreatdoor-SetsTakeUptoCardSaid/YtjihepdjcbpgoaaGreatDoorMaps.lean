/-
  strconv.Itoa: a number's decimal text. Condition: strconv's table of powers holds what its initialiser lays.
  Maps by texts: what a key reads as. No condition.
-/
import Derived.Test.YtjihepdjcbpgoaaGreatDoorB1
import Derived.Test.YtjihepdjcbpgoaaGreatDoorShelf
import Derived.WalkSmall
import Derived.Lib.AppendIntMem
import Derived.Lib.ItoaLen
import Derived.Test.YtjihepdjcbpgoaaGreatDoorBase
import Derived.Test.YtjihepdjcbpgoaaGreatDoorProg
import Derived.Maps.Own
import Derived.Maps.OwnOps
import Derived.Maps.OwnSet
import Derived.Maps.Views
namespace Go.Proofs.YtjihepdjcbpgoaaGreatDoor
open Go.RowKit

def Pow (w : World) : Prop := Lib.TabIs Tryz.prog w "internal/strconv.uint64pow10" .u64 Lib.pow10Tab
theorem Pow.below {w w' : World} (h : Pow w) (hb : Below w.heap.size w w') : Pow w' := by
  unfold Pow Lib.TabIs at *
  have hg : Tryz.prog.globalNamed "internal/strconv.uint64pow10" = some 1 := by kernel_rfl
  have hlt : 1 < w.heap.size := by
    unfold World.var? at h
    rw [hg] at h
    simp only [Option.bind_some] at h
    rcases Nat.lt_or_ge 1 w.heap.size with hlt | hge
    · exact hlt
    · rw [Array.getElem?_eq_none hge] at h; cases h
  exact var?_below hb hg hlt h

theorem itoa_c (n : Int) (h0 : -9223372036854775808 ≤ n) (h1 : n ≤ 9223372036854775807) (W : World) (hW : Pow W) : Calls Tryz.prog 105 #[.int .i64 n] W (Ret (.string ⟨(Lib.itoa n).toArray⟩) W) := by
  refine (Tryz.strconv_Itoa n h0 h1 W hW).mono ?_
  rintro e w' ⟨rfl, k, os, rfl⟩
  exact ⟨rfl, Lib.below_grow _ _ (Nat.le_refl _) _ _⟩
theorem Pow.below_at {B : Nat} {w w' : World} (h : Pow w) (hb : Below B w w') (hg : 1 < B) : Pow w' := by
  unfold Pow Lib.TabIs at *
  have hn : Tryz.prog.globalNamed "internal/strconv.uint64pow10" = some 1 := by kernel_rfl
  exact var?_below hb hn hg h
end Go.Proofs.YtjihepdjcbpgoaaGreatDoor

namespace Go.Proofs.YtjihepdjcbpgoaaGreatDoor
open Go.RowKit

theorem mapLaw : Maps.Keyed Tryz.prog 9 := Maps.string_keyed Tryz.underlying9
abbrev keyLit (s : ByteArray) : Lit := .string s.data.toList
theorem keyLit_inj {s t : ByteArray} (h : keyLit s = keyLit t) : s = t := by
  simp only [keyLit, Lit.string.injEq] at h
  cases s; cases t
  simp only at h
  rw [Array.toList_inj.1 h]
end Go.Proofs.YtjihepdjcbpgoaaGreatDoor
