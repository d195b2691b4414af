/-
  Maps by texts: what a key reads as. No condition.
-/
import Derived.Test.YtcpdogjcofkpcaaGreatDoorBase
import Derived.Test.YtcpdogjcofkpcaaGreatDoorProg
import Derived.Maps.Own
import Derived.Maps.OwnOps
import Derived.Maps.OwnSet
import Derived.Maps.Views
namespace Go.Proofs.YtcpdogjcofkpcaaGreatDoor
open Go.RowKit

theorem mapLaw : Maps.Keyed Tryz.prog 9 := Maps.string_keyed Tryz.underlying9
abbrev keyLit (s : ByteArray) : Lit := .string s.data.toList
theorem keyLit_inj {s t : ByteArray} (h : keyLit s = keyLit t) : s = t := by
  simp only [keyLit, Lit.string.injEq] at h
  cases s; cases t
  simp only at h
  rw [Array.toList_inj.1 h]
end Go.Proofs.YtcpdogjcofkpcaaGreatDoor
