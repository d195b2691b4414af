/-
  Maps by texts: what a key reads as. No condition.
-/
import Derived.Test.YtcpdogjcofkpcaaDoorBase
import Derived.Test.YtcpdogjcofkpcaaDoorProg
import Derived.Maps.Own
import Derived.Maps.OwnOps
import Derived.Maps.OwnSet
import Derived.Maps.Views
namespace Go.Proofs.YtcpdogjcofkpcaaDoor
open Go.RowKit

theorem mapLaw : Maps.Keyed Tryd.prog 9 := Maps.string_keyed Tryd.underlying9
abbrev keyLit (s : ByteArray) : Lit := .string s.data.toList
theorem keyLit_inj {s t : ByteArray} (h : keyLit s = keyLit t) : s = t := by
  simp only [keyLit, Lit.string.injEq] at h
  cases s; cases t
  simp only at h
  rw [Array.toList_inj.1 h]
end Go.Proofs.YtcpdogjcofkpcaaDoor
