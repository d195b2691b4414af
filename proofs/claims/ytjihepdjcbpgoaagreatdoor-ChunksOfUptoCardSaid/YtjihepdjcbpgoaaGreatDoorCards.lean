/-
  DERIVED. GIVEN WITH THE SEED: THE CARDS: each row of YtjihepdjcbpgoaaGreatDoorRows.lean that lists a variable, with what it lists TIED to the program's text (the seventh form; the later family's looks); each row that meets fmt, with fmt's text TOLD by the authors' own Lean function (tested against real Go, not proved from fmt's source: count such statements apart). THE CARD IS WHAT COUNTS. Prove the row's statement (the work); the ties are given (YtjihepdjcbpgoaaGreatDoorTie.lean); close each card by the builder's one call (the guide's Derived/Test/ToyasCard.lean, 'card_holds'). Laid BY PROGRAM, IN A SANDBOX (cutbox-door.mjs). By AI agents, Wed Nov 11 2026. No macro, syntax, notation, axiom, sorry.
-/
import Derived.Test.YtjihepdjcbpgoaaGreatDoorRows
import GoSem.ClaimSeven
namespace Go.Proofs.YtjihepdjcbpgoaaGreatDoor
namespace Rows

/-- THE TIED CARD OF 'inarchlaw14.ValuesAny'. -/
def valuesAnyCard : Claim7 := { stood := { row := valuesAnyRow, standIns := [], harness := (true, "5127e8fd856f3ba7538c9eead21215e0e2be868ba51e704e213949244028785f"), looks := false }, kinds := [], alts := [], laidByText := true, laidKinds := [.data, .data, .data, .data], laidTests := true, laidLooks := .later }
def ValuesAnyCardSaid : Prop := Claim7.holds Tryz.pinned (.plain (OpenSpec.ofChange valuesAnySpec)) valuesAnyCard

/-- THE TIED CARD OF 'inarchlaw27.SetsPlan'. -/
def setsPlanCard : Claim7 := { stood := { row := setsPlanRow, standIns := [], harness := (true, "5127e8fd856f3ba7538c9eead21215e0e2be868ba51e704e213949244028785f"), looks := false }, kinds := [], alts := [], laidByText := true, laidKinds := [.data, .data, .data], laidTests := true, laidLooks := .later }
def SetsPlanCardSaid : Prop := Claim7.holds Tryz.pinned (.plain (OpenSpec.ofChange setsPlanSpec)) setsPlanCard

/-- THE TIED CARD OF 'inarchlaw27.SetsTake'. -/
def setsTakeCard : Claim7 := { stood := { row := setsTakeRow, standIns := [], harness := (true, "5127e8fd856f3ba7538c9eead21215e0e2be868ba51e704e213949244028785f"), looks := false }, kinds := [], alts := [], laidByText := true, laidKinds := [.data, .data, .data], laidTests := true, laidLooks := .later }
def SetsTakeCardSaid : Prop := Claim7.holds Tryz.pinned (.plain (OpenSpec.ofChange setsTakeSpec)) setsTakeCard

/-- THE TIED CARD OF 'inarchlaw27.SetsHas'. -/
def setsHasCard : Claim7 := { stood := { row := setsHasRow, standIns := [], harness := (true, "5127e8fd856f3ba7538c9eead21215e0e2be868ba51e704e213949244028785f"), looks := false }, kinds := [], alts := [], laidByText := true, laidKinds := [.data, .data, .data], laidTests := true, laidLooks := .later }
def SetsHasCardSaid : Prop := Claim7.holds Tryz.pinned (.plain (OpenSpec.ofChange setsHasSpec)) setsHasCard

/-- THE TIED CARD OF 'inarchlaw27.SetsTurned'. -/
def setsTurnedCard : Claim7 := { stood := { row := setsTurnedRow, standIns := [], harness := (true, "5127e8fd856f3ba7538c9eead21215e0e2be868ba51e704e213949244028785f"), looks := false }, kinds := [], alts := [], laidByText := true, laidKinds := [.data, .data, .data], laidTests := true, laidLooks := .later }
def SetsTurnedCardSaid : Prop := Claim7.holds Tryz.pinned (.plain (OpenSpec.ofChange setsTurnedSpec)) setsTurnedCard

/-- THE TIED CARD OF 'inarchlaw23.ChunksOf'. -/
def chunksOfCard : Claim7 := { stood := { row := chunksOfRow, standIns := [], harness := (true, "5127e8fd856f3ba7538c9eead21215e0e2be868ba51e704e213949244028785f"), looks := false }, kinds := [], alts := [], laidByText := true, laidKinds := [.data, .data, .data], laidTests := true, laidLooks := .later }
def ChunksOfCardSaid : Prop := Claim7.holds Tryz.pinned (.plain (OpenSpec.ofChange chunksOfSpec)) chunksOfCard

/-- THE SECOND FORM's CARD OF 'inarchlaw14.ValuesAny'. -/
def valuesAnyUptoCard : Claim7 := { stood := { row := valuesAnyUptoRow, standIns := [], harness := (true, "5127e8fd856f3ba7538c9eead21215e0e2be868ba51e704e213949244028785f"), looks := false }, kinds := [], alts := [], laidByText := true, laidKinds := [.data, .data, .data, .data], laidTests := true, laidLooks := .later }
def ValuesAnyUptoCardSaid : Prop := Claim7.holds Tryz.pinned (.plain (OpenSpec.upto valuesAnySpec)) valuesAnyUptoCard

/-- THE SECOND FORM's CARD OF 'inarchlaw27.SetsPlan'. -/
def setsPlanUptoCard : Claim7 := { stood := { row := setsPlanUptoRow, standIns := [], harness := (true, "5127e8fd856f3ba7538c9eead21215e0e2be868ba51e704e213949244028785f"), looks := false }, kinds := [], alts := [], laidByText := true, laidKinds := [.data, .data, .data], laidTests := true, laidLooks := .later }
def SetsPlanUptoCardSaid : Prop := Claim7.holds Tryz.pinned (.plain (OpenSpec.upto setsPlanSpec)) setsPlanUptoCard

/-- THE SECOND FORM's CARD OF 'inarchlaw27.SetsTake'. -/
def setsTakeUptoCard : Claim7 := { stood := { row := setsTakeUptoRow, standIns := [], harness := (true, "5127e8fd856f3ba7538c9eead21215e0e2be868ba51e704e213949244028785f"), looks := false }, kinds := [], alts := [], laidByText := true, laidKinds := [.data, .data, .data], laidTests := true, laidLooks := .later }
def SetsTakeUptoCardSaid : Prop := Claim7.holds Tryz.pinned (.plain (OpenSpec.upto setsTakeSpec)) setsTakeUptoCard

/-- THE SECOND FORM's CARD OF 'inarchlaw27.SetsHas'. -/
def setsHasUptoCard : Claim7 := { stood := { row := setsHasUptoRow, standIns := [], harness := (true, "5127e8fd856f3ba7538c9eead21215e0e2be868ba51e704e213949244028785f"), looks := false }, kinds := [], alts := [], laidByText := true, laidKinds := [.data, .data, .data], laidTests := true, laidLooks := .later }
def SetsHasUptoCardSaid : Prop := Claim7.holds Tryz.pinned (.plain (OpenSpec.upto setsHasSpec)) setsHasUptoCard

/-- THE SECOND FORM's CARD OF 'inarchlaw27.SetsTurned'. -/
def setsTurnedUptoCard : Claim7 := { stood := { row := setsTurnedUptoRow, standIns := [], harness := (true, "5127e8fd856f3ba7538c9eead21215e0e2be868ba51e704e213949244028785f"), looks := false }, kinds := [], alts := [], laidByText := true, laidKinds := [.data, .data, .data], laidTests := true, laidLooks := .later }
def SetsTurnedUptoCardSaid : Prop := Claim7.holds Tryz.pinned (.plain (OpenSpec.upto setsTurnedSpec)) setsTurnedUptoCard

/-- THE SECOND FORM's CARD OF 'inarchlaw23.ChunksOf'. -/
def chunksOfUptoCard : Claim7 := { stood := { row := chunksOfUptoRow, standIns := [], harness := (true, "5127e8fd856f3ba7538c9eead21215e0e2be868ba51e704e213949244028785f"), looks := false }, kinds := [], alts := [], laidByText := true, laidKinds := [.data, .data, .data], laidTests := true, laidLooks := .later }
def ChunksOfUptoCardSaid : Prop := Claim7.holds Tryz.pinned (.plain (OpenSpec.upto chunksOfSpec)) chunksOfUptoCard
end Rows
end Go.Proofs.YtjihepdjcbpgoaaGreatDoor
