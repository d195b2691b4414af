/-
  DERIVED. GIVEN WITH THE SEED: THE CARDS: each row of YtcpdogjcofkpcaaGreatDoorRows.lean that lists a variable, with what it lists TIED to the program's text (the seventh form; the later family's looks); each row that meets fmt, with fmt's text TOLD by the authors' own Lean function (tested against real Go, not proved from fmt's source: count such statements apart). THE CARD IS WHAT COUNTS. Prove the row's statement (the work); the ties are given (YtcpdogjcofkpcaaGreatDoorTie.lean); close each card by the builder's one call (the guide's Derived/Test/ToyasCard.lean, 'card_holds'). Laid BY PROGRAM, IN A SANDBOX (cutbox-door.mjs). By AI agents, Wed Nov 11 2026. No macro, syntax, notation, axiom, sorry.
-/
import Derived.Test.YtcpdogjcofkpcaaGreatDoorRows
import GoSem.ClaimSeven
namespace Go.Proofs.YtcpdogjcofkpcaaGreatDoor
namespace Rows

/-- THE TIED CARD OF 'inarchlaw28.KeyedsPlan'. -/
def keyedsPlanCard : Claim7 := { stood := { row := keyedsPlanRow, standIns := [], harness := (true, "c829801db95aed94f9aeeab07320f6be019fd60fbe80b735b095547862b52694"), looks := false }, kinds := [], alts := [], laidByText := true, laidKinds := [.data], laidTests := true, laidLooks := .later }
def KeyedsPlanCardSaid : Prop := Claim7.holds Tryz.pinned (.plain (OpenSpec.ofChange keyedsPlanSpec)) keyedsPlanCard

/-- THE TIED CARD OF 'inarchlaw24.RenamesAny'. -/
def renamesAnyCard : Claim7 := { stood := { row := renamesAnyRow, standIns := [], harness := (true, "c829801db95aed94f9aeeab07320f6be019fd60fbe80b735b095547862b52694"), looks := false }, kinds := [], alts := [], laidByText := true, laidKinds := [.data, .data, .data], laidTests := true, laidLooks := .later }
def RenamesAnyCardSaid : Prop := Claim7.holds Tryz.pinned (.plain (OpenSpec.ofChange renamesAnySpec)) renamesAnyCard

/-- THE TIED CARD OF 'inarchlaw14.ValuesAny'. -/
def valuesAnyCard : Claim7 := { stood := { row := valuesAnyRow, standIns := [], harness := (true, "c829801db95aed94f9aeeab07320f6be019fd60fbe80b735b095547862b52694"), looks := false }, kinds := [], alts := [], laidByText := true, laidKinds := [.data, .data, .data, .data], laidTests := true, laidLooks := .later }
def ValuesAnyCardSaid : Prop := Claim7.holds Tryz.pinned (.plain (OpenSpec.ofChange valuesAnySpec)) valuesAnyCard

/-- THE TIED CARD OF 'inarchlaw27.SetsTake'. -/
def setsTakeCard : Claim7 := { stood := { row := setsTakeRow, standIns := [], harness := (true, "c829801db95aed94f9aeeab07320f6be019fd60fbe80b735b095547862b52694"), looks := false }, kinds := [], alts := [], laidByText := true, laidKinds := [.data, .data, .data], laidTests := true, laidLooks := .later }
def SetsTakeCardSaid : Prop := Claim7.holds Tryz.pinned (.plain (OpenSpec.ofChange setsTakeSpec)) setsTakeCard

/-- THE TIED CARD OF 'inarchlaw27.SetsHas'. -/
def setsHasCard : Claim7 := { stood := { row := setsHasRow, standIns := [], harness := (true, "c829801db95aed94f9aeeab07320f6be019fd60fbe80b735b095547862b52694"), looks := false }, kinds := [], alts := [], laidByText := true, laidKinds := [.data, .data, .data], laidTests := true, laidLooks := .later }
def SetsHasCardSaid : Prop := Claim7.holds Tryz.pinned (.plain (OpenSpec.ofChange setsHasSpec)) setsHasCard

/-- THE TIED CARD OF 'inarchlaw27.SetsTurned'. -/
def setsTurnedCard : Claim7 := { stood := { row := setsTurnedRow, standIns := [], harness := (true, "c829801db95aed94f9aeeab07320f6be019fd60fbe80b735b095547862b52694"), looks := false }, kinds := [], alts := [], laidByText := true, laidKinds := [.data, .data, .data], laidTests := true, laidLooks := .later }
def SetsTurnedCardSaid : Prop := Claim7.holds Tryz.pinned (.plain (OpenSpec.ofChange setsTurnedSpec)) setsTurnedCard

/-- THE TIED CARD OF 'inarchlaw16.PathsWalk'. -/
def pathsWalkCard : Claim7 := { stood := { row := pathsWalkRow, standIns := [], harness := (true, "c829801db95aed94f9aeeab07320f6be019fd60fbe80b735b095547862b52694"), looks := false }, kinds := [], alts := [], laidByText := true, laidKinds := [.data, .data, .data, .data], laidTests := true, laidLooks := .later }
def PathsWalkCardSaid : Prop := Claim7.holds Tryz.pinned (.plain (OpenSpec.ofChange pathsWalkSpec)) pathsWalkCard

/-- THE TIED CARD OF 'inarchlaw16.PathsOn'. -/
def pathsOnCard : Claim7 := { stood := { row := pathsOnRow, standIns := [], harness := (true, "c829801db95aed94f9aeeab07320f6be019fd60fbe80b735b095547862b52694"), looks := false }, kinds := [], alts := [], laidByText := true, laidKinds := [.data, .data, .data, .data], laidTests := true, laidLooks := .later }
def PathsOnCardSaid : Prop := Claim7.holds Tryz.pinned (.plain (OpenSpec.ofChange pathsOnSpec)) pathsOnCard

/-- THE SECOND FORM's CARD OF 'inarchlaw28.KeyedsPlan'. -/
def keyedsPlanUptoCard : Claim7 := { stood := { row := keyedsPlanUptoRow, standIns := [], harness := (true, "c829801db95aed94f9aeeab07320f6be019fd60fbe80b735b095547862b52694"), looks := false }, kinds := [], alts := [], laidByText := true, laidKinds := [.data], laidTests := true, laidLooks := .later }
def KeyedsPlanUptoCardSaid : Prop := Claim7.holds Tryz.pinned (.plain (OpenSpec.upto keyedsPlanSpec)) keyedsPlanUptoCard

/-- THE SECOND FORM's CARD OF 'inarchlaw24.RenamesAny'. -/
def renamesAnyUptoCard : Claim7 := { stood := { row := renamesAnyUptoRow, standIns := [], harness := (true, "c829801db95aed94f9aeeab07320f6be019fd60fbe80b735b095547862b52694"), looks := false }, kinds := [], alts := [], laidByText := true, laidKinds := [.data, .data, .data], laidTests := true, laidLooks := .later }
def RenamesAnyUptoCardSaid : Prop := Claim7.holds Tryz.pinned (.plain (OpenSpec.upto renamesAnySpec)) renamesAnyUptoCard

/-- THE SECOND FORM's CARD OF 'inarchlaw14.ValuesAny'. -/
def valuesAnyUptoCard : Claim7 := { stood := { row := valuesAnyUptoRow, standIns := [], harness := (true, "c829801db95aed94f9aeeab07320f6be019fd60fbe80b735b095547862b52694"), looks := false }, kinds := [], alts := [], laidByText := true, laidKinds := [.data, .data, .data, .data], laidTests := true, laidLooks := .later }
def ValuesAnyUptoCardSaid : Prop := Claim7.holds Tryz.pinned (.plain (OpenSpec.upto valuesAnySpec)) valuesAnyUptoCard

/-- THE SECOND FORM's CARD OF 'inarchlaw27.SetsTake'. -/
def setsTakeUptoCard : Claim7 := { stood := { row := setsTakeUptoRow, standIns := [], harness := (true, "c829801db95aed94f9aeeab07320f6be019fd60fbe80b735b095547862b52694"), looks := false }, kinds := [], alts := [], laidByText := true, laidKinds := [.data, .data, .data], laidTests := true, laidLooks := .later }
def SetsTakeUptoCardSaid : Prop := Claim7.holds Tryz.pinned (.plain (OpenSpec.upto setsTakeSpec)) setsTakeUptoCard

/-- THE SECOND FORM's CARD OF 'inarchlaw27.SetsHas'. -/
def setsHasUptoCard : Claim7 := { stood := { row := setsHasUptoRow, standIns := [], harness := (true, "c829801db95aed94f9aeeab07320f6be019fd60fbe80b735b095547862b52694"), looks := false }, kinds := [], alts := [], laidByText := true, laidKinds := [.data, .data, .data], laidTests := true, laidLooks := .later }
def SetsHasUptoCardSaid : Prop := Claim7.holds Tryz.pinned (.plain (OpenSpec.upto setsHasSpec)) setsHasUptoCard

/-- THE SECOND FORM's CARD OF 'inarchlaw27.SetsTurned'. -/
def setsTurnedUptoCard : Claim7 := { stood := { row := setsTurnedUptoRow, standIns := [], harness := (true, "c829801db95aed94f9aeeab07320f6be019fd60fbe80b735b095547862b52694"), looks := false }, kinds := [], alts := [], laidByText := true, laidKinds := [.data, .data, .data], laidTests := true, laidLooks := .later }
def SetsTurnedUptoCardSaid : Prop := Claim7.holds Tryz.pinned (.plain (OpenSpec.upto setsTurnedSpec)) setsTurnedUptoCard

/-- THE SECOND FORM's CARD OF 'inarchlaw16.PathsWalk'. -/
def pathsWalkUptoCard : Claim7 := { stood := { row := pathsWalkUptoRow, standIns := [], harness := (true, "c829801db95aed94f9aeeab07320f6be019fd60fbe80b735b095547862b52694"), looks := false }, kinds := [], alts := [], laidByText := true, laidKinds := [.data, .data, .data, .data], laidTests := true, laidLooks := .later }
def PathsWalkUptoCardSaid : Prop := Claim7.holds Tryz.pinned (.plain (OpenSpec.upto pathsWalkSpec)) pathsWalkUptoCard

/-- THE SECOND FORM's CARD OF 'inarchlaw16.PathsOn'. -/
def pathsOnUptoCard : Claim7 := { stood := { row := pathsOnUptoRow, standIns := [], harness := (true, "c829801db95aed94f9aeeab07320f6be019fd60fbe80b735b095547862b52694"), looks := false }, kinds := [], alts := [], laidByText := true, laidKinds := [.data, .data, .data, .data], laidTests := true, laidLooks := .later }
def PathsOnUptoCardSaid : Prop := Claim7.holds Tryz.pinned (.plain (OpenSpec.upto pathsOnSpec)) pathsOnUptoCard
end Rows
end Go.Proofs.YtcpdogjcofkpcaaGreatDoor
