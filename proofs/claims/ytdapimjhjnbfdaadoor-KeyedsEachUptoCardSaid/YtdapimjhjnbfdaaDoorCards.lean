/-
  DERIVED. GIVEN WITH THE SEED: THE CARDS: each row of YtdapimjhjnbfdaaDoorRows.lean that lists a variable, with what it lists TIED to the program's text (the seventh form; the later family's looks); each row that meets fmt, with fmt's text TOLD by the authors' own Lean function (tested against real Go, not proved from fmt's source: count such statements apart). THE CARD IS WHAT COUNTS. Prove the row's statement (the work); the ties are given (YtdapimjhjnbfdaaDoorTie.lean); close each card by the builder's one call (the guide's Derived/Test/ToyasCard.lean, 'card_holds'). Laid BY PROGRAM, IN A SANDBOX (cutbox-door.mjs). By AI agents, Wed Nov 11 2026. No macro, syntax, notation, axiom, sorry.
-/
import Derived.Test.YtdapimjhjnbfdaaDoorRows
import GoSem.ClaimSeven
namespace Go.Proofs.YtdapimjhjnbfdaaDoor
namespace Rows

/-- THE TIED CARD OF 'inarchlaw16.PathsOrder'. -/
def pathsOrderCard : Claim7 := { stood := { row := pathsOrderRow, standIns := [], harness := (true, "adfe882df888626c402c3e43a55be983d34364ab4bb000612def475eb459c83a"), looks := true }, kinds := [], alts := [], laidByText := true, laidKinds := [.data, .data, .data], laidTests := true, laidLooks := .later }
def PathsOrderCardSaid : Prop := Claim7.holds Tryd.pinned (.plain (OpenSpec.ofChange pathsOrderSpec)) pathsOrderCard

/-- THE TIED CARD OF 'inarchlaw16.PathsText'. -/
def pathsTextCard : Claim7 := { stood := { row := pathsTextRow, standIns := [], harness := (true, "adfe882df888626c402c3e43a55be983d34364ab4bb000612def475eb459c83a"), looks := true }, kinds := [], alts := [], laidByText := true, laidKinds := [.data, .data, .data, .sentinel, .sentinel], laidTests := true, laidLooks := .later }
def PathsTextCardSaid : Prop := Claim7.holds Tryd.pinned (.plain (OpenSpec.ofChange pathsTextSpec)) pathsTextCard

/-- THE TIED CARD OF 'inarchlaw14.ValuesTurned'. -/
def valuesTurnedCard : Claim7 := { stood := { row := valuesTurnedRow, standIns := [], harness := (true, "adfe882df888626c402c3e43a55be983d34364ab4bb000612def475eb459c83a"), looks := true }, kinds := [], alts := [], laidByText := true, laidKinds := [.data], laidTests := true, laidLooks := .later }
def ValuesTurnedCardSaid : Prop := Claim7.holds Tryd.pinned (.plain (OpenSpec.ofChange valuesTurnedSpec)) valuesTurnedCard

/-- THE TIED CARD OF 'inarchlaw28.KeyedsEach'. -/
def keyedsEachCard : Claim7 := { stood := { row := keyedsEachRow, standIns := [], harness := (true, "adfe882df888626c402c3e43a55be983d34364ab4bb000612def475eb459c83a"), looks := true }, kinds := [], alts := [], laidByText := true, laidKinds := [.data], laidTests := true, laidLooks := .later }
def KeyedsEachCardSaid : Prop := Claim7.holds Tryd.pinned (.plain (OpenSpec.ofChange keyedsEachSpec)) keyedsEachCard

/-- THE TIED CARD OF 'inarchlaw28.KeyedsUnion'. -/
def keyedsUnionCard : Claim7 := { stood := { row := keyedsUnionRow, standIns := [], harness := (true, "adfe882df888626c402c3e43a55be983d34364ab4bb000612def475eb459c83a"), looks := true }, kinds := [], alts := [], laidByText := true, laidKinds := [.data], laidTests := true, laidLooks := .later }
def KeyedsUnionCardSaid : Prop := Claim7.holds Tryd.pinned (.plain (OpenSpec.ofChange keyedsUnionSpec)) keyedsUnionCard

/-- THE TIED CARD OF 'inarchlaw14.ValuesParts'. -/
def valuesPartsCard : Claim7 := { stood := { row := valuesPartsRow, standIns := [], harness := (true, "adfe882df888626c402c3e43a55be983d34364ab4bb000612def475eb459c83a"), looks := true }, kinds := [], alts := [], laidByText := true, laidKinds := [.data], laidTests := true, laidLooks := .later }
def ValuesPartsCardSaid : Prop := Claim7.holds Tryd.pinned (.plain (OpenSpec.ofChange valuesPartsSpec)) valuesPartsCard

/-- THE TIED CARD OF 'inarchlaw16.PathsBack'. -/
def pathsBackCard : Claim7 := { stood := { row := pathsBackRow, standIns := [], harness := (true, "adfe882df888626c402c3e43a55be983d34364ab4bb000612def475eb459c83a"), looks := true }, kinds := [], alts := [], laidByText := true, laidKinds := [.data, .data, .data, .sentinel, .sentinel], laidTests := true, laidLooks := .later }
def PathsBackCardSaid : Prop := Claim7.holds Tryd.pinned (.plain (OpenSpec.ofChange pathsBackSpec)) pathsBackCard

/-- THE SECOND FORM's CARD OF 'inarchlaw16.PathsOrder'. -/
def pathsOrderUptoCard : Claim7 := { stood := { row := pathsOrderUptoRow, standIns := [], harness := (true, "adfe882df888626c402c3e43a55be983d34364ab4bb000612def475eb459c83a"), looks := true }, kinds := [], alts := [], laidByText := true, laidKinds := [.data, .data, .data], laidTests := true, laidLooks := .later }
def PathsOrderUptoCardSaid : Prop := Claim7.holds Tryd.pinned (.plain (OpenSpec.upto pathsOrderSpec)) pathsOrderUptoCard

/-- THE SECOND FORM's CARD OF 'inarchlaw16.PathsText'. -/
def pathsTextUptoCard : Claim7 := { stood := { row := pathsTextUptoRow, standIns := [], harness := (true, "adfe882df888626c402c3e43a55be983d34364ab4bb000612def475eb459c83a"), looks := true }, kinds := [], alts := [], laidByText := true, laidKinds := [.data, .data, .data, .sentinel, .sentinel], laidTests := true, laidLooks := .later }
def PathsTextUptoCardSaid : Prop := Claim7.holds Tryd.pinned (.plain (OpenSpec.upto pathsTextSpec)) pathsTextUptoCard

/-- THE SECOND FORM's CARD OF 'inarchlaw14.ValuesTurned'. -/
def valuesTurnedUptoCard : Claim7 := { stood := { row := valuesTurnedUptoRow, standIns := [], harness := (true, "adfe882df888626c402c3e43a55be983d34364ab4bb000612def475eb459c83a"), looks := true }, kinds := [], alts := [], laidByText := true, laidKinds := [.data], laidTests := true, laidLooks := .later }
def ValuesTurnedUptoCardSaid : Prop := Claim7.holds Tryd.pinned (.plain (OpenSpec.upto valuesTurnedSpec)) valuesTurnedUptoCard

/-- THE SECOND FORM's CARD OF 'inarchlaw28.KeyedsEach'. -/
def keyedsEachUptoCard : Claim7 := { stood := { row := keyedsEachUptoRow, standIns := [], harness := (true, "adfe882df888626c402c3e43a55be983d34364ab4bb000612def475eb459c83a"), looks := true }, kinds := [], alts := [], laidByText := true, laidKinds := [.data], laidTests := true, laidLooks := .later }
def KeyedsEachUptoCardSaid : Prop := Claim7.holds Tryd.pinned (.plain (OpenSpec.upto keyedsEachSpec)) keyedsEachUptoCard

/-- THE SECOND FORM's CARD OF 'inarchlaw28.KeyedsUnion'. -/
def keyedsUnionUptoCard : Claim7 := { stood := { row := keyedsUnionUptoRow, standIns := [], harness := (true, "adfe882df888626c402c3e43a55be983d34364ab4bb000612def475eb459c83a"), looks := true }, kinds := [], alts := [], laidByText := true, laidKinds := [.data], laidTests := true, laidLooks := .later }
def KeyedsUnionUptoCardSaid : Prop := Claim7.holds Tryd.pinned (.plain (OpenSpec.upto keyedsUnionSpec)) keyedsUnionUptoCard

/-- THE SECOND FORM's CARD OF 'inarchlaw14.ValuesParts'. -/
def valuesPartsUptoCard : Claim7 := { stood := { row := valuesPartsUptoRow, standIns := [], harness := (true, "adfe882df888626c402c3e43a55be983d34364ab4bb000612def475eb459c83a"), looks := true }, kinds := [], alts := [], laidByText := true, laidKinds := [.data], laidTests := true, laidLooks := .later }
def ValuesPartsUptoCardSaid : Prop := Claim7.holds Tryd.pinned (.plain (OpenSpec.upto valuesPartsSpec)) valuesPartsUptoCard

/-- THE SECOND FORM's CARD OF 'inarchlaw16.PathsBack'. -/
def pathsBackUptoCard : Claim7 := { stood := { row := pathsBackUptoRow, standIns := [], harness := (true, "adfe882df888626c402c3e43a55be983d34364ab4bb000612def475eb459c83a"), looks := true }, kinds := [], alts := [], laidByText := true, laidKinds := [.data, .data, .data, .sentinel, .sentinel], laidTests := true, laidLooks := .later }
def PathsBackUptoCardSaid : Prop := Claim7.holds Tryd.pinned (.plain (OpenSpec.upto pathsBackSpec)) pathsBackUptoCard
end Rows
end Go.Proofs.YtdapimjhjnbfdaaDoor
