/-
  DERIVED. GIVEN WITH THE SEED: THE CARDS: each row of YtcpdogjcofkpcaaDoorRows.lean that lists a variable, with what it lists TIED to the program's text (the seventh form; the later family's looks); each row that meets fmt, with fmt's text TOLD by the authors' own Lean function (tested against real Go, not proved from fmt's source: count such statements apart). THE CARD IS WHAT COUNTS. Prove the row's statement (the work); the ties are given (YtcpdogjcofkpcaaDoorTie.lean); close each card by the builder's one call (the guide's Derived/Test/ToyasCard.lean, 'card_holds'). Laid BY PROGRAM, IN A SANDBOX (cutbox-door.mjs). By AI agents, Wed Nov 11 2026. No macro, syntax, notation, axiom, sorry.
-/
import Derived.Test.YtcpdogjcofkpcaaDoorRows
import GoSem.ClaimSeven
namespace Go.Proofs.YtcpdogjcofkpcaaDoor
namespace Rows

/-- THE TIED CARD OF 'inarchlaw14.ValuesOrder'. -/
def valuesOrderCard : Claim7 := { stood := { row := valuesOrderRow, standIns := [], harness := (true, "ad1a17df4bccbc6a29223d4b843c9286e70fa43ebc3c86ab3e1d24850a4241ae"), looks := false }, kinds := [], alts := [], laidByText := true, laidKinds := [.data, .data, .data, .data], laidTests := true, laidLooks := .later }
def ValuesOrderCardSaid : Prop := Claim7.holds Tryd.pinned (.plain (OpenSpec.ofChange valuesOrderSpec)) valuesOrderCard

/-- THE TIED CARD OF 'inarchlaw24.RenamesOnce'. -/
def renamesOnceCard : Claim7 := { stood := { row := renamesOnceRow, standIns := [], harness := (true, "ad1a17df4bccbc6a29223d4b843c9286e70fa43ebc3c86ab3e1d24850a4241ae"), looks := false }, kinds := [], alts := [], laidByText := true, laidKinds := [.data, .data, .data], laidTests := true, laidLooks := .later }
def RenamesOnceCardSaid : Prop := Claim7.holds Tryd.pinned (.plain (OpenSpec.ofChange renamesOnceSpec)) renamesOnceCard

/-- THE TIED CARD OF 'inarchlaw24.RenamesUsed'. -/
def renamesUsedCard : Claim7 := { stood := { row := renamesUsedRow, standIns := [], harness := (true, "ad1a17df4bccbc6a29223d4b843c9286e70fa43ebc3c86ab3e1d24850a4241ae"), looks := false }, kinds := [], alts := [], laidByText := true, laidKinds := [.data, .data, .data], laidTests := true, laidLooks := .later }
def RenamesUsedCardSaid : Prop := Claim7.holds Tryd.pinned (.plain (OpenSpec.ofChange renamesUsedSpec)) renamesUsedCard

/-- THE TIED CARD OF 'inarchlaw24.RenamesMade'. -/
def renamesMadeCard : Claim7 := { stood := { row := renamesMadeRow, standIns := [], harness := (true, "ad1a17df4bccbc6a29223d4b843c9286e70fa43ebc3c86ab3e1d24850a4241ae"), looks := false }, kinds := [], alts := [], laidByText := true, laidKinds := [.data, .data, .data], laidTests := true, laidLooks := .later }
def RenamesMadeCardSaid : Prop := Claim7.holds Tryd.pinned (.plain (OpenSpec.ofChange renamesMadeSpec)) renamesMadeCard

/-- THE SECOND FORM's CARD OF 'inarchlaw14.ValuesOrder'. -/
def valuesOrderUptoCard : Claim7 := { stood := { row := valuesOrderUptoRow, standIns := [], harness := (true, "ad1a17df4bccbc6a29223d4b843c9286e70fa43ebc3c86ab3e1d24850a4241ae"), looks := false }, kinds := [], alts := [], laidByText := true, laidKinds := [.data, .data, .data, .data], laidTests := true, laidLooks := .later }
def ValuesOrderUptoCardSaid : Prop := Claim7.holds Tryd.pinned (.plain (OpenSpec.upto valuesOrderSpec)) valuesOrderUptoCard

/-- THE SECOND FORM's CARD OF 'inarchlaw24.RenamesOnce'. -/
def renamesOnceUptoCard : Claim7 := { stood := { row := renamesOnceUptoRow, standIns := [], harness := (true, "ad1a17df4bccbc6a29223d4b843c9286e70fa43ebc3c86ab3e1d24850a4241ae"), looks := false }, kinds := [], alts := [], laidByText := true, laidKinds := [.data, .data, .data], laidTests := true, laidLooks := .later }
def RenamesOnceUptoCardSaid : Prop := Claim7.holds Tryd.pinned (.plain (OpenSpec.upto renamesOnceSpec)) renamesOnceUptoCard

/-- THE SECOND FORM's CARD OF 'inarchlaw24.RenamesUsed'. -/
def renamesUsedUptoCard : Claim7 := { stood := { row := renamesUsedUptoRow, standIns := [], harness := (true, "ad1a17df4bccbc6a29223d4b843c9286e70fa43ebc3c86ab3e1d24850a4241ae"), looks := false }, kinds := [], alts := [], laidByText := true, laidKinds := [.data, .data, .data], laidTests := true, laidLooks := .later }
def RenamesUsedUptoCardSaid : Prop := Claim7.holds Tryd.pinned (.plain (OpenSpec.upto renamesUsedSpec)) renamesUsedUptoCard

/-- THE SECOND FORM's CARD OF 'inarchlaw24.RenamesMade'. -/
def renamesMadeUptoCard : Claim7 := { stood := { row := renamesMadeUptoRow, standIns := [], harness := (true, "ad1a17df4bccbc6a29223d4b843c9286e70fa43ebc3c86ab3e1d24850a4241ae"), looks := false }, kinds := [], alts := [], laidByText := true, laidKinds := [.data, .data, .data], laidTests := true, laidLooks := .later }
def RenamesMadeUptoCardSaid : Prop := Claim7.holds Tryd.pinned (.plain (OpenSpec.upto renamesMadeSpec)) renamesMadeUptoCard
end Rows
end Go.Proofs.YtcpdogjcofkpcaaDoor
