/-
  DERIVED. GIVEN WITH THE SEED: THE CARDS: each row of YtjihepdjcbpgoaaDoorRows.lean that lists a variable, with what it lists TIED to the program's text (the seventh form; the later family's looks); each row that meets fmt, with fmt's text TOLD by the authors' own Lean function (tested against real Go, not proved from fmt's source: count such statements apart). THE CARD IS WHAT COUNTS. Prove the row's statement (the work); the ties are given (YtjihepdjcbpgoaaDoorTie.lean); close each card by the builder's one call (the guide's Derived/Test/ToyasCard.lean, 'card_holds'). Laid BY PROGRAM, IN A SANDBOX (cutbox-door.mjs). By AI agents, Wed Nov 11 2026. No macro, syntax, notation, axiom, sorry.
-/
import Derived.Test.YtjihepdjcbpgoaaDoorRows
import GoSem.ClaimSeven
namespace Go.Proofs.YtjihepdjcbpgoaaDoor
namespace Rows

/-- THE TIED CARD OF 'inarchlaw22.LcsAny'. -/
def lcsAnyCard : Claim7 := { stood := { row := lcsAnyRow, standIns := [], harness := (true, "ff43bc8074ee0e455988399a25ce752d876f91cce6340c2a399014be3793248b"), looks := false }, kinds := [], alts := [], laidByText := true, laidKinds := [.data, .data, .data], laidTests := true, laidLooks := .later }
def LcsAnyCardSaid : Prop := Claim7.holds Tryd.pinned (.plain (OpenSpec.ofChange lcsAnySpec)) lcsAnyCard

/-- THE TIED CARD OF 'inarchlaw22.LcsAround'. -/
def lcsAroundCard : Claim7 := { stood := { row := lcsAroundRow, standIns := [], harness := (true, "ff43bc8074ee0e455988399a25ce752d876f91cce6340c2a399014be3793248b"), looks := false }, kinds := [], alts := [], laidByText := true, laidKinds := [.data, .data, .data], laidTests := true, laidLooks := .later }
def LcsAroundCardSaid : Prop := Claim7.holds Tryd.pinned (.plain (OpenSpec.ofChange lcsAroundSpec)) lcsAroundCard

/-- THE TIED CARD OF 'inarchlaw22.LcsLongest'. -/
def lcsLongestCard : Claim7 := { stood := { row := lcsLongestRow, standIns := [], harness := (true, "ff43bc8074ee0e455988399a25ce752d876f91cce6340c2a399014be3793248b"), looks := false }, kinds := [], alts := [], laidByText := true, laidKinds := [.data, .data, .data], laidTests := true, laidLooks := .later }
def LcsLongestCardSaid : Prop := Claim7.holds Tryd.pinned (.plain (OpenSpec.ofChange lcsLongestSpec)) lcsLongestCard

/-- THE TIED CARD OF 'inarchlaw23.ChunksOne'. -/
def chunksOneCard : Claim7 := { stood := { row := chunksOneRow, standIns := [], harness := (true, "ff43bc8074ee0e455988399a25ce752d876f91cce6340c2a399014be3793248b"), looks := false }, kinds := [], alts := [], laidByText := true, laidKinds := [.data, .data, .data], laidTests := true, laidLooks := .later }
def ChunksOneCardSaid : Prop := Claim7.holds Tryd.pinned (.plain (OpenSpec.ofChange chunksOneSpec)) chunksOneCard

/-- THE TIED CARD OF 'inarchlaw23.ChunksCover'. -/
def chunksCoverCard : Claim7 := { stood := { row := chunksCoverRow, standIns := [], harness := (true, "ff43bc8074ee0e455988399a25ce752d876f91cce6340c2a399014be3793248b"), looks := false }, kinds := [], alts := [], laidByText := true, laidKinds := [.data, .data, .data], laidTests := true, laidLooks := .later }
def ChunksCoverCardSaid : Prop := Claim7.holds Tryd.pinned (.plain (OpenSpec.ofChange chunksCoverSpec)) chunksCoverCard

/-- THE SECOND FORM's CARD OF 'inarchlaw22.LcsAny'. -/
def lcsAnyUptoCard : Claim7 := { stood := { row := lcsAnyUptoRow, standIns := [], harness := (true, "ff43bc8074ee0e455988399a25ce752d876f91cce6340c2a399014be3793248b"), looks := false }, kinds := [], alts := [], laidByText := true, laidKinds := [.data, .data, .data], laidTests := true, laidLooks := .later }
def LcsAnyUptoCardSaid : Prop := Claim7.holds Tryd.pinned (.plain (OpenSpec.upto lcsAnySpec)) lcsAnyUptoCard

/-- THE SECOND FORM's CARD OF 'inarchlaw22.LcsAround'. -/
def lcsAroundUptoCard : Claim7 := { stood := { row := lcsAroundUptoRow, standIns := [], harness := (true, "ff43bc8074ee0e455988399a25ce752d876f91cce6340c2a399014be3793248b"), looks := false }, kinds := [], alts := [], laidByText := true, laidKinds := [.data, .data, .data], laidTests := true, laidLooks := .later }
def LcsAroundUptoCardSaid : Prop := Claim7.holds Tryd.pinned (.plain (OpenSpec.upto lcsAroundSpec)) lcsAroundUptoCard

/-- THE SECOND FORM's CARD OF 'inarchlaw22.LcsLongest'. -/
def lcsLongestUptoCard : Claim7 := { stood := { row := lcsLongestUptoRow, standIns := [], harness := (true, "ff43bc8074ee0e455988399a25ce752d876f91cce6340c2a399014be3793248b"), looks := false }, kinds := [], alts := [], laidByText := true, laidKinds := [.data, .data, .data], laidTests := true, laidLooks := .later }
def LcsLongestUptoCardSaid : Prop := Claim7.holds Tryd.pinned (.plain (OpenSpec.upto lcsLongestSpec)) lcsLongestUptoCard

/-- THE SECOND FORM's CARD OF 'inarchlaw23.ChunksOne'. -/
def chunksOneUptoCard : Claim7 := { stood := { row := chunksOneUptoRow, standIns := [], harness := (true, "ff43bc8074ee0e455988399a25ce752d876f91cce6340c2a399014be3793248b"), looks := false }, kinds := [], alts := [], laidByText := true, laidKinds := [.data, .data, .data], laidTests := true, laidLooks := .later }
def ChunksOneUptoCardSaid : Prop := Claim7.holds Tryd.pinned (.plain (OpenSpec.upto chunksOneSpec)) chunksOneUptoCard

/-- THE SECOND FORM's CARD OF 'inarchlaw23.ChunksCover'. -/
def chunksCoverUptoCard : Claim7 := { stood := { row := chunksCoverUptoRow, standIns := [], harness := (true, "ff43bc8074ee0e455988399a25ce752d876f91cce6340c2a399014be3793248b"), looks := false }, kinds := [], alts := [], laidByText := true, laidKinds := [.data, .data, .data], laidTests := true, laidLooks := .later }
def ChunksCoverUptoCardSaid : Prop := Claim7.holds Tryd.pinned (.plain (OpenSpec.upto chunksCoverSpec)) chunksCoverUptoCard
end Rows
end Go.Proofs.YtjihepdjcbpgoaaDoor
