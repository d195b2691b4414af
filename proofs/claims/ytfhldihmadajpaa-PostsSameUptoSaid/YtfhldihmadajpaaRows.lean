/-
  NARROWER THAN 'FOR EVERY INPUT', by the rows' own cells (each row's printed sentence says how): PostsOf: loops · PostsSame: loops · PostsBack: loops.
  DERIVED. THE GIVEN ROWS OF THIS SEAT. 4 by the template 'for every input the law returns true; each argument reads behind the call as it read before'; 0 by the template 'total and deterministic' (their statements: YtfhldihmadajpaaTotals.lean).
  GIVEN WITH THE SEED: the statements are not yours to turn. If you find one false, say at which input.
  Laid BY PROGRAM, IN A SANDBOX (cutbox-rows.mjs): the forced cells as the released guide's own fill.sh prints them over the translation 1ad0763f09813bcc… (all of the seat's roots in one cut). By AI agents, Wed Nov 11 2026. No macro, syntax, notation, axiom, sorry.
-/
import Derived.Test.YtfhldihmadajpaaChecked
import GoSem.Claim
import GoSem.ClaimJoined
import GoSem.ClaimMapViews
import Derived.JoinedTies
import Derived.KernelRfl
namespace Go.Proofs.Ytfhldihmadajpaa
/- THE CELL 'sum', in the pinned program and in every row, IS THE sha256 OF THE DUMP (.gsa) THAT YtfhldihmadajpaaProg.lean LOADS. Nothing in Lean hashes anything: it is a label: what it is worth is what the hold of that sum in a sandbox is worth. -/
noncomputable def Try.pinned : Pinned := { name := "ytfhldihmadajpaa", sum := "1ad0763f09813bcc3b92559ca54c58f0e5641cd30656f38d7579dab1398de867", checked := Try.checked }
namespace Rows
def none {H : Type} : Left H := { results := [], args := [] }

/-- 'inarchlaw19.PostsOf': WHATEVER THE INPUT: true; the input reads as it did. -/
def postsOfSpec : ChangeSpec := { name := "postsOf", fn := fun _ => fun
  | [d1, d2] => { results := [.lit (.bool true)], args := [d1, d2] }
  | _ => none }
def postsOfRow : OpenClaim := { program := "ytfhldihmadajpaa", sum := "1ad0763f09813bcc3b92559ca54c58f0e5641cd30656f38d7579dab1398de867", func := "inarch/inarchlaw19.PostsOf", spec := "postsOf", unfollowed := true, recurses := true, loops := true, apart := false }
def PostsOfSaid : Prop := postsOfRow.holds Try.pinned (OpenSpec.ofChange postsOfSpec)

/-- ITS FALSE NEIGHBOUR: 'it returns false'. Refute it at one input. -/
def postsOfWrong : ChangeSpec := { name := "postsOf", fn := fun _ => fun
  | [d1, d2] => { results := [.lit (.bool false)], args := [d1, d2] }
  | _ => none }
def PostsOfWrongFalsely : Prop := postsOfRow.holds Try.pinned (OpenSpec.ofChange postsOfWrong)

/-- 'inarchlaw19.PostsPart': WHATEVER THE INPUT: true; the input reads as it did. -/
def postsPartSpec : ChangeSpec := { name := "postsPart", fn := fun _ => fun
  | [d1, d2] => { results := [.lit (.bool true)], args := [d1, d2] }
  | _ => none }
def postsPartRow : OpenClaim := { program := "ytfhldihmadajpaa", sum := "1ad0763f09813bcc3b92559ca54c58f0e5641cd30656f38d7579dab1398de867", func := "inarch/inarchlaw19.PostsPart", spec := "postsPart", unfollowed := true, recurses := true, apart := false }
def PostsPartSaid : Prop := postsPartRow.holds Try.pinned (OpenSpec.ofChange postsPartSpec)

/-- ITS FALSE NEIGHBOUR: 'it returns false'. Refute it at one input. -/
def postsPartWrong : ChangeSpec := { name := "postsPart", fn := fun _ => fun
  | [d1, d2] => { results := [.lit (.bool false)], args := [d1, d2] }
  | _ => none }
def PostsPartWrongFalsely : Prop := postsPartRow.holds Try.pinned (OpenSpec.ofChange postsPartWrong)

/-- 'inarchlaw19.PostsSame': WHATEVER THE INPUT: true; the input reads as it did. -/
def postsSameSpec : ChangeSpec := { name := "postsSame", fn := fun _ => fun
  | [d1, d2] => { results := [.lit (.bool true)], args := [d1, d2] }
  | _ => none }
def postsSameRow : OpenClaim := { program := "ytfhldihmadajpaa", sum := "1ad0763f09813bcc3b92559ca54c58f0e5641cd30656f38d7579dab1398de867", func := "inarch/inarchlaw19.PostsSame", spec := "postsSame", unfollowed := true, recurses := true, loops := true, apart := false }
def PostsSameSaid : Prop := postsSameRow.holds Try.pinned (OpenSpec.ofChange postsSameSpec)

/-- ITS FALSE NEIGHBOUR: 'it returns false'. Refute it at one input. -/
def postsSameWrong : ChangeSpec := { name := "postsSame", fn := fun _ => fun
  | [d1, d2] => { results := [.lit (.bool false)], args := [d1, d2] }
  | _ => none }
def PostsSameWrongFalsely : Prop := postsSameRow.holds Try.pinned (OpenSpec.ofChange postsSameWrong)

/-- 'inarchlaw19.PostsBack': WHATEVER THE INPUT: true; the input reads as it did. -/
def postsBackSpec : ChangeSpec := { name := "postsBack", fn := fun _ => fun
  | [d1, d2] => { results := [.lit (.bool true)], args := [d1, d2] }
  | _ => none }
def postsBackRow : OpenClaim := { program := "ytfhldihmadajpaa", sum := "1ad0763f09813bcc3b92559ca54c58f0e5641cd30656f38d7579dab1398de867", func := "inarch/inarchlaw19.PostsBack", spec := "postsBack", unfollowed := true, recurses := true, loops := true, apart := false }
def PostsBackSaid : Prop := postsBackRow.holds Try.pinned (OpenSpec.ofChange postsBackSpec)

/-- ITS FALSE NEIGHBOUR: 'it returns false'. Refute it at one input. -/
def postsBackWrong : ChangeSpec := { name := "postsBack", fn := fun _ => fun
  | [d1, d2] => { results := [.lit (.bool false)], args := [d1, d2] }
  | _ => none }
def PostsBackWrongFalsely : Prop := postsBackRow.holds Try.pinned (OpenSpec.ofChange postsBackWrong)

/- THE SECOND FORM. 'bulk': how many values and letters a reading holds, each counted each time it is reached (what is shared counts as often as it is met; a slice's spare places count too). A statement '..UptoSaid' is the law's where the arguments, and the package variables that the reading takes, are together of bulk at most 1048576: NARROWER than '..Said'. Prove '..Said' where nothing that the law and all that it calls make is longer than what came in: it says more and counts as full. Else prove '..UptoSaid'. A law counts once. -/
mutual
def uptoBulk {H : Type} : DataW H → Nat
  | .lit (.string bytes) => bytes.length + 1
  | .lit _ => 1
  | .nil => 1
  | .ptr d => uptoBulk d + 1
  | .slice elems spare => uptoBulkAll elems + uptoBulkAll spare + 1
  | .agg parts => uptoBulkAll parts + 1
  | .iface _ d => uptoBulk d + 1
  | .map entries => uptoBulkEntries entries + 1
  | .held _ => 1
def uptoBulkAll {H : Type} : List (DataW H) → Nat
  | [] => 0
  | d :: r => uptoBulk d + uptoBulkAll r
def uptoBulkEntries {H : Type} : List (Lit × DataW H) → Nat
  | [] => 0
  | x :: r => uptoBulkEntry x + uptoBulkEntries r
def uptoBulkEntry {H : Type} : Lit × DataW H → Nat
  | (.string bytes, d) => bytes.length + uptoBulk d + 1
  | (_, d) => uptoBulk d + 1
 end
def uptoSmall : (H : Type) → List (DataW H) → Bool := fun _ ds => decide (uptoBulkAll ds ≤ 1048576)
def OpenSpec.upto (s : _root_.Go.ChangeSpec) : _root_.Go.OpenSpec := { _root_.Go.OpenSpec.ofChange s with cond := some uptoSmall }

/-- 'inarchlaw19.PostsOf', WHERE WHAT IT READS IS OF BULK AT MOST 1048576: true; the input reads as it did. -/
def postsOfUptoRow : OpenClaim := { program := "ytfhldihmadajpaa", sum := "1ad0763f09813bcc3b92559ca54c58f0e5641cd30656f38d7579dab1398de867", func := "inarch/inarchlaw19.PostsOf", spec := "postsOf", unfollowed := true, recurses := true, loops := true, apart := false, narrowed := true }
def PostsOfUptoSaid : Prop := postsOfUptoRow.holds Try.pinned (OpenSpec.upto postsOfSpec)

/-- 'inarchlaw19.PostsPart', WHERE WHAT IT READS IS OF BULK AT MOST 1048576: true; the input reads as it did. -/
def postsPartUptoRow : OpenClaim := { program := "ytfhldihmadajpaa", sum := "1ad0763f09813bcc3b92559ca54c58f0e5641cd30656f38d7579dab1398de867", func := "inarch/inarchlaw19.PostsPart", spec := "postsPart", unfollowed := true, recurses := true, apart := false, narrowed := true }
def PostsPartUptoSaid : Prop := postsPartUptoRow.holds Try.pinned (OpenSpec.upto postsPartSpec)

/-- 'inarchlaw19.PostsSame', WHERE WHAT IT READS IS OF BULK AT MOST 1048576: true; the input reads as it did. -/
def postsSameUptoRow : OpenClaim := { program := "ytfhldihmadajpaa", sum := "1ad0763f09813bcc3b92559ca54c58f0e5641cd30656f38d7579dab1398de867", func := "inarch/inarchlaw19.PostsSame", spec := "postsSame", unfollowed := true, recurses := true, loops := true, apart := false, narrowed := true }
def PostsSameUptoSaid : Prop := postsSameUptoRow.holds Try.pinned (OpenSpec.upto postsSameSpec)

/-- 'inarchlaw19.PostsBack', WHERE WHAT IT READS IS OF BULK AT MOST 1048576: true; the input reads as it did. -/
def postsBackUptoRow : OpenClaim := { program := "ytfhldihmadajpaa", sum := "1ad0763f09813bcc3b92559ca54c58f0e5641cd30656f38d7579dab1398de867", func := "inarch/inarchlaw19.PostsBack", spec := "postsBack", unfollowed := true, recurses := true, loops := true, apart := false, narrowed := true }
def PostsBackUptoSaid : Prop := postsBackUptoRow.holds Try.pinned (OpenSpec.upto postsBackSpec)

end Rows
end Go.Proofs.Ytfhldihmadajpaa
