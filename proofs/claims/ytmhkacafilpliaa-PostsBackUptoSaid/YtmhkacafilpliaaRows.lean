/-
  NARROWER THAN 'FOR EVERY INPUT', by the rows' own cells (each row's printed sentence says how): PostsOf: loops · EditsFar: loops · EditsBound: loops · PostsBack: loops · EditsApart: loops · EditsOne: loops · AlikesNear: loops · AlikesSelf: loops.
  DERIVED. THE GIVEN ROWS OF THIS SEAT. 9 by the template 'for every input the law returns true; each argument reads behind the call as it read before'; 0 by the template 'total and deterministic' (their statements: YtmhkacafilpliaaTotals.lean).
  GIVEN WITH THE SEED: the statements are not yours to turn. If you find one false, say at which input.
  Laid BY PROGRAM, IN A SANDBOX (cutbox-rows.mjs): the forced cells as the released guide's own fill.sh prints them over the translation fdc269889f03b3cc… (all of the seat's roots in one cut). By AI agents, Wed Nov 11 2026. No macro, syntax, notation, axiom, sorry.
-/
import Derived.Test.YtmhkacafilpliaaChecked
import GoSem.Claim
import GoSem.ClaimJoined
import GoSem.ClaimMapViews
import Derived.JoinedTies
import Derived.KernelRfl
namespace Go.Proofs.Ytmhkacafilpliaa
/- THE CELL 'sum', in the pinned program and in every row, IS THE sha256 OF THE DUMP (.gsa) THAT YtmhkacafilpliaaProg.lean LOADS. Nothing in Lean hashes anything: it is a label: what it is worth is what the hold of that sum in a sandbox is worth. -/
noncomputable def Try.pinned : Pinned := { name := "ytmhkacafilpliaa", sum := "fdc269889f03b3cc6ae4843f3aec20252a2adbe22c38bbb47be2ecb2da8e1e7c", checked := Try.checked }
namespace Rows
def none {H : Type} : Left H := { results := [], args := [] }

/-- 'inarchlaw19.PostsOf': WHATEVER THE INPUT: true; the input reads as it did. -/
def postsOfSpec : ChangeSpec := { name := "postsOf", fn := fun _ => fun
  | [d1, d2] => { results := [.lit (.bool true)], args := [d1, d2] }
  | _ => none }
def postsOfRow : OpenClaim := { program := "ytmhkacafilpliaa", sum := "fdc269889f03b3cc6ae4843f3aec20252a2adbe22c38bbb47be2ecb2da8e1e7c", func := "inarch/inarchlaw19.PostsOf", spec := "postsOf", unfollowed := true, recurses := true, loops := true, plainKeys := false, apart := false }
def PostsOfSaid : Prop := postsOfRow.holds Try.pinned (OpenSpec.ofChange postsOfSpec)

/-- ITS FALSE NEIGHBOUR: 'it returns false'. Refute it at one input. -/
def postsOfWrong : ChangeSpec := { name := "postsOf", fn := fun _ => fun
  | [d1, d2] => { results := [.lit (.bool false)], args := [d1, d2] }
  | _ => none }
def PostsOfWrongFalsely : Prop := postsOfRow.holds Try.pinned (OpenSpec.ofChange postsOfWrong)

/-- 'inarchlaw19.PostsPart': WHATEVER THE INPUT: true; the input reads as it did. -/
def postsPartSpec : ChangeSpec := { name := "postsPart", fn := fun _ => fun
  | [d1, d2] => { results := [.lit (.bool true)], args := [d1, d2] }
  | _ => none }
def postsPartRow : OpenClaim := { program := "ytmhkacafilpliaa", sum := "fdc269889f03b3cc6ae4843f3aec20252a2adbe22c38bbb47be2ecb2da8e1e7c", func := "inarch/inarchlaw19.PostsPart", spec := "postsPart", unfollowed := true, recurses := true, plainKeys := false, apart := false }
def PostsPartSaid : Prop := postsPartRow.holds Try.pinned (OpenSpec.ofChange postsPartSpec)

/-- ITS FALSE NEIGHBOUR: 'it returns false'. Refute it at one input. -/
def postsPartWrong : ChangeSpec := { name := "postsPart", fn := fun _ => fun
  | [d1, d2] => { results := [.lit (.bool false)], args := [d1, d2] }
  | _ => none }
def PostsPartWrongFalsely : Prop := postsPartRow.holds Try.pinned (OpenSpec.ofChange postsPartWrong)

/-- 'inarchlaw20.EditsFar': WHATEVER THE INPUT: true; the input reads as it did. -/
def editsFarSpec : ChangeSpec := { name := "editsFar", fn := fun _ => fun
  | [d1, d2, d3] => { results := [.lit (.bool true)], args := [d1, d2, d3] }
  | _ => none }
def editsFarRow : OpenClaim := { program := "ytmhkacafilpliaa", sum := "fdc269889f03b3cc6ae4843f3aec20252a2adbe22c38bbb47be2ecb2da8e1e7c", func := "inarch/inarchlaw20.EditsFar", spec := "editsFar", unfollowed := true, recurses := true, loops := true, plainKeys := false, apart := false }
def EditsFarSaid : Prop := editsFarRow.holds Try.pinned (OpenSpec.ofChange editsFarSpec)

/-- ITS FALSE NEIGHBOUR: 'it returns false'. Refute it at one input. -/
def editsFarWrong : ChangeSpec := { name := "editsFar", fn := fun _ => fun
  | [d1, d2, d3] => { results := [.lit (.bool false)], args := [d1, d2, d3] }
  | _ => none }
def EditsFarWrongFalsely : Prop := editsFarRow.holds Try.pinned (OpenSpec.ofChange editsFarWrong)

/-- 'inarchlaw20.EditsBound': WHATEVER THE INPUT: true; the input reads as it did. -/
def editsBoundSpec : ChangeSpec := { name := "editsBound", fn := fun _ => fun
  | [d1, d2, d3] => { results := [.lit (.bool true)], args := [d1, d2, d3] }
  | _ => none }
def editsBoundRow : OpenClaim := { program := "ytmhkacafilpliaa", sum := "fdc269889f03b3cc6ae4843f3aec20252a2adbe22c38bbb47be2ecb2da8e1e7c", func := "inarch/inarchlaw20.EditsBound", spec := "editsBound", unfollowed := true, recurses := true, loops := true, plainKeys := false, apart := false }
def EditsBoundSaid : Prop := editsBoundRow.holds Try.pinned (OpenSpec.ofChange editsBoundSpec)

/-- ITS FALSE NEIGHBOUR: 'it returns false'. Refute it at one input. -/
def editsBoundWrong : ChangeSpec := { name := "editsBound", fn := fun _ => fun
  | [d1, d2, d3] => { results := [.lit (.bool false)], args := [d1, d2, d3] }
  | _ => none }
def EditsBoundWrongFalsely : Prop := editsBoundRow.holds Try.pinned (OpenSpec.ofChange editsBoundWrong)

/-- 'inarchlaw19.PostsBack': WHATEVER THE INPUT: true; the input reads as it did. -/
def postsBackSpec : ChangeSpec := { name := "postsBack", fn := fun _ => fun
  | [d1, d2] => { results := [.lit (.bool true)], args := [d1, d2] }
  | _ => none }
def postsBackRow : OpenClaim := { program := "ytmhkacafilpliaa", sum := "fdc269889f03b3cc6ae4843f3aec20252a2adbe22c38bbb47be2ecb2da8e1e7c", func := "inarch/inarchlaw19.PostsBack", spec := "postsBack", unfollowed := true, recurses := true, loops := true, plainKeys := false, apart := false }
def PostsBackSaid : Prop := postsBackRow.holds Try.pinned (OpenSpec.ofChange postsBackSpec)

/-- ITS FALSE NEIGHBOUR: 'it returns false'. Refute it at one input. -/
def postsBackWrong : ChangeSpec := { name := "postsBack", fn := fun _ => fun
  | [d1, d2] => { results := [.lit (.bool false)], args := [d1, d2] }
  | _ => none }
def PostsBackWrongFalsely : Prop := postsBackRow.holds Try.pinned (OpenSpec.ofChange postsBackWrong)

/-- 'inarchlaw20.EditsApart': WHATEVER THE INPUT: true; the input reads as it did. -/
def editsApartSpec : ChangeSpec := { name := "editsApart", fn := fun _ => fun
  | [d1, d2] => { results := [.lit (.bool true)], args := [d1, d2] }
  | _ => none }
def editsApartRow : OpenClaim := { program := "ytmhkacafilpliaa", sum := "fdc269889f03b3cc6ae4843f3aec20252a2adbe22c38bbb47be2ecb2da8e1e7c", func := "inarch/inarchlaw20.EditsApart", spec := "editsApart", unfollowed := true, recurses := true, loops := true, plainKeys := false, apart := false }
def EditsApartSaid : Prop := editsApartRow.holds Try.pinned (OpenSpec.ofChange editsApartSpec)

/-- ITS FALSE NEIGHBOUR: 'it returns false'. Refute it at one input. -/
def editsApartWrong : ChangeSpec := { name := "editsApart", fn := fun _ => fun
  | [d1, d2] => { results := [.lit (.bool false)], args := [d1, d2] }
  | _ => none }
def EditsApartWrongFalsely : Prop := editsApartRow.holds Try.pinned (OpenSpec.ofChange editsApartWrong)

/-- 'inarchlaw20.EditsOne': WHATEVER THE INPUT: true; the input reads as it did. -/
def editsOneSpec : ChangeSpec := { name := "editsOne", fn := fun _ => fun
  | [d1, d2, d3] => { results := [.lit (.bool true)], args := [d1, d2, d3] }
  | _ => none }
def editsOneRow : OpenClaim := { program := "ytmhkacafilpliaa", sum := "fdc269889f03b3cc6ae4843f3aec20252a2adbe22c38bbb47be2ecb2da8e1e7c", func := "inarch/inarchlaw20.EditsOne", spec := "editsOne", unfollowed := true, recurses := true, loops := true, plainKeys := false, apart := false }
def EditsOneSaid : Prop := editsOneRow.holds Try.pinned (OpenSpec.ofChange editsOneSpec)

/-- ITS FALSE NEIGHBOUR: 'it returns false'. Refute it at one input. -/
def editsOneWrong : ChangeSpec := { name := "editsOne", fn := fun _ => fun
  | [d1, d2, d3] => { results := [.lit (.bool false)], args := [d1, d2, d3] }
  | _ => none }
def EditsOneWrongFalsely : Prop := editsOneRow.holds Try.pinned (OpenSpec.ofChange editsOneWrong)

/-- 'inarchlaw21.AlikesNear': WHATEVER THE INPUT: true; the input reads as it did. -/
def alikesNearSpec : ChangeSpec := { name := "alikesNear", fn := fun _ => fun
  | [d1, d2] => { results := [.lit (.bool true)], args := [d1, d2] }
  | _ => none }
def alikesNearRow : OpenClaim := { program := "ytmhkacafilpliaa", sum := "fdc269889f03b3cc6ae4843f3aec20252a2adbe22c38bbb47be2ecb2da8e1e7c", func := "inarch/inarchlaw21.AlikesNear", spec := "alikesNear", unfollowed := true, recurses := true, loops := true, plainKeys := false, apart := false }
def AlikesNearSaid : Prop := alikesNearRow.holds Try.pinned (OpenSpec.ofChange alikesNearSpec)

/-- ITS FALSE NEIGHBOUR: 'it returns false'. Refute it at one input. -/
def alikesNearWrong : ChangeSpec := { name := "alikesNear", fn := fun _ => fun
  | [d1, d2] => { results := [.lit (.bool false)], args := [d1, d2] }
  | _ => none }
def AlikesNearWrongFalsely : Prop := alikesNearRow.holds Try.pinned (OpenSpec.ofChange alikesNearWrong)

/-- 'inarchlaw21.AlikesSelf': WHATEVER THE INPUT: true; the input reads as it did. -/
def alikesSelfSpec : ChangeSpec := { name := "alikesSelf", fn := fun _ => fun
  | [d1, d2, d3] => { results := [.lit (.bool true)], args := [d1, d2, d3] }
  | _ => none }
def alikesSelfRow : OpenClaim := { program := "ytmhkacafilpliaa", sum := "fdc269889f03b3cc6ae4843f3aec20252a2adbe22c38bbb47be2ecb2da8e1e7c", func := "inarch/inarchlaw21.AlikesSelf", spec := "alikesSelf", unfollowed := true, recurses := true, loops := true, plainKeys := false, apart := false }
def AlikesSelfSaid : Prop := alikesSelfRow.holds Try.pinned (OpenSpec.ofChange alikesSelfSpec)

/-- ITS FALSE NEIGHBOUR: 'it returns false'. Refute it at one input. -/
def alikesSelfWrong : ChangeSpec := { name := "alikesSelf", fn := fun _ => fun
  | [d1, d2, d3] => { results := [.lit (.bool false)], args := [d1, d2, d3] }
  | _ => none }
def AlikesSelfWrongFalsely : Prop := alikesSelfRow.holds Try.pinned (OpenSpec.ofChange alikesSelfWrong)

/- THE SECOND FORM. 'bulk': how many values and letters a reading holds, each counted each time it is reached (what is shared counts as often as it is met; a slice's spare places count too). A statement '..UptoSaid' is the law's where the arguments, and the package variables that the reading takes, are together of bulk at most 1048576: NARROWER than '..Said'. Prove '..Said' where nothing that the law and all that it calls make is longer than what came in: it says more and counts as full. Else prove '..UptoSaid'. A law counts once. -/
mutual
def uptoBulk {H : Type} : DataW H → Nat
  | .lit (.string bytes) => bytes.length + 1
  | .lit _ => 1
  | .nil => 1
  | .ptr d => uptoBulk d + 1
  | .slice elems spare => uptoBulkAll elems + uptoBulkAll spare + 1
  | .agg parts => uptoBulkAll parts + 1
  | .iface _ d => uptoBulk d + 1
  | .map entries => uptoBulkEntries entries + 1
  | .held _ => 1
def uptoBulkAll {H : Type} : List (DataW H) → Nat
  | [] => 0
  | d :: r => uptoBulk d + uptoBulkAll r
def uptoBulkEntries {H : Type} : List (Lit × DataW H) → Nat
  | [] => 0
  | x :: r => uptoBulkEntry x + uptoBulkEntries r
def uptoBulkEntry {H : Type} : Lit × DataW H → Nat
  | (.string bytes, d) => bytes.length + uptoBulk d + 1
  | (_, d) => uptoBulk d + 1
 end
def uptoSmall : (H : Type) → List (DataW H) → Bool := fun _ ds => decide (uptoBulkAll ds ≤ 1048576)
def OpenSpec.upto (s : _root_.Go.ChangeSpec) : _root_.Go.OpenSpec := { _root_.Go.OpenSpec.ofChange s with cond := some uptoSmall }

/-- 'inarchlaw19.PostsOf', WHERE WHAT IT READS IS OF BULK AT MOST 1048576: true; the input reads as it did. -/
def postsOfUptoRow : OpenClaim := { program := "ytmhkacafilpliaa", sum := "fdc269889f03b3cc6ae4843f3aec20252a2adbe22c38bbb47be2ecb2da8e1e7c", func := "inarch/inarchlaw19.PostsOf", spec := "postsOf", unfollowed := true, recurses := true, loops := true, plainKeys := false, apart := false, narrowed := true }
def PostsOfUptoSaid : Prop := postsOfUptoRow.holds Try.pinned (OpenSpec.upto postsOfSpec)

/-- 'inarchlaw19.PostsPart', WHERE WHAT IT READS IS OF BULK AT MOST 1048576: true; the input reads as it did. -/
def postsPartUptoRow : OpenClaim := { program := "ytmhkacafilpliaa", sum := "fdc269889f03b3cc6ae4843f3aec20252a2adbe22c38bbb47be2ecb2da8e1e7c", func := "inarch/inarchlaw19.PostsPart", spec := "postsPart", unfollowed := true, recurses := true, plainKeys := false, apart := false, narrowed := true }
def PostsPartUptoSaid : Prop := postsPartUptoRow.holds Try.pinned (OpenSpec.upto postsPartSpec)

/-- 'inarchlaw20.EditsFar', WHERE WHAT IT READS IS OF BULK AT MOST 1048576: true; the input reads as it did. -/
def editsFarUptoRow : OpenClaim := { program := "ytmhkacafilpliaa", sum := "fdc269889f03b3cc6ae4843f3aec20252a2adbe22c38bbb47be2ecb2da8e1e7c", func := "inarch/inarchlaw20.EditsFar", spec := "editsFar", unfollowed := true, recurses := true, loops := true, plainKeys := false, apart := false, narrowed := true }
def EditsFarUptoSaid : Prop := editsFarUptoRow.holds Try.pinned (OpenSpec.upto editsFarSpec)

/-- 'inarchlaw20.EditsBound', WHERE WHAT IT READS IS OF BULK AT MOST 1048576: true; the input reads as it did. -/
def editsBoundUptoRow : OpenClaim := { program := "ytmhkacafilpliaa", sum := "fdc269889f03b3cc6ae4843f3aec20252a2adbe22c38bbb47be2ecb2da8e1e7c", func := "inarch/inarchlaw20.EditsBound", spec := "editsBound", unfollowed := true, recurses := true, loops := true, plainKeys := false, apart := false, narrowed := true }
def EditsBoundUptoSaid : Prop := editsBoundUptoRow.holds Try.pinned (OpenSpec.upto editsBoundSpec)

/-- 'inarchlaw19.PostsBack', WHERE WHAT IT READS IS OF BULK AT MOST 1048576: true; the input reads as it did. -/
def postsBackUptoRow : OpenClaim := { program := "ytmhkacafilpliaa", sum := "fdc269889f03b3cc6ae4843f3aec20252a2adbe22c38bbb47be2ecb2da8e1e7c", func := "inarch/inarchlaw19.PostsBack", spec := "postsBack", unfollowed := true, recurses := true, loops := true, plainKeys := false, apart := false, narrowed := true }
def PostsBackUptoSaid : Prop := postsBackUptoRow.holds Try.pinned (OpenSpec.upto postsBackSpec)

/-- 'inarchlaw20.EditsApart', WHERE WHAT IT READS IS OF BULK AT MOST 1048576: true; the input reads as it did. -/
def editsApartUptoRow : OpenClaim := { program := "ytmhkacafilpliaa", sum := "fdc269889f03b3cc6ae4843f3aec20252a2adbe22c38bbb47be2ecb2da8e1e7c", func := "inarch/inarchlaw20.EditsApart", spec := "editsApart", unfollowed := true, recurses := true, loops := true, plainKeys := false, apart := false, narrowed := true }
def EditsApartUptoSaid : Prop := editsApartUptoRow.holds Try.pinned (OpenSpec.upto editsApartSpec)

/-- 'inarchlaw20.EditsOne', WHERE WHAT IT READS IS OF BULK AT MOST 1048576: true; the input reads as it did. -/
def editsOneUptoRow : OpenClaim := { program := "ytmhkacafilpliaa", sum := "fdc269889f03b3cc6ae4843f3aec20252a2adbe22c38bbb47be2ecb2da8e1e7c", func := "inarch/inarchlaw20.EditsOne", spec := "editsOne", unfollowed := true, recurses := true, loops := true, plainKeys := false, apart := false, narrowed := true }
def EditsOneUptoSaid : Prop := editsOneUptoRow.holds Try.pinned (OpenSpec.upto editsOneSpec)

/-- 'inarchlaw21.AlikesNear', WHERE WHAT IT READS IS OF BULK AT MOST 1048576: true; the input reads as it did. -/
def alikesNearUptoRow : OpenClaim := { program := "ytmhkacafilpliaa", sum := "fdc269889f03b3cc6ae4843f3aec20252a2adbe22c38bbb47be2ecb2da8e1e7c", func := "inarch/inarchlaw21.AlikesNear", spec := "alikesNear", unfollowed := true, recurses := true, loops := true, plainKeys := false, apart := false, narrowed := true }
def AlikesNearUptoSaid : Prop := alikesNearUptoRow.holds Try.pinned (OpenSpec.upto alikesNearSpec)

/-- 'inarchlaw21.AlikesSelf', WHERE WHAT IT READS IS OF BULK AT MOST 1048576: true; the input reads as it did. -/
def alikesSelfUptoRow : OpenClaim := { program := "ytmhkacafilpliaa", sum := "fdc269889f03b3cc6ae4843f3aec20252a2adbe22c38bbb47be2ecb2da8e1e7c", func := "inarch/inarchlaw21.AlikesSelf", spec := "alikesSelf", unfollowed := true, recurses := true, loops := true, plainKeys := false, apart := false, narrowed := true }
def AlikesSelfUptoSaid : Prop := alikesSelfUptoRow.holds Try.pinned (OpenSpec.upto alikesSelfSpec)

end Rows
end Go.Proofs.Ytmhkacafilpliaa
