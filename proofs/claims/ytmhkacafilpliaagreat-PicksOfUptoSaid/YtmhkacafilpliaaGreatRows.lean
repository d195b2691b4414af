/-
  NARROWER THAN 'FOR EVERY INPUT', by the rows' own cells (each row's printed sentence says how): AlikesAny: loops · PicksOf: loops · PicksOne: loops · PicksRest: loops.
  DERIVED. THE GIVEN ROWS OF THIS SEAT. 4 by the template 'for every input the law returns true; each argument reads behind the call as it read before'; 0 by the template 'total and deterministic' (their statements: YtmhkacafilpliaaGreatTotals.lean).
  GIVEN WITH THE SEED: the statements are not yours to turn. If you find one false, say at which input.
  Laid BY PROGRAM, IN A SANDBOX (cutbox-rows.mjs): the forced cells as the released guide's own fill.sh prints them over the translation 14f3c3e5ef548326… (all of the seat's roots in one cut). By AI agents, Wed Nov 11 2026. No macro, syntax, notation, axiom, sorry.
-/
import Derived.Test.YtmhkacafilpliaaGreatChecked
import GoSem.Claim
import GoSem.ClaimJoined
import GoSem.ClaimMapViews
import Derived.JoinedTies
import Derived.KernelRfl
namespace Go.Proofs.YtmhkacafilpliaaGreat
/- THE CELL 'sum', in the pinned program and in every row, IS THE sha256 OF THE DUMP (.gsa) THAT YtmhkacafilpliaaGreatProg.lean LOADS. Nothing in Lean hashes anything: it is a label: what it is worth is what the hold of that sum in a sandbox is worth. -/
noncomputable def Tryz.pinned : Pinned := { name := "ytmhkacafilpliaagreat", sum := "14f3c3e5ef54832639571537582180dfb6f78c07ef5c6eb67ac4c1a05de042ee", checked := Tryz.checked }
namespace Rows
def none {H : Type} : Left H := { results := [], args := [] }

/-- 'inarchlaw21.AlikesAny': WHATEVER THE INPUT: true; the input reads as it did. -/
def alikesAnySpec : ChangeSpec := { name := "alikesAny", fn := fun _ => fun
  | [d1, d2] => { results := [.lit (.bool true)], args := [d1, d2] }
  | _ => none }
def alikesAnyRow : OpenClaim := { program := "ytmhkacafilpliaagreat", sum := "14f3c3e5ef54832639571537582180dfb6f78c07ef5c6eb67ac4c1a05de042ee", func := "inarch/inarchlaw21.AlikesAny", spec := "alikesAny", unfollowed := true, recurses := true, loops := true, plainKeys := false, apart := false }
def AlikesAnySaid : Prop := alikesAnyRow.holds Tryz.pinned (OpenSpec.ofChange alikesAnySpec)

/-- ITS FALSE NEIGHBOUR: 'it returns false'. Refute it at one input. -/
def alikesAnyWrong : ChangeSpec := { name := "alikesAny", fn := fun _ => fun
  | [d1, d2] => { results := [.lit (.bool false)], args := [d1, d2] }
  | _ => none }
def AlikesAnyWrongFalsely : Prop := alikesAnyRow.holds Tryz.pinned (OpenSpec.ofChange alikesAnyWrong)

/-- 'inarchlaw29.PicksOf': WHATEVER THE INPUT: true; the input reads as it did. -/
def picksOfSpec : ChangeSpec := { name := "picksOf", fn := fun _ => fun
  | [d1, d2, d3] => { results := [.lit (.bool true)], args := [d1, d2, d3] }
  | _ => none }
def picksOfRow : OpenClaim := { program := "ytmhkacafilpliaagreat", sum := "14f3c3e5ef54832639571537582180dfb6f78c07ef5c6eb67ac4c1a05de042ee", func := "inarch/inarchlaw29.PicksOf", spec := "picksOf", unfollowed := true, recurses := true, loops := true, plainKeys := false, apart := false }
def PicksOfSaid : Prop := picksOfRow.holds Tryz.pinned (OpenSpec.ofChange picksOfSpec)

/-- ITS FALSE NEIGHBOUR: 'it returns false'. Refute it at one input. -/
def picksOfWrong : ChangeSpec := { name := "picksOf", fn := fun _ => fun
  | [d1, d2, d3] => { results := [.lit (.bool false)], args := [d1, d2, d3] }
  | _ => none }
def PicksOfWrongFalsely : Prop := picksOfRow.holds Tryz.pinned (OpenSpec.ofChange picksOfWrong)

/-- 'inarchlaw29.PicksOne': WHATEVER THE INPUT: true; the input reads as it did. -/
def picksOneSpec : ChangeSpec := { name := "picksOne", fn := fun _ => fun
  | [d1, d2, d3] => { results := [.lit (.bool true)], args := [d1, d2, d3] }
  | _ => none }
def picksOneRow : OpenClaim := { program := "ytmhkacafilpliaagreat", sum := "14f3c3e5ef54832639571537582180dfb6f78c07ef5c6eb67ac4c1a05de042ee", func := "inarch/inarchlaw29.PicksOne", spec := "picksOne", unfollowed := true, recurses := true, loops := true, plainKeys := false, apart := false }
def PicksOneSaid : Prop := picksOneRow.holds Tryz.pinned (OpenSpec.ofChange picksOneSpec)

/-- ITS FALSE NEIGHBOUR: 'it returns false'. Refute it at one input. -/
def picksOneWrong : ChangeSpec := { name := "picksOne", fn := fun _ => fun
  | [d1, d2, d3] => { results := [.lit (.bool false)], args := [d1, d2, d3] }
  | _ => none }
def PicksOneWrongFalsely : Prop := picksOneRow.holds Tryz.pinned (OpenSpec.ofChange picksOneWrong)

/-- 'inarchlaw29.PicksRest': WHATEVER THE INPUT: true; the input reads as it did. -/
def picksRestSpec : ChangeSpec := { name := "picksRest", fn := fun _ => fun
  | [d1, d2] => { results := [.lit (.bool true)], args := [d1, d2] }
  | _ => none }
def picksRestRow : OpenClaim := { program := "ytmhkacafilpliaagreat", sum := "14f3c3e5ef54832639571537582180dfb6f78c07ef5c6eb67ac4c1a05de042ee", func := "inarch/inarchlaw29.PicksRest", spec := "picksRest", unfollowed := true, recurses := true, loops := true, plainKeys := false, apart := false }
def PicksRestSaid : Prop := picksRestRow.holds Tryz.pinned (OpenSpec.ofChange picksRestSpec)

/-- ITS FALSE NEIGHBOUR: 'it returns false'. Refute it at one input. -/
def picksRestWrong : ChangeSpec := { name := "picksRest", fn := fun _ => fun
  | [d1, d2] => { results := [.lit (.bool false)], args := [d1, d2] }
  | _ => none }
def PicksRestWrongFalsely : Prop := picksRestRow.holds Tryz.pinned (OpenSpec.ofChange picksRestWrong)

/- THE SECOND FORM. 'bulk': how many values and letters a reading holds, each counted each time it is reached (what is shared counts as often as it is met; a slice's spare places count too). A statement '..UptoSaid' is the law's where the arguments, and the package variables that the reading takes, are together of bulk at most 1048576: NARROWER than '..Said'. Prove '..Said' where nothing that the law and all that it calls make is longer than what came in: it says more and counts as full. Else prove '..UptoSaid'. A law counts once. -/
mutual
def uptoBulk {H : Type} : DataW H → Nat
  | .lit (.string bytes) => bytes.length + 1
  | .lit _ => 1
  | .nil => 1
  | .ptr d => uptoBulk d + 1
  | .slice elems spare => uptoBulkAll elems + uptoBulkAll spare + 1
  | .agg parts => uptoBulkAll parts + 1
  | .iface _ d => uptoBulk d + 1
  | .map entries => uptoBulkEntries entries + 1
  | .held _ => 1
def uptoBulkAll {H : Type} : List (DataW H) → Nat
  | [] => 0
  | d :: r => uptoBulk d + uptoBulkAll r
def uptoBulkEntries {H : Type} : List (Lit × DataW H) → Nat
  | [] => 0
  | x :: r => uptoBulkEntry x + uptoBulkEntries r
def uptoBulkEntry {H : Type} : Lit × DataW H → Nat
  | (.string bytes, d) => bytes.length + uptoBulk d + 1
  | (_, d) => uptoBulk d + 1
 end
def uptoSmall : (H : Type) → List (DataW H) → Bool := fun _ ds => decide (uptoBulkAll ds ≤ 1048576)
def OpenSpec.upto (s : _root_.Go.ChangeSpec) : _root_.Go.OpenSpec := { _root_.Go.OpenSpec.ofChange s with cond := some uptoSmall }

/-- 'inarchlaw21.AlikesAny', WHERE WHAT IT READS IS OF BULK AT MOST 1048576: true; the input reads as it did. -/
def alikesAnyUptoRow : OpenClaim := { program := "ytmhkacafilpliaagreat", sum := "14f3c3e5ef54832639571537582180dfb6f78c07ef5c6eb67ac4c1a05de042ee", func := "inarch/inarchlaw21.AlikesAny", spec := "alikesAny", unfollowed := true, recurses := true, loops := true, plainKeys := false, apart := false, narrowed := true }
def AlikesAnyUptoSaid : Prop := alikesAnyUptoRow.holds Tryz.pinned (OpenSpec.upto alikesAnySpec)

/-- 'inarchlaw29.PicksOf', WHERE WHAT IT READS IS OF BULK AT MOST 1048576: true; the input reads as it did. -/
def picksOfUptoRow : OpenClaim := { program := "ytmhkacafilpliaagreat", sum := "14f3c3e5ef54832639571537582180dfb6f78c07ef5c6eb67ac4c1a05de042ee", func := "inarch/inarchlaw29.PicksOf", spec := "picksOf", unfollowed := true, recurses := true, loops := true, plainKeys := false, apart := false, narrowed := true }
def PicksOfUptoSaid : Prop := picksOfUptoRow.holds Tryz.pinned (OpenSpec.upto picksOfSpec)

/-- 'inarchlaw29.PicksOne', WHERE WHAT IT READS IS OF BULK AT MOST 1048576: true; the input reads as it did. -/
def picksOneUptoRow : OpenClaim := { program := "ytmhkacafilpliaagreat", sum := "14f3c3e5ef54832639571537582180dfb6f78c07ef5c6eb67ac4c1a05de042ee", func := "inarch/inarchlaw29.PicksOne", spec := "picksOne", unfollowed := true, recurses := true, loops := true, plainKeys := false, apart := false, narrowed := true }
def PicksOneUptoSaid : Prop := picksOneUptoRow.holds Tryz.pinned (OpenSpec.upto picksOneSpec)

/-- 'inarchlaw29.PicksRest', WHERE WHAT IT READS IS OF BULK AT MOST 1048576: true; the input reads as it did. -/
def picksRestUptoRow : OpenClaim := { program := "ytmhkacafilpliaagreat", sum := "14f3c3e5ef54832639571537582180dfb6f78c07ef5c6eb67ac4c1a05de042ee", func := "inarch/inarchlaw29.PicksRest", spec := "picksRest", unfollowed := true, recurses := true, loops := true, plainKeys := false, apart := false, narrowed := true }
def PicksRestUptoSaid : Prop := picksRestUptoRow.holds Tryz.pinned (OpenSpec.upto picksRestSpec)

end Rows
end Go.Proofs.YtmhkacafilpliaaGreat
