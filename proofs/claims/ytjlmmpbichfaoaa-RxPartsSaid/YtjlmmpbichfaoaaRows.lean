/-
  No cell of these rows narrows 'for every input' (looked for: loops, veiled, ifaces, maps, wideKeys, modest, calm, conditions, laid).
  DERIVED. THE GIVEN ROWS OF THIS SEAT. 2 by the template 'for every input the law returns true; each argument reads behind the call as it read before'; 0 by the template 'total and deterministic' (their statements: YtjlmmpbichfaoaaTotals.lean).
  GIVEN WITH THE SEED: the statements are not yours to turn. If you find one false, say at which input.
  Laid BY PROGRAM, IN A SANDBOX (cutbox-rows.mjs): the forced cells as the released guide's own fill.sh prints them over the translation 7ed72b6a80185e11… (all of the seat's roots in one cut). By AI agents, Wed Nov 11 2026. No macro, syntax, notation, axiom, sorry.
-/
import Derived.Test.YtjlmmpbichfaoaaChecked
import GoSem.Claim
import GoSem.ClaimJoined
import GoSem.ClaimMapViews
import Derived.JoinedTies
import Derived.KernelRfl
namespace Go.Proofs.Ytjlmmpbichfaoaa
/- THE CELL 'sum', in the pinned program and in every row, IS THE sha256 OF THE DUMP (.gsa) THAT YtjlmmpbichfaoaaProg.lean LOADS. Nothing in Lean hashes anything: it is a label: what it is worth is what the hold of that sum in a sandbox is worth. -/
noncomputable def Try.pinned : Pinned := { name := "ytjlmmpbichfaoaa", sum := "7ed72b6a80185e1176cb19b3e8dcb5e171ab1a1003d996c1f570f074122d650f", checked := Try.checked }
namespace Rows
def none {H : Type} : Left H := { results := [], args := [] }

/-- 'facsimilelaw07.RxMakes': WHATEVER THE INPUT: true; the input reads as it did. -/
def rxMakesSpec : ChangeSpec := { name := "rxMakes", fn := fun _ => fun
  | [d1, d2, d3] => { results := [.lit (.bool true)], args := [d1, d2, d3] }
  | _ => none }
def rxMakesRow : OpenClaim := { program := "ytjlmmpbichfaoaa", sum := "7ed72b6a80185e1176cb19b3e8dcb5e171ab1a1003d996c1f570f074122d650f", func := "facsimile/facsimilelaw07.RxMakes", spec := "rxMakes", unfollowed := true, recurses := true, apart := false }
def RxMakesSaid : Prop := rxMakesRow.holds Try.pinned (OpenSpec.ofChange rxMakesSpec)

/-- ITS FALSE NEIGHBOUR: 'it returns false'. Refute it at one input. -/
def rxMakesWrong : ChangeSpec := { name := "rxMakes", fn := fun _ => fun
  | [d1, d2, d3] => { results := [.lit (.bool false)], args := [d1, d2, d3] }
  | _ => none }
def RxMakesWrongFalsely : Prop := rxMakesRow.holds Try.pinned (OpenSpec.ofChange rxMakesWrong)

/-- 'facsimilelaw07.RxParts': WHATEVER THE INPUT: true; the input reads as it did. -/
def rxPartsSpec : ChangeSpec := { name := "rxParts", fn := fun _ => fun
  | [d1, d2] => { results := [.lit (.bool true)], args := [d1, d2] }
  | _ => none }
def rxPartsRow : OpenClaim := { program := "ytjlmmpbichfaoaa", sum := "7ed72b6a80185e1176cb19b3e8dcb5e171ab1a1003d996c1f570f074122d650f", func := "facsimile/facsimilelaw07.RxParts", spec := "rxParts", unfollowed := true, recurses := true, apart := false }
def RxPartsSaid : Prop := rxPartsRow.holds Try.pinned (OpenSpec.ofChange rxPartsSpec)

/-- ITS FALSE NEIGHBOUR: 'it returns false'. Refute it at one input. -/
def rxPartsWrong : ChangeSpec := { name := "rxParts", fn := fun _ => fun
  | [d1, d2] => { results := [.lit (.bool false)], args := [d1, d2] }
  | _ => none }
def RxPartsWrongFalsely : Prop := rxPartsRow.holds Try.pinned (OpenSpec.ofChange rxPartsWrong)

/- THE SECOND FORM. 'bulk': how many values and letters a reading holds, each counted each time it is reached (what is shared counts as often as it is met; a slice's spare places count too). A statement '..UptoSaid' is the law's where the arguments, and the package variables that the reading takes, are together of bulk at most 1048576: NARROWER than '..Said'. Prove '..Said' where nothing that the law and all that it calls make is longer than what came in: it says more and counts as full. Else prove '..UptoSaid'. A law counts once. -/
mutual
def uptoBulk {H : Type} : DataW H → Nat
  | .lit (.string bytes) => bytes.length + 1
  | .lit _ => 1
  | .nil => 1
  | .ptr d => uptoBulk d + 1
  | .slice elems spare => uptoBulkAll elems + uptoBulkAll spare + 1
  | .agg parts => uptoBulkAll parts + 1
  | .iface _ d => uptoBulk d + 1
  | .map entries => uptoBulkEntries entries + 1
  | .held _ => 1
def uptoBulkAll {H : Type} : List (DataW H) → Nat
  | [] => 0
  | d :: r => uptoBulk d + uptoBulkAll r
def uptoBulkEntries {H : Type} : List (Lit × DataW H) → Nat
  | [] => 0
  | x :: r => uptoBulkEntry x + uptoBulkEntries r
def uptoBulkEntry {H : Type} : Lit × DataW H → Nat
  | (.string bytes, d) => bytes.length + uptoBulk d + 1
  | (_, d) => uptoBulk d + 1
 end
def uptoSmall : (H : Type) → List (DataW H) → Bool := fun _ ds => decide (uptoBulkAll ds ≤ 1048576)
def OpenSpec.upto (s : _root_.Go.ChangeSpec) : _root_.Go.OpenSpec := { _root_.Go.OpenSpec.ofChange s with cond := some uptoSmall }

/-- 'facsimilelaw07.RxMakes', WHERE WHAT IT READS IS OF BULK AT MOST 1048576: true; the input reads as it did. -/
def rxMakesUptoRow : OpenClaim := { program := "ytjlmmpbichfaoaa", sum := "7ed72b6a80185e1176cb19b3e8dcb5e171ab1a1003d996c1f570f074122d650f", func := "facsimile/facsimilelaw07.RxMakes", spec := "rxMakes", unfollowed := true, recurses := true, apart := false, narrowed := true }
def RxMakesUptoSaid : Prop := rxMakesUptoRow.holds Try.pinned (OpenSpec.upto rxMakesSpec)

/-- 'facsimilelaw07.RxParts', WHERE WHAT IT READS IS OF BULK AT MOST 1048576: true; the input reads as it did. -/
def rxPartsUptoRow : OpenClaim := { program := "ytjlmmpbichfaoaa", sum := "7ed72b6a80185e1176cb19b3e8dcb5e171ab1a1003d996c1f570f074122d650f", func := "facsimile/facsimilelaw07.RxParts", spec := "rxParts", unfollowed := true, recurses := true, apart := false, narrowed := true }
def RxPartsUptoSaid : Prop := rxPartsUptoRow.holds Try.pinned (OpenSpec.upto rxPartsSpec)

end Rows
end Go.Proofs.Ytjlmmpbichfaoaa
