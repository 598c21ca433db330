/-
  No cell of these rows narrows 'for every input' (looked for: loops, veiled, ifaces, maps, wideKeys, modest, calm, conditions, laid).
  DERIVED. THE GIVEN ROWS OF THIS SEAT. 4 by the template 'for every input the law returns true; each argument reads behind the call as it read before'; 0 by the template 'total and deterministic' (their statements: YtbefndibkpjgaaaTotals.lean).
  GIVEN WITH THE SEED: the statements are not yours to turn. If you find one false, say at which input.
  Laid BY PROGRAM, IN A SANDBOX (cutbox-rows.mjs): the forced cells as the released guide's own fill.sh prints them over the translation d051d18c2e17b1de… (all of the seat's roots in one cut). By AI agents, Wed Nov 11 2026. No macro, syntax, notation, axiom, sorry.
-/
import Derived.Test.YtbefndibkpjgaaaChecked
import GoSem.Claim
import GoSem.ClaimJoined
import GoSem.ClaimMapViews
import Derived.JoinedTies
import Derived.KernelRfl
namespace Go.Proofs.Ytbefndibkpjgaaa
/- THE CELL 'sum', in the pinned program and in every row, IS THE sha256 OF THE DUMP (.gsa) THAT YtbefndibkpjgaaaProg.lean LOADS. Nothing in Lean hashes anything: it is a label: what it is worth is what the hold of that sum in a sandbox is worth. -/
noncomputable def Try.pinned : Pinned := { name := "ytbefndibkpjgaaa", sum := "d051d18c2e17b1de0d8f194808176d798eb9dcc649a2b5ed1507720a0462ee6c", checked := Try.checked }
namespace Rows
def none {H : Type} : Left H := { results := [], args := [] }

/-- 'facsimilelaw09.RxfactWords': WHATEVER THE INPUT: true; the input reads as it did. -/
def rxfactWordsSpec : ChangeSpec := { name := "rxfactWords", fn := fun _ => fun
  | [d1, d2, d3] => { results := [.lit (.bool true)], args := [d1, d2, d3] }
  | _ => none }
def rxfactWordsRow : OpenClaim := { program := "ytbefndibkpjgaaa", sum := "d051d18c2e17b1de0d8f194808176d798eb9dcc649a2b5ed1507720a0462ee6c", func := "facsimile/facsimilelaw09.RxfactWords", spec := "rxfactWords", unfollowed := true, recurses := true, apart := false }
def RxfactWordsSaid : Prop := rxfactWordsRow.holds Try.pinned (OpenSpec.ofChange rxfactWordsSpec)

/-- ITS FALSE NEIGHBOUR: 'it returns false'. Refute it at one input. -/
def rxfactWordsWrong : ChangeSpec := { name := "rxfactWords", fn := fun _ => fun
  | [d1, d2, d3] => { results := [.lit (.bool false)], args := [d1, d2, d3] }
  | _ => none }
def RxfactWordsWrongFalsely : Prop := rxfactWordsRow.holds Try.pinned (OpenSpec.ofChange rxfactWordsWrong)

/-- 'facsimilelaw09.RxfactAll': WHATEVER THE INPUT: true; the input reads as it did. -/
def rxfactAllSpec : ChangeSpec := { name := "rxfactAll", fn := fun _ => fun
  | [d] => { results := [.lit (.bool true)], args := [d] }
  | _ => none }
def rxfactAllRow : OpenClaim := { program := "ytbefndibkpjgaaa", sum := "d051d18c2e17b1de0d8f194808176d798eb9dcc649a2b5ed1507720a0462ee6c", func := "facsimile/facsimilelaw09.RxfactAll", spec := "rxfactAll", unfollowed := true, recurses := true, apart := false }
def RxfactAllSaid : Prop := rxfactAllRow.holds Try.pinned (OpenSpec.ofChange rxfactAllSpec)

/-- ITS FALSE NEIGHBOUR: 'it returns false'. Refute it at one input. -/
def rxfactAllWrong : ChangeSpec := { name := "rxfactAll", fn := fun _ => fun
  | [d] => { results := [.lit (.bool false)], args := [d] }
  | _ => none }
def RxfactAllWrongFalsely : Prop := rxfactAllRow.holds Try.pinned (OpenSpec.ofChange rxfactAllWrong)

/-- 'facsimilelaw09.RxfactBounds': WHATEVER THE INPUT: true; the input reads as it did. -/
def rxfactBoundsSpec : ChangeSpec := { name := "rxfactBounds", fn := fun _ => fun
  | [d1, d2] => { results := [.lit (.bool true)], args := [d1, d2] }
  | _ => none }
def rxfactBoundsRow : OpenClaim := { program := "ytbefndibkpjgaaa", sum := "d051d18c2e17b1de0d8f194808176d798eb9dcc649a2b5ed1507720a0462ee6c", func := "facsimile/facsimilelaw09.RxfactBounds", spec := "rxfactBounds", unfollowed := true, recurses := true, apart := false }
def RxfactBoundsSaid : Prop := rxfactBoundsRow.holds Try.pinned (OpenSpec.ofChange rxfactBoundsSpec)

/-- ITS FALSE NEIGHBOUR: 'it returns false'. Refute it at one input. -/
def rxfactBoundsWrong : ChangeSpec := { name := "rxfactBounds", fn := fun _ => fun
  | [d1, d2] => { results := [.lit (.bool false)], args := [d1, d2] }
  | _ => none }
def RxfactBoundsWrongFalsely : Prop := rxfactBoundsRow.holds Try.pinned (OpenSpec.ofChange rxfactBoundsWrong)

/-- 'facsimilelaw09.RxfactJoins': WHATEVER THE INPUT: true; the input reads as it did. -/
def rxfactJoinsSpec : ChangeSpec := { name := "rxfactJoins", fn := fun _ => fun
  | [d1, d2, d3, d4] => { results := [.lit (.bool true)], args := [d1, d2, d3, d4] }
  | _ => none }
def rxfactJoinsRow : OpenClaim := { program := "ytbefndibkpjgaaa", sum := "d051d18c2e17b1de0d8f194808176d798eb9dcc649a2b5ed1507720a0462ee6c", func := "facsimile/facsimilelaw09.RxfactJoins", spec := "rxfactJoins", unfollowed := true, recurses := true, apart := false }
def RxfactJoinsSaid : Prop := rxfactJoinsRow.holds Try.pinned (OpenSpec.ofChange rxfactJoinsSpec)

/-- ITS FALSE NEIGHBOUR: 'it returns false'. Refute it at one input. -/
def rxfactJoinsWrong : ChangeSpec := { name := "rxfactJoins", fn := fun _ => fun
  | [d1, d2, d3, d4] => { results := [.lit (.bool false)], args := [d1, d2, d3, d4] }
  | _ => none }
def RxfactJoinsWrongFalsely : Prop := rxfactJoinsRow.holds Try.pinned (OpenSpec.ofChange rxfactJoinsWrong)

/- THE SECOND FORM. 'bulk': how many values and letters a reading holds, each counted each time it is reached (what is shared counts as often as it is met; a slice's spare places count too). A statement '..UptoSaid' is the law's where the arguments, and the package variables that the reading takes, are together of bulk at most 1048576: NARROWER than '..Said'. Prove '..Said' where nothing that the law and all that it calls make is longer than what came in: it says more and counts as full. Else prove '..UptoSaid'. A law counts once. -/
mutual
def uptoBulk {H : Type} : DataW H → Nat
  | .lit (.string bytes) => bytes.length + 1
  | .lit _ => 1
  | .nil => 1
  | .ptr d => uptoBulk d + 1
  | .slice elems spare => uptoBulkAll elems + uptoBulkAll spare + 1
  | .agg parts => uptoBulkAll parts + 1
  | .iface _ d => uptoBulk d + 1
  | .map entries => uptoBulkEntries entries + 1
  | .held _ => 1
def uptoBulkAll {H : Type} : List (DataW H) → Nat
  | [] => 0
  | d :: r => uptoBulk d + uptoBulkAll r
def uptoBulkEntries {H : Type} : List (Lit × DataW H) → Nat
  | [] => 0
  | x :: r => uptoBulkEntry x + uptoBulkEntries r
def uptoBulkEntry {H : Type} : Lit × DataW H → Nat
  | (.string bytes, d) => bytes.length + uptoBulk d + 1
  | (_, d) => uptoBulk d + 1
 end
def uptoSmall : (H : Type) → List (DataW H) → Bool := fun _ ds => decide (uptoBulkAll ds ≤ 1048576)
def OpenSpec.upto (s : _root_.Go.ChangeSpec) : _root_.Go.OpenSpec := { _root_.Go.OpenSpec.ofChange s with cond := some uptoSmall }

/-- 'facsimilelaw09.RxfactWords', WHERE WHAT IT READS IS OF BULK AT MOST 1048576: true; the input reads as it did. -/
def rxfactWordsUptoRow : OpenClaim := { program := "ytbefndibkpjgaaa", sum := "d051d18c2e17b1de0d8f194808176d798eb9dcc649a2b5ed1507720a0462ee6c", func := "facsimile/facsimilelaw09.RxfactWords", spec := "rxfactWords", unfollowed := true, recurses := true, apart := false, narrowed := true }
def RxfactWordsUptoSaid : Prop := rxfactWordsUptoRow.holds Try.pinned (OpenSpec.upto rxfactWordsSpec)

/-- 'facsimilelaw09.RxfactAll', WHERE WHAT IT READS IS OF BULK AT MOST 1048576: true; the input reads as it did. -/
def rxfactAllUptoRow : OpenClaim := { program := "ytbefndibkpjgaaa", sum := "d051d18c2e17b1de0d8f194808176d798eb9dcc649a2b5ed1507720a0462ee6c", func := "facsimile/facsimilelaw09.RxfactAll", spec := "rxfactAll", unfollowed := true, recurses := true, apart := false, narrowed := true }
def RxfactAllUptoSaid : Prop := rxfactAllUptoRow.holds Try.pinned (OpenSpec.upto rxfactAllSpec)

/-- 'facsimilelaw09.RxfactBounds', WHERE WHAT IT READS IS OF BULK AT MOST 1048576: true; the input reads as it did. -/
def rxfactBoundsUptoRow : OpenClaim := { program := "ytbefndibkpjgaaa", sum := "d051d18c2e17b1de0d8f194808176d798eb9dcc649a2b5ed1507720a0462ee6c", func := "facsimile/facsimilelaw09.RxfactBounds", spec := "rxfactBounds", unfollowed := true, recurses := true, apart := false, narrowed := true }
def RxfactBoundsUptoSaid : Prop := rxfactBoundsUptoRow.holds Try.pinned (OpenSpec.upto rxfactBoundsSpec)

/-- 'facsimilelaw09.RxfactJoins', WHERE WHAT IT READS IS OF BULK AT MOST 1048576: true; the input reads as it did. -/
def rxfactJoinsUptoRow : OpenClaim := { program := "ytbefndibkpjgaaa", sum := "d051d18c2e17b1de0d8f194808176d798eb9dcc649a2b5ed1507720a0462ee6c", func := "facsimile/facsimilelaw09.RxfactJoins", spec := "rxfactJoins", unfollowed := true, recurses := true, apart := false, narrowed := true }
def RxfactJoinsUptoSaid : Prop := rxfactJoinsUptoRow.holds Try.pinned (OpenSpec.upto rxfactJoinsSpec)

end Rows
end Go.Proofs.Ytbefndibkpjgaaa
