/-
  No cell of these rows narrows 'for every input' (looked for: loops, veiled, ifaces, maps, wideKeys, modest, calm, conditions, laid).
  DERIVED. THE GIVEN ROWS OF THIS SEAT. 3 by the template 'for every input the law returns true; each argument reads behind the call as it read before'; 0 by the template 'total and deterministic' (their statements: YtdffilenphglgaaTotals.lean).
  GIVEN WITH THE SEED: the statements are not yours to turn. If you find one false, say at which input.
  Laid BY PROGRAM, IN A SANDBOX (cutbox-rows.mjs): the forced cells as the released guide's own fill.sh prints them over the translation 78d00eac2f7de23b… (all of the seat's roots in one cut). By AI agents, Wed Nov 11 2026. No macro, syntax, notation, axiom, sorry.
-/
import Derived.Test.YtdffilenphglgaaChecked
import GoSem.Claim
import GoSem.ClaimJoined
import GoSem.ClaimMapViews
import Derived.JoinedTies
import Derived.KernelRfl
namespace Go.Proofs.Ytdffilenphglgaa
/- THE CELL 'sum', in the pinned program and in every row, IS THE sha256 OF THE DUMP (.gsa) THAT YtdffilenphglgaaProg.lean LOADS. Nothing in Lean hashes anything: it is a label: what it is worth is what the hold of that sum in a sandbox is worth. -/
noncomputable def Try.pinned : Pinned := { name := "ytdffilenphglgaa", sum := "78d00eac2f7de23bcd2b2b607e8b454499680e77103465b068d6b4fa5ad594a8", checked := Try.checked }
namespace Rows
def none {H : Type} : Left H := { results := [], args := [] }

/-- 'facsimilelaw17.LeadWords': WHATEVER THE INPUT: true; the input reads as it did. -/
def leadWordsSpec : ChangeSpec := { name := "leadWords", fn := fun _ => fun
  | [d1, d2, d3] => { results := [.lit (.bool true)], args := [d1, d2, d3] }
  | _ => none }
def leadWordsRow : OpenClaim := { program := "ytdffilenphglgaa", sum := "78d00eac2f7de23bcd2b2b607e8b454499680e77103465b068d6b4fa5ad594a8", func := "facsimile/facsimilelaw17.LeadWords", spec := "leadWords", unfollowed := true, recurses := true, apart := false }
def LeadWordsSaid : Prop := leadWordsRow.holds Try.pinned (OpenSpec.ofChange leadWordsSpec)

/-- ITS FALSE NEIGHBOUR: 'it returns false'. Refute it at one input. -/
def leadWordsWrong : ChangeSpec := { name := "leadWords", fn := fun _ => fun
  | [d1, d2, d3] => { results := [.lit (.bool false)], args := [d1, d2, d3] }
  | _ => none }
def LeadWordsWrongFalsely : Prop := leadWordsRow.holds Try.pinned (OpenSpec.ofChange leadWordsWrong)

/-- 'facsimilelaw17.LeadPieces': WHATEVER THE INPUT: true; the input reads as it did. -/
def leadPiecesSpec : ChangeSpec := { name := "leadPieces", fn := fun _ => fun
  | [d1, d2] => { results := [.lit (.bool true)], args := [d1, d2] }
  | _ => none }
def leadPiecesRow : OpenClaim := { program := "ytdffilenphglgaa", sum := "78d00eac2f7de23bcd2b2b607e8b454499680e77103465b068d6b4fa5ad594a8", func := "facsimile/facsimilelaw17.LeadPieces", spec := "leadPieces", unfollowed := true, recurses := true, apart := false }
def LeadPiecesSaid : Prop := leadPiecesRow.holds Try.pinned (OpenSpec.ofChange leadPiecesSpec)

/-- ITS FALSE NEIGHBOUR: 'it returns false'. Refute it at one input. -/
def leadPiecesWrong : ChangeSpec := { name := "leadPieces", fn := fun _ => fun
  | [d1, d2] => { results := [.lit (.bool false)], args := [d1, d2] }
  | _ => none }
def LeadPiecesWrongFalsely : Prop := leadPiecesRow.holds Try.pinned (OpenSpec.ofChange leadPiecesWrong)

/-- 'facsimilelaw17.LeadBack': WHATEVER THE INPUT: true; the input reads as it did. -/
def leadBackSpec : ChangeSpec := { name := "leadBack", fn := fun _ => fun
  | [d1, d2, d3] => { results := [.lit (.bool true)], args := [d1, d2, d3] }
  | _ => none }
def leadBackRow : OpenClaim := { program := "ytdffilenphglgaa", sum := "78d00eac2f7de23bcd2b2b607e8b454499680e77103465b068d6b4fa5ad594a8", func := "facsimile/facsimilelaw17.LeadBack", spec := "leadBack", unfollowed := true, recurses := true, apart := false }
def LeadBackSaid : Prop := leadBackRow.holds Try.pinned (OpenSpec.ofChange leadBackSpec)

/-- ITS FALSE NEIGHBOUR: 'it returns false'. Refute it at one input. -/
def leadBackWrong : ChangeSpec := { name := "leadBack", fn := fun _ => fun
  | [d1, d2, d3] => { results := [.lit (.bool false)], args := [d1, d2, d3] }
  | _ => none }
def LeadBackWrongFalsely : Prop := leadBackRow.holds Try.pinned (OpenSpec.ofChange leadBackWrong)

/- THE SECOND FORM. 'bulk': how many values and letters a reading holds, each counted each time it is reached (what is shared counts as often as it is met; a slice's spare places count too). A statement '..UptoSaid' is the law's where the arguments, and the package variables that the reading takes, are together of bulk at most 1048576: NARROWER than '..Said'. Prove '..Said' where nothing that the law and all that it calls make is longer than what came in: it says more and counts as full. Else prove '..UptoSaid'. A law counts once. -/
mutual
def uptoBulk {H : Type} : DataW H → Nat
  | .lit (.string bytes) => bytes.length + 1
  | .lit _ => 1
  | .nil => 1
  | .ptr d => uptoBulk d + 1
  | .slice elems spare => uptoBulkAll elems + uptoBulkAll spare + 1
  | .agg parts => uptoBulkAll parts + 1
  | .iface _ d => uptoBulk d + 1
  | .map entries => uptoBulkEntries entries + 1
  | .held _ => 1
def uptoBulkAll {H : Type} : List (DataW H) → Nat
  | [] => 0
  | d :: r => uptoBulk d + uptoBulkAll r
def uptoBulkEntries {H : Type} : List (Lit × DataW H) → Nat
  | [] => 0
  | x :: r => uptoBulkEntry x + uptoBulkEntries r
def uptoBulkEntry {H : Type} : Lit × DataW H → Nat
  | (.string bytes, d) => bytes.length + uptoBulk d + 1
  | (_, d) => uptoBulk d + 1
 end
def uptoSmall : (H : Type) → List (DataW H) → Bool := fun _ ds => decide (uptoBulkAll ds ≤ 1048576)
def OpenSpec.upto (s : _root_.Go.ChangeSpec) : _root_.Go.OpenSpec := { _root_.Go.OpenSpec.ofChange s with cond := some uptoSmall }

/-- 'facsimilelaw17.LeadWords', WHERE WHAT IT READS IS OF BULK AT MOST 1048576: true; the input reads as it did. -/
def leadWordsUptoRow : OpenClaim := { program := "ytdffilenphglgaa", sum := "78d00eac2f7de23bcd2b2b607e8b454499680e77103465b068d6b4fa5ad594a8", func := "facsimile/facsimilelaw17.LeadWords", spec := "leadWords", unfollowed := true, recurses := true, apart := false, narrowed := true }
def LeadWordsUptoSaid : Prop := leadWordsUptoRow.holds Try.pinned (OpenSpec.upto leadWordsSpec)

/-- 'facsimilelaw17.LeadPieces', WHERE WHAT IT READS IS OF BULK AT MOST 1048576: true; the input reads as it did. -/
def leadPiecesUptoRow : OpenClaim := { program := "ytdffilenphglgaa", sum := "78d00eac2f7de23bcd2b2b607e8b454499680e77103465b068d6b4fa5ad594a8", func := "facsimile/facsimilelaw17.LeadPieces", spec := "leadPieces", unfollowed := true, recurses := true, apart := false, narrowed := true }
def LeadPiecesUptoSaid : Prop := leadPiecesUptoRow.holds Try.pinned (OpenSpec.upto leadPiecesSpec)

/-- 'facsimilelaw17.LeadBack', WHERE WHAT IT READS IS OF BULK AT MOST 1048576: true; the input reads as it did. -/
def leadBackUptoRow : OpenClaim := { program := "ytdffilenphglgaa", sum := "78d00eac2f7de23bcd2b2b607e8b454499680e77103465b068d6b4fa5ad594a8", func := "facsimile/facsimilelaw17.LeadBack", spec := "leadBack", unfollowed := true, recurses := true, apart := false, narrowed := true }
def LeadBackUptoSaid : Prop := leadBackUptoRow.holds Try.pinned (OpenSpec.upto leadBackSpec)

end Rows
end Go.Proofs.Ytdffilenphglgaa
