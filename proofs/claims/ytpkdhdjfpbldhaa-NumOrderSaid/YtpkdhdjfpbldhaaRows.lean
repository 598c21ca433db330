/-
  No cell of these rows narrows 'for every input' (looked for: loops, veiled, ifaces, maps, wideKeys, modest, calm, conditions, laid).
  DERIVED. THE GIVEN ROWS OF THIS SEAT. 6 by the template 'for every input the law returns true; each argument reads behind the call as it read before'; 0 by the template 'total and deterministic' (their statements: YtpkdhdjfpbldhaaTotals.lean).
  GIVEN WITH THE SEED: the statements are not yours to turn. If you find one false, say at which input.
  Laid BY PROGRAM, IN A SANDBOX (cutbox-rows.mjs): the forced cells as the released guide's own fill.sh prints them over the translation c38d2cc61f06675e… (all of the seat's roots in one cut). By AI agents, Wed Nov 11 2026. No macro, syntax, notation, axiom, sorry.
-/
import Derived.Test.YtpkdhdjfpbldhaaChecked
import GoSem.Claim
import GoSem.ClaimJoined
import GoSem.ClaimMapViews
import Derived.JoinedTies
import Derived.KernelRfl
namespace Go.Proofs.Ytpkdhdjfpbldhaa
/- THE CELL 'sum', in the pinned program and in every row, IS THE sha256 OF THE DUMP (.gsa) THAT YtpkdhdjfpbldhaaProg.lean LOADS. Nothing in Lean hashes anything: it is a label: what it is worth is what the hold of that sum in a sandbox is worth. -/
noncomputable def Try.pinned : Pinned := { name := "ytpkdhdjfpbldhaa", sum := "c38d2cc61f06675e23877249065a1e33cab8700187f0379c673c30c97ff8451d", checked := Try.checked }
namespace Rows
def none {H : Type} : Left H := { results := [], args := [] }

/-- 'facsimilelaw01.NumShows': WHATEVER THE INPUT: true; the input reads as it did. -/
def numShowsSpec : ChangeSpec := { name := "numShows", fn := fun _ => fun
  | [d] => { results := [.lit (.bool true)], args := [d] }
  | _ => none }
def numShowsRow : OpenClaim := { program := "ytpkdhdjfpbldhaa", sum := "c38d2cc61f06675e23877249065a1e33cab8700187f0379c673c30c97ff8451d", func := "facsimile/facsimilelaw01.NumShows", spec := "numShows", unfollowed := true, recurses := true, apart := false }
def NumShowsSaid : Prop := numShowsRow.holds Try.pinned (OpenSpec.ofChange numShowsSpec)

/-- ITS FALSE NEIGHBOUR: 'it returns false'. Refute it at one input. -/
def numShowsWrong : ChangeSpec := { name := "numShows", fn := fun _ => fun
  | [d] => { results := [.lit (.bool false)], args := [d] }
  | _ => none }
def NumShowsWrongFalsely : Prop := numShowsRow.holds Try.pinned (OpenSpec.ofChange numShowsWrong)

/-- 'facsimilelaw01.NumReads': WHATEVER THE INPUT: true; the input reads as it did. -/
def numReadsSpec : ChangeSpec := { name := "numReads", fn := fun _ => fun
  | [d1, d2] => { results := [.lit (.bool true)], args := [d1, d2] }
  | _ => none }
def numReadsRow : OpenClaim := { program := "ytpkdhdjfpbldhaa", sum := "c38d2cc61f06675e23877249065a1e33cab8700187f0379c673c30c97ff8451d", func := "facsimile/facsimilelaw01.NumReads", spec := "numReads", unfollowed := true, recurses := true, apart := false }
def NumReadsSaid : Prop := numReadsRow.holds Try.pinned (OpenSpec.ofChange numReadsSpec)

/-- ITS FALSE NEIGHBOUR: 'it returns false'. Refute it at one input. -/
def numReadsWrong : ChangeSpec := { name := "numReads", fn := fun _ => fun
  | [d1, d2] => { results := [.lit (.bool false)], args := [d1, d2] }
  | _ => none }
def NumReadsWrongFalsely : Prop := numReadsRow.holds Try.pinned (OpenSpec.ofChange numReadsWrong)

/-- 'facsimilelaw01.NumCaps': WHATEVER THE INPUT: true; the input reads as it did. -/
def numCapsSpec : ChangeSpec := { name := "numCaps", fn := fun _ => fun
  | [d1, d2] => { results := [.lit (.bool true)], args := [d1, d2] }
  | _ => none }
def numCapsRow : OpenClaim := { program := "ytpkdhdjfpbldhaa", sum := "c38d2cc61f06675e23877249065a1e33cab8700187f0379c673c30c97ff8451d", func := "facsimile/facsimilelaw01.NumCaps", spec := "numCaps", unfollowed := true, recurses := true, apart := false }
def NumCapsSaid : Prop := numCapsRow.holds Try.pinned (OpenSpec.ofChange numCapsSpec)

/-- ITS FALSE NEIGHBOUR: 'it returns false'. Refute it at one input. -/
def numCapsWrong : ChangeSpec := { name := "numCaps", fn := fun _ => fun
  | [d1, d2] => { results := [.lit (.bool false)], args := [d1, d2] }
  | _ => none }
def NumCapsWrongFalsely : Prop := numCapsRow.holds Try.pinned (OpenSpec.ofChange numCapsWrong)

/-- 'facsimilelaw01.NumBack': WHATEVER THE INPUT: true; the input reads as it did. -/
def numBackSpec : ChangeSpec := { name := "numBack", fn := fun _ => fun
  | [d1, d2] => { results := [.lit (.bool true)], args := [d1, d2] }
  | _ => none }
def numBackRow : OpenClaim := { program := "ytpkdhdjfpbldhaa", sum := "c38d2cc61f06675e23877249065a1e33cab8700187f0379c673c30c97ff8451d", func := "facsimile/facsimilelaw01.NumBack", spec := "numBack", unfollowed := true, recurses := true, apart := false }
def NumBackSaid : Prop := numBackRow.holds Try.pinned (OpenSpec.ofChange numBackSpec)

/-- ITS FALSE NEIGHBOUR: 'it returns false'. Refute it at one input. -/
def numBackWrong : ChangeSpec := { name := "numBack", fn := fun _ => fun
  | [d1, d2] => { results := [.lit (.bool false)], args := [d1, d2] }
  | _ => none }
def NumBackWrongFalsely : Prop := numBackRow.holds Try.pinned (OpenSpec.ofChange numBackWrong)

/-- 'facsimilelaw01.NumOrder': WHATEVER THE INPUT: true; the input reads as it did. -/
def numOrderSpec : ChangeSpec := { name := "numOrder", fn := fun _ => fun
  | [d1, d2, d3] => { results := [.lit (.bool true)], args := [d1, d2, d3] }
  | _ => none }
def numOrderRow : OpenClaim := { program := "ytpkdhdjfpbldhaa", sum := "c38d2cc61f06675e23877249065a1e33cab8700187f0379c673c30c97ff8451d", func := "facsimile/facsimilelaw01.NumOrder", spec := "numOrder", unfollowed := true, recurses := true, apart := false }
def NumOrderSaid : Prop := numOrderRow.holds Try.pinned (OpenSpec.ofChange numOrderSpec)

/-- ITS FALSE NEIGHBOUR: 'it returns false'. Refute it at one input. -/
def numOrderWrong : ChangeSpec := { name := "numOrder", fn := fun _ => fun
  | [d1, d2, d3] => { results := [.lit (.bool false)], args := [d1, d2, d3] }
  | _ => none }
def NumOrderWrongFalsely : Prop := numOrderRow.holds Try.pinned (OpenSpec.ofChange numOrderWrong)

/-- 'facsimilelaw01.NumHexes': WHATEVER THE INPUT: true; the input reads as it did. -/
def numHexesSpec : ChangeSpec := { name := "numHexes", fn := fun _ => fun
  | [d1, d2] => { results := [.lit (.bool true)], args := [d1, d2] }
  | _ => none }
def numHexesRow : OpenClaim := { program := "ytpkdhdjfpbldhaa", sum := "c38d2cc61f06675e23877249065a1e33cab8700187f0379c673c30c97ff8451d", func := "facsimile/facsimilelaw01.NumHexes", spec := "numHexes", unfollowed := true, recurses := true, apart := false }
def NumHexesSaid : Prop := numHexesRow.holds Try.pinned (OpenSpec.ofChange numHexesSpec)

/-- ITS FALSE NEIGHBOUR: 'it returns false'. Refute it at one input. -/
def numHexesWrong : ChangeSpec := { name := "numHexes", fn := fun _ => fun
  | [d1, d2] => { results := [.lit (.bool false)], args := [d1, d2] }
  | _ => none }
def NumHexesWrongFalsely : Prop := numHexesRow.holds Try.pinned (OpenSpec.ofChange numHexesWrong)

/- THE SECOND FORM. 'bulk': how many values and letters a reading holds, each counted each time it is reached (what is shared counts as often as it is met; a slice's spare places count too). A statement '..UptoSaid' is the law's where the arguments, and the package variables that the reading takes, are together of bulk at most 1048576: NARROWER than '..Said'. Prove '..Said' where nothing that the law and all that it calls make is longer than what came in: it says more and counts as full. Else prove '..UptoSaid'. A law counts once. -/
mutual
def uptoBulk {H : Type} : DataW H → Nat
  | .lit (.string bytes) => bytes.length + 1
  | .lit _ => 1
  | .nil => 1
  | .ptr d => uptoBulk d + 1
  | .slice elems spare => uptoBulkAll elems + uptoBulkAll spare + 1
  | .agg parts => uptoBulkAll parts + 1
  | .iface _ d => uptoBulk d + 1
  | .map entries => uptoBulkEntries entries + 1
  | .held _ => 1
def uptoBulkAll {H : Type} : List (DataW H) → Nat
  | [] => 0
  | d :: r => uptoBulk d + uptoBulkAll r
def uptoBulkEntries {H : Type} : List (Lit × DataW H) → Nat
  | [] => 0
  | x :: r => uptoBulkEntry x + uptoBulkEntries r
def uptoBulkEntry {H : Type} : Lit × DataW H → Nat
  | (.string bytes, d) => bytes.length + uptoBulk d + 1
  | (_, d) => uptoBulk d + 1
 end
def uptoSmall : (H : Type) → List (DataW H) → Bool := fun _ ds => decide (uptoBulkAll ds ≤ 1048576)
def OpenSpec.upto (s : _root_.Go.ChangeSpec) : _root_.Go.OpenSpec := { _root_.Go.OpenSpec.ofChange s with cond := some uptoSmall }

/-- 'facsimilelaw01.NumShows', WHERE WHAT IT READS IS OF BULK AT MOST 1048576: true; the input reads as it did. -/
def numShowsUptoRow : OpenClaim := { program := "ytpkdhdjfpbldhaa", sum := "c38d2cc61f06675e23877249065a1e33cab8700187f0379c673c30c97ff8451d", func := "facsimile/facsimilelaw01.NumShows", spec := "numShows", unfollowed := true, recurses := true, apart := false, narrowed := true }
def NumShowsUptoSaid : Prop := numShowsUptoRow.holds Try.pinned (OpenSpec.upto numShowsSpec)

/-- 'facsimilelaw01.NumReads', WHERE WHAT IT READS IS OF BULK AT MOST 1048576: true; the input reads as it did. -/
def numReadsUptoRow : OpenClaim := { program := "ytpkdhdjfpbldhaa", sum := "c38d2cc61f06675e23877249065a1e33cab8700187f0379c673c30c97ff8451d", func := "facsimile/facsimilelaw01.NumReads", spec := "numReads", unfollowed := true, recurses := true, apart := false, narrowed := true }
def NumReadsUptoSaid : Prop := numReadsUptoRow.holds Try.pinned (OpenSpec.upto numReadsSpec)

/-- 'facsimilelaw01.NumCaps', WHERE WHAT IT READS IS OF BULK AT MOST 1048576: true; the input reads as it did. -/
def numCapsUptoRow : OpenClaim := { program := "ytpkdhdjfpbldhaa", sum := "c38d2cc61f06675e23877249065a1e33cab8700187f0379c673c30c97ff8451d", func := "facsimile/facsimilelaw01.NumCaps", spec := "numCaps", unfollowed := true, recurses := true, apart := false, narrowed := true }
def NumCapsUptoSaid : Prop := numCapsUptoRow.holds Try.pinned (OpenSpec.upto numCapsSpec)

/-- 'facsimilelaw01.NumBack', WHERE WHAT IT READS IS OF BULK AT MOST 1048576: true; the input reads as it did. -/
def numBackUptoRow : OpenClaim := { program := "ytpkdhdjfpbldhaa", sum := "c38d2cc61f06675e23877249065a1e33cab8700187f0379c673c30c97ff8451d", func := "facsimile/facsimilelaw01.NumBack", spec := "numBack", unfollowed := true, recurses := true, apart := false, narrowed := true }
def NumBackUptoSaid : Prop := numBackUptoRow.holds Try.pinned (OpenSpec.upto numBackSpec)

/-- 'facsimilelaw01.NumOrder', WHERE WHAT IT READS IS OF BULK AT MOST 1048576: true; the input reads as it did. -/
def numOrderUptoRow : OpenClaim := { program := "ytpkdhdjfpbldhaa", sum := "c38d2cc61f06675e23877249065a1e33cab8700187f0379c673c30c97ff8451d", func := "facsimile/facsimilelaw01.NumOrder", spec := "numOrder", unfollowed := true, recurses := true, apart := false, narrowed := true }
def NumOrderUptoSaid : Prop := numOrderUptoRow.holds Try.pinned (OpenSpec.upto numOrderSpec)

/-- 'facsimilelaw01.NumHexes', WHERE WHAT IT READS IS OF BULK AT MOST 1048576: true; the input reads as it did. -/
def numHexesUptoRow : OpenClaim := { program := "ytpkdhdjfpbldhaa", sum := "c38d2cc61f06675e23877249065a1e33cab8700187f0379c673c30c97ff8451d", func := "facsimile/facsimilelaw01.NumHexes", spec := "numHexes", unfollowed := true, recurses := true, apart := false, narrowed := true }
def NumHexesUptoSaid : Prop := numHexesUptoRow.holds Try.pinned (OpenSpec.upto numHexesSpec)

end Rows
end Go.Proofs.Ytpkdhdjfpbldhaa
