/-
  No cell of these rows narrows 'for every input' (looked for: loops, veiled, ifaces, maps, wideKeys, modest, calm, conditions, laid).
  DERIVED. THE GIVEN ROWS OF THIS SEAT. 4 by the template 'for every input the law returns true; each argument reads behind the call as it read before'; 0 by the template 'total and deterministic' (their statements: YtmkgipoljbiocaaTotals.lean).
  GIVEN WITH THE SEED: the statements are not yours to turn. If you find one false, say at which input.
  Laid BY PROGRAM, IN A SANDBOX (cutbox-rows.mjs): the forced cells as the released guide's own fill.sh prints them over the translation f6c7556539a85f71… (all of the seat's roots in one cut). By AI agents, Wed Nov 11 2026. No macro, syntax, notation, axiom, sorry.
-/
import Derived.Test.YtmkgipoljbiocaaChecked
import GoSem.Claim
import GoSem.ClaimJoined
import GoSem.ClaimMapViews
import Derived.JoinedTies
import Derived.KernelRfl
namespace Go.Proofs.Ytmkgipoljbiocaa
/- THE CELL 'sum', in the pinned program and in every row, IS THE sha256 OF THE DUMP (.gsa) THAT YtmkgipoljbiocaaProg.lean LOADS. Nothing in Lean hashes anything: it is a label: what it is worth is what the hold of that sum in a sandbox is worth. -/
noncomputable def Try.pinned : Pinned := { name := "ytmkgipoljbiocaa", sum := "f6c7556539a85f710958304752d01a22c9bb4be2046089c048b4901669435742", checked := Try.checked }
namespace Rows
def none {H : Type} : Left H := { results := [], args := [] }

/-- 'facsimilelaw14.DfaBuilds': WHATEVER THE INPUT: true; the input reads as it did. -/
def dfaBuildsSpec : ChangeSpec := { name := "dfaBuilds", fn := fun _ => fun
  | [d1, d2] => { results := [.lit (.bool true)], args := [d1, d2] }
  | _ => none }
def dfaBuildsRow : OpenClaim := { program := "ytmkgipoljbiocaa", sum := "f6c7556539a85f710958304752d01a22c9bb4be2046089c048b4901669435742", func := "facsimile/facsimilelaw14.DfaBuilds", spec := "dfaBuilds", unfollowed := true, recurses := true, plainKeys := false, apart := false }
def DfaBuildsSaid : Prop := dfaBuildsRow.holds Try.pinned (OpenSpec.ofChange dfaBuildsSpec)

/-- ITS FALSE NEIGHBOUR: 'it returns false'. Refute it at one input. -/
def dfaBuildsWrong : ChangeSpec := { name := "dfaBuilds", fn := fun _ => fun
  | [d1, d2] => { results := [.lit (.bool false)], args := [d1, d2] }
  | _ => none }
def DfaBuildsWrongFalsely : Prop := dfaBuildsRow.holds Try.pinned (OpenSpec.ofChange dfaBuildsWrong)

/-- 'facsimilelaw14.DfaReads': WHATEVER THE INPUT: true; the input reads as it did. -/
def dfaReadsSpec : ChangeSpec := { name := "dfaReads", fn := fun _ => fun
  | [d1, d2] => { results := [.lit (.bool true)], args := [d1, d2] }
  | _ => none }
def dfaReadsRow : OpenClaim := { program := "ytmkgipoljbiocaa", sum := "f6c7556539a85f710958304752d01a22c9bb4be2046089c048b4901669435742", func := "facsimile/facsimilelaw14.DfaReads", spec := "dfaReads", unfollowed := true, recurses := true, plainKeys := false, apart := false }
def DfaReadsSaid : Prop := dfaReadsRow.holds Try.pinned (OpenSpec.ofChange dfaReadsSpec)

/-- ITS FALSE NEIGHBOUR: 'it returns false'. Refute it at one input. -/
def dfaReadsWrong : ChangeSpec := { name := "dfaReads", fn := fun _ => fun
  | [d1, d2] => { results := [.lit (.bool false)], args := [d1, d2] }
  | _ => none }
def DfaReadsWrongFalsely : Prop := dfaReadsRow.holds Try.pinned (OpenSpec.ofChange dfaReadsWrong)

/-- 'facsimilelaw14.DfaBound': WHATEVER THE INPUT: true; the input reads as it did. -/
def dfaBoundSpec : ChangeSpec := { name := "dfaBound", fn := fun _ => fun
  | [d1, d2] => { results := [.lit (.bool true)], args := [d1, d2] }
  | _ => none }
def dfaBoundRow : OpenClaim := { program := "ytmkgipoljbiocaa", sum := "f6c7556539a85f710958304752d01a22c9bb4be2046089c048b4901669435742", func := "facsimile/facsimilelaw14.DfaBound", spec := "dfaBound", unfollowed := true, recurses := true, plainKeys := false, apart := false }
def DfaBoundSaid : Prop := dfaBoundRow.holds Try.pinned (OpenSpec.ofChange dfaBoundSpec)

/-- ITS FALSE NEIGHBOUR: 'it returns false'. Refute it at one input. -/
def dfaBoundWrong : ChangeSpec := { name := "dfaBound", fn := fun _ => fun
  | [d1, d2] => { results := [.lit (.bool false)], args := [d1, d2] }
  | _ => none }
def DfaBoundWrongFalsely : Prop := dfaBoundRow.holds Try.pinned (OpenSpec.ofChange dfaBoundWrong)

/-- 'facsimilelaw14.DfaRuns': WHATEVER THE INPUT: true; the input reads as it did. -/
def dfaRunsSpec : ChangeSpec := { name := "dfaRuns", fn := fun _ => fun
  | [d1, d2, d3, d4] => { results := [.lit (.bool true)], args := [d1, d2, d3, d4] }
  | _ => none }
def dfaRunsRow : OpenClaim := { program := "ytmkgipoljbiocaa", sum := "f6c7556539a85f710958304752d01a22c9bb4be2046089c048b4901669435742", func := "facsimile/facsimilelaw14.DfaRuns", spec := "dfaRuns", unfollowed := true, recurses := true, plainKeys := false, apart := false }
def DfaRunsSaid : Prop := dfaRunsRow.holds Try.pinned (OpenSpec.ofChange dfaRunsSpec)

/-- ITS FALSE NEIGHBOUR: 'it returns false'. Refute it at one input. -/
def dfaRunsWrong : ChangeSpec := { name := "dfaRuns", fn := fun _ => fun
  | [d1, d2, d3, d4] => { results := [.lit (.bool false)], args := [d1, d2, d3, d4] }
  | _ => none }
def DfaRunsWrongFalsely : Prop := dfaRunsRow.holds Try.pinned (OpenSpec.ofChange dfaRunsWrong)

/- THE SECOND FORM. 'bulk': how many values and letters a reading holds, each counted each time it is reached (what is shared counts as often as it is met; a slice's spare places count too). A statement '..UptoSaid' is the law's where the arguments, and the package variables that the reading takes, are together of bulk at most 1048576: NARROWER than '..Said'. Prove '..Said' where nothing that the law and all that it calls make is longer than what came in: it says more and counts as full. Else prove '..UptoSaid'. A law counts once. -/
mutual
def uptoBulk {H : Type} : DataW H → Nat
  | .lit (.string bytes) => bytes.length + 1
  | .lit _ => 1
  | .nil => 1
  | .ptr d => uptoBulk d + 1
  | .slice elems spare => uptoBulkAll elems + uptoBulkAll spare + 1
  | .agg parts => uptoBulkAll parts + 1
  | .iface _ d => uptoBulk d + 1
  | .map entries => uptoBulkEntries entries + 1
  | .held _ => 1
def uptoBulkAll {H : Type} : List (DataW H) → Nat
  | [] => 0
  | d :: r => uptoBulk d + uptoBulkAll r
def uptoBulkEntries {H : Type} : List (Lit × DataW H) → Nat
  | [] => 0
  | x :: r => uptoBulkEntry x + uptoBulkEntries r
def uptoBulkEntry {H : Type} : Lit × DataW H → Nat
  | (.string bytes, d) => bytes.length + uptoBulk d + 1
  | (_, d) => uptoBulk d + 1
 end
def uptoSmall : (H : Type) → List (DataW H) → Bool := fun _ ds => decide (uptoBulkAll ds ≤ 1048576)
def OpenSpec.upto (s : _root_.Go.ChangeSpec) : _root_.Go.OpenSpec := { _root_.Go.OpenSpec.ofChange s with cond := some uptoSmall }

/-- 'facsimilelaw14.DfaBuilds', WHERE WHAT IT READS IS OF BULK AT MOST 1048576: true; the input reads as it did. -/
def dfaBuildsUptoRow : OpenClaim := { program := "ytmkgipoljbiocaa", sum := "f6c7556539a85f710958304752d01a22c9bb4be2046089c048b4901669435742", func := "facsimile/facsimilelaw14.DfaBuilds", spec := "dfaBuilds", unfollowed := true, recurses := true, plainKeys := false, apart := false, narrowed := true }
def DfaBuildsUptoSaid : Prop := dfaBuildsUptoRow.holds Try.pinned (OpenSpec.upto dfaBuildsSpec)

/-- 'facsimilelaw14.DfaReads', WHERE WHAT IT READS IS OF BULK AT MOST 1048576: true; the input reads as it did. -/
def dfaReadsUptoRow : OpenClaim := { program := "ytmkgipoljbiocaa", sum := "f6c7556539a85f710958304752d01a22c9bb4be2046089c048b4901669435742", func := "facsimile/facsimilelaw14.DfaReads", spec := "dfaReads", unfollowed := true, recurses := true, plainKeys := false, apart := false, narrowed := true }
def DfaReadsUptoSaid : Prop := dfaReadsUptoRow.holds Try.pinned (OpenSpec.upto dfaReadsSpec)

/-- 'facsimilelaw14.DfaBound', WHERE WHAT IT READS IS OF BULK AT MOST 1048576: true; the input reads as it did. -/
def dfaBoundUptoRow : OpenClaim := { program := "ytmkgipoljbiocaa", sum := "f6c7556539a85f710958304752d01a22c9bb4be2046089c048b4901669435742", func := "facsimile/facsimilelaw14.DfaBound", spec := "dfaBound", unfollowed := true, recurses := true, plainKeys := false, apart := false, narrowed := true }
def DfaBoundUptoSaid : Prop := dfaBoundUptoRow.holds Try.pinned (OpenSpec.upto dfaBoundSpec)

/-- 'facsimilelaw14.DfaRuns', WHERE WHAT IT READS IS OF BULK AT MOST 1048576: true; the input reads as it did. -/
def dfaRunsUptoRow : OpenClaim := { program := "ytmkgipoljbiocaa", sum := "f6c7556539a85f710958304752d01a22c9bb4be2046089c048b4901669435742", func := "facsimile/facsimilelaw14.DfaRuns", spec := "dfaRuns", unfollowed := true, recurses := true, plainKeys := false, apart := false, narrowed := true }
def DfaRunsUptoSaid : Prop := dfaRunsUptoRow.holds Try.pinned (OpenSpec.upto dfaRunsSpec)

end Rows
end Go.Proofs.Ytmkgipoljbiocaa
