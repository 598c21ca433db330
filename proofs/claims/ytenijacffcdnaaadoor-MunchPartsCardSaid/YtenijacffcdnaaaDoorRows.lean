/-
  NARROWER THAN 'FOR EVERY INPUT', by the rows' own cells (each row's printed sentence says how): MunchNext: laid · MunchCuts: laid · MunchAll: laid · MunchParts: laid.
  DERIVED. THE GIVEN ROWS OF THIS SEAT. 4 by the template 'for every input the law returns true; each argument reads behind the call as it read before'; 0 by the template 'total and deterministic' (their statements: YtenijacffcdnaaaDoorTotals.lean).
  GIVEN WITH THE SEED: the statements are not yours to turn. If you find one false, say at which input.
  Laid BY PROGRAM, IN A SANDBOX (cutbox-rows.mjs): the forced cells as the released guide's own fill.sh prints them over the translation 7264fe58fe56abc0… (all of the seat's roots in one cut). By AI agents, Wed Nov 11 2026. No macro, syntax, notation, axiom, sorry.
-/
import Derived.Test.YtenijacffcdnaaaDoorChecked
import GoSem.Claim
import GoSem.ClaimJoined
import GoSem.ClaimMapViews
import Derived.JoinedTies
import Derived.KernelRfl
namespace Go.Proofs.YtenijacffcdnaaaDoor
/- THE CELL 'sum', in the pinned program and in every row, IS THE sha256 OF THE DUMP (.gsa) THAT YtenijacffcdnaaaDoorProg.lean LOADS. Nothing in Lean hashes anything: it is a label: what it is worth is what the hold of that sum in a sandbox is worth. -/
noncomputable def Tryd.pinned : Pinned := { name := "ytenijacffcdnaaadoor", sum := "7264fe58fe56abc03dff11b94a962295d9ff10b96f29f8291667705c95e4f9d1", checked := Tryd.checked }
namespace Rows
def none {H : Type} : Left H := { results := [], args := [] }

/- WHAT THE LISTED PACKAGE-LEVEL VARIABLES READ AS WHEN THE CALL BEGINS. Each datum BY PROGRAM (the guide's laid-datum.mjs) off the statement by which the dump's own 'gosem.cut.vars' lays the variable. In a bare row this is a premise. The card (YtenijacffcdnaaaDoorCards.lean) ties it to the program's text. -/
def laid_facsimile_munch_none {H : Type} : DataW H := .agg [.lit (.int .i64 (-1)), .lit (.int .i64 0)]

/-- 'facsimilelaw16.MunchNext': WHATEVER THE INPUT: true; the input reads as it did. -/
def munchNextSpec : ChangeSpec := { name := "munchNext", fn := fun _ => fun
  | [d1, d2, d3] => { results := [.lit (.bool true)], args := [d1, d2, d3] }
  | _ => none }
def munchNextRow : OpenClaim := { program := "ytenijacffcdnaaadoor", sum := "7264fe58fe56abc03dff11b94a962295d9ff10b96f29f8291667705c95e4f9d1", func := "facsimile/facsimilelaw16.MunchNext", spec := "munchNext", unfollowed := true, recurses := true, named := ["facsimile/munch.none"], plainKeys := false, apart := false, laid := [("facsimile/munch.none", laid_facsimile_munch_none)] }
def MunchNextSaid : Prop := munchNextRow.holds Tryd.pinned (OpenSpec.ofChange munchNextSpec)

/-- ITS FALSE NEIGHBOUR: 'it returns false'. Refute it at one input. -/
def munchNextWrong : ChangeSpec := { name := "munchNext", fn := fun _ => fun
  | [d1, d2, d3] => { results := [.lit (.bool false)], args := [d1, d2, d3] }
  | _ => none }
def MunchNextWrongFalsely : Prop := munchNextRow.holds Tryd.pinned (OpenSpec.ofChange munchNextWrong)

/-- 'facsimilelaw16.MunchCuts': WHATEVER THE INPUT: true; the input reads as it did. -/
def munchCutsSpec : ChangeSpec := { name := "munchCuts", fn := fun _ => fun
  | [d1, d2, d3] => { results := [.lit (.bool true)], args := [d1, d2, d3] }
  | _ => none }
def munchCutsRow : OpenClaim := { program := "ytenijacffcdnaaadoor", sum := "7264fe58fe56abc03dff11b94a962295d9ff10b96f29f8291667705c95e4f9d1", func := "facsimile/facsimilelaw16.MunchCuts", spec := "munchCuts", inPlace := ["internal/abi.NoEscape"], unfollowed := true, recurses := true, named := ["facsimile/munch.none"], plainKeys := false, apart := false, laid := [("facsimile/munch.none", laid_facsimile_munch_none)] }
def MunchCutsSaid : Prop := munchCutsRow.holds Tryd.pinned (OpenSpec.ofChange munchCutsSpec)

/-- ITS FALSE NEIGHBOUR: 'it returns false'. Refute it at one input. -/
def munchCutsWrong : ChangeSpec := { name := "munchCuts", fn := fun _ => fun
  | [d1, d2, d3] => { results := [.lit (.bool false)], args := [d1, d2, d3] }
  | _ => none }
def MunchCutsWrongFalsely : Prop := munchCutsRow.holds Tryd.pinned (OpenSpec.ofChange munchCutsWrong)

/-- 'facsimilelaw16.MunchAll': WHATEVER THE INPUT: true; the input reads as it did. -/
def munchAllSpec : ChangeSpec := { name := "munchAll", fn := fun _ => fun
  | [d1, d2] => { results := [.lit (.bool true)], args := [d1, d2] }
  | _ => none }
def munchAllRow : OpenClaim := { program := "ytenijacffcdnaaadoor", sum := "7264fe58fe56abc03dff11b94a962295d9ff10b96f29f8291667705c95e4f9d1", func := "facsimile/facsimilelaw16.MunchAll", spec := "munchAll", inPlace := ["internal/abi.NoEscape"], unfollowed := true, recurses := true, named := ["facsimile/munch.none"], plainKeys := false, apart := false, laid := [("facsimile/munch.none", laid_facsimile_munch_none)] }
def MunchAllSaid : Prop := munchAllRow.holds Tryd.pinned (OpenSpec.ofChange munchAllSpec)

/-- ITS FALSE NEIGHBOUR: 'it returns false'. Refute it at one input. -/
def munchAllWrong : ChangeSpec := { name := "munchAll", fn := fun _ => fun
  | [d1, d2] => { results := [.lit (.bool false)], args := [d1, d2] }
  | _ => none }
def MunchAllWrongFalsely : Prop := munchAllRow.holds Tryd.pinned (OpenSpec.ofChange munchAllWrong)

/-- 'facsimilelaw16.MunchParts': WHATEVER THE INPUT: true; the input reads as it did. -/
def munchPartsSpec : ChangeSpec := { name := "munchParts", fn := fun _ => fun
  | [d1, d2, d3] => { results := [.lit (.bool true)], args := [d1, d2, d3] }
  | _ => none }
def munchPartsRow : OpenClaim := { program := "ytenijacffcdnaaadoor", sum := "7264fe58fe56abc03dff11b94a962295d9ff10b96f29f8291667705c95e4f9d1", func := "facsimile/facsimilelaw16.MunchParts", spec := "munchParts", inPlace := ["internal/abi.NoEscape"], unfollowed := true, recurses := true, named := ["facsimile/munch.none"], plainKeys := false, apart := false, laid := [("facsimile/munch.none", laid_facsimile_munch_none)] }
def MunchPartsSaid : Prop := munchPartsRow.holds Tryd.pinned (OpenSpec.ofChange munchPartsSpec)

/-- ITS FALSE NEIGHBOUR: 'it returns false'. Refute it at one input. -/
def munchPartsWrong : ChangeSpec := { name := "munchParts", fn := fun _ => fun
  | [d1, d2, d3] => { results := [.lit (.bool false)], args := [d1, d2, d3] }
  | _ => none }
def MunchPartsWrongFalsely : Prop := munchPartsRow.holds Tryd.pinned (OpenSpec.ofChange munchPartsWrong)

/- THE SECOND FORM. 'bulk': how many values and letters a reading holds, each counted each time it is reached (what is shared counts as often as it is met; a slice's spare places count too). A statement '..UptoSaid' is the law's where the arguments, and the package variables that the reading takes, are together of bulk at most 1048576: NARROWER than '..Said'. Prove '..Said' where nothing that the law and all that it calls make is longer than what came in: it says more and counts as full. Else prove '..UptoSaid'. A law counts once. -/
mutual
def uptoBulk {H : Type} : DataW H → Nat
  | .lit (.string bytes) => bytes.length + 1
  | .lit _ => 1
  | .nil => 1
  | .ptr d => uptoBulk d + 1
  | .slice elems spare => uptoBulkAll elems + uptoBulkAll spare + 1
  | .agg parts => uptoBulkAll parts + 1
  | .iface _ d => uptoBulk d + 1
  | .map entries => uptoBulkEntries entries + 1
  | .held _ => 1
def uptoBulkAll {H : Type} : List (DataW H) → Nat
  | [] => 0
  | d :: r => uptoBulk d + uptoBulkAll r
def uptoBulkEntries {H : Type} : List (Lit × DataW H) → Nat
  | [] => 0
  | x :: r => uptoBulkEntry x + uptoBulkEntries r
def uptoBulkEntry {H : Type} : Lit × DataW H → Nat
  | (.string bytes, d) => bytes.length + uptoBulk d + 1
  | (_, d) => uptoBulk d + 1
 end
def uptoSmall : (H : Type) → List (DataW H) → Bool := fun _ ds => decide (uptoBulkAll ds ≤ 1048576)
def OpenSpec.upto (s : _root_.Go.ChangeSpec) : _root_.Go.OpenSpec := { _root_.Go.OpenSpec.ofChange s with cond := some uptoSmall }

/-- 'facsimilelaw16.MunchNext', WHERE WHAT IT READS IS OF BULK AT MOST 1048576: true; the input reads as it did. -/
def munchNextUptoRow : OpenClaim := { program := "ytenijacffcdnaaadoor", sum := "7264fe58fe56abc03dff11b94a962295d9ff10b96f29f8291667705c95e4f9d1", func := "facsimile/facsimilelaw16.MunchNext", spec := "munchNext", unfollowed := true, recurses := true, named := ["facsimile/munch.none"], plainKeys := false, apart := false, laid := [("facsimile/munch.none", laid_facsimile_munch_none)], narrowed := true }
def MunchNextUptoSaid : Prop := munchNextUptoRow.holds Tryd.pinned (OpenSpec.upto munchNextSpec)

/-- 'facsimilelaw16.MunchCuts', WHERE WHAT IT READS IS OF BULK AT MOST 1048576: true; the input reads as it did. -/
def munchCutsUptoRow : OpenClaim := { program := "ytenijacffcdnaaadoor", sum := "7264fe58fe56abc03dff11b94a962295d9ff10b96f29f8291667705c95e4f9d1", func := "facsimile/facsimilelaw16.MunchCuts", spec := "munchCuts", inPlace := ["internal/abi.NoEscape"], unfollowed := true, recurses := true, named := ["facsimile/munch.none"], plainKeys := false, apart := false, laid := [("facsimile/munch.none", laid_facsimile_munch_none)], narrowed := true }
def MunchCutsUptoSaid : Prop := munchCutsUptoRow.holds Tryd.pinned (OpenSpec.upto munchCutsSpec)

/-- 'facsimilelaw16.MunchAll', WHERE WHAT IT READS IS OF BULK AT MOST 1048576: true; the input reads as it did. -/
def munchAllUptoRow : OpenClaim := { program := "ytenijacffcdnaaadoor", sum := "7264fe58fe56abc03dff11b94a962295d9ff10b96f29f8291667705c95e4f9d1", func := "facsimile/facsimilelaw16.MunchAll", spec := "munchAll", inPlace := ["internal/abi.NoEscape"], unfollowed := true, recurses := true, named := ["facsimile/munch.none"], plainKeys := false, apart := false, laid := [("facsimile/munch.none", laid_facsimile_munch_none)], narrowed := true }
def MunchAllUptoSaid : Prop := munchAllUptoRow.holds Tryd.pinned (OpenSpec.upto munchAllSpec)

/-- 'facsimilelaw16.MunchParts', WHERE WHAT IT READS IS OF BULK AT MOST 1048576: true; the input reads as it did. -/
def munchPartsUptoRow : OpenClaim := { program := "ytenijacffcdnaaadoor", sum := "7264fe58fe56abc03dff11b94a962295d9ff10b96f29f8291667705c95e4f9d1", func := "facsimile/facsimilelaw16.MunchParts", spec := "munchParts", inPlace := ["internal/abi.NoEscape"], unfollowed := true, recurses := true, named := ["facsimile/munch.none"], plainKeys := false, apart := false, laid := [("facsimile/munch.none", laid_facsimile_munch_none)], narrowed := true }
def MunchPartsUptoSaid : Prop := munchPartsUptoRow.holds Tryd.pinned (OpenSpec.upto munchPartsSpec)

end Rows
end Go.Proofs.YtenijacffcdnaaaDoor
