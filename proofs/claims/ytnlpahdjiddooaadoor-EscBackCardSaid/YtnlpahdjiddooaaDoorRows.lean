/-
  NARROWER THAN 'FOR EVERY INPUT', by the rows' own cells (each row's printed sentence says how): EscPuts: laid · EscTakes: laid · EscBack: laid.
  DERIVED. THE GIVEN ROWS OF THIS SEAT. 3 by the template 'for every input the law returns true; each argument reads behind the call as it read before'; 0 by the template 'total and deterministic' (their statements: YtnlpahdjiddooaaDoorTotals.lean).
  GIVEN WITH THE SEED: the statements are not yours to turn. If you find one false, say at which input.
  Laid BY PROGRAM, IN A SANDBOX (cutbox-rows.mjs): the forced cells as the released guide's own fill.sh prints them over the translation 9db078a8535a4f6d… (all of the seat's roots in one cut). By AI agents, Wed Nov 11 2026. No macro, syntax, notation, axiom, sorry.
-/
import Derived.Test.YtnlpahdjiddooaaDoorChecked
import GoSem.Claim
import GoSem.ClaimJoined
import GoSem.ClaimMapViews
import Derived.JoinedTies
import Derived.KernelRfl
namespace Go.Proofs.YtnlpahdjiddooaaDoor
/- THE CELL 'sum', in the pinned program and in every row, IS THE sha256 OF THE DUMP (.gsa) THAT YtnlpahdjiddooaaDoorProg.lean LOADS. Nothing in Lean hashes anything: it is a label: what it is worth is what the hold of that sum in a sandbox is worth. -/
noncomputable def Tryd.pinned : Pinned := { name := "ytnlpahdjiddooaadoor", sum := "9db078a8535a4f6d4029e4ba8cf46ca7ca77253e7a4442f6aa5c0dd27f853734", checked := Tryd.checked }
namespace Rows
def none {H : Type} : Left H := { results := [], args := [] }

/- WHAT THE LISTED PACKAGE-LEVEL VARIABLES READ AS WHEN THE CALL BEGINS. Each datum BY PROGRAM (the guide's laid-datum.mjs) off the statement by which the dump's own 'gosem.cut.vars' lays the variable. In a bare row this is a premise. The card (YtnlpahdjiddooaaDoorCards.lean) ties it to the program's text. -/
def laid_facsimile_esc_short {H : Type} : DataW H := .agg [.agg [.lit (.int .u8 110), .lit (.int .u8 10)], .agg [.lit (.int .u8 116), .lit (.int .u8 9)], .agg [.lit (.int .u8 114), .lit (.int .u8 13)], .agg [.lit (.int .u8 34), .lit (.int .u8 34)], .agg [.lit (.int .u8 92), .lit (.int .u8 92)]]

/-- 'facsimilelaw05.EscPuts': WHATEVER THE INPUT: true; the input reads as it did. -/
def escPutsSpec : ChangeSpec := { name := "escPuts", fn := fun _ => fun
  | [d1, d2] => { results := [.lit (.bool true)], args := [d1, d2] }
  | _ => none }
def escPutsRow : OpenClaim := { program := "ytnlpahdjiddooaadoor", sum := "9db078a8535a4f6d4029e4ba8cf46ca7ca77253e7a4442f6aa5c0dd27f853734", func := "facsimile/facsimilelaw05.EscPuts", spec := "escPuts", inPlace := ["internal/abi.NoEscape"], named := ["facsimile/esc.short"], apart := false, laid := [("facsimile/esc.short", laid_facsimile_esc_short)] }
def EscPutsSaid : Prop := escPutsRow.holds Tryd.pinned (OpenSpec.ofChange escPutsSpec)

/-- ITS FALSE NEIGHBOUR: 'it returns false'. Refute it at one input. -/
def escPutsWrong : ChangeSpec := { name := "escPuts", fn := fun _ => fun
  | [d1, d2] => { results := [.lit (.bool false)], args := [d1, d2] }
  | _ => none }
def EscPutsWrongFalsely : Prop := escPutsRow.holds Tryd.pinned (OpenSpec.ofChange escPutsWrong)

/-- 'facsimilelaw05.EscTakes': WHATEVER THE INPUT: true; the input reads as it did. -/
def escTakesSpec : ChangeSpec := { name := "escTakes", fn := fun _ => fun
  | [d1, d2] => { results := [.lit (.bool true)], args := [d1, d2] }
  | _ => none }
def escTakesRow : OpenClaim := { program := "ytnlpahdjiddooaadoor", sum := "9db078a8535a4f6d4029e4ba8cf46ca7ca77253e7a4442f6aa5c0dd27f853734", func := "facsimile/facsimilelaw05.EscTakes", spec := "escTakes", inPlace := ["internal/abi.NoEscape"], named := ["facsimile/esc.short"], apart := false, laid := [("facsimile/esc.short", laid_facsimile_esc_short)] }
def EscTakesSaid : Prop := escTakesRow.holds Tryd.pinned (OpenSpec.ofChange escTakesSpec)

/-- ITS FALSE NEIGHBOUR: 'it returns false'. Refute it at one input. -/
def escTakesWrong : ChangeSpec := { name := "escTakes", fn := fun _ => fun
  | [d1, d2] => { results := [.lit (.bool false)], args := [d1, d2] }
  | _ => none }
def EscTakesWrongFalsely : Prop := escTakesRow.holds Tryd.pinned (OpenSpec.ofChange escTakesWrong)

/-- 'facsimilelaw05.EscBack': WHATEVER THE INPUT: true; the input reads as it did. -/
def escBackSpec : ChangeSpec := { name := "escBack", fn := fun _ => fun
  | [d1, d2, d3, d4] => { results := [.lit (.bool true)], args := [d1, d2, d3, d4] }
  | _ => none }
def escBackRow : OpenClaim := { program := "ytnlpahdjiddooaadoor", sum := "9db078a8535a4f6d4029e4ba8cf46ca7ca77253e7a4442f6aa5c0dd27f853734", func := "facsimile/facsimilelaw05.EscBack", spec := "escBack", inPlace := ["internal/abi.NoEscape"], named := ["facsimile/esc.short"], apart := false, laid := [("facsimile/esc.short", laid_facsimile_esc_short)] }
def EscBackSaid : Prop := escBackRow.holds Tryd.pinned (OpenSpec.ofChange escBackSpec)

/-- ITS FALSE NEIGHBOUR: 'it returns false'. Refute it at one input. -/
def escBackWrong : ChangeSpec := { name := "escBack", fn := fun _ => fun
  | [d1, d2, d3, d4] => { results := [.lit (.bool false)], args := [d1, d2, d3, d4] }
  | _ => none }
def EscBackWrongFalsely : Prop := escBackRow.holds Tryd.pinned (OpenSpec.ofChange escBackWrong)

/- THE SECOND FORM. 'bulk': how many values and letters a reading holds, each counted each time it is reached (what is shared counts as often as it is met; a slice's spare places count too). A statement '..UptoSaid' is the law's where the arguments, and the package variables that the reading takes, are together of bulk at most 1048576: NARROWER than '..Said'. Prove '..Said' where nothing that the law and all that it calls make is longer than what came in: it says more and counts as full. Else prove '..UptoSaid'. A law counts once. -/
mutual
def uptoBulk {H : Type} : DataW H → Nat
  | .lit (.string bytes) => bytes.length + 1
  | .lit _ => 1
  | .nil => 1
  | .ptr d => uptoBulk d + 1
  | .slice elems spare => uptoBulkAll elems + uptoBulkAll spare + 1
  | .agg parts => uptoBulkAll parts + 1
  | .iface _ d => uptoBulk d + 1
  | .map entries => uptoBulkEntries entries + 1
  | .held _ => 1
def uptoBulkAll {H : Type} : List (DataW H) → Nat
  | [] => 0
  | d :: r => uptoBulk d + uptoBulkAll r
def uptoBulkEntries {H : Type} : List (Lit × DataW H) → Nat
  | [] => 0
  | x :: r => uptoBulkEntry x + uptoBulkEntries r
def uptoBulkEntry {H : Type} : Lit × DataW H → Nat
  | (.string bytes, d) => bytes.length + uptoBulk d + 1
  | (_, d) => uptoBulk d + 1
 end
def uptoSmall : (H : Type) → List (DataW H) → Bool := fun _ ds => decide (uptoBulkAll ds ≤ 1048576)
def OpenSpec.upto (s : _root_.Go.ChangeSpec) : _root_.Go.OpenSpec := { _root_.Go.OpenSpec.ofChange s with cond := some uptoSmall }

/-- 'facsimilelaw05.EscPuts', WHERE WHAT IT READS IS OF BULK AT MOST 1048576: true; the input reads as it did. -/
def escPutsUptoRow : OpenClaim := { program := "ytnlpahdjiddooaadoor", sum := "9db078a8535a4f6d4029e4ba8cf46ca7ca77253e7a4442f6aa5c0dd27f853734", func := "facsimile/facsimilelaw05.EscPuts", spec := "escPuts", inPlace := ["internal/abi.NoEscape"], named := ["facsimile/esc.short"], apart := false, laid := [("facsimile/esc.short", laid_facsimile_esc_short)], narrowed := true }
def EscPutsUptoSaid : Prop := escPutsUptoRow.holds Tryd.pinned (OpenSpec.upto escPutsSpec)

/-- 'facsimilelaw05.EscTakes', WHERE WHAT IT READS IS OF BULK AT MOST 1048576: true; the input reads as it did. -/
def escTakesUptoRow : OpenClaim := { program := "ytnlpahdjiddooaadoor", sum := "9db078a8535a4f6d4029e4ba8cf46ca7ca77253e7a4442f6aa5c0dd27f853734", func := "facsimile/facsimilelaw05.EscTakes", spec := "escTakes", inPlace := ["internal/abi.NoEscape"], named := ["facsimile/esc.short"], apart := false, laid := [("facsimile/esc.short", laid_facsimile_esc_short)], narrowed := true }
def EscTakesUptoSaid : Prop := escTakesUptoRow.holds Tryd.pinned (OpenSpec.upto escTakesSpec)

/-- 'facsimilelaw05.EscBack', WHERE WHAT IT READS IS OF BULK AT MOST 1048576: true; the input reads as it did. -/
def escBackUptoRow : OpenClaim := { program := "ytnlpahdjiddooaadoor", sum := "9db078a8535a4f6d4029e4ba8cf46ca7ca77253e7a4442f6aa5c0dd27f853734", func := "facsimile/facsimilelaw05.EscBack", spec := "escBack", inPlace := ["internal/abi.NoEscape"], named := ["facsimile/esc.short"], apart := false, laid := [("facsimile/esc.short", laid_facsimile_esc_short)], narrowed := true }
def EscBackUptoSaid : Prop := escBackUptoRow.holds Tryd.pinned (OpenSpec.upto escBackSpec)

end Rows
end Go.Proofs.YtnlpahdjiddooaaDoor
