/-
  No cell of these rows narrows 'for every input' (looked for: loops, veiled, ifaces, maps, wideKeys, modest, calm, conditions, laid).
  DERIVED. THE GIVEN ROWS OF THIS SEAT. 3 by the template 'for every input the law returns true; each argument reads behind the call as it read before'; 0 by the template 'total and deterministic' (their statements: YtajfnkboeaflnaaTotals.lean).
  GIVEN WITH THE SEED: the statements are not yours to turn. If you find one false, say at which input.
  Laid BY PROGRAM, IN A SANDBOX (cutbox-rows.mjs): the forced cells as the released guide's own fill.sh prints them over the translation 77d4ada3b0c65fec… (all of the seat's roots in one cut). By AI agents, Wed Nov 11 2026. No macro, syntax, notation, axiom, sorry.
-/
import Derived.Test.YtajfnkboeaflnaaChecked
import GoSem.Claim
import GoSem.ClaimJoined
import GoSem.ClaimMapViews
import Derived.JoinedTies
import Derived.KernelRfl
namespace Go.Proofs.Ytajfnkboeaflnaa
/- THE CELL 'sum', in the pinned program and in every row, IS THE sha256 OF THE DUMP (.gsa) THAT YtajfnkboeaflnaaProg.lean LOADS. Nothing in Lean hashes anything: it is a label: what it is worth is what the hold of that sum in a sandbox is worth. -/
noncomputable def Try.pinned : Pinned := { name := "ytajfnkboeaflnaa", sum := "77d4ada3b0c65fecd4d6bd23fc10eada8e54cda8ce83b8f427fe8dc970fe1a4d", checked := Try.checked }
namespace Rows
def none {H : Type} : Left H := { results := [], args := [] }

/-- 'facsimilelaw04.QuotaParts': WHATEVER THE INPUT: true; the input reads as it did. -/
def quotaPartsSpec : ChangeSpec := { name := "quotaParts", fn := fun _ => fun
  | [d1, d2] => { results := [.lit (.bool true)], args := [d1, d2] }
  | _ => none }
def quotaPartsRow : OpenClaim := { program := "ytajfnkboeaflnaa", sum := "77d4ada3b0c65fecd4d6bd23fc10eada8e54cda8ce83b8f427fe8dc970fe1a4d", func := "facsimile/facsimilelaw04.QuotaParts", spec := "quotaParts", apart := false }
def QuotaPartsSaid : Prop := quotaPartsRow.holds Try.pinned (OpenSpec.ofChange quotaPartsSpec)

/-- ITS FALSE NEIGHBOUR: 'it returns false'. Refute it at one input. -/
def quotaPartsWrong : ChangeSpec := { name := "quotaParts", fn := fun _ => fun
  | [d1, d2] => { results := [.lit (.bool false)], args := [d1, d2] }
  | _ => none }
def QuotaPartsWrongFalsely : Prop := quotaPartsRow.holds Try.pinned (OpenSpec.ofChange quotaPartsWrong)

/-- 'facsimilelaw04.QuotaDoes': WHATEVER THE INPUT: true; the input reads as it did. -/
def quotaDoesSpec : ChangeSpec := { name := "quotaDoes", fn := fun _ => fun
  | [d1, d2] => { results := [.lit (.bool true)], args := [d1, d2] }
  | _ => none }
def quotaDoesRow : OpenClaim := { program := "ytajfnkboeaflnaa", sum := "77d4ada3b0c65fecd4d6bd23fc10eada8e54cda8ce83b8f427fe8dc970fe1a4d", func := "facsimile/facsimilelaw04.QuotaDoes", spec := "quotaDoes", apart := false }
def QuotaDoesSaid : Prop := quotaDoesRow.holds Try.pinned (OpenSpec.ofChange quotaDoesSpec)

/-- ITS FALSE NEIGHBOUR: 'it returns false'. Refute it at one input. -/
def quotaDoesWrong : ChangeSpec := { name := "quotaDoes", fn := fun _ => fun
  | [d1, d2] => { results := [.lit (.bool false)], args := [d1, d2] }
  | _ => none }
def QuotaDoesWrongFalsely : Prop := quotaDoesRow.holds Try.pinned (OpenSpec.ofChange quotaDoesWrong)

/-- 'facsimilelaw04.QuotaNil': WHATEVER THE INPUT: true; the input reads as it did. -/
def quotaNilSpec : ChangeSpec := { name := "quotaNil", fn := fun _ => fun
  | [d1, d2, d3] => { results := [.lit (.bool true)], args := [d1, d2, d3] }
  | _ => none }
def quotaNilRow : OpenClaim := { program := "ytajfnkboeaflnaa", sum := "77d4ada3b0c65fecd4d6bd23fc10eada8e54cda8ce83b8f427fe8dc970fe1a4d", func := "facsimile/facsimilelaw04.QuotaNil", spec := "quotaNil", apart := false }
def QuotaNilSaid : Prop := quotaNilRow.holds Try.pinned (OpenSpec.ofChange quotaNilSpec)

/-- ITS FALSE NEIGHBOUR: 'it returns false'. Refute it at one input. -/
def quotaNilWrong : ChangeSpec := { name := "quotaNil", fn := fun _ => fun
  | [d1, d2, d3] => { results := [.lit (.bool false)], args := [d1, d2, d3] }
  | _ => none }
def QuotaNilWrongFalsely : Prop := quotaNilRow.holds Try.pinned (OpenSpec.ofChange quotaNilWrong)

/- THE SECOND FORM. 'bulk': how many values and letters a reading holds, each counted each time it is reached (what is shared counts as often as it is met; a slice's spare places count too). A statement '..UptoSaid' is the law's where the arguments, and the package variables that the reading takes, are together of bulk at most 1048576: NARROWER than '..Said'. Prove '..Said' where nothing that the law and all that it calls make is longer than what came in: it says more and counts as full. Else prove '..UptoSaid'. A law counts once. -/
mutual
def uptoBulk {H : Type} : DataW H → Nat
  | .lit (.string bytes) => bytes.length + 1
  | .lit _ => 1
  | .nil => 1
  | .ptr d => uptoBulk d + 1
  | .slice elems spare => uptoBulkAll elems + uptoBulkAll spare + 1
  | .agg parts => uptoBulkAll parts + 1
  | .iface _ d => uptoBulk d + 1
  | .map entries => uptoBulkEntries entries + 1
  | .held _ => 1
def uptoBulkAll {H : Type} : List (DataW H) → Nat
  | [] => 0
  | d :: r => uptoBulk d + uptoBulkAll r
def uptoBulkEntries {H : Type} : List (Lit × DataW H) → Nat
  | [] => 0
  | x :: r => uptoBulkEntry x + uptoBulkEntries r
def uptoBulkEntry {H : Type} : Lit × DataW H → Nat
  | (.string bytes, d) => bytes.length + uptoBulk d + 1
  | (_, d) => uptoBulk d + 1
 end
def uptoSmall : (H : Type) → List (DataW H) → Bool := fun _ ds => decide (uptoBulkAll ds ≤ 1048576)
def OpenSpec.upto (s : _root_.Go.ChangeSpec) : _root_.Go.OpenSpec := { _root_.Go.OpenSpec.ofChange s with cond := some uptoSmall }

/-- 'facsimilelaw04.QuotaParts', WHERE WHAT IT READS IS OF BULK AT MOST 1048576: true; the input reads as it did. -/
def quotaPartsUptoRow : OpenClaim := { program := "ytajfnkboeaflnaa", sum := "77d4ada3b0c65fecd4d6bd23fc10eada8e54cda8ce83b8f427fe8dc970fe1a4d", func := "facsimile/facsimilelaw04.QuotaParts", spec := "quotaParts", apart := false, narrowed := true }
def QuotaPartsUptoSaid : Prop := quotaPartsUptoRow.holds Try.pinned (OpenSpec.upto quotaPartsSpec)

/-- 'facsimilelaw04.QuotaDoes', WHERE WHAT IT READS IS OF BULK AT MOST 1048576: true; the input reads as it did. -/
def quotaDoesUptoRow : OpenClaim := { program := "ytajfnkboeaflnaa", sum := "77d4ada3b0c65fecd4d6bd23fc10eada8e54cda8ce83b8f427fe8dc970fe1a4d", func := "facsimile/facsimilelaw04.QuotaDoes", spec := "quotaDoes", apart := false, narrowed := true }
def QuotaDoesUptoSaid : Prop := quotaDoesUptoRow.holds Try.pinned (OpenSpec.upto quotaDoesSpec)

/-- 'facsimilelaw04.QuotaNil', WHERE WHAT IT READS IS OF BULK AT MOST 1048576: true; the input reads as it did. -/
def quotaNilUptoRow : OpenClaim := { program := "ytajfnkboeaflnaa", sum := "77d4ada3b0c65fecd4d6bd23fc10eada8e54cda8ce83b8f427fe8dc970fe1a4d", func := "facsimile/facsimilelaw04.QuotaNil", spec := "quotaNil", apart := false, narrowed := true }
def QuotaNilUptoSaid : Prop := quotaNilUptoRow.holds Try.pinned (OpenSpec.upto quotaNilSpec)

end Rows
end Go.Proofs.Ytajfnkboeaflnaa
