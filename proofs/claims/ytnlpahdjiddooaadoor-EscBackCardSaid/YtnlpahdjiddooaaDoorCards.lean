/-
  DERIVED. GIVEN WITH THE SEED: THE CARDS: each row of YtnlpahdjiddooaaDoorRows.lean that lists a variable, with what it lists TIED to the program's text (the seventh form; the later family's looks); each row that meets fmt, with fmt's text TOLD by the authors' own Lean function (tested against real Go, not proved from fmt's source: count such statements apart). THE CARD IS WHAT COUNTS. Prove the row's statement (the work); the ties are given (YtnlpahdjiddooaaDoorTie.lean); close each card by the builder's one call (the guide's Derived/Test/ToyasCard.lean, 'card_holds'). Laid BY PROGRAM, IN A SANDBOX (cutbox-door.mjs). By AI agents, Wed Nov 11 2026. No macro, syntax, notation, axiom, sorry.
-/
import Derived.Test.YtnlpahdjiddooaaDoorRows
import GoSem.ClaimSeven
namespace Go.Proofs.YtnlpahdjiddooaaDoor
namespace Rows

/-- THE TIED CARD OF 'facsimilelaw05.EscPuts'. -/
def escPutsCard : Claim7 := { stood := { row := escPutsRow, standIns := [], harness := (true, "fd3bbbd629adcec9de6f1c4ee4a81e9d9f3180eead7d5014665529acc840523f"), looks := false }, kinds := [], alts := [], laidByText := true, laidKinds := [.data], laidTests := true, laidLooks := .later }
def EscPutsCardSaid : Prop := Claim7.holds Tryd.pinned (.plain (OpenSpec.ofChange escPutsSpec)) escPutsCard

/-- THE TIED CARD OF 'facsimilelaw05.EscTakes'. -/
def escTakesCard : Claim7 := { stood := { row := escTakesRow, standIns := [], harness := (true, "fd3bbbd629adcec9de6f1c4ee4a81e9d9f3180eead7d5014665529acc840523f"), looks := false }, kinds := [], alts := [], laidByText := true, laidKinds := [.data], laidTests := true, laidLooks := .later }
def EscTakesCardSaid : Prop := Claim7.holds Tryd.pinned (.plain (OpenSpec.ofChange escTakesSpec)) escTakesCard

/-- THE TIED CARD OF 'facsimilelaw05.EscBack'. -/
def escBackCard : Claim7 := { stood := { row := escBackRow, standIns := [], harness := (true, "fd3bbbd629adcec9de6f1c4ee4a81e9d9f3180eead7d5014665529acc840523f"), looks := false }, kinds := [], alts := [], laidByText := true, laidKinds := [.data], laidTests := true, laidLooks := .later }
def EscBackCardSaid : Prop := Claim7.holds Tryd.pinned (.plain (OpenSpec.ofChange escBackSpec)) escBackCard

/-- THE SECOND FORM's CARD OF 'facsimilelaw05.EscPuts'. -/
def escPutsUptoCard : Claim7 := { stood := { row := escPutsUptoRow, standIns := [], harness := (true, "fd3bbbd629adcec9de6f1c4ee4a81e9d9f3180eead7d5014665529acc840523f"), looks := false }, kinds := [], alts := [], laidByText := true, laidKinds := [.data], laidTests := true, laidLooks := .later }
def EscPutsUptoCardSaid : Prop := Claim7.holds Tryd.pinned (.plain (OpenSpec.upto escPutsSpec)) escPutsUptoCard

/-- THE SECOND FORM's CARD OF 'facsimilelaw05.EscTakes'. -/
def escTakesUptoCard : Claim7 := { stood := { row := escTakesUptoRow, standIns := [], harness := (true, "fd3bbbd629adcec9de6f1c4ee4a81e9d9f3180eead7d5014665529acc840523f"), looks := false }, kinds := [], alts := [], laidByText := true, laidKinds := [.data], laidTests := true, laidLooks := .later }
def EscTakesUptoCardSaid : Prop := Claim7.holds Tryd.pinned (.plain (OpenSpec.upto escTakesSpec)) escTakesUptoCard

/-- THE SECOND FORM's CARD OF 'facsimilelaw05.EscBack'. -/
def escBackUptoCard : Claim7 := { stood := { row := escBackUptoRow, standIns := [], harness := (true, "fd3bbbd629adcec9de6f1c4ee4a81e9d9f3180eead7d5014665529acc840523f"), looks := false }, kinds := [], alts := [], laidByText := true, laidKinds := [.data], laidTests := true, laidLooks := .later }
def EscBackUptoCardSaid : Prop := Claim7.holds Tryd.pinned (.plain (OpenSpec.upto escBackSpec)) escBackUptoCard
end Rows
end Go.Proofs.YtnlpahdjiddooaaDoor
