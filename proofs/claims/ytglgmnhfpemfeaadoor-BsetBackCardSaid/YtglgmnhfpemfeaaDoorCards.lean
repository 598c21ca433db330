/-
  DERIVED. GIVEN WITH THE SEED: THE CARDS: each row of YtglgmnhfpemfeaaDoorRows.lean that lists a variable, with what it lists TIED to the program's text (the seventh form; the later family's looks); each row that meets fmt, with fmt's text TOLD by the authors' own Lean function (tested against real Go, not proved from fmt's source: count such statements apart). THE CARD IS WHAT COUNTS. Prove the row's statement (the work); the ties are given (YtglgmnhfpemfeaaDoorTie.lean); close each card by the builder's one call (the guide's Derived/Test/ToyasCard.lean, 'card_holds'). Laid BY PROGRAM, IN A SANDBOX (cutbox-door.mjs). By AI agents, Wed Nov 11 2026. No macro, syntax, notation, axiom, sorry.
-/
import Derived.Test.YtglgmnhfpemfeaaDoorRows
import GoSem.ClaimSeven
namespace Go.Proofs.YtglgmnhfpemfeaaDoor
namespace Rows

/-- THE TIED CARD OF 'facsimilelaw02.BsetMakes'. -/
def bsetMakesCard : Claim7 := { stood := { row := bsetMakesRow, standIns := [], harness := (true, "b331147e5afb723099081085b809f5d66e8a5d7c10afeed91dcce09ba5d8b093"), looks := false }, kinds := [], alts := [], laidByText := true, laidKinds := [.data], laidTests := true, laidLooks := .later }
def BsetMakesCardSaid : Prop := Claim7.holds Tryd.pinned (.plain (OpenSpec.ofChange bsetMakesSpec)) bsetMakesCard

/-- THE TIED CARD OF 'facsimilelaw02.BsetBack'. -/
def bsetBackCard : Claim7 := { stood := { row := bsetBackRow, standIns := [], harness := (true, "b331147e5afb723099081085b809f5d66e8a5d7c10afeed91dcce09ba5d8b093"), looks := false }, kinds := [], alts := [], laidByText := true, laidKinds := [.data], laidTests := true, laidLooks := .later }
def BsetBackCardSaid : Prop := Claim7.holds Tryd.pinned (.plain (OpenSpec.ofChange bsetBackSpec)) bsetBackCard

/-- THE TIED CARD OF 'facsimilelaw02.BsetAsks'. -/
def bsetAsksCard : Claim7 := { stood := { row := bsetAsksRow, standIns := [], harness := (true, "b331147e5afb723099081085b809f5d66e8a5d7c10afeed91dcce09ba5d8b093"), looks := false }, kinds := [], alts := [], laidByText := true, laidKinds := [.data], laidTests := true, laidLooks := .later }
def BsetAsksCardSaid : Prop := Claim7.holds Tryd.pinned (.plain (OpenSpec.ofChange bsetAsksSpec)) bsetAsksCard

/-- THE TIED CARD OF 'facsimilelaw02.BsetPuts'. -/
def bsetPutsCard : Claim7 := { stood := { row := bsetPutsRow, standIns := [], harness := (true, "b331147e5afb723099081085b809f5d66e8a5d7c10afeed91dcce09ba5d8b093"), looks := false }, kinds := [], alts := [], laidByText := true, laidKinds := [.data], laidTests := true, laidLooks := .later }
def BsetPutsCardSaid : Prop := Claim7.holds Tryd.pinned (.plain (OpenSpec.ofChange bsetPutsSpec)) bsetPutsCard

/-- THE TIED CARD OF 'facsimilelaw02.BsetTurned'. -/
def bsetTurnedCard : Claim7 := { stood := { row := bsetTurnedRow, standIns := [], harness := (true, "b331147e5afb723099081085b809f5d66e8a5d7c10afeed91dcce09ba5d8b093"), looks := false }, kinds := [], alts := [], laidByText := true, laidKinds := [.data], laidTests := true, laidLooks := .later }
def BsetTurnedCardSaid : Prop := Claim7.holds Tryd.pinned (.plain (OpenSpec.ofChange bsetTurnedSpec)) bsetTurnedCard

/-- THE SECOND FORM's CARD OF 'facsimilelaw02.BsetMakes'. -/
def bsetMakesUptoCard : Claim7 := { stood := { row := bsetMakesUptoRow, standIns := [], harness := (true, "b331147e5afb723099081085b809f5d66e8a5d7c10afeed91dcce09ba5d8b093"), looks := false }, kinds := [], alts := [], laidByText := true, laidKinds := [.data], laidTests := true, laidLooks := .later }
def BsetMakesUptoCardSaid : Prop := Claim7.holds Tryd.pinned (.plain (OpenSpec.upto bsetMakesSpec)) bsetMakesUptoCard

/-- THE SECOND FORM's CARD OF 'facsimilelaw02.BsetBack'. -/
def bsetBackUptoCard : Claim7 := { stood := { row := bsetBackUptoRow, standIns := [], harness := (true, "b331147e5afb723099081085b809f5d66e8a5d7c10afeed91dcce09ba5d8b093"), looks := false }, kinds := [], alts := [], laidByText := true, laidKinds := [.data], laidTests := true, laidLooks := .later }
def BsetBackUptoCardSaid : Prop := Claim7.holds Tryd.pinned (.plain (OpenSpec.upto bsetBackSpec)) bsetBackUptoCard

/-- THE SECOND FORM's CARD OF 'facsimilelaw02.BsetAsks'. -/
def bsetAsksUptoCard : Claim7 := { stood := { row := bsetAsksUptoRow, standIns := [], harness := (true, "b331147e5afb723099081085b809f5d66e8a5d7c10afeed91dcce09ba5d8b093"), looks := false }, kinds := [], alts := [], laidByText := true, laidKinds := [.data], laidTests := true, laidLooks := .later }
def BsetAsksUptoCardSaid : Prop := Claim7.holds Tryd.pinned (.plain (OpenSpec.upto bsetAsksSpec)) bsetAsksUptoCard

/-- THE SECOND FORM's CARD OF 'facsimilelaw02.BsetPuts'. -/
def bsetPutsUptoCard : Claim7 := { stood := { row := bsetPutsUptoRow, standIns := [], harness := (true, "b331147e5afb723099081085b809f5d66e8a5d7c10afeed91dcce09ba5d8b093"), looks := false }, kinds := [], alts := [], laidByText := true, laidKinds := [.data], laidTests := true, laidLooks := .later }
def BsetPutsUptoCardSaid : Prop := Claim7.holds Tryd.pinned (.plain (OpenSpec.upto bsetPutsSpec)) bsetPutsUptoCard

/-- THE SECOND FORM's CARD OF 'facsimilelaw02.BsetTurned'. -/
def bsetTurnedUptoCard : Claim7 := { stood := { row := bsetTurnedUptoRow, standIns := [], harness := (true, "b331147e5afb723099081085b809f5d66e8a5d7c10afeed91dcce09ba5d8b093"), looks := false }, kinds := [], alts := [], laidByText := true, laidKinds := [.data], laidTests := true, laidLooks := .later }
def BsetTurnedUptoCardSaid : Prop := Claim7.holds Tryd.pinned (.plain (OpenSpec.upto bsetTurnedSpec)) bsetTurnedUptoCard
end Rows
end Go.Proofs.YtglgmnhfpemfeaaDoor
