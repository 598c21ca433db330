/-
  DERIVED. GIVEN WITH THE SEED: THE CARDS: each row of YtenijacffcdnaaaDoorRows.lean that lists a variable, with what it lists TIED to the program's text (the seventh form; the later family's looks); each row that meets fmt, with fmt's text TOLD by the authors' own Lean function (tested against real Go, not proved from fmt's source: count such statements apart). THE CARD IS WHAT COUNTS. Prove the row's statement (the work); the ties are given (YtenijacffcdnaaaDoorTie.lean); close each card by the builder's one call (the guide's Derived/Test/ToyasCard.lean, 'card_holds'). Laid BY PROGRAM, IN A SANDBOX (cutbox-door.mjs). By AI agents, Wed Nov 11 2026. No macro, syntax, notation, axiom, sorry.
-/
import Derived.Test.YtenijacffcdnaaaDoorRows
import GoSem.ClaimSeven
namespace Go.Proofs.YtenijacffcdnaaaDoor
namespace Rows

/-- THE TIED CARD OF 'facsimilelaw16.MunchNext'. -/
def munchNextCard : Claim7 := { stood := { row := munchNextRow, standIns := [], harness := (true, "850ed77b7f016bd471b48af70781e0b6abef5692cd98dc961eececc2fc9f5a28"), looks := false }, kinds := [], alts := [], laidByText := true, laidKinds := [.data], laidTests := true, laidLooks := .later }
def MunchNextCardSaid : Prop := Claim7.holds Tryd.pinned (.plain (OpenSpec.ofChange munchNextSpec)) munchNextCard

/-- THE TIED CARD OF 'facsimilelaw16.MunchCuts'. -/
def munchCutsCard : Claim7 := { stood := { row := munchCutsRow, standIns := [], harness := (true, "850ed77b7f016bd471b48af70781e0b6abef5692cd98dc961eececc2fc9f5a28"), looks := false }, kinds := [], alts := [], laidByText := true, laidKinds := [.data], laidTests := true, laidLooks := .later }
def MunchCutsCardSaid : Prop := Claim7.holds Tryd.pinned (.plain (OpenSpec.ofChange munchCutsSpec)) munchCutsCard

/-- THE TIED CARD OF 'facsimilelaw16.MunchAll'. -/
def munchAllCard : Claim7 := { stood := { row := munchAllRow, standIns := [], harness := (true, "850ed77b7f016bd471b48af70781e0b6abef5692cd98dc961eececc2fc9f5a28"), looks := false }, kinds := [], alts := [], laidByText := true, laidKinds := [.data], laidTests := true, laidLooks := .later }
def MunchAllCardSaid : Prop := Claim7.holds Tryd.pinned (.plain (OpenSpec.ofChange munchAllSpec)) munchAllCard

/-- THE TIED CARD OF 'facsimilelaw16.MunchParts'. -/
def munchPartsCard : Claim7 := { stood := { row := munchPartsRow, standIns := [], harness := (true, "850ed77b7f016bd471b48af70781e0b6abef5692cd98dc961eececc2fc9f5a28"), looks := false }, kinds := [], alts := [], laidByText := true, laidKinds := [.data], laidTests := true, laidLooks := .later }
def MunchPartsCardSaid : Prop := Claim7.holds Tryd.pinned (.plain (OpenSpec.ofChange munchPartsSpec)) munchPartsCard

/-- THE SECOND FORM's CARD OF 'facsimilelaw16.MunchNext'. -/
def munchNextUptoCard : Claim7 := { stood := { row := munchNextUptoRow, standIns := [], harness := (true, "850ed77b7f016bd471b48af70781e0b6abef5692cd98dc961eececc2fc9f5a28"), looks := false }, kinds := [], alts := [], laidByText := true, laidKinds := [.data], laidTests := true, laidLooks := .later }
def MunchNextUptoCardSaid : Prop := Claim7.holds Tryd.pinned (.plain (OpenSpec.upto munchNextSpec)) munchNextUptoCard

/-- THE SECOND FORM's CARD OF 'facsimilelaw16.MunchCuts'. -/
def munchCutsUptoCard : Claim7 := { stood := { row := munchCutsUptoRow, standIns := [], harness := (true, "850ed77b7f016bd471b48af70781e0b6abef5692cd98dc961eececc2fc9f5a28"), looks := false }, kinds := [], alts := [], laidByText := true, laidKinds := [.data], laidTests := true, laidLooks := .later }
def MunchCutsUptoCardSaid : Prop := Claim7.holds Tryd.pinned (.plain (OpenSpec.upto munchCutsSpec)) munchCutsUptoCard

/-- THE SECOND FORM's CARD OF 'facsimilelaw16.MunchAll'. -/
def munchAllUptoCard : Claim7 := { stood := { row := munchAllUptoRow, standIns := [], harness := (true, "850ed77b7f016bd471b48af70781e0b6abef5692cd98dc961eececc2fc9f5a28"), looks := false }, kinds := [], alts := [], laidByText := true, laidKinds := [.data], laidTests := true, laidLooks := .later }
def MunchAllUptoCardSaid : Prop := Claim7.holds Tryd.pinned (.plain (OpenSpec.upto munchAllSpec)) munchAllUptoCard

/-- THE SECOND FORM's CARD OF 'facsimilelaw16.MunchParts'. -/
def munchPartsUptoCard : Claim7 := { stood := { row := munchPartsUptoRow, standIns := [], harness := (true, "850ed77b7f016bd471b48af70781e0b6abef5692cd98dc961eececc2fc9f5a28"), looks := false }, kinds := [], alts := [], laidByText := true, laidKinds := [.data], laidTests := true, laidLooks := .later }
def MunchPartsUptoCardSaid : Prop := Claim7.holds Tryd.pinned (.plain (OpenSpec.upto munchPartsSpec)) munchPartsUptoCard
end Rows
end Go.Proofs.YtenijacffcdnaaaDoor
