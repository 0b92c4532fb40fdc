/-
  DERIVED. GIVEN WITH THE SEED: THE CARDS: each row of YtjhljokghikamaaGreatDoorRows.lean that lists a variable, with what it lists TIED to the program's text (the seventh form; the later family's looks); each row that meets fmt, with fmt's text TOLD by the authors' own Lean function (tested against real Go, not proved from fmt's source: count such statements apart). THE CARD IS WHAT COUNTS. Prove the row's statement (the work); the ties are given (YtjhljokghikamaaGreatDoorTie.lean); close each card by the builder's one call (the guide's Derived/Test/ToyasCard.lean, 'card_holds'). Laid BY PROGRAM, IN A SANDBOX (cutbox-door.mjs). By AI agents, Wed Nov 11 2026. No macro, syntax, notation, axiom, sorry.
-/
import Derived.Test.YtjhljokghikamaaGreatDoorRows
import GoSem.ClaimSeven
namespace Go.Proofs.YtjhljokghikamaaGreatDoor
namespace Rows

/-- THE TIED CARD OF 'padlocklaw09.ResetLeast'. -/
def resetLeastCard : Claim7 := { stood := { row := resetLeastRow, standIns := [], harness := (true, "775244fb1700d60992a320a34a0ed2d6c73eeab56a4c7c8116a7430660b1bf7e"), looks := false }, kinds := [], alts := [], laidByText := true, laidKinds := [.data, .data, .data, .widerDeep], laidTests := true, laidLooks := .later }
def ResetLeastCardSaid : Prop := Claim7.holds Tryz.pinned (.plain (OpenSpec.ofChange resetLeastSpec)) resetLeastCard

/-- THE TIED CARD OF 'padlocklaw09.ResetFirst'. -/
def resetFirstCard : Claim7 := { stood := { row := resetFirstRow, standIns := [], harness := (true, "775244fb1700d60992a320a34a0ed2d6c73eeab56a4c7c8116a7430660b1bf7e"), looks := false }, kinds := [], alts := [], laidByText := true, laidKinds := [.data, .data, .data, .widerDeep], laidTests := true, laidLooks := .later }
def ResetFirstCardSaid : Prop := Claim7.holds Tryz.pinned (.plain (OpenSpec.ofChange resetFirstSpec)) resetFirstCard

/-- THE TIED CARD OF 'padlocklaw09.ResetWrong'. -/
def resetWrongCard : Claim7 := { stood := { row := resetWrongRow, standIns := [], harness := (true, "775244fb1700d60992a320a34a0ed2d6c73eeab56a4c7c8116a7430660b1bf7e"), looks := false }, kinds := [], alts := [], laidByText := true, laidKinds := [.data, .data, .data, .widerDeep], laidTests := true, laidLooks := .later }
def ResetWrongCardSaid : Prop := Claim7.holds Tryz.pinned (.plain (OpenSpec.ofChange resetWrongSpec)) resetWrongCard

/-- THE TIED CARD OF 'padlocklaw09.ResetPhotos'. -/
def resetPhotosCard : Claim7 := { stood := { row := resetPhotosRow, standIns := [], harness := (true, "775244fb1700d60992a320a34a0ed2d6c73eeab56a4c7c8116a7430660b1bf7e"), looks := false }, kinds := [], alts := [], laidByText := true, laidKinds := [.data, .data, .data, .widerDeep], laidTests := true, laidLooks := .later }
def ResetPhotosCardSaid : Prop := Claim7.holds Tryz.pinned (.plain (OpenSpec.ofChange resetPhotosSpec)) resetPhotosCard

/-- THE TIED CARD OF 'padlocklaw09.ResetChecks'. -/
def resetChecksCard : Claim7 := { stood := { row := resetChecksRow, standIns := [], harness := (true, "775244fb1700d60992a320a34a0ed2d6c73eeab56a4c7c8116a7430660b1bf7e"), looks := false }, kinds := [], alts := [], laidByText := true, laidKinds := [.data, .data, .data, .widerDeep], laidTests := true, laidLooks := .later }
def ResetChecksCardSaid : Prop := Claim7.holds Tryz.pinned (.plain (OpenSpec.ofChange resetChecksSpec)) resetChecksCard

/-- THE TIED CARD OF 'padlocklaw09.ResetFewest'. -/
def resetFewestCard : Claim7 := { stood := { row := resetFewestRow, standIns := [], harness := (true, "775244fb1700d60992a320a34a0ed2d6c73eeab56a4c7c8116a7430660b1bf7e"), looks := false }, kinds := [], alts := [], laidByText := true, laidKinds := [.data, .data, .data, .widerDeep], laidTests := true, laidLooks := .later }
def ResetFewestCardSaid : Prop := Claim7.holds Tryz.pinned (.plain (OpenSpec.ofChange resetFewestSpec)) resetFewestCard

/-- THE TIED CARD OF 'padlocklaw09.ResetCompares'. -/
def resetComparesCard : Claim7 := { stood := { row := resetComparesRow, standIns := [], harness := (true, "775244fb1700d60992a320a34a0ed2d6c73eeab56a4c7c8116a7430660b1bf7e"), looks := false }, kinds := [], alts := [], laidByText := true, laidKinds := [.data, .data, .data, .widerDeep], laidTests := true, laidLooks := .later }
def ResetComparesCardSaid : Prop := Claim7.holds Tryz.pinned (.plain (OpenSpec.ofChange resetComparesSpec)) resetComparesCard

/-- THE TIED CARD OF 'padlocklaw09.ResetDiffers'. -/
def resetDiffersCard : Claim7 := { stood := { row := resetDiffersRow, standIns := [], harness := (true, "775244fb1700d60992a320a34a0ed2d6c73eeab56a4c7c8116a7430660b1bf7e"), looks := false }, kinds := [], alts := [], laidByText := true, laidKinds := [.data, .data, .data, .widerDeep], laidTests := true, laidLooks := .later }
def ResetDiffersCardSaid : Prop := Claim7.holds Tryz.pinned (.plain (OpenSpec.ofChange resetDiffersSpec)) resetDiffersCard

/-- THE TIED CARD OF 'padlocklaw09.ResetBack'. -/
def resetBackCard : Claim7 := { stood := { row := resetBackRow, standIns := [], harness := (true, "775244fb1700d60992a320a34a0ed2d6c73eeab56a4c7c8116a7430660b1bf7e"), looks := false }, kinds := [], alts := [], laidByText := true, laidKinds := [.data, .data, .data, .widerDeep], laidTests := true, laidLooks := .later }
def ResetBackCardSaid : Prop := Claim7.holds Tryz.pinned (.plain (OpenSpec.ofChange resetBackSpec)) resetBackCard

/-- THE TIED CARD OF 'padlocklaw09.ResetOrders'. -/
def resetOrdersCard : Claim7 := { stood := { row := resetOrdersRow, standIns := [], harness := (true, "775244fb1700d60992a320a34a0ed2d6c73eeab56a4c7c8116a7430660b1bf7e"), looks := false }, kinds := [], alts := [], laidByText := true, laidKinds := [.data, .data, .data, .widerDeep], laidTests := true, laidLooks := .later }
def ResetOrdersCardSaid : Prop := Claim7.holds Tryz.pinned (.plain (OpenSpec.ofChange resetOrdersSpec)) resetOrdersCard

/-- THE SECOND FORM's CARD OF 'padlocklaw09.ResetLeast'. -/
def resetLeastUptoCard : Claim7 := { stood := { row := resetLeastUptoRow, standIns := [], harness := (true, "775244fb1700d60992a320a34a0ed2d6c73eeab56a4c7c8116a7430660b1bf7e"), looks := false }, kinds := [], alts := [], laidByText := true, laidKinds := [.data, .data, .data, .widerDeep], laidTests := true, laidLooks := .later }
def ResetLeastUptoCardSaid : Prop := Claim7.holds Tryz.pinned (.plain (OpenSpec.upto resetLeastSpec)) resetLeastUptoCard

/-- THE SECOND FORM's CARD OF 'padlocklaw09.ResetFirst'. -/
def resetFirstUptoCard : Claim7 := { stood := { row := resetFirstUptoRow, standIns := [], harness := (true, "775244fb1700d60992a320a34a0ed2d6c73eeab56a4c7c8116a7430660b1bf7e"), looks := false }, kinds := [], alts := [], laidByText := true, laidKinds := [.data, .data, .data, .widerDeep], laidTests := true, laidLooks := .later }
def ResetFirstUptoCardSaid : Prop := Claim7.holds Tryz.pinned (.plain (OpenSpec.upto resetFirstSpec)) resetFirstUptoCard

/-- THE SECOND FORM's CARD OF 'padlocklaw09.ResetWrong'. -/
def resetWrongUptoCard : Claim7 := { stood := { row := resetWrongUptoRow, standIns := [], harness := (true, "775244fb1700d60992a320a34a0ed2d6c73eeab56a4c7c8116a7430660b1bf7e"), looks := false }, kinds := [], alts := [], laidByText := true, laidKinds := [.data, .data, .data, .widerDeep], laidTests := true, laidLooks := .later }
def ResetWrongUptoCardSaid : Prop := Claim7.holds Tryz.pinned (.plain (OpenSpec.upto resetWrongSpec)) resetWrongUptoCard

/-- THE SECOND FORM's CARD OF 'padlocklaw09.ResetPhotos'. -/
def resetPhotosUptoCard : Claim7 := { stood := { row := resetPhotosUptoRow, standIns := [], harness := (true, "775244fb1700d60992a320a34a0ed2d6c73eeab56a4c7c8116a7430660b1bf7e"), looks := false }, kinds := [], alts := [], laidByText := true, laidKinds := [.data, .data, .data, .widerDeep], laidTests := true, laidLooks := .later }
def ResetPhotosUptoCardSaid : Prop := Claim7.holds Tryz.pinned (.plain (OpenSpec.upto resetPhotosSpec)) resetPhotosUptoCard

/-- THE SECOND FORM's CARD OF 'padlocklaw09.ResetChecks'. -/
def resetChecksUptoCard : Claim7 := { stood := { row := resetChecksUptoRow, standIns := [], harness := (true, "775244fb1700d60992a320a34a0ed2d6c73eeab56a4c7c8116a7430660b1bf7e"), looks := false }, kinds := [], alts := [], laidByText := true, laidKinds := [.data, .data, .data, .widerDeep], laidTests := true, laidLooks := .later }
def ResetChecksUptoCardSaid : Prop := Claim7.holds Tryz.pinned (.plain (OpenSpec.upto resetChecksSpec)) resetChecksUptoCard

/-- THE SECOND FORM's CARD OF 'padlocklaw09.ResetFewest'. -/
def resetFewestUptoCard : Claim7 := { stood := { row := resetFewestUptoRow, standIns := [], harness := (true, "775244fb1700d60992a320a34a0ed2d6c73eeab56a4c7c8116a7430660b1bf7e"), looks := false }, kinds := [], alts := [], laidByText := true, laidKinds := [.data, .data, .data, .widerDeep], laidTests := true, laidLooks := .later }
def ResetFewestUptoCardSaid : Prop := Claim7.holds Tryz.pinned (.plain (OpenSpec.upto resetFewestSpec)) resetFewestUptoCard

/-- THE SECOND FORM's CARD OF 'padlocklaw09.ResetCompares'. -/
def resetComparesUptoCard : Claim7 := { stood := { row := resetComparesUptoRow, standIns := [], harness := (true, "775244fb1700d60992a320a34a0ed2d6c73eeab56a4c7c8116a7430660b1bf7e"), looks := false }, kinds := [], alts := [], laidByText := true, laidKinds := [.data, .data, .data, .widerDeep], laidTests := true, laidLooks := .later }
def ResetComparesUptoCardSaid : Prop := Claim7.holds Tryz.pinned (.plain (OpenSpec.upto resetComparesSpec)) resetComparesUptoCard

/-- THE SECOND FORM's CARD OF 'padlocklaw09.ResetDiffers'. -/
def resetDiffersUptoCard : Claim7 := { stood := { row := resetDiffersUptoRow, standIns := [], harness := (true, "775244fb1700d60992a320a34a0ed2d6c73eeab56a4c7c8116a7430660b1bf7e"), looks := false }, kinds := [], alts := [], laidByText := true, laidKinds := [.data, .data, .data, .widerDeep], laidTests := true, laidLooks := .later }
def ResetDiffersUptoCardSaid : Prop := Claim7.holds Tryz.pinned (.plain (OpenSpec.upto resetDiffersSpec)) resetDiffersUptoCard

/-- THE SECOND FORM's CARD OF 'padlocklaw09.ResetBack'. -/
def resetBackUptoCard : Claim7 := { stood := { row := resetBackUptoRow, standIns := [], harness := (true, "775244fb1700d60992a320a34a0ed2d6c73eeab56a4c7c8116a7430660b1bf7e"), looks := false }, kinds := [], alts := [], laidByText := true, laidKinds := [.data, .data, .data, .widerDeep], laidTests := true, laidLooks := .later }
def ResetBackUptoCardSaid : Prop := Claim7.holds Tryz.pinned (.plain (OpenSpec.upto resetBackSpec)) resetBackUptoCard

/-- THE SECOND FORM's CARD OF 'padlocklaw09.ResetOrders'. -/
def resetOrdersUptoCard : Claim7 := { stood := { row := resetOrdersUptoRow, standIns := [], harness := (true, "775244fb1700d60992a320a34a0ed2d6c73eeab56a4c7c8116a7430660b1bf7e"), looks := false }, kinds := [], alts := [], laidByText := true, laidKinds := [.data, .data, .data, .widerDeep], laidTests := true, laidLooks := .later }
def ResetOrdersUptoCardSaid : Prop := Claim7.holds Tryz.pinned (.plain (OpenSpec.upto resetOrdersSpec)) resetOrdersUptoCard
end Rows
end Go.Proofs.YtjhljokghikamaaGreatDoor
