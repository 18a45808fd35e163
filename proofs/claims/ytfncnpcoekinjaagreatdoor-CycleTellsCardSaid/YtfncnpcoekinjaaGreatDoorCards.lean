/-
  DERIVED. GIVEN WITH THE SEED: THE CARDS: each row of YtfncnpcoekinjaaGreatDoorRows.lean that lists a variable, with what it lists TIED to the program's text (the seventh form; the later family's looks); each row that meets fmt, with fmt's text TOLD by the authors' own Lean function (tested against real Go, not proved from fmt's source: count such statements apart). THE CARD IS WHAT COUNTS. Prove the row's statement (the work); the ties are given (YtfncnpcoekinjaaGreatDoorTie.lean); close each card by the builder's one call (the guide's Derived/Test/ToyasCard.lean, 'card_holds'). Laid BY PROGRAM, IN A SANDBOX (cutbox-door.mjs). By AI agents, Wed Nov 11 2026. No macro, syntax, notation, axiom, sorry.
-/
import Derived.Test.YtfncnpcoekinjaaGreatDoorRows
import GoSem.ClaimSeven
namespace Go.Proofs.YtfncnpcoekinjaaGreatDoor
namespace Rows

/-- THE TIED CARD OF 'umpirelaw30.CycleShortest'. -/
def cycleShortestCard : Claim7 := { stood := { row := cycleShortestRow, standIns := [], harness := (true, "6fa8cccb46f3df1954269f58e9cf3a8659ab2058eb56b99b47be64e708f28132"), looks := false }, kinds := [], alts := [], laidByText := true, laidKinds := [.data, .data, .data, .data], laidTests := true, laidLooks := .later }
def CycleShortestCardSaid : Prop := Claim7.holds Tryz.pinned (.plain (OpenSpec.ofChange cycleShortestSpec)) cycleShortestCard

/-- THE TIED CARD OF 'umpirelaw30.CycleKnown'. -/
def cycleKnownCard : Claim7 := { stood := { row := cycleKnownRow, standIns := [], harness := (true, "6fa8cccb46f3df1954269f58e9cf3a8659ab2058eb56b99b47be64e708f28132"), looks := false }, kinds := [], alts := [], laidByText := true, laidKinds := [.data, .data, .data, .data], laidTests := true, laidLooks := .later }
def CycleKnownCardSaid : Prop := Claim7.holds Tryz.pinned (.plain (OpenSpec.ofChange cycleKnownSpec)) cycleKnownCard

/-- THE TIED CARD OF 'umpirelaw30.CycleLeast'. -/
def cycleLeastCard : Claim7 := { stood := { row := cycleLeastRow, standIns := [], harness := (true, "6fa8cccb46f3df1954269f58e9cf3a8659ab2058eb56b99b47be64e708f28132"), looks := false }, kinds := [], alts := [], laidByText := true, laidKinds := [.data, .data, .data, .data], laidTests := true, laidLooks := .later }
def CycleLeastCardSaid : Prop := Claim7.holds Tryz.pinned (.plain (OpenSpec.ofChange cycleLeastSpec)) cycleLeastCard

/-- THE TIED CARD OF 'umpirelaw30.CycleTells'. -/
def cycleTellsCard : Claim7 := { stood := { row := cycleTellsRow, standIns := [], harness := (true, "6fa8cccb46f3df1954269f58e9cf3a8659ab2058eb56b99b47be64e708f28132"), looks := false }, kinds := [], alts := [], laidByText := true, laidKinds := [.data, .data, .data, .data], laidTests := true, laidLooks := .later }
def CycleTellsCardSaid : Prop := Claim7.holds Tryz.pinned (.plain (OpenSpec.ofChange cycleTellsSpec)) cycleTellsCard

/-- THE TIED CARD OF 'umpirelaw30.CycleMet'. -/
def cycleMetCard : Claim7 := { stood := { row := cycleMetRow, standIns := [], harness := (true, "6fa8cccb46f3df1954269f58e9cf3a8659ab2058eb56b99b47be64e708f28132"), looks := false }, kinds := [], alts := [], laidByText := true, laidKinds := [.data, .data, .data, .data], laidTests := true, laidLooks := .later }
def CycleMetCardSaid : Prop := Claim7.holds Tryz.pinned (.plain (OpenSpec.ofChange cycleMetSpec)) cycleMetCard

/-- THE SECOND FORM's CARD OF 'umpirelaw30.CycleShortest'. -/
def cycleShortestUptoCard : Claim7 := { stood := { row := cycleShortestUptoRow, standIns := [], harness := (true, "6fa8cccb46f3df1954269f58e9cf3a8659ab2058eb56b99b47be64e708f28132"), looks := false }, kinds := [], alts := [], laidByText := true, laidKinds := [.data, .data, .data, .data], laidTests := true, laidLooks := .later }
def CycleShortestUptoCardSaid : Prop := Claim7.holds Tryz.pinned (.plain (OpenSpec.upto cycleShortestSpec)) cycleShortestUptoCard

/-- THE SECOND FORM's CARD OF 'umpirelaw30.CycleKnown'. -/
def cycleKnownUptoCard : Claim7 := { stood := { row := cycleKnownUptoRow, standIns := [], harness := (true, "6fa8cccb46f3df1954269f58e9cf3a8659ab2058eb56b99b47be64e708f28132"), looks := false }, kinds := [], alts := [], laidByText := true, laidKinds := [.data, .data, .data, .data], laidTests := true, laidLooks := .later }
def CycleKnownUptoCardSaid : Prop := Claim7.holds Tryz.pinned (.plain (OpenSpec.upto cycleKnownSpec)) cycleKnownUptoCard

/-- THE SECOND FORM's CARD OF 'umpirelaw30.CycleLeast'. -/
def cycleLeastUptoCard : Claim7 := { stood := { row := cycleLeastUptoRow, standIns := [], harness := (true, "6fa8cccb46f3df1954269f58e9cf3a8659ab2058eb56b99b47be64e708f28132"), looks := false }, kinds := [], alts := [], laidByText := true, laidKinds := [.data, .data, .data, .data], laidTests := true, laidLooks := .later }
def CycleLeastUptoCardSaid : Prop := Claim7.holds Tryz.pinned (.plain (OpenSpec.upto cycleLeastSpec)) cycleLeastUptoCard

/-- THE SECOND FORM's CARD OF 'umpirelaw30.CycleTells'. -/
def cycleTellsUptoCard : Claim7 := { stood := { row := cycleTellsUptoRow, standIns := [], harness := (true, "6fa8cccb46f3df1954269f58e9cf3a8659ab2058eb56b99b47be64e708f28132"), looks := false }, kinds := [], alts := [], laidByText := true, laidKinds := [.data, .data, .data, .data], laidTests := true, laidLooks := .later }
def CycleTellsUptoCardSaid : Prop := Claim7.holds Tryz.pinned (.plain (OpenSpec.upto cycleTellsSpec)) cycleTellsUptoCard

/-- THE SECOND FORM's CARD OF 'umpirelaw30.CycleMet'. -/
def cycleMetUptoCard : Claim7 := { stood := { row := cycleMetUptoRow, standIns := [], harness := (true, "6fa8cccb46f3df1954269f58e9cf3a8659ab2058eb56b99b47be64e708f28132"), looks := false }, kinds := [], alts := [], laidByText := true, laidKinds := [.data, .data, .data, .data], laidTests := true, laidLooks := .later }
def CycleMetUptoCardSaid : Prop := Claim7.holds Tryz.pinned (.plain (OpenSpec.upto cycleMetSpec)) cycleMetUptoCard
end Rows
end Go.Proofs.YtfncnpcoekinjaaGreatDoor
