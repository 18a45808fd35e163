/-
  DERIVED. GIVEN WITH THE SEED: THE CARDS: each row of YtjkmnbdfpednfaaGreatDoorRows.lean that lists a variable, with what it lists TIED to the program's text (the seventh form; the later family's looks); each row that meets fmt, with fmt's text TOLD by the authors' own Lean function (tested against real Go, not proved from fmt's source: count such statements apart). THE CARD IS WHAT COUNTS. Prove the row's statement (the work); the ties are given (YtjkmnbdfpednfaaGreatDoorTie.lean); close each card by the builder's one call (the guide's Derived/Test/ToyasCard.lean, 'card_holds'). Laid BY PROGRAM, IN A SANDBOX (cutbox-door.mjs). By AI agents, Wed Nov 11 2026. No macro, syntax, notation, axiom, sorry.
-/
import Derived.Test.YtjkmnbdfpednfaaGreatDoorRows
import GoSem.ClaimSeven
namespace Go.Proofs.YtjkmnbdfpednfaaGreatDoor
namespace Rows

/-- THE TIED CARD OF 'umpirelaw29.AnomalyCycles'. -/
def anomalyCyclesCard : Claim7 := { stood := { row := anomalyCyclesRow, standIns := [], harness := (true, "e0a95cfa5fed42269bd2eec15dcc25878e29442faf8e7b7aaa1e5a175f8119b8"), looks := false }, kinds := [], alts := [], laidByText := true, laidKinds := [.data], laidTests := true, laidLooks := .later }
def AnomalyCyclesCardSaid : Prop := Claim7.holds Tryz.pinned (.plain (OpenSpec.ofChange anomalyCyclesSpec)) anomalyCyclesCard

/-- THE TIED CARD OF 'umpirelaw29.AnomalySerial'. -/
def anomalySerialCard : Claim7 := { stood := { row := anomalySerialRow, standIns := [], harness := (true, "e0a95cfa5fed42269bd2eec15dcc25878e29442faf8e7b7aaa1e5a175f8119b8"), looks := false }, kinds := [], alts := [], laidByText := true, laidKinds := [.data], laidTests := true, laidLooks := .later }
def AnomalySerialCardSaid : Prop := Claim7.holds Tryz.pinned (.plain (OpenSpec.ofChange anomalySerialSpec)) anomalySerialCard

/-- THE TIED CARD OF 'umpirelaw29.AnomalyStays'. -/
def anomalyStaysCard : Claim7 := { stood := { row := anomalyStaysRow, standIns := [], harness := (true, "e0a95cfa5fed42269bd2eec15dcc25878e29442faf8e7b7aaa1e5a175f8119b8"), looks := false }, kinds := [], alts := [], laidByText := true, laidKinds := [.data], laidTests := true, laidLooks := .later }
def AnomalyStaysCardSaid : Prop := Claim7.holds Tryz.pinned (.plain (OpenSpec.ofChange anomalyStaysSpec)) anomalyStaysCard

/-- THE TIED CARD OF 'umpirelaw29.AnomalyKnown'. -/
def anomalyKnownCard : Claim7 := { stood := { row := anomalyKnownRow, standIns := [], harness := (true, "e0a95cfa5fed42269bd2eec15dcc25878e29442faf8e7b7aaa1e5a175f8119b8"), looks := false }, kinds := [], alts := [], laidByText := true, laidKinds := [.data], laidTests := true, laidLooks := .later }
def AnomalyKnownCardSaid : Prop := Claim7.holds Tryz.pinned (.plain (OpenSpec.ofChange anomalyKnownSpec)) anomalyKnownCard

/-- THE SECOND FORM's CARD OF 'umpirelaw29.AnomalyCycles'. -/
def anomalyCyclesUptoCard : Claim7 := { stood := { row := anomalyCyclesUptoRow, standIns := [], harness := (true, "e0a95cfa5fed42269bd2eec15dcc25878e29442faf8e7b7aaa1e5a175f8119b8"), looks := false }, kinds := [], alts := [], laidByText := true, laidKinds := [.data], laidTests := true, laidLooks := .later }
def AnomalyCyclesUptoCardSaid : Prop := Claim7.holds Tryz.pinned (.plain (OpenSpec.upto anomalyCyclesSpec)) anomalyCyclesUptoCard

/-- THE SECOND FORM's CARD OF 'umpirelaw29.AnomalySerial'. -/
def anomalySerialUptoCard : Claim7 := { stood := { row := anomalySerialUptoRow, standIns := [], harness := (true, "e0a95cfa5fed42269bd2eec15dcc25878e29442faf8e7b7aaa1e5a175f8119b8"), looks := false }, kinds := [], alts := [], laidByText := true, laidKinds := [.data], laidTests := true, laidLooks := .later }
def AnomalySerialUptoCardSaid : Prop := Claim7.holds Tryz.pinned (.plain (OpenSpec.upto anomalySerialSpec)) anomalySerialUptoCard

/-- THE SECOND FORM's CARD OF 'umpirelaw29.AnomalyStays'. -/
def anomalyStaysUptoCard : Claim7 := { stood := { row := anomalyStaysUptoRow, standIns := [], harness := (true, "e0a95cfa5fed42269bd2eec15dcc25878e29442faf8e7b7aaa1e5a175f8119b8"), looks := false }, kinds := [], alts := [], laidByText := true, laidKinds := [.data], laidTests := true, laidLooks := .later }
def AnomalyStaysUptoCardSaid : Prop := Claim7.holds Tryz.pinned (.plain (OpenSpec.upto anomalyStaysSpec)) anomalyStaysUptoCard

/-- THE SECOND FORM's CARD OF 'umpirelaw29.AnomalyKnown'. -/
def anomalyKnownUptoCard : Claim7 := { stood := { row := anomalyKnownUptoRow, standIns := [], harness := (true, "e0a95cfa5fed42269bd2eec15dcc25878e29442faf8e7b7aaa1e5a175f8119b8"), looks := false }, kinds := [], alts := [], laidByText := true, laidKinds := [.data], laidTests := true, laidLooks := .later }
def AnomalyKnownUptoCardSaid : Prop := Claim7.holds Tryz.pinned (.plain (OpenSpec.upto anomalyKnownSpec)) anomalyKnownUptoCard
end Rows
end Go.Proofs.YtjkmnbdfpednfaaGreatDoor
