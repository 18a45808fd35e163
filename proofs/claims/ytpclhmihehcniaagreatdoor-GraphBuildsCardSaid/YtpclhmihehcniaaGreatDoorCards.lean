/-
  DERIVED. GIVEN WITH THE SEED: THE CARDS: each row of YtpclhmihehcniaaGreatDoorRows.lean that lists a variable, with what it lists TIED to the program's text (the seventh form; the later family's looks); each row that meets fmt, with fmt's text TOLD by the authors' own Lean function (tested against real Go, not proved from fmt's source: count such statements apart). THE CARD IS WHAT COUNTS. Prove the row's statement (the work); the ties are given (YtpclhmihehcniaaGreatDoorTie.lean); close each card by the builder's one call (the guide's Derived/Test/ToyasCard.lean, 'card_holds'). Laid BY PROGRAM, IN A SANDBOX (cutbox-door.mjs). By AI agents, Wed Nov 11 2026. No macro, syntax, notation, axiom, sorry.
-/
import Derived.Test.YtpclhmihehcniaaGreatDoorRows
import GoSem.ClaimSeven
namespace Go.Proofs.YtpclhmihehcniaaGreatDoor
namespace Rows

/-- THE TIED CARD OF 'umpirelaw27.GraphTold'. -/
def graphToldCard : Claim7 := { stood := { row := graphToldRow, standIns := [], harness := (true, "5556abb540fddf7b98202fe103b91d015b39b6f4ff76685d5851612eb1d5315d"), looks := false }, kinds := [], alts := [], laidByText := true, laidKinds := [.data], laidTests := true, laidLooks := .later }
def GraphToldCardSaid : Prop := Claim7.holds Tryz.pinned (.plain (OpenSpec.ofChange graphToldSpec)) graphToldCard

/-- THE TIED CARD OF 'umpirelaw27.GraphGrows'. -/
def graphGrowsCard : Claim7 := { stood := { row := graphGrowsRow, standIns := [], harness := (true, "5556abb540fddf7b98202fe103b91d015b39b6f4ff76685d5851612eb1d5315d"), looks := false }, kinds := [], alts := [], laidByText := true, laidKinds := [.data], laidTests := true, laidLooks := .later }
def GraphGrowsCardSaid : Prop := Claim7.holds Tryz.pinned (.plain (OpenSpec.ofChange graphGrowsSpec)) graphGrowsCard

/-- THE TIED CARD OF 'umpirelaw27.GraphHolds'. -/
def graphHoldsCard : Claim7 := { stood := { row := graphHoldsRow, standIns := [], harness := (true, "5556abb540fddf7b98202fe103b91d015b39b6f4ff76685d5851612eb1d5315d"), looks := false }, kinds := [], alts := [], laidByText := true, laidKinds := [.data], laidTests := true, laidLooks := .later }
def GraphHoldsCardSaid : Prop := Claim7.holds Tryz.pinned (.plain (OpenSpec.ofChange graphHoldsSpec)) graphHoldsCard

/-- THE TIED CARD OF 'umpirelaw27.GraphBuilds'. -/
def graphBuildsCard : Claim7 := { stood := { row := graphBuildsRow, standIns := [], harness := (true, "5556abb540fddf7b98202fe103b91d015b39b6f4ff76685d5851612eb1d5315d"), looks := false }, kinds := [], alts := [], laidByText := true, laidKinds := [.data], laidTests := true, laidLooks := .later }
def GraphBuildsCardSaid : Prop := Claim7.holds Tryz.pinned (.plain (OpenSpec.ofChange graphBuildsSpec)) graphBuildsCard

/-- THE TIED CARD OF 'umpirelaw27.GraphKnown'. -/
def graphKnownCard : Claim7 := { stood := { row := graphKnownRow, standIns := [], harness := (true, "5556abb540fddf7b98202fe103b91d015b39b6f4ff76685d5851612eb1d5315d"), looks := false }, kinds := [], alts := [], laidByText := true, laidKinds := [.data], laidTests := true, laidLooks := .later }
def GraphKnownCardSaid : Prop := Claim7.holds Tryz.pinned (.plain (OpenSpec.ofChange graphKnownSpec)) graphKnownCard

/-- THE SECOND FORM's CARD OF 'umpirelaw27.GraphTold'. -/
def graphToldUptoCard : Claim7 := { stood := { row := graphToldUptoRow, standIns := [], harness := (true, "5556abb540fddf7b98202fe103b91d015b39b6f4ff76685d5851612eb1d5315d"), looks := false }, kinds := [], alts := [], laidByText := true, laidKinds := [.data], laidTests := true, laidLooks := .later }
def GraphToldUptoCardSaid : Prop := Claim7.holds Tryz.pinned (.plain (OpenSpec.upto graphToldSpec)) graphToldUptoCard

/-- THE SECOND FORM's CARD OF 'umpirelaw27.GraphGrows'. -/
def graphGrowsUptoCard : Claim7 := { stood := { row := graphGrowsUptoRow, standIns := [], harness := (true, "5556abb540fddf7b98202fe103b91d015b39b6f4ff76685d5851612eb1d5315d"), looks := false }, kinds := [], alts := [], laidByText := true, laidKinds := [.data], laidTests := true, laidLooks := .later }
def GraphGrowsUptoCardSaid : Prop := Claim7.holds Tryz.pinned (.plain (OpenSpec.upto graphGrowsSpec)) graphGrowsUptoCard

/-- THE SECOND FORM's CARD OF 'umpirelaw27.GraphHolds'. -/
def graphHoldsUptoCard : Claim7 := { stood := { row := graphHoldsUptoRow, standIns := [], harness := (true, "5556abb540fddf7b98202fe103b91d015b39b6f4ff76685d5851612eb1d5315d"), looks := false }, kinds := [], alts := [], laidByText := true, laidKinds := [.data], laidTests := true, laidLooks := .later }
def GraphHoldsUptoCardSaid : Prop := Claim7.holds Tryz.pinned (.plain (OpenSpec.upto graphHoldsSpec)) graphHoldsUptoCard

/-- THE SECOND FORM's CARD OF 'umpirelaw27.GraphBuilds'. -/
def graphBuildsUptoCard : Claim7 := { stood := { row := graphBuildsUptoRow, standIns := [], harness := (true, "5556abb540fddf7b98202fe103b91d015b39b6f4ff76685d5851612eb1d5315d"), looks := false }, kinds := [], alts := [], laidByText := true, laidKinds := [.data], laidTests := true, laidLooks := .later }
def GraphBuildsUptoCardSaid : Prop := Claim7.holds Tryz.pinned (.plain (OpenSpec.upto graphBuildsSpec)) graphBuildsUptoCard

/-- THE SECOND FORM's CARD OF 'umpirelaw27.GraphKnown'. -/
def graphKnownUptoCard : Claim7 := { stood := { row := graphKnownUptoRow, standIns := [], harness := (true, "5556abb540fddf7b98202fe103b91d015b39b6f4ff76685d5851612eb1d5315d"), looks := false }, kinds := [], alts := [], laidByText := true, laidKinds := [.data], laidTests := true, laidLooks := .later }
def GraphKnownUptoCardSaid : Prop := Claim7.holds Tryz.pinned (.plain (OpenSpec.upto graphKnownSpec)) graphKnownUptoCard
end Rows
end Go.Proofs.YtpclhmihehcniaaGreatDoor
