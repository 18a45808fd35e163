/-
  DERIVED. GIVEN WITH THE SEED: THE CARDS: each row of YtchoohbdpkolgaaGreatDoorRows.lean that lists a variable, with what it lists TIED to the program's text (the seventh form; the later family's looks); each row that meets fmt, with fmt's text TOLD by the authors' own Lean function (tested against real Go, not proved from fmt's source: count such statements apart). THE CARD IS WHAT COUNTS. Prove the row's statement (the work); the ties are given (YtchoohbdpkolgaaGreatDoorTie.lean); close each card by the builder's one call (the guide's Derived/Test/ToyasCard.lean, 'card_holds'). Laid BY PROGRAM, IN A SANDBOX (cutbox-door.mjs). By AI agents, Wed Nov 11 2026. No macro, syntax, notation, axiom, sorry.
-/
import Derived.Test.YtchoohbdpkolgaaGreatDoorRows
import GoSem.ClaimSeven
namespace Go.Proofs.YtchoohbdpkolgaaGreatDoor
namespace Rows

/-- THE TIED CARD OF 'umpirelaw25.TxnOnce'. -/
def txnOnceCard : Claim7 := { stood := { row := txnOnceRow, standIns := [], harness := (true, "590017acf01920df2e9d068b05b6d73776d3606c3c8bd737c643b416dbf89780"), looks := true }, kinds := [], alts := [], laidByText := true, laidKinds := [.data], laidTests := true, laidLooks := .later }
def TxnOnceCardSaid : Prop := Claim7.holds Tryz.pinned (.plain (OpenSpec.ofChange txnOnceSpec)) txnOnceCard

/-- THE TIED CARD OF 'umpirelaw25.TxnKnown'. -/
def txnKnownCard : Claim7 := { stood := { row := txnKnownRow, standIns := [], harness := (true, "590017acf01920df2e9d068b05b6d73776d3606c3c8bd737c643b416dbf89780"), looks := true }, kinds := [], alts := [], laidByText := true, laidKinds := [.data], laidTests := true, laidLooks := .later }
def TxnKnownCardSaid : Prop := Claim7.holds Tryz.pinned (.plain (OpenSpec.ofChange txnKnownSpec)) txnKnownCard

/-- THE SECOND FORM's CARD OF 'umpirelaw25.TxnOnce'. -/
def txnOnceUptoCard : Claim7 := { stood := { row := txnOnceUptoRow, standIns := [], harness := (true, "590017acf01920df2e9d068b05b6d73776d3606c3c8bd737c643b416dbf89780"), looks := true }, kinds := [], alts := [], laidByText := true, laidKinds := [.data], laidTests := true, laidLooks := .later }
def TxnOnceUptoCardSaid : Prop := Claim7.holds Tryz.pinned (.plain (OpenSpec.upto txnOnceSpec)) txnOnceUptoCard

/-- THE SECOND FORM's CARD OF 'umpirelaw25.TxnKnown'. -/
def txnKnownUptoCard : Claim7 := { stood := { row := txnKnownUptoRow, standIns := [], harness := (true, "590017acf01920df2e9d068b05b6d73776d3606c3c8bd737c643b416dbf89780"), looks := true }, kinds := [], alts := [], laidByText := true, laidKinds := [.data], laidTests := true, laidLooks := .later }
def TxnKnownUptoCardSaid : Prop := Claim7.holds Tryz.pinned (.plain (OpenSpec.upto txnKnownSpec)) txnKnownUptoCard
end Rows
end Go.Proofs.YtchoohbdpkolgaaGreatDoor
