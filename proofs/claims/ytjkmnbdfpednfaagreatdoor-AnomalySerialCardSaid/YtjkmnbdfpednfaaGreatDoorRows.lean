/-
  NARROWER THAN 'FOR EVERY INPUT', by the rows' own cells (each row's printed sentence says how): AnomalyCycles: laid · AnomalySerial: laid · AnomalyStays: laid · AnomalyKnown: laid.
  DERIVED. THE GIVEN ROWS OF THIS SEAT. 4 by the template 'for every input the law returns true; each argument reads behind the call as it read before'; 0 by the template 'total and deterministic' (their statements: YtjkmnbdfpednfaaGreatDoorTotals.lean).
  GIVEN WITH THE SEED: the statements are not yours to turn. If you find one false, say at which input.
  Laid BY PROGRAM, IN A SANDBOX (cutbox-rows.mjs): the forced cells as the released guide's own fill.sh prints them over the translation 0b8f0e69f03b6d8c… (all of the seat's roots in one cut). By AI agents, Wed Nov 11 2026. No macro, syntax, notation, axiom, sorry.
-/
import Derived.Test.YtjkmnbdfpednfaaGreatDoorChecked
import GoSem.Claim
import GoSem.ClaimJoined
import GoSem.ClaimMapViews
import Derived.JoinedTies
import Derived.KernelRfl
namespace Go.Proofs.YtjkmnbdfpednfaaGreatDoor
/- THE CELL 'sum', in the pinned program and in every row, IS THE sha256 OF THE DUMP (.gsa) THAT YtjkmnbdfpednfaaGreatDoorProg.lean LOADS. Nothing in Lean hashes anything: it is a label: what it is worth is what the hold of that sum in a sandbox is worth. -/
noncomputable def Tryz.pinned : Pinned := { name := "ytjkmnbdfpednfaagreatdoor", sum := "0b8f0e69f03b6d8c58e800291100b858c76aee5c2b3b589dd7616d69f8fc9ffb", checked := Tryz.checked }
namespace Rows
def none {H : Type} : Left H := { results := [], args := [] }

/- WHAT THE LISTED PACKAGE-LEVEL VARIABLES READ AS WHEN THE CALL BEGINS. Each datum BY PROGRAM (the guide's laid-datum.mjs) off the statement by which the dump's own 'gosem.cut.vars' lays the variable. In a bare row this is a premise. The card (YtjkmnbdfpednfaaGreatDoorCards.lean) ties it to the program's text. -/
def laid_umpire_op_kinds {H : Type} : DataW H := .agg [.agg [.lit (.int .u8 0), .lit (.string []), .lit (.int .u8 0)], .agg [.lit (.int .u8 0), .lit (.string [114, 101, 97, 100]), .lit (.int .u8 0)], .agg [.lit (.int .u8 0), .lit (.string [119, 114, 105, 116, 101]), .lit (.int .u8 2)], .agg [.lit (.int .u8 0), .lit (.string [99, 97, 115]), .lit (.int .u8 6)], .agg [.lit (.int .u8 1), .lit (.string [101, 110, 113]), .lit (.int .u8 2)], .agg [.lit (.int .u8 1), .lit (.string [100, 101, 113]), .lit (.int .u8 0)], .agg [.lit (.int .u8 2), .lit (.string [103, 101, 116]), .lit (.int .u8 1)], .agg [.lit (.int .u8 2), .lit (.string [112, 117, 116]), .lit (.int .u8 3)], .agg [.lit (.int .u8 2), .lit (.string [100, 101, 108]), .lit (.int .u8 1)], .agg [.lit (.int .u8 2), .lit (.string [115, 119, 97, 112]), .lit (.int .u8 7)], .agg [.lit (.int .u8 3), .lit (.string [97, 99, 113, 117, 105, 114, 101]), .lit (.int .u8 0)], .agg [.lit (.int .u8 3), .lit (.string [114, 101, 108, 101, 97, 115, 101]), .lit (.int .u8 0)]]

/-- 'umpirelaw29.AnomalyCycles': WHATEVER THE INPUT: true; the input reads as it did. -/
def anomalyCyclesSpec : ChangeSpec := { name := "anomalyCycles", fn := fun _ => fun
  | [d] => { results := [.lit (.bool true)], args := [d] }
  | _ => none }
def anomalyCyclesRow : OpenClaim := { program := "ytjkmnbdfpednfaagreatdoor", sum := "0b8f0e69f03b6d8c58e800291100b858c76aee5c2b3b589dd7616d69f8fc9ffb", func := "umpire/umpirelaw29.AnomalyCycles", spec := "anomalyCycles", unfollowed := true, recurses := true, named := ["umpire/op.kinds"], plainKeys := false, apart := false, laid := [("umpire/op.kinds", laid_umpire_op_kinds)] }
def AnomalyCyclesSaid : Prop := anomalyCyclesRow.holds Tryz.pinned (OpenSpec.ofChange anomalyCyclesSpec)

/-- ITS FALSE NEIGHBOUR: 'it returns false'. Refute it at one input. -/
def anomalyCyclesWrong : ChangeSpec := { name := "anomalyCycles", fn := fun _ => fun
  | [d] => { results := [.lit (.bool false)], args := [d] }
  | _ => none }
def AnomalyCyclesWrongFalsely : Prop := anomalyCyclesRow.holds Tryz.pinned (OpenSpec.ofChange anomalyCyclesWrong)

/-- 'umpirelaw29.AnomalySerial': WHATEVER THE INPUT: true; the input reads as it did. -/
def anomalySerialSpec : ChangeSpec := { name := "anomalySerial", fn := fun _ => fun
  | [d] => { results := [.lit (.bool true)], args := [d] }
  | _ => none }
def anomalySerialRow : OpenClaim := { program := "ytjkmnbdfpednfaagreatdoor", sum := "0b8f0e69f03b6d8c58e800291100b858c76aee5c2b3b589dd7616d69f8fc9ffb", func := "umpire/umpirelaw29.AnomalySerial", spec := "anomalySerial", unfollowed := true, recurses := true, named := ["umpire/op.kinds"], plainKeys := false, apart := false, laid := [("umpire/op.kinds", laid_umpire_op_kinds)] }
def AnomalySerialSaid : Prop := anomalySerialRow.holds Tryz.pinned (OpenSpec.ofChange anomalySerialSpec)

/-- ITS FALSE NEIGHBOUR: 'it returns false'. Refute it at one input. -/
def anomalySerialWrong : ChangeSpec := { name := "anomalySerial", fn := fun _ => fun
  | [d] => { results := [.lit (.bool false)], args := [d] }
  | _ => none }
def AnomalySerialWrongFalsely : Prop := anomalySerialRow.holds Tryz.pinned (OpenSpec.ofChange anomalySerialWrong)

/-- 'umpirelaw29.AnomalyStays': WHATEVER THE INPUT: true; the input reads as it did. -/
def anomalyStaysSpec : ChangeSpec := { name := "anomalyStays", fn := fun _ => fun
  | [d] => { results := [.lit (.bool true)], args := [d] }
  | _ => none }
def anomalyStaysRow : OpenClaim := { program := "ytjkmnbdfpednfaagreatdoor", sum := "0b8f0e69f03b6d8c58e800291100b858c76aee5c2b3b589dd7616d69f8fc9ffb", func := "umpire/umpirelaw29.AnomalyStays", spec := "anomalyStays", unfollowed := true, recurses := true, named := ["umpire/op.kinds"], plainKeys := false, apart := false, laid := [("umpire/op.kinds", laid_umpire_op_kinds)] }
def AnomalyStaysSaid : Prop := anomalyStaysRow.holds Tryz.pinned (OpenSpec.ofChange anomalyStaysSpec)

/-- ITS FALSE NEIGHBOUR: 'it returns false'. Refute it at one input. -/
def anomalyStaysWrong : ChangeSpec := { name := "anomalyStays", fn := fun _ => fun
  | [d] => { results := [.lit (.bool false)], args := [d] }
  | _ => none }
def AnomalyStaysWrongFalsely : Prop := anomalyStaysRow.holds Tryz.pinned (OpenSpec.ofChange anomalyStaysWrong)

/-- 'umpirelaw29.AnomalyKnown': WHATEVER THE INPUT: true; the input reads as it did. -/
def anomalyKnownSpec : ChangeSpec := { name := "anomalyKnown", fn := fun _ => fun
  | [] => { results := [.lit (.bool true)], args := [] }
  | _ => none }
def anomalyKnownRow : OpenClaim := { program := "ytjkmnbdfpednfaagreatdoor", sum := "0b8f0e69f03b6d8c58e800291100b858c76aee5c2b3b589dd7616d69f8fc9ffb", func := "umpire/umpirelaw29.AnomalyKnown", spec := "anomalyKnown", unfollowed := true, recurses := true, named := ["umpire/op.kinds"], plainKeys := false, apart := false, laid := [("umpire/op.kinds", laid_umpire_op_kinds)] }
def AnomalyKnownSaid : Prop := anomalyKnownRow.holds Tryz.pinned (OpenSpec.ofChange anomalyKnownSpec)

/-- ITS FALSE NEIGHBOUR: 'it returns false'. Refute it at one input. -/
def anomalyKnownWrong : ChangeSpec := { name := "anomalyKnown", fn := fun _ => fun
  | [] => { results := [.lit (.bool false)], args := [] }
  | _ => none }
def AnomalyKnownWrongFalsely : Prop := anomalyKnownRow.holds Tryz.pinned (OpenSpec.ofChange anomalyKnownWrong)

/- THE SECOND FORM. 'bulk': how many values and letters a reading holds, each counted each time it is reached (what is shared counts as often as it is met; a slice's spare places count too). A statement '..UptoSaid' is the law's where the arguments, and the package variables that the reading takes, are together of bulk at most 1048576: NARROWER than '..Said'. Prove '..Said' where nothing that the law and all that it calls make is longer than what came in: it says more and counts as full. Else prove '..UptoSaid'. A law counts once. -/
mutual
def uptoBulk {H : Type} : DataW H → Nat
  | .lit (.string bytes) => bytes.length + 1
  | .lit _ => 1
  | .nil => 1
  | .ptr d => uptoBulk d + 1
  | .slice elems spare => uptoBulkAll elems + uptoBulkAll spare + 1
  | .agg parts => uptoBulkAll parts + 1
  | .iface _ d => uptoBulk d + 1
  | .map entries => uptoBulkEntries entries + 1
  | .held _ => 1
def uptoBulkAll {H : Type} : List (DataW H) → Nat
  | [] => 0
  | d :: r => uptoBulk d + uptoBulkAll r
def uptoBulkEntries {H : Type} : List (Lit × DataW H) → Nat
  | [] => 0
  | x :: r => uptoBulkEntry x + uptoBulkEntries r
def uptoBulkEntry {H : Type} : Lit × DataW H → Nat
  | (.string bytes, d) => bytes.length + uptoBulk d + 1
  | (_, d) => uptoBulk d + 1
 end
def uptoSmall : (H : Type) → List (DataW H) → Bool := fun _ ds => decide (uptoBulkAll ds ≤ 1048576)
def OpenSpec.upto (s : _root_.Go.ChangeSpec) : _root_.Go.OpenSpec := { _root_.Go.OpenSpec.ofChange s with cond := some uptoSmall }

/-- 'umpirelaw29.AnomalyCycles', WHERE WHAT IT READS IS OF BULK AT MOST 1048576: true; the input reads as it did. -/
def anomalyCyclesUptoRow : OpenClaim := { program := "ytjkmnbdfpednfaagreatdoor", sum := "0b8f0e69f03b6d8c58e800291100b858c76aee5c2b3b589dd7616d69f8fc9ffb", func := "umpire/umpirelaw29.AnomalyCycles", spec := "anomalyCycles", unfollowed := true, recurses := true, named := ["umpire/op.kinds"], plainKeys := false, apart := false, laid := [("umpire/op.kinds", laid_umpire_op_kinds)], narrowed := true }
def AnomalyCyclesUptoSaid : Prop := anomalyCyclesUptoRow.holds Tryz.pinned (OpenSpec.upto anomalyCyclesSpec)

/-- 'umpirelaw29.AnomalySerial', WHERE WHAT IT READS IS OF BULK AT MOST 1048576: true; the input reads as it did. -/
def anomalySerialUptoRow : OpenClaim := { program := "ytjkmnbdfpednfaagreatdoor", sum := "0b8f0e69f03b6d8c58e800291100b858c76aee5c2b3b589dd7616d69f8fc9ffb", func := "umpire/umpirelaw29.AnomalySerial", spec := "anomalySerial", unfollowed := true, recurses := true, named := ["umpire/op.kinds"], plainKeys := false, apart := false, laid := [("umpire/op.kinds", laid_umpire_op_kinds)], narrowed := true }
def AnomalySerialUptoSaid : Prop := anomalySerialUptoRow.holds Tryz.pinned (OpenSpec.upto anomalySerialSpec)

/-- 'umpirelaw29.AnomalyStays', WHERE WHAT IT READS IS OF BULK AT MOST 1048576: true; the input reads as it did. -/
def anomalyStaysUptoRow : OpenClaim := { program := "ytjkmnbdfpednfaagreatdoor", sum := "0b8f0e69f03b6d8c58e800291100b858c76aee5c2b3b589dd7616d69f8fc9ffb", func := "umpire/umpirelaw29.AnomalyStays", spec := "anomalyStays", unfollowed := true, recurses := true, named := ["umpire/op.kinds"], plainKeys := false, apart := false, laid := [("umpire/op.kinds", laid_umpire_op_kinds)], narrowed := true }
def AnomalyStaysUptoSaid : Prop := anomalyStaysUptoRow.holds Tryz.pinned (OpenSpec.upto anomalyStaysSpec)

/-- 'umpirelaw29.AnomalyKnown', WHERE WHAT IT READS IS OF BULK AT MOST 1048576: true; the input reads as it did. -/
def anomalyKnownUptoRow : OpenClaim := { program := "ytjkmnbdfpednfaagreatdoor", sum := "0b8f0e69f03b6d8c58e800291100b858c76aee5c2b3b589dd7616d69f8fc9ffb", func := "umpire/umpirelaw29.AnomalyKnown", spec := "anomalyKnown", unfollowed := true, recurses := true, named := ["umpire/op.kinds"], plainKeys := false, apart := false, laid := [("umpire/op.kinds", laid_umpire_op_kinds)], narrowed := true }
def AnomalyKnownUptoSaid : Prop := anomalyKnownUptoRow.holds Tryz.pinned (OpenSpec.upto anomalyKnownSpec)

end Rows
end Go.Proofs.YtjkmnbdfpednfaaGreatDoor
