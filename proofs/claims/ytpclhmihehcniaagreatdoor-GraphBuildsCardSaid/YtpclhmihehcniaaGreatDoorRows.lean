/-
  NARROWER THAN 'FOR EVERY INPUT', by the rows' own cells (each row's printed sentence says how): GraphTold: laid · GraphGrows: laid · GraphHolds: laid · GraphBuilds: laid · GraphKnown: laid.
  DERIVED. THE GIVEN ROWS OF THIS SEAT. 5 by the template 'for every input the law returns true; each argument reads behind the call as it read before'; 0 by the template 'total and deterministic' (their statements: YtpclhmihehcniaaGreatDoorTotals.lean).
  GIVEN WITH THE SEED: the statements are not yours to turn. If you find one false, say at which input.
  Laid BY PROGRAM, IN A SANDBOX (cutbox-rows.mjs): the forced cells as the released guide's own fill.sh prints them over the translation 89ec523075dab8b4… (all of the seat's roots in one cut). By AI agents, Wed Nov 11 2026. No macro, syntax, notation, axiom, sorry.
-/
import Derived.Test.YtpclhmihehcniaaGreatDoorChecked
import GoSem.Claim
import GoSem.ClaimJoined
import GoSem.ClaimMapViews
import Derived.JoinedTies
import Derived.KernelRfl
namespace Go.Proofs.YtpclhmihehcniaaGreatDoor
/- THE CELL 'sum', in the pinned program and in every row, IS THE sha256 OF THE DUMP (.gsa) THAT YtpclhmihehcniaaGreatDoorProg.lean LOADS. Nothing in Lean hashes anything: it is a label: what it is worth is what the hold of that sum in a sandbox is worth. -/
noncomputable def Tryz.pinned : Pinned := { name := "ytpclhmihehcniaagreatdoor", sum := "89ec523075dab8b4126c869ac849f22f61d0fa690fedc1230cb1b28fd26eeb4c", checked := Tryz.checked }
namespace Rows
def none {H : Type} : Left H := { results := [], args := [] }

/- WHAT THE LISTED PACKAGE-LEVEL VARIABLES READ AS WHEN THE CALL BEGINS. Each datum BY PROGRAM (the guide's laid-datum.mjs) off the statement by which the dump's own 'gosem.cut.vars' lays the variable. In a bare row this is a premise. The card (YtpclhmihehcniaaGreatDoorCards.lean) ties it to the program's text. -/
def laid_umpire_op_kinds {H : Type} : DataW H := .agg [.agg [.lit (.int .u8 0), .lit (.string []), .lit (.int .u8 0)], .agg [.lit (.int .u8 0), .lit (.string [114, 101, 97, 100]), .lit (.int .u8 0)], .agg [.lit (.int .u8 0), .lit (.string [119, 114, 105, 116, 101]), .lit (.int .u8 2)], .agg [.lit (.int .u8 0), .lit (.string [99, 97, 115]), .lit (.int .u8 6)], .agg [.lit (.int .u8 1), .lit (.string [101, 110, 113]), .lit (.int .u8 2)], .agg [.lit (.int .u8 1), .lit (.string [100, 101, 113]), .lit (.int .u8 0)], .agg [.lit (.int .u8 2), .lit (.string [103, 101, 116]), .lit (.int .u8 1)], .agg [.lit (.int .u8 2), .lit (.string [112, 117, 116]), .lit (.int .u8 3)], .agg [.lit (.int .u8 2), .lit (.string [100, 101, 108]), .lit (.int .u8 1)], .agg [.lit (.int .u8 2), .lit (.string [115, 119, 97, 112]), .lit (.int .u8 7)], .agg [.lit (.int .u8 3), .lit (.string [97, 99, 113, 117, 105, 114, 101]), .lit (.int .u8 0)], .agg [.lit (.int .u8 3), .lit (.string [114, 101, 108, 101, 97, 115, 101]), .lit (.int .u8 0)]]

/-- 'umpirelaw27.GraphTold': WHATEVER THE INPUT: true; the input reads as it did. -/
def graphToldSpec : ChangeSpec := { name := "graphTold", fn := fun _ => fun
  | [d] => { results := [.lit (.bool true)], args := [d] }
  | _ => none }
def graphToldRow : OpenClaim := { program := "ytpclhmihehcniaagreatdoor", sum := "89ec523075dab8b4126c869ac849f22f61d0fa690fedc1230cb1b28fd26eeb4c", func := "umpire/umpirelaw27.GraphTold", spec := "graphTold", unfollowed := true, recurses := true, named := ["umpire/op.kinds"], plainKeys := false, apart := false, laid := [("umpire/op.kinds", laid_umpire_op_kinds)] }
def GraphToldSaid : Prop := graphToldRow.holds Tryz.pinned (OpenSpec.ofChange graphToldSpec)

/-- ITS FALSE NEIGHBOUR: 'it returns false'. Refute it at one input. -/
def graphToldWrong : ChangeSpec := { name := "graphTold", fn := fun _ => fun
  | [d] => { results := [.lit (.bool false)], args := [d] }
  | _ => none }
def GraphToldWrongFalsely : Prop := graphToldRow.holds Tryz.pinned (OpenSpec.ofChange graphToldWrong)

/-- 'umpirelaw27.GraphGrows': WHATEVER THE INPUT: true; the input reads as it did. -/
def graphGrowsSpec : ChangeSpec := { name := "graphGrows", fn := fun _ => fun
  | [d] => { results := [.lit (.bool true)], args := [d] }
  | _ => none }
def graphGrowsRow : OpenClaim := { program := "ytpclhmihehcniaagreatdoor", sum := "89ec523075dab8b4126c869ac849f22f61d0fa690fedc1230cb1b28fd26eeb4c", func := "umpire/umpirelaw27.GraphGrows", spec := "graphGrows", unfollowed := true, recurses := true, named := ["umpire/op.kinds"], plainKeys := false, apart := false, laid := [("umpire/op.kinds", laid_umpire_op_kinds)] }
def GraphGrowsSaid : Prop := graphGrowsRow.holds Tryz.pinned (OpenSpec.ofChange graphGrowsSpec)

/-- ITS FALSE NEIGHBOUR: 'it returns false'. Refute it at one input. -/
def graphGrowsWrong : ChangeSpec := { name := "graphGrows", fn := fun _ => fun
  | [d] => { results := [.lit (.bool false)], args := [d] }
  | _ => none }
def GraphGrowsWrongFalsely : Prop := graphGrowsRow.holds Tryz.pinned (OpenSpec.ofChange graphGrowsWrong)

/-- 'umpirelaw27.GraphHolds': WHATEVER THE INPUT: true; the input reads as it did. -/
def graphHoldsSpec : ChangeSpec := { name := "graphHolds", fn := fun _ => fun
  | [d1, d2] => { results := [.lit (.bool true)], args := [d1, d2] }
  | _ => none }
def graphHoldsRow : OpenClaim := { program := "ytpclhmihehcniaagreatdoor", sum := "89ec523075dab8b4126c869ac849f22f61d0fa690fedc1230cb1b28fd26eeb4c", func := "umpire/umpirelaw27.GraphHolds", spec := "graphHolds", unfollowed := true, recurses := true, named := ["umpire/op.kinds"], plainKeys := false, apart := false, laid := [("umpire/op.kinds", laid_umpire_op_kinds)] }
def GraphHoldsSaid : Prop := graphHoldsRow.holds Tryz.pinned (OpenSpec.ofChange graphHoldsSpec)

/-- ITS FALSE NEIGHBOUR: 'it returns false'. Refute it at one input. -/
def graphHoldsWrong : ChangeSpec := { name := "graphHolds", fn := fun _ => fun
  | [d1, d2] => { results := [.lit (.bool false)], args := [d1, d2] }
  | _ => none }
def GraphHoldsWrongFalsely : Prop := graphHoldsRow.holds Tryz.pinned (OpenSpec.ofChange graphHoldsWrong)

/-- 'umpirelaw27.GraphBuilds': WHATEVER THE INPUT: true; the input reads as it did. -/
def graphBuildsSpec : ChangeSpec := { name := "graphBuilds", fn := fun _ => fun
  | [d1, d2, d3] => { results := [.lit (.bool true)], args := [d1, d2, d3] }
  | _ => none }
def graphBuildsRow : OpenClaim := { program := "ytpclhmihehcniaagreatdoor", sum := "89ec523075dab8b4126c869ac849f22f61d0fa690fedc1230cb1b28fd26eeb4c", func := "umpire/umpirelaw27.GraphBuilds", spec := "graphBuilds", unfollowed := true, recurses := true, named := ["umpire/op.kinds"], plainKeys := false, apart := false, laid := [("umpire/op.kinds", laid_umpire_op_kinds)] }
def GraphBuildsSaid : Prop := graphBuildsRow.holds Tryz.pinned (OpenSpec.ofChange graphBuildsSpec)

/-- ITS FALSE NEIGHBOUR: 'it returns false'. Refute it at one input. -/
def graphBuildsWrong : ChangeSpec := { name := "graphBuilds", fn := fun _ => fun
  | [d1, d2, d3] => { results := [.lit (.bool false)], args := [d1, d2, d3] }
  | _ => none }
def GraphBuildsWrongFalsely : Prop := graphBuildsRow.holds Tryz.pinned (OpenSpec.ofChange graphBuildsWrong)

/-- 'umpirelaw27.GraphKnown': WHATEVER THE INPUT: true; the input reads as it did. -/
def graphKnownSpec : ChangeSpec := { name := "graphKnown", fn := fun _ => fun
  | [] => { results := [.lit (.bool true)], args := [] }
  | _ => none }
def graphKnownRow : OpenClaim := { program := "ytpclhmihehcniaagreatdoor", sum := "89ec523075dab8b4126c869ac849f22f61d0fa690fedc1230cb1b28fd26eeb4c", func := "umpire/umpirelaw27.GraphKnown", spec := "graphKnown", unfollowed := true, recurses := true, named := ["umpire/op.kinds"], plainKeys := false, apart := false, laid := [("umpire/op.kinds", laid_umpire_op_kinds)] }
def GraphKnownSaid : Prop := graphKnownRow.holds Tryz.pinned (OpenSpec.ofChange graphKnownSpec)

/-- ITS FALSE NEIGHBOUR: 'it returns false'. Refute it at one input. -/
def graphKnownWrong : ChangeSpec := { name := "graphKnown", fn := fun _ => fun
  | [] => { results := [.lit (.bool false)], args := [] }
  | _ => none }
def GraphKnownWrongFalsely : Prop := graphKnownRow.holds Tryz.pinned (OpenSpec.ofChange graphKnownWrong)

/- THE SECOND FORM. 'bulk': how many values and letters a reading holds, each counted each time it is reached (what is shared counts as often as it is met; a slice's spare places count too). A statement '..UptoSaid' is the law's where the arguments, and the package variables that the reading takes, are together of bulk at most 1048576: NARROWER than '..Said'. Prove '..Said' where nothing that the law and all that it calls make is longer than what came in: it says more and counts as full. Else prove '..UptoSaid'. A law counts once. -/
mutual
def uptoBulk {H : Type} : DataW H → Nat
  | .lit (.string bytes) => bytes.length + 1
  | .lit _ => 1
  | .nil => 1
  | .ptr d => uptoBulk d + 1
  | .slice elems spare => uptoBulkAll elems + uptoBulkAll spare + 1
  | .agg parts => uptoBulkAll parts + 1
  | .iface _ d => uptoBulk d + 1
  | .map entries => uptoBulkEntries entries + 1
  | .held _ => 1
def uptoBulkAll {H : Type} : List (DataW H) → Nat
  | [] => 0
  | d :: r => uptoBulk d + uptoBulkAll r
def uptoBulkEntries {H : Type} : List (Lit × DataW H) → Nat
  | [] => 0
  | x :: r => uptoBulkEntry x + uptoBulkEntries r
def uptoBulkEntry {H : Type} : Lit × DataW H → Nat
  | (.string bytes, d) => bytes.length + uptoBulk d + 1
  | (_, d) => uptoBulk d + 1
 end
def uptoSmall : (H : Type) → List (DataW H) → Bool := fun _ ds => decide (uptoBulkAll ds ≤ 1048576)
def OpenSpec.upto (s : _root_.Go.ChangeSpec) : _root_.Go.OpenSpec := { _root_.Go.OpenSpec.ofChange s with cond := some uptoSmall }

/-- 'umpirelaw27.GraphTold', WHERE WHAT IT READS IS OF BULK AT MOST 1048576: true; the input reads as it did. -/
def graphToldUptoRow : OpenClaim := { program := "ytpclhmihehcniaagreatdoor", sum := "89ec523075dab8b4126c869ac849f22f61d0fa690fedc1230cb1b28fd26eeb4c", func := "umpire/umpirelaw27.GraphTold", spec := "graphTold", unfollowed := true, recurses := true, named := ["umpire/op.kinds"], plainKeys := false, apart := false, laid := [("umpire/op.kinds", laid_umpire_op_kinds)], narrowed := true }
def GraphToldUptoSaid : Prop := graphToldUptoRow.holds Tryz.pinned (OpenSpec.upto graphToldSpec)

/-- 'umpirelaw27.GraphGrows', WHERE WHAT IT READS IS OF BULK AT MOST 1048576: true; the input reads as it did. -/
def graphGrowsUptoRow : OpenClaim := { program := "ytpclhmihehcniaagreatdoor", sum := "89ec523075dab8b4126c869ac849f22f61d0fa690fedc1230cb1b28fd26eeb4c", func := "umpire/umpirelaw27.GraphGrows", spec := "graphGrows", unfollowed := true, recurses := true, named := ["umpire/op.kinds"], plainKeys := false, apart := false, laid := [("umpire/op.kinds", laid_umpire_op_kinds)], narrowed := true }
def GraphGrowsUptoSaid : Prop := graphGrowsUptoRow.holds Tryz.pinned (OpenSpec.upto graphGrowsSpec)

/-- 'umpirelaw27.GraphHolds', WHERE WHAT IT READS IS OF BULK AT MOST 1048576: true; the input reads as it did. -/
def graphHoldsUptoRow : OpenClaim := { program := "ytpclhmihehcniaagreatdoor", sum := "89ec523075dab8b4126c869ac849f22f61d0fa690fedc1230cb1b28fd26eeb4c", func := "umpire/umpirelaw27.GraphHolds", spec := "graphHolds", unfollowed := true, recurses := true, named := ["umpire/op.kinds"], plainKeys := false, apart := false, laid := [("umpire/op.kinds", laid_umpire_op_kinds)], narrowed := true }
def GraphHoldsUptoSaid : Prop := graphHoldsUptoRow.holds Tryz.pinned (OpenSpec.upto graphHoldsSpec)

/-- 'umpirelaw27.GraphBuilds', WHERE WHAT IT READS IS OF BULK AT MOST 1048576: true; the input reads as it did. -/
def graphBuildsUptoRow : OpenClaim := { program := "ytpclhmihehcniaagreatdoor", sum := "89ec523075dab8b4126c869ac849f22f61d0fa690fedc1230cb1b28fd26eeb4c", func := "umpire/umpirelaw27.GraphBuilds", spec := "graphBuilds", unfollowed := true, recurses := true, named := ["umpire/op.kinds"], plainKeys := false, apart := false, laid := [("umpire/op.kinds", laid_umpire_op_kinds)], narrowed := true }
def GraphBuildsUptoSaid : Prop := graphBuildsUptoRow.holds Tryz.pinned (OpenSpec.upto graphBuildsSpec)

/-- 'umpirelaw27.GraphKnown', WHERE WHAT IT READS IS OF BULK AT MOST 1048576: true; the input reads as it did. -/
def graphKnownUptoRow : OpenClaim := { program := "ytpclhmihehcniaagreatdoor", sum := "89ec523075dab8b4126c869ac849f22f61d0fa690fedc1230cb1b28fd26eeb4c", func := "umpire/umpirelaw27.GraphKnown", spec := "graphKnown", unfollowed := true, recurses := true, named := ["umpire/op.kinds"], plainKeys := false, apart := false, laid := [("umpire/op.kinds", laid_umpire_op_kinds)], narrowed := true }
def GraphKnownUptoSaid : Prop := graphKnownUptoRow.holds Tryz.pinned (OpenSpec.upto graphKnownSpec)

end Rows
end Go.Proofs.YtpclhmihehcniaaGreatDoor
