/-
  NARROWER THAN 'FOR EVERY INPUT', by the rows' own cells (each row's printed sentence says how): CycleShortest: laid · CycleKnown: laid · CycleLeast: laid · CycleTells: laid · CycleMet: laid.
  DERIVED. THE GIVEN ROWS OF THIS SEAT. 5 by the template 'for every input the law returns true; each argument reads behind the call as it read before'; 0 by the template 'total and deterministic' (their statements: YtfncnpcoekinjaaGreatDoorTotals.lean).
  GIVEN WITH THE SEED: the statements are not yours to turn. If you find one false, say at which input.
  Laid BY PROGRAM, IN A SANDBOX (cutbox-rows.mjs): the forced cells as the released guide's own fill.sh prints them over the translation 424317d94f9a35c6… (all of the seat's roots in one cut). By AI agents, Wed Nov 11 2026. No macro, syntax, notation, axiom, sorry.
-/
import Derived.Test.YtfncnpcoekinjaaGreatDoorChecked
import GoSem.Claim
import GoSem.ClaimJoined
import GoSem.ClaimMapViews
import Derived.JoinedTies
import Derived.KernelRfl
namespace Go.Proofs.YtfncnpcoekinjaaGreatDoor
/- THE CELL 'sum', in the pinned program and in every row, IS THE sha256 OF THE DUMP (.gsa) THAT YtfncnpcoekinjaaGreatDoorProg.lean LOADS. Nothing in Lean hashes anything: it is a label: what it is worth is what the hold of that sum in a sandbox is worth. -/
noncomputable def Tryz.pinned : Pinned := { name := "ytfncnpcoekinjaagreatdoor", sum := "424317d94f9a35c68e5adf11245d673c7638b79d43e765d7b0b1f3979f577e10", checked := Tryz.checked }
namespace Rows
def none {H : Type} : Left H := { results := [], args := [] }

/- WHAT THE LISTED PACKAGE-LEVEL VARIABLES READ AS WHEN THE CALL BEGINS. Each datum BY PROGRAM (the guide's laid-datum.mjs) off the statement by which the dump's own 'gosem.cut.vars' lays the variable. In a bare row this is a premise. The card (YtfncnpcoekinjaaGreatDoorCards.lean) ties it to the program's text. -/
def laid_math_bits_deBruijn32tab {H : Type} : DataW H := .agg [.lit (.int .u8 0), .lit (.int .u8 1), .lit (.int .u8 28), .lit (.int .u8 2), .lit (.int .u8 29), .lit (.int .u8 14), .lit (.int .u8 24), .lit (.int .u8 3), .lit (.int .u8 30), .lit (.int .u8 22), .lit (.int .u8 20), .lit (.int .u8 15), .lit (.int .u8 25), .lit (.int .u8 17), .lit (.int .u8 4), .lit (.int .u8 8), .lit (.int .u8 31), .lit (.int .u8 27), .lit (.int .u8 13), .lit (.int .u8 23), .lit (.int .u8 21), .lit (.int .u8 19), .lit (.int .u8 16), .lit (.int .u8 7), .lit (.int .u8 26), .lit (.int .u8 12), .lit (.int .u8 18), .lit (.int .u8 6), .lit (.int .u8 11), .lit (.int .u8 5), .lit (.int .u8 10), .lit (.int .u8 9)]
def laid_math_bits_deBruijn64tab {H : Type} : DataW H := .agg [.lit (.int .u8 0), .lit (.int .u8 1), .lit (.int .u8 56), .lit (.int .u8 2), .lit (.int .u8 57), .lit (.int .u8 49), .lit (.int .u8 28), .lit (.int .u8 3), .lit (.int .u8 61), .lit (.int .u8 58), .lit (.int .u8 42), .lit (.int .u8 50), .lit (.int .u8 38), .lit (.int .u8 29), .lit (.int .u8 17), .lit (.int .u8 4), .lit (.int .u8 62), .lit (.int .u8 47), .lit (.int .u8 59), .lit (.int .u8 36), .lit (.int .u8 45), .lit (.int .u8 43), .lit (.int .u8 51), .lit (.int .u8 22), .lit (.int .u8 53), .lit (.int .u8 39), .lit (.int .u8 33), .lit (.int .u8 30), .lit (.int .u8 24), .lit (.int .u8 18), .lit (.int .u8 12), .lit (.int .u8 5), .lit (.int .u8 63), .lit (.int .u8 55), .lit (.int .u8 48), .lit (.int .u8 27), .lit (.int .u8 60), .lit (.int .u8 41), .lit (.int .u8 37), .lit (.int .u8 16), .lit (.int .u8 46), .lit (.int .u8 35), .lit (.int .u8 44), .lit (.int .u8 21), .lit (.int .u8 52), .lit (.int .u8 32), .lit (.int .u8 23), .lit (.int .u8 11), .lit (.int .u8 54), .lit (.int .u8 26), .lit (.int .u8 40), .lit (.int .u8 15), .lit (.int .u8 34), .lit (.int .u8 20), .lit (.int .u8 31), .lit (.int .u8 10), .lit (.int .u8 25), .lit (.int .u8 14), .lit (.int .u8 19), .lit (.int .u8 9), .lit (.int .u8 13), .lit (.int .u8 8), .lit (.int .u8 7), .lit (.int .u8 6)]
def laid_internal_strconv_uint64pow10 {H : Type} : DataW H := .agg [.lit (.int .u64 1), .lit (.int .u64 10), .lit (.int .u64 100), .lit (.int .u64 1000), .lit (.int .u64 10000), .lit (.int .u64 100000), .lit (.int .u64 1000000), .lit (.int .u64 10000000), .lit (.int .u64 100000000), .lit (.int .u64 1000000000), .lit (.int .u64 10000000000), .lit (.int .u64 100000000000), .lit (.int .u64 1000000000000), .lit (.int .u64 10000000000000), .lit (.int .u64 100000000000000), .lit (.int .u64 1000000000000000), .lit (.int .u64 10000000000000000), .lit (.int .u64 100000000000000000), .lit (.int .u64 1000000000000000000), .lit (.int .u64 10000000000000000000)]
def laid_umpire_op_kinds {H : Type} : DataW H := .agg [.agg [.lit (.int .u8 0), .lit (.string []), .lit (.int .u8 0)], .agg [.lit (.int .u8 0), .lit (.string [114, 101, 97, 100]), .lit (.int .u8 0)], .agg [.lit (.int .u8 0), .lit (.string [119, 114, 105, 116, 101]), .lit (.int .u8 2)], .agg [.lit (.int .u8 0), .lit (.string [99, 97, 115]), .lit (.int .u8 6)], .agg [.lit (.int .u8 1), .lit (.string [101, 110, 113]), .lit (.int .u8 2)], .agg [.lit (.int .u8 1), .lit (.string [100, 101, 113]), .lit (.int .u8 0)], .agg [.lit (.int .u8 2), .lit (.string [103, 101, 116]), .lit (.int .u8 1)], .agg [.lit (.int .u8 2), .lit (.string [112, 117, 116]), .lit (.int .u8 3)], .agg [.lit (.int .u8 2), .lit (.string [100, 101, 108]), .lit (.int .u8 1)], .agg [.lit (.int .u8 2), .lit (.string [115, 119, 97, 112]), .lit (.int .u8 7)], .agg [.lit (.int .u8 3), .lit (.string [97, 99, 113, 117, 105, 114, 101]), .lit (.int .u8 0)], .agg [.lit (.int .u8 3), .lit (.string [114, 101, 108, 101, 97, 115, 101]), .lit (.int .u8 0)]]

/-- 'umpirelaw30.CycleShortest': WHATEVER THE INPUT: true; the input reads as it did. -/
def cycleShortestSpec : ChangeSpec := { name := "cycleShortest", fn := fun _ => fun
  | [d1, d2] => { results := [.lit (.bool true)], args := [d1, d2] }
  | _ => none }
def cycleShortestRow : OpenClaim := { program := "ytfncnpcoekinjaagreatdoor", sum := "424317d94f9a35c68e5adf11245d673c7638b79d43e765d7b0b1f3979f577e10", func := "umpire/umpirelaw30.CycleShortest", spec := "cycleShortest", inPlace := ["internal/abi.NoEscape"], unfollowed := true, recurses := true, named := ["umpire/op.kinds", "internal/strconv.uint64pow10", "math/bits.deBruijn32tab", "math/bits.deBruijn64tab"], plainKeys := false, apart := false, laid := [("math/bits.deBruijn32tab", laid_math_bits_deBruijn32tab), ("math/bits.deBruijn64tab", laid_math_bits_deBruijn64tab), ("internal/strconv.uint64pow10", laid_internal_strconv_uint64pow10), ("umpire/op.kinds", laid_umpire_op_kinds)] }
def CycleShortestSaid : Prop := cycleShortestRow.holds Tryz.pinned (OpenSpec.ofChange cycleShortestSpec)

/-- ITS FALSE NEIGHBOUR: 'it returns false'. Refute it at one input. -/
def cycleShortestWrong : ChangeSpec := { name := "cycleShortest", fn := fun _ => fun
  | [d1, d2] => { results := [.lit (.bool false)], args := [d1, d2] }
  | _ => none }
def CycleShortestWrongFalsely : Prop := cycleShortestRow.holds Tryz.pinned (OpenSpec.ofChange cycleShortestWrong)

/-- 'umpirelaw30.CycleKnown': WHATEVER THE INPUT: true; the input reads as it did. -/
def cycleKnownSpec : ChangeSpec := { name := "cycleKnown", fn := fun _ => fun
  | [] => { results := [.lit (.bool true)], args := [] }
  | _ => none }
def cycleKnownRow : OpenClaim := { program := "ytfncnpcoekinjaagreatdoor", sum := "424317d94f9a35c68e5adf11245d673c7638b79d43e765d7b0b1f3979f577e10", func := "umpire/umpirelaw30.CycleKnown", spec := "cycleKnown", inPlace := ["internal/abi.NoEscape"], unfollowed := true, recurses := true, named := ["umpire/op.kinds", "internal/strconv.uint64pow10", "math/bits.deBruijn32tab", "math/bits.deBruijn64tab"], plainKeys := false, apart := false, laid := [("math/bits.deBruijn32tab", laid_math_bits_deBruijn32tab), ("math/bits.deBruijn64tab", laid_math_bits_deBruijn64tab), ("internal/strconv.uint64pow10", laid_internal_strconv_uint64pow10), ("umpire/op.kinds", laid_umpire_op_kinds)] }
def CycleKnownSaid : Prop := cycleKnownRow.holds Tryz.pinned (OpenSpec.ofChange cycleKnownSpec)

/-- ITS FALSE NEIGHBOUR: 'it returns false'. Refute it at one input. -/
def cycleKnownWrong : ChangeSpec := { name := "cycleKnown", fn := fun _ => fun
  | [] => { results := [.lit (.bool false)], args := [] }
  | _ => none }
def CycleKnownWrongFalsely : Prop := cycleKnownRow.holds Tryz.pinned (OpenSpec.ofChange cycleKnownWrong)

/-- 'umpirelaw30.CycleLeast': WHATEVER THE INPUT: true; the input reads as it did. -/
def cycleLeastSpec : ChangeSpec := { name := "cycleLeast", fn := fun _ => fun
  | [d1, d2] => { results := [.lit (.bool true)], args := [d1, d2] }
  | _ => none }
def cycleLeastRow : OpenClaim := { program := "ytfncnpcoekinjaagreatdoor", sum := "424317d94f9a35c68e5adf11245d673c7638b79d43e765d7b0b1f3979f577e10", func := "umpire/umpirelaw30.CycleLeast", spec := "cycleLeast", inPlace := ["internal/abi.NoEscape"], unfollowed := true, recurses := true, named := ["umpire/op.kinds", "internal/strconv.uint64pow10", "math/bits.deBruijn32tab", "math/bits.deBruijn64tab"], plainKeys := false, apart := false, laid := [("math/bits.deBruijn32tab", laid_math_bits_deBruijn32tab), ("math/bits.deBruijn64tab", laid_math_bits_deBruijn64tab), ("internal/strconv.uint64pow10", laid_internal_strconv_uint64pow10), ("umpire/op.kinds", laid_umpire_op_kinds)] }
def CycleLeastSaid : Prop := cycleLeastRow.holds Tryz.pinned (OpenSpec.ofChange cycleLeastSpec)

/-- ITS FALSE NEIGHBOUR: 'it returns false'. Refute it at one input. -/
def cycleLeastWrong : ChangeSpec := { name := "cycleLeast", fn := fun _ => fun
  | [d1, d2] => { results := [.lit (.bool false)], args := [d1, d2] }
  | _ => none }
def CycleLeastWrongFalsely : Prop := cycleLeastRow.holds Tryz.pinned (OpenSpec.ofChange cycleLeastWrong)

/-- 'umpirelaw30.CycleTells': WHATEVER THE INPUT: true; the input reads as it did. -/
def cycleTellsSpec : ChangeSpec := { name := "cycleTells", fn := fun _ => fun
  | [d1, d2, d3] => { results := [.lit (.bool true)], args := [d1, d2, d3] }
  | _ => none }
def cycleTellsRow : OpenClaim := { program := "ytfncnpcoekinjaagreatdoor", sum := "424317d94f9a35c68e5adf11245d673c7638b79d43e765d7b0b1f3979f577e10", func := "umpire/umpirelaw30.CycleTells", spec := "cycleTells", inPlace := ["internal/abi.NoEscape"], unfollowed := true, recurses := true, named := ["umpire/op.kinds", "internal/strconv.uint64pow10", "math/bits.deBruijn32tab", "math/bits.deBruijn64tab"], plainKeys := false, apart := false, laid := [("math/bits.deBruijn32tab", laid_math_bits_deBruijn32tab), ("math/bits.deBruijn64tab", laid_math_bits_deBruijn64tab), ("internal/strconv.uint64pow10", laid_internal_strconv_uint64pow10), ("umpire/op.kinds", laid_umpire_op_kinds)] }
def CycleTellsSaid : Prop := cycleTellsRow.holds Tryz.pinned (OpenSpec.ofChange cycleTellsSpec)

/-- ITS FALSE NEIGHBOUR: 'it returns false'. Refute it at one input. -/
def cycleTellsWrong : ChangeSpec := { name := "cycleTells", fn := fun _ => fun
  | [d1, d2, d3] => { results := [.lit (.bool false)], args := [d1, d2, d3] }
  | _ => none }
def CycleTellsWrongFalsely : Prop := cycleTellsRow.holds Tryz.pinned (OpenSpec.ofChange cycleTellsWrong)

/-- 'umpirelaw30.CycleMet': WHATEVER THE INPUT: true; the input reads as it did. -/
def cycleMetSpec : ChangeSpec := { name := "cycleMet", fn := fun _ => fun
  | [d] => { results := [.lit (.bool true)], args := [d] }
  | _ => none }
def cycleMetRow : OpenClaim := { program := "ytfncnpcoekinjaagreatdoor", sum := "424317d94f9a35c68e5adf11245d673c7638b79d43e765d7b0b1f3979f577e10", func := "umpire/umpirelaw30.CycleMet", spec := "cycleMet", inPlace := ["internal/abi.NoEscape"], unfollowed := true, recurses := true, named := ["umpire/op.kinds", "internal/strconv.uint64pow10", "math/bits.deBruijn32tab", "math/bits.deBruijn64tab"], plainKeys := false, apart := false, laid := [("math/bits.deBruijn32tab", laid_math_bits_deBruijn32tab), ("math/bits.deBruijn64tab", laid_math_bits_deBruijn64tab), ("internal/strconv.uint64pow10", laid_internal_strconv_uint64pow10), ("umpire/op.kinds", laid_umpire_op_kinds)] }
def CycleMetSaid : Prop := cycleMetRow.holds Tryz.pinned (OpenSpec.ofChange cycleMetSpec)

/-- ITS FALSE NEIGHBOUR: 'it returns false'. Refute it at one input. -/
def cycleMetWrong : ChangeSpec := { name := "cycleMet", fn := fun _ => fun
  | [d] => { results := [.lit (.bool false)], args := [d] }
  | _ => none }
def CycleMetWrongFalsely : Prop := cycleMetRow.holds Tryz.pinned (OpenSpec.ofChange cycleMetWrong)

/- THE SECOND FORM. 'bulk': how many values and letters a reading holds, each counted each time it is reached (what is shared counts as often as it is met; a slice's spare places count too). A statement '..UptoSaid' is the law's where the arguments, and the package variables that the reading takes, are together of bulk at most 1048576: NARROWER than '..Said'. Prove '..Said' where nothing that the law and all that it calls make is longer than what came in: it says more and counts as full. Else prove '..UptoSaid'. A law counts once. -/
mutual
def uptoBulk {H : Type} : DataW H → Nat
  | .lit (.string bytes) => bytes.length + 1
  | .lit _ => 1
  | .nil => 1
  | .ptr d => uptoBulk d + 1
  | .slice elems spare => uptoBulkAll elems + uptoBulkAll spare + 1
  | .agg parts => uptoBulkAll parts + 1
  | .iface _ d => uptoBulk d + 1
  | .map entries => uptoBulkEntries entries + 1
  | .held _ => 1
def uptoBulkAll {H : Type} : List (DataW H) → Nat
  | [] => 0
  | d :: r => uptoBulk d + uptoBulkAll r
def uptoBulkEntries {H : Type} : List (Lit × DataW H) → Nat
  | [] => 0
  | x :: r => uptoBulkEntry x + uptoBulkEntries r
def uptoBulkEntry {H : Type} : Lit × DataW H → Nat
  | (.string bytes, d) => bytes.length + uptoBulk d + 1
  | (_, d) => uptoBulk d + 1
 end
def uptoSmall : (H : Type) → List (DataW H) → Bool := fun _ ds => decide (uptoBulkAll ds ≤ 1048576)
def OpenSpec.upto (s : _root_.Go.ChangeSpec) : _root_.Go.OpenSpec := { _root_.Go.OpenSpec.ofChange s with cond := some uptoSmall }

/-- 'umpirelaw30.CycleShortest', WHERE WHAT IT READS IS OF BULK AT MOST 1048576: true; the input reads as it did. -/
def cycleShortestUptoRow : OpenClaim := { program := "ytfncnpcoekinjaagreatdoor", sum := "424317d94f9a35c68e5adf11245d673c7638b79d43e765d7b0b1f3979f577e10", func := "umpire/umpirelaw30.CycleShortest", spec := "cycleShortest", inPlace := ["internal/abi.NoEscape"], unfollowed := true, recurses := true, named := ["umpire/op.kinds", "internal/strconv.uint64pow10", "math/bits.deBruijn32tab", "math/bits.deBruijn64tab"], plainKeys := false, apart := false, laid := [("math/bits.deBruijn32tab", laid_math_bits_deBruijn32tab), ("math/bits.deBruijn64tab", laid_math_bits_deBruijn64tab), ("internal/strconv.uint64pow10", laid_internal_strconv_uint64pow10), ("umpire/op.kinds", laid_umpire_op_kinds)], narrowed := true }
def CycleShortestUptoSaid : Prop := cycleShortestUptoRow.holds Tryz.pinned (OpenSpec.upto cycleShortestSpec)

/-- 'umpirelaw30.CycleKnown', WHERE WHAT IT READS IS OF BULK AT MOST 1048576: true; the input reads as it did. -/
def cycleKnownUptoRow : OpenClaim := { program := "ytfncnpcoekinjaagreatdoor", sum := "424317d94f9a35c68e5adf11245d673c7638b79d43e765d7b0b1f3979f577e10", func := "umpire/umpirelaw30.CycleKnown", spec := "cycleKnown", inPlace := ["internal/abi.NoEscape"], unfollowed := true, recurses := true, named := ["umpire/op.kinds", "internal/strconv.uint64pow10", "math/bits.deBruijn32tab", "math/bits.deBruijn64tab"], plainKeys := false, apart := false, laid := [("math/bits.deBruijn32tab", laid_math_bits_deBruijn32tab), ("math/bits.deBruijn64tab", laid_math_bits_deBruijn64tab), ("internal/strconv.uint64pow10", laid_internal_strconv_uint64pow10), ("umpire/op.kinds", laid_umpire_op_kinds)], narrowed := true }
def CycleKnownUptoSaid : Prop := cycleKnownUptoRow.holds Tryz.pinned (OpenSpec.upto cycleKnownSpec)

/-- 'umpirelaw30.CycleLeast', WHERE WHAT IT READS IS OF BULK AT MOST 1048576: true; the input reads as it did. -/
def cycleLeastUptoRow : OpenClaim := { program := "ytfncnpcoekinjaagreatdoor", sum := "424317d94f9a35c68e5adf11245d673c7638b79d43e765d7b0b1f3979f577e10", func := "umpire/umpirelaw30.CycleLeast", spec := "cycleLeast", inPlace := ["internal/abi.NoEscape"], unfollowed := true, recurses := true, named := ["umpire/op.kinds", "internal/strconv.uint64pow10", "math/bits.deBruijn32tab", "math/bits.deBruijn64tab"], plainKeys := false, apart := false, laid := [("math/bits.deBruijn32tab", laid_math_bits_deBruijn32tab), ("math/bits.deBruijn64tab", laid_math_bits_deBruijn64tab), ("internal/strconv.uint64pow10", laid_internal_strconv_uint64pow10), ("umpire/op.kinds", laid_umpire_op_kinds)], narrowed := true }
def CycleLeastUptoSaid : Prop := cycleLeastUptoRow.holds Tryz.pinned (OpenSpec.upto cycleLeastSpec)

/-- 'umpirelaw30.CycleTells', WHERE WHAT IT READS IS OF BULK AT MOST 1048576: true; the input reads as it did. -/
def cycleTellsUptoRow : OpenClaim := { program := "ytfncnpcoekinjaagreatdoor", sum := "424317d94f9a35c68e5adf11245d673c7638b79d43e765d7b0b1f3979f577e10", func := "umpire/umpirelaw30.CycleTells", spec := "cycleTells", inPlace := ["internal/abi.NoEscape"], unfollowed := true, recurses := true, named := ["umpire/op.kinds", "internal/strconv.uint64pow10", "math/bits.deBruijn32tab", "math/bits.deBruijn64tab"], plainKeys := false, apart := false, laid := [("math/bits.deBruijn32tab", laid_math_bits_deBruijn32tab), ("math/bits.deBruijn64tab", laid_math_bits_deBruijn64tab), ("internal/strconv.uint64pow10", laid_internal_strconv_uint64pow10), ("umpire/op.kinds", laid_umpire_op_kinds)], narrowed := true }
def CycleTellsUptoSaid : Prop := cycleTellsUptoRow.holds Tryz.pinned (OpenSpec.upto cycleTellsSpec)

/-- 'umpirelaw30.CycleMet', WHERE WHAT IT READS IS OF BULK AT MOST 1048576: true; the input reads as it did. -/
def cycleMetUptoRow : OpenClaim := { program := "ytfncnpcoekinjaagreatdoor", sum := "424317d94f9a35c68e5adf11245d673c7638b79d43e765d7b0b1f3979f577e10", func := "umpire/umpirelaw30.CycleMet", spec := "cycleMet", inPlace := ["internal/abi.NoEscape"], unfollowed := true, recurses := true, named := ["umpire/op.kinds", "internal/strconv.uint64pow10", "math/bits.deBruijn32tab", "math/bits.deBruijn64tab"], plainKeys := false, apart := false, laid := [("math/bits.deBruijn32tab", laid_math_bits_deBruijn32tab), ("math/bits.deBruijn64tab", laid_math_bits_deBruijn64tab), ("internal/strconv.uint64pow10", laid_internal_strconv_uint64pow10), ("umpire/op.kinds", laid_umpire_op_kinds)], narrowed := true }
def CycleMetUptoSaid : Prop := cycleMetUptoRow.holds Tryz.pinned (OpenSpec.upto cycleMetSpec)

end Rows
end Go.Proofs.YtfncnpcoekinjaaGreatDoor
