/- What the functions that the law comes to are read as, each checked by the kernel against the program. Conditions: none. -/
import Derived.Test.YtchoohbdpkolgaaGreatDoorChecked
import Derived.Test.YtchoohbdpkolgaaGreatDoorAd
import Derived.KernelRfl
set_option maxRecDepth 100000
namespace Go.Proofs.YtchoohbdpkolgaaGreatDoor.Known
open Go Go.AL
/- umpire/umpirelaw25.TxnKnown -/
def c4 : AC := (AC.seq (AC.reg [
  ⟨(some 0), .mov, [.c (.bool false)], none⟩])
 (AC.seq (AC.reg [
  ⟨(some 15), .call 15, [], none⟩,
  ⟨(some 1), .mov, [.t 15], none⟩])
 (AC.seq (AC.seq (AC.reg [
  ⟨(some 16), .call 6, [], none⟩,
  ⟨(some 17), .un .not, [.t 16], none⟩,
  ⟨(some 18), .mov, [.t 17], none⟩,
  ⟨(some 19), .mov, [.t 1], (some (18, false))⟩,
  ⟨(some 20), .eqn false 0, [.t 19, .c (.nilptr)], (some (18, false))⟩,
  ⟨(some 21), .pick, [.t 18, .c (.bool true), .t 20], none⟩,
  ⟨(some 22), .mov, [.t 21], none⟩,
  ⟨(some 23), .mov, [.t 1], (some (22, false))⟩,
  ⟨(some 24), .bslice 1 2 (.nilsl) [0, 1], [.c (.nilsl), .c (.nilsl)], (some (22, false))⟩,
  ⟨(some 25), .call 8, [.t 23, .c (.int .u16 1), .t 24], (some (22, false))⟩,
  ⟨(some 26), .bin .neq, [.t 25, .c (.int .i64 10)], (some (22, false))⟩,
  ⟨(some 27), .pick, [.t 22, .c (.bool true), .t 26], none⟩,
  ⟨(some 28), .mov, [.t 27], none⟩,
  ⟨(some 29), .mov, [.t 1], (some (28, false))⟩,
  ⟨(some 30), .bslice 1 2 (.int .u16 0) [0, 1], [.c (.int .u16 4), .c (.int .u16 5)], (some (28, false))⟩,
  ⟨(some 31), .bslice 1 1 (.nilsl) [0], [.t 30], (some (28, false))⟩,
  ⟨(some 32), .call 8, [.t 29, .c (.int .u16 1), .t 31], (some (28, false))⟩,
  ⟨(some 33), .bin .neq, [.t 32, .c (.int .i64 0)], (some (28, false))⟩,
  ⟨(some 34), .pick, [.t 28, .c (.bool true), .t 33], none⟩,
  ⟨(some 35), .mov, [.t 34], none⟩,
  ⟨(some 36), .mov, [.t 1], (some (35, false))⟩,
  ⟨(some 37), .bslice 1 2 (.int .u16 0) [0, 1], [.c (.int .u16 4), .c (.int .u16 5)], (some (35, false))⟩,
  ⟨(some 38), .bslice 1 1 (.nilsl) [0], [.t 37], (some (35, false))⟩,
  ⟨(some 39), .call 8, [.t 36, .c (.int .u16 1), .t 38], (some (35, false))⟩,
  ⟨(some 40), .bin .neq, [.t 39, .c (.int .i64 7)], (some (35, false))⟩,
  ⟨(some 41), .pick, [.t 35, .c (.bool true), .t 40], none⟩,
  ⟨(some 42), .mov, [.t 41], none⟩,
  ⟨(some 43), .mov, [.t 1], (some (42, false))⟩,
  ⟨(some 44), .call 9, [.t 43, .c (.int .u16 2)], (some (42, false))⟩,
  ⟨(some 45), .bin .neq, [.t 44, .c (.int .i64 0)], (some (42, false))⟩,
  ⟨(some 46), .pick, [.t 42, .c (.bool true), .t 45], none⟩,
  ⟨(some 47), .mov, [.t 46], none⟩,
  ⟨(some 48), .mov, [.t 1], (some (47, false))⟩,
  ⟨(some 49), .call 10, [.t 48, .c (.int .u16 2)], (some (47, false))⟩,
  ⟨(some 50), .bin .neq, [.t 49, .c (.int .i64 7)], (some (47, false))⟩,
  ⟨(some 51), .pick, [.t 47, .c (.bool true), .t 50], none⟩,
  ⟨(some 52), .mov, [.t 51], none⟩,
  ⟨(some 53), .mov, [.t 1], (some (52, false))⟩,
  ⟨(some 54), .call 10, [.t 53, .c (.int .u16 9)], (some (52, false))⟩,
  ⟨(some 55), .bin .neq, [.t 54, .c (.int .i64 7)], (some (52, false))⟩,
  ⟨(some 56), .pick, [.t 52, .c (.bool true), .t 55], none⟩])
 (AC.cond (.t 56)
  (AC.seq (AC.reg [
   ⟨(some 0), .mov, [.c (.bool false)], none⟩])
  AC.ret)
  AC.skip))
 (AC.seq (AC.reg [
  ⟨(some 58), .mov, [.t 1], none⟩,
  ⟨(some 59), .call 16, [.t 58, .c (.int .u16 1)], none⟩,
  ⟨(some 57), .mov, [.t 59], none⟩,
  ⟨(some 60), .ext 0, [.t 57], none⟩,
  ⟨(some 61), .ext 1, [.t 57], none⟩,
  ⟨(some 2), .alloc [.int .u16 0, .int .u8 0, .nilsl, .nilsl, .int .u8 0], [], none⟩,
  ⟨none, .store 5, [.t 2, .t 60], none⟩,
  ⟨(some 3), .mov, [.t 61], none⟩])
 (AC.seq (AC.reg [
  ⟨(some 63), .mov, [.t 1], none⟩,
  ⟨(some 64), .call 16, [.t 63, .c (.int .u16 2)], none⟩,
  ⟨(some 62), .mov, [.t 64], none⟩,
  ⟨(some 65), .ext 0, [.t 62], none⟩,
  ⟨(some 66), .ext 1, [.t 62], none⟩,
  ⟨(some 4), .alloc [.int .u16 0, .int .u8 0, .nilsl, .nilsl, .int .u8 0], [], none⟩,
  ⟨none, .store 5, [.t 4, .t 65], none⟩,
  ⟨(some 5), .mov, [.t 66], none⟩])
 (AC.seq (AC.reg [
  ⟨(some 68), .mov, [.t 1], none⟩,
  ⟨(some 69), .call 16, [.t 68, .c (.int .u16 3)], none⟩,
  ⟨(some 67), .mov, [.t 69], none⟩,
  ⟨(some 70), .ext 0, [.t 67], none⟩,
  ⟨(some 71), .ext 1, [.t 67], none⟩,
  ⟨(some 6), .alloc [.int .u16 0, .int .u8 0, .nilsl, .nilsl, .int .u8 0], [], none⟩,
  ⟨none, .store 5, [.t 6, .t 70], none⟩,
  ⟨(some 7), .mov, [.t 71], none⟩])
 (AC.seq (AC.reg [
  ⟨(some 72), .load true 5, [.t 2], none⟩,
  ⟨(some 73), .call 17, [.t 72], none⟩,
  ⟨(some 8), .mov, [.t 73], none⟩])
 (AC.seq (AC.seq (AC.reg [
  ⟨(some 74), .mov, [.t 3], none⟩,
  ⟨(some 75), .un .not, [.t 74], none⟩,
  ⟨(some 76), .mov, [.t 75], none⟩,
  ⟨(some 77), .mov, [.t 5], (some (76, false))⟩,
  ⟨(some 78), .un .not, [.t 77], (some (76, false))⟩,
  ⟨(some 79), .pick, [.t 76, .c (.bool true), .t 78], none⟩,
  ⟨(some 80), .mov, [.t 79], none⟩,
  ⟨(some 81), .mov, [.t 7], (some (80, false))⟩,
  ⟨(some 82), .pick, [.t 80, .c (.bool true), .t 81], none⟩,
  ⟨(some 83), .mov, [.t 82], none⟩,
  ⟨(some 84), .mov, [.t 8], (some (83, false))⟩,
  ⟨(some 85), .len 1 0, [.t 84], (some (83, false))⟩,
  ⟨(some 86), .bin .neq, [.t 85, .c (.int .i64 1)], (some (83, false))⟩,
  ⟨(some 87), .pick, [.t 83, .c (.bool true), .t 86], none⟩,
  ⟨(some 88), .mov, [.t 87], none⟩,
  ⟨(some 89), .mov, [.t 8], (some (88, false))⟩,
  ⟨(some 90), .idxp 2, [.t 89, .c (.int .i64 0)], (some (88, false))⟩,
  ⟨(some 91), .fld 0, [.t 90], (some (88, false))⟩,
  ⟨(some 92), .load false 1, [.t 91], (some (88, false))⟩,
  ⟨(some 93), .bin .neq, [.t 92, .c (.int .u8 2)], (some (88, false))⟩,
  ⟨(some 94), .pick, [.t 88, .c (.bool true), .t 93], none⟩,
  ⟨(some 95), .mov, [.t 94], none⟩,
  ⟨(some 96), .mov, [.t 8], (some (95, false))⟩,
  ⟨(some 97), .idxp 2, [.t 96, .c (.int .i64 0)], (some (95, false))⟩,
  ⟨(some 98), .fld 1, [.t 97], (some (95, false))⟩,
  ⟨(some 99), .load false 1, [.t 98], (some (95, false))⟩,
  ⟨(some 100), .len 1 0, [.t 99], (some (95, false))⟩,
  ⟨(some 101), .bin .neq, [.t 100, .c (.int .i64 2)], (some (95, false))⟩,
  ⟨(some 102), .pick, [.t 95, .c (.bool true), .t 101], none⟩,
  ⟨(some 103), .mov, [.t 102], none⟩,
  ⟨(some 104), .mov, [.t 8], (some (103, false))⟩,
  ⟨(some 105), .idxp 2, [.t 104, .c (.int .i64 0)], (some (103, false))⟩,
  ⟨(some 106), .fld 1, [.t 105], (some (103, false))⟩,
  ⟨(some 107), .load false 1, [.t 106], (some (103, false))⟩,
  ⟨(some 108), .idxp 1, [.t 107, .c (.int .i64 1)], (some (103, false))⟩,
  ⟨(some 109), .load false 1, [.t 108], (some (103, false))⟩,
  ⟨(some 110), .bin .neq, [.t 109, .c (.int .u16 5)], (some (103, false))⟩,
  ⟨(some 111), .pick, [.t 103, .c (.bool true), .t 110], none⟩,
  ⟨(some 112), .mov, [.t 111], none⟩,
  ⟨(some 113), .load true 5, [.t 2], (some (112, false))⟩,
  ⟨(some 114), .call 18, [.t 113], (some (112, false))⟩,
  ⟨(some 115), .un .not, [.t 114], (some (112, false))⟩,
  ⟨(some 116), .pick, [.t 112, .c (.bool true), .t 115], none⟩,
  ⟨(some 117), .mov, [.t 116], none⟩,
  ⟨(some 118), .load true 5, [.t 4], (some (117, false))⟩,
  ⟨(some 119), .call 18, [.t 118], (some (117, false))⟩,
  ⟨(some 120), .pick, [.t 117, .c (.bool true), .t 119], none⟩,
  ⟨(some 121), .mov, [.t 120], none⟩,
  ⟨(some 122), .load true 5, [.t 4], (some (121, false))⟩,
  ⟨(some 123), .call 17, [.t 122], (some (121, false))⟩,
  ⟨(some 124), .len 1 0, [.t 123], (some (121, false))⟩,
  ⟨(some 125), .bin .neq, [.t 124, .c (.int .i64 0)], (some (121, false))⟩,
  ⟨(some 126), .pick, [.t 121, .c (.bool true), .t 125], none⟩,
  ⟨(some 127), .mov, [.t 126], none⟩,
  ⟨(some 128), .load true 5, [.t 4], (some (127, false))⟩,
  ⟨(some 129), .call 19, [.t 128, .c (.int .u8 3)], (some (127, false))⟩,
  ⟨(some 130), .len 1 0, [.t 129], (some (127, false))⟩,
  ⟨(some 131), .bin .neq, [.t 130, .c (.int .i64 1)], (some (127, false))⟩,
  ⟨(some 132), .pick, [.t 127, .c (.bool true), .t 131], none⟩,
  ⟨(some 133), .mov, [.t 132], none⟩,
  ⟨(some 134), .load true 5, [.t 4], (some (133, false))⟩,
  ⟨(some 135), .call 19, [.t 134, .c (.int .u8 2)], (some (133, false))⟩,
  ⟨(some 136), .len 1 0, [.t 135], (some (133, false))⟩,
  ⟨(some 137), .bin .neq, [.t 136, .c (.int .i64 0)], (some (133, false))⟩,
  ⟨(some 138), .pick, [.t 133, .c (.bool true), .t 137], none⟩,
  ⟨(some 139), .mov, [.t 138], none⟩,
  ⟨(some 140), .mov, [.t 1], (some (139, false))⟩,
  ⟨(some 141), .call 20, [.t 140, .c (.int .u8 2)], (some (139, false))⟩,
  ⟨(some 142), .bin .neq, [.t 141, .c (.int .i64 1)], (some (139, false))⟩,
  ⟨(some 143), .pick, [.t 139, .c (.bool true), .t 142], none⟩,
  ⟨(some 144), .mov, [.t 143], none⟩,
  ⟨(some 145), .mov, [.t 1], (some (144, false))⟩,
  ⟨(some 146), .call 20, [.t 145, .c (.int .u8 0)], (some (144, false))⟩,
  ⟨(some 147), .bin .neq, [.t 146, .c (.int .i64 0)], (some (144, false))⟩,
  ⟨(some 148), .pick, [.t 144, .c (.bool true), .t 147], none⟩])
 (AC.cond (.t 148)
  (AC.seq (AC.reg [
   ⟨(some 0), .mov, [.c (.bool false)], none⟩])
  AC.ret)
  AC.skip))
 (AC.seq (AC.reg [
  ⟨(some 149), .mov, [.t 8], none⟩,
  ⟨(some 150), .idxp 2, [.t 149, .c (.int .i64 0)], none⟩,
  ⟨(some 151), .fld 1, [.t 150], none⟩,
  ⟨(some 152), .load false 1, [.t 151], none⟩,
  ⟨(some 153), .idxp 1, [.t 152, .c (.int .i64 1)], none⟩,
  ⟨none, .store 1, [.t 153, .c (.int .u16 9)], none⟩])
 (AC.seq (AC.reg [
  ⟨(some 154), .fld 3, [.t 2], none⟩,
  ⟨(some 155), .load false 1, [.t 154], none⟩,
  ⟨(some 156), .idxp 1, [.t 155, .c (.int .i64 0)], none⟩,
  ⟨(some 157), .load false 1, [.t 156], none⟩,
  ⟨(some 158), .idxp 1, [.t 157, .c (.int .i64 0)], none⟩,
  ⟨none, .store 1, [.t 158, .c (.int .u16 9)], none⟩])
 (AC.seq (AC.reg [
  ⟨(some 160), .mov, [.t 1], none⟩,
  ⟨(some 161), .call 16, [.t 160, .c (.int .u16 1)], none⟩,
  ⟨(some 159), .mov, [.t 161], none⟩,
  ⟨(some 162), .ext 0, [.t 159], none⟩,
  ⟨(some 163), .ext 1, [.t 159], none⟩,
  ⟨none, .store 5, [.t 2, .t 162], none⟩])
 (AC.seq (AC.reg [
  ⟨(some 9), .mov, [.c (.nilptr)], none⟩])
 (AC.seq (AC.reg [
  ⟨(some 164), .build [.nilmap, .nilmap, .int .i64 0] [], [], none⟩,
  ⟨(some 165), .box, [.t 164], none⟩,
  ⟨(some 10), .mov, [.t 165], none⟩])
 (AC.seq (AC.reg [
  ⟨(some 167), .mov, [.t 9], none⟩,
  ⟨(some 168), .call 16, [.t 167, .c (.int .u16 1)], none⟩,
  ⟨(some 166), .mov, [.t 168], none⟩,
  ⟨(some 169), .ext 0, [.t 166], none⟩,
  ⟨(some 170), .ext 1, [.t 166], none⟩,
  ⟨(some 11), .alloc [.int .u16 0, .int .u8 0, .nilsl, .nilsl, .int .u8 0], [], none⟩,
  ⟨none, .store 5, [.t 11, .t 169], none⟩,
  ⟨(some 12), .mov, [.t 170], none⟩])
 (AC.seq (AC.reg [
  ⟨(some 172), .mov, [.t 10], none⟩,
  ⟨(some 173), .call 21, [.t 172, .c (.int .u8 1), .c (.int .u16 1)], none⟩,
  ⟨(some 171), .mov, [.t 173], none⟩,
  ⟨(some 174), .ext 0, [.t 171], none⟩,
  ⟨(some 175), .ext 1, [.t 171], none⟩,
  ⟨(some 13), .alloc [.int .u16 0, .int .u8 0, .nilsl, .nilsl, .int .u8 0], [], none⟩,
  ⟨none, .store 5, [.t 13, .t 174], none⟩,
  ⟨(some 14), .mov, [.t 175], none⟩])
 (AC.seq (AC.reg [
  ⟨(some 176), .fld 3, [.t 2], none⟩,
  ⟨(some 177), .load false 1, [.t 176], none⟩,
  ⟨(some 178), .idxp 1, [.t 177, .c (.int .i64 0)], none⟩,
  ⟨(some 179), .load false 1, [.t 178], none⟩,
  ⟨(some 180), .idxp 1, [.t 179, .c (.int .i64 0)], none⟩,
  ⟨(some 181), .load false 1, [.t 180], none⟩,
  ⟨(some 182), .bin .eql, [.t 181, .c (.int .u16 4)], none⟩,
  ⟨(some 183), .mov, [.t 182], none⟩,
  ⟨(some 184), .fld 3, [.t 2], (some (183, true))⟩,
  ⟨(some 185), .load false 1, [.t 184], (some (183, true))⟩,
  ⟨(some 186), .idxp 1, [.t 185, .c (.int .i64 0)], (some (183, true))⟩,
  ⟨(some 187), .load false 1, [.t 186], (some (183, true))⟩,
  ⟨(some 188), .idxp 1, [.t 187, .c (.int .i64 1)], (some (183, true))⟩,
  ⟨(some 189), .load false 1, [.t 188], (some (183, true))⟩,
  ⟨(some 190), .bin .eql, [.t 189, .c (.int .u16 5)], (some (183, true))⟩,
  ⟨(some 191), .pick, [.t 183, .t 190, .c (.bool false)], none⟩,
  ⟨(some 192), .mov, [.t 191], none⟩,
  ⟨(some 193), .mov, [.t 1], (some (192, true))⟩,
  ⟨(some 194), .call 11, [.t 193, .c (.int .u8 0), .c (.int .u16 5), .c (.nilsl)], (some (192, true))⟩,
  ⟨(some 195), .bin .eql, [.t 194, .c (.int .i64 4)], (some (192, true))⟩,
  ⟨(some 196), .pick, [.t 192, .t 195, .c (.bool false)], none⟩,
  ⟨(some 197), .mov, [.t 196], none⟩,
  ⟨(some 198), .mov, [.t 1], (some (197, true))⟩,
  ⟨(some 199), .call 22, [.c (.int .u8 1), .c (.int .u16 1)], (some (197, true))⟩,
  ⟨(some 200), .call 22, [.c (.int .u8 1), .c (.int .u16 1)], (some (197, true))⟩,
  ⟨(some 201), .bslice 3 2 (.agg [.bool false, .int .u8 0, .int .u16 0]) [0, 1], [.t 199, .t 200], (some (197, true))⟩,
  ⟨(some 202), .call 11, [.t 198, .c (.int .u8 0), .c (.int .u16 5), .t 201], (some (197, true))⟩,
  ⟨(some 203), .bin .eql, [.t 202, .c (.int .i64 8)], (some (197, true))⟩,
  ⟨(some 204), .pick, [.t 197, .t 203, .c (.bool false)], none⟩,
  ⟨(some 205), .mov, [.t 204], none⟩,
  ⟨(some 206), .mov, [.t 1], (some (205, true))⟩,
  ⟨(some 207), .call 22, [.c (.int .u8 1), .c (.int .u16 1)], (some (205, true))⟩,
  ⟨(some 208), .bslice 3 1 (.agg [.bool false, .int .u8 0, .int .u16 0]) [0], [.t 207], (some (205, true))⟩,
  ⟨(some 209), .call 11, [.t 206, .c (.int .u8 16), .c (.int .u16 5), .t 208], (some (205, true))⟩,
  ⟨(some 210), .bin .eql, [.t 209, .c (.int .i64 4)], (some (205, true))⟩,
  ⟨(some 211), .pick, [.t 205, .t 210, .c (.bool false)], none⟩,
  ⟨(some 212), .mov, [.t 211], none⟩,
  ⟨(some 213), .mov, [.t 9], (some (212, true))⟩,
  ⟨(some 214), .call 23, [.c (.int .u8 1)], (some (212, true))⟩,
  ⟨(some 215), .bslice 3 1 (.agg [.bool false, .int .u8 0, .int .u16 0]) [0], [.t 214], (some (212, true))⟩,
  ⟨(some 216), .call 11, [.t 213, .c (.int .u8 0), .c (.int .u16 1), .t 215], (some (212, true))⟩,
  ⟨(some 217), .bin .eql, [.t 216, .c (.int .i64 1)], (some (212, true))⟩,
  ⟨(some 218), .pick, [.t 212, .t 217, .c (.bool false)], none⟩,
  ⟨(some 219), .mov, [.t 218], none⟩,
  ⟨(some 220), .mov, [.t 10], (some (219, true))⟩,
  ⟨(some 221), .call 8, [.t 220, .c (.int .u16 1), .c (.nilsl)], (some (219, true))⟩,
  ⟨(some 222), .bin .eql, [.t 221, .c (.int .i64 1)], (some (219, true))⟩,
  ⟨(some 223), .pick, [.t 219, .t 222, .c (.bool false)], none⟩,
  ⟨(some 224), .mov, [.t 223], none⟩,
  ⟨(some 225), .mov, [.t 9], (some (224, true))⟩,
  ⟨(some 226), .call 9, [.t 225, .c (.int .u16 1)], (some (224, true))⟩,
  ⟨(some 227), .bin .eql, [.t 226, .c (.int .i64 1)], (some (224, true))⟩,
  ⟨(some 228), .pick, [.t 224, .t 227, .c (.bool false)], none⟩,
  ⟨(some 229), .mov, [.t 228], none⟩,
  ⟨(some 230), .mov, [.t 10], (some (229, true))⟩,
  ⟨(some 231), .call 10, [.t 230, .c (.int .u16 1)], (some (229, true))⟩,
  ⟨(some 232), .bin .eql, [.t 231, .c (.int .i64 1)], (some (229, true))⟩,
  ⟨(some 233), .pick, [.t 229, .t 232, .c (.bool false)], none⟩,
  ⟨(some 234), .mov, [.t 233], none⟩,
  ⟨(some 235), .mov, [.t 12], (some (234, true))⟩,
  ⟨(some 236), .un .not, [.t 235], (some (234, true))⟩,
  ⟨(some 237), .pick, [.t 234, .t 236, .c (.bool false)], none⟩,
  ⟨(some 238), .mov, [.t 237], none⟩,
  ⟨(some 239), .mov, [.t 14], (some (238, true))⟩,
  ⟨(some 240), .un .not, [.t 239], (some (238, true))⟩,
  ⟨(some 241), .pick, [.t 238, .t 240, .c (.bool false)], none⟩,
  ⟨(some 242), .mov, [.t 241], none⟩,
  ⟨(some 243), .mov, [.t 9], (some (242, true))⟩,
  ⟨(some 244), .call 20, [.t 243, .c (.int .u8 0)], (some (242, true))⟩,
  ⟨(some 245), .bin .eql, [.t 244, .c (.int .i64 0)], (some (242, true))⟩,
  ⟨(some 246), .pick, [.t 242, .t 245, .c (.bool false)], none⟩,
  ⟨(some 247), .mov, [.t 246], none⟩,
  ⟨(some 248), .mov, [.t 10], (some (247, true))⟩,
  ⟨(some 249), .call 24, [.t 248], (some (247, true))⟩,
  ⟨(some 250), .eqn false 0, [.t 249, .c (.nilptr)], (some (247, true))⟩,
  ⟨(some 251), .pick, [.t 247, .t 250, .c (.bool false)], none⟩,
  ⟨(some 252), .mov, [.t 251], none⟩,
  ⟨(some 253), .call 6, [], (some (252, true))⟩,
  ⟨(some 254), .pick, [.t 252, .t 253, .c (.bool false)], none⟩,
  ⟨(some 0), .mov, [.t 254], none⟩])
 AC.ret))))))))))))))))
def r4 : AC × List RT × Nat := (c4, [.tmp 0], 255)
theorem ok4 : ∃ fn ex, Tryz.prog.funcs[4]? = some fn ∧ compF Tryz.prog fn ex = some r4 := ⟨Tryz.f4, ⟨false, false⟩, Tryz.func4, by kernel_rfl⟩
/- umpire/umpirelaw25.awake -/
def c6 : AC := (AC.seq (AC.reg [
  ⟨(some 0), .mov, [.c (.bool false)], none⟩])
 (AC.seq (AC.reg [
  ⟨(some 2), .call 15, [], none⟩,
  ⟨(some 1), .mov, [.t 2], none⟩])
 (AC.seq (AC.reg [
  ⟨(some 3), .mov, [.t 1], none⟩,
  ⟨(some 4), .eqn true 0, [.t 3, .c (.nilptr)], none⟩,
  ⟨(some 5), .mov, [.t 4], none⟩,
  ⟨(some 6), .mov, [.t 1], (some (5, true))⟩,
  ⟨(some 7), .call 25, [.t 6, .c (.int .u8 2), .c (.int .u16 6)], (some (5, true))⟩,
  ⟨(some 8), .bin .eql, [.t 7, .c (.int .i64 1)], (some (5, true))⟩,
  ⟨(some 9), .pick, [.t 5, .t 8, .c (.bool false)], none⟩,
  ⟨(some 10), .mov, [.t 9], none⟩,
  ⟨(some 11), .mov, [.t 1], (some (10, true))⟩,
  ⟨(some 12), .call 25, [.t 11, .c (.int .u8 3), .c (.int .u16 6)], (some (10, true))⟩,
  ⟨(some 13), .bin .eql, [.t 12, .c (.int .i64 2)], (some (10, true))⟩,
  ⟨(some 14), .pick, [.t 10, .t 13, .c (.bool false)], none⟩,
  ⟨(some 15), .mov, [.t 14], none⟩,
  ⟨(some 16), .mov, [.t 1], (some (15, true))⟩,
  ⟨(some 17), .call 25, [.t 16, .c (.int .u8 2), .c (.int .u16 7)], (some (15, true))⟩,
  ⟨(some 18), .bin .eql, [.t 17, .c (.int .i64 (-1))], (some (15, true))⟩,
  ⟨(some 19), .pick, [.t 15, .t 18, .c (.bool false)], none⟩,
  ⟨(some 20), .mov, [.t 19], none⟩,
  ⟨(some 21), .mov, [.t 1], (some (20, true))⟩,
  ⟨(some 22), .bslice 1 2 (.int .u16 0) [0, 1], [.c (.int .u16 4), .c (.int .u16 5)], (some (20, true))⟩,
  ⟨(some 23), .bslice 1 1 (.nilsl) [0], [.t 22], (some (20, true))⟩,
  ⟨(some 24), .call 8, [.t 21, .c (.int .u16 1), .t 23], (some (20, true))⟩,
  ⟨(some 25), .bin .eql, [.t 24, .c (.int .i64 0)], (some (20, true))⟩,
  ⟨(some 26), .pick, [.t 20, .t 25, .c (.bool false)], none⟩,
  ⟨(some 27), .mov, [.t 26], none⟩,
  ⟨(some 28), .mov, [.t 1], (some (27, true))⟩,
  ⟨(some 29), .call 20, [.t 28, .c (.int .u8 1)], (some (27, true))⟩,
  ⟨(some 30), .bin .eql, [.t 29, .c (.int .i64 1)], (some (27, true))⟩,
  ⟨(some 31), .pick, [.t 27, .t 30, .c (.bool false)], none⟩,
  ⟨(some 0), .mov, [.t 31], none⟩])
 AC.ret)))
def r6 : AC × List RT × Nat := (c6, [.tmp 0], 32)
theorem ok6 : ∃ fn ex, Tryz.prog.funcs[6]? = some fn ∧ compF Tryz.prog fn ex = some r6 := ⟨Tryz.f6, ⟨false, false⟩, Tryz.func6, by kernel_rfl⟩
/- umpire/txn.New -/
def c7 : AC := (AC.seq (AC.reg [
  ⟨(some 0), .mov, [.c (.nilptr)], none⟩])
 (AC.seq (AC.reg [
  ⟨(some 1), .mkmap, [], none⟩,
  ⟨(some 2), .mkmap, [], none⟩,
  ⟨(some 3), .build [.nilmap, .nilmap, .int .i64 0] [(0, 1), (1, 1), (2, 1)], [.t 1, .t 2, .c (.int .i64 (-1))], none⟩,
  ⟨(some 4), .box, [.t 3], none⟩,
  ⟨(some 0), .mov, [.t 4], none⟩])
 AC.ret))
def r7 : AC × List RT × Nat := (c7, [.tmp 0], 5)
theorem ok7 : ∃ fn ex, Tryz.prog.funcs[7]? = some fn ∧ compF Tryz.prog fn ex = some r7 := ⟨Tryz.f7, ⟨false, false⟩, Tryz.func7, by kernel_rfl⟩
/- (*umpire/txn.Store).Commit -/
def c8 : AC := (AC.seq (AC.reg [
  ⟨(some 6), .mov, [.c (.int .i64 0)], none⟩])
 (AC.seq (AC.reg [
  ⟨(some 13), .mov, [.t 0], none⟩,
  ⟨(some 14), .mov, [.t 1], none⟩,
  ⟨(some 15), .call 26, [.t 13, .t 14], none⟩,
  ⟨(some 12), .mov, [.t 15], none⟩,
  ⟨(some 16), .ext 0, [.t 12], none⟩,
  ⟨(some 17), .ext 1, [.t 12], none⟩,
  ⟨(some 7), .alloc [.int .u16 0, .int .u8 0, .nilsl, .nilsl, .int .u8 0], [], none⟩,
  ⟨none, .store 5, [.t 7, .t 16], none⟩,
  ⟨(some 8), .mov, [.t 17], none⟩])
 (AC.seq (AC.seq (AC.reg [
  ⟨(some 18), .mov, [.t 8], none⟩,
  ⟨(some 19), .bin .neq, [.t 18, .c (.int .i64 0)], none⟩])
 (AC.cond (.t 19)
  (AC.seq (AC.reg [
   ⟨(some 20), .mov, [.t 8], none⟩,
   ⟨(some 6), .mov, [.t 20], none⟩])
  AC.ret)
  AC.skip))
 (AC.seq (AC.seq (AC.reg [
  ⟨(some 21), .mov, [.t 1], none⟩,
  ⟨(some 22), .mov, [.t 2], none⟩,
  ⟨(some 23), .build [.int .u8 0, .int .u8 0, .int .u16 0, .int .u8 0, .int .u8 0, .int .u8 0, .int .u16 0, .int .u16 0, .int .u8 0, .int .u16 0, .nilsl, .nilsl, .int .u8 0, .int .i64 0, .int .i64 0, .int .i64 0, .bool false, .bool false, .bool false] [(0, 1), (2, 1), (11, 1)], [.c (.int .u8 6), .t 21, .t 22], none⟩,
  ⟨(some 24), .call 27, [.t 23], none⟩,
  ⟨(some 25), .bin .neq, [.t 24, .c (.int .i64 0)], none⟩])
 (AC.cond (.t 25)
  (AC.seq (AC.reg [
   ⟨(some 6), .mov, [.c (.int .i64 4)], none⟩])
  AC.ret)
  AC.skip))
 (AC.seq (AC.reg [
  ⟨(some 26), .mov, [.t 2], none⟩,
  ⟨(some 27), .call 28, [.t 26], none⟩,
  ⟨(some 28), .fld 4, [.t 7], none⟩,
  ⟨none, .store 1, [.t 28, .c (.int .u8 1)], none⟩,
  ⟨(some 29), .fld 3, [.t 7], none⟩,
  ⟨none, .store 1, [.t 29, .t 27], none⟩])
 (AC.seq (AC.reg [
  ⟨(some 9), .mov, [.c (.int .i64 0)], none⟩])
 (AC.seq (AC.seq (AC.reg [
  ⟨(some 30), .fld 2, [.t 7], none⟩,
  ⟨(some 31), .load false 1, [.t 30], none⟩,
  ⟨(some 32), .len 1 0, [.t 31], none⟩,
  ⟨(some 33), .mov, [.c (.int .i64 0)], none⟩])
 (AC.block 0
  (AC.loop
   (AC.seq (AC.reg [
    ⟨(some 34), .bin .lss, [.t 33, .t 32], none⟩])
   (AC.seq (AC.cond (.t 34)
    AC.skip
    (AC.exit 0))
   (AC.seq (AC.block 1
    (AC.seq (AC.reg [
     ⟨(some 35), .idxp 3, [.t 31, .t 33], none⟩,
     ⟨(some 36), .load true 3, [.t 35], none⟩,
     ⟨(some 11), .alloc [.bool false, .int .u8 0, .int .u16 0], [], none⟩,
     ⟨none, .store 3, [.t 11, .t 36], none⟩])
    (AC.seq (AC.reg [
     ⟨(some 37), .fld 0, [.t 11], none⟩,
     ⟨(some 38), .load false 1, [.t 37], none⟩])
    (AC.cond (.t 38)
     (AC.reg [
      ⟨(some 39), .mov, [.t 9], none⟩,
      ⟨(some 40), .bin .add, [.t 39, .c (.int .i64 1)], none⟩,
      ⟨(some 9), .mov, [.t 40], none⟩])
     AC.skip))))
   (AC.reg [
    ⟨(some 41), .bin .add, [.t 33, .c (.int .i64 1)], none⟩,
    ⟨(some 33), .mov, [.t 41], none⟩])))))))
 (AC.seq (AC.seq (AC.reg [
  ⟨(some 42), .mov, [.t 9], none⟩,
  ⟨(some 43), .mov, [.t 2], none⟩,
  ⟨(some 44), .len 1 0, [.t 43], none⟩,
  ⟨(some 45), .bin .neq, [.t 42, .t 44], none⟩])
 (AC.cond (.t 45)
  (AC.seq (AC.reg [
   ⟨(some 6), .mov, [.c (.int .i64 10)], none⟩])
  AC.ret)
  AC.skip))
 (AC.seq (AC.par
  (PT.step 0 ⟨(some 46), .mov, [.t 0], none⟩
  (PT.step 1 ⟨(some 47), .nilck, [.t 46], none⟩
  (PT.step 2 ⟨(some 48), .fld 0, [.t 47], none⟩
  (PT.step 4 ⟨(some 50), .mov, [.t 1], none⟩
  (PT.step 3 ⟨(some 49), .load false 1, [.t 48], none⟩
  (PT.step 5 ⟨(some 51), .load true 5, [.t 7], none⟩
  (PT.step 6 ⟨none, .mupd (false, [.i .u16]), [.t 49, .t 50, .t 51], none⟩
  PT.done))))))))
 (AC.seq (AC.reg [
  ⟨(some 6), .mov, [.c (.int .i64 0)], none⟩])
 AC.ret))))))))))
def r8 : AC × List RT × Nat := (c8, [.tmp 6], 52)
theorem ok8 : ∃ fn ex, Tryz.prog.funcs[8]? = some fn ∧ compF Tryz.prog fn ex = some r8 := ⟨Tryz.f8, ⟨false, false⟩, Tryz.func8, by kernel_rfl⟩
/- (*umpire/txn.Store).Abort -/
def c9 : AC := (AC.seq (AC.reg [
  ⟨(some 4), .mov, [.c (.int .i64 0)], none⟩])
 (AC.seq (AC.reg [
  ⟨(some 5), .mov, [.t 0], none⟩,
  ⟨(some 6), .mov, [.t 1], none⟩,
  ⟨(some 7), .call 29, [.t 5, .t 6, .c (.int .u8 2)], none⟩,
  ⟨(some 4), .mov, [.t 7], none⟩])
 AC.ret))
def r9 : AC × List RT × Nat := (c9, [.tmp 4], 8)
theorem ok9 : ∃ fn ex, Tryz.prog.funcs[9]? = some fn ∧ compF Tryz.prog fn ex = some r9 := ⟨Tryz.f9, ⟨false, false⟩, Tryz.func9, by kernel_rfl⟩
/- (*umpire/txn.Store).Info -/
def c10 : AC := (AC.seq (AC.reg [
  ⟨(some 4), .mov, [.c (.int .i64 0)], none⟩])
 (AC.seq (AC.reg [
  ⟨(some 5), .mov, [.t 0], none⟩,
  ⟨(some 6), .mov, [.t 1], none⟩,
  ⟨(some 7), .call 29, [.t 5, .t 6, .c (.int .u8 3)], none⟩,
  ⟨(some 4), .mov, [.t 7], none⟩])
 AC.ret))
def r10 : AC × List RT × Nat := (c10, [.tmp 4], 8)
theorem ok10 : ∃ fn ex, Tryz.prog.funcs[10]? = some fn ∧ compF Tryz.prog fn ex = some r10 := ⟨Tryz.f10, ⟨false, false⟩, Tryz.func10, by kernel_rfl⟩
/- (*umpire/txn.Store).Begin -/
def c11 : AC := (AC.seq (AC.reg [
  ⟨(some 8), .mov, [.c (.int .i64 0)], none⟩])
 (AC.seq (AC.block 0
  (AC.seq (AC.reg [
   ⟨(some 18), .mov, [.t 0], none⟩,
   ⟨(some 19), .call 30, [.t 18], none⟩,
   ⟨(some 20), .un .not, [.t 19], none⟩,
   ⟨(some 17), .mov, [.t 20], none⟩])
  (AC.cond (.t 17)
   (AC.seq (AC.reg [
    ⟨(some 8), .mov, [.c (.int .i64 1)], none⟩])
   AC.ret)
   (AC.seq (AC.reg [
    ⟨(some 22), .mov, [.t 1], none⟩,
    ⟨(some 23), .mov, [.t 2], none⟩,
    ⟨(some 24), .mov, [.t 3], none⟩,
    ⟨(some 25), .build [.int .u8 0, .int .u8 0, .int .u16 0, .int .u8 0, .int .u8 0, .int .u8 0, .int .u16 0, .int .u16 0, .int .u8 0, .int .u16 0, .nilsl, .nilsl, .int .u8 0, .int .i64 0, .int .i64 0, .int .i64 0, .bool false, .bool false, .bool false] [(0, 1), (1, 1), (2, 1), (10, 1)], [.c (.int .u8 5), .t 22, .t 23, .t 24], none⟩,
    ⟨(some 26), .call 27, [.t 25], none⟩,
    ⟨(some 27), .bin .neq, [.t 26, .c (.int .i64 0)], none⟩,
    ⟨(some 21), .mov, [.t 27], none⟩])
   (AC.cond (.t 21)
    (AC.seq (AC.reg [
     ⟨(some 8), .mov, [.c (.int .i64 4)], none⟩])
    AC.ret)
    (AC.seq (AC.reg [
     ⟨(some 29), .mov, [.t 2], none⟩,
     ⟨(some 30), .conv .i64, [.t 29], none⟩,
     ⟨(some 31), .mov, [.t 0], none⟩,
     ⟨(some 32), .nilck, [.t 31], none⟩,
     ⟨(some 33), .fld 2, [.t 32], none⟩,
     ⟨(some 34), .load false 1, [.t 33], none⟩,
     ⟨(some 35), .bin .leq, [.t 30, .t 34], none⟩,
     ⟨(some 28), .mov, [.t 35], none⟩])
    (AC.cond (.t 28)
     (AC.seq (AC.reg [
      ⟨(some 8), .mov, [.c (.int .i64 8)], none⟩])
     AC.ret)
     AC.skip)))))))
 (AC.seq (AC.reg [
  ⟨(some 36), .mkmap, [], none⟩,
  ⟨(some 9), .mov, [.t 36], none⟩])
 (AC.seq (AC.seq (AC.reg [
  ⟨(some 37), .mov, [.t 3], none⟩,
  ⟨(some 38), .len 1 0, [.t 37], none⟩,
  ⟨(some 39), .mov, [.c (.int .i64 0)], none⟩])
 (AC.block 1
  (AC.loop
   (AC.seq (AC.reg [
    ⟨(some 40), .bin .lss, [.t 39, .t 38], none⟩])
   (AC.seq (AC.cond (.t 40)
    AC.skip
    (AC.exit 1))
   (AC.seq (AC.block 2
    (AC.seq (AC.reg [
     ⟨(some 41), .idxp 3, [.t 37, .t 39], none⟩,
     ⟨(some 42), .load true 3, [.t 41], none⟩,
     ⟨(some 11), .alloc [.bool false, .int .u8 0, .int .u16 0], [], none⟩,
     ⟨none, .store 3, [.t 11, .t 42], none⟩])
    (AC.seq (AC.reg [
     ⟨(some 43), .fld 1, [.t 11], none⟩,
     ⟨(some 44), .load false 1, [.t 43], none⟩,
     ⟨(some 45), .fld 2, [.t 11], none⟩,
     ⟨(some 46), .load false 1, [.t 45], none⟩,
     ⟨(some 47), .build [.int .u8 0, .int .u16 0] [(0, 1), (1, 1)], [.t 44, .t 46], none⟩,
     ⟨(some 12), .alloc [.int .u8 0, .int .u16 0], [], none⟩,
     ⟨none, .store 2, [.t 12, .t 47], none⟩])
    (AC.seq (AC.seq (AC.reg [
     ⟨(some 48), .fld 0, [.t 11], none⟩,
     ⟨(some 49), .load false 1, [.t 48], none⟩])
    (AC.cond (.t 49)
     (AC.exit 2)
     AC.skip))
    (AC.seq (AC.reg [
     ⟨(some 51), .mov, [.t 9], none⟩,
     ⟨(some 52), .load true 2, [.t 12], none⟩,
     ⟨(some 53), .lookup (true, [.i .u8, .i .u16]) (.int .u16 0) true, [.t 51, .t 52], none⟩,
     ⟨(some 50), .mov, [.t 53], none⟩,
     ⟨(some 54), .ext 0, [.t 50], none⟩,
     ⟨(some 55), .ext 1, [.t 50], none⟩,
     ⟨(some 13), .mov, [.t 54], none⟩,
     ⟨(some 14), .mov, [.t 55], none⟩])
    (AC.seq (AC.seq (AC.par
     (PT.step 0 ⟨(some 57), .mov, [.t 0], none⟩
     (PT.step 1 ⟨(some 58), .nilck, [.t 57], none⟩
     (PT.step 2 ⟨(some 59), .fld 1, [.t 58], none⟩
     (PT.step 3 ⟨(some 60), .load false 1, [.t 59], none⟩
     (PT.step 4 ⟨(some 61), .load true 2, [.t 12], none⟩
     (PT.step 5 ⟨(some 62), .lookup (true, [.i .u8, .i .u16]) (.int .u16 0) true, [.t 60, .t 61], none⟩
     (PT.step 6 ⟨(some 56), .mov, [.t 62], none⟩
     (PT.step 7 ⟨(some 63), .ext 0, [.t 56], none⟩
     (PT.step 8 ⟨(some 64), .ext 1, [.t 56], none⟩
     (PT.step 9 ⟨(some 15), .mov, [.t 63], none⟩
     (PT.step 10 ⟨(some 16), .mov, [.t 64], none⟩
     PT.done))))))))))))
    (AC.seq (AC.reg [
     ⟨(some 65), .mov, [.t 16], none⟩,
     ⟨(some 66), .mov, [.t 65], none⟩,
     ⟨(some 67), .mov, [.t 14], (some (66, false))⟩,
     ⟨(some 68), .pick, [.t 66, .c (.bool true), .t 67], none⟩])
    (AC.cond (.t 68)
     (AC.seq (AC.reg [
      ⟨(some 8), .mov, [.c (.int .i64 8)], none⟩])
     AC.ret)
     AC.skip)))
    (AC.reg [
     ⟨(some 69), .mov, [.t 9], none⟩,
     ⟨(some 70), .load true 2, [.t 12], none⟩,
     ⟨(some 71), .mov, [.t 2], none⟩,
     ⟨none, .mupd (true, [.i .u8, .i .u16]), [.t 69, .t 70, .t 71], none⟩])))))))
   (AC.reg [
    ⟨(some 72), .bin .add, [.t 39, .c (.int .i64 1)], none⟩,
    ⟨(some 39), .mov, [.t 72], none⟩])))))))
 (AC.seq (AC.reg [
  ⟨(some 73), .mov, [.t 0], none⟩,
  ⟨(some 74), .nilck, [.t 73], none⟩,
  ⟨(some 75), .fld 1, [.t 74], none⟩,
  ⟨(some 76), .load false 1, [.t 75], none⟩,
  ⟨(some 77), .mov, [.t 9], none⟩,
  ⟨(some 78), .call 31, [.t 76, .t 77], none⟩])
 (AC.seq (AC.par
  (PT.step 0 ⟨(some 79), .mov, [.t 0], none⟩
  (PT.step 1 ⟨(some 80), .nilck, [.t 79], none⟩
  (PT.step 2 ⟨(some 81), .fld 0, [.t 80], none⟩
  (PT.step 4 ⟨(some 83), .mov, [.t 2], none⟩
  (PT.step 5 ⟨(some 84), .mov, [.t 2], none⟩
  (PT.step 6 ⟨(some 85), .mov, [.t 1], none⟩
  (PT.step 7 ⟨(some 86), .mov, [.t 3], none⟩
  (PT.step 3 ⟨(some 82), .load false 1, [.t 81], none⟩
  (PT.step 8 ⟨(some 87), .pcall 32, [.t 86], none⟩
  (PT.step 9 ⟨(some 88), .build [.int .u16 0, .int .u8 0, .nilsl, .nilsl, .int .u8 0] [(0, 1), (1, 1), (2, 1)], [.t 84, .t 85, .t 87], none⟩
  (PT.step 10 ⟨none, .mupd (false, [.i .u16]), [.t 82, .t 83, .t 88], none⟩
  PT.done))))))))))))
 (AC.seq (AC.reg [
  ⟨(some 89), .mov, [.t 0], none⟩,
  ⟨(some 90), .mov, [.t 2], none⟩,
  ⟨(some 91), .conv .i64, [.t 90], none⟩,
  ⟨(some 92), .nilck, [.t 89], none⟩,
  ⟨(some 93), .fld 2, [.t 92], none⟩,
  ⟨none, .store 1, [.t 93, .t 91], none⟩])
 (AC.seq (AC.reg [
  ⟨(some 8), .mov, [.c (.int .i64 0)], none⟩])
 AC.ret))))))))
def r11 : AC × List RT × Nat := (c11, [.tmp 8], 94)
theorem ok11 : ∃ fn ex, Tryz.prog.funcs[11]? = some fn ∧ compF Tryz.prog fn ex = some r11 := ⟨Tryz.f11, ⟨false, false⟩, Tryz.func11, by kernel_rfl⟩
/- (*umpire/txn.Store).All -/
def c12 : AC := (AC.seq (AC.reg [
  ⟨(some 1), .box, [.t 0], none⟩,
  ⟨(some 2), .mov, [.c (.nilfn)], none⟩])
 (AC.seq (AC.reg [
  ⟨(some 3), .mkfn (.func 33) 0, [.t 1], none⟩,
  ⟨(some 2), .mov, [.t 3], none⟩])
 AC.ret))
def r12 : AC × List RT × Nat := (c12, [.tmp 2], 4)
theorem ok12 : ∃ fn ex, Tryz.prog.funcs[12]? = some fn ∧ compF Tryz.prog fn ex = some r12 := ⟨Tryz.f12, ⟨false, false⟩, Tryz.func12, by kernel_rfl⟩
/- umpire/umpirelaw25.given -/
def c15 : AC := (AC.seq (AC.reg [
  ⟨(some 0), .mov, [.c (.nilptr)], none⟩])
 (AC.seq (AC.reg [
  ⟨(some 2), .call 7, [], none⟩,
  ⟨(some 1), .mov, [.t 2], none⟩])
 (AC.seq (AC.seq (AC.reg [
  ⟨(some 3), .mov, [.t 1], none⟩,
  ⟨(some 4), .call 23, [.c (.int .u8 2)], none⟩,
  ⟨(some 5), .call 22, [.c (.int .u8 2), .c (.int .u16 6)], none⟩,
  ⟨(some 6), .bslice 3 2 (.agg [.bool false, .int .u8 0, .int .u16 0]) [0, 1], [.t 4, .t 5], none⟩,
  ⟨(some 7), .call 11, [.t 3, .c (.int .u8 0), .c (.int .u16 1), .t 6], none⟩,
  ⟨(some 8), .bin .neq, [.t 7, .c (.int .i64 0)], none⟩,
  ⟨(some 9), .mov, [.t 8], none⟩,
  ⟨(some 10), .mov, [.t 1], (some (9, false))⟩,
  ⟨(some 11), .call 22, [.c (.int .u8 2), .c (.int .u16 6)], (some (9, false))⟩,
  ⟨(some 12), .bslice 3 1 (.agg [.bool false, .int .u8 0, .int .u16 0]) [0], [.t 11], (some (9, false))⟩,
  ⟨(some 13), .call 11, [.t 10, .c (.int .u8 1), .c (.int .u16 2), .t 12], (some (9, false))⟩,
  ⟨(some 14), .bin .neq, [.t 13, .c (.int .i64 8)], (some (9, false))⟩,
  ⟨(some 15), .pick, [.t 9, .c (.bool true), .t 14], none⟩,
  ⟨(some 16), .mov, [.t 15], none⟩,
  ⟨(some 17), .mov, [.t 1], (some (16, false))⟩,
  ⟨(some 18), .call 22, [.c (.int .u8 3), .c (.int .u16 6)], (some (16, false))⟩,
  ⟨(some 19), .bslice 3 1 (.agg [.bool false, .int .u8 0, .int .u16 0]) [0], [.t 18], (some (16, false))⟩,
  ⟨(some 20), .call 11, [.t 17, .c (.int .u8 1), .c (.int .u16 1), .t 19], (some (16, false))⟩,
  ⟨(some 21), .bin .neq, [.t 20, .c (.int .i64 8)], (some (16, false))⟩,
  ⟨(some 22), .pick, [.t 16, .c (.bool true), .t 21], none⟩,
  ⟨(some 23), .mov, [.t 22], none⟩,
  ⟨(some 24), .mov, [.t 1], (some (23, false))⟩,
  ⟨(some 25), .call 22, [.c (.int .u8 3), .c (.int .u16 6)], (some (23, false))⟩,
  ⟨(some 26), .bslice 3 1 (.agg [.bool false, .int .u8 0, .int .u16 0]) [0], [.t 25], (some (23, false))⟩,
  ⟨(some 27), .call 11, [.t 24, .c (.int .u8 1), .c (.int .u16 2), .t 26], (some (23, false))⟩,
  ⟨(some 28), .bin .neq, [.t 27, .c (.int .i64 0)], (some (23, false))⟩,
  ⟨(some 29), .pick, [.t 23, .c (.bool true), .t 28], none⟩])
 (AC.cond (.t 29)
  (AC.seq (AC.reg [
   ⟨(some 0), .mov, [.c (.nilptr)], none⟩])
  AC.ret)
  AC.skip))
 (AC.seq (AC.reg [
  ⟨(some 30), .mov, [.t 1], none⟩,
  ⟨(some 0), .mov, [.t 30], none⟩])
 AC.ret))))
def r15 : AC × List RT × Nat := (c15, [.tmp 0], 31)
theorem ok15 : ∃ fn ex, Tryz.prog.funcs[15]? = some fn ∧ compF Tryz.prog fn ex = some r15 := ⟨Tryz.f15, ⟨false, false⟩, Tryz.func15, by kernel_rfl⟩
/- (*umpire/txn.Store).Find -/
def c16 : AC := (AC.seq (AC.reg [
  ⟨(some 4), .alloc [.int .u16 0, .int .u8 0, .nilsl, .nilsl, .int .u8 0], [], none⟩,
  ⟨(some 5), .mov, [.c (.bool false)], none⟩])
 (AC.seq (AC.seq (AC.reg [
  ⟨(some 8), .mov, [.t 0], none⟩,
  ⟨(some 9), .call 30, [.t 8], none⟩,
  ⟨(some 10), .un .not, [.t 9], none⟩])
 (AC.cond (.t 10)
  (AC.seq (AC.reg [
   ⟨(some 11), .build [.int .u16 0, .int .u8 0, .nilsl, .nilsl, .int .u8 0] [], [], none⟩,
   ⟨none, .store 5, [.t 4, .t 11], none⟩,
   ⟨(some 5), .mov, [.c (.bool false)], none⟩])
  AC.ret)
  AC.skip))
 (AC.seq (AC.reg [
  ⟨(some 13), .mov, [.t 0], none⟩,
  ⟨(some 14), .nilck, [.t 13], none⟩,
  ⟨(some 15), .fld 0, [.t 14], none⟩,
  ⟨(some 16), .load false 1, [.t 15], none⟩,
  ⟨(some 17), .mov, [.t 1], none⟩,
  ⟨(some 18), .lookup (false, [.i .u16]) (.agg [.int .u16 0, .int .u8 0, .nilsl, .nilsl, .int .u8 0]) true, [.t 16, .t 17], none⟩,
  ⟨(some 12), .mov, [.t 18], none⟩,
  ⟨(some 19), .ext 0, [.t 12], none⟩,
  ⟨(some 20), .ext 1, [.t 12], none⟩,
  ⟨(some 6), .alloc [.int .u16 0, .int .u8 0, .nilsl, .nilsl, .int .u8 0], [], none⟩,
  ⟨none, .store 5, [.t 6, .t 19], none⟩,
  ⟨(some 7), .mov, [.t 20], none⟩])
 (AC.seq (AC.reg [
  ⟨(some 21), .load true 5, [.t 6], none⟩,
  ⟨(some 22), .call 36, [.t 21], none⟩,
  ⟨(some 23), .mov, [.t 7], none⟩,
  ⟨none, .store 5, [.t 4, .t 22], none⟩,
  ⟨(some 5), .mov, [.t 23], none⟩])
 AC.ret))))
def r16 : AC × List RT × Nat := (c16, [.cell 4 true 5, .tmp 5], 24)
theorem ok16 : ∃ fn ex, Tryz.prog.funcs[16]? = some fn ∧ compF Tryz.prog fn ex = some r16 := ⟨Tryz.f16, ⟨false, false⟩, Tryz.func16, by kernel_rfl⟩
/- (umpire/txn.Txn).Reads -/
def c17 : AC := (AC.seq (AC.reg [
  ⟨(some 1), .box, [.t 0], none⟩,
  ⟨(some 2), .mov, [.c (.nilsl)], none⟩])
 (AC.seq (AC.seq (AC.reg [
  ⟨(some 5), .fld 4, [.t 1], none⟩,
  ⟨(some 6), .load false 1, [.t 5], none⟩,
  ⟨(some 7), .bin .neq, [.t 6, .c (.int .u8 1)], none⟩])
 (AC.cond (.t 7)
  (AC.seq (AC.reg [
   ⟨(some 2), .mov, [.c (.nilsl)], none⟩])
  AC.ret)
  AC.skip))
 (AC.seq (AC.seq (AC.reg [
  ⟨(some 8), .fld 2, [.t 1], none⟩,
  ⟨(some 9), .load false 1, [.t 8], none⟩,
  ⟨(some 10), .len 1 0, [.t 9], none⟩,
  ⟨(some 11), .mov, [.c (.int .i64 0)], none⟩])
 (AC.block 0
  (AC.loop
   (AC.seq (AC.reg [
    ⟨(some 12), .bin .lss, [.t 11, .t 10], none⟩])
   (AC.seq (AC.cond (.t 12)
    AC.skip
    (AC.exit 0))
   (AC.seq (AC.block 1
    (AC.seq (AC.reg [
     ⟨(some 13), .idxp 3, [.t 9, .t 11], none⟩,
     ⟨(some 14), .load true 3, [.t 13], none⟩,
     ⟨(some 4), .alloc [.bool false, .int .u8 0, .int .u16 0], [], none⟩,
     ⟨none, .store 3, [.t 4, .t 14], none⟩])
    (AC.seq (AC.reg [
     ⟨(some 15), .fld 0, [.t 4], none⟩,
     ⟨(some 16), .load false 1, [.t 15], none⟩,
     ⟨(some 17), .mov, [.t 16], none⟩,
     ⟨(some 18), .mov, [.t 2], (some (17, true))⟩,
     ⟨(some 19), .len 1 0, [.t 18], (some (17, true))⟩,
     ⟨(some 20), .fld 3, [.t 1], (some (17, true))⟩,
     ⟨(some 21), .load false 1, [.t 20], (some (17, true))⟩,
     ⟨(some 22), .len 1 0, [.t 21], (some (17, true))⟩,
     ⟨(some 23), .bin .lss, [.t 19, .t 22], (some (17, true))⟩,
     ⟨(some 24), .pick, [.t 17, .t 23, .c (.bool false)], none⟩])
    (AC.cond (.t 24)
     (AC.par
      (PT.step 0 ⟨(some 25), .mov, [.t 2], none⟩
      (PT.step 1 ⟨(some 26), .fld 1, [.t 4], none⟩
      (PT.step 3 ⟨(some 28), .fld 3, [.t 1], none⟩
      (PT.step 5 ⟨(some 30), .mov, [.t 2], none⟩
      (PT.step 4 ⟨(some 29), .load false 1, [.t 28], none⟩
      (PT.step 6 ⟨(some 31), .len 1 0, [.t 30], none⟩
      (PT.step 7 ⟨(some 32), .idxp 1, [.t 29, .t 31], none⟩
      (PT.step 8 ⟨(some 33), .load false 1, [.t 32], none⟩
      (PT.alt
       (PT.step 2 ⟨(some 27), .load false 1, [.t 26], none⟩
       (PT.step 9 ⟨(some 34), .call 39, [.t 33], none⟩
       (PT.step 10 ⟨(some 35), .build [.int .u8 0, .nilsl] [(0, 1), (1, 1)], [.t 27, .t 34], none⟩
       (PT.step 11 ⟨(some 36), .bslice 2 1 (.agg [.int .u8 0, .nilsl]) [0], [.t 35], none⟩
       (PT.step 12 ⟨(some 37), .append 2 32, [.t 25, .t 36], none⟩
       (PT.step 13 ⟨(some 2), .mov, [.t 37], none⟩
       PT.done))))))
       (PT.step 9 ⟨(some 34), .call 39, [.t 33], none⟩
       (PT.step 2 ⟨(some 27), .load false 1, [.t 26], none⟩
       (PT.step 10 ⟨(some 35), .build [.int .u8 0, .nilsl] [(0, 1), (1, 1)], [.t 27, .t 34], none⟩
       (PT.step 11 ⟨(some 36), .bslice 2 1 (.agg [.int .u8 0, .nilsl]) [0], [.t 35], none⟩
       (PT.step 12 ⟨(some 37), .append 2 32, [.t 25, .t 36], none⟩
       (PT.step 13 ⟨(some 2), .mov, [.t 37], none⟩
       PT.done))))))))))))))))
     AC.skip))))
   (AC.reg [
    ⟨(some 38), .bin .add, [.t 11, .c (.int .i64 1)], none⟩,
    ⟨(some 11), .mov, [.t 38], none⟩])))))))
 (AC.seq (AC.reg [
  ⟨(some 39), .mov, [.t 2], none⟩,
  ⟨(some 2), .mov, [.t 39], none⟩])
 AC.ret))))
def r17 : AC × List RT × Nat := (c17, [.tmp 2], 40)
theorem ok17 : ∃ fn ex, Tryz.prog.funcs[17]? = some fn ∧ compF Tryz.prog fn ex = some r17 := ⟨Tryz.f17, ⟨false, true⟩, Tryz.func17, by kernel_rfl⟩
/- (umpire/txn.Txn).Alive -/
def c18 : AC := (AC.seq (AC.reg [
  ⟨(some 1), .box, [.t 0], none⟩,
  ⟨(some 2), .mov, [.c (.bool false)], none⟩])
 (AC.seq (AC.reg [
  ⟨(some 3), .fld 4, [.t 1], none⟩,
  ⟨(some 4), .load false 1, [.t 3], none⟩,
  ⟨(some 5), .bin .neq, [.t 4, .c (.int .u8 2)], none⟩,
  ⟨(some 2), .mov, [.t 5], none⟩])
 AC.ret))
def r18 : AC × List RT × Nat := (c18, [.tmp 2], 6)
theorem ok18 : ∃ fn ex, Tryz.prog.funcs[18]? = some fn ∧ compF Tryz.prog fn ex = some r18 := ⟨Tryz.f18, ⟨false, false⟩, Tryz.func18, by kernel_rfl⟩
/- (umpire/txn.Txn).Appends -/
def c19 : AC := (AC.seq (AC.reg [
  ⟨(some 2), .box, [.t 0], none⟩,
  ⟨(some 4), .mov, [.c (.nilsl)], none⟩])
 (AC.seq (AC.seq (AC.reg [
  ⟨(some 7), .fld 2, [.t 2], none⟩,
  ⟨(some 8), .load false 1, [.t 7], none⟩,
  ⟨(some 9), .len 1 0, [.t 8], none⟩,
  ⟨(some 10), .mov, [.c (.int .i64 0)], none⟩])
 (AC.block 0
  (AC.loop
   (AC.seq (AC.reg [
    ⟨(some 11), .bin .lss, [.t 10, .t 9], none⟩])
   (AC.seq (AC.cond (.t 11)
    AC.skip
    (AC.exit 0))
   (AC.seq (AC.block 1
    (AC.seq (AC.reg [
     ⟨(some 12), .idxp 3, [.t 8, .t 10], none⟩,
     ⟨(some 13), .load true 3, [.t 12], none⟩,
     ⟨(some 6), .alloc [.bool false, .int .u8 0, .int .u16 0], [], none⟩,
     ⟨none, .store 3, [.t 6, .t 13], none⟩])
    (AC.seq (AC.reg [
     ⟨(some 14), .fld 0, [.t 6], none⟩,
     ⟨(some 15), .load false 1, [.t 14], none⟩,
     ⟨(some 16), .un .not, [.t 15], none⟩,
     ⟨(some 17), .mov, [.t 16], none⟩,
     ⟨(some 18), .fld 1, [.t 6], (some (17, true))⟩,
     ⟨(some 19), .load false 1, [.t 18], (some (17, true))⟩,
     ⟨(some 20), .mov, [.t 1], (some (17, true))⟩,
     ⟨(some 21), .bin .eql, [.t 19, .t 20], (some (17, true))⟩,
     ⟨(some 22), .pick, [.t 17, .t 21, .c (.bool false)], none⟩])
    (AC.cond (.t 22)
     (AC.reg [
      ⟨(some 23), .mov, [.t 4], none⟩,
      ⟨(some 24), .fld 2, [.t 6], none⟩,
      ⟨(some 25), .load false 1, [.t 24], none⟩,
      ⟨(some 26), .bslice 1 1 (.int .u16 0) [0], [.t 25], none⟩,
      ⟨(some 27), .append 1 2, [.t 23, .t 26], none⟩,
      ⟨(some 4), .mov, [.t 27], none⟩])
     AC.skip))))
   (AC.reg [
    ⟨(some 28), .bin .add, [.t 10, .c (.int .i64 1)], none⟩,
    ⟨(some 10), .mov, [.t 28], none⟩])))))))
 (AC.seq (AC.reg [
  ⟨(some 29), .mov, [.t 4], none⟩,
  ⟨(some 4), .mov, [.t 29], none⟩])
 AC.ret)))
def r19 : AC × List RT × Nat := (c19, [.tmp 4], 30)
theorem ok19 : ∃ fn ex, Tryz.prog.funcs[19]? = some fn ∧ compF Tryz.prog fn ex = some r19 := ⟨Tryz.f19, ⟨false, false⟩, Tryz.func19, by kernel_rfl⟩
/- (*umpire/txn.Store).Count -/
def c20 : AC := (AC.seq (AC.reg [
  ⟨(some 3), .box, [.t 1], none⟩,
  ⟨(some 4), .alloc [.int .i64 0], [], none⟩])
 (AC.seq (AC.seq (AC.reg [
  ⟨(some 6), .mov, [.t 0], none⟩,
  ⟨(some 7), .call 12, [.t 6], none⟩])
 (AC.block 0
  (AC.rangef (.t 7) [8]
   (AC.reg [
    ⟨(some 5), .alloc [.int .u16 0, .int .u8 0, .nilsl, .nilsl, .int .u8 0], [], none⟩,
    ⟨none, .store 5, [.t 5, .t 8], none⟩])
   (AC.block 1
    (AC.seq (AC.reg [
     ⟨(some 9), .fld 4, [.t 5], none⟩,
     ⟨(some 10), .load false 1, [.t 9], none⟩,
     ⟨(some 11), .load false 1, [.t 3], none⟩,
     ⟨(some 12), .bin .eql, [.t 10, .t 11], none⟩])
    (AC.cond (.t 12)
     (AC.reg [
      ⟨(some 13), .load false 1, [.t 4], none⟩,
      ⟨(some 14), .bin .add, [.t 13, .c (.int .i64 1)], none⟩,
      ⟨none, .store 1, [.t 4, .t 14], none⟩])
     AC.skip))))))
 (AC.seq (AC.reg [
  ⟨(some 15), .load false 1, [.t 4], none⟩,
  ⟨none, .store 1, [.t 4, .t 15], none⟩])
 AC.ret)))
def r20 : AC × List RT × Nat := (c20, [.cell 4 false 1], 16)
theorem ok20 : ∃ fn ex, Tryz.prog.funcs[20]? = some fn ∧ compF Tryz.prog fn ex = some r20 := ⟨Tryz.f20, ⟨false, false⟩, Tryz.func20, by kernel_rfl⟩
/- (*umpire/txn.Store).Who -/
def c21 : AC := (AC.seq (AC.reg [
  ⟨(some 6), .alloc [.int .u16 0, .int .u8 0, .nilsl, .nilsl, .int .u8 0], [], none⟩,
  ⟨(some 7), .mov, [.c (.bool false)], none⟩])
 (AC.seq (AC.seq (AC.reg [
  ⟨(some 10), .mov, [.t 0], none⟩,
  ⟨(some 11), .call 30, [.t 10], none⟩,
  ⟨(some 12), .un .not, [.t 11], none⟩])
 (AC.cond (.t 12)
  (AC.seq (AC.reg [
   ⟨(some 13), .build [.int .u16 0, .int .u8 0, .nilsl, .nilsl, .int .u8 0] [], [], none⟩,
   ⟨none, .store 5, [.t 6, .t 13], none⟩,
   ⟨(some 7), .mov, [.c (.bool false)], none⟩])
  AC.ret)
  AC.skip))
 (AC.seq (AC.reg [
  ⟨(some 15), .mov, [.t 0], none⟩,
  ⟨(some 16), .nilck, [.t 15], none⟩,
  ⟨(some 17), .fld 1, [.t 16], none⟩,
  ⟨(some 18), .load false 1, [.t 17], none⟩,
  ⟨(some 19), .mov, [.t 1], none⟩,
  ⟨(some 20), .mov, [.t 2], none⟩,
  ⟨(some 21), .build [.int .u8 0, .int .u16 0] [(0, 1), (1, 1)], [.t 19, .t 20], none⟩,
  ⟨(some 22), .lookup (true, [.i .u8, .i .u16]) (.int .u16 0) true, [.t 18, .t 21], none⟩,
  ⟨(some 14), .mov, [.t 22], none⟩,
  ⟨(some 23), .ext 0, [.t 14], none⟩,
  ⟨(some 24), .ext 1, [.t 14], none⟩,
  ⟨(some 8), .mov, [.t 23], none⟩,
  ⟨(some 9), .mov, [.t 24], none⟩])
 (AC.seq (AC.seq (AC.reg [
  ⟨(some 25), .mov, [.t 9], none⟩,
  ⟨(some 26), .un .not, [.t 25], none⟩])
 (AC.cond (.t 26)
  (AC.seq (AC.reg [
   ⟨(some 27), .build [.int .u16 0, .int .u8 0, .nilsl, .nilsl, .int .u8 0] [], [], none⟩,
   ⟨none, .store 5, [.t 6, .t 27], none⟩,
   ⟨(some 7), .mov, [.c (.bool false)], none⟩])
  AC.ret)
  AC.skip))
 (AC.seq (AC.reg [
  ⟨(some 28), .mov, [.t 0], none⟩,
  ⟨(some 29), .mov, [.t 8], none⟩,
  ⟨(some 30), .call 16, [.t 28, .t 29], none⟩,
  ⟨(some 31), .ext 0, [.t 30], none⟩,
  ⟨(some 32), .ext 1, [.t 30], none⟩,
  ⟨none, .store 5, [.t 6, .t 31], none⟩,
  ⟨(some 7), .mov, [.t 32], none⟩])
 AC.ret)))))
def r21 : AC × List RT × Nat := (c21, [.cell 6 true 5, .tmp 7], 33)
theorem ok21 : ∃ fn ex, Tryz.prog.funcs[21]? = some fn ∧ compF Tryz.prog fn ex = some r21 := ⟨Tryz.f21, ⟨false, false⟩, Tryz.func21, by kernel_rfl⟩
/- umpire/umpirelaw25.add -/
def c22 : AC := (AC.seq (AC.reg [
  ⟨(some 4), .alloc [.bool false, .int .u8 0, .int .u16 0], [], none⟩])
 (AC.seq (AC.reg [
  ⟨(some 5), .mov, [.t 0], none⟩,
  ⟨(some 6), .mov, [.t 1], none⟩,
  ⟨(some 7), .build [.bool false, .int .u8 0, .int .u16 0] [(1, 1), (2, 1)], [.t 5, .t 6], none⟩,
  ⟨none, .store 3, [.t 4, .t 7], none⟩])
 AC.ret))
def r22 : AC × List RT × Nat := (c22, [.cell 4 true 3], 8)
theorem ok22 : ∃ fn ex, Tryz.prog.funcs[22]? = some fn ∧ compF Tryz.prog fn ex = some r22 := ⟨Tryz.f22, ⟨false, false⟩, Tryz.func22, by kernel_rfl⟩
/- umpire/umpirelaw25.read -/
def c23 : AC := (AC.seq (AC.reg [
  ⟨(some 2), .alloc [.bool false, .int .u8 0, .int .u16 0], [], none⟩])
 (AC.seq (AC.reg [
  ⟨(some 3), .mov, [.t 0], none⟩,
  ⟨(some 4), .build [.bool false, .int .u8 0, .int .u16 0] [(0, 1), (1, 1)], [.c (.bool true), .t 3], none⟩,
  ⟨none, .store 3, [.t 2, .t 4], none⟩])
 AC.ret))
def r23 : AC × List RT × Nat := (c23, [.cell 2 true 3], 5)
theorem ok23 : ∃ fn ex, Tryz.prog.funcs[23]? = some fn ∧ compF Tryz.prog fn ex = some r23 := ⟨Tryz.f23, ⟨false, false⟩, Tryz.func23, by kernel_rfl⟩
/- (*umpire/txn.Store).Copy -/
def c24 : AC := (AC.seq (AC.reg [
  ⟨(some 2), .mov, [.c (.nilptr)], none⟩])
 (AC.seq (AC.seq (AC.reg [
  ⟨(some 3), .mov, [.t 0], none⟩,
  ⟨(some 4), .call 30, [.t 3], none⟩,
  ⟨(some 5), .un .not, [.t 4], none⟩])
 (AC.cond (.t 5)
  (AC.seq (AC.reg [
   ⟨(some 2), .mov, [.c (.nilptr)], none⟩])
  AC.ret)
  AC.skip))
 (AC.seq (AC.par
  (PT.step 0 ⟨(some 6), .mov, [.t 0], none⟩
  (PT.step 1 ⟨(some 7), .nilck, [.t 6], none⟩
  (PT.step 2 ⟨(some 8), .fld 0, [.t 7], none⟩
  (PT.step 5 ⟨(some 11), .mov, [.t 0], none⟩
  (PT.step 6 ⟨(some 12), .nilck, [.t 11], none⟩
  (PT.step 7 ⟨(some 13), .fld 1, [.t 12], none⟩
  (PT.step 10 ⟨(some 16), .mov, [.t 0], none⟩
  (PT.step 11 ⟨(some 17), .nilck, [.t 16], none⟩
  (PT.step 12 ⟨(some 18), .fld 2, [.t 17], none⟩
  (PT.step 3 ⟨(some 9), .load false 1, [.t 8], none⟩
  (PT.step 4 ⟨(some 10), .pcall 40, [.t 9], none⟩
  (PT.step 8 ⟨(some 14), .load false 1, [.t 13], none⟩
  (PT.step 9 ⟨(some 15), .pcall 41, [.t 14], none⟩
  (PT.step 13 ⟨(some 19), .load false 1, [.t 18], none⟩
  (PT.step 14 ⟨(some 20), .build [.nilmap, .nilmap, .int .i64 0] [(0, 1), (1, 1), (2, 1)], [.t 10, .t 15, .t 19], none⟩
  (PT.step 15 ⟨(some 21), .box, [.t 20], none⟩
  (PT.step 16 ⟨(some 2), .mov, [.t 21], none⟩
  PT.done))))))))))))))))))
 AC.ret)))
def r24 : AC × List RT × Nat := (c24, [.tmp 2], 22)
theorem ok24 : ∃ fn ex, Tryz.prog.funcs[24]? = some fn ∧ compF Tryz.prog fn ex = some r24 := ⟨Tryz.f24, ⟨false, false⟩, Tryz.func24, by kernel_rfl⟩
/- umpire/umpirelaw25.who -/
def c25 : AC := (AC.seq (AC.reg [
  ⟨(some 6), .mov, [.c (.int .i64 0)], none⟩])
 (AC.seq (AC.reg [
  ⟨(some 10), .mov, [.t 0], none⟩,
  ⟨(some 11), .mov, [.t 1], none⟩,
  ⟨(some 12), .mov, [.t 2], none⟩,
  ⟨(some 13), .call 21, [.t 10, .t 11, .t 12], none⟩,
  ⟨(some 9), .mov, [.t 13], none⟩,
  ⟨(some 14), .ext 0, [.t 9], none⟩,
  ⟨(some 15), .ext 1, [.t 9], none⟩,
  ⟨(some 7), .alloc [.int .u16 0, .int .u8 0, .nilsl, .nilsl, .int .u8 0], [], none⟩,
  ⟨none, .store 5, [.t 7, .t 14], none⟩,
  ⟨(some 8), .mov, [.t 15], none⟩])
 (AC.seq (AC.seq (AC.reg [
  ⟨(some 16), .mov, [.t 8], none⟩,
  ⟨(some 17), .un .not, [.t 16], none⟩])
 (AC.cond (.t 17)
  (AC.seq (AC.reg [
   ⟨(some 6), .mov, [.c (.int .i64 (-1))], none⟩])
  AC.ret)
  AC.skip))
 (AC.seq (AC.reg [
  ⟨(some 18), .fld 0, [.t 7], none⟩,
  ⟨(some 19), .load false 1, [.t 18], none⟩,
  ⟨(some 20), .conv .i64, [.t 19], none⟩,
  ⟨(some 6), .mov, [.t 20], none⟩])
 AC.ret))))
def r25 : AC × List RT × Nat := (c25, [.tmp 6], 21)
theorem ok25 : ∃ fn ex, Tryz.prog.funcs[25]? = some fn ∧ compF Tryz.prog fn ex = some r25 := ⟨Tryz.f25, ⟨false, false⟩, Tryz.func25, by kernel_rfl⟩
/- (*umpire/txn.Store).open -/
def c26 : AC := (AC.seq (AC.reg [
  ⟨(some 4), .alloc [.int .u16 0, .int .u8 0, .nilsl, .nilsl, .int .u8 0], [], none⟩,
  ⟨(some 5), .mov, [.c (.int .i64 0)], none⟩])
 (AC.seq (AC.seq (AC.reg [
  ⟨(some 8), .mov, [.t 0], none⟩,
  ⟨(some 9), .call 30, [.t 8], none⟩,
  ⟨(some 10), .un .not, [.t 9], none⟩])
 (AC.cond (.t 10)
  (AC.seq (AC.reg [
   ⟨(some 11), .build [.int .u16 0, .int .u8 0, .nilsl, .nilsl, .int .u8 0] [], [], none⟩,
   ⟨none, .store 5, [.t 4, .t 11], none⟩,
   ⟨(some 5), .mov, [.c (.int .i64 1)], none⟩])
  AC.ret)
  AC.skip))
 (AC.seq (AC.reg [
  ⟨(some 13), .mov, [.t 0], none⟩,
  ⟨(some 14), .nilck, [.t 13], none⟩,
  ⟨(some 15), .fld 0, [.t 14], none⟩,
  ⟨(some 16), .load false 1, [.t 15], none⟩,
  ⟨(some 17), .mov, [.t 1], none⟩,
  ⟨(some 18), .lookup (false, [.i .u16]) (.agg [.int .u16 0, .int .u8 0, .nilsl, .nilsl, .int .u8 0]) true, [.t 16, .t 17], none⟩,
  ⟨(some 12), .mov, [.t 18], none⟩,
  ⟨(some 19), .ext 0, [.t 12], none⟩,
  ⟨(some 20), .ext 1, [.t 12], none⟩,
  ⟨(some 6), .alloc [.int .u16 0, .int .u8 0, .nilsl, .nilsl, .int .u8 0], [], none⟩,
  ⟨none, .store 5, [.t 6, .t 19], none⟩,
  ⟨(some 7), .mov, [.t 20], none⟩])
 (AC.seq (AC.seq (AC.reg [
  ⟨(some 21), .mov, [.t 7], none⟩,
  ⟨(some 22), .un .not, [.t 21], none⟩,
  ⟨(some 23), .mov, [.t 22], none⟩,
  ⟨(some 24), .fld 4, [.t 6], (some (23, false))⟩,
  ⟨(some 25), .load false 1, [.t 24], (some (23, false))⟩,
  ⟨(some 26), .bin .neq, [.t 25, .c (.int .u8 0)], (some (23, false))⟩,
  ⟨(some 27), .pick, [.t 23, .c (.bool true), .t 26], none⟩])
 (AC.cond (.t 27)
  (AC.seq (AC.reg [
   ⟨(some 28), .build [.int .u16 0, .int .u8 0, .nilsl, .nilsl, .int .u8 0] [], [], none⟩,
   ⟨none, .store 5, [.t 4, .t 28], none⟩,
   ⟨(some 5), .mov, [.c (.int .i64 7)], none⟩])
  AC.ret)
  AC.skip))
 (AC.seq (AC.reg [
  ⟨(some 29), .load true 5, [.t 6], none⟩,
  ⟨none, .store 5, [.t 4, .t 29], none⟩,
  ⟨(some 5), .mov, [.c (.int .i64 0)], none⟩])
 AC.ret)))))
def r26 : AC × List RT × Nat := (c26, [.cell 4 true 5, .tmp 5], 30)
theorem ok26 : ∃ fn ex, Tryz.prog.funcs[26]? = some fn ∧ compF Tryz.prog fn ex = some r26 := ⟨Tryz.f26, ⟨false, false⟩, Tryz.func26, by kernel_rfl⟩
/- umpire/event.Check -/
def c27 : AC := (AC.seq (AC.reg [
  ⟨(some 1), .box, [.t 0], none⟩,
  ⟨(some 2), .mov, [.c (.int .i64 0)], none⟩])
 (AC.seq (AC.reg [
  ⟨(some 7), .fld 0, [.t 1], none⟩,
  ⟨(some 8), .load false 1, [.t 7], none⟩,
  ⟨(some 9), .call 42, [.t 8], none⟩,
  ⟨(some 6), .mov, [.t 9], none⟩,
  ⟨(some 10), .ext 0, [.t 6], none⟩,
  ⟨(some 11), .ext 1, [.t 6], none⟩,
  ⟨(some 3), .alloc [.nilfn, .nilfn, .nilfn, .nilfn], [], none⟩,
  ⟨none, .store 4, [.t 3, .t 10], none⟩,
  ⟨(some 4), .mov, [.t 11], none⟩])
 (AC.seq (AC.seq (AC.reg [
  ⟨(some 12), .mov, [.t 4], none⟩,
  ⟨(some 13), .un .not, [.t 12], none⟩,
  ⟨(some 14), .mov, [.t 13], none⟩,
  ⟨(some 15), .fld 1, [.t 3], (some (14, false))⟩,
  ⟨(some 16), .load false 1, [.t 15], (some (14, false))⟩,
  ⟨(some 17), .load true 19, [.t 1], (some (14, false))⟩,
  ⟨(some 18), .callv, [.t 16, .t 17], (some (14, false))⟩,
  ⟨(some 19), .un .not, [.t 18], (some (14, false))⟩,
  ⟨(some 20), .pick, [.t 14, .c (.bool true), .t 19], none⟩,
  ⟨(some 21), .mov, [.t 20], none⟩,
  ⟨(some 22), .fld 1, [.t 1], (some (21, false))⟩,
  ⟨(some 23), .load false 1, [.t 22], (some (21, false))⟩,
  ⟨(some 24), .bin .geq, [.t 23, .c (.int .u8 16)], (some (21, false))⟩,
  ⟨(some 25), .pick, [.t 21, .c (.bool true), .t 24], none⟩])
 (AC.cond (.t 25)
  (AC.seq (AC.reg [
   ⟨(some 2), .mov, [.c (.int .i64 4)], none⟩])
  AC.ret)
  AC.skip))
 (AC.seq (AC.reg [
  ⟨(some 26), .fld 0, [.t 3], none⟩,
  ⟨(some 27), .load false 1, [.t 26], none⟩,
  ⟨(some 28), .load true 19, [.t 1], none⟩,
  ⟨(some 29), .callv, [.t 27, .t 28], none⟩,
  ⟨(some 5), .alloc [.int .u8 0, .int .u8 0, .int .u16 0, .int .u8 0, .int .u8 0, .int .u8 0, .int .u16 0, .int .u16 0, .int .u8 0, .int .u16 0, .nilsl, .nilsl, .int .u8 0, .int .i64 0, .int .i64 0, .int .i64 0, .bool false, .bool false, .bool false], [], none⟩,
  ⟨none, .store 19, [.t 5, .t 29], none⟩])
 (AC.seq (AC.reg [
  ⟨(some 30), .fld 0, [.t 1], none⟩,
  ⟨(some 31), .load false 1, [.t 30], none⟩,
  ⟨(some 32), .fld 0, [.t 5], none⟩,
  ⟨none, .store 1, [.t 32, .t 31], none⟩])
 (AC.seq (AC.seq (AC.reg [
  ⟨(some 33), .fld 0, [.t 1], none⟩,
  ⟨(some 34), .load false 1, [.t 33], none⟩,
  ⟨(some 35), .bin .neq, [.t 34, .c (.int .u8 1)], none⟩])
 (AC.cond (.t 35)
  (AC.par
   (PT.step 0 ⟨(some 36), .fld 1, [.t 1], none⟩
   (PT.step 2 ⟨(some 38), .fld 2, [.t 1], none⟩
   (PT.step 1 ⟨(some 37), .load false 1, [.t 36], none⟩
   (PT.step 4 ⟨(some 40), .fld 1, [.t 5], none⟩
   (PT.alt
    (PT.step 3 ⟨(some 39), .load false 1, [.t 38], none⟩
    (PT.step 5 ⟨none, .store 1, [.t 40, .t 37], none⟩
    (PT.step 6 ⟨(some 41), .fld 2, [.t 5], none⟩
    (PT.step 7 ⟨none, .store 1, [.t 41, .t 39], none⟩
    PT.done))))
    (PT.step 5 ⟨none, .store 1, [.t 40, .t 37], none⟩
    (PT.step 3 ⟨(some 39), .load false 1, [.t 38], none⟩
    (PT.step 6 ⟨(some 41), .fld 2, [.t 5], none⟩
    (PT.step 7 ⟨none, .store 1, [.t 41, .t 39], none⟩
    PT.done))))))))))
  AC.skip))
 (AC.seq (AC.seq (AC.reg [
  ⟨(some 42), .load true 19, [.t 1], none⟩,
  ⟨(some 43), .load true 19, [.t 5], none⟩,
  ⟨(some 44), .call 43, [.t 42, .t 43], none⟩,
  ⟨(some 45), .un .not, [.t 44], none⟩])
 (AC.cond (.t 45)
  (AC.seq (AC.reg [
   ⟨(some 2), .mov, [.c (.int .i64 4)], none⟩])
  AC.ret)
  AC.skip))
 (AC.seq (AC.reg [
  ⟨(some 2), .mov, [.c (.int .i64 0)], none⟩])
 AC.ret))))))))
def r27 : AC × List RT × Nat := (c27, [.tmp 2], 46)
theorem ok27 : ∃ fn ex, Tryz.prog.funcs[27]? = some fn ∧ compF Tryz.prog fn ex = some r27 := ⟨Tryz.f27, ⟨false, false⟩, Tryz.func27, by kernel_rfl⟩
/- umpire/txn.lists -/
def c28 : AC := (AC.seq (AC.reg [
  ⟨(some 2), .mov, [.c (.nilsl)], none⟩])
 (AC.seq (AC.seq (AC.reg [
  ⟨(some 5), .mov, [.t 0], none⟩,
  ⟨(some 6), .len 1 0, [.t 5], none⟩,
  ⟨(some 7), .mov, [.c (.int .i64 0)], none⟩])
 (AC.block 0
  (AC.loop
   (AC.seq (AC.reg [
    ⟨(some 8), .bin .lss, [.t 7, .t 6], none⟩])
   (AC.seq (AC.cond (.t 8)
    AC.skip
    (AC.exit 0))
   (AC.seq (AC.block 1
    (AC.seq (AC.reg [
     ⟨(some 9), .idxp 1, [.t 5, .t 7], none⟩,
     ⟨(some 10), .load false 1, [.t 9], none⟩,
     ⟨(some 4), .mov, [.t 10], none⟩])
    (AC.reg [
     ⟨(some 11), .mov, [.t 2], none⟩,
     ⟨(some 12), .mov, [.t 4], none⟩,
     ⟨(some 13), .call 39, [.t 12], none⟩,
     ⟨(some 14), .bslice 1 1 (.nilsl) [0], [.t 13], none⟩,
     ⟨(some 15), .append 1 24, [.t 11, .t 14], none⟩,
     ⟨(some 2), .mov, [.t 15], none⟩])))
   (AC.reg [
    ⟨(some 16), .bin .add, [.t 7, .c (.int .i64 1)], none⟩,
    ⟨(some 7), .mov, [.t 16], none⟩])))))))
 (AC.seq (AC.reg [
  ⟨(some 17), .mov, [.t 2], none⟩,
  ⟨(some 2), .mov, [.t 17], none⟩])
 AC.ret)))
def r28 : AC × List RT × Nat := (c28, [.tmp 2], 18)
theorem ok28 : ∃ fn ex, Tryz.prog.funcs[28]? = some fn ∧ compF Tryz.prog fn ex = some r28 := ⟨Tryz.f28, ⟨false, false⟩, Tryz.func28, by kernel_rfl⟩
/- (*umpire/txn.Store).end -/
def c29 : AC := (AC.seq (AC.reg [
  ⟨(some 6), .mov, [.c (.int .i64 0)], none⟩])
 (AC.seq (AC.reg [
  ⟨(some 10), .mov, [.t 0], none⟩,
  ⟨(some 11), .mov, [.t 1], none⟩,
  ⟨(some 12), .call 26, [.t 10, .t 11], none⟩,
  ⟨(some 9), .mov, [.t 12], none⟩,
  ⟨(some 13), .ext 0, [.t 9], none⟩,
  ⟨(some 14), .ext 1, [.t 9], none⟩,
  ⟨(some 7), .alloc [.int .u16 0, .int .u8 0, .nilsl, .nilsl, .int .u8 0], [], none⟩,
  ⟨none, .store 5, [.t 7, .t 13], none⟩,
  ⟨(some 8), .mov, [.t 14], none⟩])
 (AC.seq (AC.seq (AC.reg [
  ⟨(some 15), .mov, [.t 8], none⟩,
  ⟨(some 16), .bin .eql, [.t 15, .c (.int .i64 0)], none⟩])
 (AC.cond (.t 16)
  (AC.seq (AC.reg [
   ⟨(some 17), .mov, [.t 2], none⟩,
   ⟨(some 18), .fld 4, [.t 7], none⟩,
   ⟨none, .store 1, [.t 18, .t 17], none⟩])
  (AC.par
   (PT.step 0 ⟨(some 19), .mov, [.t 0], none⟩
   (PT.step 1 ⟨(some 20), .nilck, [.t 19], none⟩
   (PT.step 2 ⟨(some 21), .fld 0, [.t 20], none⟩
   (PT.step 4 ⟨(some 23), .mov, [.t 1], none⟩
   (PT.step 3 ⟨(some 22), .load false 1, [.t 21], none⟩
   (PT.step 5 ⟨(some 24), .load true 5, [.t 7], none⟩
   (PT.step 6 ⟨none, .mupd (false, [.i .u16]), [.t 22, .t 23, .t 24], none⟩
   PT.done)))))))))
  AC.skip))
 (AC.seq (AC.reg [
  ⟨(some 25), .mov, [.t 8], none⟩,
  ⟨(some 6), .mov, [.t 25], none⟩])
 AC.ret))))
def r29 : AC × List RT × Nat := (c29, [.tmp 6], 26)
theorem ok29 : ∃ fn ex, Tryz.prog.funcs[29]? = some fn ∧ compF Tryz.prog fn ex = some r29 := ⟨Tryz.f29, ⟨false, false⟩, Tryz.func29, by kernel_rfl⟩
/- (*umpire/txn.Store).is -/
def c30 : AC := (AC.seq (AC.reg [
  ⟨(some 2), .mov, [.c (.bool false)], none⟩])
 (AC.seq (AC.reg [
  ⟨(some 3), .mov, [.t 0], none⟩,
  ⟨(some 4), .eqn true 0, [.t 3, .c (.nilptr)], none⟩,
  ⟨(some 5), .mov, [.t 4], none⟩,
  ⟨(some 6), .mov, [.t 0], (some (5, true))⟩,
  ⟨(some 7), .nilck, [.t 6], (some (5, true))⟩,
  ⟨(some 8), .fld 0, [.t 7], (some (5, true))⟩,
  ⟨(some 9), .load false 1, [.t 8], (some (5, true))⟩,
  ⟨(some 10), .eqn true 2, [.t 9, .c (.nilmap)], (some (5, true))⟩,
  ⟨(some 11), .pick, [.t 5, .t 10, .c (.bool false)], none⟩,
  ⟨(some 2), .mov, [.t 11], none⟩])
 AC.ret))
def r30 : AC × List RT × Nat := (c30, [.tmp 2], 12)
theorem ok30 : ∃ fn ex, Tryz.prog.funcs[30]? = some fn ∧ compF Tryz.prog fn ex = some r30 := ⟨Tryz.f30, ⟨false, false⟩, Tryz.func30, by kernel_rfl⟩
/- maps.Copy[map[umpire/txn.element]uint16,map[umpire/txn.element]uint16,umpire/txn.element,uint16] -/
def c31 : AC := (AC.seq (AC.reg [
  ⟨(some 6), .mov, [.t 1], none⟩,
  ⟨(some 7), .rangem, [.t 6], none⟩])
 (AC.block 0
  (AC.loop
   (AC.seq (AC.reg [
    ⟨(some 8), .nextm, [.t 7], none⟩,
    ⟨(some 9), .ext 0, [.t 8], none⟩])
   (AC.seq (AC.cond (.t 9)
    AC.skip
    (AC.exit 0))
   (AC.block 1
    (AC.seq (AC.reg [
     ⟨(some 10), .entry, [.t 7], none⟩,
     ⟨(some 11), .ext 0, [.t 10], none⟩,
     ⟨(some 12), .ext 1, [.t 10], none⟩,
     ⟨(some 4), .alloc [.int .u8 0, .int .u16 0], [], none⟩,
     ⟨none, .store 2, [.t 4, .t 11], none⟩,
     ⟨(some 5), .mov, [.t 12], none⟩])
    (AC.reg [
     ⟨(some 13), .mov, [.t 0], none⟩,
     ⟨(some 14), .load true 2, [.t 4], none⟩,
     ⟨(some 15), .mov, [.t 5], none⟩,
     ⟨none, .mupd (true, [.i .u8, .i .u16]), [.t 13, .t 14, .t 15], none⟩]))))))))
def r31 : AC × List RT × Nat := (c31, [], 16)
theorem ok31 : ∃ fn ex, Tryz.prog.funcs[31]? = some fn ∧ compF Tryz.prog fn ex = some r31 := ⟨Tryz.f31, ⟨false, false⟩, Tryz.func31, by kernel_rfl⟩
/- slices.Clone[[]umpire/api.Micro,umpire/api.Micro] -/
def c32 : AC := (AC.seq (AC.reg [
  ⟨(some 2), .mov, [.c (.nilsl)], none⟩])
 (AC.seq (AC.seq (AC.reg [
  ⟨(some 3), .mov, [.t 0], none⟩,
  ⟨(some 4), .eqn false 1, [.t 3, .c (.nilsl)], none⟩])
 (AC.cond (.t 4)
  (AC.seq (AC.reg [
   ⟨(some 2), .mov, [.c (.nilsl)], none⟩])
  AC.ret)
  AC.skip))
 (AC.seq (AC.reg [
  ⟨(some 5), .bslice 3 0 (.agg [.bool false, .int .u8 0, .int .u16 0]) [], [], none⟩,
  ⟨(some 6), .mov, [.t 0], none⟩,
  ⟨(some 7), .append 3 4, [.t 5, .t 6], none⟩,
  ⟨(some 2), .mov, [.t 7], none⟩])
 AC.ret)))
def r32 : AC × List RT × Nat := (c32, [.tmp 2], 8)
theorem ok32 : ∃ fn ex, Tryz.prog.funcs[32]? = some fn ∧ compF Tryz.prog fn ex = some r32 := ⟨Tryz.f32, ⟨false, false⟩, Tryz.func32, by kernel_rfl⟩
/- (*umpire/txn.Store).All$1 -/
def c33 : AC := (AC.seq (AC.seq (AC.reg [
  ⟨(some 5), .load false 1, [.t 1], none⟩,
  ⟨(some 6), .call 30, [.t 5], none⟩,
  ⟨(some 7), .un .not, [.t 6], none⟩])
 (AC.cond (.t 7)
  AC.ret
  AC.skip))
 (AC.seq (AC.reg [
  ⟨(some 8), .load false 1, [.t 1], none⟩,
  ⟨(some 9), .nilck, [.t 8], none⟩,
  ⟨(some 10), .fld 0, [.t 9], none⟩,
  ⟨(some 11), .load false 1, [.t 10], none⟩,
  ⟨(some 12), .call 35, [.t 11], none⟩,
  ⟨(some 13), .call 34, [.t 12], none⟩,
  ⟨(some 14), .len 1 0, [.t 13], none⟩,
  ⟨(some 15), .mov, [.c (.int .i64 0)], none⟩])
 (AC.block 0
  (AC.loop
   (AC.seq (AC.reg [
    ⟨(some 16), .bin .lss, [.t 15, .t 14], none⟩])
   (AC.seq (AC.cond (.t 16)
    AC.skip
    (AC.exit 0))
   (AC.seq (AC.block 1
    (AC.seq (AC.reg [
     ⟨(some 17), .idxp 1, [.t 13, .t 15], none⟩,
     ⟨(some 18), .load false 1, [.t 17], none⟩,
     ⟨(some 4), .mov, [.t 18], none⟩])
    (AC.seq (AC.reg [
     ⟨(some 19), .mov, [.t 0], none⟩,
     ⟨(some 20), .load false 1, [.t 1], none⟩,
     ⟨(some 21), .nilck, [.t 20], none⟩,
     ⟨(some 22), .fld 0, [.t 21], none⟩,
     ⟨(some 23), .load false 1, [.t 22], none⟩,
     ⟨(some 24), .mov, [.t 4], none⟩,
     ⟨(some 25), .lookup (false, [.i .u16]) (.agg [.int .u16 0, .int .u8 0, .nilsl, .nilsl, .int .u8 0]) false, [.t 23, .t 24], none⟩,
     ⟨(some 26), .call 36, [.t 25], none⟩,
     ⟨(some 27), .callv, [.t 19, .t 26], none⟩,
     ⟨(some 28), .un .not, [.t 27], none⟩])
    (AC.cond (.t 28)
     AC.ret
     AC.skip))))
   (AC.reg [
    ⟨(some 29), .bin .add, [.t 15, .c (.int .i64 1)], none⟩,
    ⟨(some 15), .mov, [.t 29], none⟩]))))))))
def r33 : AC × List RT × Nat := (c33, [], 30)
theorem ok33 : ∃ fn ex, Tryz.prog.funcs[33]? = some fn ∧ compF Tryz.prog fn ex = some r33 := ⟨Tryz.f33, ⟨false, false⟩, Tryz.func33, by kernel_rfl⟩
/- slices.Sorted[uint16] -/
def c34 : AC := (AC.seq (AC.reg [
  ⟨(some 2), .mov, [.c (.nilsl)], none⟩])
 (AC.seq (AC.reg [
  ⟨(some 4), .mov, [.t 0], none⟩,
  ⟨(some 5), .call 44, [.t 4], none⟩,
  ⟨(some 3), .mov, [.t 5], none⟩])
 (AC.seq (AC.reg [
  ⟨(some 6), .mov, [.t 3], none⟩,
  ⟨(some 7), .call 45, [.t 6], none⟩])
 (AC.seq (AC.reg [
  ⟨(some 8), .mov, [.t 3], none⟩,
  ⟨(some 2), .mov, [.t 8], none⟩])
 AC.ret))))
def r34 : AC × List RT × Nat := (c34, [.tmp 2], 9)
theorem ok34 : ∃ fn ex, Tryz.prog.funcs[34]? = some fn ∧ compF Tryz.prog fn ex = some r34 := ⟨Tryz.f34, ⟨false, false⟩, Tryz.func34, by kernel_rfl⟩
/- maps.Keys[map[uint16]umpire/txn.Txn,uint16,umpire/txn.Txn] -/
def c35 : AC := (AC.seq (AC.reg [
  ⟨(some 1), .box, [.t 0], none⟩,
  ⟨(some 2), .mov, [.c (.nilfn)], none⟩])
 (AC.seq (AC.reg [
  ⟨(some 3), .mkfn (.func 46) 0, [.t 1], none⟩,
  ⟨(some 2), .mov, [.t 3], none⟩])
 AC.ret))
def r35 : AC × List RT × Nat := (c35, [.tmp 2], 4)
theorem ok35 : ∃ fn ex, Tryz.prog.funcs[35]? = some fn ∧ compF Tryz.prog fn ex = some r35 := ⟨Tryz.f35, ⟨false, false⟩, Tryz.func35, by kernel_rfl⟩
/- (umpire/txn.Txn).own -/
def c36 : AC := (AC.seq (AC.reg [
  ⟨(some 1), .box, [.t 0], none⟩,
  ⟨(some 2), .alloc [.int .u16 0, .int .u8 0, .nilsl, .nilsl, .int .u8 0], [], none⟩])
 (AC.seq (AC.par
  (PT.step 0 ⟨(some 3), .fld 2, [.t 1], none⟩
  (PT.step 3 ⟨(some 6), .fld 3, [.t 1], none⟩
  (PT.step 1 ⟨(some 4), .load false 1, [.t 3], none⟩
  (PT.alt
   (PT.step 2 ⟨(some 5), .call 32, [.t 4], none⟩
   (PT.step 4 ⟨(some 7), .load false 1, [.t 6], none⟩
   (PT.step 6 ⟨(some 9), .fld 2, [.t 1], none⟩
   (PT.step 5 ⟨(some 8), .call 28, [.t 7], none⟩
   (PT.step 7 ⟨none, .store 1, [.t 9, .t 5], none⟩
   (PT.step 8 ⟨(some 10), .fld 3, [.t 1], none⟩
   (PT.step 9 ⟨none, .store 1, [.t 10, .t 8], none⟩
   PT.done)))))))
   (PT.step 4 ⟨(some 7), .load false 1, [.t 6], none⟩
   (PT.step 2 ⟨(some 5), .call 32, [.t 4], none⟩
   (PT.step 6 ⟨(some 9), .fld 2, [.t 1], none⟩
   (PT.step 5 ⟨(some 8), .call 28, [.t 7], none⟩
   (PT.step 7 ⟨none, .store 1, [.t 9, .t 5], none⟩
   (PT.step 8 ⟨(some 10), .fld 3, [.t 1], none⟩
   (PT.step 9 ⟨none, .store 1, [.t 10, .t 8], none⟩
   PT.done))))))))))))
 (AC.seq (AC.reg [
  ⟨(some 11), .load true 5, [.t 1], none⟩,
  ⟨none, .store 5, [.t 2, .t 11], none⟩])
 AC.ret)))
def r36 : AC × List RT × Nat := (c36, [.cell 2 true 5], 12)
theorem ok36 : ∃ fn ex, Tryz.prog.funcs[36]? = some fn ∧ compF Tryz.prog fn ex = some r36 := ⟨Tryz.f36, ⟨false, true⟩, Tryz.func36, by kernel_rfl⟩
/- slices.Clone[[]uint16,uint16] -/
def c39 : AC := (AC.seq (AC.reg [
  ⟨(some 2), .mov, [.c (.nilsl)], none⟩])
 (AC.seq (AC.seq (AC.reg [
  ⟨(some 3), .mov, [.t 0], none⟩,
  ⟨(some 4), .eqn false 1, [.t 3, .c (.nilsl)], none⟩])
 (AC.cond (.t 4)
  (AC.seq (AC.reg [
   ⟨(some 2), .mov, [.c (.nilsl)], none⟩])
  AC.ret)
  AC.skip))
 (AC.seq (AC.reg [
  ⟨(some 5), .bslice 1 0 (.int .u16 0) [], [], none⟩,
  ⟨(some 6), .mov, [.t 0], none⟩,
  ⟨(some 7), .appendx 1 2 [.int .u16 0], [.t 5, .t 6], none⟩,
  ⟨(some 2), .mov, [.t 7], none⟩])
 AC.ret)))
def r39 : AC × List RT × Nat := (c39, [.tmp 2], 8)
theorem ok39 : ∃ fn ex, Tryz.prog.funcs[39]? = some fn ∧ compF Tryz.prog fn ex = some r39 := ⟨Tryz.f39, ⟨true, false⟩, Tryz.func39, by kernel_rfl⟩
/- umpire/event.of -/
def c42 : AC := (AC.seq (AC.reg [
  ⟨(some 2), .alloc [.nilfn, .nilfn, .nilfn, .nilfn], [], none⟩,
  ⟨(some 3), .mov, [.c (.bool false)], none⟩])
 (AC.seq (AC.seq (AC.reg [
  ⟨(some 4), .mov, [.t 0], none⟩,
  ⟨(some 5), .bin .lss, [.t 4, .c (.int .u8 1)], none⟩,
  ⟨(some 6), .mov, [.t 5], none⟩,
  ⟨(some 7), .mov, [.t 0], (some (6, false))⟩,
  ⟨(some 8), .bin .gtr, [.t 7, .c (.int .u8 7)], (some (6, false))⟩,
  ⟨(some 9), .pick, [.t 6, .c (.bool true), .t 8], none⟩])
 (AC.cond (.t 9)
  (AC.seq (AC.reg [
   ⟨(some 10), .build [.nilfn, .nilfn, .nilfn, .nilfn] [], [], none⟩,
   ⟨none, .store 4, [.t 2, .t 10], none⟩,
   ⟨(some 3), .mov, [.c (.bool false)], none⟩])
  AC.ret)
  AC.skip))
 (AC.seq (AC.reg [
  ⟨(some 11), .call 49, [], none⟩,
  ⟨(some 12), .mov, [.t 0], none⟩,
  ⟨(some 13), .idxv 8 4 true, [.t 11, .t 12], none⟩,
  ⟨none, .store 4, [.t 2, .t 13], none⟩,
  ⟨(some 3), .mov, [.c (.bool true)], none⟩])
 AC.ret)))
def r42 : AC × List RT × Nat := (c42, [.cell 2 true 4, .tmp 3], 14)
theorem ok42 : ∃ fn ex, Tryz.prog.funcs[42]? = some fn ∧ compF Tryz.prog fn ex = some r42 := ⟨Tryz.f42, ⟨false, false⟩, Tryz.func42, by kernel_rfl⟩
/- umpire/event.Same -/
def c43 : AC := (AC.seq (AC.reg [
  ⟨(some 2), .box, [.t 0], none⟩,
  ⟨(some 3), .box, [.t 1], none⟩,
  ⟨(some 4), .mov, [.c (.bool false)], none⟩])
 (AC.seq (AC.reg [
  ⟨(some 5), .fld 0, [.t 2], none⟩,
  ⟨(some 6), .load false 1, [.t 5], none⟩,
  ⟨(some 7), .fld 0, [.t 3], none⟩,
  ⟨(some 8), .load false 1, [.t 7], none⟩,
  ⟨(some 9), .bin .eql, [.t 6, .t 8], none⟩,
  ⟨(some 10), .mov, [.t 9], none⟩,
  ⟨(some 11), .fld 1, [.t 2], (some (10, true))⟩,
  ⟨(some 12), .load false 1, [.t 11], (some (10, true))⟩,
  ⟨(some 13), .fld 1, [.t 3], (some (10, true))⟩,
  ⟨(some 14), .load false 1, [.t 13], (some (10, true))⟩,
  ⟨(some 15), .bin .eql, [.t 12, .t 14], (some (10, true))⟩,
  ⟨(some 16), .pick, [.t 10, .t 15, .c (.bool false)], none⟩,
  ⟨(some 17), .mov, [.t 16], none⟩,
  ⟨(some 18), .fld 2, [.t 2], (some (17, true))⟩,
  ⟨(some 19), .load false 1, [.t 18], (some (17, true))⟩,
  ⟨(some 20), .fld 2, [.t 3], (some (17, true))⟩,
  ⟨(some 21), .load false 1, [.t 20], (some (17, true))⟩,
  ⟨(some 22), .bin .eql, [.t 19, .t 21], (some (17, true))⟩,
  ⟨(some 23), .pick, [.t 17, .t 22, .c (.bool false)], none⟩,
  ⟨(some 24), .mov, [.t 23], none⟩,
  ⟨(some 25), .fld 3, [.t 2], (some (24, true))⟩,
  ⟨(some 26), .load true 5, [.t 25], (some (24, true))⟩,
  ⟨(some 27), .fld 3, [.t 3], (some (24, true))⟩,
  ⟨(some 28), .load true 5, [.t 27], (some (24, true))⟩,
  ⟨(some 29), .eqv false (true, [.i .u8, .i .u8, .i .u8, .i .u16, .i .u16]), [.t 26, .t 28], (some (24, true))⟩,
  ⟨(some 30), .pick, [.t 24, .t 29, .c (.bool false)], none⟩,
  ⟨(some 31), .mov, [.t 30], none⟩,
  ⟨(some 32), .fld 8, [.t 2], (some (31, true))⟩,
  ⟨(some 33), .load true 2, [.t 32], (some (31, true))⟩,
  ⟨(some 34), .fld 8, [.t 3], (some (31, true))⟩,
  ⟨(some 35), .load true 2, [.t 34], (some (31, true))⟩,
  ⟨(some 36), .eqv false (true, [.i .u8, .i .u16]), [.t 33, .t 35], (some (31, true))⟩,
  ⟨(some 37), .pick, [.t 31, .t 36, .c (.bool false)], none⟩,
  ⟨(some 38), .mov, [.t 37], none⟩,
  ⟨(some 39), .fld 10, [.t 2], (some (38, true))⟩,
  ⟨(some 40), .load false 1, [.t 39], (some (38, true))⟩,
  ⟨(some 41), .fld 10, [.t 3], (some (38, true))⟩,
  ⟨(some 42), .load false 1, [.t 41], (some (38, true))⟩,
  ⟨(some 43), .call 50, [.t 40, .t 42], (some (38, true))⟩,
  ⟨(some 44), .pick, [.t 38, .t 43, .c (.bool false)], none⟩,
  ⟨(some 45), .mov, [.t 44], none⟩,
  ⟨(some 46), .fld 11, [.t 2], (some (45, true))⟩,
  ⟨(some 47), .load false 1, [.t 46], (some (45, true))⟩,
  ⟨(some 48), .fld 11, [.t 3], (some (45, true))⟩,
  ⟨(some 49), .load false 1, [.t 48], (some (45, true))⟩,
  ⟨(some 50), .call 51, [.t 47, .t 49, .f 52], (some (45, true))⟩,
  ⟨(some 51), .pick, [.t 45, .t 50, .c (.bool false)], none⟩,
  ⟨(some 52), .mov, [.t 51], none⟩,
  ⟨(some 53), .fld 12, [.t 2], (some (52, true))⟩,
  ⟨(some 54), .load true 7, [.t 53], (some (52, true))⟩,
  ⟨(some 55), .fld 12, [.t 3], (some (52, true))⟩,
  ⟨(some 56), .load true 7, [.t 55], (some (52, true))⟩,
  ⟨(some 57), .eqv false (true, [.i .u8, .i .i64, .i .i64, .i .i64, .b, .b, .b]), [.t 54, .t 56], (some (52, true))⟩,
  ⟨(some 58), .pick, [.t 52, .t 57, .c (.bool false)], none⟩,
  ⟨(some 4), .mov, [.t 58], none⟩])
 AC.ret))
def r43 : AC × List RT × Nat := (c43, [.tmp 4], 59)
theorem ok43 : ∃ fn ex, Tryz.prog.funcs[43]? = some fn ∧ compF Tryz.prog fn ex = some r43 := ⟨Tryz.f43, ⟨false, false⟩, Tryz.func43, by kernel_rfl⟩
/- slices.Collect[uint16] -/
def c44 : AC := (AC.seq (AC.reg [
  ⟨(some 2), .mov, [.c (.nilsl)], none⟩])
 (AC.seq (AC.reg [
  ⟨(some 3), .mov, [.t 0], none⟩,
  ⟨(some 4), .call 53, [.c (.nilsl), .t 3], none⟩,
  ⟨(some 2), .mov, [.t 4], none⟩])
 AC.ret))
def r44 : AC × List RT × Nat := (c44, [.tmp 2], 5)
theorem ok44 : ∃ fn ex, Tryz.prog.funcs[44]? = some fn ∧ compF Tryz.prog fn ex = some r44 := ⟨Tryz.f44, ⟨true, false⟩, Tryz.func44, by kernel_rfl⟩
/- slices.Sort[[]uint16,uint16] -/
def c45 : AC := (AC.seq (AC.reg [
  ⟨(some 3), .mov, [.t 0], none⟩,
  ⟨(some 4), .len 1 0, [.t 3], none⟩,
  ⟨(some 2), .mov, [.t 4], none⟩])
 (AC.reg [
  ⟨(some 5), .mov, [.t 0], none⟩,
  ⟨(some 6), .mov, [.t 2], none⟩,
  ⟨(some 7), .mov, [.t 2], none⟩,
  ⟨(some 8), .conv .u64, [.t 7], none⟩,
  ⟨(some 9), .call 55, [.t 8], none⟩,
  ⟨(some 10), .call 54, [.t 5, .c (.int .i64 0), .t 6, .t 9], none⟩]))
def r45 : AC × List RT × Nat := (c45, [], 11)
theorem ok45 : ∃ fn ex, Tryz.prog.funcs[45]? = some fn ∧ compF Tryz.prog fn ex = some r45 := ⟨Tryz.f45, ⟨true, false⟩, Tryz.func45, by kernel_rfl⟩
/- maps.Keys[map[uint16]umpire/txn.Txn,uint16,umpire/txn.Txn]$1 -/
def c46 : AC := (AC.seq (AC.reg [
  ⟨(some 4), .load false 1, [.t 1], none⟩,
  ⟨(some 5), .rangem, [.t 4], none⟩])
 (AC.block 0
  (AC.loop
   (AC.seq (AC.reg [
    ⟨(some 6), .nextm, [.t 5], none⟩,
    ⟨(some 7), .ext 0, [.t 6], none⟩])
   (AC.seq (AC.cond (.t 7)
    AC.skip
    (AC.exit 0))
   (AC.block 1
    (AC.seq (AC.reg [
     ⟨(some 8), .entry, [.t 5], none⟩,
     ⟨(some 9), .ext 0, [.t 8], none⟩,
     ⟨(some 3), .mov, [.t 9], none⟩])
    (AC.seq (AC.reg [
     ⟨(some 10), .mov, [.t 0], none⟩,
     ⟨(some 11), .mov, [.t 3], none⟩,
     ⟨(some 12), .callv, [.t 10, .t 11], none⟩,
     ⟨(some 13), .un .not, [.t 12], none⟩])
    (AC.cond (.t 13)
     AC.ret
     AC.skip)))))))))
def r46 : AC × List RT × Nat := (c46, [], 14)
theorem ok46 : ∃ fn ex, Tryz.prog.funcs[46]? = some fn ∧ compF Tryz.prog fn ex = some r46 := ⟨Tryz.f46, ⟨false, false⟩, Tryz.func46, by kernel_rfl⟩
/- umpire/event.kinds -/
def c49 : AC := (AC.seq (AC.reg [
  ⟨(some 0), .alloc [.nilfn, .nilfn, .nilfn, .nilfn, .nilfn, .nilfn, .nilfn, .nilfn, .nilfn, .nilfn, .nilfn, .nilfn, .nilfn, .nilfn, .nilfn, .nilfn, .nilfn, .nilfn, .nilfn, .nilfn, .nilfn, .nilfn, .nilfn, .nilfn, .nilfn, .nilfn, .nilfn, .nilfn, .nilfn, .nilfn, .nilfn, .nilfn], [], none⟩])
 (AC.seq (AC.reg [
  ⟨(some 1), .build [.nilfn, .nilfn, .nilfn, .nilfn] [(0, 1), (1, 1), (2, 1), (3, 1)], [.f 57, .f 58, .f 59, .f 60], none⟩,
  ⟨(some 2), .build [.nilfn, .nilfn, .nilfn, .nilfn] [(0, 1), (1, 1), (2, 1), (3, 1)], [.f 61, .f 62, .f 63, .f 64], none⟩,
  ⟨(some 3), .build [.nilfn, .nilfn, .nilfn, .nilfn] [(0, 1), (1, 1), (2, 1), (3, 1)], [.f 65, .f 66, .f 67, .f 68], none⟩,
  ⟨(some 4), .build [.nilfn, .nilfn, .nilfn, .nilfn] [(0, 1), (1, 1), (2, 1), (3, 1)], [.f 69, .f 70, .f 71, .f 72], none⟩,
  ⟨(some 5), .build [.nilfn, .nilfn, .nilfn, .nilfn] [(0, 1), (1, 1), (2, 1), (3, 1)], [.f 73, .f 74, .f 75, .f 76], none⟩,
  ⟨(some 6), .build [.nilfn, .nilfn, .nilfn, .nilfn] [(0, 1), (1, 1), (2, 1), (3, 1)], [.f 77, .f 78, .f 79, .f 80], none⟩,
  ⟨(some 7), .build [.nilfn, .nilfn, .nilfn, .nilfn] [(0, 1), (1, 1), (2, 1), (3, 1)], [.f 69, .f 70, .f 71, .f 72], none⟩,
  ⟨(some 8), .build [.nilfn, .nilfn, .nilfn, .nilfn, .nilfn, .nilfn, .nilfn, .nilfn, .nilfn, .nilfn, .nilfn, .nilfn, .nilfn, .nilfn, .nilfn, .nilfn, .nilfn, .nilfn, .nilfn, .nilfn, .nilfn, .nilfn, .nilfn, .nilfn, .nilfn, .nilfn, .nilfn, .nilfn, .nilfn, .nilfn, .nilfn, .nilfn] [(4, 4), (8, 4), (12, 4), (16, 4), (20, 4), (24, 4), (28, 4)], [.t 1, .t 2, .t 3, .t 4, .t 5, .t 6, .t 7], none⟩,
  ⟨none, .store 32, [.t 0, .t 8], none⟩])
 AC.ret))
def r49 : AC × List RT × Nat := (c49, [.cell 0 true 32], 9)
theorem ok49 : ∃ fn ex, Tryz.prog.funcs[49]? = some fn ∧ compF Tryz.prog fn ex = some r49 := ⟨Tryz.f49, ⟨false, false⟩, Tryz.func49, by kernel_rfl⟩
/- slices.Equal[[]umpire/api.Micro,umpire/api.Micro] -/
def c50 : AC := (AC.seq (AC.reg [
  ⟨(some 4), .mov, [.c (.bool false)], none⟩])
 (AC.seq (AC.seq (AC.reg [
  ⟨(some 6), .mov, [.t 0], none⟩,
  ⟨(some 7), .len 1 0, [.t 6], none⟩,
  ⟨(some 8), .mov, [.t 1], none⟩,
  ⟨(some 9), .len 1 0, [.t 8], none⟩,
  ⟨(some 10), .bin .neq, [.t 7, .t 9], none⟩])
 (AC.cond (.t 10)
  (AC.seq (AC.reg [
   ⟨(some 4), .mov, [.c (.bool false)], none⟩])
  AC.ret)
  AC.skip))
 (AC.seq (AC.seq (AC.reg [
  ⟨(some 11), .mov, [.t 0], none⟩,
  ⟨(some 12), .len 1 0, [.t 11], none⟩,
  ⟨(some 13), .mov, [.c (.int .i64 0)], none⟩])
 (AC.block 0
  (AC.loop
   (AC.seq (AC.reg [
    ⟨(some 14), .bin .lss, [.t 13, .t 12], none⟩])
   (AC.seq (AC.cond (.t 14)
    AC.skip
    (AC.exit 0))
   (AC.seq (AC.block 1
    (AC.seq (AC.reg [
     ⟨(some 15), .mov, [.t 13], none⟩,
     ⟨(some 5), .mov, [.t 15], none⟩])
    (AC.seq (AC.par
     (PT.step 0 ⟨(some 16), .mov, [.t 0], none⟩
     (PT.step 1 ⟨(some 17), .mov, [.t 5], none⟩
     (PT.step 4 ⟨(some 20), .mov, [.t 1], none⟩
     (PT.step 5 ⟨(some 21), .mov, [.t 5], none⟩
     (PT.step 2 ⟨(some 18), .idxp 3, [.t 16, .t 17], none⟩
     (PT.step 3 ⟨(some 19), .load true 3, [.t 18], none⟩
     (PT.step 6 ⟨(some 22), .idxp 3, [.t 20, .t 21], none⟩
     (PT.step 7 ⟨(some 23), .load true 3, [.t 22], none⟩
     (PT.step 8 ⟨(some 24), .eqv true (true, [.b, .i .u8, .i .u16]), [.t 19, .t 23], none⟩
     PT.done))))))))))
    (AC.cond (.t 24)
     (AC.seq (AC.reg [
      ⟨(some 4), .mov, [.c (.bool false)], none⟩])
     AC.ret)
     AC.skip))))
   (AC.reg [
    ⟨(some 25), .bin .add, [.t 13, .c (.int .i64 1)], none⟩,
    ⟨(some 13), .mov, [.t 25], none⟩])))))))
 (AC.seq (AC.reg [
  ⟨(some 4), .mov, [.c (.bool true)], none⟩])
 AC.ret))))
def r50 : AC × List RT × Nat := (c50, [.tmp 4], 26)
theorem ok50 : ∃ fn ex, Tryz.prog.funcs[50]? = some fn ∧ compF Tryz.prog fn ex = some r50 := ⟨Tryz.f50, ⟨false, false⟩, Tryz.func50, by kernel_rfl⟩
/- slices.EqualFunc[[][]uint16,[][]uint16,[]uint16,[]uint16] -/
def c51 : AC := (AC.seq (AC.reg [
  ⟨(some 6), .mov, [.c (.bool false)], none⟩])
 (AC.seq (AC.seq (AC.reg [
  ⟨(some 10), .mov, [.t 0], none⟩,
  ⟨(some 11), .len 1 0, [.t 10], none⟩,
  ⟨(some 12), .mov, [.t 1], none⟩,
  ⟨(some 13), .len 1 0, [.t 12], none⟩,
  ⟨(some 14), .bin .neq, [.t 11, .t 13], none⟩])
 (AC.cond (.t 14)
  (AC.seq (AC.reg [
   ⟨(some 6), .mov, [.c (.bool false)], none⟩])
  AC.ret)
  AC.skip))
 (AC.seq (AC.seq (AC.reg [
  ⟨(some 15), .mov, [.t 0], none⟩,
  ⟨(some 16), .len 1 0, [.t 15], none⟩,
  ⟨(some 17), .mov, [.c (.int .i64 0)], none⟩])
 (AC.block 0
  (AC.loop
   (AC.seq (AC.reg [
    ⟨(some 18), .bin .lss, [.t 17, .t 16], none⟩])
   (AC.seq (AC.cond (.t 18)
    AC.skip
    (AC.exit 0))
   (AC.seq (AC.block 1
    (AC.seq (AC.reg [
     ⟨(some 19), .mov, [.t 17], none⟩,
     ⟨(some 20), .idxp 1, [.t 15, .t 17], none⟩,
     ⟨(some 21), .load false 1, [.t 20], none⟩,
     ⟨(some 7), .mov, [.t 19], none⟩,
     ⟨(some 8), .mov, [.t 21], none⟩])
    (AC.seq (AC.reg [
     ⟨(some 22), .mov, [.t 1], none⟩,
     ⟨(some 23), .mov, [.t 7], none⟩,
     ⟨(some 24), .idxp 1, [.t 22, .t 23], none⟩,
     ⟨(some 25), .load false 1, [.t 24], none⟩,
     ⟨(some 9), .mov, [.t 25], none⟩])
    (AC.seq (AC.reg [
     ⟨(some 26), .mov, [.t 2], none⟩,
     ⟨(some 27), .mov, [.t 8], none⟩,
     ⟨(some 28), .mov, [.t 9], none⟩,
     ⟨(some 29), .callv, [.t 26, .t 27, .t 28], none⟩,
     ⟨(some 30), .un .not, [.t 29], none⟩])
    (AC.cond (.t 30)
     (AC.seq (AC.reg [
      ⟨(some 6), .mov, [.c (.bool false)], none⟩])
     AC.ret)
     AC.skip)))))
   (AC.reg [
    ⟨(some 31), .bin .add, [.t 17, .c (.int .i64 1)], none⟩,
    ⟨(some 17), .mov, [.t 31], none⟩])))))))
 (AC.seq (AC.reg [
  ⟨(some 6), .mov, [.c (.bool true)], none⟩])
 AC.ret))))
def r51 : AC × List RT × Nat := (c51, [.tmp 6], 32)
theorem ok51 : ∃ fn ex, Tryz.prog.funcs[51]? = some fn ∧ compF Tryz.prog fn ex = some r51 := ⟨Tryz.f51, ⟨false, false⟩, Tryz.func51, by kernel_rfl⟩
/- slices.Equal[[]uint16,uint16] -/
def c52 : AC := (AC.seq (AC.reg [
  ⟨(some 4), .mov, [.c (.bool false)], none⟩])
 (AC.seq (AC.seq (AC.reg [
  ⟨(some 6), .mov, [.t 0], none⟩,
  ⟨(some 7), .len 1 0, [.t 6], none⟩,
  ⟨(some 8), .mov, [.t 1], none⟩,
  ⟨(some 9), .len 1 0, [.t 8], none⟩,
  ⟨(some 10), .bin .neq, [.t 7, .t 9], none⟩])
 (AC.cond (.t 10)
  (AC.seq (AC.reg [
   ⟨(some 4), .mov, [.c (.bool false)], none⟩])
  AC.ret)
  AC.skip))
 (AC.seq (AC.seq (AC.reg [
  ⟨(some 11), .mov, [.t 0], none⟩,
  ⟨(some 12), .len 1 0, [.t 11], none⟩,
  ⟨(some 13), .mov, [.c (.int .i64 0)], none⟩])
 (AC.block 0
  (AC.loop
   (AC.seq (AC.reg [
    ⟨(some 14), .bin .lss, [.t 13, .t 12], none⟩])
   (AC.seq (AC.cond (.t 14)
    AC.skip
    (AC.exit 0))
   (AC.seq (AC.block 1
    (AC.seq (AC.reg [
     ⟨(some 15), .mov, [.t 13], none⟩,
     ⟨(some 5), .mov, [.t 15], none⟩])
    (AC.seq (AC.par
     (PT.step 0 ⟨(some 16), .mov, [.t 0], none⟩
     (PT.step 1 ⟨(some 17), .mov, [.t 5], none⟩
     (PT.step 4 ⟨(some 20), .mov, [.t 1], none⟩
     (PT.step 5 ⟨(some 21), .mov, [.t 5], none⟩
     (PT.step 2 ⟨(some 18), .idxp 1, [.t 16, .t 17], none⟩
     (PT.step 3 ⟨(some 19), .load false 1, [.t 18], none⟩
     (PT.step 6 ⟨(some 22), .idxp 1, [.t 20, .t 21], none⟩
     (PT.step 7 ⟨(some 23), .load false 1, [.t 22], none⟩
     (PT.step 8 ⟨(some 24), .bin .neq, [.t 19, .t 23], none⟩
     PT.done))))))))))
    (AC.cond (.t 24)
     (AC.seq (AC.reg [
      ⟨(some 4), .mov, [.c (.bool false)], none⟩])
     AC.ret)
     AC.skip))))
   (AC.reg [
    ⟨(some 25), .bin .add, [.t 13, .c (.int .i64 1)], none⟩,
    ⟨(some 13), .mov, [.t 25], none⟩])))))))
 (AC.seq (AC.reg [
  ⟨(some 4), .mov, [.c (.bool true)], none⟩])
 AC.ret))))
def r52 : AC × List RT × Nat := (c52, [.tmp 4], 26)
theorem ok52 : ∃ fn ex, Tryz.prog.funcs[52]? = some fn ∧ compF Tryz.prog fn ex = some r52 := ⟨Tryz.f52, ⟨false, false⟩, Tryz.func52, by kernel_rfl⟩
/- slices.AppendSeq[[]uint16,uint16] -/
def c53 : AC := (AC.seq (AC.reg [
  ⟨(some 2), .box, [.t 0], none⟩,
  ⟨(some 4), .mov, [.c (.nilsl)], none⟩])
 (AC.seq (AC.seq (AC.reg [
  ⟨(some 6), .mov, [.t 1], none⟩])
 (AC.block 0
  (AC.rangef (.t 6) [7]
   (AC.reg [
    ⟨(some 5), .mov, [.t 7], none⟩])
   (AC.block 1
    (AC.reg [
     ⟨(some 8), .load false 1, [.t 2], none⟩,
     ⟨(some 9), .mov, [.t 5], none⟩,
     ⟨(some 10), .bslice 1 1 (.int .u16 0) [0], [.t 9], none⟩,
     ⟨(some 11), .appendx 1 2 [.int .u16 0], [.t 8, .t 10], none⟩,
     ⟨none, .store 1, [.t 2, .t 11], none⟩])))))
 (AC.seq (AC.reg [
  ⟨(some 12), .load false 1, [.t 2], none⟩,
  ⟨(some 4), .mov, [.t 12], none⟩])
 AC.ret)))
def r53 : AC × List RT × Nat := (c53, [.tmp 4], 13)
theorem ok53 : ∃ fn ex, Tryz.prog.funcs[53]? = some fn ∧ compF Tryz.prog fn ex = some r53 := ⟨Tryz.f53, ⟨true, false⟩, Tryz.func53, by kernel_rfl⟩
/- slices.pdqsortOrdered[uint16] -/
def c54 : AC := (AC.seq (AC.reg [
  ⟨(some 8), .mov, [.c (.bool true)], none⟩])
 (AC.seq (AC.reg [
  ⟨(some 9), .mov, [.c (.bool true)], none⟩])
 (AC.block 0
  (AC.loop
   (AC.block 1
    (AC.seq (AC.reg [
     ⟨(some 19), .mov, [.t 2], none⟩,
     ⟨(some 20), .mov, [.t 1], none⟩,
     ⟨(some 21), .bin .sub, [.t 19, .t 20], none⟩,
     ⟨(some 10), .mov, [.t 21], none⟩])
    (AC.seq (AC.seq (AC.reg [
     ⟨(some 22), .mov, [.t 10], none⟩,
     ⟨(some 23), .bin .leq, [.t 22, .c (.int .i64 12)], none⟩])
    (AC.cond (.t 23)
     (AC.seq (AC.reg [
      ⟨(some 24), .mov, [.t 0], none⟩,
      ⟨(some 25), .mov, [.t 1], none⟩,
      ⟨(some 26), .mov, [.t 2], none⟩,
      ⟨(some 27), .call 81, [.t 24, .t 25, .t 26], none⟩])
     AC.ret)
     AC.skip))
    (AC.seq (AC.seq (AC.reg [
     ⟨(some 28), .mov, [.t 3], none⟩,
     ⟨(some 29), .bin .eql, [.t 28, .c (.int .i64 0)], none⟩])
    (AC.cond (.t 29)
     (AC.seq (AC.reg [
      ⟨(some 30), .mov, [.t 0], none⟩,
      ⟨(some 31), .mov, [.t 1], none⟩,
      ⟨(some 32), .mov, [.t 2], none⟩,
      ⟨(some 33), .call 82, [.t 30, .t 31, .t 32], none⟩])
     AC.ret)
     AC.skip))
    (AC.seq (AC.seq (AC.reg [
     ⟨(some 34), .mov, [.t 8], none⟩,
     ⟨(some 35), .un .not, [.t 34], none⟩])
    (AC.cond (.t 35)
     (AC.seq (AC.reg [
      ⟨(some 36), .mov, [.t 0], none⟩,
      ⟨(some 37), .mov, [.t 1], none⟩,
      ⟨(some 38), .mov, [.t 2], none⟩,
      ⟨(some 39), .call 83, [.t 36, .t 37, .t 38], none⟩])
     (AC.reg [
      ⟨(some 40), .mov, [.t 3], none⟩,
      ⟨(some 41), .bin .sub, [.t 40, .c (.int .i64 1)], none⟩,
      ⟨(some 3), .mov, [.t 41], none⟩]))
     AC.skip))
    (AC.seq (AC.reg [
     ⟨(some 43), .mov, [.t 0], none⟩,
     ⟨(some 44), .mov, [.t 1], none⟩,
     ⟨(some 45), .mov, [.t 2], none⟩,
     ⟨(some 46), .call 84, [.t 43, .t 44, .t 45], none⟩,
     ⟨(some 42), .mov, [.t 46], none⟩,
     ⟨(some 47), .ext 0, [.t 42], none⟩,
     ⟨(some 48), .ext 1, [.t 42], none⟩,
     ⟨(some 11), .mov, [.t 47], none⟩,
     ⟨(some 12), .mov, [.t 48], none⟩])
    (AC.seq (AC.seq (AC.reg [
     ⟨(some 49), .mov, [.t 12], none⟩,
     ⟨(some 50), .bin .eql, [.t 49, .c (.int .i64 2)], none⟩])
    (AC.cond (.t 50)
     (AC.seq (AC.reg [
      ⟨(some 51), .mov, [.t 0], none⟩,
      ⟨(some 52), .mov, [.t 1], none⟩,
      ⟨(some 53), .mov, [.t 2], none⟩,
      ⟨(some 54), .call 85, [.t 51, .t 52, .t 53], none⟩])
     (AC.seq (AC.reg [
      ⟨(some 55), .mov, [.t 2], none⟩,
      ⟨(some 56), .bin .sub, [.t 55, .c (.int .i64 1)], none⟩,
      ⟨(some 57), .mov, [.t 11], none⟩,
      ⟨(some 58), .mov, [.t 1], none⟩,
      ⟨(some 59), .bin .sub, [.t 57, .t 58], none⟩,
      ⟨(some 60), .bin .sub, [.t 56, .t 59], none⟩,
      ⟨(some 11), .mov, [.t 60], none⟩])
     (AC.reg [
      ⟨(some 12), .mov, [.c (.int .i64 1)], none⟩])))
     AC.skip))
    (AC.seq (AC.seq (AC.reg [
     ⟨(some 61), .mov, [.t 8], none⟩,
     ⟨(some 62), .mov, [.t 61], none⟩,
     ⟨(some 63), .mov, [.t 9], (some (62, true))⟩,
     ⟨(some 64), .pick, [.t 62, .t 63, .c (.bool false)], none⟩,
     ⟨(some 65), .mov, [.t 64], none⟩,
     ⟨(some 66), .mov, [.t 12], (some (65, true))⟩,
     ⟨(some 67), .bin .eql, [.t 66, .c (.int .i64 1)], (some (65, true))⟩,
     ⟨(some 68), .pick, [.t 65, .t 67, .c (.bool false)], none⟩])
    (AC.cond (.t 68)
     (AC.seq (AC.reg [
      ⟨(some 69), .mov, [.t 0], none⟩,
      ⟨(some 70), .mov, [.t 1], none⟩,
      ⟨(some 71), .mov, [.t 2], none⟩,
      ⟨(some 72), .call 86, [.t 69, .t 70, .t 71], none⟩])
     (AC.cond (.t 72)
      AC.ret
      AC.skip))
     AC.skip))
    (AC.seq (AC.seq (AC.par
     (PT.step 0 ⟨(some 73), .mov, [.t 1], none⟩
     (PT.step 1 ⟨(some 74), .bin .gtr, [.t 73, .c (.int .i64 0)], none⟩
     (PT.step 2 ⟨(some 75), .mov, [.t 74], none⟩
     (PT.step 3 ⟨(some 76), .mov, [.t 0], (some (75, true))⟩
     (PT.step 4 ⟨(some 77), .mov, [.t 1], (some (75, true))⟩
     (PT.step 5 ⟨(some 78), .bin .sub, [.t 77, .c (.int .i64 1)], (some (75, true))⟩
     (PT.step 8 ⟨(some 81), .mov, [.t 0], (some (75, true))⟩
     (PT.step 9 ⟨(some 82), .mov, [.t 11], (some (75, true))⟩
     (PT.step 6 ⟨(some 79), .idxp 1, [.t 76, .t 78], (some (75, true))⟩
     (PT.step 7 ⟨(some 80), .load false 1, [.t 79], (some (75, true))⟩
     (PT.step 10 ⟨(some 83), .idxp 1, [.t 81, .t 82], (some (75, true))⟩
     (PT.step 11 ⟨(some 84), .load false 1, [.t 83], (some (75, true))⟩
     (PT.step 12 ⟨(some 85), .call 87, [.t 80, .t 84], (some (75, true))⟩
     (PT.step 13 ⟨(some 86), .un .not, [.t 85], (some (75, true))⟩
     (PT.step 14 ⟨(some 87), .pick, [.t 75, .t 86, .c (.bool false)], none⟩
     PT.done))))))))))))))))
    (AC.cond (.t 87)
     (AC.seq (AC.reg [
      ⟨(some 88), .mov, [.t 0], none⟩,
      ⟨(some 89), .mov, [.t 1], none⟩,
      ⟨(some 90), .mov, [.t 2], none⟩,
      ⟨(some 91), .mov, [.t 11], none⟩,
      ⟨(some 92), .call 88, [.t 88, .t 89, .t 90, .t 91], none⟩,
      ⟨(some 13), .mov, [.t 92], none⟩])
     (AC.seq (AC.reg [
      ⟨(some 93), .mov, [.t 13], none⟩,
      ⟨(some 1), .mov, [.t 93], none⟩])
     (AC.exit 1)))
     AC.skip))
    (AC.seq (AC.reg [
     ⟨(some 95), .mov, [.t 0], none⟩,
     ⟨(some 96), .mov, [.t 1], none⟩,
     ⟨(some 97), .mov, [.t 2], none⟩,
     ⟨(some 98), .mov, [.t 11], none⟩,
     ⟨(some 99), .call 89, [.t 95, .t 96, .t 97, .t 98], none⟩,
     ⟨(some 94), .mov, [.t 99], none⟩,
     ⟨(some 100), .ext 0, [.t 94], none⟩,
     ⟨(some 101), .ext 1, [.t 94], none⟩,
     ⟨(some 14), .mov, [.t 100], none⟩,
     ⟨(some 15), .mov, [.t 101], none⟩])
    (AC.seq (AC.reg [
     ⟨(some 102), .mov, [.t 15], none⟩,
     ⟨(some 9), .mov, [.t 102], none⟩])
    (AC.seq (AC.reg [
     ⟨(some 103), .mov, [.t 14], none⟩,
     ⟨(some 104), .mov, [.t 1], none⟩,
     ⟨(some 105), .bin .sub, [.t 103, .t 104], none⟩,
     ⟨(some 106), .mov, [.t 2], none⟩,
     ⟨(some 107), .mov, [.t 14], none⟩,
     ⟨(some 108), .bin .sub, [.t 106, .t 107], none⟩,
     ⟨(some 16), .mov, [.t 105], none⟩,
     ⟨(some 17), .mov, [.t 108], none⟩])
    (AC.seq (AC.reg [
     ⟨(some 109), .mov, [.t 10], none⟩,
     ⟨(some 110), .bin .quo, [.t 109, .c (.int .i64 8)], none⟩,
     ⟨(some 18), .mov, [.t 110], none⟩])
    (AC.seq (AC.reg [
     ⟨(some 111), .mov, [.t 16], none⟩,
     ⟨(some 112), .mov, [.t 17], none⟩,
     ⟨(some 113), .bin .lss, [.t 111, .t 112], none⟩])
    (AC.cond (.t 113)
     (AC.seq (AC.reg [
      ⟨(some 114), .mov, [.t 16], none⟩,
      ⟨(some 115), .mov, [.t 18], none⟩,
      ⟨(some 116), .bin .geq, [.t 114, .t 115], none⟩,
      ⟨(some 8), .mov, [.t 116], none⟩])
     (AC.seq (AC.reg [
      ⟨(some 117), .mov, [.t 0], none⟩,
      ⟨(some 118), .mov, [.t 1], none⟩,
      ⟨(some 119), .mov, [.t 14], none⟩,
      ⟨(some 120), .mov, [.t 3], none⟩,
      ⟨(some 121), .call 54, [.t 117, .t 118, .t 119, .t 120], none⟩])
     (AC.reg [
      ⟨(some 122), .mov, [.t 14], none⟩,
      ⟨(some 123), .bin .add, [.t 122, .c (.int .i64 1)], none⟩,
      ⟨(some 1), .mov, [.t 123], none⟩])))
     (AC.seq (AC.reg [
      ⟨(some 124), .mov, [.t 17], none⟩,
      ⟨(some 125), .mov, [.t 18], none⟩,
      ⟨(some 126), .bin .geq, [.t 124, .t 125], none⟩,
      ⟨(some 8), .mov, [.t 126], none⟩])
     (AC.seq (AC.reg [
      ⟨(some 127), .mov, [.t 0], none⟩,
      ⟨(some 128), .mov, [.t 14], none⟩,
      ⟨(some 129), .bin .add, [.t 128, .c (.int .i64 1)], none⟩,
      ⟨(some 130), .mov, [.t 2], none⟩,
      ⟨(some 131), .mov, [.t 3], none⟩,
      ⟨(some 132), .call 54, [.t 127, .t 129, .t 130, .t 131], none⟩])
     (AC.reg [
      ⟨(some 133), .mov, [.t 14], none⟩,
      ⟨(some 2), .mov, [.t 133], none⟩]))))))))))))))))))))))
def r54 : AC × List RT × Nat := (c54, [], 134)
theorem ok54 : ∃ fn ex, Tryz.prog.funcs[54]? = some fn ∧ compF Tryz.prog fn ex = some r54 := ⟨Tryz.f54, ⟨true, false⟩, Tryz.func54, by kernel_rfl⟩
/- math/bits.Len -/
def c55 : AC := (AC.seq (AC.reg [
  ⟨(some 2), .mov, [.c (.int .i64 0)], none⟩])
 (AC.seq (AC.cond (.c (.bool false))
  (AC.seq (AC.reg [
   ⟨(some 3), .mov, [.t 0], none⟩,
   ⟨(some 4), .conv .u32, [.t 3], none⟩,
   ⟨(some 5), .call 90, [.t 4], none⟩,
   ⟨(some 2), .mov, [.t 5], none⟩])
  AC.ret)
  AC.skip)
 (AC.seq (AC.reg [
  ⟨(some 6), .mov, [.t 0], none⟩,
  ⟨(some 7), .call 91, [.t 6], none⟩,
  ⟨(some 2), .mov, [.t 7], none⟩])
 AC.ret)))
def r55 : AC × List RT × Nat := (c55, [.tmp 2], 8)
theorem ok55 : ∃ fn ex, Tryz.prog.funcs[55]? = some fn ∧ compF Tryz.prog fn ex = some r55 := ⟨Tryz.f55, ⟨false, false⟩, Tryz.func55, by kernel_rfl⟩
/- umpire/event.begun -/
def c73 : AC := (AC.seq (AC.reg [
  ⟨(some 1), .box, [.t 0], none⟩,
  ⟨(some 2), .alloc [.int .u8 0, .int .u8 0, .int .u16 0, .int .u8 0, .int .u8 0, .int .u8 0, .int .u16 0, .int .u16 0, .int .u8 0, .int .u16 0, .nilsl, .nilsl, .int .u8 0, .int .i64 0, .int .i64 0, .int .i64 0, .bool false, .bool false, .bool false], [], none⟩])
 (AC.seq (AC.reg [
  ⟨(some 3), .fld 10, [.t 1], none⟩,
  ⟨(some 4), .load false 1, [.t 3], none⟩,
  ⟨(some 5), .build [.int .u8 0, .int .u8 0, .int .u16 0, .int .u8 0, .int .u8 0, .int .u8 0, .int .u16 0, .int .u16 0, .int .u8 0, .int .u16 0, .nilsl, .nilsl, .int .u8 0, .int .i64 0, .int .i64 0, .int .i64 0, .bool false, .bool false, .bool false] [(10, 1)], [.t 4], none⟩,
  ⟨none, .store 19, [.t 2, .t 5], none⟩])
 AC.ret))
def r73 : AC × List RT × Nat := (c73, [.cell 2 true 19], 6)
theorem ok73 : ∃ fn ex, Tryz.prog.funcs[73]? = some fn ∧ compF Tryz.prog fn ex = some r73 := ⟨Tryz.f73, ⟨false, false⟩, Tryz.func73, by kernel_rfl⟩
/- umpire/event.mayTxn -/
def c74 : AC := (AC.seq (AC.reg [
  ⟨(some 1), .box, [.t 0], none⟩,
  ⟨(some 2), .mov, [.c (.bool false)], none⟩])
 (AC.seq (AC.reg [
  ⟨(some 3), .mov, [.f 108], none⟩])
 (AC.seq (AC.reg [
  ⟨(some 4), .fld 10, [.t 1], none⟩,
  ⟨(some 5), .load false 1, [.t 4], none⟩,
  ⟨(some 6), .len 1 0, [.t 5], none⟩,
  ⟨(some 7), .call 92, [.t 6, .c (.int .i64 1), .c (.int .i64 8)], none⟩,
  ⟨(some 8), .mov, [.t 7], none⟩,
  ⟨(some 9), .fld 10, [.t 1], (some (8, true))⟩,
  ⟨(some 10), .load false 1, [.t 9], (some (8, true))⟩,
  ⟨(some 11), .mov, [.t 3], (some (8, true))⟩,
  ⟨(some 12), .call 109, [.t 10, .t 11], (some (8, true))⟩,
  ⟨(some 13), .un .not, [.t 12], (some (8, true))⟩,
  ⟨(some 14), .pick, [.t 8, .t 13, .c (.bool false)], none⟩,
  ⟨(some 2), .mov, [.t 14], none⟩])
 AC.ret)))
def r74 : AC × List RT × Nat := (c74, [.tmp 2], 15)
theorem ok74 : ∃ fn ex, Tryz.prog.funcs[74]? = some fn ∧ compF Tryz.prog fn ex = some r74 := ⟨Tryz.f74, ⟨false, false⟩, Tryz.func74, by kernel_rfl⟩
/- umpire/event.committed -/
def c77 : AC := (AC.seq (AC.reg [
  ⟨(some 1), .box, [.t 0], none⟩,
  ⟨(some 2), .alloc [.int .u8 0, .int .u8 0, .int .u16 0, .int .u8 0, .int .u8 0, .int .u8 0, .int .u16 0, .int .u16 0, .int .u8 0, .int .u16 0, .nilsl, .nilsl, .int .u8 0, .int .i64 0, .int .i64 0, .int .i64 0, .bool false, .bool false, .bool false], [], none⟩])
 (AC.seq (AC.reg [
  ⟨(some 3), .fld 11, [.t 1], none⟩,
  ⟨(some 4), .load false 1, [.t 3], none⟩,
  ⟨(some 5), .build [.int .u8 0, .int .u8 0, .int .u16 0, .int .u8 0, .int .u8 0, .int .u8 0, .int .u16 0, .int .u16 0, .int .u8 0, .int .u16 0, .nilsl, .nilsl, .int .u8 0, .int .i64 0, .int .i64 0, .int .i64 0, .bool false, .bool false, .bool false] [(11, 1)], [.t 4], none⟩,
  ⟨none, .store 19, [.t 2, .t 5], none⟩])
 AC.ret))
def r77 : AC × List RT × Nat := (c77, [.cell 2 true 19], 6)
theorem ok77 : ∃ fn ex, Tryz.prog.funcs[77]? = some fn ∧ compF Tryz.prog fn ex = some r77 := ⟨Tryz.f77, ⟨false, false⟩, Tryz.func77, by kernel_rfl⟩
/- umpire/event.mayReads -/
def c78 : AC := (AC.seq (AC.reg [
  ⟨(some 1), .box, [.t 0], none⟩,
  ⟨(some 2), .mov, [.c (.bool false)], none⟩])
 (AC.seq (AC.reg [
  ⟨(some 3), .mov, [.f 110], none⟩])
 (AC.seq (AC.reg [
  ⟨(some 4), .fld 11, [.t 1], none⟩,
  ⟨(some 5), .load false 1, [.t 4], none⟩,
  ⟨(some 6), .len 1 0, [.t 5], none⟩,
  ⟨(some 7), .bin .leq, [.t 6, .c (.int .i64 8)], none⟩,
  ⟨(some 8), .mov, [.t 7], none⟩,
  ⟨(some 9), .fld 11, [.t 1], (some (8, true))⟩,
  ⟨(some 10), .load false 1, [.t 9], (some (8, true))⟩,
  ⟨(some 11), .mov, [.t 3], (some (8, true))⟩,
  ⟨(some 12), .call 111, [.t 10, .t 11], (some (8, true))⟩,
  ⟨(some 13), .un .not, [.t 12], (some (8, true))⟩,
  ⟨(some 14), .pick, [.t 8, .t 13, .c (.bool false)], none⟩,
  ⟨(some 2), .mov, [.t 14], none⟩])
 AC.ret)))
def r78 : AC × List RT × Nat := (c78, [.tmp 2], 15)
theorem ok78 : ∃ fn ex, Tryz.prog.funcs[78]? = some fn ∧ compF Tryz.prog fn ex = some r78 := ⟨Tryz.f78, ⟨false, false⟩, Tryz.func78, by kernel_rfl⟩
/- slices.insertionSortOrdered[uint16] -/
def c81 : AC := (AC.seq (AC.reg [
  ⟨(some 8), .mov, [.t 1], none⟩,
  ⟨(some 9), .bin .add, [.t 8, .c (.int .i64 1)], none⟩,
  ⟨(some 6), .mov, [.t 9], none⟩])
 (AC.block 0
  (AC.loop
   (AC.seq (AC.seq (AC.reg [
    ⟨(some 10), .mov, [.t 6], none⟩,
    ⟨(some 11), .mov, [.t 2], none⟩,
    ⟨(some 12), .bin .lss, [.t 10, .t 11], none⟩])
   (AC.cond (.t 12)
    AC.skip
    (AC.exit 0)))
   (AC.seq (AC.block 1
    (AC.seq (AC.reg [
     ⟨(some 15), .mov, [.t 6], none⟩,
     ⟨(some 7), .mov, [.t 15], none⟩])
    (AC.block 2
     (AC.loop
      (AC.seq (AC.seq (AC.par
       (PT.step 0 ⟨(some 16), .mov, [.t 7], none⟩
       (PT.step 1 ⟨(some 17), .mov, [.t 1], none⟩
       (PT.step 2 ⟨(some 18), .bin .gtr, [.t 16, .t 17], none⟩
       (PT.step 3 ⟨(some 19), .mov, [.t 18], none⟩
       (PT.step 4 ⟨(some 20), .mov, [.t 0], (some (19, true))⟩
       (PT.step 5 ⟨(some 21), .mov, [.t 7], (some (19, true))⟩
       (PT.step 8 ⟨(some 24), .mov, [.t 0], (some (19, true))⟩
       (PT.step 9 ⟨(some 25), .mov, [.t 7], (some (19, true))⟩
       (PT.step 10 ⟨(some 26), .bin .sub, [.t 25, .c (.int .i64 1)], (some (19, true))⟩
       (PT.step 6 ⟨(some 22), .idxp 1, [.t 20, .t 21], (some (19, true))⟩
       (PT.step 7 ⟨(some 23), .load false 1, [.t 22], (some (19, true))⟩
       (PT.step 11 ⟨(some 27), .idxp 1, [.t 24, .t 26], (some (19, true))⟩
       (PT.step 12 ⟨(some 28), .load false 1, [.t 27], (some (19, true))⟩
       (PT.step 13 ⟨(some 29), .call 87, [.t 23, .t 28], (some (19, true))⟩
       (PT.step 14 ⟨(some 30), .pick, [.t 19, .t 29, .c (.bool false)], none⟩
       PT.done))))))))))))))))
      (AC.cond (.t 30)
       AC.skip
       (AC.exit 2)))
      (AC.seq (AC.block 3
       (AC.par
        (PT.step 0 ⟨(some 33), .mov, [.t 0], none⟩
        (PT.step 1 ⟨(some 34), .mov, [.t 7], none⟩
        (PT.step 2 ⟨(some 35), .mov, [.t 0], none⟩
        (PT.step 3 ⟨(some 36), .mov, [.t 7], none⟩
        (PT.step 4 ⟨(some 37), .bin .sub, [.t 36, .c (.int .i64 1)], none⟩
        (PT.step 5 ⟨(some 38), .mov, [.t 0], none⟩
        (PT.step 6 ⟨(some 39), .mov, [.t 7], none⟩
        (PT.step 7 ⟨(some 40), .bin .sub, [.t 39, .c (.int .i64 1)], none⟩
        (PT.step 10 ⟨(some 43), .mov, [.t 0], none⟩
        (PT.step 11 ⟨(some 44), .mov, [.t 7], none⟩
        (PT.step 8 ⟨(some 41), .idxp 1, [.t 38, .t 40], none⟩
        (PT.step 9 ⟨(some 42), .load false 1, [.t 41], none⟩
        (PT.step 12 ⟨(some 45), .idxp 1, [.t 43, .t 44], none⟩
        (PT.step 13 ⟨(some 46), .load false 1, [.t 45], none⟩
        (PT.step 14 ⟨(some 47), .idxp 1, [.t 33, .t 34], none⟩
        (PT.step 15 ⟨none, .store 1, [.t 47, .t 42], none⟩
        (PT.step 16 ⟨(some 48), .idxp 1, [.t 35, .t 37], none⟩
        (PT.step 17 ⟨none, .store 1, [.t 48, .t 46], none⟩
        PT.done))))))))))))))))))))
      (AC.reg [
       ⟨(some 31), .mov, [.t 7], none⟩,
       ⟨(some 32), .bin .sub, [.t 31, .c (.int .i64 1)], none⟩,
       ⟨(some 7), .mov, [.t 32], none⟩])))))))
   (AC.reg [
    ⟨(some 13), .mov, [.t 6], none⟩,
    ⟨(some 14), .bin .add, [.t 13, .c (.int .i64 1)], none⟩,
    ⟨(some 6), .mov, [.t 14], none⟩]))))))
def r81 : AC × List RT × Nat := (c81, [], 49)
theorem ok81 : ∃ fn ex, Tryz.prog.funcs[81]? = some fn ∧ compF Tryz.prog fn ex = some r81 := ⟨Tryz.f81, ⟨false, false⟩, Tryz.func81, by kernel_rfl⟩
/- cmp.Less[uint16] -/
def c87 : AC := (AC.seq (AC.reg [
  ⟨(some 4), .mov, [.c (.bool false)], none⟩])
 (AC.seq (AC.reg [
  ⟨(some 5), .mov, [.t 0], none⟩,
  ⟨(some 6), .call 119, [.t 5], none⟩,
  ⟨(some 7), .mov, [.t 6], none⟩,
  ⟨(some 8), .mov, [.t 1], (some (7, true))⟩,
  ⟨(some 9), .call 119, [.t 8], (some (7, true))⟩,
  ⟨(some 10), .un .not, [.t 9], (some (7, true))⟩,
  ⟨(some 11), .pick, [.t 7, .t 10, .c (.bool false)], none⟩,
  ⟨(some 12), .mov, [.t 11], none⟩,
  ⟨(some 13), .mov, [.t 0], (some (12, false))⟩,
  ⟨(some 14), .mov, [.t 1], (some (12, false))⟩,
  ⟨(some 15), .bin .lss, [.t 13, .t 14], (some (12, false))⟩,
  ⟨(some 16), .pick, [.t 12, .c (.bool true), .t 15], none⟩,
  ⟨(some 4), .mov, [.t 16], none⟩])
 AC.ret))
def r87 : AC × List RT × Nat := (c87, [.tmp 4], 17)
theorem ok87 : ∃ fn ex, Tryz.prog.funcs[87]? = some fn ∧ compF Tryz.prog fn ex = some r87 := ⟨Tryz.f87, ⟨false, false⟩, Tryz.func87, by kernel_rfl⟩
/- math/bits.Len64 -/
def c91 : AC := (AC.seq (AC.reg [
  ⟨(some 2), .mov, [.c (.int .i64 0)], none⟩])
 (AC.seq (AC.seq (AC.reg [
  ⟨(some 3), .mov, [.t 0], none⟩,
  ⟨(some 4), .bin .geq, [.t 3, .c (.int .u64 4294967296)], none⟩])
 (AC.cond (.t 4)
  (AC.seq (AC.reg [
   ⟨(some 5), .mov, [.t 0], none⟩,
   ⟨(some 6), .bin .shr, [.t 5, .c (.int .u64 32)], none⟩,
   ⟨(some 0), .mov, [.t 6], none⟩])
  (AC.reg [
   ⟨(some 2), .mov, [.c (.int .i64 32)], none⟩]))
  AC.skip))
 (AC.seq (AC.seq (AC.reg [
  ⟨(some 7), .mov, [.t 0], none⟩,
  ⟨(some 8), .bin .geq, [.t 7, .c (.int .u64 65536)], none⟩])
 (AC.cond (.t 8)
  (AC.seq (AC.reg [
   ⟨(some 9), .mov, [.t 0], none⟩,
   ⟨(some 10), .bin .shr, [.t 9, .c (.int .u64 16)], none⟩,
   ⟨(some 0), .mov, [.t 10], none⟩])
  (AC.reg [
   ⟨(some 11), .mov, [.t 2], none⟩,
   ⟨(some 12), .bin .add, [.t 11, .c (.int .i64 16)], none⟩,
   ⟨(some 2), .mov, [.t 12], none⟩]))
  AC.skip))
 (AC.seq (AC.seq (AC.reg [
  ⟨(some 13), .mov, [.t 0], none⟩,
  ⟨(some 14), .bin .geq, [.t 13, .c (.int .u64 256)], none⟩])
 (AC.cond (.t 14)
  (AC.seq (AC.reg [
   ⟨(some 15), .mov, [.t 0], none⟩,
   ⟨(some 16), .bin .shr, [.t 15, .c (.int .u64 8)], none⟩,
   ⟨(some 0), .mov, [.t 16], none⟩])
  (AC.reg [
   ⟨(some 17), .mov, [.t 2], none⟩,
   ⟨(some 18), .bin .add, [.t 17, .c (.int .i64 8)], none⟩,
   ⟨(some 2), .mov, [.t 18], none⟩]))
  AC.skip))
 (AC.seq (AC.reg [
  ⟨(some 19), .mov, [.t 2], none⟩,
  ⟨(some 20), .mov, [.t 0], none⟩,
  ⟨(some 21), .conv .u8, [.t 20], none⟩,
  ⟨(some 22), .idxs, [.c (.str ⟨#[0, 1, 2, 2, 3, 3, 3, 3, 4, 4, 4, 4, 4, 4, 4, 4, 5, 5, 5, 5, 5, 5, 5, 5, 5, 5, 5, 5, 5, 5, 5, 5, 6, 6, 6, 6, 6, 6, 6, 6, 6, 6, 6, 6, 6, 6, 6, 6, 6, 6, 6, 6, 6, 6, 6, 6, 6, 6, 6, 6, 6, 6, 6, 6, 7, 7, 7, 7, 7, 7, 7, 7, 7, 7, 7, 7, 7, 7, 7, 7, 7, 7, 7, 7, 7, 7, 7, 7, 7, 7, 7, 7, 7, 7, 7, 7, 7, 7, 7, 7, 7, 7, 7, 7, 7, 7, 7, 7, 7, 7, 7, 7, 7, 7, 7, 7, 7, 7, 7, 7, 7, 7, 7, 7, 7, 7, 7, 7, 8, 8, 8, 8, 8, 8, 8, 8, 8, 8, 8, 8, 8, 8, 8, 8, 8, 8, 8, 8, 8, 8, 8, 8, 8, 8, 8, 8, 8, 8, 8, 8, 8, 8, 8, 8, 8, 8, 8, 8, 8, 8, 8, 8, 8, 8, 8, 8, 8, 8, 8, 8, 8, 8, 8, 8, 8, 8, 8, 8, 8, 8, 8, 8, 8, 8, 8, 8, 8, 8, 8, 8, 8, 8, 8, 8, 8, 8, 8, 8, 8, 8, 8, 8, 8, 8, 8, 8, 8, 8, 8, 8, 8, 8, 8, 8, 8, 8, 8, 8, 8, 8, 8, 8, 8, 8, 8, 8, 8, 8, 8, 8, 8, 8, 8, 8, 8, 8, 8, 8, 8, 8, 8, 8, 8, 8, 8, 8]⟩), .t 21], none⟩,
  ⟨(some 23), .conv .i64, [.t 22], none⟩,
  ⟨(some 24), .bin .add, [.t 19, .t 23], none⟩,
  ⟨(some 2), .mov, [.t 24], none⟩])
 AC.ret)))))
def r91 : AC × List RT × Nat := (c91, [.tmp 2], 25)
theorem ok91 : ∃ fn ex, Tryz.prog.funcs[91]? = some fn ∧ compF Tryz.prog fn ex = some r91 := ⟨Tryz.f91, ⟨false, false⟩, Tryz.func91, by kernel_rfl⟩
/- umpire/event.within -/
def c92 : AC := (AC.seq (AC.reg [
  ⟨(some 6), .mov, [.c (.bool false)], none⟩])
 (AC.seq (AC.reg [
  ⟨(some 7), .mov, [.t 0], none⟩,
  ⟨(some 8), .mov, [.t 1], none⟩,
  ⟨(some 9), .bin .geq, [.t 7, .t 8], none⟩,
  ⟨(some 10), .mov, [.t 9], none⟩,
  ⟨(some 11), .mov, [.t 0], (some (10, true))⟩,
  ⟨(some 12), .mov, [.t 2], (some (10, true))⟩,
  ⟨(some 13), .bin .leq, [.t 11, .t 12], (some (10, true))⟩,
  ⟨(some 14), .pick, [.t 10, .t 13, .c (.bool false)], none⟩,
  ⟨(some 6), .mov, [.t 14], none⟩])
 AC.ret))
def r92 : AC × List RT × Nat := (c92, [.tmp 6], 15)
theorem ok92 : ∃ fn ex, Tryz.prog.funcs[92]? = some fn ∧ compF Tryz.prog fn ex = some r92 := ⟨Tryz.f92, ⟨false, false⟩, Tryz.func92, by kernel_rfl⟩
/- umpire/event.mayTxn$1 -/
def c108 : AC := (AC.seq (AC.reg [
  ⟨(some 1), .box, [.t 0], none⟩,
  ⟨(some 2), .mov, [.c (.bool false)], none⟩])
 (AC.seq (AC.reg [
  ⟨(some 3), .fld 1, [.t 1], none⟩,
  ⟨(some 4), .load false 1, [.t 3], none⟩,
  ⟨(some 5), .bin .geq, [.t 4, .c (.int .u8 8)], none⟩,
  ⟨(some 6), .mov, [.t 5], none⟩,
  ⟨(some 7), .fld 0, [.t 1], (some (6, false))⟩,
  ⟨(some 8), .load false 1, [.t 7], (some (6, false))⟩,
  ⟨(some 9), .mov, [.t 8], (some (6, false))⟩,
  ⟨(some 10), .fld 2, [.t 1], (some (9, true))⟩,
  ⟨(some 11), .load false 1, [.t 10], (some (9, true))⟩,
  ⟨(some 12), .bin .neq, [.t 11, .c (.int .u16 0)], (some (9, true))⟩,
  ⟨(some 13), .pick, [.t 9, .t 12, .c (.bool false)], (some (6, false))⟩,
  ⟨(some 14), .pick, [.t 6, .c (.bool true), .t 13], none⟩,
  ⟨(some 2), .mov, [.t 14], none⟩])
 AC.ret))
def r108 : AC × List RT × Nat := (c108, [.tmp 2], 15)
theorem ok108 : ∃ fn ex, Tryz.prog.funcs[108]? = some fn ∧ compF Tryz.prog fn ex = some r108 := ⟨Tryz.f108, ⟨false, false⟩, Tryz.func108, by kernel_rfl⟩
/- slices.ContainsFunc[[]umpire/api.Micro,umpire/api.Micro] -/
def c109 : AC := (AC.seq (AC.reg [
  ⟨(some 4), .mov, [.c (.bool false)], none⟩])
 (AC.seq (AC.reg [
  ⟨(some 5), .mov, [.t 0], none⟩,
  ⟨(some 6), .mov, [.t 1], none⟩,
  ⟨(some 7), .call 132, [.t 5, .t 6], none⟩,
  ⟨(some 8), .bin .geq, [.t 7, .c (.int .i64 0)], none⟩,
  ⟨(some 4), .mov, [.t 8], none⟩])
 AC.ret))
def r109 : AC × List RT × Nat := (c109, [.tmp 4], 9)
theorem ok109 : ∃ fn ex, Tryz.prog.funcs[109]? = some fn ∧ compF Tryz.prog fn ex = some r109 := ⟨Tryz.f109, ⟨false, false⟩, Tryz.func109, by kernel_rfl⟩
/- umpire/event.mayReads$1 -/
def c110 : AC := (AC.seq (AC.reg [
  ⟨(some 2), .mov, [.c (.bool false)], none⟩])
 (AC.seq (AC.reg [
  ⟨(some 3), .mov, [.t 0], none⟩,
  ⟨(some 4), .len 1 0, [.t 3], none⟩,
  ⟨(some 5), .bin .gtr, [.t 4, .c (.int .i64 32)], none⟩,
  ⟨(some 2), .mov, [.t 5], none⟩])
 AC.ret))
def r110 : AC × List RT × Nat := (c110, [.tmp 2], 6)
theorem ok110 : ∃ fn ex, Tryz.prog.funcs[110]? = some fn ∧ compF Tryz.prog fn ex = some r110 := ⟨Tryz.f110, ⟨false, false⟩, Tryz.func110, by kernel_rfl⟩
/- slices.ContainsFunc[[][]uint16,[]uint16] -/
def c111 : AC := (AC.seq (AC.reg [
  ⟨(some 4), .mov, [.c (.bool false)], none⟩])
 (AC.seq (AC.reg [
  ⟨(some 5), .mov, [.t 0], none⟩,
  ⟨(some 6), .mov, [.t 1], none⟩,
  ⟨(some 7), .call 133, [.t 5, .t 6], none⟩,
  ⟨(some 8), .bin .geq, [.t 7, .c (.int .i64 0)], none⟩,
  ⟨(some 4), .mov, [.t 8], none⟩])
 AC.ret))
def r111 : AC × List RT × Nat := (c111, [.tmp 4], 9)
theorem ok111 : ∃ fn ex, Tryz.prog.funcs[111]? = some fn ∧ compF Tryz.prog fn ex = some r111 := ⟨Tryz.f111, ⟨false, false⟩, Tryz.func111, by kernel_rfl⟩
/- cmp.isNaN[uint16] -/
def c119 : AC := (AC.seq (AC.reg [
  ⟨(some 2), .mov, [.c (.bool false)], none⟩])
 (AC.seq (AC.reg [
  ⟨(some 3), .mov, [.t 0], none⟩,
  ⟨(some 4), .mov, [.t 0], none⟩,
  ⟨(some 5), .bin .neq, [.t 3, .t 4], none⟩,
  ⟨(some 2), .mov, [.t 5], none⟩])
 AC.ret))
def r119 : AC × List RT × Nat := (c119, [.tmp 2], 6)
theorem ok119 : ∃ fn ex, Tryz.prog.funcs[119]? = some fn ∧ compF Tryz.prog fn ex = some r119 := ⟨Tryz.f119, ⟨false, false⟩, Tryz.func119, by kernel_rfl⟩
/- slices.IndexFunc[[]umpire/api.Micro,umpire/api.Micro] -/
def c132 : AC := (AC.seq (AC.reg [
  ⟨(some 4), .mov, [.c (.int .i64 0)], none⟩])
 (AC.seq (AC.seq (AC.reg [
  ⟨(some 6), .mov, [.t 0], none⟩,
  ⟨(some 7), .len 1 0, [.t 6], none⟩,
  ⟨(some 8), .mov, [.c (.int .i64 0)], none⟩])
 (AC.block 0
  (AC.loop
   (AC.seq (AC.reg [
    ⟨(some 9), .bin .lss, [.t 8, .t 7], none⟩])
   (AC.seq (AC.cond (.t 9)
    AC.skip
    (AC.exit 0))
   (AC.seq (AC.block 1
    (AC.seq (AC.reg [
     ⟨(some 10), .mov, [.t 8], none⟩,
     ⟨(some 5), .mov, [.t 10], none⟩])
    (AC.seq (AC.reg [
     ⟨(some 11), .mov, [.t 1], none⟩,
     ⟨(some 12), .mov, [.t 0], none⟩,
     ⟨(some 13), .mov, [.t 5], none⟩,
     ⟨(some 14), .idxp 3, [.t 12, .t 13], none⟩,
     ⟨(some 15), .load true 3, [.t 14], none⟩,
     ⟨(some 16), .callv, [.t 11, .t 15], none⟩])
    (AC.cond (.t 16)
     (AC.seq (AC.reg [
      ⟨(some 17), .mov, [.t 5], none⟩,
      ⟨(some 4), .mov, [.t 17], none⟩])
     AC.ret)
     AC.skip))))
   (AC.reg [
    ⟨(some 18), .bin .add, [.t 8, .c (.int .i64 1)], none⟩,
    ⟨(some 8), .mov, [.t 18], none⟩])))))))
 (AC.seq (AC.reg [
  ⟨(some 4), .mov, [.c (.int .i64 (-1))], none⟩])
 AC.ret)))
def r132 : AC × List RT × Nat := (c132, [.tmp 4], 19)
theorem ok132 : ∃ fn ex, Tryz.prog.funcs[132]? = some fn ∧ compF Tryz.prog fn ex = some r132 := ⟨Tryz.f132, ⟨false, false⟩, Tryz.func132, by kernel_rfl⟩
/- slices.IndexFunc[[][]uint16,[]uint16] -/
def c133 : AC := (AC.seq (AC.reg [
  ⟨(some 4), .mov, [.c (.int .i64 0)], none⟩])
 (AC.seq (AC.seq (AC.reg [
  ⟨(some 6), .mov, [.t 0], none⟩,
  ⟨(some 7), .len 1 0, [.t 6], none⟩,
  ⟨(some 8), .mov, [.c (.int .i64 0)], none⟩])
 (AC.block 0
  (AC.loop
   (AC.seq (AC.reg [
    ⟨(some 9), .bin .lss, [.t 8, .t 7], none⟩])
   (AC.seq (AC.cond (.t 9)
    AC.skip
    (AC.exit 0))
   (AC.seq (AC.block 1
    (AC.seq (AC.reg [
     ⟨(some 10), .mov, [.t 8], none⟩,
     ⟨(some 5), .mov, [.t 10], none⟩])
    (AC.seq (AC.reg [
     ⟨(some 11), .mov, [.t 1], none⟩,
     ⟨(some 12), .mov, [.t 0], none⟩,
     ⟨(some 13), .mov, [.t 5], none⟩,
     ⟨(some 14), .idxp 1, [.t 12, .t 13], none⟩,
     ⟨(some 15), .load false 1, [.t 14], none⟩,
     ⟨(some 16), .callv, [.t 11, .t 15], none⟩])
    (AC.cond (.t 16)
     (AC.seq (AC.reg [
      ⟨(some 17), .mov, [.t 5], none⟩,
      ⟨(some 4), .mov, [.t 17], none⟩])
     AC.ret)
     AC.skip))))
   (AC.reg [
    ⟨(some 18), .bin .add, [.t 8, .c (.int .i64 1)], none⟩,
    ⟨(some 8), .mov, [.t 18], none⟩])))))))
 (AC.seq (AC.reg [
  ⟨(some 4), .mov, [.c (.int .i64 (-1))], none⟩])
 AC.ret)))
def r133 : AC × List RT × Nat := (c133, [.tmp 4], 19)
theorem ok133 : ∃ fn ex, Tryz.prog.funcs[133]? = some fn ∧ compF Tryz.prog fn ex = some r133 := ⟨Tryz.f133, ⟨false, false⟩, Tryz.func133, by kernel_rfl⟩
def irs : Tr (AC × List RT × Nat) := (Tr.node none (Tr.node none (Tr.node none (Tr.node (some r7) (Tr.node (some r15) (Tr.node (some r31) Tr.nil Tr.nil) (Tr.node none Tr.nil (Tr.node (some r111) Tr.nil Tr.nil))) (Tr.node (some r23) (Tr.node (some r39) Tr.nil Tr.nil) (Tr.node (some r55) (Tr.node (some r87) Tr.nil Tr.nil) (Tr.node (some r119) Tr.nil Tr.nil)))) (Tr.node (some r11) (Tr.node (some r19) (Tr.node (some r35) Tr.nil Tr.nil) (Tr.node (some r51) Tr.nil Tr.nil)) (Tr.node (some r27) (Tr.node (some r43) Tr.nil Tr.nil) (Tr.node none (Tr.node (some r91) Tr.nil Tr.nil) Tr.nil)))) (Tr.node none (Tr.node (some r9) (Tr.node (some r17) (Tr.node (some r33) Tr.nil Tr.nil) (Tr.node (some r49) (Tr.node (some r81) Tr.nil Tr.nil) Tr.nil)) (Tr.node (some r25) (Tr.node none (Tr.node (some r73) Tr.nil Tr.nil) Tr.nil) Tr.nil)) (Tr.node none (Tr.node (some r21) (Tr.node none (Tr.node none (Tr.node (some r133) Tr.nil Tr.nil) Tr.nil) Tr.nil) (Tr.node (some r53) Tr.nil Tr.nil)) (Tr.node (some r29) (Tr.node (some r45) (Tr.node (some r77) Tr.nil Tr.nil) (Tr.node (some r109) Tr.nil Tr.nil)) Tr.nil)))) (Tr.node none (Tr.node (some r4) (Tr.node (some r8) (Tr.node (some r16) (Tr.node (some r32) Tr.nil Tr.nil) Tr.nil) (Tr.node (some r24) Tr.nil Tr.nil)) (Tr.node (some r12) (Tr.node (some r20) (Tr.node (some r36) (Tr.node none (Tr.node (some r132) Tr.nil Tr.nil) Tr.nil) Tr.nil) (Tr.node (some r52) Tr.nil Tr.nil)) (Tr.node (some r28) (Tr.node (some r44) Tr.nil (Tr.node (some r108) Tr.nil Tr.nil)) (Tr.node none (Tr.node (some r92) Tr.nil Tr.nil) Tr.nil)))) (Tr.node (some r6) (Tr.node (some r10) (Tr.node (some r18) (Tr.node (some r34) Tr.nil Tr.nil) (Tr.node (some r50) Tr.nil Tr.nil)) (Tr.node (some r26) (Tr.node (some r42) (Tr.node (some r74) Tr.nil Tr.nil) Tr.nil) Tr.nil)) (Tr.node none (Tr.node (some r22) Tr.nil (Tr.node (some r54) Tr.nil Tr.nil)) (Tr.node (some r30) (Tr.node (some r46) (Tr.node (some r78) Tr.nil Tr.nil) (Tr.node (some r110) Tr.nil Tr.nil)) Tr.nil)))))
theorem irs_all : irs.allP (fun f x => ∃ fn ex, Tryz.prog.funcs[f]? = some fn ∧ compF Tryz.prog fn ex = some x) id := ⟨(fun _ h => by cases h), ⟨(fun _ h => by cases h), ⟨(fun _ h => by cases h), ⟨(fun _ h => (Option.some.inj h) ▸ ok7), ⟨(fun _ h => (Option.some.inj h) ▸ ok15), ⟨(fun _ h => (Option.some.inj h) ▸ ok31), trivial, trivial⟩, ⟨(fun _ h => by cases h), trivial, ⟨(fun _ h => (Option.some.inj h) ▸ ok111), trivial, trivial⟩⟩⟩, ⟨(fun _ h => (Option.some.inj h) ▸ ok23), ⟨(fun _ h => (Option.some.inj h) ▸ ok39), trivial, trivial⟩, ⟨(fun _ h => (Option.some.inj h) ▸ ok55), ⟨(fun _ h => (Option.some.inj h) ▸ ok87), trivial, trivial⟩, ⟨(fun _ h => (Option.some.inj h) ▸ ok119), trivial, trivial⟩⟩⟩⟩, ⟨(fun _ h => (Option.some.inj h) ▸ ok11), ⟨(fun _ h => (Option.some.inj h) ▸ ok19), ⟨(fun _ h => (Option.some.inj h) ▸ ok35), trivial, trivial⟩, ⟨(fun _ h => (Option.some.inj h) ▸ ok51), trivial, trivial⟩⟩, ⟨(fun _ h => (Option.some.inj h) ▸ ok27), ⟨(fun _ h => (Option.some.inj h) ▸ ok43), trivial, trivial⟩, ⟨(fun _ h => by cases h), ⟨(fun _ h => (Option.some.inj h) ▸ ok91), trivial, trivial⟩, trivial⟩⟩⟩⟩, ⟨(fun _ h => by cases h), ⟨(fun _ h => (Option.some.inj h) ▸ ok9), ⟨(fun _ h => (Option.some.inj h) ▸ ok17), ⟨(fun _ h => (Option.some.inj h) ▸ ok33), trivial, trivial⟩, ⟨(fun _ h => (Option.some.inj h) ▸ ok49), ⟨(fun _ h => (Option.some.inj h) ▸ ok81), trivial, trivial⟩, trivial⟩⟩, ⟨(fun _ h => (Option.some.inj h) ▸ ok25), ⟨(fun _ h => by cases h), ⟨(fun _ h => (Option.some.inj h) ▸ ok73), trivial, trivial⟩, trivial⟩, trivial⟩⟩, ⟨(fun _ h => by cases h), ⟨(fun _ h => (Option.some.inj h) ▸ ok21), ⟨(fun _ h => by cases h), ⟨(fun _ h => by cases h), ⟨(fun _ h => (Option.some.inj h) ▸ ok133), trivial, trivial⟩, trivial⟩, trivial⟩, ⟨(fun _ h => (Option.some.inj h) ▸ ok53), trivial, trivial⟩⟩, ⟨(fun _ h => (Option.some.inj h) ▸ ok29), ⟨(fun _ h => (Option.some.inj h) ▸ ok45), ⟨(fun _ h => (Option.some.inj h) ▸ ok77), trivial, trivial⟩, ⟨(fun _ h => (Option.some.inj h) ▸ ok109), trivial, trivial⟩⟩, trivial⟩⟩⟩⟩, ⟨(fun _ h => by cases h), ⟨(fun _ h => (Option.some.inj h) ▸ ok4), ⟨(fun _ h => (Option.some.inj h) ▸ ok8), ⟨(fun _ h => (Option.some.inj h) ▸ ok16), ⟨(fun _ h => (Option.some.inj h) ▸ ok32), trivial, trivial⟩, trivial⟩, ⟨(fun _ h => (Option.some.inj h) ▸ ok24), trivial, trivial⟩⟩, ⟨(fun _ h => (Option.some.inj h) ▸ ok12), ⟨(fun _ h => (Option.some.inj h) ▸ ok20), ⟨(fun _ h => (Option.some.inj h) ▸ ok36), ⟨(fun _ h => by cases h), ⟨(fun _ h => (Option.some.inj h) ▸ ok132), trivial, trivial⟩, trivial⟩, trivial⟩, ⟨(fun _ h => (Option.some.inj h) ▸ ok52), trivial, trivial⟩⟩, ⟨(fun _ h => (Option.some.inj h) ▸ ok28), ⟨(fun _ h => (Option.some.inj h) ▸ ok44), trivial, ⟨(fun _ h => (Option.some.inj h) ▸ ok108), trivial, trivial⟩⟩, ⟨(fun _ h => by cases h), ⟨(fun _ h => (Option.some.inj h) ▸ ok92), trivial, trivial⟩, trivial⟩⟩⟩⟩, ⟨(fun _ h => (Option.some.inj h) ▸ ok6), ⟨(fun _ h => (Option.some.inj h) ▸ ok10), ⟨(fun _ h => (Option.some.inj h) ▸ ok18), ⟨(fun _ h => (Option.some.inj h) ▸ ok34), trivial, trivial⟩, ⟨(fun _ h => (Option.some.inj h) ▸ ok50), trivial, trivial⟩⟩, ⟨(fun _ h => (Option.some.inj h) ▸ ok26), ⟨(fun _ h => (Option.some.inj h) ▸ ok42), ⟨(fun _ h => (Option.some.inj h) ▸ ok74), trivial, trivial⟩, trivial⟩, trivial⟩⟩, ⟨(fun _ h => by cases h), ⟨(fun _ h => (Option.some.inj h) ▸ ok22), trivial, ⟨(fun _ h => (Option.some.inj h) ▸ ok54), trivial, trivial⟩⟩, ⟨(fun _ h => (Option.some.inj h) ▸ ok30), ⟨(fun _ h => (Option.some.inj h) ▸ ok46), ⟨(fun _ h => (Option.some.inj h) ▸ ok78), trivial, trivial⟩, ⟨(fun _ h => (Option.some.inj h) ▸ ok110), trivial, trivial⟩⟩, trivial⟩⟩⟩⟩⟩

theorem irs_ok : IrsOk Tryz.prog irs := Tr.allP_get irs_all
end Go.Proofs.YtchoohbdpkolgaaGreatDoor.Known
