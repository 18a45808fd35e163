/- What the program's functions do, part 5. Conditions: none. -/
import Derived.Test.YtpclhmihehcniaaGreatDoorBd
set_option maxRecDepth 100000
set_option maxHeartbeats 2000000
namespace Go.AL.S
open Go Go.AL Go.AL.SE Go.Proofs
variable {E : Env}
/-! a map from IDs to how often they were met -/
/-! two stores -/
end Go.AL.S
set_option maxRecDepth 100000
set_option maxHeartbeats 2000000
namespace Go.AL.S
open Go Go.AL Go.AL.SE Go.Proofs
variable {E : Env}
section
variable {W W1 W2 : AW} {p ra rw q p' ra' rw' q' c3 c5 : Nat} {s : Str} {o : Ods} {s' : Str} {o' : Ods} {s1 : Str} {o1 : Ods}
end
end Go.AL.S
set_option maxRecDepth 100000
set_option maxHeartbeats 2000000
namespace Go.AL.S
open Go Go.AL Go.AL.SE Go.Proofs
variable {E : Env}
end Go.AL.S
set_option maxRecDepth 100000
set_option maxHeartbeats 2000000
namespace Go.AL.S
open Go Go.AL Go.AL.SE Go.Proofs
variable {E : Env}
end Go.AL.S
set_option maxRecDepth 100000
set_option maxHeartbeats 2000000
namespace Go.AL.S
open Go Go.AL Go.AL.SE Go.Proofs
def c_holdsL_B5 : AC := (AC.block 5 (AC.seq (AC.par (PT.step 0 ⟨some 77, .fld 0, [.t 5], none⟩ (PT.step 2 ⟨some 79, .mov, [.t 11], none⟩ (PT.step 3 ⟨some 80, .mov, [.t 13], none⟩ (PT.alt (PT.step 1 ⟨some 78, .load false 1, [.t 77], none⟩ (PT.alt (PT.step 4 ⟨some 81, .idxp 3, [.t 79, .t 80], none⟩ (PT.step 5 ⟨some 82, .fld 0, [.t 81], none⟩ (PT.alt (PT.step 6 ⟨some 83, .load false 1, [.t 82], none⟩ (PT.alt (PT.step 7 ⟨some 84, .pcall 18, [.t 78, .t 83], none⟩ (PT.step 8 ⟨some 76, .mov, [.t 84], none⟩ (PT.step 9 ⟨some 85, .ext 0, [.t 76], none⟩ (PT.step 10 ⟨some 86, .ext 1, [.t 76], none⟩ (PT.step 11 ⟨some 14, .alloc [.int .u16 0, .int .u8 0, .nilsl, .nilsl, .int .u8 0], [], none⟩ (PT.step 12 ⟨none, .store 5, [.t 14, .t 85], none⟩ (PT.step 13 ⟨some 15, .mov, [.t 86], none⟩ PT.done))))))) (PT.step 11 ⟨some 14, .alloc [.int .u16 0, .int .u8 0, .nilsl, .nilsl, .int .u8 0], [], none⟩ (PT.step 7 ⟨some 84, .pcall 18, [.t 78, .t 83], none⟩ (PT.step 8 ⟨some 76, .mov, [.t 84], none⟩ (PT.step 9 ⟨some 85, .ext 0, [.t 76], none⟩ (PT.step 10 ⟨some 86, .ext 1, [.t 76], none⟩ (PT.step 12 ⟨none, .store 5, [.t 14, .t 85], none⟩ (PT.step 13 ⟨some 15, .mov, [.t 86], none⟩ PT.done))))))))) (PT.step 11 ⟨some 14, .alloc [.int .u16 0, .int .u8 0, .nilsl, .nilsl, .int .u8 0], [], none⟩ (PT.step 6 ⟨some 83, .load false 1, [.t 82], none⟩ (PT.step 7 ⟨some 84, .pcall 18, [.t 78, .t 83], none⟩ (PT.step 8 ⟨some 76, .mov, [.t 84], none⟩ (PT.step 9 ⟨some 85, .ext 0, [.t 76], none⟩ (PT.step 10 ⟨some 86, .ext 1, [.t 76], none⟩ (PT.step 12 ⟨none, .store 5, [.t 14, .t 85], none⟩ (PT.step 13 ⟨some 15, .mov, [.t 86], none⟩ PT.done))))))))))) (PT.step 11 ⟨some 14, .alloc [.int .u16 0, .int .u8 0, .nilsl, .nilsl, .int .u8 0], [], none⟩ (PT.step 4 ⟨some 81, .idxp 3, [.t 79, .t 80], none⟩ (PT.step 5 ⟨some 82, .fld 0, [.t 81], none⟩ (PT.step 6 ⟨some 83, .load false 1, [.t 82], none⟩ (PT.step 7 ⟨some 84, .pcall 18, [.t 78, .t 83], none⟩ (PT.step 8 ⟨some 76, .mov, [.t 84], none⟩ (PT.step 9 ⟨some 85, .ext 0, [.t 76], none⟩ (PT.step 10 ⟨some 86, .ext 1, [.t 76], none⟩ (PT.step 12 ⟨none, .store 5, [.t 14, .t 85], none⟩ (PT.step 13 ⟨some 15, .mov, [.t 86], none⟩ PT.done)))))))))))) (PT.alt (PT.step 4 ⟨some 81, .idxp 3, [.t 79, .t 80], none⟩ (PT.step 5 ⟨some 82, .fld 0, [.t 81], none⟩ (PT.alt (PT.step 1 ⟨some 78, .load false 1, [.t 77], none⟩ (PT.alt (PT.step 6 ⟨some 83, .load false 1, [.t 82], none⟩ (PT.alt (PT.step 7 ⟨some 84, .pcall 18, [.t 78, .t 83], none⟩ (PT.step 8 ⟨some 76, .mov, [.t 84], none⟩ (PT.step 9 ⟨some 85, .ext 0, [.t 76], none⟩ (PT.step 10 ⟨some 86, .ext 1, [.t 76], none⟩ (PT.step 11 ⟨some 14, .alloc [.int .u16 0, .int .u8 0, .nilsl, .nilsl, .int .u8 0], [], none⟩ (PT.step 12 ⟨none, .store 5, [.t 14, .t 85], none⟩ (PT.step 13 ⟨some 15, .mov, [.t 86], none⟩ PT.done))))))) (PT.step 11 ⟨some 14, .alloc [.int .u16 0, .int .u8 0, .nilsl, .nilsl, .int .u8 0], [], none⟩ (PT.step 7 ⟨some 84, .pcall 18, [.t 78, .t 83], none⟩ (PT.step 8 ⟨some 76, .mov, [.t 84], none⟩ (PT.step 9 ⟨some 85, .ext 0, [.t 76], none⟩ (PT.step 10 ⟨some 86, .ext 1, [.t 76], none⟩ (PT.step 12 ⟨none, .store 5, [.t 14, .t 85], none⟩ (PT.step 13 ⟨some 15, .mov, [.t 86], none⟩ PT.done))))))))) (PT.step 11 ⟨some 14, .alloc [.int .u16 0, .int .u8 0, .nilsl, .nilsl, .int .u8 0], [], none⟩ (PT.step 6 ⟨some 83, .load false 1, [.t 82], none⟩ (PT.step 7 ⟨some 84, .pcall 18, [.t 78, .t 83], none⟩ (PT.step 8 ⟨some 76, .mov, [.t 84], none⟩ (PT.step 9 ⟨some 85, .ext 0, [.t 76], none⟩ (PT.step 10 ⟨some 86, .ext 1, [.t 76], none⟩ (PT.step 12 ⟨none, .store 5, [.t 14, .t 85], none⟩ (PT.step 13 ⟨some 15, .mov, [.t 86], none⟩ PT.done)))))))))) (PT.alt (PT.step 6 ⟨some 83, .load false 1, [.t 82], none⟩ (PT.alt (PT.step 1 ⟨some 78, .load false 1, [.t 77], none⟩ (PT.alt (PT.step 7 ⟨some 84, .pcall 18, [.t 78, .t 83], none⟩ (PT.step 8 ⟨some 76, .mov, [.t 84], none⟩ (PT.step 9 ⟨some 85, .ext 0, [.t 76], none⟩ (PT.step 10 ⟨some 86, .ext 1, [.t 76], none⟩ (PT.step 11 ⟨some 14, .alloc [.int .u16 0, .int .u8 0, .nilsl, .nilsl, .int .u8 0], [], none⟩ (PT.step 12 ⟨none, .store 5, [.t 14, .t 85], none⟩ (PT.step 13 ⟨some 15, .mov, [.t 86], none⟩ PT.done))))))) (PT.step 11 ⟨some 14, .alloc [.int .u16 0, .int .u8 0, .nilsl, .nilsl, .int .u8 0], [], none⟩ (PT.step 7 ⟨some 84, .pcall 18, [.t 78, .t 83], none⟩ (PT.step 8 ⟨some 76, .mov, [.t 84], none⟩ (PT.step 9 ⟨some 85, .ext 0, [.t 76], none⟩ (PT.step 10 ⟨some 86, .ext 1, [.t 76], none⟩ (PT.step 12 ⟨none, .store 5, [.t 14, .t 85], none⟩ (PT.step 13 ⟨some 15, .mov, [.t 86], none⟩ PT.done))))))))) (PT.step 11 ⟨some 14, .alloc [.int .u16 0, .int .u8 0, .nilsl, .nilsl, .int .u8 0], [], none⟩ (PT.step 1 ⟨some 78, .load false 1, [.t 77], none⟩ (PT.step 7 ⟨some 84, .pcall 18, [.t 78, .t 83], none⟩ (PT.step 8 ⟨some 76, .mov, [.t 84], none⟩ (PT.step 9 ⟨some 85, .ext 0, [.t 76], none⟩ (PT.step 10 ⟨some 86, .ext 1, [.t 76], none⟩ (PT.step 12 ⟨none, .store 5, [.t 14, .t 85], none⟩ (PT.step 13 ⟨some 15, .mov, [.t 86], none⟩ PT.done)))))))))) (PT.step 11 ⟨some 14, .alloc [.int .u16 0, .int .u8 0, .nilsl, .nilsl, .int .u8 0], [], none⟩ (PT.step 1 ⟨some 78, .load false 1, [.t 77], none⟩ (PT.step 6 ⟨some 83, .load false 1, [.t 82], none⟩ (PT.step 7 ⟨some 84, .pcall 18, [.t 78, .t 83], none⟩ (PT.step 8 ⟨some 76, .mov, [.t 84], none⟩ (PT.step 9 ⟨some 85, .ext 0, [.t 76], none⟩ (PT.step 10 ⟨some 86, .ext 1, [.t 76], none⟩ (PT.step 12 ⟨none, .store 5, [.t 14, .t 85], none⟩ (PT.step 13 ⟨some 15, .mov, [.t 86], none⟩ PT.done))))))))))))) (PT.step 11 ⟨some 14, .alloc [.int .u16 0, .int .u8 0, .nilsl, .nilsl, .int .u8 0], [], none⟩ (PT.step 1 ⟨some 78, .load false 1, [.t 77], none⟩ (PT.step 4 ⟨some 81, .idxp 3, [.t 79, .t 80], none⟩ (PT.step 5 ⟨some 82, .fld 0, [.t 81], none⟩ (PT.step 6 ⟨some 83, .load false 1, [.t 82], none⟩ (PT.step 7 ⟨some 84, .pcall 18, [.t 78, .t 83], none⟩ (PT.step 8 ⟨some 76, .mov, [.t 84], none⟩ (PT.step 9 ⟨some 85, .ext 0, [.t 76], none⟩ (PT.step 10 ⟨some 86, .ext 1, [.t 76], none⟩ (PT.step 12 ⟨none, .store 5, [.t 14, .t 85], none⟩ (PT.step 13 ⟨some 15, .mov, [.t 86], none⟩ PT.done))))))))))))))))) (AC.seq (AC.par (PT.step 0 ⟨some 88, .fld 0, [.t 5], none⟩ (PT.step 2 ⟨some 90, .mov, [.t 11], none⟩ (PT.step 3 ⟨some 91, .mov, [.t 13], none⟩ (PT.alt (PT.step 1 ⟨some 89, .load false 1, [.t 88], none⟩ (PT.alt (PT.step 4 ⟨some 92, .idxp 3, [.t 90, .t 91], none⟩ (PT.step 5 ⟨some 93, .fld 1, [.t 92], none⟩ (PT.alt (PT.step 6 ⟨some 94, .load false 1, [.t 93], none⟩ (PT.alt (PT.step 7 ⟨some 95, .pcall 18, [.t 89, .t 94], none⟩ (PT.step 8 ⟨some 87, .mov, [.t 95], none⟩ (PT.step 9 ⟨some 96, .ext 0, [.t 87], none⟩ (PT.step 10 ⟨some 97, .ext 1, [.t 87], none⟩ (PT.step 11 ⟨some 16, .alloc [.int .u16 0, .int .u8 0, .nilsl, .nilsl, .int .u8 0], [], none⟩ (PT.step 12 ⟨none, .store 5, [.t 16, .t 96], none⟩ (PT.step 13 ⟨some 17, .mov, [.t 97], none⟩ PT.done))))))) (PT.step 11 ⟨some 16, .alloc [.int .u16 0, .int .u8 0, .nilsl, .nilsl, .int .u8 0], [], none⟩ (PT.step 7 ⟨some 95, .pcall 18, [.t 89, .t 94], none⟩ (PT.step 8 ⟨some 87, .mov, [.t 95], none⟩ (PT.step 9 ⟨some 96, .ext 0, [.t 87], none⟩ (PT.step 10 ⟨some 97, .ext 1, [.t 87], none⟩ (PT.step 12 ⟨none, .store 5, [.t 16, .t 96], none⟩ (PT.step 13 ⟨some 17, .mov, [.t 97], none⟩ PT.done))))))))) (PT.step 11 ⟨some 16, .alloc [.int .u16 0, .int .u8 0, .nilsl, .nilsl, .int .u8 0], [], none⟩ (PT.step 6 ⟨some 94, .load false 1, [.t 93], none⟩ (PT.step 7 ⟨some 95, .pcall 18, [.t 89, .t 94], none⟩ (PT.step 8 ⟨some 87, .mov, [.t 95], none⟩ (PT.step 9 ⟨some 96, .ext 0, [.t 87], none⟩ (PT.step 10 ⟨some 97, .ext 1, [.t 87], none⟩ (PT.step 12 ⟨none, .store 5, [.t 16, .t 96], none⟩ (PT.step 13 ⟨some 17, .mov, [.t 97], none⟩ PT.done))))))))))) (PT.step 11 ⟨some 16, .alloc [.int .u16 0, .int .u8 0, .nilsl, .nilsl, .int .u8 0], [], none⟩ (PT.step 4 ⟨some 92, .idxp 3, [.t 90, .t 91], none⟩ (PT.step 5 ⟨some 93, .fld 1, [.t 92], none⟩ (PT.step 6 ⟨some 94, .load false 1, [.t 93], none⟩ (PT.step 7 ⟨some 95, .pcall 18, [.t 89, .t 94], none⟩ (PT.step 8 ⟨some 87, .mov, [.t 95], none⟩ (PT.step 9 ⟨some 96, .ext 0, [.t 87], none⟩ (PT.step 10 ⟨some 97, .ext 1, [.t 87], none⟩ (PT.step 12 ⟨none, .store 5, [.t 16, .t 96], none⟩ (PT.step 13 ⟨some 17, .mov, [.t 97], none⟩ PT.done)))))))))))) (PT.alt (PT.step 4 ⟨some 92, .idxp 3, [.t 90, .t 91], none⟩ (PT.step 5 ⟨some 93, .fld 1, [.t 92], none⟩ (PT.alt (PT.step 1 ⟨some 89, .load false 1, [.t 88], none⟩ (PT.alt (PT.step 6 ⟨some 94, .load false 1, [.t 93], none⟩ (PT.alt (PT.step 7 ⟨some 95, .pcall 18, [.t 89, .t 94], none⟩ (PT.step 8 ⟨some 87, .mov, [.t 95], none⟩ (PT.step 9 ⟨some 96, .ext 0, [.t 87], none⟩ (PT.step 10 ⟨some 97, .ext 1, [.t 87], none⟩ (PT.step 11 ⟨some 16, .alloc [.int .u16 0, .int .u8 0, .nilsl, .nilsl, .int .u8 0], [], none⟩ (PT.step 12 ⟨none, .store 5, [.t 16, .t 96], none⟩ (PT.step 13 ⟨some 17, .mov, [.t 97], none⟩ PT.done))))))) (PT.step 11 ⟨some 16, .alloc [.int .u16 0, .int .u8 0, .nilsl, .nilsl, .int .u8 0], [], none⟩ (PT.step 7 ⟨some 95, .pcall 18, [.t 89, .t 94], none⟩ (PT.step 8 ⟨some 87, .mov, [.t 95], none⟩ (PT.step 9 ⟨some 96, .ext 0, [.t 87], none⟩ (PT.step 10 ⟨some 97, .ext 1, [.t 87], none⟩ (PT.step 12 ⟨none, .store 5, [.t 16, .t 96], none⟩ (PT.step 13 ⟨some 17, .mov, [.t 97], none⟩ PT.done))))))))) (PT.step 11 ⟨some 16, .alloc [.int .u16 0, .int .u8 0, .nilsl, .nilsl, .int .u8 0], [], none⟩ (PT.step 6 ⟨some 94, .load false 1, [.t 93], none⟩ (PT.step 7 ⟨some 95, .pcall 18, [.t 89, .t 94], none⟩ (PT.step 8 ⟨some 87, .mov, [.t 95], none⟩ (PT.step 9 ⟨some 96, .ext 0, [.t 87], none⟩ (PT.step 10 ⟨some 97, .ext 1, [.t 87], none⟩ (PT.step 12 ⟨none, .store 5, [.t 16, .t 96], none⟩ (PT.step 13 ⟨some 17, .mov, [.t 97], none⟩ PT.done)))))))))) (PT.alt (PT.step 6 ⟨some 94, .load false 1, [.t 93], none⟩ (PT.alt (PT.step 1 ⟨some 89, .load false 1, [.t 88], none⟩ (PT.alt (PT.step 7 ⟨some 95, .pcall 18, [.t 89, .t 94], none⟩ (PT.step 8 ⟨some 87, .mov, [.t 95], none⟩ (PT.step 9 ⟨some 96, .ext 0, [.t 87], none⟩ (PT.step 10 ⟨some 97, .ext 1, [.t 87], none⟩ (PT.step 11 ⟨some 16, .alloc [.int .u16 0, .int .u8 0, .nilsl, .nilsl, .int .u8 0], [], none⟩ (PT.step 12 ⟨none, .store 5, [.t 16, .t 96], none⟩ (PT.step 13 ⟨some 17, .mov, [.t 97], none⟩ PT.done))))))) (PT.step 11 ⟨some 16, .alloc [.int .u16 0, .int .u8 0, .nilsl, .nilsl, .int .u8 0], [], none⟩ (PT.step 7 ⟨some 95, .pcall 18, [.t 89, .t 94], none⟩ (PT.step 8 ⟨some 87, .mov, [.t 95], none⟩ (PT.step 9 ⟨some 96, .ext 0, [.t 87], none⟩ (PT.step 10 ⟨some 97, .ext 1, [.t 87], none⟩ (PT.step 12 ⟨none, .store 5, [.t 16, .t 96], none⟩ (PT.step 13 ⟨some 17, .mov, [.t 97], none⟩ PT.done))))))))) (PT.step 11 ⟨some 16, .alloc [.int .u16 0, .int .u8 0, .nilsl, .nilsl, .int .u8 0], [], none⟩ (PT.step 1 ⟨some 89, .load false 1, [.t 88], none⟩ (PT.step 7 ⟨some 95, .pcall 18, [.t 89, .t 94], none⟩ (PT.step 8 ⟨some 87, .mov, [.t 95], none⟩ (PT.step 9 ⟨some 96, .ext 0, [.t 87], none⟩ (PT.step 10 ⟨some 97, .ext 1, [.t 87], none⟩ (PT.step 12 ⟨none, .store 5, [.t 16, .t 96], none⟩ (PT.step 13 ⟨some 17, .mov, [.t 97], none⟩ PT.done)))))))))) (PT.step 11 ⟨some 16, .alloc [.int .u16 0, .int .u8 0, .nilsl, .nilsl, .int .u8 0], [], none⟩ (PT.step 1 ⟨some 89, .load false 1, [.t 88], none⟩ (PT.step 6 ⟨some 94, .load false 1, [.t 93], none⟩ (PT.step 7 ⟨some 95, .pcall 18, [.t 89, .t 94], none⟩ (PT.step 8 ⟨some 87, .mov, [.t 95], none⟩ (PT.step 9 ⟨some 96, .ext 0, [.t 87], none⟩ (PT.step 10 ⟨some 97, .ext 1, [.t 87], none⟩ (PT.step 12 ⟨none, .store 5, [.t 16, .t 96], none⟩ (PT.step 13 ⟨some 17, .mov, [.t 97], none⟩ PT.done))))))))))))) (PT.step 11 ⟨some 16, .alloc [.int .u16 0, .int .u8 0, .nilsl, .nilsl, .int .u8 0], [], none⟩ (PT.step 1 ⟨some 89, .load false 1, [.t 88], none⟩ (PT.step 4 ⟨some 92, .idxp 3, [.t 90, .t 91], none⟩ (PT.step 5 ⟨some 93, .fld 1, [.t 92], none⟩ (PT.step 6 ⟨some 94, .load false 1, [.t 93], none⟩ (PT.step 7 ⟨some 95, .pcall 18, [.t 89, .t 94], none⟩ (PT.step 8 ⟨some 87, .mov, [.t 95], none⟩ (PT.step 9 ⟨some 96, .ext 0, [.t 87], none⟩ (PT.step 10 ⟨some 97, .ext 1, [.t 87], none⟩ (PT.step 12 ⟨none, .store 5, [.t 16, .t 96], none⟩ (PT.step 13 ⟨some 17, .mov, [.t 97], none⟩ PT.done))))))))))))))))) (AC.seq (AC.par (PT.step 0 ⟨some 98, .mov, [.t 15], none⟩ (PT.step 1 ⟨some 99, .un .not, [.t 98], none⟩ (PT.step 2 ⟨some 100, .mov, [.t 99], none⟩ (PT.step 3 ⟨some 101, .mov, [.t 17], (some (100, false))⟩ (PT.step 4 ⟨some 102, .un .not, [.t 101], (some (100, false))⟩ (PT.step 5 ⟨some 103, .pick, [.t 100, .c (.bool true), .t 102], none⟩ (PT.step 6 ⟨some 104, .mov, [.t 103], none⟩ (PT.step 7 ⟨some 105, .load true 5, [.t 14], (some (104, false))⟩ (PT.step 8 ⟨some 106, .call 19, [.t 105], (some (104, false))⟩ (PT.step 9 ⟨some 107, .un .not, [.t 106], (some (104, false))⟩ (PT.step 10 ⟨some 108, .pick, [.t 104, .c (.bool true), .t 107], none⟩ (PT.step 11 ⟨some 109, .mov, [.t 108], none⟩ (PT.step 12 ⟨some 110, .load true 5, [.t 16], (some (109, false))⟩ (PT.step 13 ⟨some 111, .call 19, [.t 110], (some (109, false))⟩ (PT.step 14 ⟨some 112, .un .not, [.t 111], (some (109, false))⟩ (PT.step 15 ⟨some 113, .pick, [.t 109, .c (.bool true), .t 112], none⟩ (PT.step 16 ⟨some 114, .mov, [.t 113], none⟩ (PT.step 17 ⟨some 115, .fld 0, [.t 14], (some (114, false))⟩ (PT.step 19 ⟨some 117, .fld 0, [.t 16], (some (114, false))⟩ (PT.step 18 ⟨some 116, .load false 1, [.t 115], (some (114, false))⟩ (PT.step 20 ⟨some 118, .load false 1, [.t 117], (some (114, false))⟩ (PT.step 21 ⟨some 119, .bin .eql, [.t 116, .t 118], (some (114, false))⟩ (PT.step 22 ⟨some 120, .pick, [.t 114, .c (.bool true), .t 119], none⟩ (PT.step 23 ⟨some 121, .mov, [.t 120], none⟩ (PT.step 25 ⟨some 123, .mov, [.t 11], (some (121, false))⟩ (PT.step 26 ⟨some 124, .mov, [.t 13], (some (121, false))⟩ (PT.step 24 ⟨some 122, .load true 2, [.t 5], (some (121, false))⟩ (PT.step 27 ⟨some 125, .idxp 3, [.t 123, .t 124], (some (121, false))⟩ (PT.step 28 ⟨some 126, .load true 3, [.t 125], (some (121, false))⟩ (PT.step 29 ⟨some 127, .load true 8, [.t 8], (some (121, false))⟩ (PT.step 30 ⟨some 128, .call 20, [.t 122, .t 126, .t 127], (some (121, false))⟩ (PT.step 31 ⟨some 129, .un .not, [.t 128], (some (121, false))⟩ (PT.step 32 ⟨some 130, .pick, [.t 121, .c (.bool true), .t 129], none⟩ PT.done)))))))))))))))))))))))))))))))))) (AC.cond (.t 130) (AC.seq (AC.reg [⟨some 4, .mov, [.c (.bool false)], none⟩]) AC.ret) AC.skip)))))
def c_holdsL_0 : AC := (AC.seq (AC.seq (AC.reg [⟨some 33, .mov, [.t 7], none⟩,⟨some 34, .mov, [.t 0], none⟩,⟨some 35, .len 1 0, [.t 34], none⟩,⟨some 36, .bin .lss, [.t 33, .t 35], none⟩]) (AC.cond (.t 36) AC.skip (AC.exit 0))) (AC.seq (AC.block 1 (AC.par (PT.step 1 ⟨some 40, .mov, [.t 0], none⟩ (PT.step 2 ⟨some 41, .mov, [.t 7], none⟩ (PT.step 0 ⟨some 39, .load true 2, [.t 5], none⟩ (PT.step 3 ⟨some 42, .idxp 5, [.t 40, .t 41], none⟩ (PT.step 4 ⟨some 43, .load true 5, [.t 42], none⟩ (PT.step 5 ⟨some 44, .call 11, [.t 39, .t 43], none⟩ PT.done)))))))) (AC.reg [⟨some 37, .mov, [.t 7], none⟩,⟨some 38, .bin .add, [.t 37, .c (.int .i64 1)], none⟩,⟨some 7, .mov, [.t 38], none⟩])))
def c_holdsL_1 : AC := (AC.seq (AC.seq (AC.reg [⟨some 45, .mov, [.t 9], none⟩,⟨some 46, .bin .lss, [.t 45, .c (.int .i64 8)], none⟩]) (AC.cond (.t 46) AC.skip (AC.exit 2))) (AC.seq (AC.block 3 (AC.par (PT.step 0 ⟨some 49, .mov, [.t 9], none⟩ (PT.step 2 ⟨some 51, .mov, [.t 9], none⟩ (PT.step 3 ⟨some 52, .conv .u8, [.t 51], none⟩ (PT.step 4 ⟨some 53, .mov, [.t 9], none⟩ (PT.step 5 ⟨some 54, .idxa 8 1, [.t 3, .t 53], none⟩ (PT.step 1 ⟨some 50, .load true 2, [.t 5], none⟩ (PT.step 6 ⟨some 55, .load false 1, [.t 54], none⟩ (PT.step 7 ⟨some 56, .call 17, [.t 50, .t 52, .t 55], none⟩ (PT.step 8 ⟨some 57, .idxa 8 1, [.t 8, .t 49], none⟩ (PT.step 9 ⟨none, .store 1, [.t 57, .t 56], none⟩ PT.done)))))))))))) (AC.reg [⟨some 47, .mov, [.t 9], none⟩,⟨some 48, .bin .add, [.t 47, .c (.int .i64 1)], none⟩,⟨some 9, .mov, [.t 48], none⟩])))
def c_holdsL_2 : AC := (AC.seq (AC.seq (AC.reg [⟨some 70, .mov, [.t 13], none⟩,⟨some 71, .mov, [.t 11], none⟩,⟨some 72, .len 1 0, [.t 71], none⟩,⟨some 73, .bin .lss, [.t 70, .t 72], none⟩]) (AC.cond (.t 73) AC.skip (AC.exit 4))) (AC.seq c_holdsL_B5 (AC.reg [⟨some 74, .mov, [.t 13], none⟩,⟨some 75, .bin .add, [.t 74, .c (.int .i64 1)], none⟩,⟨some 13, .mov, [.t 75], none⟩])))
/- umpire/umpirelaw27.GraphHolds -/
def c_holdsL : AC := (AC.seq (AC.reg [⟨some 3, .box, [.t 1], none⟩,⟨some 4, .mov, [.c (.bool false)], none⟩]) (AC.seq (AC.reg [⟨some 19, .call 8, [], none⟩,⟨some 18, .mov, [.t 19], none⟩,⟨some 20, .ext 0, [.t 18], none⟩,⟨some 21, .ext 1, [.t 18], none⟩,⟨some 5, .alloc [.nilptr, .nilptr], [], none⟩,⟨none, .store 2, [.t 5, .t 20], none⟩,⟨some 6, .mov, [.t 21], none⟩]) (AC.seq (AC.seq (AC.reg [⟨some 22, .mov, [.t 0], none⟩,⟨some 23, .call 9, [.t 22], none⟩,⟨some 24, .un .not, [.t 23], none⟩,⟨some 25, .mov, [.t 24], none⟩,⟨some 26, .mov, [.t 6], (some (25, false))⟩,⟨some 27, .un .not, [.t 26], (some (25, false))⟩,⟨some 28, .pick, [.t 25, .c (.bool true), .t 27], none⟩]) (AC.cond (.t 28) (AC.seq (AC.reg [⟨some 29, .mov, [.t 6], none⟩,⟨some 30, .mov, [.t 29], none⟩,⟨some 31, .call 10, [], (some (30, true))⟩,⟨some 32, .pick, [.t 30, .t 31, .c (.bool false)], none⟩,⟨some 4, .mov, [.t 32], none⟩]) AC.ret) AC.skip)) (AC.seq (AC.seq (AC.reg [⟨some 7, .mov, [.c (.int .i64 0)], none⟩]) (AC.block 0 (AC.loop c_holdsL_0))) (AC.seq (AC.reg [⟨some 8, .alloc [.nilsl, .nilsl, .nilsl, .nilsl, .nilsl, .nilsl, .nilsl, .nilsl], [], none⟩]) (AC.seq (AC.seq (AC.reg [⟨some 9, .mov, [.c (.int .i64 0)], none⟩]) (AC.block 2 (AC.loop c_holdsL_1))) (AC.seq (AC.reg [⟨some 58, .fld 0, [.t 5], none⟩,⟨some 59, .load false 1, [.t 58], none⟩,⟨some 60, .fld 1, [.t 5], none⟩,⟨some 61, .load false 1, [.t 60], none⟩,⟨some 62, .call 12, [.t 59, .t 61], none⟩,⟨some 10, .mov, [.t 62], none⟩]) (AC.seq (AC.reg [⟨some 64, .mov, [.t 10], none⟩,⟨some 65, .call 13, [.t 64], none⟩,⟨some 63, .mov, [.t 65], none⟩,⟨some 66, .ext 0, [.t 63], none⟩,⟨some 67, .ext 1, [.t 63], none⟩,⟨some 11, .mov, [.t 66], none⟩,⟨some 12, .mov, [.t 67], none⟩]) (AC.seq (AC.seq (AC.reg [⟨some 68, .mov, [.t 12], none⟩,⟨some 69, .un .not, [.t 68], none⟩]) (AC.cond (.t 69) (AC.seq (AC.reg [⟨some 4, .mov, [.c (.bool false)], none⟩]) AC.ret) AC.skip)) (AC.seq (AC.seq (AC.reg [⟨some 13, .mov, [.c (.int .i64 0)], none⟩]) (AC.block 4 (AC.loop c_holdsL_2))) (AC.seq (AC.reg [⟨some 131, .call 10, [], none⟩,⟨some 4, .mov, [.t 131], none⟩]) AC.ret)))))))))))
def r_holdsL : AC × List RT × Nat := (c_holdsL, [.tmp 4], 132)
theorem ok_holdsLe : compF Tryz.prog Tryz.f5 ⟨false, false, []⟩ = some r_holdsL := by kernel_rfl
variable {E : Env}
/-- What comes in as an array of eight lists of small numbers. -/
def isTs (ts : List V) : Prop := ts.length = 8 ∧ ∀ t ∈ ts, ∃ tl : List Int, isS 1 t (tl.map (V.int .u8)) ∧ ∀ n ∈ tl, 0 ≤ n ∧ n < 256
def bl1 : AC → AC
  | .block _ c => c
  | c => c
def hlA : AC := hd1 (bl1 c_holdsL_B5)
def hlB : AC := hd1 (tl1 (bl1 c_holdsL_B5))
def hlC : AC := tl1 (tl1 (bl1 c_holdsL_B5))
theorem hl_eq : c_holdsL_B5 = .block 5 (.seq hlA (.seq hlB hlC)) := rfl
theorem hlA_go (hP : E.P = Tryz.prog) {W : AW} (hC : Cl W) {p ra rw q c5 : Nat} {s : Str} (hS : St W p ra rw s) (h5 : W.get c5 = some (.row [.ptr p 0, .ptr q 0])) (hl5 : c5 < W.nx) {el : List Ed} (hel : ∀ e ∈ el, ekOk (ofEd e)) {i : Nat} (hi : i < el.length) {A : AFr} {Q : Exit → AFr → AW → Prop} {x8 : V}
    (a5 : A 5 = some (.ptr c5 0)) (a8 : A 8 = some x8) (a11 : A 11 = some (edsV el)) (a13 : A 13 = some (.int .i64 i))
    (hq : ∀ A' W' b, A' 5 = some (.ptr c5 0) → A' 8 = some x8 → A' 11 = some (edsV el) → A' 13 = some (.int .i64 i) → A' 14 = some (.ptr b 0) → A' 15 = some (.bool (find s el[i].fr).isSome) → W'.get b = some (.row ((find s el[i].fr).getD Tx.zero).V.cells) → b < W'.nx → Ex W W' → Q .normal A' W') : awp E hlA Q A W := by
  refine awp_startC hC ?_
  have hs := edsV_S el
  have hat := ed_at hi
  have hk := (hel _ (List.getElem_mem hi)).a
  generalize el[i] = e at hat hk hq
  have hkk : 0 ≤ e.fr ∧ e.fr < 65536 := hk
  simp (maxSteps := 200000) (disch := omega) only [BS, BC, ↓reduceIte, Nat.reduceEqDiff, BM, BD, Nat.reduceAdd, Nat.reduceLeDiff, hlA, hd1, bl1, c_holdsL_B5, a5, a11, a13, h5, hs.idx hat, ed_cells]
  repeat' apply And.intro
  all_goals
    refine pcall_go rfl (find_c hP _ (hS.ex (Ex.refl hC).X) e.fr hkk.1 hkk.2) ?_
    simp (maxSteps := 200000) (disch := omega) only [BS, BC, ↓reduceIte, Nat.reduceEqDiff, BM, BD, Nat.reduceAdd, Nat.reduceLeDiff, Nat.reduceLT, msV_one, lsV_one, Tx.V, msV_one, lsV_one]
    exact hq _ _ _ a5 a8 a11 a13 rfl rfl (by rw [X_get]; rfl) (by simp [X_nx, rf]) (Ex.refl hC).X
theorem hlB_go (hP : E.P = Tryz.prog) {W : AW} (hC : Cl W) {p ra rw q c5 : Nat} {s : Str} (hS : St W p ra rw s) (h5 : W.get c5 = some (.row [.ptr p 0, .ptr q 0])) (hl5 : c5 < W.nx) {el : List Ed} (hel : ∀ e ∈ el, ekOk (ofEd e)) {i : Nat} (hi : i < el.length) {A : AFr} {Q : Exit → AFr → AW → Prop} {x8 x14 x15 : V}
    (a5 : A 5 = some (.ptr c5 0)) (a8 : A 8 = some x8) (a11 : A 11 = some (edsV el)) (a13 : A 13 = some (.int .i64 i)) (a14 : A 14 = some x14) (a15 : A 15 = some x15)
    (hq : ∀ A' W' b, A' 5 = some (.ptr c5 0) → A' 8 = some x8 → A' 11 = some (edsV el) → A' 13 = some (.int .i64 i) → A' 14 = some x14 → A' 15 = some x15 → A' 16 = some (.ptr b 0) → A' 17 = some (.bool (find s el[i].to).isSome) → W'.get b = some (.row ((find s el[i].to).getD Tx.zero).V.cells) → b < W'.nx → Ex W W' → Q .normal A' W') : awp E hlB Q A W := by
  refine awp_startC hC ?_
  have hs := edsV_S el
  have hat := ed_at hi
  have hk := (hel _ (List.getElem_mem hi)).b
  generalize el[i] = e at hat hk hq
  have hkk : 0 ≤ e.to ∧ e.to < 65536 := hk
  simp (maxSteps := 200000) (disch := omega) only [BS, BC, ↓reduceIte, Nat.reduceEqDiff, BM, BD, Nat.reduceAdd, Nat.reduceLeDiff, hlB, hd1, tl1, bl1, c_holdsL_B5, a5, a11, a13, h5, hs.idx hat, ed_cells]
  repeat' apply And.intro
  all_goals
    refine pcall_go rfl (find_c hP _ (hS.ex (Ex.refl hC).X) e.to hkk.1 hkk.2) ?_
    simp (maxSteps := 200000) (disch := omega) only [BS, BC, ↓reduceIte, Nat.reduceEqDiff, BM, BD, Nat.reduceAdd, Nat.reduceLeDiff, Nat.reduceLT, msV_one, lsV_one, Tx.V, msV_one, lsV_one]
    exact hq _ _ _ a5 a8 a11 a13 a14 a15 rfl rfl (by rw [X_get]; rfl) (by simp [X_nx, rf]) (Ex.refl hC).X
theorem hlC_go (hP : E.P = Tryz.prog) {W : AW} {p ra rw q c5 c8 b b' : Nat} {s : Str} (hS : St W p ra rw s) (h5 : W.get c5 = some (.row [.ptr p 0, .ptr q 0])) {ws : List (List Int)} (h8 : W.get c8 = some (.row (ws.map oV))) (hw8 : ws.length = 8) (hws : ∀ w ∈ ws, rng w ∧ w.length < 2 ^ 24) {el : List Ed} (hel : ∀ e ∈ el, ekOk (ofEd e)) {i : Nat} (hi : i < el.length) {A : AFr} {Q : Exit → AFr → AW → Prop} {t t' : Tx}
    (hst : t.st ≠ 2) (hst' : t'.st ≠ 2) (hne : t.id ≠ t'.id) (hh : holdsR s (ofEd el[i]) ws = true)
    (a5 : A 5 = some (.ptr c5 0)) (a8 : A 8 = some (.ptr c8 0)) (a11 : A 11 = some (edsV el)) (a13 : A 13 = some (.int .i64 i)) (a14 : A 14 = some (.ptr b 0)) (a15 : A 15 = some (.bool true)) (a16 : A 16 = some (.ptr b' 0)) (a17 : A 17 = some (.bool true)) (hb : W.get b = some (.row t.V.cells)) (hb' : W.get b' = some (.row t'.V.cells))
    (hq : ∀ A', A' 5 = some (.ptr c5 0) → A' 8 = some (.ptr c8 0) → A' 11 = some (edsV el) → A' 13 = some (.int .i64 i) → Q .normal A' W) : awp E hlC Q A W := by
  have hs := edsV_S el
  have hat := ed_at hi
  have hk := hel _ (List.getElem_mem hi)
  generalize el[i] = e at hat hk hh
  have hne' : (t.id == t'.id) = false := by simpa using hne
  have hld : ∀ K, sem E (.load true 8) [.ptr c8 0] W K = K (.agg (ws.map oV)) W := fun K => by
    rw [m_load, h8, loadK_t, if_pos (by simp; omega), List.drop_zero, List.take_of_length_le (by simp; omega)]
  simp (maxSteps := 200000) (disch := omega) only [BS, e_seq, ↓reduceIte, BD, hlC, tl1, bl1, c_holdsL_B5, a15]
  repeat (rw [guard_if]; simp (maxSteps := 200000) (disch := omega) only [BS, BC, ↓reduceIte, Nat.reduceEqDiff, BM, BD, Nat.reduceAdd, Nat.reduceLeDiff, a14, a17, hb, Tx.V])
  refine pc (alive_c hP _ t) ?_
  rw [decide_eq_true hst]
  simp (maxSteps := 200000) (disch := omega) only [BS]
  repeat (rw [guard_if]; simp (maxSteps := 200000) (disch := omega) only [BS, BC, ↓reduceIte, Nat.reduceEqDiff, BM, BD, Nat.reduceAdd, Nat.reduceLeDiff, a16, hb', Tx.V])
  refine pc (alive_c hP _ t') ?_
  rw [decide_eq_true hst']
  simp (maxSteps := 200000) (disch := omega) only [BS]
  repeat (rw [guard_if]; simp (maxSteps := 200000) (disch := omega) only [BS, BC, ↓reduceIte, Nat.reduceEqDiff, BM, BD, Nat.reduceAdd, Nat.reduceLeDiff, a5, a8, a11, a13, a14, a16, hb, hb', Tx.V, hne', h5, hs.idx hat, ed_load, hld])
  refine pc (holds_c hP _ hS hk hw8 hws) ?_
  rw [hh]
  simp (maxSteps := 200000) (disch := omega) only [BS]
  repeat (rw [guard_if]; simp (maxSteps := 200000) (disch := omega) only [BS, BC, cond_if, ↓reduceIte, Nat.reduceEqDiff, BD])
  exact hq _ a5 a8 a11 a13
end Go.AL.S
set_option maxRecDepth 100000
set_option maxHeartbeats 2000000
namespace Go.AL.S
open Go Go.AL Go.AL.SE Go.Proofs
variable {E : Env}
theorem hacts_go (hP : E.P = Tryz.prog) {W W0 : AW} {p ra rw q c3 c5 : Nat} (hX0 : Sx W W0 p ra rw q [] os0) {ts : List V} (h3 : W0.get c3 = some (.row ts)) (h5 : W0.get c5 = some (.row [.ptr p 0, .ptr q 0])) (l3 : c3 < W0.nx ∧ c5 < W0.nx) (n3 : c3 ≠ p ∧ c3 ≠ ra ∧ c3 ≠ rw ∧ c3 ≠ q) (n5 : c5 ≠ p ∧ c5 ≠ ra ∧ c5 ≠ rw ∧ c5 ≠ q)
    {v : V} {l : List Ac} (hv : isS 5 v (l.map Ac.V)) (ha : ∀ a ∈ l, a.ok ∧ a.small) (hl : l.length ≤ 60) {A : AFr} {Q : Exit → AFr → AW → Prop} (a0 : A 0 = some v) (a3 : A 3 = some (.ptr c3 0)) (a5 : A 5 = some (.ptr c5 0)) (a7 : A 7 = some (.int .i64 0))
    (hq : ∀ A' W' s o, A' 3 = some (.ptr c3 0) → A' 5 = some (.ptr c5 0) → Sx W W' p ra rw q s o → W'.get c3 = some (.row ts) → W'.get c5 = some (.row [.ptr p 0, .ptr q 0]) → W0.nx ≤ W'.nx → Q (.exit 0) A' W') : awp E (.loop c_holdsL_0) Q A W0 := by
  rw [e_loop]
  refine ALoop.go (B := awp E _) (fun h => awp_mono _ h) (fun (σ : Nat × Str × Ods) A1 W2 => A1 0 = some v ∧ A1 3 = some (.ptr c3 0) ∧ A1 5 = some (.ptr c5 0) ∧ A1 7 = some (.int .i64 σ.1) ∧ σ.1 ≤ l.length ∧ Sx W W2 p ra rw q σ.2.1 σ.2.2 ∧ W0.nx ≤ W2.nx ∧ W2.get c3 = some (.row ts) ∧ W2.get c5 = some (.row [.ptr p 0, .ptr q 0])) (fun σ => l.length - σ.1) (0, [], os0)
    ⟨a0, a3, a5, a7, Nat.zero_le _, hX0, Nat.le_refl _, h3, h5⟩ ?_
  rintro ⟨k, s, o⟩ A1 W2 ⟨q0, q3, q5, q7, gk, hX, gn, g3, g5⟩ _
  simp only at q7 gk hX
  by_cases hk1 : k < l.length
  · have hat : (l.map Ac.V)[k]? = some l[k].V := by simp [hk1]
    obtain ⟨hak, hks⟩ := ha _ (List.getElem_mem hk1)
    generalize l[k] = a at hat hak hks
    simp (maxSteps := 200000) (disch := omega) only [BS, BC, e_seq, cond_if, ↓reduceIte, Nat.reduceEqDiff, reduceCtorEq, BM, BD, Nat.reduceAdd, Nat.reduceLeDiff, c_holdsL_0, q0, q5, q7, hv.len, List.length_map, clt, hk1, decide_true, g5, hv.idx hat, ac_load, ac_frz]
    refine (act_c hP _ hX.nw.st hX.od hX.ne hak hks).mono ?_
    rintro _ W5 ⟨rfl, hS5, hO5, hF5⟩
    have hX5 := hX.fa hS5 hO5 hF5
    have hn5 := hF5.nx
    simp (maxSteps := 200000) (disch := omega) only [BS, ↓reduceIte, Nat.reduceEqDiff, reduceCtorEq, q0, q3, q5, q7, wadd1]
    exact ⟨(k + 1, _, _), ⟨(by first | trivial | rfl | omega), (by first | trivial | rfl | omega), (by first | trivial | rfl | omega), (by first | trivial | rfl | omega), hk1, hX5, by omega, by rw [hF5.get c3 (by omega) n3.1 n3.2.1 n3.2.2.1 n3.2.2.2]; exact g3, by rw [hF5.get c5 (by omega) n5.1 n5.2.1 n5.2.2.1 n5.2.2.2]; exact g5⟩, by show l.length - (k + 1) < l.length - k; omega, by omega⟩
  · obtain rfl : k = l.length := by omega
    simp (maxSteps := 200000) (disch := omega) only [BS, BC, e_seq, cond_if, ↓reduceIte, Nat.reduceEqDiff, reduceCtorEq, c_holdsL_0, q0, q7, hv.len, List.length_map, clt, hk1, decide_false]
    exact hq _ _ _ _ q3 q5 hX g3 g5 gn
theorem hwhole_go (hP : E.P = Tryz.prog) {W0 : AW} {p ra rw q c3 c5 c8 : Nat} {s : Str} {os : Ods} (hS : St W0 p ra rw s) (hO : Od W0 q os) {ts : List V} (ht : isTs ts) (h3 : W0.get c3 = some (.row ts)) (h5 : W0.get c5 = some (.row [.ptr p 0, .ptr q 0])) (h8 : W0.get c8 = some (.row (List.replicate 8 .nilsl))) (_ : c8 < W0.nx) (n8 : c8 ≠ p ∧ c8 ≠ ra ∧ c8 ≠ rw ∧ c8 ≠ q ∧ c8 ≠ c3 ∧ c8 ≠ c5)
    {A : AFr} {Q : Exit → AFr → AW → Prop} (a3 : A 3 = some (.ptr c3 0)) (a5 : A 5 = some (.ptr c5 0)) (a8 : A 8 = some (.ptr c8 0)) (a9 : A 9 = some (.int .i64 0))
    (hq : ∀ A' (ws : List (List Int)), A' 5 = some (.ptr c5 0) → A' 8 = some (.ptr c8 0) → ws.length = 8 → (∀ w ∈ ws, rng w ∧ w.length < 2 ^ 24) → (∀ k : Nat, k < 8 → keyO os k <+: ws.getD k []) → Q (.exit 2) A' (W0.put c8 (.row (ws.map oV)))) : awp E (.loop c_holdsL_1) Q A W0 := by
  rw [e_loop]
  refine ALoop.go (B := awp E _) (fun h => awp_mono _ h) (fun (ws : List (List Int)) A1 W1 => A1 3 = some (.ptr c3 0) ∧ A1 5 = some (.ptr c5 0) ∧ A1 8 = some (.ptr c8 0) ∧ A1 9 = some (.int .i64 ws.length) ∧ ws.length ≤ 8 ∧ (∀ w ∈ ws, rng w ∧ w.length < 2 ^ 24) ∧ (∀ k : Nat, k < ws.length → keyO os k <+: ws.getD k []) ∧ W1 = W0.put c8 (.row (ws.map oV ++ List.replicate (8 - ws.length) .nilsl))) (fun ws => 8 - ws.length) []
    ⟨a3, a5, a8, a9, Nat.zero_le _, by simp, by simp, (put_same h8).symm⟩ ?_
  rintro ws A1 W1 ⟨g3, g5, g8, g9, gl, gw, gp, rfl⟩ _
  by_cases hk : ws.length < 8
  · obtain ⟨t8, ht⟩ := ht
    have hkt : ws.length < ts.length := by omega
    have hat : ts[ws.length]? = some ts[ws.length] := List.getElem?_eq_getElem hkt
    obtain ⟨tl, htv, htr⟩ := ht _ (List.getElem_mem hkt)
    generalize ts[ws.length] = tv at hat htv
    have v3 : (W0.put c8 (.row (ws.map oV ++ List.replicate (8 - ws.length) .nilsl))).get c3 = some (.row ts) := by rw [put_ne (by omega)]; exact h3
    have v5 : (W0.put c8 (.row (ws.map oV ++ List.replicate (8 - ws.length) .nilsl))).get c5 = some (.row [.ptr p 0, .ptr q 0]) := by rw [put_ne (by omega)]; exact h5
    have hix : ∀ (b : Nat) (W : AW) K, sem E (.idxa 8 1) [.ptr b 0, .int .i64 (ws.length : Int)] W K = K (.ptr b ws.length) W := fun b W K => by
      rw [m_idxa, if_pos (by omega), Int.toNat_natCast, Nat.mul_one, Nat.zero_add]
    have hS1 : St (W0.put c8 (.row (ws.map oV ++ List.replicate (8 - ws.length) .nilsl))) p ra rw s := hS.by (by rw [put_nx]; exact Nat.le_refl _) (put_ne (by omega)) (put_ne (by omega)) (put_ne (by omega))
    have hO1 : Od (W0.put c8 (.row (ws.map oV ++ List.replicate (8 - ws.length) .nilsl))) q os := hO.by (by rw [put_nx]; exact Nat.le_refl _) (put_ne (by omega))
    simp (maxSteps := 200000) (disch := omega) only [BS, BC, e_seq, cond_if, ↓reduceIte, Nat.reduceEqDiff, BM, BD, Nat.reduceAdd, Nat.reduceLeDiff, c_holdsL_1, g3, g5, g9, show decide ((ws.length : Int) < 8) = true by simp; omega, u8w hk, hix, v3, v5, hat, htv.frz]
    refine (whole_c hP _ hS1 hO1 ws.length (by omega) (by omega) htv htr).mono ?_
    rintro _ _ ⟨w, rfl, w1, w2, w3, rfl⟩
    have ow := oV_isS w
    simp (maxSteps := 200000) (disch := omega) only [BS, ↓reduceIte, Nat.reduceEqDiff, BM, BD, g3, g5, g8, g9, hix, put_at, ow.cells, ow.one, wadd1]
    have hrow : List.take ws.length (ws.map oV ++ List.replicate (8 - ws.length) .nilsl) ++ [oV w] ++ List.drop (ws.length + 1) (ws.map oV ++ List.replicate (8 - ws.length) .nilsl) = (ws ++ [w]).map oV ++ List.replicate (8 - (ws ++ [w]).length) .nilsl := by
      have e1 : List.take ws.length (ws.map oV ++ List.replicate (8 - ws.length) V.nilsl) = ws.map oV := by rw [List.take_left' (by simp)]
      have e2 : List.drop (ws.length + 1) (ws.map oV ++ List.replicate (8 - ws.length) V.nilsl) = List.replicate (8 - (ws.length + 1)) V.nilsl := by
        rw [List.drop_append, List.drop_eq_nil_of_le (by simp)]
        simp; omega
      rw [e1, e2, List.map_append, List.length_append]; rfl
    rw [if_pos (by simp; omega), put_put, hrow]
    refine ⟨ws ++ [w], ⟨trivial, trivial, trivial, by rw [List.length_append]; rfl, by rw [List.length_append]; exact hk, fun x hx => ?_, fun k hk' => ?_, rfl⟩, by rw [List.length_append, List.length_cons, List.length_nil]; omega, by rw [put_nx]; exact Nat.le_refl _⟩
    · rcases List.mem_append.1 hx with hx | hx
      · exact gw x hx
      · rw [List.mem_singleton.1 hx]; exact ⟨w2, w3⟩
    · rw [List.length_append, List.length_cons, List.length_nil] at hk'
      by_cases e1 : k < ws.length
      · rw [List.getD_eq_getElem?_getD, List.getElem?_append_left e1, ← List.getD_eq_getElem?_getD]; exact gp k e1
      · obtain rfl : k = ws.length := by omega
        rw [List.getD_eq_getElem?_getD, List.getElem?_append_right (Nat.le_refl _), Nat.sub_self]; exact w1
  · have hk8 : ws.length = 8 := by omega
    simp (maxSteps := 200000) (disch := omega) only [BS, BC, e_seq, cond_if, ↓reduceIte, c_holdsL_1, g9, show decide ((ws.length : Int) < 8) = false by simp; omega]
    rw [hk8, Nat.sub_self, List.replicate_zero, List.append_nil]
    exact hq _ ws g5 g8 hk8 gw (fun k hk => gp k (by omega))
theorem edL_in {P : List Ek} {e : Ed} (h : e ∈ edL P) : ofEd e ∈ P := edL_mem.1 h
theorem hedges_go (hP : E.P = Tryz.prog) {W0 : AW} (hC0 : Cl W0) {p ra rw q c5 c8 : Nat} {s : Str} {os : Ods} (hS : St W0 p ra rw s) {ws : List (List Int)} (h5 : W0.get c5 = some (.row [.ptr p 0, .ptr q 0])) (h8 : W0.get c8 = some (.row (ws.map oV))) (hl5 : c5 < W0.nx ∧ c8 < W0.nx) (hw8 : ws.length = 8) (hws : ∀ w ∈ ws, rng w ∧ w.length < 2 ^ 24) (hpre : ∀ k : Nat, k < 8 → keyO os k <+: ws.getD k [])
    (hel : ∀ e ∈ edL (buildP s os), ekOk (ofEd e)) (hll : (edL (buildP s os)).length < 2 ^ 40) {A : AFr} {Q : Exit → AFr → AW → Prop} (a5 : A 5 = some (.ptr c5 0)) (a8 : A 8 = some (.ptr c8 0)) (a11 : A 11 = some (edsV (edL (buildP s os)))) (a13 : A 13 = some (.int .i64 0))
    (hq : ∀ A' W', Ex W0 W' → Q (.exit 4) A' W') : awp E (.loop c_holdsL_2) Q A W0 := by
  have hs := edsV_S (edL (buildP s os))
  have hin : ∀ e ∈ edL (buildP s os), ofEd e ∈ buildP s os := fun e he => edL_in he
  generalize edL (buildP s os) = el at hel hll a11 hs hin
  rw [e_loop]
  refine ALoop.go (B := awp E _) (fun h => awp_mono _ h) (fun (i : Nat) A1 W1 => A1 5 = some (.ptr c5 0) ∧ A1 8 = some (.ptr c8 0) ∧ A1 11 = some (edsV el) ∧ A1 13 = some (.int .i64 i) ∧ i ≤ el.length ∧ Ex W0 W1) (fun i => el.length - i) 0
    ⟨a5, a8, a11, a13, Nat.zero_le _, Ex.refl hC0⟩ ?_
  rintro i A1 W1 ⟨g5, g8, g11, g13, gi, gE⟩ _
  by_cases hi : i < el.length
  · obtain ⟨⟨t, f1, f2⟩, ⟨t', f3, f4⟩, f5, f6⟩ := holds_all hS.ok hpre (hin _ (List.getElem_mem hi))
    have f1 : find s el[i].fr = some t := f1
    have f3 : find s el[i].to = some t' := f3
    have hne : t.id ≠ t'.id := by
      rw [(find_ok hS.ok f1).2.1, (find_ok hS.ok f3).2.1]; exact f5
    simp (maxSteps := 200000) (disch := omega) only [BS, e_seq, cond_if, ↓reduceIte, Nat.reduceEqDiff, c_holdsL_2, hl_eq, g11, g13, hs.len, List.length_map, clt, hi, decide_true]
    refine hlA_go hP gE.cl (hS.ex gE) ((gE.get c5 hl5.1).trans h5) (by have := gE.nx; omega) hel hi g5 g8 g11 g13 ?_
    intro A2 W2 b u5 u8 u11 u13 u14 u15 ub ubl uE
    have gE2 := gE.trans uE
    simp (maxSteps := 200000) (disch := omega) only [BS]
    refine hlB_go hP gE2.cl (hS.ex gE2) ((gE2.get c5 hl5.1).trans h5) (by have := gE2.nx; omega) hel hi u5 u8 u11 u13 u14 u15 ?_
    intro A3 W3 b' v5 v8 v11 v13 v14 v15 v16 v17 vb vbl vE
    have gE3 := gE2.trans vE
    simp (maxSteps := 200000) (disch := omega) only [BS]
    rw [f1] at u15 ub v15
    rw [f3] at v17 vb
    refine hlC_go hP (hS.ex gE3) ((gE3.get c5 hl5.1).trans h5) ((gE3.get c8 hl5.2).trans h8) hw8 hws hel hi f2 f4 hne f6 v5 v8 v11 v13 v14 v15 v16 v17 ((vE.get b ubl).trans ub) vb ?_
    intro A4 w5 w8 w11 w13
    simp (maxSteps := 200000) (disch := omega) only [BS, ↓reduceIte, Nat.reduceEqDiff, w5, w8, w11, w13, wadd1]
    exact ⟨i + 1, ⟨(by first | trivial | rfl | omega), (by first | trivial | rfl | omega), (by first | trivial | rfl | omega), (by first | trivial | rfl | omega), hi, gE3⟩, by omega, gE3.nx⟩
  · obtain rfl : i = el.length := by omega
    simp (maxSteps := 200000) (disch := omega) only [BS, BC, e_seq, cond_if, ↓reduceIte, Nat.reduceEqDiff, c_holdsL_2, hl_eq, g11, g13, hs.len, List.length_map, clt, hi, decide_false]
    exact hq _ _ gE
end Go.AL.S
set_option maxRecDepth 100000
set_option maxHeartbeats 2000000
namespace Go.AL.S
open Go Go.AL Go.AL.SE Go.Proofs
variable {E : Env}
theorem holdsL_c (hP : E.P = Tryz.prog) (W : AW) {v : V} {l : List Ac} (hv : isS 5 v (l.map Ac.V)) (ha : ∀ a ∈ l, a.ok) (hl : l.length < 2 ^ 48) {ts : List V} (ht : isTs ts) :
    ACalls E 5 [v, .agg ts] W fun Y _ => Y = .bool true := by
  refine ACalls.of hP Tryz.func5 ok_holdsLe (by simp) fun _ hok => ?_
  refine awp_start hok ?_
  simp (maxSteps := 200000) (disch := omega) only [BS, BC, e_seq, BM, BD, c_holdsL]
  refine (fresh_c hP _).mono ?_
  rintro _ W1 ⟨p, ra, rw, q, rfl, hx1⟩
  have r3 : rf W.nx 0 = W.nx := rfl
  have k3 : W1.get (rf W.nx 0) = some (.row ts) := by rw [hx1.nw.ex.get _ (by simp [X_nx, rf]), X_get]; rfl
  have bp := hx1.nw.hp
  have ba := hx1.nw.ha
  have bw := hx1.nw.hw
  have bq := hx1.hq
  have hn1 := hx1.nw.ex.nx
  simp only [X_nx, List.length_cons, List.length_nil, Nat.zero_add] at bp ba bw bq hn1
  simp only [rf] at bp ba bw bq hn1
  rw [hx1.nw.ex.cl.start]
  simp (maxSteps := 200000) (disch := omega) only [BS, BC, e_seq, ↓reduceIte, Nat.reduceEqDiff, reduceCtorEq, BM, BD, Nat.reduceAdd, Nat.reduceLeDiff, Nat.reduceLT, hv.frz]
  refine (few_c hP _ hv ha hl).mono ?_
  rintro _ W3 ⟨rfl, b, rfl, hb⟩
  have l1 := hx1.nw.st.lp
  have l2 := hx1.nw.st.la
  have l3 := hx1.nw.st.lw
  have l4 := hx1.od.lq
  have r1 : rf W1.nx 0 = W1.nx := rfl
  cases b with
  | false =>
    simp (maxSteps := 200000) (disch := omega) only [BS, ↓reduceIte, BD]
    repeat (rw [guard_if]; simp (maxSteps := 200000) (disch := omega) only [BS, BC, e_seq, cond_if, ↓reduceIte, Nat.reduceEqDiff, BM])
    refine pc (awake_c hP _) ?_
    simp (maxSteps := 200000) (disch := omega) only [BS, BC, ↓reduceIte, Nat.reduceEqDiff]
    repeat (rw [guard_if]; simp (maxSteps := 200000) (disch := omega) only [BS, BC, e_seq, cond_if, ↓reduceIte, Nat.reduceEqDiff, reduceCtorEq, BM, BD, Nat.reduceAdd, Nat.reduceLeDiff, Nat.reduceLT, Nat.reduceMul, msV_cells, msV_one, lsV_cells, lsV_one, msV_frz, lsV_frz, e_seq])
    exact ⟨_, rfl, _, _, .weak weak_id, by simp only [X_nx, rf, List.length_cons, List.length_nil]; omega, rfl⟩
  | true =>
    obtain ⟨hl60, hsm⟩ := hb rfl
    simp (maxSteps := 200000) (disch := omega) only [BS, ↓reduceIte, BD]
    repeat (rw [guard_if]; simp (maxSteps := 200000) (disch := omega) only [BS, BC, e_seq, cond_if, ↓reduceIte, Nat.reduceEqDiff, BD])
    obtain ⟨Wt, hWt⟩ : ∃ Wt, Wt = X W1 W1.nx [.row [.ptr p 0, .ptr q 0]] := ⟨_, rfl⟩
    rw [← hWt]
    have hEt : Ex W1 Wt := by rw [hWt]; exact (Ex.refl hx1.nw.ex.cl).X
    have hnt : Wt.nx = W1.nx + 1 := by rw [hWt]; rfl
    have k5 : Wt.get (rf W1.nx 0) = some (.row [.ptr p 0, .ptr q 0]) := by rw [hWt, X_get]; rfl
    clear hWt
    refine hacts_go hP (W := W) (hx1.base.exx hEt) ((hEt.get _ (by omega)).trans k3) k5 (by omega) (by omega) (by omega) hv (fun a h => ⟨ha a h, hsm a h⟩) hl60 rfl rfl rfl rfl ?_
    intro A4 W4 s o q3 q5 hX4 g3 g5 gn4
    have m1 := hX4.nw.st.lp
    have m2 := hX4.nw.st.la
    have m3 := hX4.nw.st.lw
    have m4 := hX4.od.lq
    rw [hX4.nw.ex.cl.start]
    simp (maxSteps := 200000) (disch := omega) only [BS, e_seq, ↓reduceIte, BM, BD]
    obtain ⟨Wu, hWu⟩ : ∃ Wu, Wu = X W4 W4.nx [.row [.nilsl, .nilsl, .nilsl, .nilsl, .nilsl, .nilsl, .nilsl, .nilsl]] := ⟨_, rfl⟩
    rw [← hWu]
    have hEu : Ex W4 Wu := by rw [hWu]; exact (Ex.refl hX4.nw.ex.cl).X
    have hnu : Wu.nx = W4.nx + 1 := by rw [hWu]; rfl
    have k8 : Wu.get (rf W4.nx 0) = some (.row (List.replicate 8 .nilsl)) := by rw [hWu, X_get]; rfl
    have r4 : rf W4.nx 0 = W4.nx := rfl
    clear hWu
    have hXu := hX4.exx hEu
    refine hwhole_go hP hXu.nw.st hXu.od ht ((hEu.get _ (by omega)).trans g3) ((hEu.get _ (by omega)).trans g5) k8 (by omega) (by omega) q3 q5 rfl rfl ?_
    intro A5 ws u5 u8 hw8 hws hpre
    obtain ⟨W5, hW5⟩ : ∃ W5, W5 = Wu.put (rf W4.nx 0) (.row (ws.map oV)) := ⟨_, rfl⟩
    rw [← hW5]
    have hX5 : Sx W W5 p ra rw q s o := by
      rw [hW5]
      have := hX4.nw.ex.nx
      exact hXu.put (by omega) (by omega) (by omega)
    have hn5 : W5.nx = W4.nx + 1 := by rw [hW5, put_nx]; exact hnu
    have v5 : W5.get (rf W1.nx 0) = some (.row [.ptr p 0, .ptr q 0]) := by rw [hW5, put_ne (by omega), hEu.get _ (by omega)]; exact g5
    have v8 : W5.get (rf W4.nx 0) = some (.row (ws.map oV)) := by rw [hW5, put_at]
    clear hW5
    simp (maxSteps := 200000) (disch := omega) only [BS, BC, e_seq, ↓reduceIte, Nat.reduceEqDiff, BM, BD, u5, v5]
    refine (build_c hP _ hX5.nw.st hX5.od).mono ?_
    rintro _ W6 ⟨g, m, hn, rfl, hG, hE⟩
    have hX6 := hX5.exx hE
    have hn6 := hE.nx
    simp (maxSteps := 200000) (disch := omega) only [BS, BC, e_seq, ↓reduceIte]
    refine pc (listed_c hP _ hG) ?_
    simp (maxSteps := 200000) (disch := omega) only [BS, BC, e_seq, cond_if, ↓reduceIte, Nat.reduceEqDiff, BD]
    have hll := edL_lt hG
    refine hedges_go hP hE.cl hX6.nw.st ((hE.get _ (by omega)).trans v5) ((hE.get _ (by omega)).trans v8) (by omega) hw8 hws hpre (edL_ok hG) (by omega) u5 u8 rfl rfl ?_
    intro A7 W7 hE7
    simp (maxSteps := 200000) (disch := omega) only [BS, BC, e_seq, ↓reduceIte, e_seq]
    refine pc (awake_c hP _) ?_
    simp (maxSteps := 200000) (disch := omega) only [BS, BC, ↓reduceIte]
    exact ⟨_, rfl, _, _, .weak weak_id, (hX6.exx hE7).nw.ex.nx, rfl⟩
end Go.AL.S
set_option maxRecDepth 100000
namespace Go.AL.S
open Go Go.AL
def shMi : Sh := .st [.bool, .int .u8, .int .u16]
def shAc : Sh := .st [.int .u8, .int .u8, .int .u16, .sl shMi, .sl (.sl (.int .u16))]
theorem wf_u8 {n : Int} (h : (Lit.int .u8 n).wf = true) : 0 ≤ n ∧ n < 256 := by
  simp [Lit.wf, IntKind.min, IntKind.max, IntKind.signed, IntKind.bits] at h; omega
theorem wf_u16 {n : Int} (h : (Lit.int .u16 n).wf = true) : 0 ≤ n ∧ n < 65536 := by
  simp [Lit.wf, IntKind.min, IntKind.max, IntKind.signed, IntKind.bits] at h; omega
/-- Elements, each of which is the value of something. -/
theorem list_of {α : Type} {f : α → V} {p : α → Prop} : ∀ {xs : List V}, (∀ x ∈ xs, ∃ a, x = f a ∧ p a) → ∃ l : List α, xs = l.map f ∧ ∀ a ∈ l, p a
  | [], _ => ⟨[], rfl, by simp⟩
  | x :: xs, h => by
    obtain ⟨a, rfl, ha⟩ := h x (by simp)
    obtain ⟨l, rfl, hl⟩ := list_of (xs := xs) fun y hy => h y (by simp [hy])
    refine ⟨a :: l, rfl, fun b hb => ?_⟩
    rcases List.mem_cons.1 hb with rfl | hb
    · exact ha
    · exact hl b hb
theorem mi_of {ws : List V} (h : shMi.Is ws) : ∃ m : Mi, shMi.val ws = m.V ∧ m.ok := by
  obtain ⟨_, _, rfl, ⟨b, rfl⟩, _, _, rfl, ⟨k, rfl, hk⟩, _, _, rfl, ⟨n, rfl, hn⟩, rfl⟩ := h
  have h1 := wf_u8 hk
  have h2 := wf_u16 hn
  exact ⟨⟨b, k, n⟩, rfl, h1.1, h1.2, h2.1, h2.2⟩
theorem mis_of {ws : List V} (h : (Sh.sl shMi).Is ws) : ∃ v l, ws = [v] ∧ isMs v l ∧ ∀ m ∈ l, m.ok := by
  obtain ⟨v, xs, rfl, hs, _, hx⟩ := h
  obtain ⟨l, rfl, hl⟩ := list_of (f := Mi.V) (p := Mi.ok) fun x hxm => by
    obtain ⟨ws, h1, rfl⟩ := hx x hxm
    obtain ⟨m, h2, h3⟩ := mi_of h1
    exact ⟨m, h2, h3⟩
  exact ⟨v, l, rfl, hs, hl⟩
theorem ints_of {ws : List V} (h : (Sh.sl (.int .u16)).Is ws) : ∃ v o, ws = [v] ∧ isEl v o ∧ ∀ n ∈ nums o, 0 ≤ n ∧ n < 65536 := by
  obtain ⟨v, xs, rfl, hs, _, hx⟩ := h
  obtain ⟨l, rfl, hl⟩ := list_of (f := V.int .u16) (p := fun n => 0 ≤ n ∧ n < 65536) fun x hxm => by
    obtain ⟨ws, ⟨n, rfl, hn⟩, rfl⟩ := hx x hxm
    exact ⟨n, rfl, wf_u16 hn⟩
  rcases hs with ⟨rfl, _⟩ | ⟨rfl, _⟩ | ⟨f, rfl⟩
  · exact ⟨_, none, rfl, .inl ⟨rfl, rfl⟩, by simp [nums]⟩
  · exact ⟨_, some [], rfl, .inr (.inl ⟨rfl, rfl⟩), by simp [nums]⟩
  · exact ⟨_, some l, rfl, .inr (.inr ⟨f, l, rfl, rfl⟩), hl⟩
theorem lists_of {ws : List V} (h : (Sh.sl (.sl (.int .u16))).Is ws) : ∃ v ls, ws = [v] ∧ isLs v ls ∧ ∀ o ∈ ls, ∀ n ∈ nums o, 0 ≤ n ∧ n < 65536 := by
  obtain ⟨v, xs, rfl, hs, _, hx⟩ := h
  have hgo : ∀ xs : List V, (∀ x ∈ xs, ∃ ws, (Sh.sl (.int .u16)).Is ws ∧ x = (Sh.sl (.int .u16)).val ws) → ∃ ls : List (Option (List Int)), xs.length = ls.length ∧ (∀ k (h : k < xs.length) (h' : k < ls.length), isEl xs[k] ls[k]) ∧ ∀ o ∈ ls, ∀ n ∈ nums o, 0 ≤ n ∧ n < 65536 := by
    intro xs
    induction xs with
    | nil => intro _; exact ⟨[], rfl, fun k h => by simp at h, by simp⟩
    | cons x xs ih =>
      intro h
      obtain ⟨ws, h1, rfl⟩ := h x (by simp)
      obtain ⟨v, o, rfl, h2, h3⟩ := ints_of h1
      obtain ⟨ls, l1, l2, l3⟩ := ih fun y hy => h y (by simp [hy])
      refine ⟨o :: ls, by simp [l1], fun k hk hk' => ?_, fun o' ho' => ?_⟩
      · cases k with
        | zero => exact h2
        | succ k => exact l2 k (by simpa using hk) (by simpa using hk')
      · rcases List.mem_cons.1 ho' with rfl | ho'
        · exact h3
        · exact l3 o' ho'
  obtain ⟨ls, l1, l2, l3⟩ := hgo xs hx
  exact ⟨v, ls, rfl, ⟨xs, hs, l1, l2⟩, l3⟩
theorem ac_of {ws : List V} (h : shAc.Is ws) : ∃ a : Ac, shAc.val ws = a.V ∧ a.ok := by
  obtain ⟨_, _, rfl, ⟨w, rfl, hw⟩, _, _, rfl, ⟨c, rfl, hc⟩, _, _, rfl, ⟨i, rfl, hi⟩, ws3, _, rfl, h3, ws4, _, rfl, h4, rfl⟩ := h
  have hb := h4.bel (n := 0)
  obtain ⟨t, l, rfl, t1, t2⟩ := mis_of h3
  obtain ⟨r, ls, rfl, r1, r2⟩ := lists_of h4
  refine ⟨⟨w, c, i, t, l, r, ls⟩, rfl, wf_u8 hw, wf_u8 hc, wf_u16 hi, t1, r1, t2, r2, ?_⟩
  simpa [V.belL] using hb
theorem acs_of {ws : List V} (h : (Sh.sl shAc).Is ws) : ∃ v, ∃ l : List Ac, ws = [v] ∧ isS 5 v (l.map Ac.V) ∧ (∀ a ∈ l, a.ok) ∧ l.length < 2 ^ 48 := by
  obtain ⟨v, xs, rfl, hs, hl, hx⟩ := h
  obtain ⟨l, rfl, hl'⟩ := list_of (f := Ac.V) (p := Ac.ok) fun x hxm => by
    obtain ⟨ws, h1, rfl⟩ := hx x hxm
    obtain ⟨a, h2, h3⟩ := ac_of h1
    exact ⟨a, h2, h3⟩
  exact ⟨v, l, rfl, hs, hl', by simpa using hl⟩
def shTs : Sh := .st (List.replicate 8 (.sl (.int .u8)))
theorem ts_rep : ∀ (n : Nat) {vs : List V}, Sh.IsL (List.replicate n (.sl (.int .u8))) vs → vs.length = n ∧ ∀ t ∈ vs, ∃ tl : List Int, isS 1 t (tl.map (V.int .u8)) ∧ ∀ n ∈ tl, 0 ≤ n ∧ n < 256
  | 0, vs, h => by obtain rfl : vs = [] := h; exact ⟨rfl, by simp⟩
  | n + 1, vs, h => by
    obtain ⟨a, b, rfl, ⟨v, xs, rfl, hs, _, hx⟩, h2⟩ := h
    obtain ⟨h3, h4⟩ := ts_rep n h2
    obtain ⟨l, rfl, hl⟩ := list_of (f := V.int .u8) (p := fun n => 0 ≤ n ∧ n < 256) fun x hxm => by
      obtain ⟨ws, ⟨n, rfl, hn⟩, rfl⟩ := hx x hxm
      exact ⟨n, rfl, wf_u8 hn⟩
    refine ⟨by simp [h3], fun t ht => ?_⟩
    rcases List.mem_cons.1 ht with rfl | ht
    · exact ⟨l, hs, hl⟩
    · exact h4 t ht
theorem ts_of {vs : List V} (h : shTs.Is vs) : isTs vs := ts_rep 8 h
end Go.AL.S
