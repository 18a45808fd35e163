/- What the program's functions do, part 1. Conditions: none. -/
import Derived.Test.YtpclhmihehcniaaGreatDoorAd
import Derived.Test.YtpclhmihehcniaaGreatDoorChecked
import Derived.KernelRfl
import Derived.IntWalk
import Derived.Sort.AssemblyPlain
import Derived.OpenShut
import Derived.ChangeArms
import Derived.ReadAgain
set_option maxRecDepth 100000
namespace Go.AL
/-- Rules for going through code, in one. -/
theorem BS : (type_of% @e_reg) ∧ (type_of% @e_block) ∧ (type_of% @e_exit) ∧ (type_of% @e_ret) ∧ (type_of% @e_skip) ∧ (type_of% @e_par) ∧ (type_of% @e_done) ∧ (type_of% @e_step) ∧ (type_of% @e_cons) ∧ (type_of% @e_nil) ∧ (type_of% @e_plain) ∧ (type_of% @evs_nil) ∧ (type_of% @evs_cons) ∧ (type_of% @ev_t) ∧ (type_of% @ev_c) ∧ (type_of% @ev_f) ∧ (type_of% @argsA_ap) ∧ (type_of% @e_putK) ∧ (type_of% @e_putd) ∧ (type_of% @e_putd0) ∧ (type_of% @e_put) ∧ (type_of% @e_then) ∧ (type_of% @e_then_ret) ∧ (type_of% @e_then_exit) ∧ (type_of% @e_blk) ∧ (type_of% @e_blk_ret) ∧ (type_of% @e_blk_exit) ∧ (type_of% @retQ_ret) ∧ (type_of% @retQ_normal) ∧ (type_of% @e_res0) ∧ (type_of% @e_res1) ∧ (type_of% @e_res2) ∧ (type_of% @frz_int) ∧ (type_of% @frz_bool) ∧ (type_of% @frz_slr) ∧ (type_of% @frz_sl) ∧ (type_of% @frz_nilsl) ∧ (type_of% @frz_ptr) ∧ (type_of% @frz_fn) ∧ (type_of% @frz_map) ∧ (type_of% @frz_tuple) ∧ (type_of% @frz_agg) ∧ (type_of% @frz_yld) ∧ (type_of% @frz_str) ∧ (type_of% @sem_mov) ∧ (type_of% @sem_pick) ∧ (type_of% @sem_add) ∧ (type_of% @sem_sub) ∧ (type_of% @sem_mul) ∧ (type_of% @sem_lss) ∧ (type_of% @sem_leq) ∧ (type_of% @sem_gtr) ∧ (type_of% @sem_geq) ∧ (type_of% @sem_eql) ∧ (type_of% @sem_neq) ∧ (type_of% @sem_not) ∧ (type_of% @sem_neg) ∧ (type_of% @sem_conv) ∧ (type_of% @sem_ext0) ∧ (type_of% @sem_ext1) ∧ (type_of% @sem_call) ∧ (type_of% @sem_callv) ∧ (type_of% @sem_alloc) ∧ (type_of% @sem_box) ∧ (type_of% @sem_mkmap) ∧ (type_of% @sem_mkfn) ∧ (type_of% @sem_nilck_ptr) ∧ (type_of% @sem_nilck_fn) ∧ (type_of% @sem_fld_ptr) ∧ (type_of% @sem_fld_vptr) ∧ (type_of% @sem_len_nil) ∧ (type_of% @sem_len_sl) ∧ (type_of% @sem_len_slr) :=
  ⟨@e_reg, @e_block, @e_exit, @e_ret, @e_skip, @e_par, @e_done, @e_step, @e_cons, @e_nil, @e_plain, @evs_nil, @evs_cons, @ev_t, @ev_c, @ev_f, @argsA_ap, @e_putK, @e_putd, @e_putd0, @e_put, @e_then, @e_then_ret, @e_then_exit, @e_blk, @e_blk_ret, @e_blk_exit, @retQ_ret, @retQ_normal, @e_res0, @e_res1, @e_res2, @frz_int, @frz_bool, @frz_slr, @frz_sl, @frz_nilsl, @frz_ptr, @frz_fn, @frz_map, @frz_tuple, @frz_agg, @frz_yld, @frz_str, @sem_mov, @sem_pick, @sem_add, @sem_sub, @sem_mul, @sem_lss, @sem_leq, @sem_gtr, @sem_geq, @sem_eql, @sem_neq, @sem_not, @sem_neg, @sem_conv, @sem_ext0, @sem_ext1, @sem_call, @sem_callv, @sem_alloc, @sem_box, @sem_mkmap, @sem_mkfn, @sem_nilck_ptr, @sem_nilck_fn, @sem_fld_ptr, @sem_fld_vptr, @sem_len_nil, @sem_len_sl, @sem_len_slr⟩
theorem BC : (type_of% @Option.map_some.{0,0}) ∧ (type_of% @List.map_cons.{0,0}) ∧ (type_of% @List.map_nil.{0,0}) ∧ (type_of% @List.getElem?_cons_zero.{0}) ∧ (type_of% @List.getElem?_cons_succ.{0}) ∧ (type_of% @Bool.false_eq_true) ∧ (type_of% @Bool.true_eq_false) :=
  ⟨@Option.map_some.{0,0}, @List.map_cons.{0,0}, @List.map_nil.{0,0}, @List.getElem?_cons_zero.{0}, @List.getElem?_cons_succ.{0}, @Bool.false_eq_true, @Bool.true_eq_false⟩
end Go.AL
set_option maxRecDepth 100000
namespace Go.AL.S
open Go Go.AL Go.Proofs Go.Sort
/- cmp.Less[uint16] -/
def c87 : AC := (AC.seq (AC.reg [⟨some 4, .mov, [.c (.bool false)], none⟩]) (AC.seq (AC.reg [⟨some 5, .mov, [.t 0], none⟩,⟨some 6, .call 116, [.t 5], none⟩,⟨some 7, .mov, [.t 6], none⟩,⟨some 8, .mov, [.t 1], (some (7, true))⟩,⟨some 9, .call 116, [.t 8], (some (7, true))⟩,⟨some 10, .un .not, [.t 9], (some (7, true))⟩,⟨some 11, .pick, [.t 7, .t 10, .c (.bool false)], none⟩,⟨some 12, .mov, [.t 11], none⟩,⟨some 13, .mov, [.t 0], (some (12, false))⟩,⟨some 14, .mov, [.t 1], (some (12, false))⟩,⟨some 15, .bin .lss, [.t 13, .t 14], (some (12, false))⟩,⟨some 16, .pick, [.t 12, .c (.bool true), .t 15], none⟩,⟨some 4, .mov, [.t 16], none⟩]) AC.ret))
def r87 : AC × List RT × Nat := (c87, [.tmp 4], 17)
theorem ok87e : compF Tryz.prog Tryz.f96 ⟨true, false, []⟩ = some r87 := by kernel_rfl
/- cmp.isNaN[uint16] -/
def c119 : AC := (AC.seq (AC.reg [⟨some 2, .mov, [.c (.bool false)], none⟩]) (AC.seq (AC.reg [⟨some 3, .mov, [.t 0], none⟩,⟨some 4, .mov, [.t 0], none⟩,⟨some 5, .bin .neq, [.t 3, .t 4], none⟩,⟨some 2, .mov, [.t 5], none⟩]) AC.ret))
def r119 : AC × List RT × Nat := (c119, [.tmp 2], 6)
theorem ok119e : compF Tryz.prog Tryz.f116 ⟨true, false, []⟩ = some r119 := by kernel_rfl
/- slices.siftDownOrdered[uint16] -/
def c114 : AC := (AC.seq (AC.reg [⟨some 10, .mov, [.t 1], none⟩,⟨some 8, .mov, [.t 10], none⟩]) (AC.block 0 (AC.loop (AC.block 1 (AC.seq (AC.reg [⟨some 11, .mov, [.t 8], none⟩,⟨some 12, .bin .mul, [.c (.int .i64 2), .t 11], none⟩,⟨some 13, .bin .add, [.t 12, .c (.int .i64 1)], none⟩,⟨some 9, .mov, [.t 13], none⟩]) (AC.seq (AC.seq (AC.reg [⟨some 14, .mov, [.t 9], none⟩,⟨some 15, .mov, [.t 2], none⟩,⟨some 16, .bin .geq, [.t 14, .t 15], none⟩]) (AC.cond (.t 16) (AC.exit 0) AC.skip)) (AC.seq (AC.seq (AC.par (PT.step 0 ⟨some 17, .mov, [.t 9], none⟩ (PT.step 1 ⟨some 18, .bin .add, [.t 17, .c (.int .i64 1)], none⟩ (PT.step 2 ⟨some 19, .mov, [.t 2], none⟩ (PT.step 3 ⟨some 20, .bin .lss, [.t 18, .t 19], none⟩ (PT.step 4 ⟨some 21, .mov, [.t 20], none⟩ (PT.step 5 ⟨some 22, .mov, [.t 0], (some (21, true))⟩ (PT.step 6 ⟨some 23, .mov, [.t 3], (some (21, true))⟩ (PT.step 7 ⟨some 24, .mov, [.t 9], (some (21, true))⟩ (PT.step 8 ⟨some 25, .bin .add, [.t 23, .t 24], (some (21, true))⟩ (PT.step 11 ⟨some 28, .mov, [.t 0], (some (21, true))⟩ (PT.step 12 ⟨some 29, .mov, [.t 3], (some (21, true))⟩ (PT.step 13 ⟨some 30, .mov, [.t 9], (some (21, true))⟩ (PT.step 14 ⟨some 31, .bin .add, [.t 29, .t 30], (some (21, true))⟩ (PT.step 15 ⟨some 32, .bin .add, [.t 31, .c (.int .i64 1)], (some (21, true))⟩ (PT.step 9 ⟨some 26, .idxp 1, [.t 22, .t 25], (some (21, true))⟩ (PT.step 10 ⟨some 27, .load false 1, [.t 26], (some (21, true))⟩ (PT.step 16 ⟨some 33, .idxp 1, [.t 28, .t 32], (some (21, true))⟩ (PT.step 17 ⟨some 34, .load false 1, [.t 33], (some (21, true))⟩ (PT.step 18 ⟨some 35, .call 96, [.t 27, .t 34], (some (21, true))⟩ (PT.step 19 ⟨some 36, .pick, [.t 21, .t 35, .c (.bool false)], none⟩ PT.done))))))))))))))))))))) (AC.cond (.t 36) (AC.reg [⟨some 37, .mov, [.t 9], none⟩,⟨some 38, .bin .add, [.t 37, .c (.int .i64 1)], none⟩,⟨some 9, .mov, [.t 38], none⟩]) AC.skip)) (AC.seq (AC.seq (AC.par (PT.step 0 ⟨some 39, .mov, [.t 0], none⟩ (PT.step 1 ⟨some 40, .mov, [.t 3], none⟩ (PT.step 2 ⟨some 41, .mov, [.t 8], none⟩ (PT.step 3 ⟨some 42, .bin .add, [.t 40, .t 41], none⟩ (PT.step 6 ⟨some 45, .mov, [.t 0], none⟩ (PT.step 7 ⟨some 46, .mov, [.t 3], none⟩ (PT.step 8 ⟨some 47, .mov, [.t 9], none⟩ (PT.step 9 ⟨some 48, .bin .add, [.t 46, .t 47], none⟩ (PT.step 4 ⟨some 43, .idxp 1, [.t 39, .t 42], none⟩ (PT.step 5 ⟨some 44, .load false 1, [.t 43], none⟩ (PT.step 10 ⟨some 49, .idxp 1, [.t 45, .t 48], none⟩ (PT.step 11 ⟨some 50, .load false 1, [.t 49], none⟩ (PT.step 12 ⟨some 51, .call 96, [.t 44, .t 50], none⟩ (PT.step 13 ⟨some 52, .un .not, [.t 51], none⟩ PT.done))))))))))))))) (AC.cond (.t 52) AC.ret AC.skip)) (AC.seq (AC.par (PT.step 0 ⟨some 53, .mov, [.t 0], none⟩ (PT.step 1 ⟨some 54, .mov, [.t 3], none⟩ (PT.step 2 ⟨some 55, .mov, [.t 8], none⟩ (PT.step 3 ⟨some 56, .bin .add, [.t 54, .t 55], none⟩ (PT.step 4 ⟨some 57, .mov, [.t 0], none⟩ (PT.step 5 ⟨some 58, .mov, [.t 3], none⟩ (PT.step 6 ⟨some 59, .mov, [.t 9], none⟩ (PT.step 7 ⟨some 60, .bin .add, [.t 58, .t 59], none⟩ (PT.step 8 ⟨some 61, .mov, [.t 0], none⟩ (PT.step 9 ⟨some 62, .mov, [.t 3], none⟩ (PT.step 10 ⟨some 63, .mov, [.t 9], none⟩ (PT.step 11 ⟨some 64, .bin .add, [.t 62, .t 63], none⟩ (PT.step 14 ⟨some 67, .mov, [.t 0], none⟩ (PT.step 15 ⟨some 68, .mov, [.t 3], none⟩ (PT.step 16 ⟨some 69, .mov, [.t 8], none⟩ (PT.step 17 ⟨some 70, .bin .add, [.t 68, .t 69], none⟩ (PT.step 12 ⟨some 65, .idxp 1, [.t 61, .t 64], none⟩ (PT.step 13 ⟨some 66, .load false 1, [.t 65], none⟩ (PT.step 18 ⟨some 71, .idxp 1, [.t 67, .t 70], none⟩ (PT.step 19 ⟨some 72, .load false 1, [.t 71], none⟩ (PT.step 20 ⟨some 73, .idxp 1, [.t 53, .t 56], none⟩ (PT.step 21 ⟨none, .store 1, [.t 73, .t 66], none⟩ (PT.step 22 ⟨some 74, .idxp 1, [.t 57, .t 60], none⟩ (PT.step 23 ⟨none, .store 1, [.t 74, .t 72], none⟩ PT.done))))))))))))))))))))))))) (AC.reg [⟨some 75, .mov, [.t 9], none⟩,⟨some 8, .mov, [.t 75], none⟩]))))))))))
def r114 : AC × List RT × Nat := (c114, [], 76)
theorem ok114e : compF Tryz.prog Tryz.f187 ⟨true, false, []⟩ = some r114 := by kernel_rfl
/- slices.heapSortOrdered[uint16] -/
def c82 : AC := (AC.seq (AC.reg [⟨some 11, .mov, [.t 1], none⟩,⟨some 6, .mov, [.t 11], none⟩]) (AC.seq (AC.reg [⟨some 7, .mov, [.c (.int .i64 0)], none⟩]) (AC.seq (AC.reg [⟨some 12, .mov, [.t 2], none⟩,⟨some 13, .mov, [.t 1], none⟩,⟨some 14, .bin .sub, [.t 12, .t 13], none⟩,⟨some 8, .mov, [.t 14], none⟩]) (AC.seq (AC.seq (AC.reg [⟨some 15, .mov, [.t 8], none⟩,⟨some 16, .bin .sub, [.t 15, .c (.int .i64 1)], none⟩,⟨some 17, .bin .quo, [.t 16, .c (.int .i64 2)], none⟩,⟨some 9, .mov, [.t 17], none⟩]) (AC.block 0 (AC.loop (AC.seq (AC.seq (AC.reg [⟨some 18, .mov, [.t 9], none⟩,⟨some 19, .bin .geq, [.t 18, .c (.int .i64 0)], none⟩]) (AC.cond (.t 19) AC.skip (AC.exit 0))) (AC.seq (AC.block 1 (AC.reg [⟨some 22, .mov, [.t 0], none⟩,⟨some 23, .mov, [.t 9], none⟩,⟨some 24, .mov, [.t 8], none⟩,⟨some 25, .mov, [.t 6], none⟩,⟨some 26, .call 187, [.t 22, .t 23, .t 24, .t 25], none⟩])) (AC.reg [⟨some 20, .mov, [.t 9], none⟩,⟨some 21, .bin .sub, [.t 20, .c (.int .i64 1)], none⟩,⟨some 9, .mov, [.t 21], none⟩])))))) (AC.seq (AC.reg [⟨some 27, .mov, [.t 8], none⟩,⟨some 28, .bin .sub, [.t 27, .c (.int .i64 1)], none⟩,⟨some 10, .mov, [.t 28], none⟩]) (AC.block 2 (AC.loop (AC.seq (AC.seq (AC.reg [⟨some 29, .mov, [.t 10], none⟩,⟨some 30, .bin .geq, [.t 29, .c (.int .i64 0)], none⟩]) (AC.cond (.t 30) AC.skip (AC.exit 2))) (AC.seq (AC.block 3 (AC.seq (AC.par (PT.step 0 ⟨some 33, .mov, [.t 0], none⟩ (PT.step 1 ⟨some 34, .mov, [.t 6], none⟩ (PT.step 2 ⟨some 35, .mov, [.t 0], none⟩ (PT.step 3 ⟨some 36, .mov, [.t 6], none⟩ (PT.step 4 ⟨some 37, .mov, [.t 10], none⟩ (PT.step 5 ⟨some 38, .bin .add, [.t 36, .t 37], none⟩ (PT.step 6 ⟨some 39, .mov, [.t 0], none⟩ (PT.step 7 ⟨some 40, .mov, [.t 6], none⟩ (PT.step 8 ⟨some 41, .mov, [.t 10], none⟩ (PT.step 9 ⟨some 42, .bin .add, [.t 40, .t 41], none⟩ (PT.step 12 ⟨some 45, .mov, [.t 0], none⟩ (PT.step 13 ⟨some 46, .mov, [.t 6], none⟩ (PT.step 10 ⟨some 43, .idxp 1, [.t 39, .t 42], none⟩ (PT.step 11 ⟨some 44, .load false 1, [.t 43], none⟩ (PT.step 14 ⟨some 47, .idxp 1, [.t 45, .t 46], none⟩ (PT.step 15 ⟨some 48, .load false 1, [.t 47], none⟩ (PT.step 16 ⟨some 49, .idxp 1, [.t 33, .t 34], none⟩ (PT.step 17 ⟨none, .store 1, [.t 49, .t 44], none⟩ (PT.step 18 ⟨some 50, .idxp 1, [.t 35, .t 38], none⟩ (PT.step 19 ⟨none, .store 1, [.t 50, .t 48], none⟩ PT.done))))))))))))))))))))) (AC.reg [⟨some 51, .mov, [.t 0], none⟩,⟨some 52, .mov, [.t 7], none⟩,⟨some 53, .mov, [.t 10], none⟩,⟨some 54, .mov, [.t 6], none⟩,⟨some 55, .call 187, [.t 51, .t 52, .t 53, .t 54], none⟩]))) (AC.reg [⟨some 31, .mov, [.t 10], none⟩,⟨some 32, .bin .sub, [.t 31, .c (.int .i64 1)], none⟩,⟨some 10, .mov, [.t 32], none⟩]))))))))))
def r82 : AC × List RT × Nat := (c82, [], 56)
theorem ok82e : compF Tryz.prog Tryz.f154 ⟨true, false, []⟩ = some r82 := by kernel_rfl
/- slices.reverseRangeOrdered[uint16] -/
def c85 : AC := (AC.seq (AC.reg [⟨some 8, .mov, [.t 1], none⟩,⟨some 6, .mov, [.t 8], none⟩]) (AC.seq (AC.reg [⟨some 9, .mov, [.t 2], none⟩,⟨some 10, .bin .sub, [.t 9, .c (.int .i64 1)], none⟩,⟨some 7, .mov, [.t 10], none⟩]) (AC.block 0 (AC.loop (AC.seq (AC.seq (AC.reg [⟨some 11, .mov, [.t 6], none⟩,⟨some 12, .mov, [.t 7], none⟩,⟨some 13, .bin .lss, [.t 11, .t 12], none⟩]) (AC.cond (.t 13) AC.skip (AC.exit 0))) (AC.block 1 (AC.seq (AC.par (PT.step 0 ⟨some 14, .mov, [.t 0], none⟩ (PT.step 1 ⟨some 15, .mov, [.t 6], none⟩ (PT.step 2 ⟨some 16, .mov, [.t 0], none⟩ (PT.step 3 ⟨some 17, .mov, [.t 7], none⟩ (PT.step 4 ⟨some 18, .mov, [.t 0], none⟩ (PT.step 5 ⟨some 19, .mov, [.t 7], none⟩ (PT.step 8 ⟨some 22, .mov, [.t 0], none⟩ (PT.step 9 ⟨some 23, .mov, [.t 6], none⟩ (PT.step 6 ⟨some 20, .idxp 1, [.t 18, .t 19], none⟩ (PT.step 7 ⟨some 21, .load false 1, [.t 20], none⟩ (PT.step 10 ⟨some 24, .idxp 1, [.t 22, .t 23], none⟩ (PT.step 11 ⟨some 25, .load false 1, [.t 24], none⟩ (PT.step 12 ⟨some 26, .idxp 1, [.t 14, .t 15], none⟩ (PT.step 13 ⟨none, .store 1, [.t 26, .t 21], none⟩ (PT.step 14 ⟨some 27, .idxp 1, [.t 16, .t 17], none⟩ (PT.step 15 ⟨none, .store 1, [.t 27, .t 25], none⟩ PT.done))))))))))))))))) (AC.seq (AC.reg [⟨some 28, .mov, [.t 6], none⟩,⟨some 29, .bin .add, [.t 28, .c (.int .i64 1)], none⟩,⟨some 6, .mov, [.t 29], none⟩]) (AC.reg [⟨some 30, .mov, [.t 7], none⟩,⟨some 31, .bin .sub, [.t 30, .c (.int .i64 1)], none⟩,⟨some 7, .mov, [.t 31], none⟩])))))))))
def r85 : AC × List RT × Nat := (c85, [], 32)
theorem ok85e : compF Tryz.prog Tryz.f157 ⟨true, false, []⟩ = some r85 := by kernel_rfl
variable {E : Env}
theorem isNaN_c (hP : E.P = Tryz.prog) (W : AW) (a : Int) : ACalls E 116 [.int .u16 a] W fun X W' => X = .bool false ∧ W' = W := by
  refine ACalls.of hP Tryz.func116 ok119e (by simp) fun _ _ => ?_
  simp only [c119, BS, BC, e_seq, ↓reduceIte, Nat.reduceEqDiff, reduceCtorEq]
  exact ⟨_, rfl, _, _, .weak weak_id, Nat.le_refl _, by simp, rfl⟩
theorem less_c (hP : E.P = Tryz.prog) (W : AW) (a b : Int) : ACalls E 96 [.int .u16 a, .int .u16 b] W fun X W' => X = .bool (decide (a < b)) ∧ W' = W := by
  refine ACalls.of hP Tryz.func96 ok87e (by simp) fun _ _ => ?_
  simp only [c87, BS, BC, e_seq, ↓reduceIte, reduceCtorEq]
  refine (isNaN_c hP W _).mono ?_
  rintro X W' ⟨rfl, rfl⟩
  simp only [BS, BC, guard_if, ↓reduceIte, Nat.reduceEqDiff, reduceCtorEq]
  exact ⟨_, rfl, _, _, .weak weak_id, Nat.le_refl _, rfl, rfl⟩

/-! an array of numbers that is written in place -/
def cellsI (d : Array Int) : List V := d.toList.map (V.int .u16)
theorem cellsI_len (d : Array Int) : (cellsI d).length = d.size := by simp [cellsI]
theorem part_cellsI {d : Array Int} {i : Nat} (h : i < d.size) : partV (cellsI d) i 1 false = some (.int .u16 d[i]!) := by
  simp [partV, cellsI, h]
def pv (W : AW) (r : Nat) (d : Array Int) : AW := W.put r (.vec 1 (cellsI d))
theorem pv_get {W : AW} {r : Nat} {d : Array Int} : (pv W r d).get r = some (.vec 1 (cellsI d)) := by simp [pv, AW.put]
theorem pv_nx {W : AW} {r : Nat} {d : Array Int} : (pv W r d).nx = W.nx := id rfl
theorem pv_self {W : AW} {r : Nat} {d : Array Int} (h : W.get r = some (.vec 1 (cellsI d))) : pv W r d = W := put_same h
theorem ix {W : AW} {K : V → AW → Prop} {r n i : Nat} (h : i < n) : sem E (.idxp 1) [.slr r 0 n 1, .int .i64 (i : Int)] W K = K (.vptr r i) W := by
  rw [sem_idxp_slr (by omega) (by omega)]; simp
theorem ld {W : AW} {K : V → AW → Prop} {r i : Nat} {d : Array Int} (h : i < d.size) : sem E (.load false 1) [.vptr r i] (pv W r d) K = K (.int .u16 d[i]!) (pv W r d) :=
  sem_load_vec pv_get (part_cellsI h)
theorem st {W : AW} {K : V → AW → Prop} {r i : Nat} {d : Array Int} {v : Int} (h : i < d.size) : sem E (.store 1) [.vptr r i, .int .u16 v] (pv W r d) K = K .undef (pv W r (d.setIfInBounds i v)) := by
  rw [sem_store_vec (s := 1) (x := .int .u16 v) pv_get rfl rfl (by rw [cellsI_len]; omega)]
  congr 1
  show (pv W r d).put r _ = _
  rw [show (pv W r d).put r (.vec 1 ((cellsI d).take i ++ (V.int .u16 v).cells ++ (cellsI d).drop (i + 1))) = W.put r (.vec 1 ((cellsI d).take i ++ (V.int .u16 v).cells ++ (cellsI d).drop (i + 1))) from by
    simp only [pv, AW.put, AW.mk.injEq, and_true]
    funext x
    by_cases h : x = r <;> simp [h]]
  have e : (cellsI d).take i ++ (V.int .u16 v).cells ++ (cellsI d).drop (i + 1) = cellsI (d.setIfInBounds i v) := by
    have : (V.int .u16 v).cells = [V.int .u16 v] := rfl
    rw [this, show (cellsI d).take i ++ [V.int .u16 v] ++ (cellsI d).drop (i + 1) = (cellsI d).set i (V.int .u16 v) from by
      rw [List.set_eq_take_append_cons_drop, if_pos (by rw [cellsI_len]; exact h)]; simp]
    simp [cellsI, List.map_set]
  rw [e]; rfl
theorem sz_set {d : Array Int} {i : Nat} {v : Int} : (d.setIfInBounds i v).size = d.size := by simp
theorem sw {d : Array Int} {i j : Nat} : (d.setIfInBounds i d[j]!).setIfInBounds j d[i]! = swp d i j := id rfl
/-! arithmetic of indices -/
theorem wn {n : Nat} (h : n < 2 ^ 63) : IntKind.i64.wrap (n : Int) = n := IntWalk.i64_in _ (by omega)
theorem wadd {a b : Nat} (h : a + b < 2 ^ 63) : IntKind.i64.wrap ((a : Int) + (b : Int)) = ((a + b : Nat) : Int) := by rw [← wn h]; congr 1
theorem wadd1 {a : Nat} (h : a + 1 < 2 ^ 63) : IntKind.i64.wrap ((a : Int) + 1) = ((a + 1 : Nat) : Int) := by rw [← wn h]; congr 1
theorem wsub {a b : Nat} (h : b ≤ a) (h' : a < 2 ^ 63) : IntKind.i64.wrap ((a : Int) - (b : Int)) = ((a - b : Nat) : Int) := by rw [← wn (show a - b < 2 ^ 63 by omega)]; congr 1; omega
theorem wsub1 {a : Nat} (h : 1 ≤ a) (h' : a < 2 ^ 63) : IntKind.i64.wrap ((a : Int) - 1) = ((a - 1 : Nat) : Int) := by rw [← wn (show a - 1 < 2 ^ 63 by omega)]; congr 1; omega
theorem wmul2 {a : Nat} (h : 2 * a < 2 ^ 63) : IntKind.i64.wrap (2 * (a : Int)) = ((2 * a : Nat) : Int) := by rw [← wn h]; congr 1
theorem clt {a b : Nat} : decide ((a : Int) < (b : Int)) = decide (a < b) := by simp
theorem cge {a b : Nat} : decide ((a : Int) ≥ (b : Int)) = decide (a ≥ b) := by simp
theorem cgt {a b : Nat} : decide ((a : Int) > (b : Int)) = decide (a > b) := by simp
theorem cle {a b : Nat} : decide ((a : Int) ≤ (b : Int)) = decide (a ≤ b) := by simp
theorem reverseRange_c (hP : E.P = Tryz.prog) (W : AW) (r n a b : Nat) (d : Array Int) (hn : d.size = n) (hb : b ≤ n) (hb1 : 1 ≤ b) (hsm : n < 2 ^ 48) :
    ACalls E 157 [.slr r 0 n 1, .int .i64 a, .int .i64 b] (pv W r d) fun X W' => X = .tuple [] ∧ W' = pv W r (reverseRange d a b) := by
  refine ACalls.of hP Tryz.func157 ok85e (by simp) fun _ _ => ?_
  simp (maxSteps := 2000000) (disch := omega) only [c85, BS, BC, e_seq, ↓reduceIte, Nat.reduceEqDiff, wsub1, e_loop]
  refine ALoop.go (B := awp E _) (fun h => awp_mono _ h) (fun (s : Nat × Nat × Array Int) A1 W1 => A1 0 = some (.slr r 0 n 1) ∧ A1 6 = some (.int .i64 s.1) ∧ A1 7 = some (.int .i64 s.2.1) ∧
    W1 = pv W r s.2.2 ∧ s.2.1 < n ∧ s.2.2.size = n ∧ reverseLoop s.1 s.2.1 s.2.2 = reverseRange d a b) (fun s => s.2.1 - s.1) (a, b - 1, d)
    ⟨rfl, rfl, rfl, rfl, by simp; omega, hn, rfl⟩ ?_
  rintro ⟨i, j, d1⟩ A1 W1 ⟨g0, g6, g7, rfl, gj, gs, gt⟩ _
  simp only at g6 g7 gj gs gt
  simp only [BS, e_seq, cond_if, ↓reduceIte, Nat.reduceEqDiff, reduceCtorEq, g0, g6, g7, clt]
  by_cases h : i < j
  · simp (disch := (try simp only [sz_set]) <;> omega) only [BS, e_seq, ↓reduceIte, Nat.reduceEqDiff, reduceCtorEq, h, decide_true, g0, g6, g7, ix, ld, st, wadd1, wsub1, sw]
    refine ⟨(i + 1, j - 1, swp d1 i j), ⟨trivial, rfl, rfl, rfl, by simp; omega, by simp [swp, gs], ?_⟩, by simp; omega, Nat.le_refl _⟩
    rw [← gt, reverseLoop.eq_def i j d1, if_pos h]
  · simp only [BC, ↓reduceIte, h, decide_false]
    refine ⟨_, rfl, _, _, .weak weak_id, Nat.le_refl _, rfl, ?_⟩
    rw [← gt, reverseLoop, if_neg h]

theorem siftDown_c (hP : E.P = Tryz.prog) (W : AW) (r n lo hi first : Nat) (d : Array Int) (hn : d.size = n) (hh : first + hi ≤ n) (hlo : lo ≤ n) (hsm : n < 2 ^ 48) :
    ACalls E 187 [.slr r 0 n 1, .int .i64 lo, .int .i64 hi, .int .i64 first] (pv W r d) fun X W' => X = .tuple [] ∧ W' = pv W r (siftDown ltInt hi first lo d) := by
  refine ACalls.of hP Tryz.func187 ok114e (by simp) fun _ _ => ?_
  simp only [c114, BS, BC, e_seq, ↓reduceIte, e_loop]
  refine ALoop.go (B := awp E _) (fun h => awp_mono _ h) (fun (s : Nat × Array Int) A1 W1 => A1 0 = some (.slr r 0 n 1) ∧ A1 2 = some (.int .i64 hi) ∧ A1 3 = some (.int .i64 first) ∧ A1 8 = some (.int .i64 s.1) ∧
    W1 = pv W r s.2 ∧ s.1 ≤ n ∧ s.2.size = n ∧ siftDown ltInt hi first s.1 s.2 = siftDown ltInt hi first lo d) (fun s => n - s.1) (lo, d)
    ⟨rfl, rfl, rfl, rfl, rfl, hlo, hn, rfl⟩ ?_
  rintro ⟨root, d1⟩ A1 W1 ⟨g0, g2, g3, g8, rfl, gr, gs, gt⟩ _
  simp only at g8 gr gs gt
  rw [siftDown.eq_def ltInt hi first root d1] at gt
  by_cases h1 : 2 * root + 1 ≥ hi
  · simp (maxSteps := 2000000) (disch := omega) only [BS, e_seq, cond_if, ↓reduceIte, Nat.reduceEqDiff, reduceCtorEq, g2, g8, wmul2, wadd1, cge, h1, decide_true]
    rw [dif_pos h1] at gt
    exact ⟨_, rfl, _, _, .weak weak_id, Nat.le_refl _, rfl, by rw [← gt]⟩
  rw [dif_neg h1] at gt
  have fin : ∀ c, root < c → c < hi → (if !ltInt d1[first + root]! d1[first + c]! then d1 else siftDown ltInt hi first c (swp d1 (first + root) (first + c))) = siftDown ltInt hi first lo d →
      (¬ d1[first + root]! < d1[first + c]! → d1 = siftDown ltInt hi first lo d) ∧ (d1[first + root]! < d1[first + c]! → siftDown ltInt hi first c (swp d1 (first + root) (first + c)) = siftDown ltInt hi first lo d) := by
    intro c _ _ h
    by_cases h4 : d1[first + root]! < d1[first + c]!
    · simp [ltInt, h4] at h; exact ⟨fun h' => absurd h4 h', fun _ => h⟩
    · simp [ltInt, h4] at h; exact ⟨fun _ => h, fun h' => absurd h' h4⟩
  by_cases h2 : 2 * root + 1 + 1 < hi
  · simp (maxSteps := 2000000) (disch := omega) only [BS, BC, e_seq, cond_if, guard_if, ↓reduceIte, Nat.reduceEqDiff, reduceCtorEq, h1, decide_false, h2, decide_true, g0, g2, g3, g8, wmul2, wadd1, wadd, cge, clt, ix, ld]
    refine (less_c hP _ _ _).mono ?_
    rintro X W' ⟨rfl, rfl⟩
    by_cases h3 : d1[first + (2 * root + 1)]! < d1[first + (2 * root + 1) + 1]!
    · obtain ⟨c, hc⟩ : ∃ c, c = 2 * root + 2 := ⟨_, rfl⟩
      have wc : IntKind.i64.wrap (((2 * root + 1 : Nat) : Int) + 1) = (c : Int) := by rw [wadd1 (by omega), hc]
      rw [if_pos (by simp [h2, ltInt, h3])] at gt
      have f := fin c (by omega) (by omega) (by rw [← gt, hc, dif_pos (by omega)])
      simp (maxSteps := 2000000) (disch := omega) only [BS, BC, e_seq, cond_if, ↓reduceIte, Nat.reduceEqDiff, reduceCtorEq, h3, decide_true, g0, g3, g8, wc, wadd, ix, ld]
      refine (less_c hP _ _ _).mono ?_
      rintro X W' ⟨rfl, rfl⟩
      by_cases h4 : d1[first + root]! < d1[first + c]!
      · simp (disch := (try simp only [sz_set]) <;> omega) only [BS, BC, e_seq, cond_if, ↓reduceIte, Nat.reduceEqDiff, reduceCtorEq, h4, decide_true, Bool.not_true, g0, g2, g3, g8, wadd, ix, ld, st, sw]
        exact ⟨(c, swp d1 (first + root) (first + c)), ⟨trivial, trivial, trivial, rfl, rfl, by simp; omega, by simp [swp, gs], f.2 h4⟩, by simp; omega, Nat.le_refl _⟩
      · simp only [BS, cond_if, ↓reduceIte, h4, decide_false, Bool.not_false]
        exact ⟨_, rfl, _, _, .weak weak_id, Nat.le_refl _, rfl, by rw [← f.1 h4]⟩
    · obtain ⟨c, hc⟩ : ∃ c, c = 2 * root + 1 := ⟨_, rfl⟩
      rw [if_neg (by simp [h2, ltInt, h3])] at gt
      have f := fin c (by omega) (by omega) (by rw [← gt, hc])
      rw [← hc] at h3
      simp (maxSteps := 2000000) (disch := omega) only [BS, BC, e_seq, cond_if, ↓reduceIte, Nat.reduceEqDiff, reduceCtorEq, h3, decide_false, g0, g3, g8, ← hc, wadd, ix, ld]
      refine (less_c hP _ _ _).mono ?_
      rintro X W' ⟨rfl, rfl⟩
      by_cases h4 : d1[first + root]! < d1[first + c]!
      · simp (disch := (try simp only [sz_set]) <;> omega) only [BS, BC, e_seq, cond_if, ↓reduceIte, Nat.reduceEqDiff, reduceCtorEq, h4, decide_true, Bool.not_true, g0, g2, g3, g8, wadd, ix, ld, st, sw]
        exact ⟨(c, swp d1 (first + root) (first + c)), ⟨trivial, trivial, trivial, rfl, rfl, by simp; omega, by simp [swp, gs], f.2 h4⟩, by simp; omega, Nat.le_refl _⟩
      · simp only [BS, cond_if, ↓reduceIte, h4, decide_false, Bool.not_false]
        exact ⟨_, rfl, _, _, .weak weak_id, Nat.le_refl _, rfl, by rw [← f.1 h4]⟩
  · obtain ⟨c, hc⟩ : ∃ c, c = 2 * root + 1 := ⟨_, rfl⟩
    rw [if_neg (by simp [h2])] at gt
    have f := fin c (by omega) (by omega) (by rw [← gt, hc])
    rw [← hc] at h1 h2
    simp (maxSteps := 2000000) (disch := omega) only [BS, BC, e_seq, cond_if, guard_if, ↓reduceIte, Nat.reduceEqDiff, reduceCtorEq, h1, decide_false, h2, g0, g2, g3, g8, wmul2, wadd1, wadd, cge, clt, ← hc, ix, ld]
    refine (less_c hP _ _ _).mono ?_
    rintro X W' ⟨rfl, rfl⟩
    by_cases h4 : d1[first + root]! < d1[first + c]!
    · simp (disch := (try simp only [sz_set]) <;> omega) only [BS, BC, e_seq, cond_if, ↓reduceIte, Nat.reduceEqDiff, reduceCtorEq, h4, decide_true, Bool.not_true, g0, g2, g3, g8, wadd, ix, ld, st, sw]
      exact ⟨(c, swp d1 (first + root) (first + c)), ⟨trivial, trivial, trivial, rfl, rfl, by simp; omega, by simp [swp, gs], f.2 h4⟩, by simp; omega, Nat.le_refl _⟩
    · simp only [BS, cond_if, ↓reduceIte, h4, decide_false, Bool.not_false]
      exact ⟨_, rfl, _, _, .weak weak_id, Nat.le_refl _, rfl, by rw [← f.1 h4]⟩

theorem quoN {W : AW} {K : V → AW → Prop} {n : Nat} (c : Nat) (hc : 0 < c) (h : n < 2 ^ 63) : sem E (.bin .quo) [.int .i64 (n : Int), .int .i64 (c : Int)] W K = K (.int .i64 ((n / c : Nat) : Int)) W := by
  have h1 : ¬ ((c : Int) = 0) := by omega
  have h2 : (n : Int).tdiv (c : Int) = ((n / c : Nat) : Int) := by simp
  have h3 : n / c < 2 ^ 63 := Nat.lt_of_le_of_lt (Nat.div_le_self _ _) h
  have h4 : binI .quo .i64 n c = some (.int .i64 ((n / c : Nat) : Int)) := by simp only [binI, h1, ↓reduceIte, h2, wn h3]
  simp only [sem, rsem, tsem, ↓reduceIte, h4]
theorem quo2 {W : AW} {K : V → AW → Prop} {n : Nat} (h : n < 2 ^ 63) : sem E (.bin .quo) [.int .i64 (n : Int), .int .i64 2] W K = K (.int .i64 ((n / 2 : Nat) : Int)) W := quoN 2 (by decide) h
theorem quo4 {W : AW} {K : V → AW → Prop} {n : Nat} (h : n < 2 ^ 63) : sem E (.bin .quo) [.int .i64 (n : Int), .int .i64 4] W K = K (.int .i64 ((n / 4 : Nat) : Int)) W := quoN 4 (by decide) h
theorem quo8 {W : AW} {K : V → AW → Prop} {n : Nat} (h : n < 2 ^ 63) : sem E (.bin .quo) [.int .i64 (n : Int), .int .i64 8] W K = K (.int .i64 ((n / 8 : Nat) : Int)) W := quoN 8 (by decide) h
theorem wsubm {k : Nat} (h : k < 2 ^ 63) : IntKind.i64.wrap ((k : Int) - 1) = (k : Int) - 1 := IntWalk.i64_in _ (by omega)
theorem cge0 {k : Nat} : decide ((k : Int) ≥ 0) = true := by simp
theorem succ_pred (k : Nat) : (((k + 1 : Nat) : Int) - 1) = (k : Int) := by omega
theorem siftDown_size (lt : Int → Int → Bool) (hi first : Nat) : ∀ (m root : Nat) (d : Array Int), hi - root ≤ m → (siftDown lt hi first root d).size = d.size := by
  intro m
  induction m with
  | zero => intro root d h; rw [siftDown.eq_def, dif_pos (by omega)]
  | succ m ih =>
    intro root d h
    rw [siftDown.eq_def]
    split
    · rfl
    split
    · split
      · rfl
      split
      · rw [ih _ _ (by omega)]; simp [swp]
      · rfl
    · split
      · rfl
      · rw [ih _ _ (by omega)]; simp [swp]

theorem heapSort_c (hP : E.P = Tryz.prog) (W : AW) (r n a b : Nat) (d : Array Int) (hn : d.size = n) (hab : a < b) (hb : b ≤ n) (hsm : n < 2 ^ 48) :
    ACalls E 154 [.slr r 0 n 1, .int .i64 a, .int .i64 b] (pv W r d) fun X W' => X = .tuple [] ∧ W' = pv W r (heapSort ltInt d a b) := by
  refine ACalls.of hP Tryz.func154 ok82e (by simp) fun _ _ => ?_
  obtain ⟨hi, hhi⟩ : ∃ hi, hi = b - a := ⟨_, rfl⟩
  simp (maxSteps := 2000000) (disch := omega) only [c82, BS, BC, e_seq, ↓reduceIte, Nat.reduceEqDiff, e_loop, wsub, wsub1, quo2, ← hhi]
  refine ALoop.go (B := awp E _) (fun h => awp_mono _ h) (fun (s : Nat × Array Int) A1 W1 => A1 0 = some (.slr r 0 n 1) ∧ A1 6 = some (.int .i64 a) ∧ A1 7 = some (.int .i64 0) ∧ A1 8 = some (.int .i64 hi) ∧ A1 9 = some (.int .i64 ((s.1 : Int) - 1)) ∧
    W1 = pv W r s.2 ∧ s.1 ≤ n ∧ s.2.size = n ∧ heapPop ltInt a hi (heapBuild ltInt hi a s.1 s.2) = heapSort ltInt d a b) (fun s => s.1) ((hi - 1) / 2 + 1, d)
    ⟨rfl, rfl, rfl, rfl, by rw [succ_pred]; rfl, rfl, by simp; omega, hn, by rw [heapSort, hhi]⟩ ?_
  rintro ⟨k, d1⟩ A1 W1 ⟨g0, g6, g7, g8, g9, rfl, gk, gs, gt⟩ _
  simp only at g9 gk gs gt
  cases k with
  | succ k =>
    rw [succ_pred] at g9
    simp (maxSteps := 2000000) (disch := omega) only [BS, BC, e_seq, cond_if, ↓reduceIte, Nat.reduceEqDiff, reduceCtorEq, g0, g6, g8, g9, cge0]
    refine (siftDown_c hP W r n k hi a d1 gs (by omega) (by omega) hsm).mono ?_
    rintro X W' ⟨rfl, rfl⟩
    simp (maxSteps := 2000000) (disch := omega) only [BS, ↓reduceIte, Nat.reduceEqDiff, reduceCtorEq, g0, g6, g7, g8, g9, wsubm]
    exact ⟨(k, siftDown ltInt hi a k d1), ⟨trivial, trivial, trivial, trivial, rfl, rfl, by simp; omega, by rw [siftDown_size _ _ _ _ _ _ (Nat.le_refl _), gs], gt⟩, by simp, Nat.le_refl _⟩
  | zero =>
    have c0 : decide ((((0 : Nat) : Int) - 1) ≥ 0) = false := by decide
    simp (maxSteps := 2000000) (disch := omega) only [BS, BC, e_seq, cond_if, ↓reduceIte, Nat.reduceEqDiff, g8, g9, c0, wsubm, e_loop]
    refine ALoop.go (B := awp E _) (fun h => awp_mono _ h) (fun (s : Nat × Array Int) A1 W1 => A1 0 = some (.slr r 0 n 1) ∧ A1 6 = some (.int .i64 a) ∧ A1 7 = some (.int .i64 0) ∧ A1 10 = some (.int .i64 ((s.1 : Int) - 1)) ∧
      W1 = pv W r s.2 ∧ s.1 ≤ hi ∧ s.2.size = n ∧ heapPop ltInt a s.1 s.2 = heapSort ltInt d a b) (fun s => s.1) (hi, d1)
      ⟨g0, g6, g7, rfl, rfl, Nat.le_refl _, gs, gt⟩ ?_
    rintro ⟨k, d2⟩ A2 W2 ⟨q0, q6, q7, q10, rfl, qk, qs, qt⟩ _
    simp only at q10 qk qs qt
    cases k with
    | succ k =>
      rw [succ_pred] at q10
      have z : (0 : Int) = ((0 : Nat) : Int) := rfl
      simp (disch := (try simp only [sz_set]) <;> omega) only [BS, BC, e_seq, cond_if, ↓reduceIte, Nat.reduceEqDiff, reduceCtorEq, q0, q6, q7, q10, cge0, wadd, ix, ld, st, sw]
      refine (siftDown_c hP W r n 0 k a (swp d2 a (a + k)) (by simp [swp, qs]) (by omega) (by omega) hsm).mono ?_
      rintro X W' ⟨rfl, rfl⟩
      simp (maxSteps := 2000000) (disch := omega) only [BS, ↓reduceIte, Nat.reduceEqDiff, reduceCtorEq, q0, q6, q7, q10, wsubm]
      exact ⟨(k, siftDown ltInt k a 0 (swp d2 a (a + k))), ⟨trivial, trivial, trivial, rfl, rfl, by simp; omega, by rw [siftDown_size _ _ _ _ _ _ (Nat.le_refl _)]; simp [swp, qs], qt⟩, by simp, Nat.le_refl _⟩
    | zero =>
      have c0 : decide ((((0 : Nat) : Int) - 1) ≥ 0) = false := by decide
      simp (maxSteps := 2000000) (disch := omega) only [BS, BC, e_seq, cond_if, ↓reduceIte, q10, c0]
      exact ⟨_, rfl, _, _, .weak weak_id, Nat.le_refl _, rfl, by rw [← qt]; rfl⟩
end Go.AL.S
set_option maxRecDepth 100000
namespace Go.AL.S
open Go Go.AL Go.Proofs Go.Sort
/- slices.order2Ordered[uint16] -/
def c134 : AC := (AC.seq (AC.reg [⟨some 8, .mov, [.c (.int .i64 0)], none⟩,⟨some 9, .mov, [.c (.int .i64 0)], none⟩]) (AC.seq (AC.seq (AC.par (PT.step 0 ⟨some 10, .mov, [.t 0], none⟩ (PT.step 1 ⟨some 11, .mov, [.t 2], none⟩ (PT.step 4 ⟨some 14, .mov, [.t 0], none⟩ (PT.step 5 ⟨some 15, .mov, [.t 1], none⟩ (PT.step 2 ⟨some 12, .idxp 1, [.t 10, .t 11], none⟩ (PT.step 3 ⟨some 13, .load false 1, [.t 12], none⟩ (PT.step 6 ⟨some 16, .idxp 1, [.t 14, .t 15], none⟩ (PT.step 7 ⟨some 17, .load false 1, [.t 16], none⟩ (PT.step 8 ⟨some 18, .call 96, [.t 13, .t 17], none⟩ PT.done)))))))))) (AC.cond (.t 18) (AC.seq (AC.reg [⟨some 19, .mov, [.t 3], none⟩,⟨some 20, .nilck, [.t 19], none⟩,⟨some 21, .load false 1, [.t 20], none⟩,⟨some 22, .bin .add, [.t 21, .c (.int .i64 1)], none⟩,⟨some 23, .nilck, [.t 19], none⟩,⟨none, .store 1, [.t 23, .t 22], none⟩]) (AC.seq (AC.reg [⟨some 24, .mov, [.t 2], none⟩,⟨some 25, .mov, [.t 1], none⟩,⟨some 8, .mov, [.t 24], none⟩,⟨some 9, .mov, [.t 25], none⟩]) AC.ret)) AC.skip)) (AC.seq (AC.reg [⟨some 26, .mov, [.t 1], none⟩,⟨some 27, .mov, [.t 2], none⟩,⟨some 8, .mov, [.t 26], none⟩,⟨some 9, .mov, [.t 27], none⟩]) AC.ret)))
def r134 : AC × List RT × Nat := (c134, [.tmp 8, .tmp 9], 28)
theorem ok134e : compF Tryz.prog Tryz.f214 ⟨true, false, []⟩ = some r134 := by kernel_rfl
/- slices.medianOrdered[uint16] -/
def c118 : AC := (AC.seq (AC.reg [⟨some 10, .mov, [.c (.int .i64 0)], none⟩]) (AC.seq (AC.reg [⟨some 12, .mov, [.t 0], none⟩,⟨some 13, .mov, [.t 1], none⟩,⟨some 14, .mov, [.t 2], none⟩,⟨some 15, .mov, [.t 4], none⟩,⟨some 16, .call 214, [.t 12, .t 13, .t 14, .t 15], none⟩,⟨some 11, .mov, [.t 16], none⟩,⟨some 17, .ext 0, [.t 11], none⟩,⟨some 18, .ext 1, [.t 11], none⟩,⟨some 1, .mov, [.t 17], none⟩,⟨some 2, .mov, [.t 18], none⟩]) (AC.seq (AC.reg [⟨some 20, .mov, [.t 0], none⟩,⟨some 21, .mov, [.t 2], none⟩,⟨some 22, .mov, [.t 3], none⟩,⟨some 23, .mov, [.t 4], none⟩,⟨some 24, .call 214, [.t 20, .t 21, .t 22, .t 23], none⟩,⟨some 19, .mov, [.t 24], none⟩,⟨some 25, .ext 0, [.t 19], none⟩,⟨some 26, .ext 1, [.t 19], none⟩,⟨some 2, .mov, [.t 25], none⟩,⟨some 3, .mov, [.t 26], none⟩]) (AC.seq (AC.reg [⟨some 28, .mov, [.t 0], none⟩,⟨some 29, .mov, [.t 1], none⟩,⟨some 30, .mov, [.t 2], none⟩,⟨some 31, .mov, [.t 4], none⟩,⟨some 32, .call 214, [.t 28, .t 29, .t 30, .t 31], none⟩,⟨some 27, .mov, [.t 32], none⟩,⟨some 33, .ext 0, [.t 27], none⟩,⟨some 34, .ext 1, [.t 27], none⟩,⟨some 1, .mov, [.t 33], none⟩,⟨some 2, .mov, [.t 34], none⟩]) (AC.seq (AC.reg [⟨some 35, .mov, [.t 2], none⟩,⟨some 10, .mov, [.t 35], none⟩]) AC.ret)))))
def r118 : AC × List RT × Nat := (c118, [.tmp 10], 36)
theorem ok118e : compF Tryz.prog Tryz.f191 ⟨true, false, []⟩ = some r118 := by kernel_rfl
/- slices.medianAdjacentOrdered[uint16] -/
def c117 : AC := (AC.seq (AC.reg [⟨some 6, .mov, [.c (.int .i64 0)], none⟩]) (AC.seq (AC.reg [⟨some 7, .mov, [.t 0], none⟩,⟨some 8, .mov, [.t 1], none⟩,⟨some 9, .bin .sub, [.t 8, .c (.int .i64 1)], none⟩,⟨some 10, .mov, [.t 1], none⟩,⟨some 11, .mov, [.t 1], none⟩,⟨some 12, .bin .add, [.t 11, .c (.int .i64 1)], none⟩,⟨some 13, .mov, [.t 2], none⟩,⟨some 14, .call 191, [.t 7, .t 9, .t 10, .t 12, .t 13], none⟩,⟨some 6, .mov, [.t 14], none⟩]) AC.ret))
def r117 : AC × List RT × Nat := (c117, [.tmp 6], 15)
theorem ok117e : compF Tryz.prog Tryz.f190 ⟨true, false, []⟩ = some r117 := by kernel_rfl
/- slices.choosePivotOrdered[uint16] -/
def c84 : AC := (AC.seq (AC.reg [⟨some 6, .mov, [.c (.int .i64 0)], none⟩,⟨some 7, .mov, [.c (.int .i64 0)], none⟩]) (AC.seq (AC.reg [⟨some 13, .mov, [.t 2], none⟩,⟨some 14, .mov, [.t 1], none⟩,⟨some 15, .bin .sub, [.t 13, .t 14], none⟩,⟨some 8, .mov, [.t 15], none⟩]) (AC.seq (AC.reg [⟨some 9, .alloc [.int .i64 0], [], none⟩]) (AC.seq (AC.reg [⟨some 16, .mov, [.t 1], none⟩,⟨some 17, .mov, [.t 8], none⟩,⟨some 18, .bin .quo, [.t 17, .c (.int .i64 4)], none⟩,⟨some 19, .bin .mul, [.t 18, .c (.int .i64 1)], none⟩,⟨some 20, .bin .add, [.t 16, .t 19], none⟩,⟨some 10, .mov, [.t 20], none⟩]) (AC.seq (AC.reg [⟨some 21, .mov, [.t 1], none⟩,⟨some 22, .mov, [.t 8], none⟩,⟨some 23, .bin .quo, [.t 22, .c (.int .i64 4)], none⟩,⟨some 24, .bin .mul, [.t 23, .c (.int .i64 2)], none⟩,⟨some 25, .bin .add, [.t 21, .t 24], none⟩,⟨some 11, .mov, [.t 25], none⟩]) (AC.seq (AC.reg [⟨some 26, .mov, [.t 1], none⟩,⟨some 27, .mov, [.t 8], none⟩,⟨some 28, .bin .quo, [.t 27, .c (.int .i64 4)], none⟩,⟨some 29, .bin .mul, [.t 28, .c (.int .i64 3)], none⟩,⟨some 30, .bin .add, [.t 26, .t 29], none⟩,⟨some 12, .mov, [.t 30], none⟩]) (AC.seq (AC.seq (AC.reg [⟨some 31, .mov, [.t 8], none⟩,⟨some 32, .bin .geq, [.t 31, .c (.int .i64 8)], none⟩]) (AC.cond (.t 32) (AC.seq (AC.seq (AC.reg [⟨some 33, .mov, [.t 8], none⟩,⟨some 34, .bin .geq, [.t 33, .c (.int .i64 50)], none⟩]) (AC.cond (.t 34) (AC.seq (AC.reg [⟨some 35, .mov, [.t 0], none⟩,⟨some 36, .mov, [.t 10], none⟩,⟨some 37, .call 190, [.t 35, .t 36, .t 9], none⟩,⟨some 10, .mov, [.t 37], none⟩]) (AC.seq (AC.reg [⟨some 38, .mov, [.t 0], none⟩,⟨some 39, .mov, [.t 11], none⟩,⟨some 40, .call 190, [.t 38, .t 39, .t 9], none⟩,⟨some 11, .mov, [.t 40], none⟩]) (AC.reg [⟨some 41, .mov, [.t 0], none⟩,⟨some 42, .mov, [.t 12], none⟩,⟨some 43, .call 190, [.t 41, .t 42, .t 9], none⟩,⟨some 12, .mov, [.t 43], none⟩]))) AC.skip)) (AC.reg [⟨some 44, .mov, [.t 0], none⟩,⟨some 45, .mov, [.t 10], none⟩,⟨some 46, .mov, [.t 11], none⟩,⟨some 47, .mov, [.t 12], none⟩,⟨some 48, .call 191, [.t 44, .t 45, .t 46, .t 47, .t 9], none⟩,⟨some 11, .mov, [.t 48], none⟩])) AC.skip)) (AC.seq (AC.reg [⟨some 49, .load false 1, [.t 9], none⟩]) (AC.block 0 (AC.seq (AC.reg [⟨some 52, .bin .eql, [.t 49, .c (.int .i64 0)], none⟩,⟨some 51, .mov, [.t 52], none⟩]) (AC.cond (.t 51) (AC.seq (AC.reg [⟨some 53, .mov, [.t 11], none⟩,⟨some 6, .mov, [.t 53], none⟩,⟨some 7, .mov, [.c (.int .i64 1)], none⟩]) AC.ret) (AC.seq (AC.reg [⟨some 55, .bin .eql, [.t 49, .c (.int .i64 12)], none⟩,⟨some 54, .mov, [.t 55], none⟩]) (AC.cond (.t 54) (AC.seq (AC.reg [⟨some 56, .mov, [.t 11], none⟩,⟨some 6, .mov, [.t 56], none⟩,⟨some 7, .mov, [.c (.int .i64 2)], none⟩]) AC.ret) (AC.seq (AC.reg [⟨some 50, .mov, [.t 11], none⟩,⟨some 6, .mov, [.t 50], none⟩,⟨some 7, .mov, [.c (.int .i64 0)], none⟩]) AC.ret))))))))))))))
def r84 : AC × List RT × Nat := (c84, [.tmp 6, .tmp 7], 57)
theorem ok84e : compF Tryz.prog Tryz.f156 ⟨true, false, []⟩ = some r84 := by kernel_rfl
variable {E : Env}
/-! the count of swaps, beside the array -/
def pq (A : AW) (p s : Nat) : AW := A.put p (.row [.int .i64 (s : Int)])
theorem pq_pq {A : AW} {p s t : Nat} : (pq A p s).put p (.row [.int .i64 (t : Int)]) = pq A p t := by
  simp only [pq, AW.put, AW.mk.injEq, and_true]
  funext x
  by_cases h : x = p <;> simp [h]
theorem pq_get {A : AW} {p s : Nat} : (pq A p s).get p = some (.row [.int .i64 (s : Int)]) := by simp [pq, AW.put]
theorem ldq {A : AW} {K : V → AW → Prop} {r p s i : Nat} {d : Array Int} (hA : A.get r = some (.vec 1 (cellsI d))) (hp : r ≠ p) (h : i < d.size) :
    sem E (.load false 1) [.vptr r i] (pq A p s) K = K (.int .u16 d[i]!) (pq A p s) :=
  sem_load_vec (s' := 1) (cells := cellsI d) (by simp [pq, AW.put, hp, hA]) (part_cellsI h)
theorem ldp {A : AW} {K : V → AW → Prop} {p s : Nat} : sem E (.load false 1) [.ptr p 0] (pq A p s) K = K (.int .i64 (s : Int)) (pq A p s) := sem_load_row pq_get rfl
theorem stp {A : AW} {K : V → AW → Prop} {p s t : Nat} : sem E (.store 1) [.ptr p 0, .int .i64 (t : Int)] (pq A p s) K = K .undef (pq A p t) := by
  rw [sem_store_row (s := 1) (x := .int .i64 (t : Int)) pq_get rfl rfl (by simp)]
  show K .undef ((pq A p s).put p (.row [.int .i64 (t : Int)])) = _
  rw [pq_pq]

theorem order2_c (hP : E.P = Tryz.prog) {A : AW} {r p s n a b : Nat} {d : Array Int} (hA : A.get r = some (.vec 1 (cellsI d))) (hp : r ≠ p) (hn : d.size = n) (ha : a < n) (hb : b < n) (hs : s < 1000) :
    ACalls E 214 [.slr r 0 n 1, .int .i64 a, .int .i64 b, .ptr p 0] (pq A p s) fun X W' => X = .tuple [.int .i64 (order2 ltInt d a b s).1, .int .i64 (order2 ltInt d a b s).2.1] ∧ W' = pq A p (order2 ltInt d a b s).2.2 := by
  refine ACalls.of hP Tryz.func214 ok134e (by simp) fun _ _ => ?_
  simp (maxSteps := 2000000) (disch := omega) only [c134, BS, BC, e_seq, ↓reduceIte, Nat.reduceEqDiff, reduceCtorEq, ix, ldq hA hp]
  refine (less_c hP _ _ _).mono ?_
  rintro X W' ⟨rfl, rfl⟩
  by_cases h : d[b]! < d[a]!
  · simp (maxSteps := 2000000) (disch := omega) only [BS, BC, e_seq, cond_if, ↓reduceIte, Nat.reduceEqDiff, h, decide_true, ldp, wadd1, stp]
    exact ⟨_, rfl, _, _, .weak weak_id, Nat.le_refl _, by simp [order2, ltInt, h], by simp [order2, ltInt, h]⟩
  · simp (maxSteps := 2000000) (disch := omega) only [BS, BC, e_seq, cond_if, ↓reduceIte, Nat.reduceEqDiff, h, decide_false]
    exact ⟨_, rfl, _, _, .weak weak_id, Nat.le_refl _, by simp [order2, ltInt, h], by simp [order2, ltInt, h]⟩
theorem order2_le {d : Array Int} {a b s n : Nat} (ha : a < n) (hb : b < n) : (order2 ltInt d a b s).1 < n ∧ (order2 ltInt d a b s).2.1 < n ∧ (order2 ltInt d a b s).2.2 ≤ s + 1 := by
  unfold order2
  split <;> simp [ha, hb]

theorem median_c (hP : E.P = Tryz.prog) {A : AW} {r p s n a b c : Nat} {d : Array Int} (hA : A.get r = some (.vec 1 (cellsI d))) (hp : r ≠ p) (hn : d.size = n) (ha : a < n) (hb : b < n) (hc : c < n) (hs : s < 900) :
    ACalls E 191 [.slr r 0 n 1, .int .i64 a, .int .i64 b, .int .i64 c, .ptr p 0] (pq A p s) fun X W' => X = .int .i64 (median ltInt d a b c s).1 ∧ W' = pq A p (median ltInt d a b c s).2 := by
  refine ACalls.of hP Tryz.func191 ok118e (by simp) fun _ _ => ?_
  obtain ⟨l1, l2, l3⟩ := order2_le (d := d) (s := s) ha hb
  obtain ⟨m1, m2, m3⟩ := order2_le (d := d) (s := (order2 ltInt d a b s).2.2) l2 hc
  obtain ⟨n1, n2, n3⟩ := order2_le (d := d) (s := (order2 ltInt d (order2 ltInt d a b s).2.1 c (order2 ltInt d a b s).2.2).2.2) l1 m1
  simp only [c118, BS, BC, e_seq, ↓reduceIte, Nat.reduceEqDiff, reduceCtorEq]
  refine (order2_c hP hA hp hn ha hb (by omega)).mono ?_
  rintro X W' ⟨rfl, rfl⟩
  simp only [BS, BC, e_seq, ↓reduceIte, Nat.reduceEqDiff, reduceCtorEq]
  refine (order2_c hP hA hp hn l2 hc (by omega)).mono ?_
  rintro X W' ⟨rfl, rfl⟩
  simp only [BS, BC, e_seq, ↓reduceIte, Nat.reduceEqDiff, reduceCtorEq]
  refine (order2_c hP hA hp hn l1 m1 (by omega)).mono ?_
  rintro X W' ⟨rfl, rfl⟩
  simp only [BS, BC, e_seq, ↓reduceIte, Nat.reduceEqDiff]
  exact ⟨_, rfl, _, _, .weak weak_id, Nat.le_refl _, rfl, rfl⟩
theorem median_le {d : Array Int} {a b c s n : Nat} (ha : a < n) (hb : b < n) (hc : c < n) : (median ltInt d a b c s).1 < n ∧ (median ltInt d a b c s).2 ≤ s + 3 := by
  obtain ⟨l1, l2, l3⟩ := order2_le (d := d) (s := s) ha hb
  obtain ⟨m1, m2, m3⟩ := order2_le (d := d) (s := (order2 ltInt d a b s).2.2) l2 hc
  obtain ⟨n1, n2, n3⟩ := order2_le (d := d) (s := (order2 ltInt d (order2 ltInt d a b s).2.1 c (order2 ltInt d a b s).2.2).2.2) l1 m1
  exact ⟨n2, by simp only [median]; omega⟩

theorem medianAdjacent_c (hP : E.P = Tryz.prog) {A : AW} {r p s n a : Nat} {d : Array Int} (hA : A.get r = some (.vec 1 (cellsI d))) (hp : r ≠ p) (hn : d.size = n) (ha : 1 ≤ a) (hb : a + 1 < n) (hs : s < 900) (hsm : n < 2 ^ 48) :
    ACalls E 190 [.slr r 0 n 1, .int .i64 a, .ptr p 0] (pq A p s) fun X W' => X = .int .i64 (medianAdjacent ltInt d a s).1 ∧ W' = pq A p (medianAdjacent ltInt d a s).2 := by
  refine ACalls.of hP Tryz.func190 ok117e (by simp) fun _ _ => ?_
  simp (maxSteps := 2000000) (disch := omega) only [c117, BS, BC, e_seq, ↓reduceIte, Nat.reduceEqDiff, reduceCtorEq, wsub1, wadd1]
  refine (median_c hP hA hp hn (by omega) (by omega) (by omega) hs).mono ?_
  rintro X W' ⟨rfl, rfl⟩
  simp only [BS, BC, ↓reduceIte]
  exact ⟨_, rfl, _, _, .weak weak_id, Nat.le_refl _, rfl, rfl⟩

def hintN : Hint → Int
  | .unknown => 0 | .increasing => 1 | .decreasing => 2
theorem wmul1 {a : Nat} (h : a < 2 ^ 63) : IntKind.i64.wrap ((a : Int) * 1) = ((a * 1 : Nat) : Int) := by rw [← wn (show a * 1 < 2 ^ 63 by omega)]; congr 1
theorem wmulr2 {a : Nat} (h : a * 2 < 2 ^ 63) : IntKind.i64.wrap ((a : Int) * 2) = ((a * 2 : Nat) : Int) := by rw [← wn h]; congr 1
theorem wmulr3 {a : Nat} (h : a * 3 < 2 ^ 63) : IntKind.i64.wrap ((a : Int) * 3) = ((a * 3 : Nat) : Int) := by rw [← wn h]; congr 1
theorem cge8 {a : Nat} : decide ((a : Int) ≥ 8) = decide (a ≥ 8) := by simp; omega
theorem cge50 {a : Nat} : decide ((a : Int) ≥ 50) = decide (a ≥ 50) := by simp; omega
theorem eq0 {a : Nat} : ((a : Int) == 0) = decide (a = 0) := by
  by_cases h : a = 0 <;> simp [h]
theorem eq12 {a : Nat} : ((a : Int) == 12) = decide (a = 12) := by
  by_cases h : a = 12
  · simp [h]
  · simp [h]; omega
/-- What was made may be forgotten. -/
theorem weak_back {X : V} {W W1 : AW} (hok : W.ok) (hX : X.bel W.nx = true) (h : ∀ x, x < W.nx → W1.get x = W.get x) : WeakV X W1 W :=
  ⟨.inr hX, fun r o hr => by rw [h r (hok r o hr).1]; exact hr, .inr fun r o hr => (hok r o hr).1, .inr fun r o hr => (hok r o hr).2⟩

theorem choosePivot_c (hP : E.P = Tryz.prog) (W : AW) (r n a b : Nat) (d : Array Int) (hn : d.size = n) (hr : r < W.nx) (hab : a < b) (hb : b ≤ n) (hl : 8 ≤ b - a) (hsm : n < 2 ^ 48) :
    ACalls E 156 [.slr r 0 n 1, .int .i64 a, .int .i64 b] (pv W r d) fun X W' => X = .tuple [.int .i64 (choosePivot ltInt d a b).1, .int .i64 (hintN (choosePivot ltInt d a b).2)] ∧ W' = pv W r d := by
  refine ACalls.of hP Tryz.func156 ok84e (by simp) fun _ hok => ?_
  obtain ⟨l, hl'⟩ : ∃ l, l = b - a := ⟨_, rfl⟩
  obtain ⟨A, hAd⟩ : ∃ A, A = (pv W r d).alloc (.row [.int .i64 0]) := ⟨_, rfl⟩
  have hA : A.get r = some (.vec 1 (cellsI d)) := by
    rw [hAd]; simp only [AW.alloc, pv_nx]; rw [if_neg (by omega)]; exact pv_get
  have hp : r ≠ W.nx := by omega
  have hA0 : A = pq A W.nx 0 := by
    rw [hAd]
    simp only [pq, AW.alloc, AW.put, AW.mk.injEq, and_true]
    funext x
    by_cases h : x = W.nx <;> simp [h, pv_nx]
  have hback : ∀ s x, x < (pv W r d).nx → (pq A W.nx s).get x = (pv W r d).get x := by
    intro s x hx
    rw [pv_nx] at hx
    rw [hAd]
    simp only [pq, AW.alloc, AW.put, pv_nx]
    rw [if_neg (by omega), if_neg (by omega)]
  -- behind the medians
  have hn1 : a + l / 4 * 1 + 1 < n := by omega
  have hn2 : a + l / 4 * 2 + 1 < n := by omega
  have hn3 : a + l / 4 * 3 + 1 < n := by omega
  have hg8 : l ≥ 8 := by omega
  by_cases h50 : l ≥ 50
  · have k1 := median_le (d := d) (s := 0) (n := n) (a := a + l / 4 * 1 - 1) (b := a + l / 4 * 1) (c := a + l / 4 * 1 + 1) (by omega) (by omega) (by omega)
    obtain ⟨R1, hR1⟩ : ∃ R1, R1 = medianAdjacent ltInt d (a + l / 4 * 1) 0 := ⟨_, rfl⟩
    have k2 := median_le (d := d) (s := R1.2) (n := n) (a := a + l / 4 * 2 - 1) (b := a + l / 4 * 2) (c := a + l / 4 * 2 + 1) (by omega) (by omega) (by omega)
    obtain ⟨R2, hR2⟩ : ∃ R2, R2 = medianAdjacent ltInt d (a + l / 4 * 2) R1.2 := ⟨_, rfl⟩
    have k3 := median_le (d := d) (s := R2.2) (n := n) (a := a + l / 4 * 3 - 1) (b := a + l / 4 * 3) (c := a + l / 4 * 3 + 1) (by omega) (by omega) (by omega)
    obtain ⟨R3, hR3⟩ : ∃ R3, R3 = medianAdjacent ltInt d (a + l / 4 * 3) R2.2 := ⟨_, rfl⟩
    obtain ⟨R, hR⟩ : ∃ R, R = median ltInt d R1.1 R2.1 R3.1 R3.2 := ⟨_, rfl⟩
    change (medianAdjacent ltInt d (a + l / 4 * 1) 0).1 < n ∧ (medianAdjacent ltInt d (a + l / 4 * 1) 0).2 ≤ 0 + 3 at k1
    change (medianAdjacent ltInt d (a + l / 4 * 2) R1.2).1 < n ∧ (medianAdjacent ltInt d (a + l / 4 * 2) R1.2).2 ≤ R1.2 + 3 at k2
    change (medianAdjacent ltInt d (a + l / 4 * 3) R2.2).1 < n ∧ (medianAdjacent ltInt d (a + l / 4 * 3) R2.2).2 ≤ R2.2 + 3 at k3
    rw [← hR1] at k1; rw [← hR2] at k2; rw [← hR3] at k3
    simp (maxSteps := 2000000) (disch := omega) only [c84, BS, BC, e_seq, cond_if, ↓reduceIte, Nat.reduceEqDiff, reduceCtorEq, wsub, ← hl', quo4, wmul1, wmulr2, wmulr3, wadd, cge8, cge50, hg8, h50, decide_true, pv_nx, ← hAd]
    rw [hA0]
    refine (medianAdjacent_c hP hA hp hn (by omega) (by omega) (by omega) hsm).mono ?_
    rintro X W' ⟨rfl, rfl⟩
    rw [← hR1]
    simp (maxSteps := 2000000) (disch := omega) only [BS, BC, e_seq, ↓reduceIte, Nat.reduceEqDiff, reduceCtorEq]
    refine (medianAdjacent_c hP hA hp hn (by omega) (by omega) (by omega) hsm).mono ?_
    rintro X W' ⟨rfl, rfl⟩
    rw [← hR2]
    simp (maxSteps := 2000000) (disch := omega) only [BS, BC, ↓reduceIte, Nat.reduceEqDiff, reduceCtorEq]
    refine (medianAdjacent_c hP hA hp hn (by omega) (by omega) (by omega) hsm).mono ?_
    rintro X W' ⟨rfl, rfl⟩
    rw [← hR3]
    simp (maxSteps := 2000000) (disch := omega) only [BS, BC, ↓reduceIte, Nat.reduceEqDiff, reduceCtorEq]
    refine (median_c hP hA hp hn k1.1 k2.1 k3.1 (by omega)).mono ?_
    rintro X W' ⟨rfl, rfl⟩
    rw [← hR]
    have hR' : R = median ltInt d (medianAdjacent ltInt d (a + l / 4 * 1) 0).1 (medianAdjacent ltInt d (a + l / 4 * 2) (medianAdjacent ltInt d (a + l / 4 * 1) 0).2).1 (medianAdjacent ltInt d (a + l / 4 * 3) (medianAdjacent ltInt d (a + l / 4 * 2) (medianAdjacent ltInt d (a + l / 4 * 1) 0).2).2).1 (medianAdjacent ltInt d (a + l / 4 * 3) (medianAdjacent ltInt d (a + l / 4 * 2) (medianAdjacent ltInt d (a + l / 4 * 1) 0).2).2).2 := by
      rw [hR, hR3, hR2, hR1]
    have hcp : choosePivot ltInt d a b = (R.1, if R.2 = 0 then .increasing else if R.2 = 12 then .decreasing else .unknown) := by
      simp only [choosePivot, ← hl', hg8, h50, ↓reduceIte, ← hR']
    by_cases h0 : R.2 = 0
    · simp only [BS, e_seq, cond_if, ↓reduceIte, Nat.reduceEqDiff, ldp, eq0, h0, decide_true]
      exact ⟨_, rfl, _, _, .weak (weak_back hok rfl (hback _)), Nat.le_refl _, by simp [hcp, h0, hintN], rfl⟩
    by_cases h12 : R.2 = 12
    · simp only [BS, BC, e_seq, cond_if, ↓reduceIte, Nat.reduceEqDiff, reduceCtorEq, ldp, eq0, eq12, decide_false, h12, decide_true]
      exact ⟨_, rfl, _, _, .weak (weak_back hok rfl (hback _)), Nat.le_refl _, by simp [hcp, h12, hintN], rfl⟩
    · simp only [BS, BC, e_seq, cond_if, ↓reduceIte, Nat.reduceEqDiff, ldp, eq0, eq12, h0, decide_false, h12]
      exact ⟨_, rfl, _, _, .weak (weak_back hok rfl (hback _)), Nat.le_refl _, by simp [hcp, h0, h12, hintN], rfl⟩
  · obtain ⟨R, hR⟩ : ∃ R, R = median ltInt d (a + l / 4 * 1) (a + l / 4 * 2) (a + l / 4 * 3) 0 := ⟨_, rfl⟩
    simp (maxSteps := 2000000) (disch := omega) only [c84, BS, BC, e_seq, cond_if, ↓reduceIte, Nat.reduceEqDiff, reduceCtorEq, wsub, ← hl', quo4, wmul1, wmulr2, wmulr3, wadd, cge8, cge50, hg8, h50, decide_true, decide_false, pv_nx, ← hAd]
    rw [hA0]
    refine (median_c hP hA hp hn (by omega) (by omega) (by omega) (by omega)).mono ?_
    rintro X W' ⟨rfl, rfl⟩
    rw [← hR]
    have hcp : choosePivot ltInt d a b = (R.1, if R.2 = 0 then .increasing else if R.2 = 12 then .decreasing else .unknown) := by
      simp only [choosePivot, ← hl', hg8, h50, ↓reduceIte, ← hR]
    by_cases h0 : R.2 = 0
    · simp only [BS, e_seq, cond_if, ↓reduceIte, Nat.reduceEqDiff, ldp, eq0, h0, decide_true]
      exact ⟨_, rfl, _, _, .weak (weak_back hok rfl (hback _)), Nat.le_refl _, by simp [hcp, h0, hintN], rfl⟩
    by_cases h12 : R.2 = 12
    · simp only [BS, BC, e_seq, cond_if, ↓reduceIte, Nat.reduceEqDiff, reduceCtorEq, ldp, eq0, eq12, decide_false, h12, decide_true]
      exact ⟨_, rfl, _, _, .weak (weak_back hok rfl (hback _)), Nat.le_refl _, by simp [hcp, h12, hintN], rfl⟩
    · simp only [BS, BC, e_seq, cond_if, ↓reduceIte, Nat.reduceEqDiff, ldp, eq0, eq12, h0, decide_false, h12]
      exact ⟨_, rfl, _, _, .weak (weak_back hok rfl (hback _)), Nat.le_refl _, by simp [hcp, h0, h12, hintN], rfl⟩
end Go.AL.S
set_option maxRecDepth 100000
namespace Go.AL.S
open Go Go.AL Go.Proofs Go.Sort
/- slices.partitionEqualOrdered[uint16] -/
def c88 : AC := (AC.seq (AC.reg [⟨some 8, .mov, [.c (.int .i64 0)], none⟩]) (AC.seq (AC.par (PT.step 0 ⟨some 11, .mov, [.t 0], none⟩ (PT.step 1 ⟨some 12, .mov, [.t 1], none⟩ (PT.step 2 ⟨some 13, .mov, [.t 0], none⟩ (PT.step 3 ⟨some 14, .mov, [.t 3], none⟩ (PT.step 4 ⟨some 15, .mov, [.t 0], none⟩ (PT.step 5 ⟨some 16, .mov, [.t 3], none⟩ (PT.step 8 ⟨some 19, .mov, [.t 0], none⟩ (PT.step 9 ⟨some 20, .mov, [.t 1], none⟩ (PT.step 6 ⟨some 17, .idxp 1, [.t 15, .t 16], none⟩ (PT.step 7 ⟨some 18, .load false 1, [.t 17], none⟩ (PT.step 10 ⟨some 21, .idxp 1, [.t 19, .t 20], none⟩ (PT.step 11 ⟨some 22, .load false 1, [.t 21], none⟩ (PT.step 12 ⟨some 23, .idxp 1, [.t 11, .t 12], none⟩ (PT.step 13 ⟨none, .store 1, [.t 23, .t 18], none⟩ (PT.step 14 ⟨some 24, .idxp 1, [.t 13, .t 14], none⟩ (PT.step 15 ⟨none, .store 1, [.t 24, .t 22], none⟩ PT.done))))))))))))))))) (AC.seq (AC.reg [⟨some 25, .mov, [.t 1], none⟩,⟨some 26, .bin .add, [.t 25, .c (.int .i64 1)], none⟩,⟨some 27, .mov, [.t 2], none⟩,⟨some 28, .bin .sub, [.t 27, .c (.int .i64 1)], none⟩,⟨some 9, .mov, [.t 26], none⟩,⟨some 10, .mov, [.t 28], none⟩]) (AC.seq (AC.block 0 (AC.loop (AC.block 1 (AC.seq (AC.block 2 (AC.loop (AC.seq (AC.seq (AC.par (PT.step 0 ⟨some 29, .mov, [.t 9], none⟩ (PT.step 1 ⟨some 30, .mov, [.t 10], none⟩ (PT.step 2 ⟨some 31, .bin .leq, [.t 29, .t 30], none⟩ (PT.step 3 ⟨some 32, .mov, [.t 31], none⟩ (PT.step 4 ⟨some 33, .mov, [.t 0], (some (32, true))⟩ (PT.step 5 ⟨some 34, .mov, [.t 1], (some (32, true))⟩ (PT.step 8 ⟨some 37, .mov, [.t 0], (some (32, true))⟩ (PT.step 9 ⟨some 38, .mov, [.t 9], (some (32, true))⟩ (PT.step 6 ⟨some 35, .idxp 1, [.t 33, .t 34], (some (32, true))⟩ (PT.step 7 ⟨some 36, .load false 1, [.t 35], (some (32, true))⟩ (PT.step 10 ⟨some 39, .idxp 1, [.t 37, .t 38], (some (32, true))⟩ (PT.step 11 ⟨some 40, .load false 1, [.t 39], (some (32, true))⟩ (PT.step 12 ⟨some 41, .call 96, [.t 36, .t 40], (some (32, true))⟩ (PT.step 13 ⟨some 42, .un .not, [.t 41], (some (32, true))⟩ (PT.step 14 ⟨some 43, .pick, [.t 32, .t 42, .c (.bool false)], none⟩ PT.done)))))))))))))))) (AC.cond (.t 43) AC.skip (AC.exit 2))) (AC.block 3 (AC.reg [⟨some 44, .mov, [.t 9], none⟩,⟨some 45, .bin .add, [.t 44, .c (.int .i64 1)], none⟩,⟨some 9, .mov, [.t 45], none⟩]))))) (AC.seq (AC.block 4 (AC.loop (AC.seq (AC.seq (AC.par (PT.step 0 ⟨some 46, .mov, [.t 9], none⟩ (PT.step 1 ⟨some 47, .mov, [.t 10], none⟩ (PT.step 2 ⟨some 48, .bin .leq, [.t 46, .t 47], none⟩ (PT.step 3 ⟨some 49, .mov, [.t 48], none⟩ (PT.step 4 ⟨some 50, .mov, [.t 0], (some (49, true))⟩ (PT.step 5 ⟨some 51, .mov, [.t 1], (some (49, true))⟩ (PT.step 8 ⟨some 54, .mov, [.t 0], (some (49, true))⟩ (PT.step 9 ⟨some 55, .mov, [.t 10], (some (49, true))⟩ (PT.step 6 ⟨some 52, .idxp 1, [.t 50, .t 51], (some (49, true))⟩ (PT.step 7 ⟨some 53, .load false 1, [.t 52], (some (49, true))⟩ (PT.step 10 ⟨some 56, .idxp 1, [.t 54, .t 55], (some (49, true))⟩ (PT.step 11 ⟨some 57, .load false 1, [.t 56], (some (49, true))⟩ (PT.step 12 ⟨some 58, .call 96, [.t 53, .t 57], (some (49, true))⟩ (PT.step 13 ⟨some 59, .pick, [.t 49, .t 58, .c (.bool false)], none⟩ PT.done))))))))))))))) (AC.cond (.t 59) AC.skip (AC.exit 4))) (AC.block 5 (AC.reg [⟨some 60, .mov, [.t 10], none⟩,⟨some 61, .bin .sub, [.t 60, .c (.int .i64 1)], none⟩,⟨some 10, .mov, [.t 61], none⟩]))))) (AC.seq (AC.seq (AC.reg [⟨some 62, .mov, [.t 9], none⟩,⟨some 63, .mov, [.t 10], none⟩,⟨some 64, .bin .gtr, [.t 62, .t 63], none⟩]) (AC.cond (.t 64) (AC.exit 0) AC.skip)) (AC.seq (AC.par (PT.step 0 ⟨some 65, .mov, [.t 0], none⟩ (PT.step 1 ⟨some 66, .mov, [.t 9], none⟩ (PT.step 2 ⟨some 67, .mov, [.t 0], none⟩ (PT.step 3 ⟨some 68, .mov, [.t 10], none⟩ (PT.step 4 ⟨some 69, .mov, [.t 0], none⟩ (PT.step 5 ⟨some 70, .mov, [.t 10], none⟩ (PT.step 8 ⟨some 73, .mov, [.t 0], none⟩ (PT.step 9 ⟨some 74, .mov, [.t 9], none⟩ (PT.step 6 ⟨some 71, .idxp 1, [.t 69, .t 70], none⟩ (PT.step 7 ⟨some 72, .load false 1, [.t 71], none⟩ (PT.step 10 ⟨some 75, .idxp 1, [.t 73, .t 74], none⟩ (PT.step 11 ⟨some 76, .load false 1, [.t 75], none⟩ (PT.step 12 ⟨some 77, .idxp 1, [.t 65, .t 66], none⟩ (PT.step 13 ⟨none, .store 1, [.t 77, .t 72], none⟩ (PT.step 14 ⟨some 78, .idxp 1, [.t 67, .t 68], none⟩ (PT.step 15 ⟨none, .store 1, [.t 78, .t 76], none⟩ PT.done))))))))))))))))) (AC.seq (AC.reg [⟨some 79, .mov, [.t 9], none⟩,⟨some 80, .bin .add, [.t 79, .c (.int .i64 1)], none⟩,⟨some 9, .mov, [.t 80], none⟩]) (AC.reg [⟨some 81, .mov, [.t 10], none⟩,⟨some 82, .bin .sub, [.t 81, .c (.int .i64 1)], none⟩,⟨some 10, .mov, [.t 82], none⟩]))))))))) (AC.seq (AC.reg [⟨some 83, .mov, [.t 9], none⟩,⟨some 8, .mov, [.t 83], none⟩]) AC.ret)))))
def r88 : AC × List RT × Nat := (c88, [.tmp 8], 84)
theorem ok88e : compF Tryz.prog Tryz.f159 ⟨true, false, []⟩ = some r88 := by kernel_rfl
variable {E : Env}
theorem partitionEqual_c (hP : E.P = Tryz.prog) (W : AW) (r n a b pivot : Nat) (d : Array Int) (hn : d.size = n) (hab : a < b) (hb : b ≤ n) (hpv : pivot < n) (hsm : n < 2 ^ 48) :
    ACalls E 159 [.slr r 0 n 1, .int .i64 a, .int .i64 b, .int .i64 pivot] (pv W r d) fun X W' => X = .int .i64 (partitionEqual ltInt d a b pivot).1 ∧ W' = pv W r (partitionEqual ltInt d a b pivot).2 := by
  refine ACalls.of hP Tryz.func159 ok88e (by simp) fun _ hok => ?_
  simp (disch := (try simp only [sz_set]) <;> omega) only [c88, BS, BC, e_seq, ↓reduceIte, Nat.reduceEqDiff, reduceCtorEq, ix, ld, st, sw, wadd1, wsub1, e_loop]
  refine ALoop.go (B := awp E _) (fun h => awp_mono _ h) (fun (s : Nat × Nat × Array Int) A1 W1 => A1 0 = some (.slr r 0 n 1) ∧ A1 1 = some (.int .i64 a) ∧ A1 9 = some (.int .i64 s.1) ∧ A1 10 = some (.int .i64 s.2.1) ∧
    W1 = pv W r s.2.2 ∧ a < s.1 ∧ s.1 ≤ n ∧ s.2.1 < n ∧ s.2.2.size = n ∧ partEqLoop ltInt a s.1 s.2.1 s.2.2 = partitionEqual ltInt d a b pivot) (fun s => s.2.1 + 1 - s.1) (a + 1, b - 1, swp d a pivot)
    ⟨rfl, rfl, rfl, rfl, rfl, by simp, by simp; omega, by simp; omega, by simp [swp, hn], rfl⟩ ?_
  rintro ⟨i, j, d1⟩ A1 W1 ⟨g0, g1, g9, g10, rfl, gi, gin, gj, gs, gt⟩ _
  simp only at g9 g10 gi gin gj gs gt
  rw [partEqLoop_eq] at gt
  simp only [BS, e_seq]
  refine awp_mono _ (Q := fun e A' W' => e = .exit 2 ∧ A' 0 = some (.slr r 0 n 1) ∧ A' 1 = some (.int .i64 a) ∧ A' 9 = some (.int .i64 ((scanUp (fun x => !ltInt d1[a]! x) d1 j i : Nat) : Int)) ∧ A' 10 = some (.int .i64 (j : Nat)) ∧ W' = pv W r d1 ∧ i ≤ scanUp (fun x => !ltInt d1[a]! x) d1 j i ∧ scanUp (fun x => !ltInt d1[a]! x) d1 j i ≤ n) ?_ ?_
  rotate_left
  · rw [e_loop]
    refine ALoop.go (B := awp E _) (fun h => awp_mono _ h) (fun (s : Nat) A2 W2 => A2 0 = some (.slr r 0 n 1) ∧ A2 1 = some (.int .i64 a) ∧ A2 9 = some (.int .i64 (s : Int)) ∧ A2 10 = some (.int .i64 (j : Nat)) ∧ W2 = pv W r d1 ∧ i ≤ s ∧ s ≤ n ∧ scanUp (fun x => !ltInt d1[a]! x) d1 j s = scanUp (fun x => !ltInt d1[a]! x) d1 j i) (fun s => j + 1 - s) i
      ⟨by assumption, by assumption, by assumption, by assumption, rfl, Nat.le_refl _, by omega, rfl⟩ ?_
    rintro s A2 W2 ⟨q0, q1, qm, qf, rfl, qi, qin, qt⟩ _
    rw [scanUp.eq_def (fun x => !ltInt d1[a]! x) d1 j s] at qt
    by_cases h1 : s ≤ j
    · simp (maxSteps := 2000000) (disch := omega) only [BS, BC, e_seq, guard_if, ↓reduceIte, Nat.reduceEqDiff, reduceCtorEq, q0, q1, qm, qf, cle, h1, decide_true, ix, ld]
      refine (less_c hP _ _ _).mono ?_
      rintro X W' ⟨rfl, rfl⟩
      by_cases h2 : d1[a]! < d1[s]!
      · rw [if_neg (by simp [ltInt, h2])] at qt
        simp (maxSteps := 2000000) (disch := omega) only [BS, BC, cond_if, guard_if, ↓reduceIte, Nat.reduceEqDiff, reduceCtorEq, h2, decide_true, Bool.not_true, q0, q1, qm, qf]
        exact ⟨trivial, trivial, trivial, by rw [← qt], trivial, trivial, by rw [← qt]; exact qi, by rw [← qt]; exact qin⟩
      · simp (maxSteps := 2000000) (disch := omega) only [BS, cond_if, guard_if, ↓reduceIte, Nat.reduceEqDiff, reduceCtorEq, h2, decide_false, Bool.not_false, q0, q1, qm, qf, wadd1]
        exact ⟨s + 1, ⟨trivial, trivial, rfl, trivial, trivial, by omega, by omega, by rw [← qt, if_pos (by simp [h1, ltInt, h2])]⟩, by omega, Nat.le_refl _⟩
    · rw [if_neg (by simp [h1])] at qt
      simp (maxSteps := 2000000) (disch := omega) only [BS, BC, e_seq, cond_if, guard_if, ↓reduceIte, Nat.reduceEqDiff, reduceCtorEq, q0, q1, qm, qf, cle, h1, decide_false]
      exact ⟨trivial, trivial, trivial, by rw [← qt], trivial, trivial, by rw [← qt]; exact qi, by rw [← qt]; exact qin⟩
  rintro e A2 W2 ⟨rfl, u0, u1, u9, u10, rfl, ui, uin⟩
  simp only [BS, e_seq, ↓reduceIte]
  obtain ⟨i2, hi2⟩ : ∃ i2, i2 = scanUp (fun x => !ltInt d1[a]! x) d1 j i := ⟨_, rfl⟩
  rw [← hi2] at u9 ui uin gt
  refine awp_mono _ (Q := fun e A' W' => e = .exit 4 ∧ A' 0 = some (.slr r 0 n 1) ∧ A' 1 = some (.int .i64 a) ∧ A' 10 = some (.int .i64 ((scanDown (fun x => ltInt d1[a]! x) d1 i2 j : Nat) : Int)) ∧ A' 9 = some (.int .i64 (i2 : Nat)) ∧ W' = pv W r d1 ∧ scanDown (fun x => ltInt d1[a]! x) d1 i2 j ≤ j) ?_ ?_
  rotate_left
  · rw [e_loop]
    refine ALoop.go (B := awp E _) (fun h => awp_mono _ h) (fun (s : Nat) A2 W2 => A2 0 = some (.slr r 0 n 1) ∧ A2 1 = some (.int .i64 a) ∧ A2 10 = some (.int .i64 (s : Int)) ∧ A2 9 = some (.int .i64 (i2 : Nat)) ∧ W2 = pv W r d1 ∧ s ≤ j ∧ scanDown (fun x => ltInt d1[a]! x) d1 i2 s = scanDown (fun x => ltInt d1[a]! x) d1 i2 j) (fun s => s) j
      ⟨by assumption, by assumption, by assumption, by assumption, rfl, Nat.le_refl _, rfl⟩ ?_
    rintro s A2 W2 ⟨q0, q1, qm, qf, rfl, qi, qt⟩ _
    by_cases h1 : i2 ≤ s
    · obtain ⟨s, rfl⟩ : ∃ s', s = s' + 1 := ⟨s - 1, by omega⟩
      rw [scanDown] at qt
      simp (maxSteps := 2000000) (disch := omega) only [BS, BC, e_seq, guard_if, ↓reduceIte, Nat.reduceEqDiff, reduceCtorEq, q0, q1, qm, qf, cle, h1, decide_true, ix, ld]
      refine (less_c hP _ _ _).mono ?_
      rintro X W' ⟨rfl, rfl⟩
      by_cases h2 : d1[a]! < d1[s + 1]!
      · simp (maxSteps := 2000000) (disch := omega) only [BS, cond_if, ↓reduceIte, Nat.reduceEqDiff, reduceCtorEq, h2, decide_true, q0, q1, qm, qf, wsub1, Nat.add_sub_cancel]
        exact ⟨s, ⟨trivial, trivial, rfl, trivial, trivial, by omega, by rw [← qt, if_pos (by simp [h1, ltInt, h2])]⟩, by omega, Nat.le_refl _⟩
      · rw [if_neg (by simp [ltInt, h2])] at qt
        simp (maxSteps := 2000000) (disch := omega) only [BS, BC, cond_if, ↓reduceIte, Nat.reduceEqDiff, reduceCtorEq, h2, decide_false, q0, q1, qm, qf]
        exact ⟨trivial, trivial, trivial, by rw [← qt], trivial, trivial, by rw [← qt]; exact qi⟩
    · replace qt : s = scanDown (fun x => ltInt d1[a]! x) d1 i2 j := by
        rw [← qt]; cases s with
        | zero => rfl
        | succ s => rw [scanDown, if_neg (by simp [h1])]
      simp (maxSteps := 2000000) (disch := omega) only [BS, BC, e_seq, cond_if, guard_if, ↓reduceIte, Nat.reduceEqDiff, reduceCtorEq, q0, q1, qm, qf, cle, h1, decide_false]
      exact ⟨trivial, trivial, trivial, by rw [← qt], trivial, trivial, by rw [← qt]; exact qi⟩
  rintro e A2 W2 ⟨rfl, v0, v1, v10, v9, rfl, vj⟩
  obtain ⟨j2, hj2⟩ : ∃ j2, j2 = scanDown (fun x => ltInt d1[a]! x) d1 i2 j := ⟨_, rfl⟩
  rw [← hj2] at v10 vj gt
  by_cases h3 : i2 > j2
  · rw [if_pos h3] at gt
    simp (maxSteps := 2000000) (disch := omega) only [BS, BC, e_seq, cond_if, ↓reduceIte, Nat.reduceEqDiff, reduceCtorEq, v9, v10, cgt, h3, decide_true]
    exact ⟨_, rfl, _, _, .weak weak_id, Nat.le_refl _, by rw [← gt], by rw [← gt]⟩
  · rw [if_neg h3] at gt
    simp (disch := (try simp only [sz_set]) <;> omega) only [BS, BC, e_seq, cond_if, ↓reduceIte, Nat.reduceEqDiff, reduceCtorEq, v0, v1, v9, v10, cgt, h3, decide_false, ix, ld, st, sw, wadd1, wsub1]
    exact ⟨(i2 + 1, j2 - 1, swp d1 i2 j2), ⟨trivial, trivial, rfl, rfl, rfl, by simp; omega, by simp; omega, by simp; omega, by simp [swp, gs], gt⟩, by simp; omega, Nat.le_refl _⟩
end Go.AL.S
set_option maxRecDepth 100000
namespace Go.AL.S
open Go Go.AL Go.Proofs Go.Sort
/- slices.partitionOrdered[uint16] -/
def c89 : AC := (AC.seq (AC.reg [⟨some 8, .mov, [.c (.int .i64 0)], none⟩,⟨some 9, .mov, [.c (.bool false)], none⟩]) (AC.seq (AC.par (PT.step 0 ⟨some 12, .mov, [.t 0], none⟩ (PT.step 1 ⟨some 13, .mov, [.t 1], none⟩ (PT.step 2 ⟨some 14, .mov, [.t 0], none⟩ (PT.step 3 ⟨some 15, .mov, [.t 3], none⟩ (PT.step 4 ⟨some 16, .mov, [.t 0], none⟩ (PT.step 5 ⟨some 17, .mov, [.t 3], none⟩ (PT.step 8 ⟨some 20, .mov, [.t 0], none⟩ (PT.step 9 ⟨some 21, .mov, [.t 1], none⟩ (PT.step 6 ⟨some 18, .idxp 1, [.t 16, .t 17], none⟩ (PT.step 7 ⟨some 19, .load false 1, [.t 18], none⟩ (PT.step 10 ⟨some 22, .idxp 1, [.t 20, .t 21], none⟩ (PT.step 11 ⟨some 23, .load false 1, [.t 22], none⟩ (PT.step 12 ⟨some 24, .idxp 1, [.t 12, .t 13], none⟩ (PT.step 13 ⟨none, .store 1, [.t 24, .t 19], none⟩ (PT.step 14 ⟨some 25, .idxp 1, [.t 14, .t 15], none⟩ (PT.step 15 ⟨none, .store 1, [.t 25, .t 23], none⟩ PT.done))))))))))))))))) (AC.seq (AC.reg [⟨some 26, .mov, [.t 1], none⟩,⟨some 27, .bin .add, [.t 26, .c (.int .i64 1)], none⟩,⟨some 28, .mov, [.t 2], none⟩,⟨some 29, .bin .sub, [.t 28, .c (.int .i64 1)], none⟩,⟨some 10, .mov, [.t 27], none⟩,⟨some 11, .mov, [.t 29], none⟩]) (AC.seq (AC.block 0 (AC.loop (AC.seq (AC.seq (AC.par (PT.step 0 ⟨some 30, .mov, [.t 10], none⟩ (PT.step 1 ⟨some 31, .mov, [.t 11], none⟩ (PT.step 2 ⟨some 32, .bin .leq, [.t 30, .t 31], none⟩ (PT.step 3 ⟨some 33, .mov, [.t 32], none⟩ (PT.step 4 ⟨some 34, .mov, [.t 0], (some (33, true))⟩ (PT.step 5 ⟨some 35, .mov, [.t 10], (some (33, true))⟩ (PT.step 8 ⟨some 38, .mov, [.t 0], (some (33, true))⟩ (PT.step 9 ⟨some 39, .mov, [.t 1], (some (33, true))⟩ (PT.step 6 ⟨some 36, .idxp 1, [.t 34, .t 35], (some (33, true))⟩ (PT.step 7 ⟨some 37, .load false 1, [.t 36], (some (33, true))⟩ (PT.step 10 ⟨some 40, .idxp 1, [.t 38, .t 39], (some (33, true))⟩ (PT.step 11 ⟨some 41, .load false 1, [.t 40], (some (33, true))⟩ (PT.step 12 ⟨some 42, .call 96, [.t 37, .t 41], (some (33, true))⟩ (PT.step 13 ⟨some 43, .pick, [.t 33, .t 42, .c (.bool false)], none⟩ PT.done))))))))))))))) (AC.cond (.t 43) AC.skip (AC.exit 0))) (AC.block 1 (AC.reg [⟨some 44, .mov, [.t 10], none⟩,⟨some 45, .bin .add, [.t 44, .c (.int .i64 1)], none⟩,⟨some 10, .mov, [.t 45], none⟩]))))) (AC.seq (AC.block 2 (AC.loop (AC.seq (AC.seq (AC.par (PT.step 0 ⟨some 46, .mov, [.t 10], none⟩ (PT.step 1 ⟨some 47, .mov, [.t 11], none⟩ (PT.step 2 ⟨some 48, .bin .leq, [.t 46, .t 47], none⟩ (PT.step 3 ⟨some 49, .mov, [.t 48], none⟩ (PT.step 4 ⟨some 50, .mov, [.t 0], (some (49, true))⟩ (PT.step 5 ⟨some 51, .mov, [.t 11], (some (49, true))⟩ (PT.step 8 ⟨some 54, .mov, [.t 0], (some (49, true))⟩ (PT.step 9 ⟨some 55, .mov, [.t 1], (some (49, true))⟩ (PT.step 6 ⟨some 52, .idxp 1, [.t 50, .t 51], (some (49, true))⟩ (PT.step 7 ⟨some 53, .load false 1, [.t 52], (some (49, true))⟩ (PT.step 10 ⟨some 56, .idxp 1, [.t 54, .t 55], (some (49, true))⟩ (PT.step 11 ⟨some 57, .load false 1, [.t 56], (some (49, true))⟩ (PT.step 12 ⟨some 58, .call 96, [.t 53, .t 57], (some (49, true))⟩ (PT.step 13 ⟨some 59, .un .not, [.t 58], (some (49, true))⟩ (PT.step 14 ⟨some 60, .pick, [.t 49, .t 59, .c (.bool false)], none⟩ PT.done)))))))))))))))) (AC.cond (.t 60) AC.skip (AC.exit 2))) (AC.block 3 (AC.reg [⟨some 61, .mov, [.t 11], none⟩,⟨some 62, .bin .sub, [.t 61, .c (.int .i64 1)], none⟩,⟨some 11, .mov, [.t 62], none⟩]))))) (AC.seq (AC.seq (AC.reg [⟨some 63, .mov, [.t 10], none⟩,⟨some 64, .mov, [.t 11], none⟩,⟨some 65, .bin .gtr, [.t 63, .t 64], none⟩]) (AC.cond (.t 65) (AC.seq (AC.par (PT.step 0 ⟨some 66, .mov, [.t 0], none⟩ (PT.step 1 ⟨some 67, .mov, [.t 11], none⟩ (PT.step 2 ⟨some 68, .mov, [.t 0], none⟩ (PT.step 3 ⟨some 69, .mov, [.t 1], none⟩ (PT.step 4 ⟨some 70, .mov, [.t 0], none⟩ (PT.step 5 ⟨some 71, .mov, [.t 1], none⟩ (PT.step 8 ⟨some 74, .mov, [.t 0], none⟩ (PT.step 9 ⟨some 75, .mov, [.t 11], none⟩ (PT.step 6 ⟨some 72, .idxp 1, [.t 70, .t 71], none⟩ (PT.step 7 ⟨some 73, .load false 1, [.t 72], none⟩ (PT.step 10 ⟨some 76, .idxp 1, [.t 74, .t 75], none⟩ (PT.step 11 ⟨some 77, .load false 1, [.t 76], none⟩ (PT.step 12 ⟨some 78, .idxp 1, [.t 66, .t 67], none⟩ (PT.step 13 ⟨none, .store 1, [.t 78, .t 73], none⟩ (PT.step 14 ⟨some 79, .idxp 1, [.t 68, .t 69], none⟩ (PT.step 15 ⟨none, .store 1, [.t 79, .t 77], none⟩ PT.done))))))))))))))))) (AC.seq (AC.reg [⟨some 80, .mov, [.t 11], none⟩,⟨some 8, .mov, [.t 80], none⟩,⟨some 9, .mov, [.c (.bool true)], none⟩]) AC.ret)) AC.skip)) (AC.seq (AC.par (PT.step 0 ⟨some 81, .mov, [.t 0], none⟩ (PT.step 1 ⟨some 82, .mov, [.t 10], none⟩ (PT.step 2 ⟨some 83, .mov, [.t 0], none⟩ (PT.step 3 ⟨some 84, .mov, [.t 11], none⟩ (PT.step 4 ⟨some 85, .mov, [.t 0], none⟩ (PT.step 5 ⟨some 86, .mov, [.t 11], none⟩ (PT.step 8 ⟨some 89, .mov, [.t 0], none⟩ (PT.step 9 ⟨some 90, .mov, [.t 10], none⟩ (PT.step 6 ⟨some 87, .idxp 1, [.t 85, .t 86], none⟩ (PT.step 7 ⟨some 88, .load false 1, [.t 87], none⟩ (PT.step 10 ⟨some 91, .idxp 1, [.t 89, .t 90], none⟩ (PT.step 11 ⟨some 92, .load false 1, [.t 91], none⟩ (PT.step 12 ⟨some 93, .idxp 1, [.t 81, .t 82], none⟩ (PT.step 13 ⟨none, .store 1, [.t 93, .t 88], none⟩ (PT.step 14 ⟨some 94, .idxp 1, [.t 83, .t 84], none⟩ (PT.step 15 ⟨none, .store 1, [.t 94, .t 92], none⟩ PT.done))))))))))))))))) (AC.seq (AC.reg [⟨some 95, .mov, [.t 10], none⟩,⟨some 96, .bin .add, [.t 95, .c (.int .i64 1)], none⟩,⟨some 10, .mov, [.t 96], none⟩]) (AC.seq (AC.reg [⟨some 97, .mov, [.t 11], none⟩,⟨some 98, .bin .sub, [.t 97, .c (.int .i64 1)], none⟩,⟨some 11, .mov, [.t 98], none⟩]) (AC.seq (AC.block 4 (AC.loop (AC.block 5 (AC.seq (AC.block 6 (AC.loop (AC.seq (AC.seq (AC.par (PT.step 0 ⟨some 99, .mov, [.t 10], none⟩ (PT.step 1 ⟨some 100, .mov, [.t 11], none⟩ (PT.step 2 ⟨some 101, .bin .leq, [.t 99, .t 100], none⟩ (PT.step 3 ⟨some 102, .mov, [.t 101], none⟩ (PT.step 4 ⟨some 103, .mov, [.t 0], (some (102, true))⟩ (PT.step 5 ⟨some 104, .mov, [.t 10], (some (102, true))⟩ (PT.step 8 ⟨some 107, .mov, [.t 0], (some (102, true))⟩ (PT.step 9 ⟨some 108, .mov, [.t 1], (some (102, true))⟩ (PT.step 6 ⟨some 105, .idxp 1, [.t 103, .t 104], (some (102, true))⟩ (PT.step 7 ⟨some 106, .load false 1, [.t 105], (some (102, true))⟩ (PT.step 10 ⟨some 109, .idxp 1, [.t 107, .t 108], (some (102, true))⟩ (PT.step 11 ⟨some 110, .load false 1, [.t 109], (some (102, true))⟩ (PT.step 12 ⟨some 111, .call 96, [.t 106, .t 110], (some (102, true))⟩ (PT.step 13 ⟨some 112, .pick, [.t 102, .t 111, .c (.bool false)], none⟩ PT.done))))))))))))))) (AC.cond (.t 112) AC.skip (AC.exit 6))) (AC.block 7 (AC.reg [⟨some 113, .mov, [.t 10], none⟩,⟨some 114, .bin .add, [.t 113, .c (.int .i64 1)], none⟩,⟨some 10, .mov, [.t 114], none⟩]))))) (AC.seq (AC.block 8 (AC.loop (AC.seq (AC.seq (AC.par (PT.step 0 ⟨some 115, .mov, [.t 10], none⟩ (PT.step 1 ⟨some 116, .mov, [.t 11], none⟩ (PT.step 2 ⟨some 117, .bin .leq, [.t 115, .t 116], none⟩ (PT.step 3 ⟨some 118, .mov, [.t 117], none⟩ (PT.step 4 ⟨some 119, .mov, [.t 0], (some (118, true))⟩ (PT.step 5 ⟨some 120, .mov, [.t 11], (some (118, true))⟩ (PT.step 8 ⟨some 123, .mov, [.t 0], (some (118, true))⟩ (PT.step 9 ⟨some 124, .mov, [.t 1], (some (118, true))⟩ (PT.step 6 ⟨some 121, .idxp 1, [.t 119, .t 120], (some (118, true))⟩ (PT.step 7 ⟨some 122, .load false 1, [.t 121], (some (118, true))⟩ (PT.step 10 ⟨some 125, .idxp 1, [.t 123, .t 124], (some (118, true))⟩ (PT.step 11 ⟨some 126, .load false 1, [.t 125], (some (118, true))⟩ (PT.step 12 ⟨some 127, .call 96, [.t 122, .t 126], (some (118, true))⟩ (PT.step 13 ⟨some 128, .un .not, [.t 127], (some (118, true))⟩ (PT.step 14 ⟨some 129, .pick, [.t 118, .t 128, .c (.bool false)], none⟩ PT.done)))))))))))))))) (AC.cond (.t 129) AC.skip (AC.exit 8))) (AC.block 9 (AC.reg [⟨some 130, .mov, [.t 11], none⟩,⟨some 131, .bin .sub, [.t 130, .c (.int .i64 1)], none⟩,⟨some 11, .mov, [.t 131], none⟩]))))) (AC.seq (AC.seq (AC.reg [⟨some 132, .mov, [.t 10], none⟩,⟨some 133, .mov, [.t 11], none⟩,⟨some 134, .bin .gtr, [.t 132, .t 133], none⟩]) (AC.cond (.t 134) (AC.exit 4) AC.skip)) (AC.seq (AC.par (PT.step 0 ⟨some 135, .mov, [.t 0], none⟩ (PT.step 1 ⟨some 136, .mov, [.t 10], none⟩ (PT.step 2 ⟨some 137, .mov, [.t 0], none⟩ (PT.step 3 ⟨some 138, .mov, [.t 11], none⟩ (PT.step 4 ⟨some 139, .mov, [.t 0], none⟩ (PT.step 5 ⟨some 140, .mov, [.t 11], none⟩ (PT.step 8 ⟨some 143, .mov, [.t 0], none⟩ (PT.step 9 ⟨some 144, .mov, [.t 10], none⟩ (PT.step 6 ⟨some 141, .idxp 1, [.t 139, .t 140], none⟩ (PT.step 7 ⟨some 142, .load false 1, [.t 141], none⟩ (PT.step 10 ⟨some 145, .idxp 1, [.t 143, .t 144], none⟩ (PT.step 11 ⟨some 146, .load false 1, [.t 145], none⟩ (PT.step 12 ⟨some 147, .idxp 1, [.t 135, .t 136], none⟩ (PT.step 13 ⟨none, .store 1, [.t 147, .t 142], none⟩ (PT.step 14 ⟨some 148, .idxp 1, [.t 137, .t 138], none⟩ (PT.step 15 ⟨none, .store 1, [.t 148, .t 146], none⟩ PT.done))))))))))))))))) (AC.seq (AC.reg [⟨some 149, .mov, [.t 10], none⟩,⟨some 150, .bin .add, [.t 149, .c (.int .i64 1)], none⟩,⟨some 10, .mov, [.t 150], none⟩]) (AC.reg [⟨some 151, .mov, [.t 11], none⟩,⟨some 152, .bin .sub, [.t 151, .c (.int .i64 1)], none⟩,⟨some 11, .mov, [.t 152], none⟩]))))))))) (AC.seq (AC.par (PT.step 0 ⟨some 153, .mov, [.t 0], none⟩ (PT.step 1 ⟨some 154, .mov, [.t 11], none⟩ (PT.step 2 ⟨some 155, .mov, [.t 0], none⟩ (PT.step 3 ⟨some 156, .mov, [.t 1], none⟩ (PT.step 4 ⟨some 157, .mov, [.t 0], none⟩ (PT.step 5 ⟨some 158, .mov, [.t 1], none⟩ (PT.step 8 ⟨some 161, .mov, [.t 0], none⟩ (PT.step 9 ⟨some 162, .mov, [.t 11], none⟩ (PT.step 6 ⟨some 159, .idxp 1, [.t 157, .t 158], none⟩ (PT.step 7 ⟨some 160, .load false 1, [.t 159], none⟩ (PT.step 10 ⟨some 163, .idxp 1, [.t 161, .t 162], none⟩ (PT.step 11 ⟨some 164, .load false 1, [.t 163], none⟩ (PT.step 12 ⟨some 165, .idxp 1, [.t 153, .t 154], none⟩ (PT.step 13 ⟨none, .store 1, [.t 165, .t 160], none⟩ (PT.step 14 ⟨some 166, .idxp 1, [.t 155, .t 156], none⟩ (PT.step 15 ⟨none, .store 1, [.t 166, .t 164], none⟩ PT.done))))))))))))))))) (AC.seq (AC.reg [⟨some 167, .mov, [.t 11], none⟩,⟨some 8, .mov, [.t 167], none⟩,⟨some 9, .mov, [.c (.bool false)], none⟩]) AC.ret))))))))))))
def r89 : AC × List RT × Nat := (c89, [.tmp 8, .tmp 9], 168)
theorem ok89e : compF Tryz.prog Tryz.f160 ⟨true, false, []⟩ = some r89 := by kernel_rfl
variable {E : Env}
theorem partition_c (hP : E.P = Tryz.prog) (W : AW) (r n a b pivot : Nat) (d : Array Int) (hn : d.size = n) (hab : a < b) (hb : b ≤ n) (hpv : pivot < n) (hsm : n < 2 ^ 48) :
    ACalls E 160 [.slr r 0 n 1, .int .i64 a, .int .i64 b, .int .i64 pivot] (pv W r d) fun X W' => X = .tuple [.int .i64 (partition ltInt d a b pivot).1, .bool (partition ltInt d a b pivot).2.1] ∧ W' = pv W r (partition ltInt d a b pivot).2.2 := by
  refine ACalls.of hP Tryz.func160 ok89e (by simp) fun _ hok => ?_
  have gt : partition ltInt d a b pivot = (let d := swp d a pivot
    let i := scanUp (fun x => ltInt x d[a]!) d (b - 1) (a + 1)
    let j := scanDown (fun x => !ltInt x d[a]!) d i (b - 1)
    if i > j then (j, true, swp d j a) else
      let r := partLoop ltInt a (i + 1) (j - 1) (swp d i j)
      (r.1, false, swp r.2 r.1 a)) := rfl
  obtain ⟨d0, hd0⟩ : ∃ d0, d0 = swp d a pivot := ⟨_, rfl⟩
  have gs : d0.size = n := by rw [hd0]; simp [swp, hn]
  obtain ⟨i0, hi0⟩ : ∃ i0, i0 = a + 1 := ⟨_, rfl⟩
  obtain ⟨j0, hj0⟩ : ∃ j0, j0 = b - 1 := ⟨_, rfl⟩
  simp only [← hd0, ← hi0, ← hj0] at gt
  simp (disch := (try simp only [sz_set]) <;> omega) only [c89, BS, BC, e_seq, ↓reduceIte, Nat.reduceEqDiff, reduceCtorEq, ix, ld, st, sw, wadd1, wsub1, ← hd0, ← hi0, ← hj0]
  refine awp_mono _ (Q := fun e A' W' => e = .exit 0 ∧ A' 0 = some (.slr r 0 n 1) ∧ A' 1 = some (.int .i64 a) ∧ A' 10 = some (.int .i64 ((scanUp (fun x => ltInt x d0[a]!) d0 j0 i0 : Nat) : Int)) ∧ A' 11 = some (.int .i64 (j0 : Nat)) ∧ W' = pv W r d0 ∧ i0 ≤ scanUp (fun x => ltInt x d0[a]!) d0 j0 i0 ∧ scanUp (fun x => ltInt x d0[a]!) d0 j0 i0 ≤ n) ?_ ?_
  rotate_left
  · rw [e_loop]
    refine ALoop.go (B := awp E _) (fun h => awp_mono _ h) (fun (s : Nat) A2 W2 => A2 0 = some (.slr r 0 n 1) ∧ A2 1 = some (.int .i64 a) ∧ A2 10 = some (.int .i64 (s : Int)) ∧ A2 11 = some (.int .i64 (j0 : Nat)) ∧ W2 = pv W r d0 ∧ i0 ≤ s ∧ s ≤ n ∧ scanUp (fun x => ltInt x d0[a]!) d0 j0 s = scanUp (fun x => ltInt x d0[a]!) d0 j0 i0) (fun s => j0 + 1 - s) i0
      ⟨by rfl, by rfl, by rfl, by rfl, rfl, Nat.le_refl _, by omega, rfl⟩ ?_
    rintro s A2 W2 ⟨q0, q1, qm, qf, rfl, qi, qin, qt⟩ _
    rw [scanUp.eq_def (fun x => ltInt x d0[a]!) d0 j0 s] at qt
    by_cases h1 : s ≤ j0
    · simp (maxSteps := 2000000) (disch := omega) only [BS, BC, e_seq, guard_if, ↓reduceIte, Nat.reduceEqDiff, reduceCtorEq, q0, q1, qm, qf, cle, h1, decide_true, ix, ld]
      refine (less_c hP _ _ _).mono ?_
      rintro X W' ⟨rfl, rfl⟩
      by_cases h2 : d0[s]! < d0[a]!
      · simp (maxSteps := 2000000) (disch := omega) only [BS, cond_if, ↓reduceIte, Nat.reduceEqDiff, reduceCtorEq, h2, decide_true, q0, q1, qm, qf, wadd1]
        exact ⟨s + 1, ⟨trivial, trivial, rfl, trivial, trivial, by omega, by omega, by rw [← qt, if_pos (by simp [h1, ltInt, h2])]⟩, by omega, Nat.le_refl _⟩
      · rw [if_neg (by simp [ltInt, h2])] at qt
        simp (maxSteps := 2000000) (disch := omega) only [BS, BC, cond_if, ↓reduceIte, Nat.reduceEqDiff, reduceCtorEq, h2, decide_false, q0, q1, qm, qf]
        exact ⟨trivial, trivial, trivial, by rw [← qt], trivial, trivial, by rw [← qt]; exact qi, by rw [← qt]; exact qin⟩
    · rw [if_neg (by simp [h1])] at qt
      simp (maxSteps := 2000000) (disch := omega) only [BS, BC, e_seq, cond_if, guard_if, ↓reduceIte, Nat.reduceEqDiff, reduceCtorEq, q0, q1, qm, qf, cle, h1, decide_false]
      exact ⟨trivial, trivial, trivial, by rw [← qt], trivial, trivial, by rw [← qt]; exact qi, by rw [← qt]; exact qin⟩
  rintro e A2 W2 ⟨rfl, u0, u1, u10, u11, rfl, ui, un⟩
  simp only [BS, e_seq, ↓reduceIte]
  obtain ⟨i02, hi2⟩ : ∃ i02, i02 = scanUp (fun x => ltInt x d0[a]!) d0 j0 i0 := ⟨_, rfl⟩
  rw [← hi2] at u10 ui un gt
  refine awp_mono _ (Q := fun e A' W' => e = .exit 2 ∧ A' 0 = some (.slr r 0 n 1) ∧ A' 1 = some (.int .i64 a) ∧ A' 11 = some (.int .i64 ((scanDown (fun x => !ltInt x d0[a]!) d0 i02 j0 : Nat) : Int)) ∧ A' 10 = some (.int .i64 (i02 : Nat)) ∧ W' = pv W r d0 ∧ scanDown (fun x => !ltInt x d0[a]!) d0 i02 j0 ≤ j0) ?_ ?_
  rotate_left
  · rw [e_loop]
    refine ALoop.go (B := awp E _) (fun h => awp_mono _ h) (fun (s : Nat) A2 W2 => A2 0 = some (.slr r 0 n 1) ∧ A2 1 = some (.int .i64 a) ∧ A2 11 = some (.int .i64 (s : Int)) ∧ A2 10 = some (.int .i64 (i02 : Nat)) ∧ W2 = pv W r d0 ∧ s ≤ j0 ∧ scanDown (fun x => !ltInt x d0[a]!) d0 i02 s = scanDown (fun x => !ltInt x d0[a]!) d0 i02 j0) (fun s => s) j0
      ⟨by assumption, by assumption, by assumption, by assumption, rfl, Nat.le_refl _, rfl⟩ ?_
    rintro s A2 W2 ⟨q0, q1, qm, qf, rfl, qi, qt⟩ _
    by_cases h1 : i02 ≤ s
    · obtain ⟨s, rfl⟩ : ∃ s', s = s' + 1 := ⟨s - 1, by omega⟩
      rw [scanDown] at qt
      simp (maxSteps := 2000000) (disch := omega) only [BS, BC, e_seq, guard_if, ↓reduceIte, Nat.reduceEqDiff, reduceCtorEq, q0, q1, qm, qf, cle, h1, decide_true, ix, ld]
      refine (less_c hP _ _ _).mono ?_
      rintro X W' ⟨rfl, rfl⟩
      by_cases h2 : d0[s + 1]! < d0[a]!
      · rw [if_neg (by simp [ltInt, h2])] at qt
        simp (maxSteps := 2000000) (disch := omega) only [BS, BC, cond_if, guard_if, ↓reduceIte, Nat.reduceEqDiff, reduceCtorEq, h2, decide_true, Bool.not_true, q0, q1, qm, qf]
        exact ⟨trivial, trivial, trivial, by rw [← qt], trivial, trivial, by rw [← qt]; exact qi⟩
      · simp (maxSteps := 2000000) (disch := omega) only [BS, cond_if, guard_if, ↓reduceIte, Nat.reduceEqDiff, reduceCtorEq, h2, decide_false, Bool.not_false, q0, q1, qm, qf, wsub1, Nat.add_sub_cancel]
        exact ⟨s, ⟨trivial, trivial, rfl, trivial, trivial, by omega, by rw [← qt, if_pos (by simp [h1, ltInt, h2])]⟩, by omega, Nat.le_refl _⟩
    · replace qt : s = scanDown (fun x => !ltInt x d0[a]!) d0 i02 j0 := by
        rw [← qt]; cases s with
        | zero => rfl
        | succ s => rw [scanDown, if_neg (by simp [h1])]
      simp (maxSteps := 2000000) (disch := omega) only [BS, BC, e_seq, cond_if, guard_if, ↓reduceIte, Nat.reduceEqDiff, reduceCtorEq, q0, q1, qm, qf, cle, h1, decide_false]
      exact ⟨trivial, trivial, trivial, by rw [← qt], trivial, trivial, by rw [← qt]; exact qi⟩
  rintro e A2 W2 ⟨rfl, v0, v1, v11, v10, rfl, vj⟩
  obtain ⟨j2, hj2⟩ : ∃ j2, j2 = scanDown (fun x => !ltInt x d0[a]!) d0 i02 j0 := ⟨_, rfl⟩
  rw [← hj2] at v11 vj gt
  by_cases h3 : i02 > j2
  · rw [if_pos h3] at gt
    simp (disch := (try simp only [sz_set]) <;> omega) only [BS, e_seq, cond_if, ↓reduceIte, Nat.reduceEqDiff, reduceCtorEq, v0, v1, v10, v11, cgt, h3, decide_true, ix, ld, st, sw]
    exact ⟨_, rfl, _, _, .weak weak_id, Nat.le_refl _, by rw [gt], by rw [gt]⟩
  · rw [if_neg h3] at gt
    simp (disch := (try simp only [sz_set]) <;> omega) only [BS, BC, e_seq, cond_if, ↓reduceIte, Nat.reduceEqDiff, reduceCtorEq, v0, v10, v11, cgt, h3, decide_false, ix, ld, st, sw, wadd1, wsub1]
    rw [e_loop]
    refine ALoop.go (B := awp E _) (fun h => awp_mono _ h) (fun (s : Nat × Nat × Array Int) A1 W1 => A1 0 = some (.slr r 0 n 1) ∧ A1 1 = some (.int .i64 a) ∧ A1 10 = some (.int .i64 s.1) ∧ A1 11 = some (.int .i64 s.2.1) ∧
      W1 = pv W r s.2.2 ∧ a < s.1 ∧ s.1 ≤ n ∧ s.2.1 < n ∧ s.2.2.size = n ∧ partLoop ltInt a s.1 s.2.1 s.2.2 = partLoop ltInt a (i02 + 1) (j2 - 1) (swp d0 i02 j2)) (fun s => s.2.1 + 1 - s.1) (i02 + 1, j2 - 1, swp d0 i02 j2)
      ⟨by simp only [BS, ↓reduceIte, reduceCtorEq, v0], by simp only [BS, ↓reduceIte, Nat.reduceEqDiff, v1], rfl, rfl, rfl, by simp; omega, by simp; omega, by simp; omega, by simp [swp, gs], rfl⟩ ?_
    rintro ⟨i, j, d1⟩ A1 W1 ⟨g0, g1, g10, g11, rfl, gi, gin, gj, gs1, gt1⟩ _
    simp only at g10 g11 gi gin gj gs1 gt1
    rw [partLoop_eq] at gt1
    simp only [BS, e_seq]
    refine awp_mono _ (Q := fun e A' W' => e = .exit 6 ∧ A' 0 = some (.slr r 0 n 1) ∧ A' 1 = some (.int .i64 a) ∧ A' 10 = some (.int .i64 ((scanUp (fun x => ltInt x d1[a]!) d1 j i : Nat) : Int)) ∧ A' 11 = some (.int .i64 (j : Nat)) ∧ W' = pv W r d1 ∧ i ≤ scanUp (fun x => ltInt x d1[a]!) d1 j i ∧ scanUp (fun x => ltInt x d1[a]!) d1 j i ≤ n) ?_ ?_
    rotate_left
    · rw [e_loop]
      refine ALoop.go (B := awp E _) (fun h => awp_mono _ h) (fun (s : Nat) A2 W2 => A2 0 = some (.slr r 0 n 1) ∧ A2 1 = some (.int .i64 a) ∧ A2 10 = some (.int .i64 (s : Int)) ∧ A2 11 = some (.int .i64 (j : Nat)) ∧ W2 = pv W r d1 ∧ i ≤ s ∧ s ≤ n ∧ scanUp (fun x => ltInt x d1[a]!) d1 j s = scanUp (fun x => ltInt x d1[a]!) d1 j i) (fun s => j + 1 - s) i
        ⟨by assumption, by assumption, by assumption, by assumption, rfl, Nat.le_refl _, by omega, rfl⟩ ?_
      rintro s A2 W2 ⟨q0, q1, qm, qf, rfl, qi, qin, qt⟩ _
      rw [scanUp.eq_def (fun x => ltInt x d1[a]!) d1 j s] at qt
      by_cases h1 : s ≤ j
      · simp (maxSteps := 2000000) (disch := omega) only [BS, BC, e_seq, guard_if, ↓reduceIte, Nat.reduceEqDiff, reduceCtorEq, q0, q1, qm, qf, cle, h1, decide_true, ix, ld]
        refine (less_c hP _ _ _).mono ?_
        rintro X W' ⟨rfl, rfl⟩
        by_cases h2 : d1[s]! < d1[a]!
        · simp (maxSteps := 2000000) (disch := omega) only [BS, cond_if, ↓reduceIte, Nat.reduceEqDiff, reduceCtorEq, h2, decide_true, q0, q1, qm, qf, wadd1]
          exact ⟨s + 1, ⟨trivial, trivial, rfl, trivial, trivial, by omega, by omega, by rw [← qt, if_pos (by simp [h1, ltInt, h2])]⟩, by omega, Nat.le_refl _⟩
        · rw [if_neg (by simp [ltInt, h2])] at qt
          simp (maxSteps := 2000000) (disch := omega) only [BS, BC, cond_if, ↓reduceIte, Nat.reduceEqDiff, reduceCtorEq, h2, decide_false, q0, q1, qm, qf]
          exact ⟨trivial, trivial, trivial, by rw [← qt], trivial, trivial, by rw [← qt]; exact qi, by rw [← qt]; exact qin⟩
      · rw [if_neg (by simp [h1])] at qt
        simp (maxSteps := 2000000) (disch := omega) only [BS, BC, e_seq, cond_if, guard_if, ↓reduceIte, Nat.reduceEqDiff, reduceCtorEq, q0, q1, qm, qf, cle, h1, decide_false]
        exact ⟨trivial, trivial, trivial, by rw [← qt], trivial, trivial, by rw [← qt]; exact qi, by rw [← qt]; exact qin⟩
    rintro e A2 W2 ⟨rfl, x0, x1, x10, x11, rfl, xi, xn⟩
    simp only [BS, e_seq, ↓reduceIte]
    obtain ⟨i2, hi2⟩ : ∃ i2, i2 = scanUp (fun x => ltInt x d1[a]!) d1 j i := ⟨_, rfl⟩
    rw [← hi2] at x10 xi xn gt1
    refine awp_mono _ (Q := fun e A' W' => e = .exit 8 ∧ A' 0 = some (.slr r 0 n 1) ∧ A' 1 = some (.int .i64 a) ∧ A' 11 = some (.int .i64 ((scanDown (fun x => !ltInt x d1[a]!) d1 i2 j : Nat) : Int)) ∧ A' 10 = some (.int .i64 (i2 : Nat)) ∧ W' = pv W r d1 ∧ scanDown (fun x => !ltInt x d1[a]!) d1 i2 j ≤ j) ?_ ?_
    rotate_left
    · rw [e_loop]
      refine ALoop.go (B := awp E _) (fun h => awp_mono _ h) (fun (s : Nat) A2 W2 => A2 0 = some (.slr r 0 n 1) ∧ A2 1 = some (.int .i64 a) ∧ A2 11 = some (.int .i64 (s : Int)) ∧ A2 10 = some (.int .i64 (i2 : Nat)) ∧ W2 = pv W r d1 ∧ s ≤ j ∧ scanDown (fun x => !ltInt x d1[a]!) d1 i2 s = scanDown (fun x => !ltInt x d1[a]!) d1 i2 j) (fun s => s) j
        ⟨by assumption, by assumption, by assumption, by assumption, rfl, Nat.le_refl _, rfl⟩ ?_
      rintro s A2 W2 ⟨q0, q1, qm, qf, rfl, qi, qt⟩ _
      by_cases h1 : i2 ≤ s
      · obtain ⟨s, rfl⟩ : ∃ s', s = s' + 1 := ⟨s - 1, by omega⟩
        rw [scanDown] at qt
        simp (maxSteps := 2000000) (disch := omega) only [BS, BC, e_seq, guard_if, ↓reduceIte, Nat.reduceEqDiff, reduceCtorEq, q0, q1, qm, qf, cle, h1, decide_true, ix, ld]
        refine (less_c hP _ _ _).mono ?_
        rintro X W' ⟨rfl, rfl⟩
        by_cases h2 : d1[s + 1]! < d1[a]!
        · rw [if_neg (by simp [ltInt, h2])] at qt
          simp (maxSteps := 2000000) (disch := omega) only [BS, BC, cond_if, guard_if, ↓reduceIte, Nat.reduceEqDiff, reduceCtorEq, h2, decide_true, Bool.not_true, q0, q1, qm, qf]
          exact ⟨trivial, trivial, trivial, by rw [← qt], trivial, trivial, by rw [← qt]; exact qi⟩
        · simp (maxSteps := 2000000) (disch := omega) only [BS, cond_if, guard_if, ↓reduceIte, Nat.reduceEqDiff, reduceCtorEq, h2, decide_false, Bool.not_false, q0, q1, qm, qf, wsub1, Nat.add_sub_cancel]
          exact ⟨s, ⟨trivial, trivial, rfl, trivial, trivial, by omega, by rw [← qt, if_pos (by simp [h1, ltInt, h2])]⟩, by omega, Nat.le_refl _⟩
      · replace qt : s = scanDown (fun x => !ltInt x d1[a]!) d1 i2 j := by
          rw [← qt]; cases s with
          | zero => rfl
          | succ s => rw [scanDown, if_neg (by simp [h1])]
        simp (maxSteps := 2000000) (disch := omega) only [BS, BC, e_seq, cond_if, guard_if, ↓reduceIte, Nat.reduceEqDiff, reduceCtorEq, q0, q1, qm, qf, cle, h1, decide_false]
        exact ⟨trivial, trivial, trivial, by rw [← qt], trivial, trivial, by rw [← qt]; exact qi⟩
    rintro e A2 W2 ⟨rfl, y0, y1, y11, y10, rfl, yj⟩
    obtain ⟨j3, hj3⟩ : ∃ j3, j3 = scanDown (fun x => !ltInt x d1[a]!) d1 i2 j := ⟨_, rfl⟩
    rw [← hj3] at y11 yj gt1
    by_cases h3 : i2 > j3
    · rw [if_pos h3] at gt1
      rw [← gt1] at gt
      simp (disch := (try simp only [sz_set]) <;> omega) only [BS, e_seq, cond_if, ↓reduceIte, Nat.reduceEqDiff, reduceCtorEq, y0, y1, y10, y11, cgt, h3, decide_true, ix, ld, st, sw]
      exact ⟨_, rfl, _, _, .weak weak_id, Nat.le_refl _, by rw [gt], by rw [gt]⟩
    · rw [if_neg h3] at gt1
      simp (disch := (try simp only [sz_set]) <;> omega) only [BS, BC, e_seq, cond_if, ↓reduceIte, Nat.reduceEqDiff, reduceCtorEq, y0, y1, y10, y11, cgt, h3, decide_false, ix, ld, st, sw, wadd1, wsub1]
      exact ⟨(i2 + 1, j3 - 1, swp d1 i2 j3), ⟨trivial, trivial, rfl, rfl, rfl, by simp; omega, by simp; omega, by simp; omega, by simp [swp, gs1], gt1⟩, by simp; omega, Nat.le_refl _⟩
end Go.AL.S
set_option maxRecDepth 100000
namespace Go.AL.S
open Go Go.AL Go.Proofs Go.Sort
/- slices.insertionSortOrdered[uint16] -/
def c81 : AC := (AC.seq (AC.reg [⟨some 8, .mov, [.t 1], none⟩,⟨some 9, .bin .add, [.t 8, .c (.int .i64 1)], none⟩,⟨some 6, .mov, [.t 9], none⟩]) (AC.block 0 (AC.loop (AC.seq (AC.seq (AC.reg [⟨some 10, .mov, [.t 6], none⟩,⟨some 11, .mov, [.t 2], none⟩,⟨some 12, .bin .lss, [.t 10, .t 11], none⟩]) (AC.cond (.t 12) AC.skip (AC.exit 0))) (AC.seq (AC.block 1 (AC.seq (AC.reg [⟨some 15, .mov, [.t 6], none⟩,⟨some 7, .mov, [.t 15], none⟩]) (AC.block 2 (AC.loop (AC.seq (AC.seq (AC.par (PT.step 0 ⟨some 16, .mov, [.t 7], none⟩ (PT.step 1 ⟨some 17, .mov, [.t 1], none⟩ (PT.step 2 ⟨some 18, .bin .gtr, [.t 16, .t 17], none⟩ (PT.step 3 ⟨some 19, .mov, [.t 18], none⟩ (PT.step 4 ⟨some 20, .mov, [.t 0], (some (19, true))⟩ (PT.step 5 ⟨some 21, .mov, [.t 7], (some (19, true))⟩ (PT.step 8 ⟨some 24, .mov, [.t 0], (some (19, true))⟩ (PT.step 9 ⟨some 25, .mov, [.t 7], (some (19, true))⟩ (PT.step 10 ⟨some 26, .bin .sub, [.t 25, .c (.int .i64 1)], (some (19, true))⟩ (PT.step 6 ⟨some 22, .idxp 1, [.t 20, .t 21], (some (19, true))⟩ (PT.step 7 ⟨some 23, .load false 1, [.t 22], (some (19, true))⟩ (PT.step 11 ⟨some 27, .idxp 1, [.t 24, .t 26], (some (19, true))⟩ (PT.step 12 ⟨some 28, .load false 1, [.t 27], (some (19, true))⟩ (PT.step 13 ⟨some 29, .call 96, [.t 23, .t 28], (some (19, true))⟩ (PT.step 14 ⟨some 30, .pick, [.t 19, .t 29, .c (.bool false)], none⟩ PT.done)))))))))))))))) (AC.cond (.t 30) AC.skip (AC.exit 2))) (AC.seq (AC.block 3 (AC.par (PT.step 0 ⟨some 33, .mov, [.t 0], none⟩ (PT.step 1 ⟨some 34, .mov, [.t 7], none⟩ (PT.step 2 ⟨some 35, .mov, [.t 0], none⟩ (PT.step 3 ⟨some 36, .mov, [.t 7], none⟩ (PT.step 4 ⟨some 37, .bin .sub, [.t 36, .c (.int .i64 1)], none⟩ (PT.step 5 ⟨some 38, .mov, [.t 0], none⟩ (PT.step 6 ⟨some 39, .mov, [.t 7], none⟩ (PT.step 7 ⟨some 40, .bin .sub, [.t 39, .c (.int .i64 1)], none⟩ (PT.step 10 ⟨some 43, .mov, [.t 0], none⟩ (PT.step 11 ⟨some 44, .mov, [.t 7], none⟩ (PT.step 8 ⟨some 41, .idxp 1, [.t 38, .t 40], none⟩ (PT.step 9 ⟨some 42, .load false 1, [.t 41], none⟩ (PT.step 12 ⟨some 45, .idxp 1, [.t 43, .t 44], none⟩ (PT.step 13 ⟨some 46, .load false 1, [.t 45], none⟩ (PT.step 14 ⟨some 47, .idxp 1, [.t 33, .t 34], none⟩ (PT.step 15 ⟨none, .store 1, [.t 47, .t 42], none⟩ (PT.step 16 ⟨some 48, .idxp 1, [.t 35, .t 37], none⟩ (PT.step 17 ⟨none, .store 1, [.t 48, .t 46], none⟩ PT.done)))))))))))))))))))) (AC.reg [⟨some 31, .mov, [.t 7], none⟩,⟨some 32, .bin .sub, [.t 31, .c (.int .i64 1)], none⟩,⟨some 7, .mov, [.t 32], none⟩]))))))) (AC.reg [⟨some 13, .mov, [.t 6], none⟩,⟨some 14, .bin .add, [.t 13, .c (.int .i64 1)], none⟩,⟨some 6, .mov, [.t 14], none⟩]))))))
def r81 : AC × List RT × Nat := (c81, [], 49)
theorem ok81e : compF Tryz.prog Tryz.f153 ⟨true, false, []⟩ = some r81 := by kernel_rfl
variable {E : Env}
theorem insInner_size (lt : Int → Int → Bool) (a : Nat) : ∀ (j : Nat) (d : Array Int), (insInner lt a j d).size = d.size
  | 0, d => rfl
  | j + 1, d => by
    rw [insInner]
    split
    · rw [insInner_size]; simp [swp]
    · rfl
theorem insertion_c (hP : E.P = Tryz.prog) (W : AW) (r n a b : Nat) (d : Array Int) (hn : d.size = n) (hb : b ≤ n) (ha : a ≤ n) (hsm : n < 2 ^ 48) :
    ACalls E 153 [.slr r 0 n 1, .int .i64 a, .int .i64 b] (pv W r d) fun X W' => X = .tuple [] ∧ W' = pv W r (insertionSort ltInt d a b) := by
  refine ACalls.of hP Tryz.func153 ok81e (by simp) fun _ _ => ?_
  simp (maxSteps := 2000000) (disch := omega) only [c81, BS, BC, e_seq, ↓reduceIte, wadd1, e_loop]
  refine ALoop.go (B := awp E _) (fun h => awp_mono _ h) (fun (s : Nat × Array Int) A1 W1 => A1 0 = some (.slr r 0 n 1) ∧ A1 1 = some (.int .i64 a) ∧ A1 2 = some (.int .i64 b) ∧ A1 6 = some (.int .i64 s.1) ∧
    W1 = pv W r s.2 ∧ a + 1 ≤ s.1 ∧ s.1 ≤ n + 1 ∧ s.2.size = n ∧ insOuter ltInt a b s.1 s.2 = insertionSort ltInt d a b) (fun s => n + 1 - s.1) (a + 1, d)
    ⟨rfl, rfl, rfl, rfl, rfl, Nat.le_refl _, by simp; omega, hn, rfl⟩ ?_
  rintro ⟨i, d1⟩ A1 W1 ⟨g0, g1, g2, g6, rfl, gi, gn, gs, gt⟩ _
  simp only at g6 gi gn gs gt
  rw [insOuter] at gt
  by_cases hib : i < b
  · rw [if_pos hib] at gt
    simp only [BS, e_seq, cond_if, ↓reduceIte, Nat.reduceEqDiff, g2, g6, clt, hib, decide_true]
    refine awp_mono _ (Q := fun e A' W' => e = .exit 2 ∧ A' 0 = some (.slr r 0 n 1) ∧ A' 1 = some (.int .i64 a) ∧ A' 2 = some (.int .i64 b) ∧ A' 6 = some (.int .i64 i) ∧ W' = pv W r (insInner ltInt a i d1)) ?_ ?_
    · rintro e A2 W2 ⟨rfl, q0, q1, q2, q6, rfl⟩
      simp (maxSteps := 2000000) (disch := omega) only [BS, ↓reduceIte, Nat.reduceEqDiff, reduceCtorEq, q0, q1, q2, q6, wadd1]
      exact ⟨(i + 1, insInner ltInt a i d1), ⟨trivial, trivial, trivial, rfl, rfl, by simp; omega, by simp; omega, by rw [insInner_size, gs], gt⟩, by simp; omega, Nat.le_refl _⟩
    · rw [e_loop]
      refine ALoop.go (B := awp E _) (fun h => awp_mono _ h) (fun (s : Nat × Array Int) A2 W2 => A2 0 = some (.slr r 0 n 1) ∧ A2 1 = some (.int .i64 a) ∧ A2 2 = some (.int .i64 b) ∧ A2 6 = some (.int .i64 i) ∧ A2 7 = some (.int .i64 s.1) ∧
        W2 = pv W r s.2 ∧ s.1 ≤ i ∧ s.2.size = n ∧ insInner ltInt a s.1 s.2 = insInner ltInt a i d1) (fun s => s.1) (i, d1)
        ⟨by assumption, by assumption, by assumption, by assumption, rfl, rfl, by simp, gs, rfl⟩ ?_
      rintro ⟨j, d2⟩ A2 W2 ⟨q0, q1, q2, q6, q7, rfl, qi, qs, qt⟩ _
      simp only at q7 qi qs qt
      by_cases haj : a < j
      · obtain ⟨j, rfl⟩ : ∃ j', j = j' + 1 := ⟨j - 1, by omega⟩
        rw [insInner] at qt
        have haj' : j + 1 > a := haj
        simp (maxSteps := 2000000) (disch := omega) only [BS, BC, e_seq, guard_if, ↓reduceIte, Nat.reduceEqDiff, reduceCtorEq, q0, q1, q7, cgt, haj', decide_true, wsub1, Nat.add_sub_cancel, ix, ld]
        refine (less_c hP _ _ _).mono ?_
        rintro X W' ⟨rfl, rfl⟩
        by_cases hlt : d2[j + 1]! < d2[j]!
        · rw [if_pos (by simp [ltInt, hlt]; omega)] at qt
          simp (disch := (try simp only [sz_set]) <;> omega) only [BS, e_seq, cond_if, ↓reduceIte, Nat.reduceEqDiff, reduceCtorEq, hlt, decide_true, q0, q1, q2, q6, q7, wsub1, Nat.add_sub_cancel, ix, ld, st, sw]
          exact ⟨(j, swp d2 (j + 1) j), ⟨trivial, trivial, trivial, trivial, rfl, rfl, by simp; omega, by simp [swp, qs], qt⟩, by simp, Nat.le_refl _⟩
        · rw [if_neg (by simp [ltInt, hlt])] at qt
          simp (maxSteps := 2000000) (disch := omega) only [BS, BC, cond_if, ↓reduceIte, Nat.reduceEqDiff, reduceCtorEq, hlt, decide_false, q0, q1, q2, q6]
          exact ⟨trivial, trivial, trivial, trivial, trivial, by rw [qt]⟩
      · have hc : ¬ j > a := haj
        simp (maxSteps := 2000000) (disch := omega) only [BS, BC, e_seq, cond_if, guard_if, ↓reduceIte, Nat.reduceEqDiff, reduceCtorEq, q0, q1, q2, q6, q7, cgt, hc, decide_false]
        refine ⟨trivial, trivial, trivial, trivial, trivial, ?_⟩
        rw [← qt]
        cases j with
        | zero => rfl
        | succ m => rw [insInner, if_neg (by simp; omega)]
  · rw [if_neg hib] at gt
    simp only [BS, BC, e_seq, cond_if, ↓reduceIte, Nat.reduceEqDiff, g2, g6, clt, hib, decide_false]
    exact ⟨_, rfl, _, _, .weak weak_id, Nat.le_refl _, rfl, by rw [← gt]⟩
end Go.AL.S
set_option maxRecDepth 100000
namespace Go.AL.S
open Go Go.AL Go.Proofs Go.Sort
/- slices.partialInsertionSortOrdered[uint16] -/
def c86 : AC := (AC.seq (AC.reg [⟨some 6, .mov, [.c (.bool false)], none⟩]) (AC.seq (AC.reg [⟨some 11, .mov, [.t 1], none⟩,⟨some 12, .bin .add, [.t 11, .c (.int .i64 1)], none⟩,⟨some 7, .mov, [.t 12], none⟩]) (AC.seq (AC.seq (AC.reg [⟨some 8, .mov, [.c (.int .i64 0)], none⟩]) (AC.block 0 (AC.loop (AC.seq (AC.seq (AC.reg [⟨some 13, .mov, [.t 8], none⟩,⟨some 14, .bin .lss, [.t 13, .c (.int .i64 5)], none⟩]) (AC.cond (.t 14) AC.skip (AC.exit 0))) (AC.seq (AC.block 1 (AC.seq (AC.block 2 (AC.loop (AC.seq (AC.seq (AC.par (PT.step 0 ⟨some 17, .mov, [.t 7], none⟩ (PT.step 1 ⟨some 18, .mov, [.t 2], none⟩ (PT.step 2 ⟨some 19, .bin .lss, [.t 17, .t 18], none⟩ (PT.step 3 ⟨some 20, .mov, [.t 19], none⟩ (PT.step 4 ⟨some 21, .mov, [.t 0], (some (20, true))⟩ (PT.step 5 ⟨some 22, .mov, [.t 7], (some (20, true))⟩ (PT.step 8 ⟨some 25, .mov, [.t 0], (some (20, true))⟩ (PT.step 9 ⟨some 26, .mov, [.t 7], (some (20, true))⟩ (PT.step 10 ⟨some 27, .bin .sub, [.t 26, .c (.int .i64 1)], (some (20, true))⟩ (PT.step 6 ⟨some 23, .idxp 1, [.t 21, .t 22], (some (20, true))⟩ (PT.step 7 ⟨some 24, .load false 1, [.t 23], (some (20, true))⟩ (PT.step 11 ⟨some 28, .idxp 1, [.t 25, .t 27], (some (20, true))⟩ (PT.step 12 ⟨some 29, .load false 1, [.t 28], (some (20, true))⟩ (PT.step 13 ⟨some 30, .call 96, [.t 24, .t 29], (some (20, true))⟩ (PT.step 14 ⟨some 31, .un .not, [.t 30], (some (20, true))⟩ (PT.step 15 ⟨some 32, .pick, [.t 20, .t 31, .c (.bool false)], none⟩ PT.done))))))))))))))))) (AC.cond (.t 32) AC.skip (AC.exit 2))) (AC.block 3 (AC.reg [⟨some 33, .mov, [.t 7], none⟩,⟨some 34, .bin .add, [.t 33, .c (.int .i64 1)], none⟩,⟨some 7, .mov, [.t 34], none⟩]))))) (AC.seq (AC.seq (AC.reg [⟨some 35, .mov, [.t 7], none⟩,⟨some 36, .mov, [.t 2], none⟩,⟨some 37, .bin .eql, [.t 35, .t 36], none⟩]) (AC.cond (.t 37) (AC.seq (AC.reg [⟨some 6, .mov, [.c (.bool true)], none⟩]) AC.ret) AC.skip)) (AC.seq (AC.seq (AC.reg [⟨some 38, .mov, [.t 2], none⟩,⟨some 39, .mov, [.t 1], none⟩,⟨some 40, .bin .sub, [.t 38, .t 39], none⟩,⟨some 41, .bin .lss, [.t 40, .c (.int .i64 50)], none⟩]) (AC.cond (.t 41) (AC.seq (AC.reg [⟨some 6, .mov, [.c (.bool false)], none⟩]) AC.ret) AC.skip)) (AC.seq (AC.par (PT.step 0 ⟨some 42, .mov, [.t 0], none⟩ (PT.step 1 ⟨some 43, .mov, [.t 7], none⟩ (PT.step 2 ⟨some 44, .mov, [.t 0], none⟩ (PT.step 3 ⟨some 45, .mov, [.t 7], none⟩ (PT.step 4 ⟨some 46, .bin .sub, [.t 45, .c (.int .i64 1)], none⟩ (PT.step 5 ⟨some 47, .mov, [.t 0], none⟩ (PT.step 6 ⟨some 48, .mov, [.t 7], none⟩ (PT.step 7 ⟨some 49, .bin .sub, [.t 48, .c (.int .i64 1)], none⟩ (PT.step 10 ⟨some 52, .mov, [.t 0], none⟩ (PT.step 11 ⟨some 53, .mov, [.t 7], none⟩ (PT.step 8 ⟨some 50, .idxp 1, [.t 47, .t 49], none⟩ (PT.step 9 ⟨some 51, .load false 1, [.t 50], none⟩ (PT.step 12 ⟨some 54, .idxp 1, [.t 52, .t 53], none⟩ (PT.step 13 ⟨some 55, .load false 1, [.t 54], none⟩ (PT.step 14 ⟨some 56, .idxp 1, [.t 42, .t 43], none⟩ (PT.step 15 ⟨none, .store 1, [.t 56, .t 51], none⟩ (PT.step 16 ⟨some 57, .idxp 1, [.t 44, .t 46], none⟩ (PT.step 17 ⟨none, .store 1, [.t 57, .t 55], none⟩ PT.done))))))))))))))))))) (AC.seq (AC.seq (AC.reg [⟨some 58, .mov, [.t 7], none⟩,⟨some 59, .mov, [.t 1], none⟩,⟨some 60, .bin .sub, [.t 58, .t 59], none⟩,⟨some 61, .bin .geq, [.t 60, .c (.int .i64 2)], none⟩]) (AC.cond (.t 61) (AC.seq (AC.reg [⟨some 62, .mov, [.t 7], none⟩,⟨some 63, .bin .sub, [.t 62, .c (.int .i64 1)], none⟩,⟨some 9, .mov, [.t 63], none⟩]) (AC.block 4 (AC.loop (AC.seq (AC.seq (AC.reg [⟨some 64, .mov, [.t 9], none⟩,⟨some 65, .bin .geq, [.t 64, .c (.int .i64 1)], none⟩]) (AC.cond (.t 65) AC.skip (AC.exit 4))) (AC.seq (AC.block 5 (AC.seq (AC.seq (AC.par (PT.step 0 ⟨some 68, .mov, [.t 0], none⟩ (PT.step 1 ⟨some 69, .mov, [.t 9], none⟩ (PT.step 4 ⟨some 72, .mov, [.t 0], none⟩ (PT.step 5 ⟨some 73, .mov, [.t 9], none⟩ (PT.step 6 ⟨some 74, .bin .sub, [.t 73, .c (.int .i64 1)], none⟩ (PT.step 2 ⟨some 70, .idxp 1, [.t 68, .t 69], none⟩ (PT.step 3 ⟨some 71, .load false 1, [.t 70], none⟩ (PT.step 7 ⟨some 75, .idxp 1, [.t 72, .t 74], none⟩ (PT.step 8 ⟨some 76, .load false 1, [.t 75], none⟩ (PT.step 9 ⟨some 77, .call 96, [.t 71, .t 76], none⟩ (PT.step 10 ⟨some 78, .un .not, [.t 77], none⟩ PT.done)))))))))))) (AC.cond (.t 78) (AC.exit 4) AC.skip)) (AC.par (PT.step 0 ⟨some 79, .mov, [.t 0], none⟩ (PT.step 1 ⟨some 80, .mov, [.t 9], none⟩ (PT.step 2 ⟨some 81, .mov, [.t 0], none⟩ (PT.step 3 ⟨some 82, .mov, [.t 9], none⟩ (PT.step 4 ⟨some 83, .bin .sub, [.t 82, .c (.int .i64 1)], none⟩ (PT.step 5 ⟨some 84, .mov, [.t 0], none⟩ (PT.step 6 ⟨some 85, .mov, [.t 9], none⟩ (PT.step 7 ⟨some 86, .bin .sub, [.t 85, .c (.int .i64 1)], none⟩ (PT.step 10 ⟨some 89, .mov, [.t 0], none⟩ (PT.step 11 ⟨some 90, .mov, [.t 9], none⟩ (PT.step 8 ⟨some 87, .idxp 1, [.t 84, .t 86], none⟩ (PT.step 9 ⟨some 88, .load false 1, [.t 87], none⟩ (PT.step 12 ⟨some 91, .idxp 1, [.t 89, .t 90], none⟩ (PT.step 13 ⟨some 92, .load false 1, [.t 91], none⟩ (PT.step 14 ⟨some 93, .idxp 1, [.t 79, .t 80], none⟩ (PT.step 15 ⟨none, .store 1, [.t 93, .t 88], none⟩ (PT.step 16 ⟨some 94, .idxp 1, [.t 81, .t 83], none⟩ (PT.step 17 ⟨none, .store 1, [.t 94, .t 92], none⟩ PT.done))))))))))))))))))))) (AC.reg [⟨some 66, .mov, [.t 9], none⟩,⟨some 67, .bin .sub, [.t 66, .c (.int .i64 1)], none⟩,⟨some 9, .mov, [.t 67], none⟩])))))) AC.skip)) (AC.seq (AC.reg [⟨some 95, .mov, [.t 2], none⟩,⟨some 96, .mov, [.t 7], none⟩,⟨some 97, .bin .sub, [.t 95, .t 96], none⟩,⟨some 98, .bin .geq, [.t 97, .c (.int .i64 2)], none⟩]) (AC.cond (.t 98) (AC.seq (AC.reg [⟨some 99, .mov, [.t 7], none⟩,⟨some 100, .bin .add, [.t 99, .c (.int .i64 1)], none⟩,⟨some 10, .mov, [.t 100], none⟩]) (AC.block 6 (AC.loop (AC.seq (AC.seq (AC.reg [⟨some 101, .mov, [.t 10], none⟩,⟨some 102, .mov, [.t 2], none⟩,⟨some 103, .bin .lss, [.t 101, .t 102], none⟩]) (AC.cond (.t 103) AC.skip (AC.exit 6))) (AC.seq (AC.block 7 (AC.seq (AC.seq (AC.par (PT.step 0 ⟨some 106, .mov, [.t 0], none⟩ (PT.step 1 ⟨some 107, .mov, [.t 10], none⟩ (PT.step 4 ⟨some 110, .mov, [.t 0], none⟩ (PT.step 5 ⟨some 111, .mov, [.t 10], none⟩ (PT.step 6 ⟨some 112, .bin .sub, [.t 111, .c (.int .i64 1)], none⟩ (PT.step 2 ⟨some 108, .idxp 1, [.t 106, .t 107], none⟩ (PT.step 3 ⟨some 109, .load false 1, [.t 108], none⟩ (PT.step 7 ⟨some 113, .idxp 1, [.t 110, .t 112], none⟩ (PT.step 8 ⟨some 114, .load false 1, [.t 113], none⟩ (PT.step 9 ⟨some 115, .call 96, [.t 109, .t 114], none⟩ (PT.step 10 ⟨some 116, .un .not, [.t 115], none⟩ PT.done)))))))))))) (AC.cond (.t 116) (AC.exit 6) AC.skip)) (AC.par (PT.step 0 ⟨some 117, .mov, [.t 0], none⟩ (PT.step 1 ⟨some 118, .mov, [.t 10], none⟩ (PT.step 2 ⟨some 119, .mov, [.t 0], none⟩ (PT.step 3 ⟨some 120, .mov, [.t 10], none⟩ (PT.step 4 ⟨some 121, .bin .sub, [.t 120, .c (.int .i64 1)], none⟩ (PT.step 5 ⟨some 122, .mov, [.t 0], none⟩ (PT.step 6 ⟨some 123, .mov, [.t 10], none⟩ (PT.step 7 ⟨some 124, .bin .sub, [.t 123, .c (.int .i64 1)], none⟩ (PT.step 10 ⟨some 127, .mov, [.t 0], none⟩ (PT.step 11 ⟨some 128, .mov, [.t 10], none⟩ (PT.step 8 ⟨some 125, .idxp 1, [.t 122, .t 124], none⟩ (PT.step 9 ⟨some 126, .load false 1, [.t 125], none⟩ (PT.step 12 ⟨some 129, .idxp 1, [.t 127, .t 128], none⟩ (PT.step 13 ⟨some 130, .load false 1, [.t 129], none⟩ (PT.step 14 ⟨some 131, .idxp 1, [.t 117, .t 118], none⟩ (PT.step 15 ⟨none, .store 1, [.t 131, .t 126], none⟩ (PT.step 16 ⟨some 132, .idxp 1, [.t 119, .t 121], none⟩ (PT.step 17 ⟨none, .store 1, [.t 132, .t 130], none⟩ PT.done))))))))))))))))))))) (AC.reg [⟨some 104, .mov, [.t 10], none⟩,⟨some 105, .bin .add, [.t 104, .c (.int .i64 1)], none⟩,⟨some 10, .mov, [.t 105], none⟩])))))) AC.skip)))))))) (AC.reg [⟨some 15, .mov, [.t 8], none⟩,⟨some 16, .bin .add, [.t 15, .c (.int .i64 1)], none⟩,⟨some 8, .mov, [.t 16], none⟩])))))) (AC.seq (AC.reg [⟨some 6, .mov, [.c (.bool false)], none⟩]) AC.ret))))
def r86 : AC × List RT × Nat := (c86, [.tmp 6], 133)
theorem ok86e : compF Tryz.prog Tryz.f158 ⟨true, false, []⟩ = some r86 := by kernel_rfl
variable {E : Env}
theorem clt50 {a : Nat} : decide ((a : Int) < 50) = decide (a < 50) := by simp; omega
theorem clt5 {a : Nat} : decide ((a : Int) < 5) = decide (a < 5) := by simp; omega
theorem cge2 {a : Nat} : decide ((a : Int) ≥ 2) = decide (a ≥ 2) := by simp; omega
theorem cge1 {a : Nat} : decide ((a : Int) ≥ 1) = decide (a ≥ 1) := by simp; omega
theorem ceq {a b : Nat} : ((a : Int) == (b : Int)) = decide (a = b) := by
  by_cases h : a = b
  · simp [h]
  · simp [h]; omega
theorem shiftDown_size (lt : Int → Int → Bool) : ∀ (j : Nat) (d : Array Int), (shiftDown lt j d).size = d.size
  | 0, d => rfl
  | j + 1, d => by
    rw [shiftDown]
    split
    · rfl
    · rw [shiftDown_size]; simp [swp]
theorem shiftUp_size (lt : Int → Int → Bool) (b : Nat) : ∀ (m j : Nat) (d : Array Int), b - j ≤ m → (shiftUp lt b j d).size = d.size := by
  intro m
  induction m with
  | zero => intro j d h; rw [shiftUp, if_neg (by omega)]
  | succ m ih =>
    intro j d h
    rw [shiftUp]
    split
    · split
      · rfl
      · rw [ih _ _ (by omega)]; simp [swp]
    · rfl
theorem scanSorted_le (lt : Int → Int → Bool) (b : Nat) (d : Array Int) : ∀ (m i : Nat), b - i ≤ m → i ≤ b → i ≤ scanSorted lt d b i ∧ scanSorted lt d b i ≤ b := by
  intro m
  induction m with
  | zero => intro i h hi; rw [scanSorted, if_neg (by simp; omega)]; omega
  | succ m ih =>
    intro i h hi
    rw [scanSorted]
    split
    · rename_i h1
      have := ih (i + 1) (by omega) (by simp at h1; omega)
      omega
    · omega

theorem partialIns_c (hP : E.P = Tryz.prog) (W : AW) (r n a b : Nat) (d : Array Int) (hn : d.size = n) (hab : a < b) (hb : b ≤ n) (hsm : n < 2 ^ 48) :
    ACalls E 158 [.slr r 0 n 1, .int .i64 a, .int .i64 b] (pv W r d) fun X W' => X = .bool (partialInsertionSort ltInt d a b).2 ∧ W' = pv W r (partialInsertionSort ltInt d a b).1 := by
  refine ACalls.of hP Tryz.func158 ok86e (by simp) fun _ _ => ?_
  simp (maxSteps := 2000000) (disch := omega) only [c86, BS, BC, e_seq, ↓reduceIte, Nat.reduceEqDiff, wadd1, e_loop]
  refine ALoop.go (B := awp E _) (fun h => awp_mono _ h) (fun (s : Nat × Nat × Array Int) A1 W1 => A1 0 = some (.slr r 0 n 1) ∧ A1 1 = some (.int .i64 a) ∧ A1 2 = some (.int .i64 b) ∧ A1 7 = some (.int .i64 s.2.1) ∧ A1 8 = some (.int .i64 s.1) ∧
    W1 = pv W r s.2.2 ∧ s.1 ≤ 5 ∧ a + 1 ≤ s.2.1 ∧ s.2.1 ≤ b ∧ s.2.2.size = n ∧ partialIns ltInt a b (5 - s.1) s.2.1 s.2.2 = partialInsertionSort ltInt d a b) (fun s => 5 - s.1) (0, a + 1, d)
    ⟨rfl, rfl, rfl, rfl, rfl, rfl, by simp, Nat.le_refl _, hab, hn, rfl⟩ ?_
  rintro ⟨k, i, d1⟩ A1 W1 ⟨g0, g1, g2, g7, g8, rfl, gk, gi, gb, gs, gt⟩ _
  simp only at g7 g8 gk gi gb gs gt
  by_cases hk : k < 5
  · rw [show 5 - k = (5 - (k + 1)) + 1 by omega, partialIns_succ] at gt
    simp only [BS, e_seq, cond_if, ↓reduceIte, g8, clt5, hk, decide_true]
    refine awp_mono _ (Q := fun e A' W' => e = .exit 2 ∧ A' 0 = some (.slr r 0 n 1) ∧ A' 1 = some (.int .i64 a) ∧ A' 2 = some (.int .i64 b) ∧ A' 7 = some (.int .i64 ((scanSorted ltInt d1 b i : Nat) : Int)) ∧ A' 8 = some (.int .i64 k) ∧ W' = pv W r d1) ?_ ?_
    rotate_left
    · rw [e_loop]
      refine ALoop.go (B := awp E _) (fun h => awp_mono _ h) (fun (s : Nat) A2 W2 => A2 0 = some (.slr r 0 n 1) ∧ A2 1 = some (.int .i64 a) ∧ A2 2 = some (.int .i64 b) ∧ A2 7 = some (.int .i64 s) ∧ A2 8 = some (.int .i64 k) ∧
        W2 = pv W r d1 ∧ i ≤ s ∧ s ≤ b ∧ scanSorted ltInt d1 b s = scanSorted ltInt d1 b i) (fun s => b - s) i
        ⟨by assumption, by assumption, by assumption, by assumption, by assumption, rfl, Nat.le_refl _, gb, rfl⟩ ?_
      rintro s A2 W2 ⟨q0, q1, q2, q7, q8, rfl, qi, qb, qt⟩ _
      rw [scanSorted] at qt
      by_cases h1 : s < b
      · simp (maxSteps := 2000000) (disch := omega) only [BS, BC, e_seq, guard_if, ↓reduceIte, Nat.reduceEqDiff, reduceCtorEq, q0, q2, q7, clt, h1, decide_true, wsub1, ix, ld]
        refine (less_c hP _ _ _).mono ?_
        rintro X W' ⟨rfl, rfl⟩
        by_cases h2 : d1[s]! < d1[s - 1]!
        · rw [if_neg (by simp [h1, ltInt, h2])] at qt
          simp (maxSteps := 2000000) (disch := omega) only [BS, BC, cond_if, guard_if, ↓reduceIte, Nat.reduceEqDiff, reduceCtorEq, q0, q1, q2, q7, q8, h2, decide_true, Bool.not_true]
          exact ⟨trivial, trivial, trivial, trivial, by rw [← qt], trivial, trivial⟩
        · rw [if_pos (by simp [h1, ltInt, h2])] at qt
          simp (maxSteps := 2000000) (disch := omega) only [BS, cond_if, guard_if, ↓reduceIte, Nat.reduceEqDiff, reduceCtorEq, q0, q1, q2, q7, q8, h2, decide_false, Bool.not_false, wadd1]
          exact ⟨s + 1, ⟨trivial, trivial, trivial, rfl, trivial, trivial, by omega, by omega, qt⟩, by omega, Nat.le_refl _⟩
      · rw [if_neg (by simp [h1])] at qt
        simp (maxSteps := 2000000) (disch := omega) only [BS, BC, e_seq, cond_if, guard_if, ↓reduceIte, Nat.reduceEqDiff, reduceCtorEq, q0, q1, q2, q7, q8, clt, h1, decide_false]
        exact ⟨trivial, trivial, trivial, trivial, by rw [← qt], trivial, trivial⟩
    rintro e A2 W2 ⟨rfl, q0, q1, q2, q7, q8, rfl⟩
    obtain ⟨ib, ie⟩ := scanSorted_le ltInt b d1 _ i (Nat.le_refl _) gb
    obtain ⟨i2, hi2⟩ : ∃ i2, i2 = scanSorted ltInt d1 b i := ⟨_, rfl⟩
    rw [← hi2] at q7 ib ie gt
    by_cases h3 : i2 = b
    · rw [if_pos h3] at gt
      simp (maxSteps := 2000000) (disch := omega) only [BS, BC, e_seq, cond_if, ↓reduceIte, Nat.reduceEqDiff, q2, q7, ceq, h3, decide_true]
      exact ⟨_, rfl, _, _, .weak weak_id, Nat.le_refl _, by rw [← gt], by rw [← gt]⟩
    rw [if_neg h3] at gt
    by_cases h4 : b - a < 50
    · rw [if_pos h4] at gt
      simp (maxSteps := 2000000) (disch := omega) only [BS, BC, e_seq, cond_if, ↓reduceIte, Nat.reduceEqDiff, q1, q2, q7, ceq, h3, decide_false, wsub, clt50, h4, decide_true]
      exact ⟨_, rfl, _, _, .weak weak_id, Nat.le_refl _, by rw [← gt], by rw [← gt]⟩
    rw [if_neg h4] at gt
    have hs2 : (swp d1 i2 (i2 - 1)).size = n := by simp [swp, gs]
    obtain ⟨d3, hd3⟩ : ∃ d3, d3 = fixDown ltInt a i2 (swp d1 i2 (i2 - 1)) := ⟨_, rfl⟩
    rw [← hd3] at gt
    by_cases h5 : i2 - a ≥ 2
    · have hd3' : d3 = shiftDown ltInt (i2 - 1) (swp d1 i2 (i2 - 1)) := by rw [hd3, fixDown, if_pos h5]
      simp (disch := (try simp only [sz_set]) <;> omega) only [BS, BC, e_seq, cond_if, ↓reduceIte, Nat.reduceEqDiff, reduceCtorEq, q0, q1, q2, q7, ceq, h3, decide_false, wsub, wsub1, clt50, h4, cge2, h5, decide_true, ix, ld, st, sw]
      refine awp_mono _ (Q := fun e A' W' => e = .exit 4 ∧ A' 0 = some (.slr r 0 n 1) ∧ A' 1 = some (.int .i64 a) ∧ A' 2 = some (.int .i64 b) ∧ A' 7 = some (.int .i64 i2) ∧ A' 8 = some (.int .i64 k) ∧ W' = pv W r d3) ?_ ?_
      rotate_left
      · rw [e_loop]
        refine ALoop.go (B := awp E _) (fun h => awp_mono _ h) (fun (s : Nat × Array Int) A5 W5 => A5 0 = some (.slr r 0 n 1) ∧ A5 1 = some (.int .i64 a) ∧ A5 2 = some (.int .i64 b) ∧ A5 7 = some (.int .i64 i2) ∧ A5 8 = some (.int .i64 k) ∧ A5 9 = some (.int .i64 s.1) ∧
          W5 = pv W r s.2 ∧ s.1 < n ∧ s.2.size = n ∧ shiftDown ltInt s.1 s.2 = d3) (fun s => s.1) (i2 - 1, swp d1 i2 (i2 - 1))
          ⟨by simp only [BS, ↓reduceIte, reduceCtorEq, q0], by simp only [BS, ↓reduceIte, Nat.reduceEqDiff, q1], by simp only [BS, ↓reduceIte, Nat.reduceEqDiff, q2], by simp only [BS, ↓reduceIte, Nat.reduceEqDiff, q7], by simp only [BS, ↓reduceIte, Nat.reduceEqDiff, q8], rfl, rfl, by simp; omega, hs2, hd3'.symm⟩ ?_
        rintro ⟨j, d4⟩ A5 W5 ⟨w0, w1, w2, w7, w8, w9, rfl, wj, ws, wt⟩ _
        simp only at w9 wj ws wt
        cases j with
        | zero =>
          have k1 : ¬ 0 ≥ 1 := by decide
          simp (maxSteps := 2000000) (disch := omega) only [BS, BC, e_seq, cond_if, ↓reduceIte, Nat.reduceEqDiff, reduceCtorEq, w0, w1, w2, w7, w8, w9, cge1, k1, decide_false]
          exact ⟨trivial, trivial, trivial, trivial, trivial, trivial, by rw [← wt]; rfl⟩
        | succ j =>
          have k1 : j + 1 ≥ 1 := by omega
          rw [shiftDown] at wt
          simp (maxSteps := 2000000) (disch := omega) only [BS, BC, e_seq, cond_if, ↓reduceIte, Nat.reduceEqDiff, reduceCtorEq, w0, w9, cge1, k1, decide_true, wsub1, Nat.add_sub_cancel, ix, ld]
          refine (less_c hP _ _ _).mono ?_
          rintro X W' ⟨rfl, rfl⟩
          by_cases k2 : d4[j + 1]! < d4[j]!
          · rw [if_neg (by simp [ltInt, k2])] at wt
            simp (disch := (try simp only [sz_set]) <;> omega) only [BS, BC, cond_if, ↓reduceIte, Nat.reduceEqDiff, reduceCtorEq, w0, w1, w2, w7, w8, w9, k2, decide_true, Bool.not_true, wsub1, Nat.add_sub_cancel, ix, ld, st, sw]
            exact ⟨(j, swp d4 (j + 1) j), ⟨trivial, trivial, trivial, trivial, trivial, rfl, rfl, by simp; omega, by simp [swp, ws], wt⟩, by simp, Nat.le_refl _⟩
          · rw [if_pos (by simp [ltInt, k2])] at wt
            simp (maxSteps := 2000000) (disch := omega) only [BS, cond_if, ↓reduceIte, Nat.reduceEqDiff, reduceCtorEq, w0, w1, w2, w7, w8, k2, decide_false, Bool.not_false]
            exact ⟨trivial, trivial, trivial, trivial, trivial, trivial, by rw [wt]⟩
      rintro e A3 W3 ⟨rfl, q0, q1, q2, q7, q8, rfl⟩
      have hs3 : d3.size = n := by rw [hd3]; unfold fixDown; split <;> simp [shiftDown_size, swp, gs]
      by_cases h6 : b - i2 ≥ 2
      · simp (disch := (try simp only [sz_set]) <;> omega) only [BS, e_seq, cond_if, ↓reduceIte, Nat.reduceEqDiff, q2, q7, wsub, wadd1, cge2, h6, decide_true]
        refine awp_mono _ (Q := fun e A' W' => e = .exit 6 ∧ A' 0 = some (.slr r 0 n 1) ∧ A' 1 = some (.int .i64 a) ∧ A' 2 = some (.int .i64 b) ∧ A' 7 = some (.int .i64 i2) ∧ A' 8 = some (.int .i64 k) ∧ W' = pv W r (shiftUp ltInt b (i2 + 1) d3)) ?_ ?_
        · rintro e A4 W4 ⟨rfl, u0, u1, u2, u7, u8, rfl⟩
          simp (maxSteps := 2000000) (disch := omega) only [BS, ↓reduceIte, Nat.reduceEqDiff, reduceCtorEq, u0, u1, u2, u7, u8, wadd1]
          refine ⟨(k + 1, i2, shiftUp ltInt b (i2 + 1) d3), ⟨trivial, trivial, trivial, rfl, rfl, rfl, by simp; omega, by simp; omega, ie, by rw [shiftUp_size _ _ _ _ _ (Nat.le_refl _), hs3], ?_⟩, by simp; omega, Nat.le_refl _⟩
          rw [← gt, fixUp, if_pos h6]
        · rw [e_loop]
          refine ALoop.go (B := awp E _) (fun h => awp_mono _ h) (fun (s : Nat × Array Int) A5 W5 => A5 0 = some (.slr r 0 n 1) ∧ A5 1 = some (.int .i64 a) ∧ A5 2 = some (.int .i64 b) ∧ A5 7 = some (.int .i64 i2) ∧ A5 8 = some (.int .i64 k) ∧ A5 10 = some (.int .i64 s.1) ∧
            W5 = pv W r s.2 ∧ 1 ≤ s.1 ∧ s.2.size = n ∧ shiftUp ltInt b s.1 s.2 = shiftUp ltInt b (i2 + 1) d3) (fun s => b - s.1) (i2 + 1, d3)
            ⟨by simp only [BS, ↓reduceIte, reduceCtorEq, q0], by simp only [BS, ↓reduceIte, Nat.reduceEqDiff, q1], by simp only [BS, ↓reduceIte, Nat.reduceEqDiff, q2], by simp only [BS, ↓reduceIte, Nat.reduceEqDiff, q7], by simp only [BS, ↓reduceIte, Nat.reduceEqDiff, q8], rfl, rfl, by simp, hs3, rfl⟩ ?_
          rintro ⟨j, d4⟩ A5 W5 ⟨w0, w1, w2, w7, w8, w10, rfl, wj, ws, wt⟩ _
          simp only at w10 wj ws wt
          rw [shiftUp] at wt
          by_cases k1 : j < b
          · rw [if_pos k1] at wt
            simp (maxSteps := 2000000) (disch := omega) only [BS, BC, e_seq, cond_if, ↓reduceIte, Nat.reduceEqDiff, reduceCtorEq, w0, w2, w10, clt, k1, decide_true, wsub1, ix, ld]
            refine (less_c hP _ _ _).mono ?_
            rintro X W' ⟨rfl, rfl⟩
            by_cases k2 : d4[j]! < d4[j - 1]!
            · rw [if_neg (by simp [ltInt, k2])] at wt
              simp (disch := (try simp only [sz_set]) <;> omega) only [BS, BC, cond_if, ↓reduceIte, Nat.reduceEqDiff, reduceCtorEq, w0, w1, w2, w7, w8, w10, k2, decide_true, Bool.not_true, wadd1, wsub1, ix, ld, st, sw]
              exact ⟨(j + 1, swp d4 j (j - 1)), ⟨trivial, trivial, trivial, trivial, trivial, rfl, rfl, by simp, by simp [swp, ws], wt⟩, by simp; omega, Nat.le_refl _⟩
            · rw [if_pos (by simp [ltInt, k2])] at wt
              simp (maxSteps := 2000000) (disch := omega) only [BS, cond_if, ↓reduceIte, Nat.reduceEqDiff, reduceCtorEq, w0, w1, w2, w7, w8, k2, decide_false, Bool.not_false]
              exact ⟨trivial, trivial, trivial, trivial, trivial, trivial, by rw [wt]⟩
          · rw [if_neg k1] at wt
            simp (maxSteps := 2000000) (disch := omega) only [BS, BC, e_seq, cond_if, ↓reduceIte, Nat.reduceEqDiff, reduceCtorEq, w0, w1, w2, w7, w8, w10, clt, k1, decide_false]
            exact ⟨trivial, trivial, trivial, trivial, trivial, trivial, by rw [wt]⟩
      · simp (disch := (try simp only [sz_set]) <;> omega) only [BS, BC, e_seq, cond_if, ↓reduceIte, Nat.reduceEqDiff, reduceCtorEq, q0, q1, q2, q7, q8, decide_false, wsub, wadd1, cge2, h6]
        refine ⟨(k + 1, i2, d3), ⟨trivial, trivial, trivial, rfl, rfl, rfl, by simp; omega, by simp; omega, ie, hs3, ?_⟩, by simp; omega, Nat.le_refl _⟩
        rw [← gt, fixUp, if_neg h6]
    · have hd3' : d3 = swp d1 i2 (i2 - 1) := by rw [hd3, fixDown, if_neg h5]
      have hs3 : d3.size = n := by rw [hd3]; unfold fixDown; split <;> simp [shiftDown_size, swp, gs]
      by_cases h6 : b - i2 ≥ 2
      · simp (disch := (try simp only [sz_set]) <;> omega) only [BS, BC, e_seq, cond_if, ↓reduceIte, Nat.reduceEqDiff, reduceCtorEq, q0, q1, q2, q7, ceq, h3, decide_false, wsub, wsub1, wadd1, clt50, h4, cge2, h5, h6, decide_true, ix, ld, st, sw, ← hd3']
        refine awp_mono _ (Q := fun e A' W' => e = .exit 6 ∧ A' 0 = some (.slr r 0 n 1) ∧ A' 1 = some (.int .i64 a) ∧ A' 2 = some (.int .i64 b) ∧ A' 7 = some (.int .i64 i2) ∧ A' 8 = some (.int .i64 k) ∧ W' = pv W r (shiftUp ltInt b (i2 + 1) d3)) ?_ ?_
        · rintro e A4 W4 ⟨rfl, u0, u1, u2, u7, u8, rfl⟩
          simp (maxSteps := 2000000) (disch := omega) only [BS, ↓reduceIte, Nat.reduceEqDiff, reduceCtorEq, u0, u1, u2, u7, u8, wadd1]
          refine ⟨(k + 1, i2, shiftUp ltInt b (i2 + 1) d3), ⟨trivial, trivial, trivial, rfl, rfl, rfl, by simp; omega, by simp; omega, ie, by rw [shiftUp_size _ _ _ _ _ (Nat.le_refl _), hs3], ?_⟩, by simp; omega, Nat.le_refl _⟩
          rw [← gt, fixUp, if_pos h6]
        · rw [e_loop]
          refine ALoop.go (B := awp E _) (fun h => awp_mono _ h) (fun (s : Nat × Array Int) A5 W5 => A5 0 = some (.slr r 0 n 1) ∧ A5 1 = some (.int .i64 a) ∧ A5 2 = some (.int .i64 b) ∧ A5 7 = some (.int .i64 i2) ∧ A5 8 = some (.int .i64 k) ∧ A5 10 = some (.int .i64 s.1) ∧
            W5 = pv W r s.2 ∧ 1 ≤ s.1 ∧ s.2.size = n ∧ shiftUp ltInt b s.1 s.2 = shiftUp ltInt b (i2 + 1) d3) (fun s => b - s.1) (i2 + 1, d3)
            ⟨by simp only [BS, ↓reduceIte, reduceCtorEq, q0], by simp only [BS, ↓reduceIte, Nat.reduceEqDiff, q1], by simp only [BS, ↓reduceIte, Nat.reduceEqDiff, q2], by simp only [BS, ↓reduceIte, Nat.reduceEqDiff, q7], by simp only [BS, ↓reduceIte, Nat.reduceEqDiff, q8], rfl, rfl, by simp, hs3, rfl⟩ ?_
          rintro ⟨j, d4⟩ A5 W5 ⟨w0, w1, w2, w7, w8, w10, rfl, wj, ws, wt⟩ _
          simp only at w10 wj ws wt
          rw [shiftUp] at wt
          by_cases k1 : j < b
          · rw [if_pos k1] at wt
            simp (maxSteps := 2000000) (disch := omega) only [BS, BC, e_seq, cond_if, ↓reduceIte, Nat.reduceEqDiff, reduceCtorEq, w0, w2, w10, clt, k1, decide_true, wsub1, ix, ld]
            refine (less_c hP _ _ _).mono ?_
            rintro X W' ⟨rfl, rfl⟩
            by_cases k2 : d4[j]! < d4[j - 1]!
            · rw [if_neg (by simp [ltInt, k2])] at wt
              simp (disch := (try simp only [sz_set]) <;> omega) only [BS, BC, cond_if, ↓reduceIte, Nat.reduceEqDiff, reduceCtorEq, w0, w1, w2, w7, w8, w10, k2, decide_true, Bool.not_true, wadd1, wsub1, ix, ld, st, sw]
              exact ⟨(j + 1, swp d4 j (j - 1)), ⟨trivial, trivial, trivial, trivial, trivial, rfl, rfl, by simp, by simp [swp, ws], wt⟩, by simp; omega, Nat.le_refl _⟩
            · rw [if_pos (by simp [ltInt, k2])] at wt
              simp (maxSteps := 2000000) (disch := omega) only [BS, cond_if, ↓reduceIte, Nat.reduceEqDiff, reduceCtorEq, w0, w1, w2, w7, w8, k2, decide_false, Bool.not_false]
              exact ⟨trivial, trivial, trivial, trivial, trivial, trivial, by rw [wt]⟩
          · rw [if_neg k1] at wt
            simp (maxSteps := 2000000) (disch := omega) only [BS, BC, e_seq, cond_if, ↓reduceIte, Nat.reduceEqDiff, reduceCtorEq, w0, w1, w2, w7, w8, w10, clt, k1, decide_false]
            exact ⟨trivial, trivial, trivial, trivial, trivial, trivial, by rw [wt]⟩
      · simp (disch := (try simp only [sz_set]) <;> omega) only [BS, BC, e_seq, cond_if, ↓reduceIte, Nat.reduceEqDiff, reduceCtorEq, q0, q1, q2, q7, q8, ceq, h3, decide_false, wsub, wsub1, wadd1, clt50, h4, cge2, h5, h6, ix, ld, st, sw, ← hd3']
        refine ⟨(k + 1, i2, d3), ⟨trivial, trivial, trivial, rfl, rfl, rfl, by simp; omega, by simp; omega, ie, hs3, ?_⟩, by simp; omega, Nat.le_refl _⟩
        rw [← gt, fixUp, if_neg h6]
  · have : 5 - k = 0 := by omega
    rw [this] at gt
    simp only [BS, BC, e_seq, cond_if, ↓reduceIte, g8, clt5, hk, decide_false]
    exact ⟨_, rfl, _, _, .weak weak_id, Nat.le_refl _, by rw [← gt]; rfl, by rw [← gt]; rfl⟩
end Go.AL.S
set_option maxRecDepth 100000
namespace Go.AL.S
open Go Go.AL Go.Proofs Go.Sort
/- math/bits.Len64 -/
def c91 : AC := (AC.seq (AC.reg [⟨some 2, .mov, [.c (.int .i64 0)], none⟩]) (AC.seq (AC.seq (AC.reg [⟨some 3, .mov, [.t 0], none⟩,⟨some 4, .bin .geq, [.t 3, .c (.int .u64 4294967296)], none⟩]) (AC.cond (.t 4) (AC.seq (AC.reg [⟨some 5, .mov, [.t 0], none⟩,⟨some 6, .bin .shr, [.t 5, .c (.int .u64 32)], none⟩,⟨some 0, .mov, [.t 6], none⟩]) (AC.reg [⟨some 2, .mov, [.c (.int .i64 32)], none⟩])) AC.skip)) (AC.seq (AC.seq (AC.reg [⟨some 7, .mov, [.t 0], none⟩,⟨some 8, .bin .geq, [.t 7, .c (.int .u64 65536)], none⟩]) (AC.cond (.t 8) (AC.seq (AC.reg [⟨some 9, .mov, [.t 0], none⟩,⟨some 10, .bin .shr, [.t 9, .c (.int .u64 16)], none⟩,⟨some 0, .mov, [.t 10], none⟩]) (AC.reg [⟨some 11, .mov, [.t 2], none⟩,⟨some 12, .bin .add, [.t 11, .c (.int .i64 16)], none⟩,⟨some 2, .mov, [.t 12], none⟩])) AC.skip)) (AC.seq (AC.seq (AC.reg [⟨some 13, .mov, [.t 0], none⟩,⟨some 14, .bin .geq, [.t 13, .c (.int .u64 256)], none⟩]) (AC.cond (.t 14) (AC.seq (AC.reg [⟨some 15, .mov, [.t 0], none⟩,⟨some 16, .bin .shr, [.t 15, .c (.int .u64 8)], none⟩,⟨some 0, .mov, [.t 16], none⟩]) (AC.reg [⟨some 17, .mov, [.t 2], none⟩,⟨some 18, .bin .add, [.t 17, .c (.int .i64 8)], none⟩,⟨some 2, .mov, [.t 18], none⟩])) AC.skip)) (AC.seq (AC.reg [⟨some 19, .mov, [.t 2], none⟩,⟨some 20, .mov, [.t 0], none⟩,⟨some 21, .conv .u8, [.t 20], none⟩,⟨some 22, .idxs, [.c (.str ⟨#[0, 1, 2, 2, 3, 3, 3, 3, 4, 4, 4, 4, 4, 4, 4, 4, 5, 5, 5, 5, 5, 5, 5, 5, 5, 5, 5, 5, 5, 5, 5, 5, 6, 6, 6, 6, 6, 6, 6, 6, 6, 6, 6, 6, 6, 6, 6, 6, 6, 6, 6, 6, 6, 6, 6, 6, 6, 6, 6, 6, 6, 6, 6, 6, 7, 7, 7, 7, 7, 7, 7, 7, 7, 7, 7, 7, 7, 7, 7, 7, 7, 7, 7, 7, 7, 7, 7, 7, 7, 7, 7, 7, 7, 7, 7, 7, 7, 7, 7, 7, 7, 7, 7, 7, 7, 7, 7, 7, 7, 7, 7, 7, 7, 7, 7, 7, 7, 7, 7, 7, 7, 7, 7, 7, 7, 7, 7, 7, 8, 8, 8, 8, 8, 8, 8, 8, 8, 8, 8, 8, 8, 8, 8, 8, 8, 8, 8, 8, 8, 8, 8, 8, 8, 8, 8, 8, 8, 8, 8, 8, 8, 8, 8, 8, 8, 8, 8, 8, 8, 8, 8, 8, 8, 8, 8, 8, 8, 8, 8, 8, 8, 8, 8, 8, 8, 8, 8, 8, 8, 8, 8, 8, 8, 8, 8, 8, 8, 8, 8, 8, 8, 8, 8, 8, 8, 8, 8, 8, 8, 8, 8, 8, 8, 8, 8, 8, 8, 8, 8, 8, 8, 8, 8, 8, 8, 8, 8, 8, 8, 8, 8, 8, 8, 8, 8, 8, 8, 8, 8, 8, 8, 8, 8, 8, 8, 8, 8, 8, 8, 8, 8, 8, 8, 8, 8, 8]⟩), .t 21], none⟩,⟨some 23, .conv .i64, [.t 22], none⟩,⟨some 24, .bin .add, [.t 19, .t 23], none⟩,⟨some 2, .mov, [.t 24], none⟩]) AC.ret)))))
def r91 : AC × List RT × Nat := (c91, [.tmp 2], 25)
theorem ok91e : compF Tryz.prog Tryz.f162 ⟨true, false, []⟩ = some r91 := by kernel_rfl
/- math/bits.Len -/
def c55 : AC := (AC.seq (AC.reg [⟨some 2, .mov, [.c (.int .i64 0)], none⟩]) (AC.seq (AC.cond (.c (.bool false)) (AC.seq (AC.reg [⟨some 3, .mov, [.t 0], none⟩,⟨some 4, .conv .u32, [.t 3], none⟩,⟨some 5, .call 161, [.t 4], none⟩,⟨some 2, .mov, [.t 5], none⟩]) AC.ret) AC.skip) (AC.seq (AC.reg [⟨some 6, .mov, [.t 0], none⟩,⟨some 7, .call 162, [.t 6], none⟩,⟨some 2, .mov, [.t 7], none⟩]) AC.ret)))
def r55 : AC × List RT × Nat := (c55, [.tmp 2], 8)
theorem ok55e : compF Tryz.prog Tryz.f122 ⟨true, false, []⟩ = some r55 := by kernel_rfl
/- slices.nextPowerOfTwo -/
def c115 : AC := (AC.seq (AC.reg [⟨some 2, .mov, [.c (.int .u64 0)], none⟩]) (AC.seq (AC.reg [⟨some 3, .mov, [.t 0], none⟩,⟨some 4, .conv .u64, [.t 3], none⟩,⟨some 5, .call 122, [.t 4], none⟩,⟨some 6, .bin .shl, [.c (.int .u64 1), .t 5], none⟩,⟨some 2, .mov, [.t 6], none⟩]) AC.ret))
def r115 : AC × List RT × Nat := (c115, [.tmp 2], 7)
theorem ok115e : compF Tryz.prog Tryz.f188 ⟨true, false, []⟩ = some r115 := by kernel_rfl
/- (*slices.xorshift).Next -/
def c116 : AC := (AC.seq (AC.reg [⟨some 2, .mov, [.c (.int .u64 0)], none⟩]) (AC.seq (AC.par (PT.step 0 ⟨some 3, .mov, [.t 0], none⟩ (PT.step 1 ⟨some 4, .nilck, [.t 3], none⟩ (PT.step 3 ⟨some 6, .mov, [.t 0], none⟩ (PT.step 4 ⟨some 7, .nilck, [.t 6], none⟩ (PT.step 2 ⟨some 5, .load false 1, [.t 4], none⟩ (PT.step 5 ⟨some 8, .load false 1, [.t 7], none⟩ (PT.step 6 ⟨some 9, .bin .shl, [.t 8, .c (.int .u64 13)], none⟩ (PT.step 7 ⟨some 10, .bin .xor, [.t 5, .t 9], none⟩ (PT.step 8 ⟨some 11, .nilck, [.t 3], none⟩ (PT.step 9 ⟨none, .store 1, [.t 11, .t 10], none⟩ PT.done))))))))))) (AC.seq (AC.par (PT.step 0 ⟨some 12, .mov, [.t 0], none⟩ (PT.step 1 ⟨some 13, .nilck, [.t 12], none⟩ (PT.step 3 ⟨some 15, .mov, [.t 0], none⟩ (PT.step 4 ⟨some 16, .nilck, [.t 15], none⟩ (PT.step 2 ⟨some 14, .load false 1, [.t 13], none⟩ (PT.step 5 ⟨some 17, .load false 1, [.t 16], none⟩ (PT.step 6 ⟨some 18, .bin .shr, [.t 17, .c (.int .u64 7)], none⟩ (PT.step 7 ⟨some 19, .bin .xor, [.t 14, .t 18], none⟩ (PT.step 8 ⟨some 20, .nilck, [.t 12], none⟩ (PT.step 9 ⟨none, .store 1, [.t 20, .t 19], none⟩ PT.done))))))))))) (AC.seq (AC.par (PT.step 0 ⟨some 21, .mov, [.t 0], none⟩ (PT.step 1 ⟨some 22, .nilck, [.t 21], none⟩ (PT.step 3 ⟨some 24, .mov, [.t 0], none⟩ (PT.step 4 ⟨some 25, .nilck, [.t 24], none⟩ (PT.step 2 ⟨some 23, .load false 1, [.t 22], none⟩ (PT.step 5 ⟨some 26, .load false 1, [.t 25], none⟩ (PT.step 6 ⟨some 27, .bin .shl, [.t 26, .c (.int .u64 17)], none⟩ (PT.step 7 ⟨some 28, .bin .xor, [.t 23, .t 27], none⟩ (PT.step 8 ⟨some 29, .nilck, [.t 21], none⟩ (PT.step 9 ⟨none, .store 1, [.t 29, .t 28], none⟩ PT.done))))))))))) (AC.seq (AC.reg [⟨some 30, .mov, [.t 0], none⟩,⟨some 31, .nilck, [.t 30], none⟩,⟨some 32, .load false 1, [.t 31], none⟩,⟨some 2, .mov, [.t 32], none⟩]) AC.ret)))))
def r116 : AC × List RT × Nat := (c116, [.tmp 2], 33)
theorem ok116e : compF Tryz.prog Tryz.f189 ⟨true, false, []⟩ = some r116 := by kernel_rfl
/- slices.breakPatternsOrdered[uint16] -/
def c83 : AC := (AC.seq (AC.reg [⟨some 11, .mov, [.t 2], none⟩,⟨some 12, .mov, [.t 1], none⟩,⟨some 13, .bin .sub, [.t 11, .t 12], none⟩,⟨some 6, .mov, [.t 13], none⟩]) (AC.seq (AC.reg [⟨some 14, .mov, [.t 6], none⟩,⟨some 15, .bin .geq, [.t 14, .c (.int .i64 8)], none⟩]) (AC.cond (.t 15) (AC.seq (AC.reg [⟨some 16, .mov, [.t 6], none⟩,⟨some 17, .conv .u64, [.t 16], none⟩,⟨some 7, .alloc [.int .u64 0], [], none⟩,⟨none, .store 1, [.t 7, .t 17], none⟩]) (AC.seq (AC.reg [⟨some 18, .mov, [.t 6], none⟩,⟨some 19, .call 188, [.t 18], none⟩,⟨some 8, .mov, [.t 19], none⟩]) (AC.seq (AC.reg [⟨some 20, .mov, [.t 1], none⟩,⟨some 21, .mov, [.t 6], none⟩,⟨some 22, .bin .quo, [.t 21, .c (.int .i64 4)], none⟩,⟨some 23, .bin .mul, [.t 22, .c (.int .i64 2)], none⟩,⟨some 24, .bin .add, [.t 20, .t 23], none⟩,⟨some 25, .bin .sub, [.t 24, .c (.int .i64 1)], none⟩,⟨some 9, .mov, [.t 25], none⟩]) (AC.block 0 (AC.loop (AC.seq (AC.seq (AC.reg [⟨some 26, .mov, [.t 9], none⟩,⟨some 27, .mov, [.t 1], none⟩,⟨some 28, .mov, [.t 6], none⟩,⟨some 29, .bin .quo, [.t 28, .c (.int .i64 4)], none⟩,⟨some 30, .bin .mul, [.t 29, .c (.int .i64 2)], none⟩,⟨some 31, .bin .add, [.t 27, .t 30], none⟩,⟨some 32, .bin .add, [.t 31, .c (.int .i64 1)], none⟩,⟨some 33, .bin .leq, [.t 26, .t 32], none⟩]) (AC.cond (.t 33) AC.skip (AC.exit 0))) (AC.seq (AC.block 1 (AC.seq (AC.reg [⟨some 36, .call 189, [.t 7], none⟩,⟨some 37, .mov, [.t 8], none⟩,⟨some 38, .bin .sub, [.t 37, .c (.int .u64 1)], none⟩,⟨some 39, .bin .and, [.t 36, .t 38], none⟩,⟨some 40, .conv .i64, [.t 39], none⟩,⟨some 10, .mov, [.t 40], none⟩]) (AC.seq (AC.seq (AC.reg [⟨some 41, .mov, [.t 10], none⟩,⟨some 42, .mov, [.t 6], none⟩,⟨some 43, .bin .geq, [.t 41, .t 42], none⟩]) (AC.cond (.t 43) (AC.reg [⟨some 44, .mov, [.t 10], none⟩,⟨some 45, .mov, [.t 6], none⟩,⟨some 46, .bin .sub, [.t 44, .t 45], none⟩,⟨some 10, .mov, [.t 46], none⟩]) AC.skip)) (AC.par (PT.step 0 ⟨some 47, .mov, [.t 0], none⟩ (PT.step 1 ⟨some 48, .mov, [.t 9], none⟩ (PT.step 2 ⟨some 49, .mov, [.t 0], none⟩ (PT.step 3 ⟨some 50, .mov, [.t 1], none⟩ (PT.step 4 ⟨some 51, .mov, [.t 10], none⟩ (PT.step 5 ⟨some 52, .bin .add, [.t 50, .t 51], none⟩ (PT.step 6 ⟨some 53, .mov, [.t 0], none⟩ (PT.step 7 ⟨some 54, .mov, [.t 1], none⟩ (PT.step 8 ⟨some 55, .mov, [.t 10], none⟩ (PT.step 9 ⟨some 56, .bin .add, [.t 54, .t 55], none⟩ (PT.step 12 ⟨some 59, .mov, [.t 0], none⟩ (PT.step 13 ⟨some 60, .mov, [.t 9], none⟩ (PT.step 10 ⟨some 57, .idxp 1, [.t 53, .t 56], none⟩ (PT.step 11 ⟨some 58, .load false 1, [.t 57], none⟩ (PT.step 14 ⟨some 61, .idxp 1, [.t 59, .t 60], none⟩ (PT.step 15 ⟨some 62, .load false 1, [.t 61], none⟩ (PT.step 16 ⟨some 63, .idxp 1, [.t 47, .t 48], none⟩ (PT.step 17 ⟨none, .store 1, [.t 63, .t 58], none⟩ (PT.step 18 ⟨some 64, .idxp 1, [.t 49, .t 52], none⟩ (PT.step 19 ⟨none, .store 1, [.t 64, .t 62], none⟩ PT.done)))))))))))))))))))))))) (AC.reg [⟨some 34, .mov, [.t 9], none⟩,⟨some 35, .bin .add, [.t 34, .c (.int .i64 1)], none⟩,⟨some 9, .mov, [.t 35], none⟩])))))))) AC.skip)))
def r83 : AC × List RT × Nat := (c83, [], 65)
theorem ok83e : compF Tryz.prog Tryz.f155 ⟨true, false, []⟩ = some r83 := by kernel_rfl
variable {E : Env}
/-! numbers of 64 bits, without a sign -/
theorem un {n : Nat} (h : n < 2 ^ 64) : IntKind.u64.wrap (n : Int) = n := by
  have h1 : (n : Int) % 18446744073709551616 = n := Int.emod_eq_of_lt (by omega) (by omega)
  simp [IntKind.wrap, IntKind.bits, IntKind.signed, h1]
theorem u8n {n : Nat} (h : n < 256) : IntKind.u8.wrap (n : Int) = n := by
  have h1 : (n : Int) % 256 = n := Int.emod_eq_of_lt (by omega) (by omega)
  simp [IntKind.wrap, IntKind.bits, IntKind.signed, h1]
theorem shrN {W : AW} {K : V → AW → Prop} {n : Nat} (s : Nat) (hs : s ≤ 64) : sem E (.bin .shr) [.int .u64 (n : Int), .int .u64 (s : Int)] W K = K (.int .u64 ((n / 2 ^ s : Nat) : Int)) W := by
  have h0 : (0 : Int) ≤ (s : Int) := by omega
  have h1 : binI .shr .u64 n s = some (.int .u64 ((n / 2 ^ s : Nat) : Int)) := by
    show shI .shr .u64 n s = _
    simp only [shI, h0, ↓reduceIte, Int.toNat_natCast, IntKind.bits, Nat.min_eq_left hs]
    congr 2
    rw [show ((2 : Int) ^ s) = ((2 ^ s : Nat) : Int) by simp]
    exact (Int.ofNat_fdiv n (2 ^ s)).symm
  simp only [sem, rsem, tsem, ↓reduceIte, h1]
theorem bitsLen_up {x : Nat} (k : Nat) (h : 2 ^ k ≤ x) : bitsLen x = k + bitsLen (x / 2 ^ k) := by
  have hp : 0 < 2 ^ k := Nat.two_pow_pos k
  apply Nat.le_antisymm
  · rw [bitsLen_le_iff, Nat.pow_add]
    have := lt_two_pow_bitsLen (x / 2 ^ k)
    exact Nat.lt_of_lt_of_eq ((Nat.div_lt_iff_lt_mul hp).1 this) (Nat.mul_comm _ _)
  · have hk : k < bitsLen x := by
      rcases Nat.lt_or_ge k (bitsLen x) with h1 | h1
      · exact h1
      · have := (bitsLen_le_iff x k).1 h1
        omega
    have : bitsLen (x / 2 ^ k) ≤ bitsLen x - k := by
      rw [bitsLen_le_iff, Nat.div_lt_iff_lt_mul hp, ← Nat.pow_add, show bitsLen x - k + k = bitsLen x by omega]
      exact lt_two_pow_bitsLen x
    omega
def lentab : ByteArray := ⟨#[0, 1, 2, 2, 3, 3, 3, 3, 4, 4, 4, 4, 4, 4, 4, 4, 5, 5, 5, 5, 5, 5, 5, 5, 5, 5, 5, 5, 5, 5, 5, 5, 6, 6, 6, 6, 6, 6, 6, 6, 6, 6, 6, 6, 6, 6, 6, 6, 6, 6, 6, 6, 6, 6, 6, 6, 6, 6, 6, 6, 6, 6, 6, 6, 7, 7, 7, 7, 7, 7, 7, 7, 7, 7, 7, 7, 7, 7, 7, 7, 7, 7, 7, 7, 7, 7, 7, 7, 7, 7, 7, 7, 7, 7, 7, 7, 7, 7, 7, 7, 7, 7, 7, 7, 7, 7, 7, 7, 7, 7, 7, 7, 7, 7, 7, 7, 7, 7, 7, 7, 7, 7, 7, 7, 7, 7, 7, 7, 8, 8, 8, 8, 8, 8, 8, 8, 8, 8, 8, 8, 8, 8, 8, 8, 8, 8, 8, 8, 8, 8, 8, 8, 8, 8, 8, 8, 8, 8, 8, 8, 8, 8, 8, 8, 8, 8, 8, 8, 8, 8, 8, 8, 8, 8, 8, 8, 8, 8, 8, 8, 8, 8, 8, 8, 8, 8, 8, 8, 8, 8, 8, 8, 8, 8, 8, 8, 8, 8, 8, 8, 8, 8, 8, 8, 8, 8, 8, 8, 8, 8, 8, 8, 8, 8, 8, 8, 8, 8, 8, 8, 8, 8, 8, 8, 8, 8, 8, 8, 8, 8, 8, 8, 8, 8, 8, 8, 8, 8, 8, 8, 8, 8, 8, 8, 8, 8, 8, 8, 8, 8, 8, 8, 8, 8, 8, 8]⟩
theorem lentab_all : (List.range 256).all (fun x => match lentab[x]? with
    | some b => b.toNat == bitsLen x
    | none => false) = true := by decide +kernel
theorem lentab_at {x : Nat} (h : x < 256) : ∃ b, lentab[x]? = some b ∧ b.toNat = bitsLen x := by
  have := List.all_eq_true.1 lentab_all x (by simpa using h)
  cases hb : lentab[x]? with
  | none => simp [hb] at this
  | some b => exact ⟨b, rfl, by simpa [hb] using this⟩
theorem sem_lentab {W : AW} {K : V → AW → Prop} {n : Nat} (h : n < 256) : sem E .idxs [.str lentab, .int .u8 (n : Int)] W K = K (.int .u8 ((bitsLen n : Nat) : Int)) W := by
  obtain ⟨b, h1, h2⟩ := lentab_at h
  have h0 : (0 : Int) ≤ (n : Int) := by omega
  simp only [sem, rsem, tsem, h0, ↓reduceIte, Int.toNat_natCast, h1, Option.map_some, h2]
theorem ge32 {n : Nat} (h : n < 4294967296) : decide ((n : Int) ≥ 4294967296) = false := by simp; omega
theorem ge16 {n : Nat} : decide ((n : Int) ≥ 65536) = decide (n ≥ 65536) := by simp; omega
theorem ge8 {n : Nat} : decide ((n : Int) ≥ 256) = decide (n ≥ 256) := by simp; omega
theorem shr16 {W : AW} {K : V → AW → Prop} {n : Nat} : sem E (.bin .shr) [.int .u64 (n : Int), .int .u64 16] W K = K (.int .u64 ((n / 2 ^ 16 : Nat) : Int)) W := shrN 16 (by decide)
theorem shr8 {W : AW} {K : V → AW → Prop} {n : Nat} : sem E (.bin .shr) [.int .u64 (n : Int), .int .u64 8] W K = K (.int .u64 ((n / 2 ^ 8 : Nat) : Int)) W := shrN 8 (by decide)
theorem bitsLen_small {n : Nat} (h : n < 256) : bitsLen n ≤ 8 := (bitsLen_le_iff n 8).2 h
theorem c0add {n : Nat} (h : n < 1000) : IntKind.i64.wrap (0 + (n : Int)) = n := by rw [Int.zero_add]; exact wn (by omega)
theorem c8add {n : Nat} (h : n < 1000) : IntKind.i64.wrap (IntKind.i64.wrap (0 + 8) + (n : Int)) = ((8 + n : Nat) : Int) := by
  rw [show IntKind.i64.wrap (0 + 8) = ((8 : Nat) : Int) from rfl]; exact wadd (by omega)
theorem c16add {n : Nat} (h : n < 1000) : IntKind.i64.wrap (IntKind.i64.wrap (0 + 16) + (n : Int)) = ((16 + n : Nat) : Int) := by
  rw [show IntKind.i64.wrap (0 + 16) = ((16 : Nat) : Int) from rfl]; exact wadd (by omega)
theorem c24add {n : Nat} (h : n < 1000) : IntKind.i64.wrap (IntKind.i64.wrap (IntKind.i64.wrap (0 + 16) + 8) + (n : Int)) = ((24 + n : Nat) : Int) := by
  rw [show IntKind.i64.wrap (IntKind.i64.wrap (0 + 16) + 8) = ((24 : Nat) : Int) from rfl]; exact wadd (by omega)
theorem len64_c (hP : E.P = Tryz.prog) (W : AW) (n : Nat) (hn : n < 4294967296) : ACalls E 162 [.int .u64 n] W fun X W' => X = .int .i64 (bitsLen n) ∧ W' = W := by
  refine ACalls.of hP Tryz.func162 ok91e (by simp) fun _ hok => ?_
  by_cases h1 : n ≥ 65536
  · by_cases h2 : n / 2 ^ 16 ≥ 256
    · have h3 : n / 2 ^ 16 / 2 ^ 8 < 256 := by omega
      have h4 := bitsLen_small h3
      simp (maxSteps := 2000000) (disch := omega) only [c91, BS, BC, e_seq, cond_if, ↓reduceIte, Nat.reduceEqDiff, reduceCtorEq, ge32, ge16, ge8, h1, h2, decide_true, shr16, shr8, u8n, ← lentab.eq_def, sem_lentab, wn, c24add]
      exact ⟨_, rfl, _, _, .weak weak_id, Nat.le_refl _, by rw [bitsLen_up (x := n) 16 (by simpa using h1), bitsLen_up (x := n / 2 ^ 16) 8 (by simpa using h2), ← Nat.add_assoc], rfl⟩
    · have h3 : n / 2 ^ 16 < 256 := by omega
      have h4 := bitsLen_small h3
      simp (maxSteps := 2000000) (disch := omega) only [c91, BS, BC, e_seq, cond_if, ↓reduceIte, Nat.reduceEqDiff, reduceCtorEq, ge32, ge16, ge8, h1, h2, decide_true, decide_false, shr16, u8n, ← lentab.eq_def, sem_lentab, wn, c16add]
      exact ⟨_, rfl, _, _, .weak weak_id, Nat.le_refl _, by rw [bitsLen_up (x := n) 16 (by simpa using h1)], rfl⟩
  · by_cases h2 : n ≥ 256
    · have h3 : n / 2 ^ 8 < 256 := by omega
      have h4 := bitsLen_small h3
      simp (maxSteps := 2000000) (disch := omega) only [c91, BS, BC, e_seq, cond_if, ↓reduceIte, Nat.reduceEqDiff, reduceCtorEq, ge32, ge16, ge8, h1, h2, decide_true, decide_false, shr8, u8n, ← lentab.eq_def, sem_lentab, wn, c8add]
      exact ⟨_, rfl, _, _, .weak weak_id, Nat.le_refl _, by rw [bitsLen_up (x := n) 8 (by simpa using h2)], rfl⟩
    · have h3 : n < 256 := by omega
      have h4 := bitsLen_small h3
      simp (maxSteps := 2000000) (disch := omega) only [c91, BS, BC, e_seq, cond_if, ↓reduceIte, Nat.reduceEqDiff, reduceCtorEq, ge32, ge16, ge8, h1, h2, decide_false, u8n, ← lentab.eq_def, sem_lentab, wn, c0add]
      exact ⟨_, rfl, _, _, .weak weak_id, Nat.le_refl _, rfl, rfl⟩
theorem len_c (hP : E.P = Tryz.prog) (W : AW) (n : Nat) (hn : n < 4294967296) : ACalls E 122 [.int .u64 n] W fun X W' => X = .int .i64 (bitsLen n) ∧ W' = W := by
  refine ACalls.of hP Tryz.func122 ok55e (by simp) fun _ hok => ?_
  simp only [c55, BS, BC, e_seq, cond_if, ↓reduceIte, reduceCtorEq]
  refine (len64_c hP W n hn).mono ?_
  rintro X W' ⟨rfl, rfl⟩
  simp only [BS, BC, ↓reduceIte]
  exact ⟨_, rfl, _, _, .weak weak_id, Nat.le_refl _, rfl, rfl⟩
end Go.AL.S
set_option maxRecDepth 100000
namespace Go.AL.S
open Go Go.AL Go.Proofs Go.Sort
variable {E : Env}
theorem nextPow_c (hP : E.P = Tryz.prog) (W : AW) (n : Nat) (hn : n < 4294967296) : ACalls E 188 [.int .i64 n] W fun X W' => X = .int .u64 ((1 <<< bitsLen n : Nat) : Int) ∧ W' = W := by
  refine ACalls.of hP Tryz.func188 ok115e (by simp) fun _ hok => ?_
  have hb : bitsLen n ≤ 32 := (bitsLen_le_iff n 32).2 (by omega)
  have hs : ∀ K : V → AW → Prop, sem E (.bin .shl) [.int .u64 1, .int .i64 ((bitsLen n : Nat) : Int)] W K = K (.int .u64 ((1 <<< bitsLen n : Nat) : Int)) W := by
    intro K
    have h0 : (0 : Int) ≤ ((bitsLen n : Nat) : Int) := by omega
    have h1 : shI .shl .u64 1 ((bitsLen n : Nat) : Int) = some (.int .u64 ((1 <<< bitsLen n : Nat) : Int)) := by
      simp only [shI, h0, ↓reduceIte, Int.toNat_natCast, IntKind.bits, Nat.min_eq_left (show bitsLen n ≤ 64 by omega)]
      congr 2
      have e : (1 : Int) * (2 : Int) ^ bitsLen n = ((1 <<< bitsLen n : Nat) : Int) := by simp [Nat.shiftLeft_eq]
      rw [e]
      exact un (by rw [Nat.shiftLeft_eq, Nat.one_mul]; exact Nat.lt_of_le_of_lt (Nat.pow_le_pow_right (by decide) hb) (by decide))
    simp only [sem, rsem, tsem, h1]
    rfl
  simp (maxSteps := 2000000) (disch := omega) only [c115, BS, BC, e_seq, ↓reduceIte, reduceCtorEq, un]
  refine (len_c hP W n hn).mono ?_
  rintro X W' ⟨rfl, rfl⟩
  simp only [BS, BC, ↓reduceIte, hs]
  exact ⟨_, rfl, _, _, .weak weak_id, Nat.le_refl _, rfl, rfl⟩

/-! a number of 64 bits that is turned in place -/
def px (A : AW) (p : Nat) (x : UInt64) : AW := A.put p (.row [.int .u64 (x.toNat : Int)])
theorem px_get {A : AW} {p : Nat} {x : UInt64} : (px A p x).get p = some (.row [.int .u64 (x.toNat : Int)]) := by simp [px, AW.put]
theorem ldx {A : AW} {K : V → AW → Prop} {p : Nat} {x : UInt64} : sem E (.load false 1) [.ptr p 0] (px A p x) K = K (.int .u64 (x.toNat : Int)) (px A p x) := sem_load_row px_get rfl
theorem stx {A : AW} {K : V → AW → Prop} {p : Nat} {x y : UInt64} : sem E (.store 1) [.ptr p 0, .int .u64 (y.toNat : Int)] (px A p x) K = K .undef (px A p y) := by
  rw [sem_store_row (s := 1) (x := .int .u64 (y.toNat : Int)) px_get rfl rfl (by simp)]
  show K .undef ((px A p x).put p (.row [.int .u64 (y.toNat : Int)])) = _
  congr 1
  simp only [px, AW.put, AW.mk.injEq, and_true]
  funext z
  by_cases h : z = p <;> simp [h]
theorem ofInt_u64 (x : UInt64) : BitVec.ofInt 64 (x.toNat : Int) = x.toBitVec := by
  apply BitVec.eq_of_toNat_eq
  rw [BitVec.toNat_ofInt]
  have := x.toNat_lt
  simp
  omega
theorem u64w (x : UInt64) : IntKind.u64.wrap (x.toNat : Int) = x.toNat := un x.toNat_lt
theorem xorx {W : AW} {K : V → AW → Prop} {x y : UInt64} : sem E (.bin .xor) [.int .u64 (x.toNat : Int), .int .u64 (y.toNat : Int)] W K = K (.int .u64 ((x ^^^ y).toNat : Int)) W := by
  have h1 : binI .xor .u64 x.toNat y.toNat = some (.int .u64 ((x ^^^ y).toNat : Int)) := by
    show (bitI .xor .u64 x.toNat y.toNat).map (V.int .u64) = _
    have : bitI .xor .u64 x.toNat y.toNat = some ((x ^^^ y).toNat : Int) := by
      show some (IntKind.u64.wrap ((BitVec.ofInt 64 (x.toNat : Int) ^^^ BitVec.ofInt 64 (y.toNat : Int)).toNat : Int)) = _
      rw [ofInt_u64, ofInt_u64]
      exact congrArg some (u64w (x ^^^ y))
    rw [this]; rfl
  simp only [sem, rsem, tsem, ↓reduceIte, h1]
theorem shlx {W : AW} {K : V → AW → Prop} {x : UInt64} (s : UInt64) (hs : s.toNat < 64) : sem E (.bin .shl) [.int .u64 (x.toNat : Int), .int .u64 (s.toNat : Int)] W K = K (.int .u64 ((x <<< s).toNat : Int)) W := by
  have h0 : (0 : Int) ≤ (s.toNat : Int) := by omega
  have h1 : binI .shl .u64 x.toNat s.toNat = some (.int .u64 ((x <<< s).toNat : Int)) := by
    show shI .shl .u64 x.toNat s.toNat = _
    simp only [shI, h0, ↓reduceIte, Int.toNat_natCast, IntKind.bits, Nat.min_eq_left (Nat.le_of_lt hs)]
    congr 2
    rw [UInt64.toNat_shiftLeft, Nat.mod_eq_of_lt hs, Nat.shiftLeft_eq]
    simp [IntKind.wrap, IntKind.bits, IntKind.signed]
  simp only [sem, rsem, tsem, ↓reduceIte, h1]
theorem shrx {W : AW} {K : V → AW → Prop} {x : UInt64} (s : UInt64) (hs : s.toNat < 64) : sem E (.bin .shr) [.int .u64 (x.toNat : Int), .int .u64 (s.toNat : Int)] W K = K (.int .u64 ((x >>> s).toNat : Int)) W := by
  rw [shrN s.toNat (by omega), UInt64.toNat_shiftRight, Nat.mod_eq_of_lt hs, Nat.shiftRight_eq_div_pow]
theorem shl13 {W : AW} {K : V → AW → Prop} {x : UInt64} : sem E (.bin .shl) [.int .u64 (x.toNat : Int), .int .u64 13] W K = K (.int .u64 ((x <<< 13).toNat : Int)) W := shlx 13 (by decide)
theorem shl17 {W : AW} {K : V → AW → Prop} {x : UInt64} : sem E (.bin .shl) [.int .u64 (x.toNat : Int), .int .u64 17] W K = K (.int .u64 ((x <<< 17).toNat : Int)) W := shlx 17 (by decide)
theorem shr7 {W : AW} {K : V → AW → Prop} {x : UInt64} : sem E (.bin .shr) [.int .u64 (x.toNat : Int), .int .u64 7] W K = K (.int .u64 ((x >>> 7).toNat : Int)) W := shrx 7 (by decide)

theorem next_c (hP : E.P = Tryz.prog) (A : AW) (p : Nat) (x : UInt64) : ACalls E 189 [.ptr p 0] (px A p x) fun X W' => X = .int .u64 ((xorNext x).toNat : Int) ∧ W' = px A p (xorNext x) := by
  refine ACalls.of hP Tryz.func189 ok116e (by simp) fun _ hok => ?_
  simp only [c116, BS, BC, e_seq, ↓reduceIte, Nat.reduceEqDiff, reduceCtorEq, ldx, stx, shl13, shl17, shr7, xorx]
  exact ⟨_, rfl, _, _, .weak weak_id, Nat.le_refl _, rfl, rfl⟩
end Go.AL.S
set_option maxRecDepth 100000
namespace Go.AL.S
open Go Go.AL Go.Proofs Go.Sort
variable {E : Env}
/-- The world while patterns are broken: the array at r, the drawn number at p. -/
def pb (W : AW) (r p : Nat) (d : Array Int) (x : UInt64) : AW := px (pv W r d) p x
theorem ldb {W : AW} {K : V → AW → Prop} {r p i : Nat} {d : Array Int} {x : UInt64} (hp : r ≠ p) (h : i < d.size) : sem E (.load false 1) [.vptr r i] (pb W r p d x) K = K (.int .u16 d[i]!) (pb W r p d x) :=
  sem_load_vec (s' := 1) (cells := cellsI d) (by simp [pb, px, pv, AW.put, hp]) (part_cellsI h)
theorem stb {W : AW} {K : V → AW → Prop} {r p i : Nat} {d : Array Int} {x : UInt64} {v : Int} (hp : r ≠ p) (h : i < d.size) : sem E (.store 1) [.vptr r i, .int .u16 v] (pb W r p d x) K = K .undef (pb W r p (d.setIfInBounds i v) x) := by
  have hg : (pb W r p d x).get r = some (.vec 1 (cellsI d)) := by simp [pb, px, pv, AW.put, hp]
  rw [sem_store_vec (s := 1) (x := .int .u16 v) hg rfl rfl (by rw [cellsI_len]; omega)]
  congr 1
  have e : (cellsI d).take i ++ (V.int .u16 v).cells ++ (cellsI d).drop (i + 1) = cellsI (d.setIfInBounds i v) := by
    have : (V.int .u16 v).cells = [V.int .u16 v] := rfl
    rw [this, show (cellsI d).take i ++ [V.int .u16 v] ++ (cellsI d).drop (i + 1) = (cellsI d).set i (V.int .u16 v) from by
      rw [List.set_eq_take_append_cons_drop, if_pos (by rw [cellsI_len]; exact h)]; simp]
    simp [cellsI, List.map_set]
  rw [e]
  simp only [pb, px, pv, AW.put, AW.mk.injEq, and_true]
  funext z
  by_cases h1 : z = r
  · subst h1; simp [hp]
  · by_cases h2 : z = p
    · subst h2; simp [h1]
    · simp [h1, h2]
def bsteps (a l m : Nat) : Nat → Nat → UInt64 × Array Int → UInt64 × Array Int
  | 0, _, st => st
  | k + 1, idx, st => bsteps a l m k (idx + 1) (breakStep a l m st idx)
theorem breakPatterns_eq (d : Array Int) (a b : Nat) (h : b - a ≥ 8) : breakPatterns d a b = (bsteps a (b - a) (1 <<< bitsLen (b - a)) 3 (a + (b - a) / 4 * 2 - 1) (UInt64.ofNat (b - a), d)).2 := by
  simp only [breakPatterns, h, ↓reduceIte, bsteps]
theorem usub1 {n : Nat} (h : 1 ≤ n) (h' : n < 2 ^ 64) : IntKind.u64.wrap ((n : Int) - 1) = ((n - 1 : Nat) : Int) := by
  rw [← un (show n - 1 < 2 ^ 64 by omega)]; congr 1; omega
theorem andx {W : AW} {K : V → AW → Prop} {x : UInt64} {m : Nat} (hm : m < 2 ^ 64) : sem E (.bin .and) [.int .u64 (x.toNat : Int), .int .u64 (m : Int)] W K = K (.int .u64 ((x.toNat &&& m : Nat) : Int)) W := by
  have h1 : binI .and .u64 x.toNat m = some (.int .u64 ((x.toNat &&& m : Nat) : Int)) := by
    show (bitI .and .u64 x.toNat m).map (V.int .u64) = _
    have : bitI .and .u64 x.toNat m = some ((x.toNat &&& m : Nat) : Int) := by
      show some (IntKind.u64.wrap ((BitVec.ofInt 64 (x.toNat : Int) &&& BitVec.ofInt 64 (m : Int)).toNat : Int)) = _
      rw [BitVec.toNat_and, BitVec.toNat_ofInt, BitVec.toNat_ofInt]
      have e1 : ((x.toNat : Int) % ((2 ^ 64 : Nat) : Int)).toNat = x.toNat := by have := x.toNat_lt; omega
      have e2 : ((m : Int) % ((2 ^ 64 : Nat) : Int)).toNat = m := by omega
      rw [e1, e2, un (Nat.lt_of_le_of_lt Nat.and_le_right hm)]
    rw [this]; rfl
  simp only [sem, rsem, tsem, ↓reduceIte, h1]
theorem ofNat_u64 {n : Nat} (h : n < 2 ^ 64) : (UInt64.ofNat n).toNat = n := by simp; omega

theorem bel_ints (n : Nat) (l : List Int) : V.belL n (l.map (V.int .u16)) = true := by
  induction l with
  | nil => rfl
  | cons x l ih => simp [V.belL, V.bel, ih]
theorem pv_ok {W : AW} {r : Nat} {d d' : Array Int} (h : (pv W r d).ok) (hr : r < W.nx) : (pv W r d').ok := by
  intro x o hx
  by_cases e : x = r
  · subst e
    rw [pv_get] at hx
    cases hx
    refine ⟨hr, ?_⟩
    exact bel_ints _ _
  · have : (pv W r d).get x = some o := by
      simp only [pv, AW.put, e, ↓reduceIte] at hx ⊢
      exact hx
    exact h x o this
theorem breakPatterns_c (hP : E.P = Tryz.prog) (W : AW) (r n a b : Nat) (d : Array Int) (hn : d.size = n) (hr : r < W.nx) (hab : a < b) (hb : b ≤ n) (hl : 8 ≤ b - a) (hsm : n < 4294967296) :
    ACalls E 155 [.slr r 0 n 1, .int .i64 a, .int .i64 b] (pv W r d) fun X W' => X = .tuple [] ∧ W' = pv W r (breakPatterns d a b) := by
  refine ACalls.of hP Tryz.func155 ok83e (by simp) fun _ hok => ?_
  rw [breakPatterns_eq d a b hl]
  obtain ⟨l, hl'⟩ : ∃ l, l = b - a := ⟨_, rfl⟩
  rw [← hl']
  have hg8 : l ≥ 8 := by omega
  have hlm := lt_two_pow_bitsLen l
  have hlm2 := two_pow_bitsLen_le (n := l) (by omega)
  obtain ⟨m, hm⟩ : ∃ m, m = 1 <<< bitsLen l := ⟨_, rfl⟩
  have hm' : m = 2 ^ bitsLen l := by rw [hm, Nat.shiftLeft_eq, Nat.one_mul]
  rw [← hm'] at hlm hlm2
  rw [← hm]
  obtain ⟨W1, hW1⟩ : ∃ W1, W1 = W.alloc (.row [.int .u64 0]) := ⟨_, rfl⟩
  have hp : r ≠ W.nx := by omega
  have hA0 : (pv W r d).alloc (.row [.int .u64 0]) = px (pv W1 r d) W.nx 0 := by
    rw [hW1]
    simp only [px, pv, AW.alloc, AW.put, AW.mk.injEq, and_true]
    funext x
    by_cases h : x = W.nx
    · subst h; simp
    · by_cases h2 : x = r <;> simp [h, h2]
  have hst : ∀ K : V → AW → Prop, sem E (.store 1) [.ptr W.nx 0, .int .u64 (l : Int)] (px (pv W1 r d) W.nx 0) K = K .undef (pb W1 r W.nx d (UInt64.ofNat l)) := by
    intro K
    have := stx (E := E) (K := K) (A := pv W1 r d) (p := W.nx) (x := 0) (y := UInt64.ofNat l)
    rwa [ofNat_u64 (by omega)] at this
  have hback : ∀ d' x z, z < (pv W r d').nx → (pb W1 r W.nx d' x).get z = (pv W r d').get z := by
    intro d' x z hz
    rw [pv_nx] at hz
    rw [hW1]
    have h1 : z ≠ W.nx := by omega
    by_cases h2 : z = r <;> simp [pb, px, pv, AW.alloc, AW.put, h1, h2, hp]
  simp (maxSteps := 2000000) (disch := omega) only [c83, BS, BC, e_seq, cond_if, ↓reduceIte, Nat.reduceEqDiff, wsub, ← hl', cge8, hg8, decide_true, un, pv_nx, hA0, hst]
  refine (nextPow_c hP _ l (by omega)).mono ?_
  rintro X W' ⟨rfl, rfl⟩
  rw [← hm]
  obtain ⟨i0, hi0⟩ : ∃ i0, i0 = a + l / 4 * 2 - 1 := ⟨_, rfl⟩
  simp (maxSteps := 2000000) (disch := omega) only [BS, BC, e_seq, ↓reduceIte, Nat.reduceEqDiff, quo4, wmulr2, wadd, wsub1, ← hi0]
  rw [e_loop]
  refine ALoop.go (B := awp E _) (fun h => awp_mono _ h) (fun (s : Nat × UInt64 × Array Int) A1 W2 => A1 0 = some (.slr r 0 n 1) ∧ A1 1 = some (.int .i64 a) ∧ A1 6 = some (.int .i64 l) ∧ A1 7 = some (.ptr W.nx 0) ∧ A1 8 = some (.int .u64 m) ∧ A1 9 = some (.int .i64 ((i0 + s.1 : Nat) : Int)) ∧
    W2 = pb W1 r W.nx s.2.2 s.2.1 ∧ s.1 ≤ 3 ∧ s.2.2.size = n ∧ bsteps a l m (3 - s.1) (i0 + s.1) s.2 = bsteps a l m 3 i0 (UInt64.ofNat l, d)) (fun s => 3 - s.1) (0, UInt64.ofNat l, d)
    ⟨rfl, rfl, rfl, rfl, rfl, rfl, rfl, by simp, hn, rfl⟩ ?_
  rintro ⟨t, x, d1⟩ A1 W2 ⟨g0, g1, g6, g7, g8, g9, rfl, gt, gs, gb⟩ _
  simp only at g9 gt gs gb
  by_cases ht : t < 3
  · have hc : i0 + t ≤ a + l / 4 * 2 + 1 := by omega
    rw [show 3 - t = (3 - (t + 1)) + 1 by omega, bsteps] at gb
    simp (maxSteps := 2000000) (disch := omega) only [BS, BC, e_seq, cond_if, ↓reduceIte, Nat.reduceEqDiff, g1, g6, g7, g9, quo4, wmulr2, wadd, wadd1, cle, hc, decide_true]
    refine (next_c hP _ _ x).mono ?_
    rintro X W' ⟨rfl, rfl⟩
    obtain ⟨x', hx'⟩ : ∃ x', x' = xorNext x := ⟨_, rfl⟩
    obtain ⟨o, ho⟩ : ∃ o, o = x'.toNat &&& (m - 1) := ⟨_, rfl⟩
    have hol : o ≤ m - 1 := by rw [ho]; exact Nat.and_le_right
    rw [← hx']
    have hbs : breakStep a l m (x, d1) (i0 + t) = (x', swp d1 (i0 + t) (a + (if o ≥ l then o - l else o))) := by
      simp only [breakStep, ← hx', ← ho]
    rw [hbs] at gb
    have hpb : ∀ (d : Array Int) (y : UInt64), px (pv W1 r d) W.nx y = pb W1 r W.nx d y := fun _ _ => rfl
    by_cases h1 : o ≥ l
    · rw [if_pos h1] at gb
      simp (disch := (try simp only [sz_set]) <;> omega) only [BS, e_seq, cond_if, ↓reduceIte, Nat.reduceEqDiff, reduceCtorEq, g0, g1, g6, g7, g8, g9, usub1, andx, ← ho, wn, cge, h1, decide_true, wsub, wadd, wadd1, ix, hpb, ldb, stb, sw]
      exact ⟨(t + 1, x', swp d1 (i0 + t) (a + (o - l))), ⟨trivial, trivial, trivial, trivial, trivial, rfl, rfl, by simp; omega, by simp [swp, gs], gb⟩, by simp; omega, Nat.le_refl _⟩
    · rw [if_neg h1] at gb
      simp (disch := (try simp only [sz_set]) <;> omega) only [BS, BC, e_seq, cond_if, ↓reduceIte, Nat.reduceEqDiff, reduceCtorEq, g0, g1, g6, g7, g8, g9, usub1, andx, ← ho, wn, cge, h1, decide_false, wadd, wadd1, ix, hpb, ldb, stb, sw]
      exact ⟨(t + 1, x', swp d1 (i0 + t) (a + o)), ⟨trivial, trivial, trivial, trivial, trivial, rfl, rfl, by simp; omega, by simp [swp, gs], gb⟩, by simp; omega, Nat.le_refl _⟩
  · have hc : ¬ i0 + t ≤ a + l / 4 * 2 + 1 := by omega
    have h3 : 3 - t = 0 := by omega
    rw [h3, bsteps] at gb
    simp (maxSteps := 2000000) (disch := omega) only [BS, BC, e_seq, cond_if, ↓reduceIte, Nat.reduceEqDiff, g1, g6, g9, quo4, wmulr2, wadd, wadd1, cle, hc, decide_false]
    exact ⟨_, rfl, _, _, .weak (weak_back (W := pv W r d1) (pv_ok hok hr) rfl (hback _ _)), Nat.le_refl _, rfl, by rw [← gb]⟩
end Go.AL.S
set_option maxRecDepth 100000
namespace Go.AL.S
open Go Go.AL Go.Proofs Go.Sort
/- slices.pdqsortOrdered[uint16] -/
def c54 : AC := (AC.seq (AC.reg [⟨some 8, .mov, [.c (.bool true)], none⟩]) (AC.seq (AC.reg [⟨some 9, .mov, [.c (.bool true)], none⟩]) (AC.block 0 (AC.loop (AC.block 1 (AC.seq (AC.reg [⟨some 19, .mov, [.t 2], none⟩,⟨some 20, .mov, [.t 1], none⟩,⟨some 21, .bin .sub, [.t 19, .t 20], none⟩,⟨some 10, .mov, [.t 21], none⟩]) (AC.seq (AC.seq (AC.reg [⟨some 22, .mov, [.t 10], none⟩,⟨some 23, .bin .leq, [.t 22, .c (.int .i64 12)], none⟩]) (AC.cond (.t 23) (AC.seq (AC.reg [⟨some 24, .mov, [.t 0], none⟩,⟨some 25, .mov, [.t 1], none⟩,⟨some 26, .mov, [.t 2], none⟩,⟨some 27, .call 153, [.t 24, .t 25, .t 26], none⟩]) AC.ret) AC.skip)) (AC.seq (AC.seq (AC.reg [⟨some 28, .mov, [.t 3], none⟩,⟨some 29, .bin .eql, [.t 28, .c (.int .i64 0)], none⟩]) (AC.cond (.t 29) (AC.seq (AC.reg [⟨some 30, .mov, [.t 0], none⟩,⟨some 31, .mov, [.t 1], none⟩,⟨some 32, .mov, [.t 2], none⟩,⟨some 33, .call 154, [.t 30, .t 31, .t 32], none⟩]) AC.ret) AC.skip)) (AC.seq (AC.seq (AC.reg [⟨some 34, .mov, [.t 8], none⟩,⟨some 35, .un .not, [.t 34], none⟩]) (AC.cond (.t 35) (AC.seq (AC.reg [⟨some 36, .mov, [.t 0], none⟩,⟨some 37, .mov, [.t 1], none⟩,⟨some 38, .mov, [.t 2], none⟩,⟨some 39, .call 155, [.t 36, .t 37, .t 38], none⟩]) (AC.reg [⟨some 40, .mov, [.t 3], none⟩,⟨some 41, .bin .sub, [.t 40, .c (.int .i64 1)], none⟩,⟨some 3, .mov, [.t 41], none⟩])) AC.skip)) (AC.seq (AC.reg [⟨some 43, .mov, [.t 0], none⟩,⟨some 44, .mov, [.t 1], none⟩,⟨some 45, .mov, [.t 2], none⟩,⟨some 46, .call 156, [.t 43, .t 44, .t 45], none⟩,⟨some 42, .mov, [.t 46], none⟩,⟨some 47, .ext 0, [.t 42], none⟩,⟨some 48, .ext 1, [.t 42], none⟩,⟨some 11, .mov, [.t 47], none⟩,⟨some 12, .mov, [.t 48], none⟩]) (AC.seq (AC.seq (AC.reg [⟨some 49, .mov, [.t 12], none⟩,⟨some 50, .bin .eql, [.t 49, .c (.int .i64 2)], none⟩]) (AC.cond (.t 50) (AC.seq (AC.reg [⟨some 51, .mov, [.t 0], none⟩,⟨some 52, .mov, [.t 1], none⟩,⟨some 53, .mov, [.t 2], none⟩,⟨some 54, .call 157, [.t 51, .t 52, .t 53], none⟩]) (AC.seq (AC.reg [⟨some 55, .mov, [.t 2], none⟩,⟨some 56, .bin .sub, [.t 55, .c (.int .i64 1)], none⟩,⟨some 57, .mov, [.t 11], none⟩,⟨some 58, .mov, [.t 1], none⟩,⟨some 59, .bin .sub, [.t 57, .t 58], none⟩,⟨some 60, .bin .sub, [.t 56, .t 59], none⟩,⟨some 11, .mov, [.t 60], none⟩]) (AC.reg [⟨some 12, .mov, [.c (.int .i64 1)], none⟩]))) AC.skip)) (AC.seq (AC.seq (AC.reg [⟨some 61, .mov, [.t 8], none⟩,⟨some 62, .mov, [.t 61], none⟩,⟨some 63, .mov, [.t 9], (some (62, true))⟩,⟨some 64, .pick, [.t 62, .t 63, .c (.bool false)], none⟩,⟨some 65, .mov, [.t 64], none⟩,⟨some 66, .mov, [.t 12], (some (65, true))⟩,⟨some 67, .bin .eql, [.t 66, .c (.int .i64 1)], (some (65, true))⟩,⟨some 68, .pick, [.t 65, .t 67, .c (.bool false)], none⟩]) (AC.cond (.t 68) (AC.seq (AC.reg [⟨some 69, .mov, [.t 0], none⟩,⟨some 70, .mov, [.t 1], none⟩,⟨some 71, .mov, [.t 2], none⟩,⟨some 72, .call 158, [.t 69, .t 70, .t 71], none⟩]) (AC.cond (.t 72) AC.ret AC.skip)) AC.skip)) (AC.seq (AC.seq (AC.par (PT.step 0 ⟨some 73, .mov, [.t 1], none⟩ (PT.step 1 ⟨some 74, .bin .gtr, [.t 73, .c (.int .i64 0)], none⟩ (PT.step 2 ⟨some 75, .mov, [.t 74], none⟩ (PT.step 3 ⟨some 76, .mov, [.t 0], (some (75, true))⟩ (PT.step 4 ⟨some 77, .mov, [.t 1], (some (75, true))⟩ (PT.step 5 ⟨some 78, .bin .sub, [.t 77, .c (.int .i64 1)], (some (75, true))⟩ (PT.step 8 ⟨some 81, .mov, [.t 0], (some (75, true))⟩ (PT.step 9 ⟨some 82, .mov, [.t 11], (some (75, true))⟩ (PT.step 6 ⟨some 79, .idxp 1, [.t 76, .t 78], (some (75, true))⟩ (PT.step 7 ⟨some 80, .load false 1, [.t 79], (some (75, true))⟩ (PT.step 10 ⟨some 83, .idxp 1, [.t 81, .t 82], (some (75, true))⟩ (PT.step 11 ⟨some 84, .load false 1, [.t 83], (some (75, true))⟩ (PT.step 12 ⟨some 85, .call 96, [.t 80, .t 84], (some (75, true))⟩ (PT.step 13 ⟨some 86, .un .not, [.t 85], (some (75, true))⟩ (PT.step 14 ⟨some 87, .pick, [.t 75, .t 86, .c (.bool false)], none⟩ PT.done)))))))))))))))) (AC.cond (.t 87) (AC.seq (AC.reg [⟨some 88, .mov, [.t 0], none⟩,⟨some 89, .mov, [.t 1], none⟩,⟨some 90, .mov, [.t 2], none⟩,⟨some 91, .mov, [.t 11], none⟩,⟨some 92, .call 159, [.t 88, .t 89, .t 90, .t 91], none⟩,⟨some 13, .mov, [.t 92], none⟩]) (AC.seq (AC.reg [⟨some 93, .mov, [.t 13], none⟩,⟨some 1, .mov, [.t 93], none⟩]) (AC.exit 1))) AC.skip)) (AC.seq (AC.reg [⟨some 95, .mov, [.t 0], none⟩,⟨some 96, .mov, [.t 1], none⟩,⟨some 97, .mov, [.t 2], none⟩,⟨some 98, .mov, [.t 11], none⟩,⟨some 99, .call 160, [.t 95, .t 96, .t 97, .t 98], none⟩,⟨some 94, .mov, [.t 99], none⟩,⟨some 100, .ext 0, [.t 94], none⟩,⟨some 101, .ext 1, [.t 94], none⟩,⟨some 14, .mov, [.t 100], none⟩,⟨some 15, .mov, [.t 101], none⟩]) (AC.seq (AC.reg [⟨some 102, .mov, [.t 15], none⟩,⟨some 9, .mov, [.t 102], none⟩]) (AC.seq (AC.reg [⟨some 103, .mov, [.t 14], none⟩,⟨some 104, .mov, [.t 1], none⟩,⟨some 105, .bin .sub, [.t 103, .t 104], none⟩,⟨some 106, .mov, [.t 2], none⟩,⟨some 107, .mov, [.t 14], none⟩,⟨some 108, .bin .sub, [.t 106, .t 107], none⟩,⟨some 16, .mov, [.t 105], none⟩,⟨some 17, .mov, [.t 108], none⟩]) (AC.seq (AC.reg [⟨some 109, .mov, [.t 10], none⟩,⟨some 110, .bin .quo, [.t 109, .c (.int .i64 8)], none⟩,⟨some 18, .mov, [.t 110], none⟩]) (AC.seq (AC.reg [⟨some 111, .mov, [.t 16], none⟩,⟨some 112, .mov, [.t 17], none⟩,⟨some 113, .bin .lss, [.t 111, .t 112], none⟩]) (AC.cond (.t 113) (AC.seq (AC.reg [⟨some 114, .mov, [.t 16], none⟩,⟨some 115, .mov, [.t 18], none⟩,⟨some 116, .bin .geq, [.t 114, .t 115], none⟩,⟨some 8, .mov, [.t 116], none⟩]) (AC.seq (AC.reg [⟨some 117, .mov, [.t 0], none⟩,⟨some 118, .mov, [.t 1], none⟩,⟨some 119, .mov, [.t 14], none⟩,⟨some 120, .mov, [.t 3], none⟩,⟨some 121, .call 121, [.t 117, .t 118, .t 119, .t 120], none⟩]) (AC.reg [⟨some 122, .mov, [.t 14], none⟩,⟨some 123, .bin .add, [.t 122, .c (.int .i64 1)], none⟩,⟨some 1, .mov, [.t 123], none⟩]))) (AC.seq (AC.reg [⟨some 124, .mov, [.t 17], none⟩,⟨some 125, .mov, [.t 18], none⟩,⟨some 126, .bin .geq, [.t 124, .t 125], none⟩,⟨some 8, .mov, [.t 126], none⟩]) (AC.seq (AC.reg [⟨some 127, .mov, [.t 0], none⟩,⟨some 128, .mov, [.t 14], none⟩,⟨some 129, .bin .add, [.t 128, .c (.int .i64 1)], none⟩,⟨some 130, .mov, [.t 2], none⟩,⟨some 131, .mov, [.t 3], none⟩,⟨some 132, .call 121, [.t 127, .t 129, .t 130, .t 131], none⟩]) (AC.reg [⟨some 133, .mov, [.t 14], none⟩,⟨some 2, .mov, [.t 133], none⟩]))))))))))))))))))))))
def r54 : AC × List RT × Nat := (c54, [], 134)
theorem ok54e : compF Tryz.prog Tryz.f121 ⟨true, false, []⟩ = some r54 := by kernel_rfl
variable {E : Env}
theorem cutS {x y : AC} {Q : Exit → AFr → AW → Prop} {A : AFr} {W : AW} (R : AFr → AW → Prop) (h1 : awp E x (thenQ R Q) A W) (h2 : ∀ A' W', R A' W' → awp E y Q A' W') : awp E (.seq x y) Q A W := by
  rw [e_seq]
  refine awp_mono _ ?_ h1
  intro e A' W' h
  cases e with
  | normal => exact h2 _ _ h
  | _ => exact h
theorem partialIns_size (a b : Nat) : ∀ (s i : Nat) (d : Array Int), (partialIns ltInt a b s i d).1.size = d.size
  | 0, i, d => rfl
  | s + 1, i, d => by
    rw [partialIns_succ]
    split
    · rfl
    split
    · rfl
    rw [partialIns_size]
    unfold fixUp
    split
    · rw [shiftUp_size _ _ _ _ _ (Nat.le_refl _)]
      unfold fixDown
      split
      · rw [shiftDown_size]; simp [swp]
      · simp [swp]
    · unfold fixDown
      split
      · rw [shiftDown_size]; simp [swp]
      · simp [swp]
def pdqF (A : AFr) (r n a b lim : Nat) (wb wp : Bool) : Prop := A 0 = some (.slr r 0 n 1) ∧ A 1 = some (.int .i64 a) ∧ A 2 = some (.int .i64 b) ∧ A 3 = some (.int .i64 lim) ∧ A 8 = some (.bool wb) ∧ A 9 = some (.bool wp) ∧ A 10 = some (.int .i64 ((b - a : Nat) : Int))
theorem cle12 {a : Nat} : decide ((a : Int) ≤ 12) = decide (a ≤ 12) := by simp; omega
theorem hintEq (h : Hint) : (hintN h == 2) = decide (h = .decreasing) := by cases h <;> rfl
theorem hintEq1 (h : Hint) : (hintN h == 1) = decide (h = .increasing) := by cases h <;> rfl

theorem pdq_size : ∀ (m : Nat) (d : Array Int) (a b limit : Nat) (wb wp : Bool), b - a < m → a ≤ b → b ≤ d.size → (pdq ltInt d a b limit wb wp).size = d.size := by
  intro m
  induction m with
  | zero => intro d a b limit wb wp h; omega
  | succ m ih =>
  intro d a b limit wb wp hm hab hb
  rw [pdq]
  by_cases h12 : b - a ≤ 12
  · rw [if_pos h12]; exact (insertionSort_holds swo_ltInt d a b hab hb).1.1
  rw [if_neg h12]
  by_cases h0 : limit = 0
  · rw [if_pos h0]; exact (heapSort_holds swo_ltInt d a b hab hb).1.1
  rw [if_neg h0]
  obtain ⟨d2, hd2⟩ : ∃ d2, d2 = (if !wb then breakPatterns d a b else d) := ⟨_, rfl⟩
  obtain ⟨l2, hl2⟩ : ∃ l2, l2 = (if !wb then limit - 1 else limit) := ⟨_, rfl⟩
  simp only [← hd2, ← hl2]
  have gs2 : d2.size = d.size := by
    rw [hd2]; split
    · exact (breakPatterns_holds d a b hab hb).1
    · rfl
  obtain ⟨c, hc⟩ : ∃ c, c = choosePivot ltInt d2 a b := ⟨_, rfl⟩
  have hcr := choosePivot_holds ltInt d2 a b (by omega)
  rw [← hc] at hcr
  simp only [← hc]
  obtain ⟨d3, hd3⟩ : ∃ d3, d3 = (if c.2 = .decreasing then reverseRange d2 a b else d2) := ⟨_, rfl⟩
  obtain ⟨pv0, hpv0⟩ : ∃ pv0, pv0 = (if c.2 = .decreasing then (b - 1) - (c.1 - a) else c.1) := ⟨_, rfl⟩
  obtain ⟨hint, hhint⟩ : ∃ hint, hint = (if c.2 = .decreasing then Hint.increasing else c.2) := ⟨_, rfl⟩
  simp only [← hd3, ← hpv0, ← hhint]
  have gs3 : d3.size = d.size := by
    rw [hd3]; split
    · rw [(reverseRange_holds d2 a b hab (by omega)).1, gs2]
    · exact gs2
  have gpv : a ≤ pv0 ∧ pv0 < b := by rw [hpv0]; split <;> omega
  obtain ⟨pi, hpi⟩ : ∃ pi, pi = (if wb && wp && hint = .increasing then partialInsertionSort ltInt d3 a b else (d3, false)) := ⟨_, rfl⟩
  simp only [← hpi]
  have gs4 : pi.1.size = d.size := by
    rw [hpi]; split
    · rw [partialInsertionSort, partialIns_size, gs3]
    · exact gs3
  split
  · exact gs4
  split
  · obtain ⟨pe, hpe'⟩ : ∃ pe, pe = partitionEqual ltInt pi.1 a b pv0 := ⟨_, rfl⟩
    have hsp := partEqLoop_spec ltInt a b _ (a + 1) (b - 1) (swp pi.1 a pv0) (Nat.le_refl _) (Nat.lt_succ_self a) (by omega) (by omega) (by rw [size_swp]; omega) (fun t h1 h2 => by omega) (fun t h1 h2 => by omega)
    have hpe : partitionEqual ltInt pi.1 a b pv0 = partEqLoop ltInt a (a + 1) (b - 1) (swp pi.1 a pv0) := rfl
    rw [← hpe, ← hpe'] at hsp
    simp only [← hpe']
    have hss : pe.2.size = d.size := by rw [hsp.2.2.1.1, size_swp, gs4]
    rw [dif_pos ⟨hsp.1, hsp.2.1⟩, ih _ _ _ _ _ _ (by omega) hsp.2.1 (by omega), hss]
  · have hsp := partition_holds ltInt swo_ltInt pi.1 a b pv0 gpv.1 gpv.2 (by omega)
    obtain ⟨pt, hpt⟩ : ∃ pt, pt = partition ltInt pi.1 a b pv0 := ⟨_, rfl⟩
    rw [← hpt] at hsp
    simp only [← hpt]
    rw [dif_pos ⟨hsp.1, hsp.2.1⟩]
    have hss : pt.2.2.size = d.size := by rw [hsp.2.2.1.1, gs4]
    obtain ⟨t1, t2, t3, _⟩ := hsp
    split
    · have e := ih pt.2.2 a pt.1 l2 true true (by omega) t1 (by omega)
      exact (ih _ _ _ _ _ _ (by omega) (by omega) (by rw [e, hss]; exact hb)).trans (e.trans hss)
    · have e := ih pt.2.2 (pt.1 + 1) b l2 true true (by omega) (by omega) (by omega)
      exact (ih _ _ _ _ _ _ (by omega) t1 (by rw [e, hss]; omega)).trans (e.trans hss)
theorem pdq_c (hP : E.P = Tryz.prog) (n : Nat) (hsm : n < 4294967296) : ∀ (m : Nat) (W : AW) (r a b lim : Nat) (d : Array Int), b - a < m → d.size = n → r < W.nx → a ≤ b → b ≤ n → lim < 1000 →
    ACalls E 121 [.slr r 0 n 1, .int .i64 a, .int .i64 b, .int .i64 lim] (pv W r d) fun X W' => X = .tuple [] ∧ W' = pv W r (pdq ltInt d a b lim true true) := by
  intro m
  induction m with
  | zero => intro W r a b lim d h; omega
  | succ m ih =>
  intro W r a b lim d hm hn hr hab hb hlim
  refine ACalls.of hP Tryz.func121 ok54e (by simp) fun _ hok => ?_
  simp (maxSteps := 2000000) (disch := omega) only [c54, BS, e_seq, e_loop]
  refine ALoop.go (B := awp E _) (fun h => awp_mono _ h) (fun (s : Nat × Nat × Nat × Bool × Bool × Array Int) A1 W1 => A1 0 = some (.slr r 0 n 1) ∧ A1 1 = some (.int .i64 s.1) ∧ A1 2 = some (.int .i64 s.2.1) ∧ A1 3 = some (.int .i64 s.2.2.1) ∧ A1 8 = some (.bool s.2.2.2.1) ∧ A1 9 = some (.bool s.2.2.2.2.1) ∧
    W1 = pv W r s.2.2.2.2.2 ∧ s.1 ≤ s.2.1 ∧ s.2.1 ≤ n ∧ s.2.1 - s.1 ≤ b - a ∧ s.2.2.1 < 1000 ∧ s.2.2.2.2.2.size = n ∧ pdq ltInt s.2.2.2.2.2 s.1 s.2.1 s.2.2.1 s.2.2.2.1 s.2.2.2.2.1 = pdq ltInt d a b lim true true) (fun s => s.2.1 - s.1) (a, b, lim, true, true, d)
    ⟨rfl, rfl, rfl, rfl, rfl, rfl, rfl, hab, hb, Nat.le_refl _, hlim, hn, rfl⟩ ?_
  rintro ⟨a1, b1, l1, wb, wp, d1⟩ A1 W1 ⟨g0, g1, g2, g3, g8, g9, rfl, gab, gb, gm, gl, gs, gt⟩ _
  simp only at g1 g2 g3 g8 g9 gab gb gm gl gs gt
  rw [e_block]
  refine cutS (fun A' W' => pdqF A' r n a1 b1 l1 wb wp ∧ W' = pv W r d1) ?_ ?_
  · simp (maxSteps := 2000000) (disch := omega) only [BS, ↓reduceIte, Nat.reduceEqDiff, g1, g2, wsub]
    exact ⟨⟨g0, g1, g2, g3, g8, g9, rfl⟩, trivial⟩
  rintro A2 W2 ⟨⟨q0, q1, q2, q3, q8, q9, q10⟩, rfl⟩
  refine cutS (fun A' W' => (pdqF A' r n a1 b1 l1 wb wp ∧ W' = pv W r d1) ∧ ¬ b1 - a1 ≤ 12) ?_ ?_
  · by_cases h : b1 - a1 ≤ 12
    · rw [pdq, if_pos h] at gt
      simp (maxSteps := 2000000) (disch := omega) only [BS, BC, e_seq, cond_if, ↓reduceIte, Nat.reduceEqDiff, reduceCtorEq, q0, q1, q2, q10, cle12, h, decide_true]
      refine (insertion_c hP W r n a1 b1 d1 gs gb (by omega) (by omega)).mono ?_
      rintro X W' ⟨rfl, rfl⟩
      simp only [BS]
      exact ⟨_, rfl, _, _, .weak weak_id, Nat.le_refl _, rfl, by rw [gt]⟩
    · simp (maxSteps := 2000000) (disch := omega) only [BS, BC, e_seq, cond_if, ↓reduceIte, q10, cle12, h, decide_false]
      exact ⟨⟨⟨q0, q1, q2, q3, q8, q9, q10⟩, trivial⟩, not_false⟩
  rintro A3 W3 ⟨⟨⟨q0, q1, q2, q3, q8, q9, q10⟩, rfl⟩, h12⟩
  rw [pdq, if_neg h12] at gt
  refine cutS (fun A' W' => (pdqF A' r n a1 b1 l1 wb wp ∧ W' = pv W r d1) ∧ ¬ l1 = 0) ?_ ?_
  · by_cases h : l1 = 0
    · rw [if_pos h] at gt
      simp (maxSteps := 2000000) (disch := omega) only [BS, BC, e_seq, cond_if, ↓reduceIte, Nat.reduceEqDiff, reduceCtorEq, q0, q1, q2, q3, eq0, h, decide_true]
      refine (heapSort_c hP W r n a1 b1 d1 gs (by omega) gb (by omega)).mono ?_
      rintro X W' ⟨rfl, rfl⟩
      simp only [BS]
      exact ⟨_, rfl, _, _, .weak weak_id, Nat.le_refl _, rfl, by rw [gt]⟩
    · simp (maxSteps := 2000000) (disch := omega) only [BS, BC, e_seq, cond_if, ↓reduceIte, q3, eq0, h, decide_false]
      exact ⟨⟨⟨q0, q1, q2, q3, q8, q9, q10⟩, trivial⟩, not_false⟩
  rintro A4 W4 ⟨⟨⟨q0, q1, q2, q3, q8, q9, q10⟩, rfl⟩, hl0⟩
  rw [if_neg hl0] at gt
  obtain ⟨d2, hd2⟩ : ∃ d2, d2 = (if !wb then breakPatterns d1 a1 b1 else d1) := ⟨_, rfl⟩
  obtain ⟨l2, hl2⟩ : ∃ l2, l2 = (if !wb then l1 - 1 else l1) := ⟨_, rfl⟩
  have gs2 : d2.size = n := by
    rw [hd2]; split
    · rw [(breakPatterns_holds d1 a1 b1 gab (by omega)).1, gs]
    · exact gs
  have gl2 : l2 < 1000 := by rw [hl2]; split <;> omega
  refine cutS (fun A' W' => pdqF A' r n a1 b1 l2 wb wp ∧ W' = pv W r d2) ?_ ?_
  · cases wb
    · simp only [Bool.not_false, ↓reduceIte] at hd2 hl2
      simp (maxSteps := 2000000) (disch := omega) only [BS, BC, e_seq, cond_if, ↓reduceIte, Nat.reduceEqDiff, reduceCtorEq, q0, q1, q2, q8, Bool.not_false]
      refine (breakPatterns_c hP W r n a1 b1 d1 gs hr (by omega) gb (by omega) (by omega)).mono ?_
      rintro X W' ⟨rfl, rfl⟩
      simp (maxSteps := 2000000) (disch := omega) only [BS, ↓reduceIte, Nat.reduceEqDiff, q3, wsub1, ← hd2, ← hl2]
      exact ⟨⟨q0, q1, q2, rfl, q8, q9, q10⟩, trivial⟩
    · simp only [Bool.not_true, Bool.false_eq_true, ↓reduceIte] at hd2 hl2
      simp (maxSteps := 2000000) (disch := omega) only [BS, BC, e_seq, cond_if, ↓reduceIte, q8, Bool.not_true]
      rw [hd2, hl2]
      exact ⟨⟨q0, q1, q2, q3, q8, q9, q10⟩, rfl⟩
  rintro A5 W5 ⟨⟨q0, q1, q2, q3, q8, q9, q10⟩, rfl⟩
  simp only [← hd2, ← hl2] at gt
  obtain ⟨c, hc⟩ : ∃ c, c = choosePivot ltInt d2 a1 b1 := ⟨_, rfl⟩
  have hcr := choosePivot_holds ltInt d2 a1 b1 (by omega)
  rw [← hc] at hcr
  simp only [← hc] at gt
  refine cutS (fun A' W' => (pdqF A' r n a1 b1 l2 wb wp ∧ A' 11 = some (.int .i64 c.1) ∧ A' 12 = some (.int .i64 (hintN c.2))) ∧ W' = pv W r d2) ?_ ?_
  · simp only [BS, BC, ↓reduceIte, Nat.reduceEqDiff, q0, q1, q2]
    refine (choosePivot_c hP W r n a1 b1 d2 gs2 hr (by omega) gb (by omega) (by omega)).mono ?_
    rintro X W' ⟨rfl, rfl⟩
    rw [← hc]
    simp (maxSteps := 2000000) (disch := omega) only [BS, ↓reduceIte, Nat.reduceEqDiff]
    exact ⟨⟨⟨q0, q1, q2, q3, q8, q9, q10⟩, trivial, trivial⟩, trivial⟩
  rintro A6 W6 ⟨⟨⟨q0, q1, q2, q3, q8, q9, q10⟩, q11, q12⟩, rfl⟩
  obtain ⟨d3, hd3⟩ : ∃ d3, d3 = (if c.2 = .decreasing then reverseRange d2 a1 b1 else d2) := ⟨_, rfl⟩
  obtain ⟨pv0, hpv0⟩ : ∃ pv0, pv0 = (if c.2 = .decreasing then (b1 - 1) - (c.1 - a1) else c.1) := ⟨_, rfl⟩
  obtain ⟨hint, hhint⟩ : ∃ hint, hint = (if c.2 = .decreasing then Hint.increasing else c.2) := ⟨_, rfl⟩
  simp only [← hd3, ← hpv0, ← hhint] at gt
  have gs3 : d3.size = n := by
    rw [hd3]; split
    · rw [(reverseRange_holds d2 a1 b1 gab (by omega)).1, gs2]
    · exact gs2
  have gpv : a1 ≤ pv0 ∧ pv0 < b1 := by rw [hpv0]; split <;> omega
  have hint2 : hint ≠ .decreasing := by rw [hhint]; split <;> simp_all
  refine cutS (fun A' W' => (pdqF A' r n a1 b1 l2 wb wp ∧ A' 11 = some (.int .i64 pv0) ∧ A' 12 = some (.int .i64 (hintN hint))) ∧ W' = pv W r d3) ?_ ?_
  · by_cases h : c.2 = .decreasing
    · simp only [h, ↓reduceIte] at hd3 hpv0 hhint
      simp (maxSteps := 2000000) (disch := omega) only [BS, BC, e_seq, cond_if, ↓reduceIte, Nat.reduceEqDiff, reduceCtorEq, q0, q1, q2, q12, hintEq, h, decide_true]
      refine (reverseRange_c hP W r n a1 b1 d2 gs2 gb (by omega) (by omega)).mono ?_
      rintro X W' ⟨rfl, rfl⟩
      simp (maxSteps := 2000000) (disch := omega) only [BS, e_seq, ↓reduceIte, Nat.reduceEqDiff, q1, q2, q11, wsub, wsub1, ← hpv0, ← hd3]
      exact ⟨⟨⟨q0, q1, q2, q3, q8, q9, q10⟩, trivial, by rw [hhint]; rfl⟩, trivial⟩
    · simp only [h, ↓reduceIte] at hd3 hpv0 hhint
      simp (maxSteps := 2000000) (disch := omega) only [BS, BC, e_seq, cond_if, ↓reduceIte, Nat.reduceEqDiff, q12, hintEq, h, decide_false]
      rw [hd3, hpv0, hhint]
      exact ⟨⟨⟨q0, q1, q2, q3, q8, q9, q10⟩, q11, rfl⟩, rfl⟩
  rintro A7 W7 ⟨⟨⟨q0, q1, q2, q3, q8, q9, q10⟩, q11, q12⟩, rfl⟩
  obtain ⟨pi, hpi⟩ : ∃ pi, pi = (if wb && wp && hint = .increasing then partialInsertionSort ltInt d3 a1 b1 else (d3, false)) := ⟨_, rfl⟩
  simp only [← hpi] at gt
  have gs4 : pi.1.size = n := by
    rw [hpi]; split
    · rw [partialInsertionSort, partialIns_size, gs3]
    · exact gs3
  refine cutS (fun A' W' => ((pdqF A' r n a1 b1 l2 wb wp ∧ A' 11 = some (.int .i64 pv0)) ∧ W' = pv W r pi.1) ∧ pi.2 = false) ?_ ?_
  · by_cases h : (wb && wp && decide (hint = .increasing)) = true
    · rw [if_pos h] at hpi
      simp only [Bool.and_eq_true, decide_eq_true_eq] at h
      obtain ⟨⟨rfl, rfl⟩, hi⟩ := h
      simp (maxSteps := 2000000) (disch := omega) only [BS, BC, e_seq, cond_if, guard_if, ↓reduceIte, Nat.reduceEqDiff, reduceCtorEq, q0, q1, q2, q8, q9, q12, hintEq1, hi, decide_true]
      refine (partialIns_c hP W r n a1 b1 d3 gs3 (by omega) gb (by omega)).mono ?_
      rintro X W' ⟨rfl, rfl⟩
      rw [← hpi]
      cases hp2 : pi.2 with
      | true =>
        rw [if_pos hp2] at gt
        simp only [BS, BC, cond_if, ↓reduceIte]
        exact ⟨_, rfl, _, _, .weak weak_id, Nat.le_refl _, rfl, by rw [gt]⟩
      | false =>
        simp only [BS, BC, cond_if, ↓reduceIte, Nat.reduceEqDiff]
        exact ⟨⟨⟨⟨q0, q1, q2, q3, q8, q9, q10⟩, q11⟩, trivial⟩, trivial⟩
    · rw [if_neg h] at hpi
      have e1 : pi.1 = d3 := by rw [hpi]
      have e2 : pi.2 = false := by rw [hpi]
      rw [e1]
      cases wb
      · simp (maxSteps := 2000000) (disch := omega) only [BS, BC, e_seq, cond_if, guard_if, ↓reduceIte, Nat.reduceEqDiff, q8]
        exact ⟨⟨⟨⟨q0, q1, q2, q3, q8, q9, q10⟩, q11⟩, trivial⟩, e2⟩
      · cases wp
        · simp (maxSteps := 2000000) (disch := omega) only [BS, BC, e_seq, cond_if, guard_if, ↓reduceIte, Nat.reduceEqDiff, q8, q9]
          exact ⟨⟨⟨⟨q0, q1, q2, q3, q8, q9, q10⟩, q11⟩, trivial⟩, e2⟩
        · have hi : hint ≠ .increasing := fun e => h (by simp [e])
          simp (maxSteps := 2000000) (disch := omega) only [BS, BC, e_seq, cond_if, guard_if, ↓reduceIte, Nat.reduceEqDiff, q8, q9, q12, hintEq1, hi, decide_false]
          exact ⟨⟨⟨⟨q0, q1, q2, q3, q8, q9, q10⟩, q11⟩, trivial⟩, e2⟩
  rintro A8 W8 ⟨⟨⟨⟨q0, q1, q2, q3, q8, q9, q10⟩, q11⟩, rfl⟩, hp2⟩
  rw [if_neg (by simp [hp2])] at gt
  obtain ⟨d4, hd4⟩ : ∃ d4, d4 = pi.1 := ⟨_, rfl⟩
  rw [← hd4] at gs4 ⊢
  simp only [← hd4] at gt
  refine cutS (fun A' W' => ((pdqF A' r n a1 b1 l2 wb wp ∧ A' 11 = some (.int .i64 pv0)) ∧ W' = pv W r d4) ∧ (decide (a1 > 0) && !ltInt d4[a1 - 1]! d4[pv0]!) = false) ?_ ?_
  · by_cases h0 : a1 > 0
    · have h0' : decide ((a1 : Int) > 0) = true := by simp; omega
      simp (maxSteps := 2000000) (disch := omega) only [BS, BC, e_seq, guard_if, ↓reduceIte, Nat.reduceEqDiff, reduceCtorEq, q0, q1, q11, h0', wsub1, ix, ld]
      refine (less_c hP _ _ _).mono ?_
      rintro X W' ⟨rfl, rfl⟩
      by_cases h : d4[a1 - 1]! < d4[pv0]!
      · simp (maxSteps := 2000000) (disch := omega) only [BS, BC, cond_if, guard_if, ↓reduceIte, Nat.reduceEqDiff, h, decide_true, Bool.not_true]
        exact ⟨⟨⟨⟨q0, q1, q2, q3, q8, q9, q10⟩, q11⟩, trivial⟩, by simp [ltInt, h]⟩
      · rw [if_pos (by simp [h0, ltInt, h])] at gt
        have hsp := partEqLoop_spec ltInt a1 b1 _ (a1 + 1) (b1 - 1) (swp d4 a1 pv0) (Nat.le_refl _) (Nat.lt_succ_self a1) (by omega) (by omega) (by rw [size_swp]; omega) (fun t h1 h2 => by omega) (fun t h1 h2 => by omega)
        have hpe : partitionEqual ltInt d4 a1 b1 pv0 = partEqLoop ltInt a1 (a1 + 1) (b1 - 1) (swp d4 a1 pv0) := rfl
        rw [← hpe] at hsp
        obtain ⟨pe, hpe'⟩ : ∃ pe, pe = partitionEqual ltInt d4 a1 b1 pv0 := ⟨_, rfl⟩
        rw [← hpe'] at hsp
        simp only [← hpe'] at gt
        rw [dif_pos ⟨hsp.1, hsp.2.1⟩] at gt
        have hss : pe.2.size = n := by rw [hsp.2.2.1.1, size_swp, gs4]
        simp (maxSteps := 2000000) (disch := omega) only [BS, BC, e_seq, cond_if, guard_if, ↓reduceIte, Nat.reduceEqDiff, reduceCtorEq, h, decide_false, Bool.not_false, q0, q1, q2, q11]
        refine (partitionEqual_c hP W r n a1 b1 pv0 d4 gs4 (by omega) gb (by omega) (by omega)).mono ?_
        rintro X W' ⟨rfl, rfl⟩
        rw [← hpe']
        simp only [BS, e_seq, ↓reduceIte, Nat.reduceEqDiff, reduceCtorEq, q0, q2, q3, q8, q9]
        exact ⟨(pe.1, b1, l2, wb, wp, pe.2), ⟨trivial, rfl, rfl, rfl, rfl, rfl, rfl, hsp.2.1, gb, by simp; omega, gl2, hss, gt⟩, by simp; omega, Nat.le_refl _⟩
    · have h0' : decide ((a1 : Int) > 0) = false := by simp; omega
      simp (maxSteps := 2000000) (disch := omega) only [BS, BC, e_seq, cond_if, guard_if, ↓reduceIte, Nat.reduceEqDiff, q1, h0']
      exact ⟨⟨⟨⟨q0, q1, q2, q3, q8, q9, q10⟩, q11⟩, trivial⟩, by simp [h0]⟩
  rintro A9 W9 ⟨⟨⟨⟨q0, q1, q2, q3, q8, q9, q10⟩, q11⟩, rfl⟩, hne⟩
  rw [if_neg (by simp [hne])] at gt
  have hsp := partition_holds ltInt swo_ltInt d4 a1 b1 pv0 gpv.1 gpv.2 (by omega)
  obtain ⟨pt, hpt⟩ : ∃ pt, pt = partition ltInt d4 a1 b1 pv0 := ⟨_, rfl⟩
  rw [← hpt] at hsp
  simp only [← hpt] at gt
  rw [dif_pos ⟨hsp.1, hsp.2.1⟩] at gt
  have hss : pt.2.2.size = n := by rw [hsp.2.2.1.1, gs4]
  obtain ⟨t1, t2, t3, _⟩ := hsp
  simp only [BS, BC, e_seq, ↓reduceIte, Nat.reduceEqDiff, q0, q1, q2, q11]
  refine (partition_c hP W r n a1 b1 pv0 d4 gs4 (by omega) gb (by omega) (by omega)).mono ?_
  rintro X W' ⟨rfl, rfl⟩
  rw [← hpt]
  by_cases h : pt.1 - a1 < b1 - pt.1
  · rw [if_pos h] at gt
    simp (maxSteps := 2000000) (disch := omega) only [BS, BC, e_seq, cond_if, ↓reduceIte, Nat.reduceEqDiff, reduceCtorEq, q0, q1, q2, q3, q10, wsub, quo8, clt, h, decide_true, cge]
    refine (ih W r a1 pt.1 l2 pt.2.2 (by omega) hss hr t1 (by omega) gl2).mono ?_
    rintro X W' ⟨rfl, rfl⟩
    simp (maxSteps := 2000000) (disch := omega) only [BS, ↓reduceIte, Nat.reduceEqDiff, reduceCtorEq, q0, q2, q3, wadd1]
    exact ⟨(pt.1 + 1, b1, l2, decide (pt.1 - a1 ≥ (b1 - a1) / 8), pt.2.1, pdq ltInt pt.2.2 a1 pt.1 l2 true true), ⟨trivial, rfl, rfl, rfl, rfl, rfl, rfl, by simp; omega, gb, by simp; omega, gl2, by rw [pdq_size _ _ _ _ _ _ _ (Nat.lt_succ_self _) (by omega) (by omega), hss], gt⟩, by simp; omega, Nat.le_refl _⟩
  · rw [if_neg h] at gt
    simp (maxSteps := 2000000) (disch := omega) only [BS, BC, e_seq, cond_if, ↓reduceIte, Nat.reduceEqDiff, reduceCtorEq, q0, q1, q2, q3, q10, wsub, quo8, clt, h, decide_false, cge, wadd1]
    refine (ih W r (pt.1 + 1) b1 l2 pt.2.2 (by omega) hss hr (by omega) gb gl2).mono ?_
    rintro X W' ⟨rfl, rfl⟩
    simp (maxSteps := 2000000) (disch := omega) only [BS, ↓reduceIte, Nat.reduceEqDiff, reduceCtorEq, q0, q1, q3]
    exact ⟨(a1, pt.1, l2, decide (b1 - pt.1 ≥ (b1 - a1) / 8), pt.2.1, pdq ltInt pt.2.2 (pt.1 + 1) b1 l2 true true), ⟨trivial, rfl, rfl, rfl, rfl, rfl, rfl, t1, by simp; omega, by simp; omega, gl2, by rw [pdq_size _ _ _ _ _ _ _ (Nat.lt_succ_self _) (by omega) (by omega), hss], gt⟩, by simp; omega, Nat.le_refl _⟩
end Go.AL.S
set_option maxRecDepth 100000
namespace Go.AL.S
open Go Go.AL Go.Proofs
/- maps.Keys[map[uint16]umpire/txn.Txn,uint16,umpire/txn.Txn]$1 -/
def c46 : AC := (AC.seq (AC.reg [⟨some 4, .load false 1, [.t 1], none⟩,⟨some 5, .rangem, [.t 4], none⟩]) (AC.block 0 (AC.loop (AC.seq (AC.reg [⟨some 6, .nextm, [.t 5], none⟩,⟨some 7, .ext 0, [.t 6], none⟩]) (AC.seq (AC.cond (.t 7) AC.skip (AC.exit 0)) (AC.block 1 (AC.seq (AC.reg [⟨some 8, .entry, [.t 5], none⟩,⟨some 9, .ext 0, [.t 8], none⟩,⟨some 3, .mov, [.t 9], none⟩]) (AC.seq (AC.reg [⟨some 10, .mov, [.t 0], none⟩,⟨some 11, .mov, [.t 3], none⟩,⟨some 12, .callv, [.t 10, .t 11], none⟩,⟨some 13, .un .not, [.t 12], none⟩]) (AC.cond (.t 13) AC.ret AC.skip)))))))))
def r46 : AC × List RT × Nat := (c46, [], 14)
theorem ok46e : compF Tryz.prog Tryz.f106 ⟨false, false, []⟩ = some r46 := by kernel_rfl


variable {E : Env}
abbrev En := V × V × Nat
def stamps (l : List En) : List Nat := l.map (·.2.2)
theorem sem_rangem {W : AW} {K : V → AW → Prop} {r : Nat} {es : List En} {clock : Nat} (h : W.get r = some (.map es clock)) : sem E .rangem [.map r] W K = K (.ptr W.nx 0) (W.alloc (.iter (some r) clock [] clock)) := by simp only [sem, h]
theorem sem_nextm {W : AW} {K : V → AW → Prop} {i m since last clock : Nat} {seen : List Nat} {es : List En} (h : W.get i = some (.iter (some m) since seen last)) (hm : W.get m = some (.map es clock)) :
    sem E .nextm [.ptr i 0] W K = ((seen = [] ∨ es = [] ∨ ∃ e ∈ es, e.2.2 < last) ∧ ((∀ e ∈ es, e.2.2 ∉ seen → since ≤ e.2.2) → K (.tuple [.bool false]) W) ∧
      (∀ e ∈ es, e.2.2 ∉ seen → K (.tuple [.bool true, e.1, e.2.1]) (W.put i (.iter (some m) since (seen ++ [e.2.2]) clock)))) := by simp only [sem, h, hm]
theorem sem_entry {W : AW} {K : V → AW → Prop} {i m since clock stamp : Nat} {seen : List Nat} {es : List En} {e : En} (h : W.get i = some (.iter (some m) since seen clock)) (hm : W.get m = some (.map es clock)) (hl : seen.getLast? = some stamp) (hf : (es.find? fun e => e.2.2 == stamp) = some e) :
    sem E .entry [.ptr i 0] W K = K (.tuple [e.1, e.2.1]) W := by simp [sem, h, hm, hl, hf]

/-- Entries that have stamps of their own, all of them past. -/
structure Fresh (es : List En) (clock : Nat) : Prop where
  nodup : (stamps es).Nodup
  lt : ∀ e ∈ es, e.2.2 < clock
theorem Fresh.find {es : List En} (h : (stamps es).Nodup) {e : En} (he : e ∈ es) : (es.find? fun x => x.2.2 == e.2.2) = some e := by
  induction es with
  | nil => simp at he
  | cons x xs ih =>
    simp only [stamps, List.map_cons, List.nodup_cons] at h
    rcases List.mem_cons.1 he with rfl | he
    · simp
    · have hne : (x.2.2 == e.2.2) = false := by
        simp only [beq_eq_false_iff_ne, ne_eq]
        intro heq
        exact h.1 (heq ▸ List.mem_map.2 ⟨e, he, rfl⟩)
      rw [List.find?_cons, hne]
      exact ih h.2 he

theorem perm_of_mem {α : Type} : ∀ {l m : List α}, l.Nodup → m.Nodup → (∀ x, x ∈ l ↔ x ∈ m) → l.Perm m
  | [], m, _, _, h => by
    cases m with
    | nil => exact .refl _
    | cons y m => exact absurd ((h y).2 (by simp)) (by simp)
  | x :: l, m, hl, hm, h => by
    obtain ⟨s, t, rfl⟩ := List.append_of_mem ((h x).1 (by simp))
    have hl' := List.nodup_cons.1 hl
    have hm' : (x :: (s ++ t)).Nodup := List.perm_middle.nodup_iff.1 hm
    have hm2 := List.nodup_cons.1 hm'
    refine (List.Perm.cons x (perm_of_mem hl'.2 hm2.2 fun y => ?_)).trans List.perm_middle.symm
    have hy := h y
    simp only [List.mem_cons, List.mem_append] at hy ⊢
    by_cases e : y = x
    · subst e
      exact ⟨fun hh => absurd hh hl'.1, fun hh => absurd (by simpa using hh) hm2.1⟩
    · constructor
      · intro hh
        rcases hy.1 (.inr hh) with h1 | h1 | h1
        · exact .inl h1
        · exact absurd h1 e
        · exact .inr h1
      · intro hh
        rcases hy.2 (hh.elim .inl fun h1 => .inr (.inr h1)) with h1 | h1
        · exact absurd h1 e
        · exact h1
theorem length_le_of_sub {α : Type} : ∀ {l m : List α}, l.Nodup → (∀ x ∈ l, x ∈ m) → l.length ≤ m.length
  | [], _, _, _ => by simp
  | x :: l, m, hl, h => by
    obtain ⟨s, t, rfl⟩ := List.append_of_mem (h x (by simp))
    have hl' := List.nodup_cons.1 hl
    have := length_le_of_sub (l := l) (m := s ++ t) hl'.2 fun y hy => by
      have hyx : y ≠ x := fun e => hl'.1 (e ▸ hy)
      have := h y (List.mem_cons_of_mem _ hy)
      simp only [List.mem_append, List.mem_cons] at this ⊢
      rcases this with h1 | h1 | h1
      · exact .inl h1
      · exact absurd h1 hyx
      · exact .inr h1
    simp at this ⊢; omega
theorem nodup_of_stamps {l : List En} (h : (stamps l).Nodup) : l.Nodup := by
  induction l with
  | nil => exact List.nodup_nil
  | cons x l ih =>
    simp only [stamps, List.map_cons] at h
    have h' := List.nodup_cons.1 h
    exact List.nodup_cons.2 ⟨fun hm => h'.1 (List.mem_map.2 ⟨x, hm, rfl⟩), ih h'.2⟩
theorem same_stamp {l : List En} (h : (stamps l).Nodup) {x y : En} (hx : x ∈ l) (hy : y ∈ l) (e : x.2.2 = y.2.2) : x = y := by
  have h1 := Fresh.find h hx
  have h2 := Fresh.find h hy
  rw [e] at h1
  rw [h1] at h2
  exact Option.some.inj h2

/-- maps.Keys' function: it hands out each key once, in any order. -/
theorem keys_iter (hP : E.P = Tryz.prog) {W : AW} {y pb m clock : Nat} {es : List En} (hb : W.get pb = some (.row [.map m])) (hm : W.get m = some (.map es clock)) (hf : Fresh es clock) (hlt : m < W.nx)
    (J : List En → AW → Prop) (h0 : J [] (W.alloc (.iter (some m) clock [] clock)))
    (hJ : ∀ done W1, J done W1 → W1.get W.nx = some (.iter (some m) clock (stamps done) clock) ∧ W1.get m = some (.map es clock) ∧ W.nx ≤ W1.nx)
    (hnx : ∀ done W1, J done W1 → W.nx < W1.nx)
    (hy : ∀ done e W1, J done W1 → e ∈ es → e.2.2 ∉ stamps done → done.length < es.length → E.yield y [(W1.put W.nx (.iter (some m) clock (stamps done ++ [e.2.2]) clock)).frz e.1] (W1.put W.nx (.iter (some m) clock (stamps done ++ [e.2.2]) clock)) (fun X W2 => X = .bool true ∧ J (done ++ [e]) W2)) :
    ACalls E 106 [.yld y, .ptr pb 0] W fun X W' => X = .tuple [] ∧ ∃ done : List En, done.Perm es ∧ J done W' := by
  refine ACalls.of hP Tryz.func106 ok46e (by simp) fun _ hok => ?_
  have hl : partV [V.map m] 0 1 false = some (.map m) := rfl
  simp only [c46, BS, BC, e_seq, ↓reduceIte, sem_load_row hb hl, sem_rangem hm, e_loop]
  refine ALoop.go (B := awp E _) (fun h => awp_mono _ h) (fun (done : List En) A1 W1 => A1 0 = some (.yld y) ∧ A1 5 = some (.ptr W.nx 0) ∧ J done W1 ∧ (stamps done).Nodup ∧ ∀ e ∈ done, e ∈ es) (fun done => es.length - done.length) []
    ⟨rfl, rfl, h0, List.nodup_nil, by simp⟩ ?_
  rintro done A1 W1 ⟨g0, g5, gJ, gn, gs⟩ _
  obtain ⟨k1, k2, k3⟩ := hJ _ _ gJ
  simp only [BS, BC, e_seq, cond_if, ↓reduceIte, Nat.reduceEqDiff, g5, sem_nextm k1 k2]
  refine ⟨?_, ?_, ?_⟩
  · cases es with
    | nil => exact .inr (.inl rfl)
    | cons e es => exact .inr (.inr ⟨e, by simp, hf.lt e (by simp)⟩)
  · intro hall
    refine ⟨_, rfl, _, _, .weak weak_id, k3, rfl, done, ?_, gJ⟩
    refine perm_of_mem ?_ ?_ fun x => ⟨gs x, fun hx => ?_⟩
    · exact nodup_of_stamps gn
    · exact nodup_of_stamps hf.nodup
    · by_cases hm' : x.2.2 ∈ stamps done
      · obtain ⟨x', h1, h2⟩ := List.mem_map.1 hm'
        rwa [← same_stamp hf.nodup (gs x' h1) hx h2]
      · have := hall x hx hm'
        have := hf.lt x hx
        omega
  · intro e he hne
    have hlen : done.length < es.length := by
      have h1 := length_le_of_sub (l := done ++ [e]) (m := es) (nodup_of_stamps (by
          simp only [stamps, List.map_append, List.map_cons, List.map_nil]
          exact List.nodup_append.2 ⟨gn, by simp, fun a ha b hb => by
            rw [List.mem_singleton.1 hb]
            exact fun e' => hne (e' ▸ ha)⟩)) (fun x hx => by
            rcases List.mem_append.1 hx with hx | hx
            · exact gs x hx
            · rw [List.mem_singleton.1 hx]; exact he)
      simp at h1; omega
    have hne' : m ≠ W.nx := by omega
    have j1 : (W1.put W.nx (.iter (some m) clock (stamps done ++ [e.2.2]) clock)).get W.nx = some (.iter (some m) clock (stamps done ++ [e.2.2]) clock) := by simp [AW.put]
    have j2 : (W1.put W.nx (.iter (some m) clock (stamps done ++ [e.2.2]) clock)).get m = some (.map es clock) := by simp [AW.put, hne', k2]
    have j3 : (stamps done ++ [e.2.2]).getLast? = some e.2.2 := by simp
    rw [sem_entry j1 j2 j3 (Fresh.find hf.nodup he)]
    simp only [BS, BC, e_seq, ↓reduceIte, Nat.reduceEqDiff, reduceCtorEq, g0, sem_yield]
    refine E.yieldMono _ _ _ _ _ ?_ (hy done e W1 gJ he hne hlen)
    rintro X W2 ⟨rfl, gJ2⟩
    obtain ⟨k4, k5, k6⟩ := hJ _ _ gJ2

    simp only [BS, BC, cond_if, ↓reduceIte, Nat.reduceEqDiff, reduceCtorEq, g0, g5, Bool.not_true]
    refine ⟨done ++ [e], ⟨trivial, trivial, gJ2, ?_, ?_⟩, ?_, ?_⟩
    · simp only [stamps, List.map_append, List.map_cons, List.map_nil]
      exact List.nodup_append.2 ⟨gn, by simp, fun a ha b hb => by
        rw [List.mem_singleton.1 hb]
        exact fun e' => hne (e' ▸ ha)⟩
    · intro x hx
      rcases List.mem_append.1 hx with hx | hx
      · exact gs x hx
      · rw [List.mem_singleton.1 hx]; exact he
    · have := hlen
      simp; omega
    · have := (hJ _ _ gJ2).2.2
      have h7 : W.nx < W2.nx := hnx _ _ gJ2
      show W.nx + 1 ≤ W2.nx; omega
/- slices.AppendSeq[[]uint16,uint16] -/
def c53 : AC := (AC.seq (AC.reg [⟨some 2, .box, [.t 0], none⟩,⟨some 4, .mov, [.c (.nilsl)], none⟩]) (AC.seq (AC.seq (AC.reg [⟨some 6, .mov, [.t 1], none⟩]) (AC.block 0 (AC.rangef (.t 6) [7] (AC.reg [⟨some 5, .mov, [.t 7], none⟩]) (AC.block 1 (AC.reg [⟨some 8, .load false 1, [.t 2], none⟩,⟨some 9, .mov, [.t 5], none⟩,⟨some 10, .bslice 1 1 (.int .u16 0) [0], [.t 9], none⟩,⟨some 11, .appendx 1 2 [.int .u16 0], [.t 8, .t 10], none⟩,⟨none, .store 1, [.t 2, .t 11], none⟩]))))) (AC.seq (AC.reg [⟨some 12, .load false 1, [.t 2], none⟩,⟨some 4, .mov, [.t 12], none⟩]) AC.ret)))
def r53 : AC × List RT × Nat := (c53, [.tmp 4], 13)
theorem ok53e : compF Tryz.prog Tryz.f120 ⟨true, false, []⟩ = some r53 := by kernel_rfl
/- slices.Collect[uint16] -/
def c44 : AC := (AC.seq (AC.reg [⟨some 2, .mov, [.c (.nilsl)], none⟩]) (AC.seq (AC.reg [⟨some 3, .mov, [.t 0], none⟩,⟨some 4, .call 120, [.c (.nilsl), .t 3], none⟩,⟨some 2, .mov, [.t 4], none⟩]) AC.ret))
def r44 : AC × List RT × Nat := (c44, [.tmp 2], 5)
theorem ok44e : compF Tryz.prog Tryz.f104 ⟨true, false, []⟩ = some r44 := by kernel_rfl


theorem alloc_lt {W : AW} {o : AObj} {x : Nat} (h : x < W.nx) : (W.alloc o).get x = W.get x := by simp [AW.alloc]; omega
theorem sem_bslice1 {W : AW} {K : V → AW → Prop} {k : IntKind} {n : Int} {z : V} (hz : z.cells.length = 1) : sem E (.bslice 1 1 z [0]) [.int k n] W K = K (.sl 1 true [.int k n]) W := by
  have h1 : (V.int k n).cells.length = 1 := rfl
  simp [sem, rsem, tsem, hz, fillE, h1]
theorem sem_appx_nil {W : AW} {K : V → AW → Prop} {by' : Nat} {z : List V} {v : V} (h : by' ≤ 2 ^ 46) : sem E (.appendx 1 by' z) [.nilsl, .sl 1 true [v]] W K = K (.slr W.nx 0 1 1) (W.alloc (.vec 1 v.cells)) := by
  simp [sem, elemsV, h]
theorem sem_appx_slr {W : AW} {K : V → AW → Prop} {by' r len : Nat} {z cells : List V} {v : V} (hg : W.get r = some (.vec 1 cells)) (hl : cells.length = len) (hv : v.cells.all V.one = true) (h : (len + 1) * by' ≤ 2 ^ 46) :
    sem E (.appendx 1 by' z) [.slr r 0 len 1, .sl 1 true [v]] W K = K (.slr W.nx 0 (len + 1) 1) (W.move r (.vec 1 (cells ++ v.cells))) := by
  simp only [sem, elemsV, hg]
  simp [hl, hv, h]
theorem e_endQ {r : Nat} {K : V → AW → Prop} {A : AFr} {W : AW} : endQ r K .normal A W = (W.get r = some (.loop .busy none) ∧ K (.bool true) (W.put r (.loop .ready none))) := id rfl
theorem e_puts1 {A : AFr} {p : Nat} {v : V} : A.puts [p] [v] = A.put p v := id rfl
theorem put_at {W : AW} {r : Nat} {o : AObj} : (W.put r o).get r = some o := by simp [AW.put]
theorem put_ne {W : AW} {r x : Nat} {o : AObj} (h : x ≠ r) : (W.put r o).get x = W.get x := by simp [AW.put, h]
theorem alloc_at {W : AW} {o : AObj} : (W.alloc o).get W.nx = some o := by simp [AW.alloc]
theorem move_ne {W : AW} {r x : Nat} {o : AObj} (h : x ≠ r) (h' : x ≠ W.nx) : (W.move r o).get x = W.get x := by simp [AW.move, h, h']
theorem move_at {W : AW} {r : Nat} {o : AObj} : (W.move r o).get W.nx = some o := by simp [AW.move]
theorem move_nx {W : AW} {r : Nat} {o : AObj} : (W.move r o).nx = W.nx + 1 := id rfl
theorem put_nx {W : AW} {r : Nat} {o : AObj} : (W.put r o).nx = W.nx := id rfl
theorem alloc_nx {W : AW} {o : AObj} : (W.alloc o).nx = W.nx + 1 := id rfl

theorem collect_c (hP : E.P = Tryz.prog) {W : AW} {pb m clock : Nat} {es : List En} (hb : W.get pb = some (.row [.map m])) (hm : W.get m = some (.map es clock)) (hf : Fresh es clock) (hpb : pb < W.nx) (hmlt : m < W.nx)
    (hk : ∀ e ∈ es, ∃ n, e.1 = .int .u16 n) (hsz : es.length < 2 ^ 40) :
    ACalls E 120 [.nilsl, .fn (.func 106) [] [.ptr pb 0]] W fun X W' => ∃ done : List En, done.Perm es ∧ (∀ x, x < W.nx → W'.get x = W.get x) ∧ W.nx ≤ W'.nx ∧
      ((done = [] ∧ X = .nilsl) ∨ ∃ r, (W.nx ≤ r ∧ done ≠ []) ∧ r < W'.nx ∧ X = .slr r 0 done.length 1 ∧ W'.get r = some (.vec 1 (done.map (·.1)))) := by
  refine ACalls.of hP Tryz.func120 ok53e (by simp) fun _ hok => ?_
  simp only [c53, BS, BC, e_seq, ↓reduceIte, Nat.reduceEqDiff, awp_rangef']
  intro E' eP eG ey _
  have hP' : E'.P = Tryz.prog := eP.trans hP
  have hbox : ((W.alloc (.row [.nilsl])).alloc (.loop .ready none)).get pb = some (.row [.map m]) := by rw [alloc_lt (by simp [AW.alloc]; omega), alloc_lt hpb, hb]
  have hmap : ((W.alloc (.row [.nilsl])).alloc (.loop .ready none)).get m = some (.map es clock) := by rw [alloc_lt (by simp [AW.alloc]; omega), alloc_lt hmlt, hm]
  refine (keys_iter (E := E') hP' (y := W.nx + 1) hbox hmap hf (by simp [AW.alloc]; omega) (fun done W' => ∃ h, W'.get W.nx = some (.row [h]) ∧ ((done = [] ∧ h = .nilsl) ∨ ∃ r, (W.nx + 3 ≤ r ∧ done ≠ []) ∧ r < W'.nx ∧ h = .slr r 0 done.length 1 ∧ W'.get r = some (.vec 1 (done.map (·.1)))) ∧
    W'.get (W.nx + 1) = some (.loop .ready none) ∧ W'.get (W.nx + 2) = some (.iter (some m) clock (stamps done) clock) ∧ (∀ x, x < W.nx → W'.get x = W.get x) ∧ W.nx + 3 ≤ W'.nx) ?_ ?_ ?_ ?_).mono ?_
  · refine ⟨.nilsl, ?_, .inl ⟨rfl, rfl⟩, ?_, ?_, ?_, ?_⟩
    · simp [AW.alloc]; omega
    · simp [AW.alloc]
    · simp [AW.alloc, stamps]
    · intro x hx
      rw [alloc_lt (by simp [AW.alloc]; omega), alloc_lt (by simp [AW.alloc]; omega), alloc_lt hx]
    · simp [AW.alloc]
  · rintro done W1 ⟨h, b1, b2, b3, b4, b5, b6⟩
    exact ⟨b4, by rw [b5 m hmlt, hm], by simp only [alloc_nx]; omega⟩
  · rintro done W1 ⟨h, b1, b2, b3, b4, b5, b6⟩
    simp only [alloc_nx]; omega
  · rintro done e W1 ⟨h, b1, b2, b3, b4, b5, b6⟩ he hne hlen
    obtain ⟨kv, hkv⟩ := hk e he
    rw [hkv, frz_int]
    apply ey
    have d1 : W.nx ≠ W.nx + 1 + 1 := by omega
    have d2 : W.nx + 1 ≠ W.nx + 1 + 1 := by omega
    have d3 : W.nx ≠ W.nx + 1 := by omega
    have d4 : W.nx + 1 + 1 ≠ W.nx + 1 := by omega
    have d5 : W.nx + 1 + 1 ≠ W.nx := by omega
    have d6 : W.nx + 1 ≠ W.nx := by omega
    simp only [alloc_nx]
    refine ⟨by rw [put_ne d2]; exact b3, rfl, ?_⟩
    have hg3 : ((W1.put (W.nx + 1 + 1) (.iter (some m) clock (stamps done ++ [e.2.2]) clock)).put (W.nx + 1) (.loop .busy none)).get W.nx = some (.row [h]) := by rw [put_ne d3, put_ne d1]; exact b1
    have hl : partV [h] 0 1 false = some h := rfl
    have hst : ∀ (l : List En), stamps (l ++ [e]) = stamps l ++ [e.2.2] := fun l => by simp [stamps]
    simp only [BS, ↓reduceIte, Nat.reduceEqDiff, e_puts1]
    refine ⟨by rw [put_ne d2]; exact b3, ?_⟩
    have hv1 : (V.int .u16 kv).cells.all V.one = true := rfl
    have hz : (V.int .u16 0).cells.length = 1 := rfl
    rcases b2 with ⟨rfl, rfl⟩ | ⟨r, ⟨r1, rne⟩, r2, rfl, r3⟩
    · have hst2 : (((W1.put (W.nx + 1 + 1) (.iter (some m) clock (stamps [] ++ [e.2.2]) clock)).put (W.nx + 1) (.loop .busy none)).alloc (.vec 1 (V.int .u16 kv).cells)).get W.nx = some (.row [.nilsl]) := by rw [alloc_lt (by simp only [put_nx]; omega)]; exact hg3
      have c1 : (V.slr W1.nx 0 1 1).cells.length = 1 := rfl
      have c2 : (V.slr W1.nx 0 1 1).cells.all V.one = true := rfl
      simp only [BS, ↓reduceIte, Nat.reduceEqDiff, e_endQ, sem_load_row hg3 hl, sem_bslice1 hz, sem_appx_nil (by' := 2) (by decide), put_nx, sem_store_row (off := 0) (s := 1) hst2 c1 c2 (by simp)]
      refine ⟨?_, trivial, .slr W1.nx 0 1 1, ?_, .inr ⟨W1.nx, ⟨by omega, by simp⟩, ?_, by simp, ?_⟩, ?_, ?_, ?_, ?_⟩
      · rw [put_ne d6, alloc_lt (by simp only [put_nx]; omega), put_at]
      · rw [put_ne d3, put_at]; rfl
      · simp only [put_nx, alloc_nx]; omega
      · rw [put_ne (by omega), put_ne (by omega)]
        have : ((W1.put (W.nx + 1 + 1) (.iter (some m) clock (stamps [] ++ [e.2.2]) clock)).put (W.nx + 1) (.loop .busy none)).nx = W1.nx := rfl
        rw [← this, alloc_at]; simp [hkv, V.cells]
      · rw [put_at]
      · rw [put_ne d4, put_ne d5, alloc_lt (by simp only [put_nx]; omega), put_ne d4, put_at, hst]
      · intro x hx
        rw [put_ne (by omega), put_ne (by omega), alloc_lt (by simp only [put_nx]; omega), put_ne (by omega), put_ne (by omega)]; exact b5 x hx
      · simp only [put_nx, alloc_nx]; omega
    · have hgr : ((W1.put (W.nx + 1 + 1) (.iter (some m) clock (stamps done ++ [e.2.2]) clock)).put (W.nx + 1) (.loop .busy none)).get r = some (.vec 1 (done.map (·.1))) := by rw [put_ne (by omega), put_ne (by omega)]; exact r3
      have hst2 : (((W1.put (W.nx + 1 + 1) (.iter (some m) clock (stamps done ++ [e.2.2]) clock)).put (W.nx + 1) (.loop .busy none)).move r (.vec 1 (done.map (·.1) ++ (V.int .u16 kv).cells))).get W.nx = some (.row [.slr r 0 done.length 1]) := by rw [move_ne (by omega) (by simp only [put_nx]; omega)]; exact hg3
      have c1 : (V.slr W1.nx 0 (done.length + 1) 1).cells.length = 1 := rfl
      have c2 : (V.slr W1.nx 0 (done.length + 1) 1).cells.all V.one = true := rfl
      simp only [BS, ↓reduceIte, Nat.reduceEqDiff, e_endQ, sem_load_row hg3 hl, sem_bslice1 hz, sem_appx_slr (by' := 2) (len := done.length) hgr (by simp) hv1 (by omega), put_nx, sem_store_row (off := 0) (s := 1) hst2 c1 c2 (by simp)]
      refine ⟨?_, trivial, .slr W1.nx 0 (done.length + 1) 1, ?_, .inr ⟨W1.nx, ⟨by omega, by simp⟩, ?_, by simp, ?_⟩, ?_, ?_, ?_, ?_⟩
      · rw [put_ne d6, move_ne (by omega) (by simp only [put_nx]; omega), put_at]
      · rw [put_ne d3, put_at]; rfl
      · simp only [put_nx, move_nx]; omega
      · rw [put_ne (by omega), put_ne (by omega)]
        have : ((W1.put (W.nx + 1 + 1) (.iter (some m) clock (stamps done ++ [e.2.2]) clock)).put (W.nx + 1) (.loop .busy none)).nx = W1.nx := rfl
        rw [← this, move_at]; simp [hkv, V.cells]
      · rw [put_at]
      · rw [put_ne d4, put_ne d5, move_ne (by omega) (by simp only [put_nx]; omega), put_ne d4, put_at, hst]
      · intro x hx
        rw [put_ne (by omega), put_ne (by omega), move_ne (by omega) (by simp only [put_nx]; omega), put_ne (by omega), put_ne (by omega)]; exact b5 x hx
      · simp only [put_nx, move_nx]; omega
  · rintro X W' ⟨rfl, done, hperm, h, b1, b2, b3, b4, b5, b6⟩
    have b3' : W'.get (W.alloc (.row V.nilsl.cells)).nx = some (.loop .ready none) := b3
    have hg : (W'.put (W.nx + 1) (.loop .exhausted none)).get W.nx = some (.row [h]) := by rw [put_ne (by omega)]; exact b1
    have hl : partV [h] 0 1 false = some h := rfl
    unfold doneQ
    rw [b3']
    simp only [BS, BC, e_seq, ↓reduceIte, Nat.reduceEqDiff, alloc_nx, sem_load_row hg hl]
    have hfr : (W'.put (W.nx + 1) (.loop .exhausted none)).frz h = h := by
      rcases b2 with ⟨_, rfl⟩ | ⟨r, ⟨r1, rne⟩, r2, rfl, r3⟩
      · rfl
      · have : (W'.put (W.nx + 1) (.loop .exhausted none)).get r = some (.vec 1 (done.map (·.1))) := by rw [put_ne (by omega)]; exact r3
        simp [AW.frz]
    rw [hfr]
    refine ⟨_, rfl, h, _, .weak weak_id, by rw [put_nx]; omega, done, hperm, ?_, by rw [put_nx]; omega, ?_⟩
    · intro x hx
      rw [put_ne (by omega)]; exact b5 x hx
    · rcases b2 with ⟨h1, h2⟩ | ⟨r, ⟨r1, rne⟩, r2, h3, r3⟩
      · exact .inl ⟨h1, h2⟩
      · exact .inr ⟨r, ⟨by omega, rne⟩, by rw [put_nx]; exact r2, h3, by rw [put_ne (by omega)]; exact r3⟩
end Go.AL.S
set_option maxRecDepth 100000
namespace Go.AL.S
open Go Go.AL Go.Proofs Go.Sort
/- slices.Sort[[]uint16,uint16] -/
def c45 : AC := (AC.seq (AC.reg [⟨some 3, .mov, [.t 0], none⟩,⟨some 4, .len 1 0, [.t 3], none⟩,⟨some 2, .mov, [.t 4], none⟩]) (AC.reg [⟨some 5, .mov, [.t 0], none⟩,⟨some 6, .mov, [.t 2], none⟩,⟨some 7, .mov, [.t 2], none⟩,⟨some 8, .conv .u64, [.t 7], none⟩,⟨some 9, .call 122, [.t 8], none⟩,⟨some 10, .call 121, [.t 5, .c (.int .i64 0), .t 6, .t 9], none⟩]))
def r45 : AC × List RT × Nat := (c45, [], 11)
theorem ok45e : compF Tryz.prog Tryz.f105 ⟨true, false, []⟩ = some r45 := by kernel_rfl
variable {E : Env}
theorem sort_c (hP : E.P = Tryz.prog) (W : AW) (r n : Nat) (d : Array Int) (hn : d.size = n) (hr : r < W.nx) (hsm : n < 4294967296) :
    ACalls E 105 [.slr r 0 n 1] (pv W r d) fun X W' => X = .tuple [] ∧ W' = pv W r (sort ltInt d) := by
  refine ACalls.of hP Tryz.func105 ok45e (by simp) fun _ hok => ?_
  have hb : bitsLen n ≤ 32 := (bitsLen_le_iff n 32).2 (by omega)
  simp (maxSteps := 2000000) (disch := omega) only [c45, BS, BC, e_seq, ↓reduceIte, Nat.reduceEqDiff, reduceCtorEq, un]
  refine (len_c hP _ n hsm).mono ?_
  rintro X W' ⟨rfl, rfl⟩
  simp only [BS, BC, ↓reduceIte, Nat.reduceEqDiff]
  refine (pdq_c hP n hsm (n + 1) W r 0 n (bitsLen n) d (by omega) hn hr (Nat.zero_le _) (Nat.le_refl _) (by omega)).mono ?_
  rintro X W' ⟨rfl, rfl⟩
  simp only [BS]
  exact ⟨_, rfl, _, _, .weak weak_id, Nat.le_refl _, rfl, by rw [sort, hn]⟩
end Go.AL.S
set_option maxRecDepth 100000
namespace Go.AL.S
open Go Go.AL Go.Proofs Go.Sort
/- slices.Sorted[uint16] -/
def c34 : AC := (AC.seq (AC.reg [⟨some 2, .mov, [.c (.nilsl)], none⟩]) (AC.seq (AC.reg [⟨some 4, .mov, [.t 0], none⟩,⟨some 5, .call 104, [.t 4], none⟩,⟨some 3, .mov, [.t 5], none⟩]) (AC.seq (AC.reg [⟨some 6, .mov, [.t 3], none⟩,⟨some 7, .call 105, [.t 6], none⟩]) (AC.seq (AC.reg [⟨some 8, .mov, [.t 3], none⟩,⟨some 2, .mov, [.t 8], none⟩]) AC.ret))))
def r34 : AC × List RT × Nat := (c34, [.tmp 2], 9)
theorem ok34e : compF Tryz.prog Tryz.f83 ⟨true, false, []⟩ = some r34 := by kernel_rfl
variable {E : Env}
theorem collect44_c (hP : E.P = Tryz.prog) {W : AW} {pb m clock : Nat} {es : List En} (hb : W.get pb = some (.row [.map m])) (hm : W.get m = some (.map es clock)) (hf : Fresh es clock) (hpb : pb < W.nx) (hmlt : m < W.nx)
    (hk : ∀ e ∈ es, ∃ n, e.1 = .int .u16 n) (hsz : es.length < 2 ^ 40) :
    ACalls E 104 [.fn (.func 106) [] [.ptr pb 0]] W fun X W' => ∃ done : List En, done.Perm es ∧ (∀ x, x < W.nx → W'.get x = W.get x) ∧ W.nx ≤ W'.nx ∧
      ((done = [] ∧ X = .nilsl) ∨ ∃ r, (W.nx ≤ r ∧ done ≠ []) ∧ r < W'.nx ∧ X = .slr r 0 done.length 1 ∧ W'.get r = some (.vec 1 (done.map (·.1)))) := by
  refine ACalls.of hP Tryz.func104 ok44e (by simp) fun _ hok => ?_
  simp only [c44, BS, BC, e_seq, ↓reduceIte, reduceCtorEq]
  refine (collect_c hP hb hm hf hpb hmlt hk hsz).mono ?_
  rintro X W' ⟨done, h1, h2, h3, h4⟩
  have hfr : W'.frz X = X := by rcases h4 with ⟨_, rfl⟩ | ⟨r, _, _, rfl, _⟩ <;> rfl
  simp only [BS, BC, ↓reduceIte, hfr]
  exact ⟨_, rfl, _, _, .weak weak_id, h3, done, h1, h2, h3, h4⟩
theorem sort_perm_eq {l l' : List Int} (h : l.Perm l') : (sort ltInt l.toArray).toList = (sort ltInt l'.toArray).toList := by
  rw [sortInt, sortInt]
  have a1 := List.pairwise_mergeSort (le := fun x y : Int => decide (x ≤ y)) (by simp; omega) (by simp; omega) l
  have a2 := List.pairwise_mergeSort (le := fun x y : Int => decide (x ≤ y)) (by simp; omega) (by simp; omega) l'
  have p : (l.mergeSort fun x y => decide (x ≤ y)).Perm (l'.mergeSort fun x y => decide (x ≤ y)) := (List.mergeSort_perm l _).trans (h.trans (List.mergeSort_perm l' _).symm)
  refine p.eq_of_pairwise ?_ a1 a2
  intro x y _ _ h1 h2
  simp at h1 h2; omega
theorem insertion_nil (hP : E.P = Tryz.prog) (W : AW) : ACalls E 153 [.nilsl, .int .i64 0, .int .i64 0] W fun X W' => X = .tuple [] ∧ W' = W := by
  refine ACalls.of hP Tryz.func153 ok81e (by simp) fun _ hok => ?_
  have h1 : IntKind.i64.wrap (0 + 1) = 1 := rfl
  have h2 : decide ((1 : Int) < 0) = false := by decide
  simp only [c81, BS, BC, e_seq, ↓reduceIte, h1, e_loop]
  refine ALoop.go (B := awp E _) (fun h => awp_mono _ h) (fun (s : Unit) A1 W1 => A1 2 = some (.int .i64 0) ∧ A1 6 = some (.int .i64 1) ∧ W1 = W) (fun s => 0) ()
    ⟨rfl, rfl, rfl⟩ ?_
  rintro _ A1 W1 ⟨g2, g6, rfl⟩ _
  simp only [BS, BC, e_seq, cond_if, ↓reduceIte, Nat.reduceEqDiff, g2, g6, h2]
  exact ⟨_, rfl, _, _, .weak weak_id, Nat.le_refl _, rfl, rfl⟩
theorem pdq_nil (hP : E.P = Tryz.prog) (W : AW) (lim : Nat) : ACalls E 121 [.nilsl, .int .i64 0, .int .i64 0, .int .i64 lim] W fun X W' => X = .tuple [] ∧ W' = W := by
  refine ACalls.of hP Tryz.func121 ok54e (by simp) fun _ hok => ?_
  have h1 : IntKind.i64.wrap (0 - 0) = 0 := rfl
  have h2 : decide ((0 : Int) ≤ 12) = true := by decide
  simp only [c54, BS, e_seq, e_loop]
  refine ALoop.go (B := awp E _) (fun h => awp_mono _ h) (fun (s : Unit) A1 W1 => A1 0 = some .nilsl ∧ A1 1 = some (.int .i64 0) ∧ A1 2 = some (.int .i64 0) ∧ W1 = W) (fun s => 0) ()
    ⟨rfl, rfl, rfl, rfl⟩ ?_
  rintro _ A1 W1 ⟨g0, g1, g2, rfl⟩ _
  simp only [BS, BC, e_seq, cond_if, ↓reduceIte, Nat.reduceEqDiff, reduceCtorEq, g0, g1, g2, h1, h2]
  refine (insertion_nil hP _).mono ?_
  rintro X W' ⟨rfl, rfl⟩
  simp only [BS]
  exact ⟨_, rfl, _, _, .weak weak_id, Nat.le_refl _, rfl, rfl⟩
theorem sort_nil (hP : E.P = Tryz.prog) (W : AW) : ACalls E 105 [.nilsl] W fun X W' => X = .tuple [] ∧ W' = W := by
  refine ACalls.of hP Tryz.func105 ok45e (by simp) fun _ hok => ?_
  have h1 : IntKind.u64.wrap 0 = ((0 : Nat) : Int) := rfl
  simp only [c45, BS, BC, e_seq, ↓reduceIte, Nat.reduceEqDiff, reduceCtorEq, h1]
  refine (len_c hP _ 0 (by decide)).mono ?_
  rintro X W' ⟨rfl, rfl⟩
  simp only [BS, BC, ↓reduceIte, Nat.reduceEqDiff]
  refine (pdq_nil hP _ _).mono ?_
  rintro X W' ⟨rfl, rfl⟩
  simp only [BS]
  exact ⟨_, rfl, _, _, .weak weak_id, Nat.le_refl _, rfl, rfl⟩
end Go.AL.S
set_option maxRecDepth 100000
namespace Go.AL.S
open Go Go.AL Go.Proofs Go.Sort
variable {E : Env}
theorem chunks1 : ∀ (l : List V), chunks 1 l.length l = l
  | [] => rfl
  | x :: l => by
    show _ :: chunks 1 l.length ((x :: l).drop 1) = _
    rw [List.drop_succ_cons, List.drop_zero, chunks1 l]; rfl
/-- Numbers in ascending order, as a slice that is written no more. -/
def sortedV (l : List Int) : V := if l = [] then .nilsl else .sl 1 false ((sort ltInt l.toArray).toList.map (V.int .u16))
theorem one_ints (l : List Int) : (l.map (V.int .u16)).all V.one = true := by
  induction l with
  | nil => rfl
  | cons x l ih => simp [V.one, ih]
theorem sort_size (l : List Int) : (sort ltInt l.toArray).size = l.length := by
  have := (sort_sorts ltInt swo_ltInt l.toArray).1.1
  simpa using this

theorem sorted_c (hP : E.P = Tryz.prog) {W : AW} {pb m clock : Nat} {es : List En} (key : En → Int) (hb : W.get pb = some (.row [.map m])) (hm : W.get m = some (.map es clock)) (hf : Fresh es clock) (hpb : pb < W.nx) (hmlt : m < W.nx)
    (hk : ∀ e ∈ es, e.1 = .int .u16 (key e)) (hsz : es.length < 4294967296) :
    ACalls E 83 [.fn (.func 106) [] [.ptr pb 0]] W fun X W' => X = sortedV (es.map key) ∧ W' = W := by
  refine ACalls.of hP Tryz.func83 ok34e (by simp) fun _ hok => ?_
  simp only [c34, BS, BC, e_seq, ↓reduceIte, reduceCtorEq]
  refine (collect44_c hP hb hm hf hpb hmlt (fun e he => ⟨_, hk e he⟩) (by omega)).mono ?_
  rintro X W' ⟨done, h1, h2, h3, h4⟩
  rcases h4 with ⟨rfl, rfl⟩ | ⟨r, ⟨hr, hne⟩, hrn, rfl, hg⟩
  · obtain rfl : es = [] := h1.symm.eq_nil
    simp only [BS, BC, e_seq, ↓reduceIte]
    refine (sort_nil hP _).mono ?_
    rintro X W'' ⟨rfl, rfl⟩
    simp only [BS, BC, e_seq, ↓reduceIte, Nat.reduceEqDiff]
    exact ⟨_, rfl, _, W, .weak (weak_back hok rfl h2), Nat.le_refl _, rfl, rfl⟩
  · have hlen : done.length = es.length := h1.length_eq
    have hkd : done.map (·.1) = cellsI (done.map key).toArray := by
      simp only [cellsI, List.map_map]
      refine List.map_congr_left fun e he => ?_
      exact hk e (h1.mem_iff.1 he)
    have hsd : (done.map key).toArray.size = done.length := by simp
    rw [hkd] at hg
    have hpv := pv_self hg
    simp only [BS, BC, e_seq, ↓reduceIte]
    rw [← hpv]
    refine (sort_c hP W' r done.length (done.map key).toArray hsd hrn (by omega)).mono ?_
    rintro X W'' ⟨rfl, rfl⟩
    simp only [BS, BC, e_seq, ↓reduceIte, Nat.reduceEqDiff]
    obtain ⟨zs, hzs⟩ : ∃ zs, zs = sort ltInt (done.map key).toArray := ⟨_, rfl⟩
    have hzl : zs.size = done.length := by rw [hzs, sort_size]; simp
    rw [← hzs]
    have hcl : (cellsI zs).length = done.length := by rw [cellsI_len, hzl]
    have hpos : 0 < done.length := List.length_pos_iff.2 hne
    have hch : chunks 1 done.length (cellsI zs) = cellsI zs := by rw [← hcl]; exact chunks1 _
    have hX : V.sl 1 false (cellsI zs) = sortedV (es.map key) := by
      have : es.map key ≠ [] := by
        intro e
        have := congrArg List.length e
        simp at this
        subst this
        simp at hlen
        exact hne hlen
      rw [sortedV, if_neg this, cellsI, hzs, sort_perm_eq (h1.map key)]
    refine ⟨_, rfl, .sl 1 false (cellsI zs), W, ?_, Nat.le_refl _, hX, rfl⟩
    rw [← hch]
    refine .frz pv_get (by rw [hcl]; omega) hpos (by decide) (one_ints _) ?_
    refine weak_back hok (by rw [hch]; exact bel_ints _ _) ?_
    intro x hx
    have : x ≠ r := by omega
    simp only [AW.drop, pv, AW.put, this, ↓reduceIte]
    exact h2 x hx
end Go.AL.S
set_option maxRecDepth 100000
namespace Go.AL.S
open Go Go.AL Go.Proofs
/- slices.Clone[[]uint16,uint16] -/
def c39 : AC := (AC.seq (AC.reg [⟨some 2, .mov, [.c (.nilsl)], none⟩]) (AC.seq (AC.seq (AC.reg [⟨some 3, .mov, [.t 0], none⟩,⟨some 4, .eqn false 1, [.t 3, .c (.nilsl)], none⟩]) (AC.cond (.t 4) (AC.seq (AC.reg [⟨some 2, .mov, [.c (.nilsl)], none⟩]) AC.ret) AC.skip)) (AC.seq (AC.reg [⟨some 5, .bslice 1 0 (.int .u16 0) [], [], none⟩,⟨some 6, .mov, [.t 0], none⟩,⟨some 7, .append 1 2, [.t 5, .t 6], none⟩,⟨some 2, .mov, [.t 7], none⟩]) AC.ret)))
def r39 : AC × List RT × Nat := (c39, [.tmp 2], 8)
theorem ok39e : compF Tryz.prog Tryz.f44 ⟨false, false, []⟩ = some r39 := by kernel_rfl
/- slices.Clone[[]umpire/api.Micro,umpire/api.Micro] -/
def c32 : AC := (AC.seq (AC.reg [⟨some 2, .mov, [.c (.nilsl)], none⟩]) (AC.seq (AC.seq (AC.reg [⟨some 3, .mov, [.t 0], none⟩,⟨some 4, .eqn false 1, [.t 3, .c (.nilsl)], none⟩]) (AC.cond (.t 4) (AC.seq (AC.reg [⟨some 2, .mov, [.c (.nilsl)], none⟩]) AC.ret) AC.skip)) (AC.seq (AC.reg [⟨some 5, .bslice 3 0 (.agg [.bool false, .int .u8 0, .int .u16 0]) [], [], none⟩,⟨some 6, .mov, [.t 0], none⟩,⟨some 7, .append 3 4, [.t 5, .t 6], none⟩,⟨some 2, .mov, [.t 7], none⟩]) AC.ret)))
def r32 : AC × List RT × Nat := (c32, [.tmp 2], 8)
theorem ok32e : compF Tryz.prog Tryz.f78 ⟨false, false, []⟩ = some r32 := by kernel_rfl
/- umpire/txn.lists -/
def c28 : AC := (AC.seq (AC.reg [⟨some 2, .mov, [.c (.nilsl)], none⟩]) (AC.seq (AC.seq (AC.reg [⟨some 5, .mov, [.t 0], none⟩,⟨some 6, .len 1 0, [.t 5], none⟩,⟨some 7, .mov, [.c (.int .i64 0)], none⟩]) (AC.block 0 (AC.loop (AC.seq (AC.reg [⟨some 8, .bin .lss, [.t 7, .t 6], none⟩]) (AC.seq (AC.cond (.t 8) AC.skip (AC.exit 0)) (AC.seq (AC.block 1 (AC.seq (AC.reg [⟨some 9, .idxp 1, [.t 5, .t 7], none⟩,⟨some 10, .load false 1, [.t 9], none⟩,⟨some 4, .mov, [.t 10], none⟩]) (AC.reg [⟨some 11, .mov, [.t 2], none⟩,⟨some 12, .mov, [.t 4], none⟩,⟨some 13, .call 44, [.t 12], none⟩,⟨some 14, .bslice 1 1 (.nilsl) [0], [.t 13], none⟩,⟨some 15, .append 1 24, [.t 11, .t 14], none⟩,⟨some 2, .mov, [.t 15], none⟩]))) (AC.reg [⟨some 16, .bin .add, [.t 7, .c (.int .i64 1)], none⟩,⟨some 7, .mov, [.t 16], none⟩]))))))) (AC.seq (AC.reg [⟨some 17, .mov, [.t 2], none⟩,⟨some 2, .mov, [.t 17], none⟩]) AC.ret)))
def r28 : AC × List RT × Nat := (c28, [.tmp 2], 18)
theorem ok28e : compF Tryz.prog Tryz.f74 ⟨false, false, []⟩ = some r28 := by kernel_rfl
/- (umpire/txn.Txn).own -/
def c36 : AC := (AC.seq (AC.reg [⟨some 1, .box, [.t 0], none⟩,⟨some 2, .alloc [.int .u16 0, .int .u8 0, .nilsl, .nilsl, .int .u8 0], [], none⟩]) (AC.seq (AC.par (PT.step 0 ⟨some 3, .fld 2, [.t 1], none⟩ (PT.step 3 ⟨some 6, .fld 3, [.t 1], none⟩ (PT.step 1 ⟨some 4, .load false 1, [.t 3], none⟩ (PT.step 2 ⟨some 5, .pcall 78, [.t 4], none⟩ (PT.step 4 ⟨some 7, .load false 1, [.t 6], none⟩ (PT.step 6 ⟨some 9, .fld 2, [.t 1], none⟩ (PT.step 5 ⟨some 8, .pcall 74, [.t 7], none⟩ (PT.step 7 ⟨none, .store 1, [.t 9, .t 5], none⟩ (PT.step 8 ⟨some 10, .fld 3, [.t 1], none⟩ (PT.step 9 ⟨none, .store 1, [.t 10, .t 8], none⟩ PT.done))))))))))) (AC.seq (AC.reg [⟨some 11, .load true 5, [.t 1], none⟩,⟨none, .store 5, [.t 2, .t 11], none⟩]) AC.ret)))
def r36 : AC × List RT × Nat := (c36, [.cell 2 true 5], 12)
theorem ok36e : compF Tryz.prog Tryz.f49 ⟨false, false, []⟩ = some r36 := by kernel_rfl
variable {E : Env}
/-- Slices that are read alone. -/
def isS (s : Nat) (v : V) (xs : List V) : Prop := (v = .nilsl ∧ xs = []) ∨ (v = .slz ∧ xs = []) ∨ ∃ f, v = .sl s f xs
theorem isS.nil {s : Nat} : isS s .nilsl [] := .inl ⟨rfl, rfl⟩
theorem isS.mk {s : Nat} {f : Bool} {xs : List V} : isS s (.sl s f xs) xs := .inr (.inr ⟨f, rfl⟩)
/-- A copy of a slice. -/
def cloneV (s : Nat) : V → V
  | .slz => .sl s true []
  | .sl _ _ [] => .sl s true []
  | .sl _ _ xs => .sl s false xs
  | v => v
theorem sem_bslice0 {W : AW} {K : V → AW → Prop} {s : Nat} {z : V} (hz : z.cells.length = s) : sem E (.bslice s 0 z []) [] W K = K (.sl s true []) W := by
  simp [sem, rsem, tsem, hz, fillE]
theorem eqn_nil {W : AW} {K : V → AW → Prop} : sem E (.eqn false 1) [.nilsl, .nilsl] W K = K (.bool true) W := by simp [sem, rsem, tsem, eqNil]
theorem eqn_sl {W : AW} {K : V → AW → Prop} {s : Nat} {f : Bool} {xs : List V} : sem E (.eqn false 1) [.sl s f xs, .nilsl] W K = K (.bool false) W := by simp [sem, rsem, tsem, eqNil]
theorem eqn_slz {W : AW} {K : V → AW → Prop} : sem E (.eqn false 1) [.slz, .nilsl] W K = K (.bool false) W := by simp [sem, rsem, tsem, eqNil]
theorem append_z {W : AW} {K : V → AW → Prop} {s by' : Nat} (hs : 0 < s) : sem E (.append s by') [.sl s true [], .slz] W K = K (.sl s true []) W := by
  simp [sem, elemsV, hs]
theorem append_e {W : AW} {K : V → AW → Prop} {s by' : Nat} {f : Bool} (hs : 0 < s) : sem E (.append s by') [.sl s true [], .sl s f []] W K = K (.sl s true []) W := by
  simp [sem, elemsV, hs]
theorem append_c {W : AW} {K : V → AW → Prop} {s by' : Nat} {f : Bool} {x : V} {xs : List V} (hs : 0 < s) (h : (xs.length + 1) * by' ≤ 2 ^ 46) :
    sem E (.append s by') [.sl s true [], .sl s f (x :: xs)] W K = K (.buf false W.nx s (xs.length + 1)) (W.alloc (.buf false s (x :: xs))) := by
  simp [sem, elemsV, hs, h]
theorem frz_buf {W : AW} {s n : Nat} {x : V} {xs : List V} (h : n = xs.length + 1) : (W.alloc (.buf false s (x :: xs))).frz (.buf false W.nx s n) = .sl s false (x :: xs) := by
  subst h; simp [AW.frz, AW.alloc]
theorem clone39_c (hP : E.P = Tryz.prog) (W : AW) (v : V) (xs : List V) (hv : isS 1 v xs) (hb : V.belL W.nx xs = true) (hl : xs.length < 2 ^ 40) : ACalls E 44 [v] W fun X W' => X = cloneV 1 v ∧ W' = W := by
  refine ACalls.of hP Tryz.func44 ok39e (by rcases hv with ⟨rfl, _⟩ | ⟨rfl, _⟩ | ⟨f, rfl⟩ <;> simp) fun _ hok => ?_
  rcases hv with ⟨rfl, rfl⟩ | ⟨rfl, rfl⟩ | ⟨f, rfl⟩
  · simp only [c39, BS, BC, e_seq, cond_if, ↓reduceIte, reduceCtorEq, eqn_nil]
    exact ⟨_, rfl, _, _, .weak weak_id, Nat.le_refl _, rfl, rfl⟩
  · simp only [c39, BS, BC, e_seq, cond_if, ↓reduceIte, Nat.reduceEqDiff, reduceCtorEq, eqn_slz, sem_bslice0 (s := 1) (z := .int .u16 0) rfl, append_z (by decide : 0 < 1)]
    exact ⟨_, rfl, _, _, .weak weak_id, Nat.le_refl _, rfl, rfl⟩
  · cases xs with
    | nil =>
      simp only [c39, BS, BC, e_seq, cond_if, ↓reduceIte, Nat.reduceEqDiff, reduceCtorEq, eqn_sl, sem_bslice0 (s := 1) (z := .int .u16 0) rfl, append_e (by decide : 0 < 1)]
      exact ⟨_, rfl, _, _, .weak weak_id, Nat.le_refl _, rfl, rfl⟩
    | cons x xs =>
      simp only [List.length_cons] at hl
      simp only [c39, BS, BC, e_seq, cond_if, ↓reduceIte, Nat.reduceEqDiff, reduceCtorEq, eqn_sl, sem_bslice0 (s := 1) (z := .int .u16 0) rfl, append_c (by' := 2) (xs := xs) (by decide : 0 < 1) (by omega), frz_buf rfl]
      refine ⟨_, rfl, .sl 1 false (x :: xs), W, ?_, Nat.le_refl _, rfl, rfl⟩
      exact .weak (weak_back hok hb fun z hz => by simp only [AW.alloc]; rw [if_neg (by omega)])
theorem clone32_c (hP : E.P = Tryz.prog) (W : AW) (v : V) (xs : List V) (hv : isS 3 v xs) (hb : V.belL W.nx xs = true) (hl : xs.length < 2 ^ 40) : ACalls E 78 [v] W fun X W' => X = cloneV 3 v ∧ W' = W := by
  refine ACalls.of hP Tryz.func78 ok32e (by rcases hv with ⟨rfl, _⟩ | ⟨rfl, _⟩ | ⟨f, rfl⟩ <;> simp) fun _ hok => ?_
  rcases hv with ⟨rfl, rfl⟩ | ⟨rfl, rfl⟩ | ⟨f, rfl⟩
  · simp only [c32, BS, BC, e_seq, cond_if, ↓reduceIte, reduceCtorEq, eqn_nil]
    exact ⟨_, rfl, _, _, .weak weak_id, Nat.le_refl _, rfl, rfl⟩
  · simp only [c32, BS, BC, e_seq, cond_if, ↓reduceIte, Nat.reduceEqDiff, reduceCtorEq, eqn_slz, sem_bslice0 (s := 3) (z := .agg [.bool false, .int .u8 0, .int .u16 0]) rfl, append_z (by decide : 0 < 3)]
    exact ⟨_, rfl, _, _, .weak weak_id, Nat.le_refl _, rfl, rfl⟩
  · cases xs with
    | nil =>
      simp only [c32, BS, BC, e_seq, cond_if, ↓reduceIte, Nat.reduceEqDiff, reduceCtorEq, eqn_sl, sem_bslice0 (s := 3) (z := .agg [.bool false, .int .u8 0, .int .u16 0]) rfl, append_e (by decide : 0 < 3)]
      exact ⟨_, rfl, _, _, .weak weak_id, Nat.le_refl _, rfl, rfl⟩
    | cons x xs =>
      simp only [List.length_cons] at hl
      simp only [c32, BS, BC, e_seq, cond_if, ↓reduceIte, Nat.reduceEqDiff, reduceCtorEq, eqn_sl, sem_bslice0 (s := 3) (z := .agg [.bool false, .int .u8 0, .int .u16 0]) rfl, append_c (by' := 4) (xs := xs) (by decide : 0 < 3) (by omega), frz_buf rfl]
      refine ⟨_, rfl, .sl 3 false (x :: xs), W, ?_, Nat.le_refl _, rfl, rfl⟩
      exact .weak (weak_back hok hb fun z hz => by simp only [AW.alloc]; rw [if_neg (by omega)])

mutual
theorem bel_up {m n : Nat} (h : m ≤ n) : ∀ (v : V), v.bel m = true → v.bel n = true := by
  intro v hv
  match v, hv with
  | .agg cs, hv => exact belL_up h cs hv
  | .ptr r o, hv => simp only [V.bel, decide_eq_true_eq] at hv ⊢; omega
  | .cptr cs, hv => exact belL_up h cs hv
  | .sl _ _ xs, hv => exact belL_up h xs hv
  | .buf _ r _ _, hv => simp only [V.bel, decide_eq_true_eq] at hv ⊢; omega
  | .slr r _ _ _, hv => simp only [V.bel, decide_eq_true_eq] at hv ⊢; omega
  | .vptr r _, hv => simp only [V.bel, decide_eq_true_eq] at hv ⊢; omega
  | .map r, hv => simp only [V.bel, decide_eq_true_eq] at hv ⊢; omega
  | .fn _ a b, hv => simp only [V.bel, Bool.and_eq_true] at hv ⊢; exact ⟨belL_up h a hv.1, belL_up h b hv.2⟩
  | .tuple vs, hv => exact belL_up h vs hv
  | .iface _ x, hv => exact bel_up h x hv
  | .yld r, hv => simp only [V.bel, decide_eq_true_eq] at hv ⊢; omega
  | .int _ _, _ => rfl
  | .bool _, _ => rfl
  | .str _, _ => rfl
  | .nilsl, _ => rfl
  | .nilptr, _ => rfl
  | .nilmap, _ => rfl
  | .slz, _ => rfl
  | .nilfn, _ => rfl
  | .nilif, _ => rfl
theorem belL_up {m n : Nat} (h : m ≤ n) : ∀ (l : List V), V.belL m l = true → V.belL n l = true := by
  intro l hl
  match l, hl with
  | [], _ => rfl
  | x :: xs, hl => simp only [V.belL, Bool.and_eq_true] at hl ⊢; exact ⟨bel_up h x hl.1, belL_up h xs hl.2⟩
end
/-- Lists, and the copies of them. -/
def isL (v : V) : Prop := v = .nilsl ∨ v = .slz ∨ ∃ f xs, v = .sl 1 f xs ∧ V.belL 0 xs = true ∧ xs.length < 2 ^ 40
def listsV (l : List V) : V := if l = [] then .nilsl else .sl 1 false (l.map (cloneV 1))
theorem sem_bslice1v {W : AW} {K : V → AW → Prop} {x : V} (hx : x.cells.length = 1) : sem E (.bslice 1 1 .nilsl [0]) [x] W K = K (.sl 1 true [x]) W := by
  have h1 : (V.nilsl).cells.length = 1 := rfl
  simp [sem, rsem, tsem, h1, fillE, hx]
theorem cloneV_cells {v : V} (h : isL v) : (cloneV 1 v).cells = [cloneV 1 v] ∧ (cloneV 1 v).one = true := by
  rcases h with rfl | rfl | ⟨f, xs, rfl, _, _⟩
  · exact ⟨rfl, rfl⟩
  · exact ⟨rfl, rfl⟩
  · cases xs <;> exact ⟨rfl, rfl⟩
theorem cloneV_bel {v : V} (h : isL v) (n : Nat) : (cloneV 1 v).bel n = true := by
  rcases h with rfl | rfl | ⟨f, xs, rfl, hb, _⟩
  · rfl
  · rfl
  · cases xs with
    | nil => rfl
    | cons x xs => exact belL_up (Nat.zero_le n) _ hb
theorem frz_cloneV {W : AW} {v : V} (h : isL v) : W.frz (cloneV 1 v) = cloneV 1 v ∧ W.frz v = v := by
  rcases h with rfl | rfl | ⟨f, xs, rfl, _, _⟩
  · exact ⟨rfl, rfl⟩
  · exact ⟨rfl, rfl⟩
  · cases xs <;> exact ⟨rfl, rfl⟩
theorem cloneL_c (hP : E.P = Tryz.prog) (W : AW) (v : V) (h : isL v) : ACalls E 44 [v] W fun X W' => X = cloneV 1 v ∧ W' = W := by
  rcases h with rfl | rfl | ⟨f, xs, rfl, hb, hl⟩
  · exact clone39_c hP W _ [] (.inl ⟨rfl, rfl⟩) rfl (by simp)
  · exact clone39_c hP W _ [] (.inr (.inl ⟨rfl, rfl⟩)) rfl (by simp)
  · exact clone39_c hP W _ xs .mk (belL_up (Nat.zero_le _) _ hb) hl
theorem append_nil1 {W : AW} {K : V → AW → Prop} {by' : Nat} {x : V} (h : by' ≤ 2 ^ 46) : sem E (.append 1 by') [.nilsl, .sl 1 true [x]] W K = K (.buf true W.nx 1 1) (W.alloc (.buf true 1 [x])) := by
  simp [sem, elemsV, h]
theorem append_buf1 {W : AW} {K : V → AW → Prop} {by' r n : Nat} {x : V} {xs : List V} (hg : W.get r = some (.buf true 1 xs)) (hn : n = xs.length) (hx : x.cells.all V.one = true) (h : (n + 1) * by' ≤ 2 ^ 46) :
    sem E (.append 1 by') [.buf true r 1 n, .sl 1 true [x]] W K = K (.buf true r 1 (n + 1)) (W.put r (.buf true 1 (xs ++ [x]))) := by
  subst hn
  simp [sem, elemsV, hg, h, hx]
theorem listsV_bel {l : List V} (hL : ∀ x ∈ l, isL x) (n : Nat) : (listsV l).bel n = true := by
  unfold listsV
  split
  · rfl
  · show V.belL n (l.map (cloneV 1)) = true
    rename_i hne; clear hne
    induction l with
    | nil => rfl
    | cons x xs ih =>
      simp only [List.map_cons, V.belL, Bool.and_eq_true]
      exact ⟨cloneV_bel (hL x (by simp)) n, ih fun y hy => hL y (by simp [hy])⟩
theorem lists_c (hP : E.P = Tryz.prog) (W : AW) (v : V) (l : List V) (hv : isS 1 v l) (hL : ∀ x ∈ l, isL x) (hl : l.length < 2 ^ 40) : ACalls E 74 [v] W fun X W' => X = listsV l ∧ W' = W := by
  refine ACalls.of hP Tryz.func74 ok28e (by rcases hv with ⟨rfl, _⟩ | ⟨rfl, _⟩ | ⟨f, rfl⟩ <;> simp) fun _ hok => ?_
  have hlen : ∀ K : V → AW → Prop, sem E (.len 1 0) [v] W K = K (.int .i64 l.length) W := by
    intro K
    rcases hv with ⟨rfl, rfl⟩ | ⟨rfl, rfl⟩ | ⟨f, rfl⟩
    · exact sem_len_nil 0
    · exact id rfl
    · exact sem_len_sl ..
  simp only [c28, BS, BC, e_seq, ↓reduceIte, reduceCtorEq, hlen]
  rw [e_loop]
  refine ALoop.go (B := awp E _) (fun h => awp_mono _ h) (fun (k : Nat) A1 W1 => A1 5 = some v ∧ A1 6 = some (.int .i64 l.length) ∧ A1 7 = some (.int .i64 k) ∧ k ≤ l.length ∧ W.nx ≤ W1.nx ∧ (∀ x, x < W.nx → W1.get x = W.get x) ∧
    ((k = 0 ∧ A1 2 = some .nilsl) ∨ ∃ r, W.nx ≤ r ∧ r < W1.nx ∧ 0 < k ∧ A1 2 = some (.buf true r 1 k) ∧ W1.get r = some (.buf true 1 ((l.take k).map (cloneV 1))))) (fun k => l.length - k) 0
    ⟨rfl, rfl, rfl, Nat.zero_le _, Nat.le_refl _, fun _ _ => rfl, .inl ⟨rfl, rfl⟩⟩ ?_
  rintro k A1 W1 ⟨g5, g6, g7, gk, gn, gw, g2⟩ _
  by_cases h : k < l.length
  · obtain ⟨f, rfl⟩ : ∃ f, v = .sl 1 f l := by
      rcases hv with ⟨_, rfl⟩ | ⟨_, rfl⟩ | hv
      · simp at h
      · simp at h
      · exact hv
    have hx : l[k]? = some l[k] := List.getElem?_eq_getElem h
    have hLk := hL l[k] (List.getElem_mem h)
    have hi : ∀ K : V → AW → Prop, sem E (.idxp 1) [.sl 1 f l, .int .i64 (k : Int)] W1 K = K (.cptr l[k].cells) W1 := fun K => sem_idxp_sl (by omega) (by rw [Int.toNat_natCast]; exact hx)
    have hld : ∀ K : V → AW → Prop, sem E (.load false 1) [.cptr l[k].cells] W1 K = K l[k] W1 := by
      intro K
      rcases hLk with h1 | h1 | ⟨f, xs, h1, _, _⟩ <;> rw [h1] <;> rfl
    have hfz := frz_cloneV (W := W1) hLk
    have hc := cloneV_cells hLk
    have hc1 : (cloneV 1 l[k]).cells.length = 1 := by rw [hc.1]; rfl
    have hc2 : (cloneV 1 l[k]).cells.all V.one = true := by rw [hc.1]; simp [hc.2]
    have htk : (l.take (k + 1)).map (cloneV 1) = (l.take k).map (cloneV 1) ++ [cloneV 1 l[k]] := by
      rw [List.take_add_one, hx]; simp only [Option.toList_some, List.map_append, List.map_cons, List.map_nil]
    have hlk : ((l.take k).map (cloneV 1)).length = k := by simp; omega
    rcases g2 with ⟨rfl, g2⟩ | ⟨r, r1, r2, r3, g2, rg⟩
    · simp (maxSteps := 2000000) (disch := omega) only [BS, BC, e_seq, cond_if, ↓reduceIte, Nat.reduceEqDiff, g2, g5, g6, g7, clt, h, decide_true, hi, hld, hfz.2]
      refine (cloneL_c hP W1 _ hLk).mono ?_
      rintro X W' ⟨rfl, rfl⟩
      simp (maxSteps := 2000000) (disch := omega) only [BS, ↓reduceIte, Nat.reduceEqDiff, g5, g6, g7, sem_bslice1v hc1, append_nil1 (by' := 24) (by decide), wadd1]
      refine ⟨1, ⟨trivial, trivial, rfl, h, by rw [alloc_nx]; omega, fun x hx => ?_, .inr ⟨W'.nx, gn, by rw [alloc_nx]; omega, by decide, rfl, ?_⟩⟩, by omega, by rw [alloc_nx]; omega⟩
      · rw [alloc_lt (by omega)]; exact gw x hx
      · rw [alloc_at, htk]; rfl
    · simp (maxSteps := 2000000) (disch := omega) only [BS, BC, e_seq, cond_if, ↓reduceIte, Nat.reduceEqDiff, g2, g5, g6, g7, clt, h, decide_true, hi, hld, hfz.2]
      refine (cloneL_c hP W1 _ hLk).mono ?_
      rintro X W' ⟨rfl, rfl⟩
      simp (maxSteps := 2000000) (disch := omega) only [BS, ↓reduceIte, Nat.reduceEqDiff, g5, g6, g7, sem_bslice1v hc1, append_buf1 (by' := 24) rg hlk.symm hc2 (by omega), wadd1]
      refine ⟨k + 1, ⟨trivial, trivial, rfl, h, by rw [put_nx]; omega, fun x hx => ?_, .inr ⟨r, r1, by rw [put_nx]; omega, by omega, rfl, ?_⟩⟩, by omega, by rw [put_nx]; omega⟩
      · rw [put_ne (by omega)]; exact gw x hx
      · rw [put_at, htk]
  · obtain rfl : k = l.length := by omega
    rcases g2 with ⟨h0, g2⟩ | ⟨r, r1, r2, r3, g2, rg⟩
    · have hl0 : l = [] := List.length_eq_zero_iff.1 h0
      simp (maxSteps := 2000000) (disch := omega) only [BS, BC, e_seq, cond_if, ↓reduceIte, Nat.reduceEqDiff, g2, g6, g7, clt, h, decide_false]
      exact ⟨_, rfl, .nilsl, W, .weak (weak_back hok rfl gw), Nat.le_refl _, by rw [hl0]; rfl, rfl⟩
    · have hne : l ≠ [] := fun e => by subst e; simp at r3
      have hfr : W1.frz (.buf true r 1 l.length) = listsV l := by
        have he : (l.map (cloneV 1)).isEmpty = false := by cases l <;> simp_all
        rw [List.take_length] at rg
        simp [AW.frz, rg, listsV, hne]
      simp (maxSteps := 2000000) (disch := omega) only [BS, BC, e_seq, cond_if, ↓reduceIte, Nat.reduceEqDiff, g2, g6, g7, clt, h, decide_false, hfr]
      exact ⟨_, rfl, _, W, .weak (weak_back hok (listsV_bel hL _) gw), Nat.le_refl _, rfl, rfl⟩
end Go.AL.S
set_option maxRecDepth 100000
namespace Go.AL.S
open Go Go.AL Go.Proofs
/-! worlds that grew: a base, and what was made since -/
def rf (n k : Nat) : Nat := n + k
def X (W : AW) (n : Nat) (l : List AObj) : AW := ⟨fun r => if r < n then W.get r else l[r - n]?, n + l.length⟩
def optK {α : Type} (o : Option α) (k : α → Prop) : Prop := match o with
  | some v => k v
  | none => False
def loadK (o : Option AObj) (off : Nat) (g : Bool) (s : Nat) (k : V → Prop) : Prop := match o with
  | some (.row cells) => optK (partV cells off s g) k
  | _ => False
def storeK (o : Option AObj) (off s : Nat) (x : V) (k : AObj → Prop) : Prop := match o with
  | some (.row cells) => x.cells.length = s ∧ x.cells.all V.one = true ∧ off + s ≤ cells.length ∧ k (.row (cells.take off ++ x.cells ++ cells.drop (off + s)))
  | _ => False
section
variable {E : Env} {W : AW} {K : V → AW → Prop} {n : Nat} {l : List AObj}
theorem optK_some {α : Type} {v : α} {k : α → Prop} : optK (some v) k = k v := id rfl
theorem aw_ext {W W' : AW} (h : ∀ r, W.get r = W'.get r) (hn : W.nx = W'.nx) : W = W' := by
  cases W; cases W'
  simp only [AW.mk.injEq]
  exact ⟨funext h, hn⟩
theorem X_gets (r : Nat) : (X W n l).get r = if r < n then W.get r else l[r - n]? := id rfl
theorem X_nx : (X W n l).nx = rf n l.length := id rfl
theorem al_gets (o : AObj) (r : Nat) : (W.alloc o).get r = if r = W.nx then some o else W.get r := id rfl
theorem pu_gets (o : AObj) (p r : Nat) : (W.put p o).get r = if r = p then some o else W.get r := id rfl
theorem X_start (h : W.ok) : W = X W W.nx [] := by
  refine aw_ext (fun r => ?_) rfl
  rw [X_gets]
  by_cases hr : r < W.nx
  · simp [hr]
  · simp only [hr, if_false]
    cases hg : W.get r with
    | none => simp
    | some o => exact absurd (h r o hg).1 hr
theorem X_alloc {o : AObj} : (X W n l).alloc o = X W n (l ++ [o]) := by
  refine aw_ext (fun r => ?_) (by simp [AW.alloc, X, Nat.add_assoc])
  rw [X_gets, al_gets, X_gets, X_nx, rf]
  by_cases h : r = n + l.length
  · subst h
    rw [if_pos rfl, if_neg (by omega)]
    simp
  · simp only [h, if_false]
    by_cases h2 : r < n
    · simp [h2]
    · simp only [h2, if_false]
      rw [List.getElem?_append]
      split
      · rfl
      · rw [List.getElem?_eq_none (by omega), List.getElem?_eq_none (by simp; omega)]
theorem X_get {k : Nat} : (X W n l).get (rf n k) = l[k]? := by
  simp only [X, rf]
  rw [if_neg (by omega), Nat.add_sub_cancel_left]
theorem X_old {p : Nat} (h : p < n) : (X W n l).get p = W.get p := by
  simp only [X]; rw [if_pos h]
theorem X_put {k : Nat} {o : AObj} (h : k < l.length) : (X W n l).put (rf n k) o = X W n (l.set k o) := by
  refine aw_ext (fun r => ?_) (by simp [AW.put, X])
  rw [X_gets, pu_gets, X_gets, rf]
  by_cases h1 : r = n + k
  · subst h1
    rw [if_pos rfl, if_neg (by omega)]
    simp [h]
  · simp only [h1, if_false]
    by_cases h2 : r < n
    · simp [h2]
    · simp only [h2, if_false]
      rw [List.getElem?_set_ne (by omega)]
def AW.pt (W : AW) (r : Nat) (o : AObj) : AW := W.put r o
theorem X_put1 {k : Nat} {o : AObj} : (X W n l).put (rf n k) o = if k < l.length then X W n (l.set k o) else AW.pt (X W n l) (rf n k) o := by
  split
  · rename_i h; exact X_put h
  · rfl
theorem X_putold {p : Nat} {o : AObj} (h : p < n) : (X W n l).put p o = X (W.put p o) n l := by
  refine aw_ext (fun r => ?_) rfl
  rw [X_gets, pu_gets, X_gets, pu_gets]
  by_cases h1 : r = p
  · subst h1; simp [h]
  · simp [h1]
theorem m_load {g : Bool} {s r off : Nat} : sem E (.load g s) [.ptr r off] W K = loadK (W.get r) off g s (fun v => K v W) := by
  simp only [sem, rsem, loadK]
  cases h : W.get r with
  | none => rfl
  | some o =>
    cases o <;> simp [optK]
    case row cells => cases partV cells off s g <;> rfl
theorem loadK_f {s off : Nat} {cells : List V} {k : V → Prop} : loadK (some (.row cells)) off false s k = optK cells[off]? k := id rfl
theorem loadK_t {s off : Nat} {cells : List V} {k : V → Prop} : loadK (some (.row cells)) off true s k = if off + s ≤ cells.length then k (.agg ((cells.drop off).take s)) else False := by
  simp only [loadK, partV, if_true]
  split <;> rfl
theorem partV_f {s off : Nat} {cells : List V} : partV cells off s false = cells[off]? := id rfl
theorem partV_t {s off : Nat} {cells : List V} : partV cells off s true = if off + s ≤ cells.length then some (.agg ((cells.drop off).take s)) else none := id rfl
theorem m_loadc {g : Bool} {s : Nat} {cells : List V} : sem E (.load g s) [.cptr cells] W K = optK (partV cells 0 s g) (fun v => K v W) := by
  simp only [sem, rsem, tsem]
  cases partV cells 0 s g <;> rfl
theorem m_loadcf {s : Nat} {c : V} {cs : List V} : sem E (.load false s) [.cptr (c :: cs)] W K = K c W := id rfl
theorem m_loadct {s : Nat} {c : V} {cs : List V} : sem E (.load true s) [.cptr (c :: cs)] W K = if s ≤ (c :: cs).length then K (.agg ((c :: cs).take s)) W else False := by
  rw [m_loadc, partV_t, Nat.zero_add, List.drop_zero]
  split <;> rfl
theorem m_store {s r off : Nat} {x : V} : sem E (.store s) [.ptr r off, x] W K = storeK (W.get r) off s x (fun o => K .undef (W.put r o)) := by
  simp only [sem, storeK]
  cases h : W.get r with
  | none => rfl
  | some o => cases o <;> rfl
theorem storeK_row {s off : Nat} {x : V} {cells : List V} {k : AObj → Prop} : storeK (some (.row cells)) off s x k = if x.cells.length = s then (if x.cells.all V.one = true then (if off + s ≤ cells.length then k (.row (cells.take off ++ x.cells ++ cells.drop (off + s))) else False) else False) else False := by
  simp only [storeK]
  by_cases h1 : x.cells.length = s <;> by_cases h2 : x.cells.all V.one = true <;> by_cases h3 : off + s ≤ cells.length <;> simp [h1, h2, h3]
theorem m_fldc {off : Nat} {cells : List V} : sem E (.fld off) [.cptr cells] W K = if off ≤ cells.length then K (.cptr (cells.drop off)) W else False := by
  simp only [sem, rsem, tsem]
  by_cases h : off ≤ cells.length <;> simp [h]
theorem m_fldcc {off : Nat} {c : V} {cs : List V} : sem E (.fld off) [.cptr (c :: cs)] W K = if off ≤ (c :: cs).length then K (.cptr ((c :: cs).drop off)) W else False := m_fldc
theorem m_idxpN {s : Nat} {f : Bool} {xs : List V} {kk : IntKind} {i : Nat} : sem E (.idxp s) [.sl s f xs, .int kk (i : Int)] W K = optK xs[i]? (fun x => K (.cptr x.cells) W) := by
  simp only [sem, rsem, tsem, true_and, Int.natCast_nonneg, if_true, Int.toNat_natCast]
  cases xs[i]? <;> rfl
theorem m_pcall {f : FuncId} {vs : List V} : sem E (.pcall f) vs W K = ∃ v, ACalls E f (vs.map W.frz) W (fun X W' => X = v ∧ W' = W) ∧ K v W := id rfl
theorem m_build {zero : List V} {places : List (Nat × Nat)} {xs : List V} : sem E (.build zero places) xs W K = optK (fillV zero places xs) (fun cs => K (.agg cs) W) := by
  simp only [sem, rsem, tsem]
  cases fillV zero places xs <;> rfl
theorem fillV_nil {cells : List V} : fillV cells [] [] = some cells := id rfl
theorem fillV_cons {cells : List V} {off s : Nat} {ps : List (Nat × Nat)} {x : V} {xs : List V} : fillV cells ((off, s) :: ps) (x :: xs) = if x.cells.length = s then (if off + s ≤ cells.length then fillV (cells.take off ++ x.cells ++ cells.drop (off + s)) ps xs else none) else none := by
  simp only [fillV]
  by_cases h1 : x.cells.length = s <;> by_cases h3 : off + s ≤ cells.length <;> simp [h1, h3]
theorem m_eqn {neg : Bool} {cat : Nat} {x y : V} : sem E (.eqn neg cat) [x, y] W K = optK (eqNil cat x y) (fun b => K (.bool (if neg = true then !b else b)) W) := by
  simp only [sem, rsem, tsem]
  cases eqNil cat x y <;> rfl
theorem eqNil_pn {r o : Nat} : eqNil 0 (.ptr r o) .nilptr = some false := id rfl
theorem eqNil_nn : eqNil 0 .nilptr .nilptr = some true := id rfl
theorem eqNil_mn {r : Nat} : eqNil 2 (.map r) .nilmap = some false := id rfl
theorem eqNil_fn {f : Fn} {a b : List V} : eqNil 3 (.fn f a b) .nilfn = some false := id rfl
theorem cells_int {k : IntKind} {a : Int} : (V.int k a).cells = [.int k a] := id rfl
theorem cells_bool {b : Bool} : (V.bool b).cells = [.bool b] := id rfl
theorem cells_agg {cs : List V} : (V.agg cs).cells = cs := id rfl
theorem cells_nilsl : V.nilsl.cells = [.nilsl] := id rfl
theorem cells_sl {s : Nat} {f : Bool} {xs : List V} : (V.sl s f xs).cells = [.sl s f xs] := id rfl
theorem cells_ptr {r o : Nat} : (V.ptr r o).cells = [.ptr r o] := id rfl
theorem cells_map {r : Nat} : (V.map r).cells = [.map r] := id rfl
theorem cells_fn {f : Fn} {a b : List V} : (V.fn f a b).cells = [.fn f a b] := id rfl
theorem cells_nilfn : V.nilfn.cells = [.nilfn] := id rfl
theorem one_int {k : IntKind} {a : Int} : (V.int k a).one = true := id rfl
theorem one_bool {b : Bool} : (V.bool b).one = true := id rfl
theorem one_nilsl : V.nilsl.one = true := id rfl
theorem one_sl {s : Nat} {f : Bool} {xs : List V} : (V.sl s f xs).one = true := id rfl
theorem one_ptr {r o : Nat} : (V.ptr r o).one = true := id rfl
theorem one_map {r : Nat} : (V.map r).one = true := id rfl
theorem one_fn {f : Fn} {a b : List V} : (V.fn f a b).one = true := id rfl
theorem one_nilfn : V.nilfn.one = true := id rfl
def cellV (o : Option AObj) (off : Nat) (g : Bool) (s : Nat) : Option V := match o with
  | some (.row cells) => partV cells off s g
  | _ => none
theorem cellV_row {off s : Nat} {g : Bool} {cells : List V} : cellV (some (.row cells)) off g s = partV cells off s g := id rfl
theorem rsem_load {g : Bool} {s r off : Nat} : rsem (.load g s) [.ptr r off] W = cellV (W.get r) off g s := by
  simp only [rsem, cellV]
  cases W.get r with
  | none => rfl
  | some o => cases o <;> rfl
theorem rt_cell {A : AFr} {t s : Nat} {g : Bool} : RT.ev A W (.cell t g s) = (match A t with
    | some p => (rsem (.load g s) [p] W).map W.frz
    | none => none) := id rfl
theorem rt_tmp {A : AFr} {t : Nat} : RT.ev A W (.tmp t) = (A t).map W.frz := id rfl
theorem e_resc2 {A : AFr} {t s : Nat} {g : Bool} {b : RT} : resV A W [.cell t g s, b] = (match RT.ev A W (.cell t g s), RT.ev A W b with
    | some x, some y => some (.tuple [x, y])
    | _, _ => none) := by
  simp only [resV, resL]
  cases RT.ev A W (.cell t g s) <;> cases RT.ev A W b <;> rfl
theorem e_resc {A : AFr} {t s : Nat} {g : Bool} : resV A W [.cell t g s] = RT.ev A W (.cell t g s) := by
  simp only [resV, resL]
  cases RT.ev A W (.cell t g s) <;> rfl
theorem undef_t : V.undef = .tuple [] := id rfl
theorem e_alt {a b : PT} {Kf : AFr → AW → Prop} {A : AFr} : aT E (.alt a b) Kf A W = (aT E a Kf A W ∧ aT E b Kf A W) := id rfl
theorem awp_start {c : AC} {Q : Exit → AFr → AW → Prop} {A : AFr} (hok : W.ok) (h : awp E c Q A (X W W.nx [])) : awp E c Q A W := by
  rw [X_start hok]; exact h
theorem backX {x : V} (hok : W.ok) (hx : x.bel W.nx = true) : RetV x (X W W.nx l) x W := .weak (weak_back hok hx fun _ h => X_old h)
end
end Go.AL.S
set_option maxRecDepth 100000
namespace Go.AL.S
open Go Go.AL Go.Proofs
/-- Rules for worlds that grow, in one. -/
theorem BM : (type_of% @X_alloc) ∧ (type_of% @X_nx) ∧ (type_of% @X_get) ∧ (type_of% @X_put1) ∧ (type_of% @X_old) ∧ (type_of% @X_putold) ∧ (type_of% @m_load) ∧ (type_of% @loadK_f) ∧ (type_of% @loadK_t) ∧ (type_of% @optK_some) ∧ (type_of% @m_loadcf) ∧ (type_of% @m_loadct) ∧ (type_of% @partV_f) ∧ (type_of% @partV_t) ∧ (type_of% @m_store) ∧ (type_of% @storeK_row) ∧ (type_of% @m_fldcc) ∧ (type_of% @m_idxpN) ∧ (type_of% @m_build) ∧ (type_of% @fillV_nil) ∧ (type_of% @fillV_cons) ∧ (type_of% @m_eqn) ∧ (type_of% @eqNil_pn) ∧ (type_of% @eqNil_nn) ∧ (type_of% @eqNil_mn) ∧ (type_of% @eqNil_fn) ∧ (type_of% @cells_int) ∧ (type_of% @cells_bool) ∧ (type_of% @cells_agg) ∧ (type_of% @cells_nilsl) ∧ (type_of% @cells_sl) ∧ (type_of% @cells_ptr) ∧ (type_of% @cells_map) ∧ (type_of% @cells_fn) ∧ (type_of% @cells_nilfn) ∧ (type_of% @one_int) ∧ (type_of% @one_bool) ∧ (type_of% @one_nilsl) ∧ (type_of% @one_sl) ∧ (type_of% @one_ptr) ∧ (type_of% @one_map) ∧ (type_of% @one_fn) ∧ (type_of% @one_nilfn) ∧ (type_of% @undef_t) ∧ (type_of% @e_alt) ∧ (type_of% @e_resc) ∧ (type_of% @e_resc2) ∧ (type_of% @rt_cell) ∧ (type_of% @rt_tmp) ∧ (type_of% @rsem_load) ∧ (type_of% @cellV_row) ∧ (type_of% @partV_f) ∧ (type_of% @partV_t) :=
  ⟨@X_alloc, @X_nx, @X_get, @X_put1, @X_old, @X_putold, @m_load, @loadK_f, @loadK_t, @optK_some, @m_loadcf, @m_loadct, @partV_f, @partV_t, @m_store, @storeK_row, @m_fldcc, @m_idxpN, @m_build, @fillV_nil, @fillV_cons, @m_eqn, @eqNil_pn, @eqNil_nn, @eqNil_mn, @eqNil_fn, @cells_int, @cells_bool, @cells_agg, @cells_nilsl, @cells_sl, @cells_ptr, @cells_map, @cells_fn, @cells_nilfn, @one_int, @one_bool, @one_nilsl, @one_sl, @one_ptr, @one_map, @one_fn, @one_nilfn, @undef_t, @e_alt, @e_resc, @e_resc2, @rt_cell, @rt_tmp, @rsem_load, @cellV_row, @partV_f, @partV_t⟩
theorem BD : (type_of% @List.cons_append.{0}) ∧ (type_of% @List.nil_append.{0}) ∧ (type_of% @List.append_nil.{0}) ∧ (type_of% @List.length_cons.{0}) ∧ (type_of% @List.length_nil.{0}) ∧ (type_of% @List.length_append.{0}) ∧ (type_of% @Nat.zero_add) ∧ (type_of% @Nat.add_zero) ∧ (type_of% @List.set_cons_zero.{0}) ∧ (type_of% @List.set_cons_succ.{0}) ∧ (type_of% @List.drop_succ_cons.{0}) ∧ (type_of% @List.drop_zero.{0}) ∧ (type_of% @List.drop_nil.{0}) ∧ (type_of% @List.take_succ_cons.{0}) ∧ (type_of% @List.take_zero.{0}) ∧ (type_of% @List.take_nil.{0}) ∧ (type_of% @List.all_cons.{0}) ∧ (type_of% @List.all_nil.{0}) ∧ (type_of% @Bool.and_true) ∧ (type_of% @Bool.true_and) ∧ (type_of% @Bool.and_self) ∧ (type_of% @Bool.not_true) ∧ (type_of% @Bool.not_false) :=
  ⟨@List.cons_append.{0}, @List.nil_append.{0}, @List.append_nil.{0}, @List.length_cons.{0}, @List.length_nil.{0}, @List.length_append.{0}, @Nat.zero_add, @Nat.add_zero, @List.set_cons_zero.{0}, @List.set_cons_succ.{0}, @List.drop_succ_cons.{0}, @List.drop_zero.{0}, @List.drop_nil.{0}, @List.take_succ_cons.{0}, @List.take_zero.{0}, @List.take_nil.{0}, @List.all_cons.{0}, @List.all_nil.{0}, @Bool.and_true, @Bool.true_and, @Bool.and_self, @Bool.not_true, @Bool.not_false⟩
end Go.AL.S
set_option maxRecDepth 100000
namespace Go.AL.S
open Go Go.AL Go.Proofs
/-! slices that are read alone -/
section
variable {E : Env} {W : AW} {K : V → AW → Prop} {s : Nat} {v : V} {xs : List V}
theorem isS.len (h : isS s v xs) {n : Nat} : sem E (.len 1 n) [v] W K = K (.int .i64 xs.length) W := by
  rcases h with ⟨rfl, rfl⟩ | ⟨rfl, rfl⟩ | ⟨f, rfl⟩ <;> rfl
theorem isS.idx (h : isS s v xs) {k : Nat} {x : V} {kk : IntKind} (hx : xs[k]? = some x) : sem E (.idxp s) [v, .int kk (k : Int)] W K = K (.cptr x.cells) W := by
  rcases h with ⟨rfl, rfl⟩ | ⟨rfl, rfl⟩ | ⟨f, rfl⟩
  · simp at hx
  · simp at hx
  · rw [m_idxpN, hx]; rfl
theorem isS.frz (h : isS s v xs) : W.frz v = v := by
  rcases h with ⟨rfl, rfl⟩ | ⟨rfl, rfl⟩ | ⟨f, rfl⟩ <;> rfl
theorem isS.cells (h : isS s v xs) : v.cells = [v] := by
  rcases h with ⟨rfl, rfl⟩ | ⟨rfl, rfl⟩ | ⟨f, rfl⟩ <;> rfl
theorem isS.one (h : isS s v xs) : v.one = true := by
  rcases h with ⟨rfl, rfl⟩ | ⟨rfl, rfl⟩ | ⟨f, rfl⟩ <;> rfl
theorem isS.lens (h : isS s v xs) {n : Nat} (hl : V.belL n xs = true) : v.bel n = true := by
  rcases h with ⟨rfl, rfl⟩ | ⟨rfl, rfl⟩ | ⟨f, rfl⟩
  · rfl
  · rfl
  · exact hl
theorem isS.loadf (h : isS s v xs) {m : Nat} : sem E (.load false m) [.cptr v.cells] W K = K v W := by
  rcases h with ⟨rfl, rfl⟩ | ⟨rfl, rfl⟩ | ⟨f, rfl⟩ <;> rfl
end
/-- A call that leaves the world as it is. -/
theorem pc {E : Env} {W : AW} {f : FuncId} {vs : List V} {Q : V → AW → Prop} {v : V} (h : ACalls E f vs W fun X W' => X = v ∧ W' = W) (hq : Q v W) : ACalls E f vs W Q :=
  h.mono fun _ _ ⟨h1, h2⟩ => by rw [h1, h2]; exact hq
structure Mi where
  read : Bool
  key : Int
  v : Int
  deriving DecidableEq
def Mi.V (m : Mi) : V := .agg [.bool m.read, .int .u8 m.key, .int .u16 m.v]
def Mi.ok (m : Mi) : Prop := 0 ≤ m.key ∧ m.key < 256 ∧ 0 ≤ m.v ∧ m.v < 65536
section
variable {E : Env} {W : AW} {K : V → AW → Prop} {m m' : Mi}
theorem mi_load : sem E (.load true 3) [.cptr m.V.cells] W K = K m.V W := id rfl
theorem mi_frz : W.frz m.V = m.V := id rfl
theorem mi_has (h : m.ok) : m.V.has (true, [.b, .i .u8, .i .u16]) = true := by
  obtain ⟨h1, h2, h3, h4⟩ := h
  simp [Mi.V, V.has, V.isAgg, V.cells, V.hasKs, V.hasK, Lit.wf, IntKind.min, IntKind.max, IntKind.signed, IntKind.bits]
  omega
theorem mi_keq : m.V.keq m'.V = decide (m = m') := by
  cases m; cases m'
  rename_i a b c a' b' c'
  have hd : decide (Mi.mk a b c = Mi.mk a' b' c') = (decide (a = a') && (decide (b = b') && decide (c = c'))) := by
    simp only [Mi.mk.injEq, Bool.decide_and]
  rw [hd]
  simp only [Mi.V, V.keq, V.cells, V.eqs, V.eq1, Bool.and_true]
  have h1 : (a == a') = decide (a = a') := by cases a <;> cases a' <;> rfl
  have h2 : (b == b') = decide (b = b') := by by_cases e : b = b' <;> simp [e]
  have h3 : (c == c') = decide (c = c') := by by_cases e : c = c' <;> simp [e]
  rw [h1, h2, h3]
theorem mi_eqv (h : m.ok) (h' : m'.ok) {neg : Bool} : sem E (.eqv neg (true, [.b, .i .u8, .i .u16])) [m.V, m'.V] W K = K (.bool (if neg = true then !decide (m = m') else decide (m = m'))) W := by
  simp [sem, rsem, tsem, mi_has h, mi_has h', mi_keq]
end
theorem cmpne {a b : Int} : (a != b) = decide (a ≠ b) := by
  by_cases e : a = b <;> simp [e]
theorem cmpeq {a b : Int} : (a == b) = decide (a = b) := by
  by_cases e : a = b <;> simp [e]
/-! lists of lists, as they come in and as they are kept -/
def intsV (l : List Int) : List V := l.map (V.int .u16)
def isEl (v : V) (o : Option (List Int)) : Prop := (v = .nilsl ∧ o = none) ∨ (v = .slz ∧ o = some []) ∨ ∃ f l, o = some l ∧ v = .sl 1 f (intsV l)
def nums (o : Option (List Int)) : List Int := o.getD []
theorem isEl.isS {v : V} {o : Option (List Int)} (h : isEl v o) : isS 1 v (intsV (nums o)) := by
  rcases h with ⟨rfl, rfl⟩ | ⟨rfl, rfl⟩ | ⟨f, l, rfl, rfl⟩
  · exact .inl ⟨rfl, rfl⟩
  · exact .inr (.inl ⟨rfl, rfl⟩)
  · exact .mk
theorem belL_ints (l : List Int) (n : Nat) : V.belL n (intsV l) = true := by
  induction l with
  | nil => rfl
  | cons x l ih =>
    simp only [intsV, List.map_cons, V.belL, Bool.and_eq_true]
    exact ⟨rfl, ih⟩
theorem belL_mi (l : List Mi) (n : Nat) : V.belL n (l.map Mi.V) = true := by
  induction l with
  | nil => rfl
  | cons x l ih =>
    simp only [List.map_cons, V.belL, Bool.and_eq_true]
    exact ⟨rfl, ih⟩
def isMs (v : V) (l : List Mi) : Prop := isS 3 v (l.map Mi.V)
def isLs (v : V) (ls : List (Option (List Int))) : Prop := ∃ xs, isS 1 v xs ∧ xs.length = ls.length ∧ ∀ k (h : k < xs.length) (h' : k < ls.length), isEl xs[k] ls[k]
def elV : Option (List Int) → V
  | none => .nilsl
  | some l => .sl 1 l.isEmpty (intsV l)
def lsV (ls : List (Option (List Int))) : V := if ls = [] then .nilsl else .sl 1 false (ls.map elV)
def msV (l : List Mi) : V := if l = [] then .nilsl else .sl 3 false (l.map Mi.V)
theorem elV_isEl (o : Option (List Int)) : isEl (elV o) o := by
  cases o with
  | none => exact .inl ⟨rfl, rfl⟩
  | some l => exact .inr (.inr ⟨_, l, rfl, rfl⟩)
theorem lsV_isLs (ls : List (Option (List Int))) : isLs (lsV ls) ls := by
  refine ⟨ls.map elV, ?_, by simp, fun k h h' => ?_⟩
  · unfold lsV
    split
    · rename_i h; subst h; exact .inl ⟨rfl, rfl⟩
    · exact .mk
  · rw [List.getElem_map]; exact elV_isEl _
theorem msV_isMs (l : List Mi) : isMs (msV l) l := by
  unfold msV isMs
  split
  · rename_i h; subst h; exact .inl ⟨rfl, rfl⟩
  · exact .mk
theorem mi_at {l : List Mi} {k : Nat} (h : k < l.length) : (l.map Mi.V)[k]? = some (l[k]).V := by simp [h]
theorem int_at {l : List Int} {k : Nat} (h : k < l.length) : (intsV l)[k]? = some (.int .u16 l[k]) := by simp [intsV, h]
theorem ints_len (l : List Int) : (intsV l).length = l.length := by simp [intsV]
end Go.AL.S
set_option maxRecDepth 100000
namespace Go.AL.S
open Go Go.AL Go.RowKit
/-! what comes in, read as values -/
inductive Sh where
  | bool
  | int (k : IntKind)
  | sl (e : Sh)
  | st (l : List Sh)
mutual
def Sh.n : Sh → Nat
  | .st l => Sh.nL l
  | _ => 1
def Sh.nL : List Sh → Nat
  | [] => 0
  | s :: l => s.n + Sh.nL l
end
def Sh.agg : Sh → Bool
  | .st _ => true
  | _ => false
def Sh.val (s : Sh) (ws : List V) : V := if s.agg = true then .agg ws else ws.headD default
mutual
def Sh.Is : Sh → List V → Prop
  | .bool, vs => ∃ b, vs = [.bool b]
  | .int k, vs => ∃ n, vs = [.int k n] ∧ (Lit.int k n).wf = true
  | .sl e, vs => ∃ v xs, vs = [v] ∧ isS e.n v xs ∧ xs.length < 2 ^ 48 ∧ ∀ x ∈ xs, ∃ ws, e.Is ws ∧ x = e.val ws
  | .st l, vs => Sh.IsL l vs
def Sh.IsL : List Sh → List V → Prop
  | [], vs => vs = []
  | s :: l, vs => ∃ a b, vs = a ++ b ∧ s.Is a ∧ Sh.IsL l b
end
mutual
def Sh.Ty (P : Program) : Sh → TypeId → Prop
  | .bool, t => P.underlying t = some .bool ∧ P.cellsOf t = 1
  | .int k, t => P.underlying t = some (.int k) ∧ P.cellsOf t = 1
  | .sl e, t => ∃ te, P.underlying t = some (.slice te) ∧ e.Ty P te ∧ 0 < e.n ∧ P.cellsOf t = 1 ∧ 0 < P.bytesOf te
  | .st l, t => (∃ fs, P.underlying t = some (.struct fs) ∧ P.cellsOf t = Sh.nL l ∧ Sh.TyL P l 0 fs.toList) ∨
      (∃ n e te, l = List.replicate n e ∧ P.underlying t = some (.array n te) ∧ P.cellsOf t = Sh.nL l ∧ Sh.TyR P l te)
def Sh.TyL (P : Program) : List Sh → Nat → List Field → Prop
  | [], _, fs => fs = []
  | s :: l, off, fs => ∃ f r, fs = f :: r ∧ f.offset = off ∧ s.Ty P f.type ∧ Sh.TyL P l (off + s.n) r
def Sh.TyR (P : Program) : List Sh → TypeId → Prop
  | [], _ => True
  | s :: l, t => s.Ty P t ∧ Sh.TyR P l t
end
theorem Sh.Ty.cells {P : Program} : ∀ {s : Sh} {t : TypeId}, s.Ty P t → P.cellsOf t = s.n
  | .bool, _, h => h.2
  | .int _, _, h => h.2
  | .sl _, _, ⟨_, _, _, _, h, _⟩ => h
  | .st _, _, .inl ⟨_, _, h, _⟩ => h
  | .st _, _, .inr ⟨_, _, _, _, _, h, _⟩ => h
mutual
theorem Sh.Is.len : ∀ {s : Sh} {vs : List V}, s.Is vs → vs.length = s.n
  | .bool, _, ⟨_, h⟩ => by rw [h]; rfl
  | .int _, _, ⟨_, h, _⟩ => by rw [h]; rfl
  | .sl _, _, ⟨_, _, h, _⟩ => by rw [h]; rfl
  | .st l, _, h => Sh.IsL.len (l := l) h
theorem Sh.IsL.len : ∀ {l : List Sh} {vs : List V}, Sh.IsL l vs → vs.length = Sh.nL l
  | [], _, h => by rw [show _ = ([] : List V) from h]; rfl
  | s :: l, _, ⟨a, b, h, h1, h2⟩ => by rw [h, List.length_append, Sh.Is.len h1, Sh.IsL.len h2]; rfl
end
theorem belL_app {n : Nat} : ∀ {a b : List V}, V.belL n a = true → V.belL n b = true → V.belL n (a ++ b) = true
  | [], _, _, h => h
  | x :: a, b, h, h' => by
    simp only [V.belL, List.cons_append, Bool.and_eq_true] at h ⊢
    exact ⟨h.1, belL_app h.2 h'⟩
theorem belL_all {n : Nat} : ∀ {a : List V}, (∀ x ∈ a, x.bel n = true) → V.belL n a = true
  | [], _ => rfl
  | x :: a, h => by
    simp only [V.belL, Bool.and_eq_true]
    exact ⟨h x (by simp), belL_all fun y hy => h y (by simp [hy])⟩
theorem Sh.val_bel {s : Sh} {ws : List V} {n : Nat} (h : V.belL n ws = true) (hl : s.agg = false → ws ≠ []) : (s.val ws).bel n = true := by
  unfold Sh.val
  split
  · exact h
  · rename_i hs
    cases ws with
    | nil => exact absurd rfl (hl (by simpa using hs))
    | cons w ws =>
      simp only [V.belL, Bool.and_eq_true] at h
      exact h.1
mutual
theorem Sh.Is.bel {n : Nat} : ∀ {s : Sh} {vs : List V}, s.Is vs → V.belL n vs = true
  | .bool, _, ⟨_, h⟩ => by rw [h]; rfl
  | .int _, _, ⟨_, h, _⟩ => by rw [h]; rfl
  | .sl e, _, ⟨v, xs, h, hs, _, hx⟩ => by
    rw [h]
    simp only [V.belL, Bool.and_true]
    refine hs.lens (belL_all fun x hxm => ?_)
    obtain ⟨ws, h1, rfl⟩ := hx x hxm
    refine Sh.val_bel (Sh.Is.bel h1) fun he hw => ?_
    have := Sh.Is.len h1
    rw [hw] at this
    cases e <;> simp [Sh.agg, Sh.n] at he this
  | .st l, _, h => Sh.IsL.bel (l := l) h
theorem Sh.IsL.bel {n : Nat} : ∀ {l : List Sh} {vs : List V}, Sh.IsL l vs → V.belL n vs = true
  | [], _, h => by rw [show _ = ([] : List V) from h]; rfl
  | s :: l, _, ⟨a, b, h, h1, h2⟩ => by rw [h]; exact belL_app (Sh.Is.bel h1) (Sh.IsL.bel h2)
end
/-- The old memory as it stands. -/
def gIn (W : World) : G := ⟨fun _ => none, fun _ => none, fun b => match W.heap[b]? with
  | some (.cells a _ _) => some (a.toList, a.size)
  | _ => none, fun _ => false, fun _ => false, fun _ => (0, 0), fun _ => default⟩
def Env.inp (P : Program) (W : World) : Env where
  P := P
  B := W.heap.size
  w0 := W
  glob := fun _ => none
  globOk := fun _ _ _ h => by cases h
  γ0 := gIn W
  n0 := 0
  yield := fun _ _ _ _ => False
  yieldMono := fun _ _ _ _ _ _ h => h
theorem Env.inp_sound (P : Program) (W : World) : (Env.inp P W).Sound := fun _ _ _ _ _ _ _ _ _ h => h.elim
theorem Env.inp_rel (P : Program) (W : World) : RelW (Env.inp P W) (gIn W) W AW.empty where
  below := Below.refl _ _
  base := Nat.le_refl _
  con b c sz h := by
    simp only [gIn] at h
    cases hb : W.heap[b]? with
    | none => rw [hb] at h; cases h
    | some o =>
      rw [hb] at h
      cases o <;> try (cases h; done)
      case cells a t fz =>
        cases h
        exact ⟨[], t, fz, by simp, by simp⟩
  own _ _ h := by cases h
  obj _ _ h := by cases h
  bd := ⟨fun _ _ h => (by cases h), fun _ _ h => (by cases h), fun _ h => (by cases h)⟩
  lt _ _ h := by cases h
  inj _ _ _ _ _ h := by cases h
  apart _ _ _ h := by cases h
  glob _ _ h := by cases h
  dfr _ h := by cases h
  dfrB _ h := by cases h
  ext := G.le.refl _ _
  n0 := Nat.le_refl _
theorem calls_inp {P : Program} {f : FuncId} {W : World} {vs : List V} {ws : List Value} (hr : RelL (gIn W) vs ws) (h : ACalls (Env.inp P W) f vs AW.empty fun Y _ => Y = .bool true) :
    Calls P f ws.toArray W fun e w' => e = .returned (.bool true) ∧ Below W.heap.size W w' := by
  refine (h.2 (Env.inp_sound P W) _ _ ws (Env.inp_rel P W) hr).mono ?_
  rintro e w' ⟨v, γ', Y, W', rfl, _, _, h4, h5, rfl⟩
  cases h5
  exact ⟨rfl, h4.below⟩
theorem gIn_con {W : World} {a : Addr} {v : Value} (h : W.cell? a = some v) : ∃ c : List Value, (gIn W).con a.block = some (c, c.length) ∧ a.spot = none ∧ a.off < c.length ∧ (∀ i, W.cell? ⟨a.block, i, none⟩ = c[i]?) := by
  unfold World.cell? at h
  cases hb : W.heap[a.block]? with
  | none => rw [hb] at h; cases h
  | some o =>
    rw [hb] at h
    cases o <;> try (cases h; done)
    case cells c t fz =>
      simp only at h
      split at h
      · cases h
      · rename_i hs
        refine ⟨c.toList, by simp only [gIn, hb]; rfl, by simpa using hs, ?_, fun i => ?_⟩
        · have := Array.getElem?_eq_some_iff.1 h
          simpa using this.1
        · simp [World.cell?, hb]
end Go.AL.S
